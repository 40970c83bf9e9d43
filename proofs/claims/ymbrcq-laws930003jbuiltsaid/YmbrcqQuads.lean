/-
  Ymbrcq: a slice of structs of four numbers opened.
-/
import Derived.Test.YmbrcqBase
namespace Go.Proofs.Ymbrcq
open Go.ChangeShapes Go.WideShapes Go.ChangeAt Go.RowKit
set_option linter.unusedVariables false

theorem Ycqm.cells39q : Ycqm.prog.cellsOf 39 = 4 := by kernel_rfl
theorem Ycqm.cells5q : Ycqm.prog.cellsOf 5 = 1 := by kernel_rfl

theorem open_slice_quads {H : Type} {enc : TypeId × Value → H} {P : Program} {w : World} {spare : Nat → Bool} {held : Bool} {t e : TypeId} {f0 f1 f2 f3 : Field} {fuel : Nat} {cs : List Value} {x : DataW H × List MemPlace} (ht : P.underlying t = some (.slice e)) (he : P.underlying e = some (.struct #[f0, f1, f2, f3]))
    (ce : P.cellsOf e = 4) (o0 : f0.offset = 0) (o1 : f1.offset = 1) (o2 : f2.offset = 2) (o3 : f3.offset = 3) (c0 : P.cellsOf f0.type = 1) (c1 : P.cellsOf f1.type = 1) (c2 : P.cellsOf f2.type = 1) (c3 : P.cellsOf f3.type = 1)
    (h : DataW.trod enc P w 0 spare held fuel t cs = some x) :
    cs = [.slice none 0 0] ∨ ∃ (a : Addr) (len cap : Nat), cs = [.slice (some a) len cap] ∧ len ≤ cap ∧ cap ≤ maxLen ∧
      ∀ i, i < len → ∃ v0 v1 v2 v3 n y0 y1 y2 y3, w.cell? (a.add (i * 4)) = some v0 ∧ w.cell? (a.add (i * 4 + 1)) = some v1 ∧ w.cell? (a.add (i * 4 + 2)) = some v2 ∧ w.cell? (a.add (i * 4 + 3)) = some v3 ∧
        DataW.trod enc P w 0 spare held n f0.type [v0] = some y0 ∧ DataW.trod enc P w 0 spare held n f1.type [v1] = some y1 ∧ DataW.trod enc P w 0 spare held n f2.type [v2] = some y2 ∧ DataW.trod enc P w 0 spare held n f3.type [v3] = some y3 := by
  rcases Go.Deep.open_slice ht h with ⟨h0, _⟩ | ⟨a, len, cap, m, n, D, Pl, rfl, hb, hl, hm, hmm, rfl, hx⟩
  · exact .inl h0
  refine .inr ⟨a, len, cap, rfl, hl, hm, fun i hi => ?_⟩
  have him : i < m := by rw [hmm]; split <;> omega
  obtain ⟨cs', h1, h2⟩ := hx i him
  rw [ce] at h1
  obtain ⟨_, hlen, hcell⟩ := World.cells?_some h1
  obtain ⟨xs, k, hk, hxy, _, hxl, hf⟩ := DataW.trod_struct he h2
  match xs, hxl, cs', hlen with
  | [y0, y1, y2, y3], _, [v0, v1, v2, v3], _ =>
    have g0 := hf 0 f0 rfl
    have g1 := hf 1 f1 rfl
    have g2 := hf 2 f2 rfl
    have g3 := hf 3 f3 rfl
    simp [o0, o1, o2, o3, c0, c1, c2, c3] at g0 g1 g2 g3
    have e0 := hcell 0 (by omega)
    have e1 := hcell 1 (by omega)
    have e2 := hcell 2 (by omega)
    have e3 := hcell 3 (by omega)
    rw [Go.Deep.add_add] at e0 e1 e2 e3
    exact ⟨v0, v1, v2, v3, k, y0, y1, y2, y3, by simpa using e0, by simpa using e1, by simpa using e2, by simpa using e3, g0, g1, g2, g3⟩

/-- The four numbers of each. -/
structure Quads where
  T : Nat → Int
  F : Nat → Int
  N : Nat → Int
  X : Nat → Int

/-- They lie at a. -/
def QuadsAt (w : World) (a : Option Addr) (n : Nat) (q : Quads) : Prop :=
  0 < n → ∃ b off, a = some ⟨b, off, none⟩ ∧ ∀ i, i < n → w.cell? ⟨b, off + i * 4, none⟩ = some (.int .u8 (q.T i)) ∧ w.cell? ⟨b, off + i * 4 + 1, none⟩ = some (.int .u8 (q.F i)) ∧ w.cell? ⟨b, off + i * 4 + 2, none⟩ = some (.int .u8 (q.N i)) ∧ w.cell? ⟨b, off + i * 4 + 3, none⟩ = some (.int .u8 (q.X i))

def QuadsOk (n : Nat) (q : Quads) : Prop := ∀ i, i < n → (0 ≤ q.T i ∧ q.T i ≤ 255) ∧ (0 ≤ q.F i ∧ q.F i ≤ 255) ∧ (0 ≤ q.N i ∧ q.N i ≤ 255) ∧ (0 ≤ q.X i ∧ q.X i ≤ 255)

theorem open_jrecs {H : Type} {enc : TypeId × Value → H} {W : World} {a : Option Addr} {len cap : Nat} {x : DataW H × List MemPlace} {fuel : Nat}
    (h : DataW.trod enc Ycqm.prog W 0 (fun _ => true) true fuel 37 [.slice a len cap] = some x) :
    len ≤ cap ∧ cap ≤ 9223372036854775807 ∧ (a = none → len = 0 ∧ cap = 0) ∧ ∃ q, QuadsOk len q ∧ QuadsAt W a len q := by
  rcases open_slice_quads Ycqm.underlying37 Ycqm.underlying39 Ycqm.cells39q rfl rfl rfl rfl Ycqm.cells5 Ycqm.cells5 Ycqm.cells5q Ycqm.cells5 h with hcs | ⟨ad, l, c, hcs, hl, hm, hx⟩
  · simp at hcs
    obtain ⟨rfl, rfl, rfl⟩ := hcs
    exact ⟨Nat.le_refl _, by omega, fun _ => ⟨rfl, rfl⟩, ⟨fun _ => 0, fun _ => 0, fun _ => 0, fun _ => 0⟩, fun i hi => absurd hi (Nat.not_lt_zero _), fun hn => absurd hn (Nat.lt_irrefl _)⟩
  · simp at hcs
    obtain ⟨rfl, rfl, rfl⟩ := hcs
    unfold maxLen at hm
    have each : ∀ i, i < len → ∃ q : Int × Int × Int × Int, W.cell? (ad.add (i * 4)) = some (.int .u8 q.1) ∧ W.cell? (ad.add (i * 4 + 1)) = some (.int .u8 q.2.1) ∧ W.cell? (ad.add (i * 4 + 2)) = some (.int .u8 q.2.2.1) ∧ W.cell? (ad.add (i * 4 + 3)) = some (.int .u8 q.2.2.2) ∧ (0 ≤ q.1 ∧ q.1 ≤ 255) ∧ (0 ≤ q.2.1 ∧ q.2.1 ≤ 255) ∧ (0 ≤ q.2.2.1 ∧ q.2.2.1 ≤ 255) ∧ (0 ≤ q.2.2.2 ∧ q.2.2.2 ≤ 255) := by
      intro i hi
      obtain ⟨v0, v1, v2, v3, n, y0, y1, y2, y3, k0, k1, k2, k3, h0, h1, h2, h3⟩ := hx i hi
      obtain ⟨t0, e0, _, w0⟩ := DataW.trod_int Ycqm.underlying5 h0
      obtain ⟨t1, e1, _, w1⟩ := DataW.trod_int Ycqm.underlying5 h1
      obtain ⟨t2, e2, _, w2⟩ := DataW.trod_int Ycqm.underlying5 h2
      obtain ⟨t3, e3, _, w3⟩ := DataW.trod_int Ycqm.underlying5 h3
      simp at e0 e1 e2 e3
      subst e0 e1 e2 e3
      exact ⟨(t0, t1, t2, t3), k0, k1, k2, k3, u8_of_wf w0, u8_of_wf w1, bounds_u8 w2, u8_of_wf w3⟩
    obtain ⟨q, hq⟩ := Go.Deep.choose_lt each
    refine ⟨hl, by omega, fun e => by simp at e, ⟨fun i => (q i).1, fun i => (q i).2.1, fun i => (q i).2.2.1, fun i => (q i).2.2.2⟩, fun i hi => (hq i hi).2.2.2.2, fun hn => ?_⟩
    obtain ⟨b, off, spot⟩ := ad
    have hspot : spot = none := by simpa [Addr.add] using World.cell?_spot (hq 0 (by omega)).1
    subst hspot
    refine ⟨b, off, rfl, fun i hi => ?_⟩
    have := hq i hi
    simp only [add_plain] at this
    exact ⟨this.1, by rw [Nat.add_assoc]; exact this.2.1, by rw [Nat.add_assoc]; exact this.2.2.1, by rw [Nat.add_assoc]; exact this.2.2.2.1⟩
end Go.Proofs.Ymbrcq
