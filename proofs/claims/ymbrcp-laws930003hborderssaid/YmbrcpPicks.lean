/-
  Ymbrcp: a slice of picks (structs of three bytes) opened.
-/
import Derived.Test.YmbrcpBase
namespace Go.Proofs.Ymbrcp
open Go.ChangeShapes Go.WideShapes Go.ChangeAt Go.RowKit
set_option linter.unusedVariables false

theorem Ycpm.cells50 : Ycpm.prog.cellsOf 50 = 3 := by kernel_rfl

theorem open_slice_trips {H : Type} {enc : TypeId × Value → H} {P : Program} {w : World} {spare : Nat → Bool} {held : Bool} {t e : TypeId} {f0 f1 f2 : Field} {fuel : Nat} {cs : List Value} {x : DataW H × List MemPlace} (ht : P.underlying t = some (.slice e)) (he : P.underlying e = some (.struct #[f0, f1, f2]))
    (ce : P.cellsOf e = 3) (o0 : f0.offset = 0) (o1 : f1.offset = 1) (o2 : f2.offset = 2) (c0 : P.cellsOf f0.type = 1) (c1 : P.cellsOf f1.type = 1) (c2 : P.cellsOf f2.type = 1)
    (h : DataW.trod enc P w 0 spare held fuel t cs = some x) :
    cs = [.slice none 0 0] ∨ ∃ (a : Addr) (len cap : Nat), cs = [.slice (some a) len cap] ∧ len ≤ cap ∧ cap ≤ maxLen ∧
      ∀ i, i < len → ∃ v0 v1 v2 n y0 y1 y2, w.cell? (a.add (i * 3)) = some v0 ∧ w.cell? (a.add (i * 3 + 1)) = some v1 ∧ w.cell? (a.add (i * 3 + 2)) = some v2 ∧
        DataW.trod enc P w 0 spare held n f0.type [v0] = some y0 ∧ DataW.trod enc P w 0 spare held n f1.type [v1] = some y1 ∧ DataW.trod enc P w 0 spare held n f2.type [v2] = some y2 := by
  rcases Go.Deep.open_slice ht h with ⟨h0, _⟩ | ⟨a, len, cap, m, n, D, Pl, rfl, hb, hl, hm, hmm, rfl, hx⟩
  · exact .inl h0
  refine .inr ⟨a, len, cap, rfl, hl, hm, fun i hi => ?_⟩
  have him : i < m := by rw [hmm]; split <;> omega
  obtain ⟨cs', h1, h2⟩ := hx i him
  rw [ce] at h1
  obtain ⟨_, hlen, hcell⟩ := World.cells?_some h1
  obtain ⟨xs, k, hk, hxy, _, hxl, hf⟩ := DataW.trod_struct he h2
  match xs, hxl, cs', hlen with
  | [y0, y1, y2], _, [v0, v1, v2], _ =>
    have g0 := hf 0 f0 rfl
    have g1 := hf 1 f1 rfl
    have g2 := hf 2 f2 rfl
    simp [o0, o1, o2, c0, c1, c2] at g0 g1 g2
    have e0 := hcell 0 (by omega)
    have e1 := hcell 1 (by omega)
    have e2 := hcell 2 (by omega)
    rw [Go.Deep.add_add] at e0 e1 e2
    exact ⟨v0, v1, v2, k, y0, y1, y2, by simpa using e0, by simpa using e1, by simpa using e2, g0, g1, g2⟩

/-- The picks lie at a. -/
def PicksAt (w : World) (a : Option Addr) (n : Nat) (q : Nat → Int × Int × Int) : Prop :=
  0 < n → ∃ b off, a = some ⟨b, off, none⟩ ∧ ∀ i, i < n → w.cell? ⟨b, off + i * 3, none⟩ = some (.int .u8 (q i).1) ∧ w.cell? ⟨b, off + i * 3 + 1, none⟩ = some (.int .u8 (q i).2.1) ∧ w.cell? ⟨b, off + i * 3 + 2, none⟩ = some (.int .u8 (q i).2.2)

theorem open_picks {H : Type} {enc : TypeId × Value → H} {W : World} {a : Option Addr} {len cap : Nat} {x : DataW H × List MemPlace} {fuel : Nat}
    (h : DataW.trod enc Ycpm.prog W 0 (fun _ => true) true fuel 48 [.slice a len cap] = some x) :
    len ≤ cap ∧ cap ≤ 9223372036854775807 ∧ (a = none → len = 0 ∧ cap = 0) ∧ ∃ q, (∀ i, i < len → (0 ≤ (q i).1 ∧ (q i).1 ≤ 255) ∧ (0 ≤ (q i).2.1 ∧ (q i).2.1 ≤ 255) ∧ (0 ≤ (q i).2.2 ∧ (q i).2.2 ≤ 255)) ∧ PicksAt W a len q := by
  rcases open_slice_trips Ycpm.underlying48 Ycpm.underlying50 Ycpm.cells50 rfl rfl rfl Ycpm.cells5 Ycpm.cells5 Ycpm.cells5 h with hcs | ⟨ad, l, c, hcs, hl, hm, hx⟩
  · simp at hcs
    obtain ⟨rfl, rfl, rfl⟩ := hcs
    exact ⟨Nat.le_refl _, by omega, fun _ => ⟨rfl, rfl⟩, fun _ => (0, 0, 0), fun i hi => absurd hi (Nat.not_lt_zero _), fun hn => absurd hn (Nat.lt_irrefl _)⟩
  · simp at hcs
    obtain ⟨rfl, rfl, rfl⟩ := hcs
    unfold maxLen at hm
    have each : ∀ i, i < len → ∃ q : Int × Int × Int, W.cell? (ad.add (i * 3)) = some (.int .u8 q.1) ∧ W.cell? (ad.add (i * 3 + 1)) = some (.int .u8 q.2.1) ∧ W.cell? (ad.add (i * 3 + 2)) = some (.int .u8 q.2.2) ∧ (0 ≤ q.1 ∧ q.1 ≤ 255) ∧ (0 ≤ q.2.1 ∧ q.2.1 ≤ 255) ∧ (0 ≤ q.2.2 ∧ q.2.2 ≤ 255) := by
      intro i hi
      obtain ⟨v0, v1, v2, n, y0, y1, y2, k0, k1, k2, h0, h1, h2⟩ := hx i hi
      obtain ⟨t0, e0, _, w0⟩ := DataW.trod_int Ycpm.underlying5 h0
      obtain ⟨t1, e1, _, w1⟩ := DataW.trod_int Ycpm.underlying5 h1
      obtain ⟨t2, e2, _, w2⟩ := DataW.trod_int Ycpm.underlying5 h2
      simp at e0 e1 e2
      subst e0 e1 e2
      exact ⟨(t0, t1, t2), k0, k1, k2, u8_of_wf w0, u8_of_wf w1, u8_of_wf w2⟩
    obtain ⟨q, hq⟩ := Go.Deep.choose_lt each
    refine ⟨hl, by omega, fun e => by simp at e, q, fun i hi => (hq i hi).2.2.2, fun hn => ?_⟩
    obtain ⟨b, off, spot⟩ := ad
    have hspot : spot = none := by simpa [Addr.add] using World.cell?_spot (hq 0 (by omega)).1
    subst hspot
    refine ⟨b, off, rfl, fun i hi => ?_⟩
    have := hq i hi
    simp only [add_plain] at this
    exact ⟨this.1, by rw [Nat.add_assoc]; exact this.2.1, by rw [Nat.add_assoc]; exact this.2.2.1⟩
end Go.Proofs.Ymbrcp
