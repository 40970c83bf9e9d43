/-
  Ymbrco: a slice of byte slices opened.
-/
import Derived.Test.YmbrcoBase
namespace Go.Proofs.Ymbrco
open Go.ChangeShapes Go.WideShapes Go.ChangeAt Go.RowKit
set_option linter.unusedVariables false

/-- The slices lie at a: each takes a cell. -/
def SlicesAt (w : World) (a : Option Addr) (n : Nat) (r : Recs) : Prop :=
  0 < n → ∃ b off, a = some ⟨b, off, none⟩ ∧ ∀ i, i < n → w.cell? ⟨b, off + i, none⟩ = some (.slice (r.A i) (r.L i) (r.C i))

theorem open_vals {H : Type} {enc : TypeId × Value → H} {W : World} {a : Option Addr} {len cap : Nat} {x : DataW H × List MemPlace} {fuel : Nat}
    (h : DataW.trod enc Ycom.prog W 0 (fun _ => true) true fuel 53 [.slice a len cap] = some x) :
    len ≤ cap ∧ cap ≤ 9223372036854775807 ∧ (a = none → len = 0 ∧ cap = 0) ∧ ∃ r, RecsOk len r ∧ SlicesAt W a len r ∧ ValsAt W len r := by
  rcases Go.Deep.open_slice Ycom.underlying53 h with ⟨hcs, _⟩ | ⟨ad, l, c, m, n, D, Pl, hcs, hb, hl, hm, hmm, rfl, hx⟩
  · simp at hcs
    obtain ⟨rfl, rfl, rfl⟩ := hcs
    exact ⟨Nat.le_refl _, by omega, fun _ => ⟨rfl, rfl⟩, ⟨fun _ => 0, fun _ => none, fun _ => 0, fun _ => 0, fun _ _ => 0⟩, ⟨fun _ h => absurd h (Nat.not_lt_zero _), fun _ h => absurd h (Nat.not_lt_zero _), fun _ h => absurd h (Nat.not_lt_zero _), fun _ _ => by simp, fun _ h => absurd h (Nat.not_lt_zero _)⟩, fun hn => absurd hn (Nat.lt_irrefl _), fun _ h => absurd h (Nat.not_lt_zero _)⟩
  · simp at hcs
    obtain ⟨rfl, rfl, rfl⟩ := hcs
    unfold maxLen at hm
    have each : ∀ i, i < len → ∃ q : (Option Addr × Nat × Nat) × (Nat → Int), W.cell? (ad.add i) = some (.slice q.1.1 q.1.2.1 q.1.2.2) ∧ q.1.2.1 ≤ q.1.2.2 ∧ q.1.2.2 ≤ 9223372036854775807 ∧ (q.1.1 = none → q.1.2.1 = 0 ∧ q.1.2.2 = 0) ∧ IsByte q.2 ∧ BytesAt W q.1.1 q.1.2.1 q.2 := by
      intro i hi
      have him : i < m := by rw [hmm]; split <;> omega
      obtain ⟨cs', h1, h2⟩ := hx i him
      rw [Ycom.cells22] at h1
      obtain ⟨_, hlen, hcell⟩ := World.cells?_some h1
      match cs', hlen with
      | [v], _ =>
        have e0 := hcell 0 (by omega)
        rw [Go.Deep.add_add] at e0
        simp at e0
        have hsl : ∃ a l c, v = .slice a l c := by
          rcases DataW.trod_slice Ycom.underlying22 h2 with ⟨e, _⟩ | ⟨a, l, c, _, _, _, _, e, _⟩
          · exact ⟨none, 0, 0, by simpa using e⟩
          · exact ⟨some a, l, c, by simpa using e⟩
        obtain ⟨a1, l1, c1, rfl⟩ := hsl
        obtain ⟨g1, g2, g3, z, hz, hb⟩ := open_bytes h2
        exact ⟨((a1, l1, c1), z), e0, g1, g2, g3, hz, hb⟩
    have : Inhabited ((Option Addr × Nat × Nat) × (Nat → Int)) := ⟨((none, 0, 0), fun _ => 0)⟩
    obtain ⟨q, hq⟩ := Go.Deep.choose_lt each
    refine ⟨hl, by omega, fun e => by simp at e, ⟨fun _ => 0, fun i => (q i).1.1, fun i => (q i).1.2.1, fun i => (q i).1.2.2, fun i => if i < len then (q i).2 else fun _ => 0⟩, ⟨fun i hi => by simp, fun i hi => (hq i hi).2.1, fun i hi => (hq i hi).2.2.1, fun i => ?_, fun i hi => (hq i hi).2.2.2.1⟩, fun hn => ?_, fun i hi => ?_⟩
    · show IsByte (if i < len then (q i).2 else fun _ => 0)
      split
      · exact (hq i (by assumption)).2.2.2.2.1
      · intro _; simp
    · obtain ⟨b, off, spot⟩ := ad
      have hspot : spot = none := by simpa [Addr.add] using World.cell?_spot (hq 0 (by omega)).1
      subst hspot
      refine ⟨b, off, rfl, fun i hi => ?_⟩
      have := (hq i hi).1
      rw [add_plain] at this
      exact this
    · show BytesAt W (q i).1.1 (q i).1.2.1 (if i < len then (q i).2 else fun _ => 0)
      rw [if_pos hi]
      exact (hq i hi).2.2.2.2.2
end Go.Proofs.Ymbrco
