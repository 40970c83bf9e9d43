/-
  Ymbrcp: what sorting a sorted row brings (plain).
-/
import Derived.Test.YmbrcpRank
namespace Go.Proofs.Ymbrcp
open Go.RowKit
set_option linter.unusedVariables false

/-- The first k records of the row: the types as t says, the values of one byte, each in memory of its own. -/
def Ones (f : Nat → Value) (t : Nat → Int) (k : Nat) : Prop := ∀ i, i < k → f (i * 2) = .int .u8 (t i) ∧ ∃ b, f (i * 2 + 1) = .slice (some ⟨b, 0, none⟩) 1 1

theorem Ones.put {f : Nat → Value} {t : Nat → Int} {k b : Nat} {T S : Value} (h : Ones f t k) (hT : T = .int .u8 (t k)) (hS : S = .slice (some ⟨b, 0, none⟩) 1 1) :
    Ones (putR k T S f) t (k + 1) := by
  intro i hi
  by_cases e : i = k
  · subst e
    refine ⟨?_, b, ?_⟩
    · unfold putR; rw [if_neg (by omega), if_pos rfl, hT]
    · unfold putR; rw [if_pos rfl, hS]
  · obtain ⟨h1, b', h2⟩ := h i (by omega)
    refine ⟨?_, b', ?_⟩
    · unfold putR; rw [if_neg (by omega), if_neg (by omega), h1]
    · unfold putR; rw [if_neg (by omega), if_neg (by omega), h2]

theorem Ones.recs {w : World} {g n : Nat} {f : Nat → Value} {t : Nat → Int} (h : Ones f t n) (ht : ∀ i, i < n → 0 ≤ t i ∧ t i ≤ 255) (hrow : w.rowIs g 27 (n * 2) f) :
    ∃ r : Recs, RecsOk n r ∧ RecsAt w (some ⟨g, 0, none⟩) n r ∧ ∀ i, i < n → r.L i = 1 ∧ r.C i = 1 ∧ ∃ b, r.A i = some ⟨b, 0, none⟩ := by
  have hA : ∃ B : Nat → Nat, ∀ i, i < n → f (i * 2 + 1) = .slice (some ⟨B i, 0, none⟩) 1 1 := by
    refine ⟨fun i => match f (i * 2 + 1) with | .slice (some a) _ _ => a.block | _ => 0, fun i hi => ?_⟩
    obtain ⟨_, b, hb⟩ := h i hi
    simp [hb]
  obtain ⟨B, hB⟩ := hA
  refine ⟨⟨t, fun i => some ⟨B i, 0, none⟩, fun _ => 1, fun _ => 1, fun _ _ => 0⟩, ⟨ht, fun _ _ => Nat.le_refl _, fun _ _ => by show 1 ≤ _; omega, fun _ _ => by simp, fun _ _ e => by simp at e⟩, fun _ => ⟨g, 0, rfl, fun i hi => ?_, fun i hi => ?_⟩, fun i hi => ⟨rfl, rfl, B i, rfl⟩⟩
  · rw [Nat.zero_add, hrow.cell (by omega), (h i hi).1]
  · rw [Nat.zero_add, hrow.cell (by omega), hB i hi]

/-- The records in the order of the list. -/
def Recs.via (r : Recs) (l : List Nat) : Recs := ⟨fun p => r.T (l.getD p 0), fun p => r.A (l.getD p 0), fun p => r.L (l.getD p 0), fun p => r.C (l.getD p 0), fun p => r.Z (l.getD p 0)⟩

theorem SortedTo.get {f : Nat → Value} {r : Recs} {n : Nat} {l : List Nat} (h : SortedTo f r n l) {p : Nat} (hp : p < n) : l[p]? = some (l.getD p 0) ∧ l.getD p 0 < n := by
  have hl : l.length = n := by simpa using h.perm.length_eq
  have h1 : l[p]? = some (l.getD p 0) := by rw [List.getD_eq_getElem?_getD, List.getElem?_eq_getElem (by omega)]; rfl
  exact ⟨h1, List.mem_range.1 (h.perm.mem_iff.1 (List.mem_of_getElem? h1))⟩

theorem SortedTo.recAt {f : Nat → Value} {r : Recs} {n : Nat} {l : List Nat} (h : SortedTo f r n l) {p : Nat} (hp : p < n) : recAt f (r.via l) p p := h.at' p _ (h.get hp).1

theorem SortedTo.viaOk {f : Nat → Value} {r : Recs} {n : Nat} {l : List Nat} (h : SortedTo f r n l) (hok : RecsOk n r) : RecsOk n (r.via l) :=
  ⟨fun i hi => hok.hT _ (h.get hi).2, fun i hi => hok.hL _ (h.get hi).2, fun i hi => hok.hC _ (h.get hi).2, fun i => hok.hZ _, fun i hi => hok.hN _ (h.get hi).2⟩

theorem SortedTo.viaAt {w : World} {g : Nat} {f : Nat → Value} {r : Recs} {n : Nat} {l : List Nat} (h : SortedTo f r n l) (hrow : w.rowIs g 27 (n * 2) f) : RecsAt w (some ⟨g, 0, none⟩) n (r.via l) :=
  fun _ => ⟨g, 0, rfl, fun i hi => by rw [Nat.zero_add, hrow.cell (by omega), (h.recAt hi).1], fun i hi => by rw [Nat.zero_add, hrow.cell (by omega), (h.recAt hi).2]⟩

theorem SortedTo.asc {f : Nat → Value} {r : Recs} {n : Nat} {l : List Nat} (h : SortedTo f r n l) {p q : Nat} (hpq : p < q) (hq : q < n) : (r.via l).T p ≤ (r.via l).T q := by
  have hl : l.length = n := by simpa using h.perm.length_eq
  have := List.pairwise_iff_getElem.1 h.ord p q (by omega) (by omega) hpq
  have e1 : l.getD p 0 = l[p]'(by omega) := by rw [List.getD_eq_getElem?_getD, List.getElem?_eq_getElem (by omega)]; rfl
  have e2 : l.getD q 0 = l[q]'(by omega) := by rw [List.getD_eq_getElem?_getD, List.getElem?_eq_getElem (by omega)]; rfl
  show r.T (l.getD p 0) ≤ r.T (l.getD q 0)
  rw [e1, e2]
  unfold lexT at this
  omega

/-- A row that stands sorted comes out of the sort as it went in. -/
theorem SortedTo.still {f : Nat → Value} {r : Recs} {n : Nat} {l : List Nat} (h : SortedTo f r n l) (hasc : ∀ p q, p < q → q < n → r.T p ≤ r.T q) {p : Nat} (hp : p < n) : Ymbrcp.recAt f r p p := by
  have hr : (List.range n).Pairwise (lexT r.T) := by
    refine List.pairwise_iff_getElem.2 fun i j hi hj hij => ?_
    simp only [List.length_range] at hi hj
    simp only [List.getElem_range]
    have := hasc i j hij hj
    unfold lexT
    omega
  have h1 := rk_place h.perm h.ord hp
  have h2 := rk_place (List.Perm.refl (List.range n)) hr hp
  obtain ⟨hlt, h3⟩ := List.getElem?_eq_some_iff.1 h2
  simp only [List.getElem_range] at h3
  rw [h3] at h1
  exact h.at' p p h1
end Go.Proofs.Ymbrcp
