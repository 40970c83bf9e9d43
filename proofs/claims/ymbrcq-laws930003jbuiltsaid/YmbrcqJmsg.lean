/-
  Ymbrcq: messages built of records, and what 'Find' meets in them (plain).
-/
import Derived.Test.YmbrcqFind
import Derived.Test.YmbrcqEnc
namespace Go.Proofs.Ymbrcq
open Go.RowKit
set_option linter.unusedVariables false

theorem head_span' {z : Nat → Int} {n p h L : Nat} (H : Head z p h L) (hn : p + h + L ≤ n) : span z n p = (((p + h : Nat) : Int), ((p + h + L : Nat) : Int), 0) := by
  rcases H with ⟨rfl, h1, h2⟩ | ⟨rfl, h1, h2, h3⟩ | ⟨rfl, h1, h2, h3⟩
  · rw [span_at z n p (by omega), if_pos h1, if_neg (by omega)]
    simp only [Prod.mk.injEq, and_true]
    omega
  · rw [span_at z n p (by omega), if_neg (by omega), if_pos h1, if_neg (by omega), if_neg h2, if_neg (by omega)]
    simp only [Prod.mk.injEq, and_true]
    omega
  · rw [span_at z n p (by omega), if_neg (by omega), if_neg (by omega), if_pos h1, if_neg (by omega), if_neg h2, if_neg (by omega)]
    simp only [Prod.mk.injEq, and_true]
    omega

/-- The records by the index. -/
def rsOf (T : Nat → Int) (V : Nat → List Int) (n : Nat) : List (Int × List Int) := (List.range n).map fun i => (T i, V i)
theorem rsOf_succ (T : Nat → Int) (V : Nat → List Int) (n : Nat) : encs (rsOf T V (n + 1)) = encs (rsOf T V n) ++ enc (T n) (V n) := by
  unfold rsOf
  rw [List.range_succ, List.map_append, encs_app]
  simp [encs]
theorem rsOf_split (T : Nat → Int) (V : Nat → List Int) {n k : Nat} (hk : k < n) : ∃ B, rsOf T V n = rsOf T V k ++ (T k, V k) :: B := by
  induction n with
  | zero => omega
  | succ n ih =>
    have e : rsOf T V (n + 1) = rsOf T V n ++ [(T n, V n)] := by simp [rsOf, List.range_succ]
    by_cases h : k = n
    · subst h
      exact ⟨[], e⟩
    · obtain ⟨B, hB⟩ := ih (by omega)
      exact ⟨B ++ [(T n, V n)], by rw [e, hB]; simp⟩
theorem rsOf_mem {T : Nat → Int} {V : Nat → List Int} {n : Nat} {x : Int × List Int} (h : x ∈ rsOf T V n) : ∃ i, i < n ∧ x = (T i, V i) := by
  obtain ⟨i, hi, rfl⟩ := List.mem_map.1 h
  exact ⟨i, List.mem_range.1 hi, rfl⟩

theorem reachN_encs (t : Int) (C : List Int) : ∀ (rs : List (Int × List Int)) (A : List Int) (k n : Nat), (∀ r ∈ rs, r.2.length ≤ 65535 ∧ r.1 ≠ t) → n = (A ++ (encs rs ++ C)).length → ReachN (zl (A ++ (encs rs ++ C))) n t k A.length → ReachN (zl (A ++ (encs rs ++ C))) n t (k + rs.length) (A.length + (encs rs).length)
  | [], A, k, n, _, hn, h => by simpa [encs] using h
  | r :: rs, A, k, n, hv, hn, h => by
    have e : A ++ (encs (r :: rs) ++ C) = (A ++ enc r.1 r.2) ++ (encs rs ++ C) := by simp [encs]
    have e2 : A ++ (encs (r :: rs) ++ C) = A ++ (enc r.1 r.2 ++ (encs rs ++ C)) := by simp [encs]
    have hlen : n = A.length + (enc r.1 r.2).length + ((encs rs).length + C.length) := by rw [hn, e]; simp; omega
    have hpos : 0 < (enc r.1 r.2).length := by simp [enc]
    have step : ReachN (zl (A ++ (encs (r :: rs) ++ C))) n t (k + 1) (A ++ enc r.1 r.2).length := by
      have hs := span_enc A (encs rs ++ C) r.1 r.2 (hv r (by simp)).1 n (by omega)
      have ht := head_type A (encs rs ++ C) r.1 r.2
      rw [← e2] at hs ht
      refine ⟨A.length, h, by omega, hs.1, by rw [ht]; exact (hv r (by simp)).2, ?_⟩
      rw [hs.2]
      simp
    rw [e] at step ⊢
    have := reachN_encs t C rs (A ++ enc r.1 r.2) (k + 1) n (fun r' h' => hv r' (by simp [h'])) (by rw [← e]; exact hn) step
    have e3 : k + (r :: rs).length = k + 1 + rs.length := by simp; omega
    have e4 : A.length + (encs (r :: rs)).length = (A ++ enc r.1 r.2).length + (encs rs).length := by simp [encs]; omega
    rw [e3, e4]
    exact this

/-- No record of the type: what follows decides the code. -/
theorem find_none (T : Nat → Int) (V : Nat → List Int) (n : Nat) (t : Int) (C : List Int) (code : Int) (hv : ∀ i, i < n → (V i).length ≤ 65535 ∧ T i ≠ t)
    (hC : (C = [] ∧ code = 4) ∨ (C ≠ [] ∧ code ≠ 0 ∧ (span (zl C) C.length 0).2.2 = code)) : FindBad (zl (encs (rsOf T V n) ++ C)) (encs (rsOf T V n) ++ C).length t code := by
  have h := reachN_encs t C (rsOf T V n) [] 0 (encs (rsOf T V n) ++ C).length (fun r hr => by obtain ⟨i, hi, rfl⟩ := rsOf_mem hr; exact hv i hi) (by simp) rfl
  simp only [List.nil_append, List.length_nil, Nat.zero_add] at h
  refine ⟨_, _, h, ?_⟩
  rcases hC with ⟨rfl, rfl⟩ | ⟨h1, h2, h3⟩
  · exact .inl ⟨by simp, rfl⟩
  · refine .inr ⟨?_, (code_tail _ _ _ h3).symm, h2⟩
    have := List.length_pos_iff.2 h1
    simp
    omega

/-- The first record of the type. -/
theorem find_first (T : Nat → Int) (V : Nat → List Int) (n p : Nat) (t : Int) (C : List Int) (hp : p < n) (hv : ∀ i, i < n → (V i).length ≤ 65535) (hno : ∀ i, i < p → T i ≠ t) (hT : T p = t) :
    ∃ s, FindGood (zl (encs (rsOf T V n) ++ C)) (encs (rsOf T V n) ++ C).length t s (V p).length ∧ ∀ j, j < (V p).length → zl (encs (rsOf T V n) ++ C) (s + j) = (V p).getD j 0 := by
  obtain ⟨B, hB⟩ := rsOf_split T V hp
  have e : encs (rsOf T V n) ++ C = encs (rsOf T V p) ++ (enc (T p) (V p) ++ (encs B ++ C)) := by rw [hB, encs_app]; simp [encs]
  have hr := reachN_encs t (enc (T p) (V p) ++ (encs B ++ C)) (rsOf T V p) [] 0 (encs (rsOf T V n) ++ C).length (fun r hr => by obtain ⟨i, hi, rfl⟩ := rsOf_mem hr; exact ⟨hv i (by omega), hno i hi⟩) (by rw [e]; rfl) rfl
  simp only [List.nil_append, List.length_nil, Nat.zero_add] at hr
  rw [← e] at hr
  have hL := hv p hp
  have h1 := head_enc (encs (rsOf T V p)) (encs B ++ C) (T p) (V p) hL
  have h2 := head_type (encs (rsOf T V p)) (encs B ++ C) (T p) (V p)
  have h3 := head_value (encs (rsOf T V p)) (encs B ++ C) (T p) (V p)
  rw [← e] at h1 h2 h3
  have hlen : (encs (rsOf T V p)).length + (1 + (lenF (V p).length).length) + (V p).length ≤ (encs (rsOf T V n) ++ C).length := by
    rw [e]
    simp [enc_len]
    omega
  have hs := head_span' h1 hlen
  refine ⟨(encs (rsOf T V p)).length + (1 + (lenF (V p).length).length), ⟨_, _, hr, ?_, by rw [h2, hT], hs, hlen, hL⟩, h3⟩
  omega
end Go.Proofs.Ymbrcq
