/-
  Ymbrcq: messages as lists of bytes: a record's encoding, and what 'Span' and 'Check' meet in a message that is built of such.
-/
import Derived.Test.YmbrcqCheck
namespace Go.Proofs.Ymbrcq
set_option linter.unusedVariables false

/-- A list of bytes by the index. -/
def zl (l : List Int) : Nat → Int := fun i => l.getD i 0

/-- The length field for n (up to 65535). -/
def lenF (n : Nat) : List Int := if n < 128 then [(n : Int)] else if n < 256 then [129, (n : Int)] else [130, (n : Int) / 256, (n : Int) % 256]
/-- The encoding of a record. -/
def enc (t : Int) (v : List Int) : List Int := t :: (lenF v.length ++ v)
/-- The encoding of several. -/
def encs : List (Int × List Int) → List Int
  | [] => []
  | r :: rs => enc r.1 r.2 ++ encs rs

def AllB (l : List Int) : Prop := ∀ x ∈ l, 0 ≤ x ∧ x ≤ 255

theorem zl_byte {l : List Int} (h : AllB l) : IsByte (zl l) := by
  intro i
  unfold zl
  by_cases hi : i < l.length
  · have e : l.getD i 0 = l[i] := by simp [List.getD, hi]
    rw [e]
    exact h _ (List.getElem_mem hi)
  · have e : l.getD i 0 = 0 := by simp [List.getD, List.getElem?_eq_none (show l.length ≤ i by omega)]
    rw [e]
    omega
theorem zl_left {A B : List Int} {i : Nat} (h : i < A.length) : zl (A ++ B) i = zl A i := by
  simp [zl, List.getD, List.getElem?_append_left h]
theorem zl_right (A B : List Int) (i : Nat) : zl (A ++ B) (A.length + i) = zl B i := by
  simp [zl, List.getD, List.getElem?_append_right]
theorem zl_at (A B : List Int) : zl (A ++ B) A.length = zl B 0 := by simpa using zl_right A B 0
theorem AllB.app {A B : List Int} (h : AllB A) (g : AllB B) : AllB (A ++ B) := by
  intro x hx
  rcases List.mem_append.1 hx with h1 | h1
  · exact h x h1
  · exact g x h1
theorem lenF_len (n : Nat) : (lenF n).length = if n < 128 then 1 else if n < 256 then 2 else 3 := by
  unfold lenF
  repeat' split
  all_goals rfl
theorem lenF_bytes (n : Nat) (h : n ≤ 65535) : AllB (lenF n) := by
  unfold lenF
  intro x hx
  split at hx
  · simp at hx; omega
  · split at hx
    · simp at hx; omega
    · simp at hx; omega
theorem enc_bytes {t : Int} {v : List Int} (ht : 0 ≤ t ∧ t ≤ 255) (hv : AllB v) (hl : v.length ≤ 65535) : AllB (enc t v) := by
  intro x hx
  unfold enc at hx
  rcases List.mem_cons.1 hx with rfl | h
  · exact ht
  · exact (lenF_bytes _ hl).app hv x h
theorem enc_len (t : Int) (v : List Int) : (enc t v).length = 1 + (lenF v.length).length + v.length := by simp [enc]; omega
theorem enc_wire (t : Int) (v : List Int) : (enc t v).length = if v.length < 128 then v.length + 2 else if v.length < 256 then v.length + 3 else v.length + 4 := by
  rw [enc_len, lenF_len]
  repeat' split
  all_goals omega

/-- What stands at the place where a record has been laid. -/
theorem head_enc (A C : List Int) (t : Int) (v : List Int) (hl : v.length ≤ 65535) : Head (zl (A ++ (enc t v ++ C))) A.length (1 + (lenF v.length).length) v.length := by
  have z1 : zl (A ++ (enc t v ++ C)) (A.length + 1) = zl (lenF v.length ++ v ++ C) 0 := by
    rw [zl_right]
    simp [enc, zl, List.getD]
  have z2 : zl (A ++ (enc t v ++ C)) (A.length + 2) = zl (lenF v.length ++ v ++ C) 1 := by
    rw [zl_right]
    simp [enc, zl, List.getD]
  have z3 : zl (A ++ (enc t v ++ C)) (A.length + 3) = zl (lenF v.length ++ v ++ C) 2 := by
    rw [zl_right]
    simp [enc, zl, List.getD]
  unfold Head
  rw [z1, z2, z3]
  unfold lenF
  by_cases h1 : v.length < 128
  · simp only [h1, if_true]
    refine .inl ⟨rfl, ?_, ?_⟩
    · simp [zl, List.getD]; omega
    · simp [zl, List.getD]
  by_cases h2 : v.length < 256
  · simp only [h1, h2, if_true, if_false]
    refine .inr (.inl ⟨rfl, ?_, ?_, ?_⟩)
    · simp [zl, List.getD]
    · simp [zl, List.getD]; omega
    · simp [zl, List.getD]
  · simp only [h1, h2, if_false]
    refine .inr (.inr ⟨rfl, ?_, ?_, ?_⟩)
    · simp [zl, List.getD]
    · simp [zl, List.getD]; omega
    · simp [zl, List.getD]; omega
theorem head_type (A C : List Int) (t : Int) (v : List Int) : zl (A ++ (enc t v ++ C)) A.length = t := by
  rw [zl_at]
  simp [enc, zl, List.getD]
/-- The value's bytes behind the head. -/
theorem head_value (A C : List Int) (t : Int) (v : List Int) (i : Nat) (hi : i < v.length) : zl (A ++ (enc t v ++ C)) (A.length + (1 + (lenF v.length).length) + i) = v.getD i 0 := by
  have e : enc t v ++ C = (t :: lenF v.length) ++ (v ++ C) := by simp [enc]
  rw [Nat.add_assoc, zl_right, e, show 1 + (lenF v.length).length + i = (t :: lenF v.length).length + i by simp; omega, zl_right, zl_left hi]
  rfl

theorem span_enc (A C : List Int) (t : Int) (v : List Int) (hl : v.length ≤ 65535) (n : Nat) (hn : A.length + (enc t v).length ≤ n) :
    (span (zl (A ++ (enc t v ++ C))) n A.length).2.2 = 0 ∧ (span (zl (A ++ (enc t v ++ C))) n A.length).2.1 = ((A.length + (enc t v).length : Nat) : Int) := by
  have h := (head_enc A C t v hl).whole (n := n) (by rw [enc_len] at hn; omega)
  refine ⟨h.1, ?_⟩
  rw [h.2, enc_len]
  congr 1
  omega

theorem span_from (z : Nat → Int) (n p : Nat) (h : p ≤ n) :
    span z n p = ((span (fun i => z (i + p)) (n - p) 0).1 + p, (span (fun i => z (i + p)) (n - p) 0).2.1 + p, (span (fun i => z (i + p)) (n - p) 0).2.2) := by
  by_cases h0 : n ≤ p
  · rw [span_out z n p (by omega), span_out _ (n - p) 0 (by omega)]
    simp
  by_cases h1 : n ≤ p + 1
  · have e := span_end (fun i => z (i + p)) (n - p) 0 (by omega) (by omega)
    rw [span_end z n p (by omega) h1]
    simp only [Int.natCast_zero] at e
    rw [e]
    simp
  · have e := span_at (fun i => z (i + p)) (n - p) 0 (by omega)
    simp only [Int.natCast_zero, Nat.zero_add, Int.zero_add] at e
    rw [span_at z n p (by omega), e]
    have a1 : 1 + p = p + 1 := by omega
    have a2 : 2 + p = p + 2 := by omega
    have a3 : 3 + p = p + 3 := by omega
    rw [a1, a2, a3]
    have b1 : ((n - p : Nat) : Int) = (n : Int) - (p : Int) := by omega
    have b2 : (n - p < 3) = (n < p + 3) := by apply propext; omega
    have b3 : (n - p < 4) = (n < p + 4) := by apply propext; omega
    have d1 : ((n : Int) - (p : Int) < 2 + z (p + 1)) = ((n : Int) < (p : Int) + 2 + z (p + 1)) := by apply propext; omega
    have d2 : ((n : Int) - (p : Int) < 3 + z (p + 2)) = ((n : Int) < (p : Int) + 3 + z (p + 2)) := by apply propext; omega
    have d3 : ((n : Int) - (p : Int) < 4 + (z (p + 2) * 256 + z (p + 3))) = ((n : Int) < (p : Int) + 4 + (z (p + 2) * 256 + z (p + 3))) := by apply propext; omega
    simp only [b1, b2, b3, d1, d2, d3]
    repeat' split
    all_goals simp
    all_goals omega

/-- What 'Span' says behind a message hangs on what follows alone. -/
theorem code_tail (A C : List Int) (code : Int) (h : (span (zl C) C.length 0).2.2 = code) : (span (zl (A ++ C)) (A ++ C).length (A.length : Nat)).2.2 = code := by
  rw [span_from _ _ _ (by simp)]
  have e1 : (fun i => zl (A ++ C) (i + A.length)) = zl C := by
    funext i
    rw [Nat.add_comm, zl_right]
  have e2 : (A ++ C).length - A.length = C.length := by simp
  rw [e1, e2]
  exact h

/-- Records laid one behind the other are whole records to 'Check'. -/
theorem reach_encs (C : List Int) : ∀ (rs : List (Int × List Int)) (A : List Int) (k n : Nat), (∀ r ∈ rs, r.2.length ≤ 65535) → n = (A ++ (encs rs ++ C)).length → Reach (zl (A ++ (encs rs ++ C))) n k A.length → Reach (zl (A ++ (encs rs ++ C))) n (k + rs.length) (A.length + (encs rs).length)
  | [], A, k, n, _, hn, h => by simpa [encs] using h
  | r :: rs, A, k, n, hv, hn, h => by
    have e : A ++ (encs (r :: rs) ++ C) = (A ++ enc r.1 r.2) ++ (encs rs ++ C) := by simp [encs]
    have e2 : A ++ (encs (r :: rs) ++ C) = A ++ (enc r.1 r.2 ++ (encs rs ++ C)) := by simp [encs]
    have hlen : n = A.length + (enc r.1 r.2).length + ((encs rs).length + C.length) := by rw [hn, e]; simp; omega
    have hpos : 0 < (enc r.1 r.2).length := by simp [enc]
    have step : Reach (zl (A ++ (encs (r :: rs) ++ C))) n (k + 1) (A ++ enc r.1 r.2).length := by
      have hs := span_enc A (encs rs ++ C) r.1 r.2 (hv r (by simp)) n (by omega)
      rw [← e2] at hs
      refine ⟨A.length, h, by omega, hs.1, ?_⟩
      rw [hs.2]
      simp
    rw [e] at step ⊢
    have := reach_encs C rs (A ++ enc r.1 r.2) (k + 1) n (fun r' h' => hv r' (by simp [h'])) (by rw [← e]; exact hn) step
    have e3 : k + (r :: rs).length = k + 1 + rs.length := by simp; omega
    have e4 : A.length + (encs (r :: rs)).length = (A ++ enc r.1 r.2).length + (encs rs).length := by simp [encs]; omega
    rw [e3, e4]
    exact this

theorem encs_app (rs qs : List (Int × List Int)) : encs (rs ++ qs) = encs rs ++ encs qs := by
  induction rs with
  | nil => rfl
  | cons r rs ih => simp [encs, ih]
theorem encs_bytes {rs : List (Int × List Int)} (h : ∀ r ∈ rs, (0 ≤ r.1 ∧ r.1 ≤ 255) ∧ AllB r.2 ∧ r.2.length ≤ 65535) : AllB (encs rs) := by
  induction rs with
  | nil => intro x hx; simp [encs] at hx
  | cons r rs ih =>
    have h1 := h r (by simp)
    exact (enc_bytes h1.1 h1.2.1 h1.2.2).app (ih fun r' h' => h r' (by simp [h']))
/-- The whole message: all records, then nothing, or a fault. -/
theorem check_encs (rs : List (Int × List Int)) (C : List Int) (code : Int) (hv : ∀ r ∈ rs, r.2.length ≤ 65535)
    (hc : (code = 0 ∧ C = []) ∨ (C ≠ [] ∧ code ≠ 0 ∧ (span (zl (encs rs ++ C)) (encs rs ++ C).length ((encs rs).length : Nat)).2.2 = code)) :
    IsCheck (zl (encs rs ++ C)) (encs rs ++ C).length rs.length (encs rs).length code := by
  have h := reach_encs C rs [] 0 (encs rs ++ C).length hv (by simp) rfl
  simp only [List.nil_append, List.length_nil, Nat.zero_add] at h
  refine ⟨h, ?_⟩
  rcases hc with ⟨rfl, rfl⟩ | ⟨h1, h2, h3⟩
  · exact .inl ⟨rfl, by simp⟩
  · refine .inr ⟨?_, h3.symm, h2⟩
    have := List.length_pos_iff.2 h1
    simp
    omega
end Go.Proofs.Ymbrcq
