/-
  Ymbrco: 'Decode' of a message that was built of records.
-/
import Derived.Test.YmbrcoDecode
import Derived.Test.YmbrcoEnc
namespace Go.Proofs.Ymbrco
open Go.RowKit
set_option linter.unusedVariables false

theorem head_span' {z : Nat → Int} {n p h L : Nat} (H : Head z p h L) (hn : p + h + L ≤ n) : span z n p = (((p + h : Nat) : Int), ((p + h + L : Nat) : Int), 0) := by
  rcases H with ⟨rfl, h1, h2⟩ | ⟨rfl, h1, h2, h3⟩ | ⟨rfl, h1, h2, h3⟩
  · rw [span_at z n p (by omega), if_pos h1, if_neg (by omega)]
    simp only [Prod.mk.injEq, and_true]
    omega
  · rw [span_at z n p (by omega), if_neg (by omega), if_pos h1, if_neg (by omega), if_neg h2, if_neg (by omega)]
    simp only [Prod.mk.injEq, and_true]
    omega
  · rw [span_at z n p (by omega), if_neg (by omega), if_neg (by omega), if_pos h1, if_neg (by omega), if_neg h2, if_neg (by omega)]
    simp only [Prod.mk.injEq, and_true]
    omega

/-- What the k-th record of a built message is. -/
theorem isRec_encs (A B : List (Int × List Int)) (r : Int × List Int) (hv : ∀ x ∈ A ++ r :: B, x.2.length ≤ 65535) {p s m : Nat}
    (h : IsRec (zl (encs (A ++ r :: B))) (encs (A ++ r :: B)).length A.length p s m) :
    zl (encs (A ++ r :: B)) p = r.1 ∧ m = r.2.length ∧ ∀ j, j < m → zl (encs (A ++ r :: B)) (s + j) = r.2.getD j 0 := by
  have e : encs (A ++ r :: B) = encs A ++ (enc r.1 r.2 ++ encs B) := by rw [encs_app]; rfl
  have hr := reach_encs (enc r.1 r.2 ++ encs B) A [] 0 (encs (A ++ r :: B)).length (fun x hx => hv x (by simp [hx])) (by rw [e]; rfl) rfl
  simp only [List.nil_append, List.length_nil, Nat.zero_add] at hr
  rw [← e] at hr
  have hp := h.reach.uniq hr
  subst hp
  have hL : r.2.length ≤ 65535 := hv r (by simp)
  have h1 := head_enc (encs A) (encs B) r.1 r.2 hL
  have h2 := head_type (encs A) (encs B) r.1 r.2
  have h3 := head_value (encs A) (encs B) r.1 r.2
  rw [← e] at h1 h2 h3
  have hlen : (encs A).length + (1 + (lenF r.2.length).length) + r.2.length ≤ (encs (A ++ r :: B)).length := by
    rw [e]
    simp [enc_len]
    omega
  have hs := head_span' h1 hlen
  have := h.span.symm.trans hs
  simp only [Prod.mk.injEq] at this
  have hsv : s = (encs A).length + (1 + (lenF r.2.length).length) := by omega
  have hm : m = r.2.length := by omega
  refine ⟨h2, hm, fun j hj => ?_⟩
  rw [hsv, h3 j (by omega)]

/-- The records by the index. -/
def rsOf (T : Nat → Int) (V : Nat → List Int) (n : Nat) : List (Int × List Int) := (List.range n).map fun i => (T i, V i)
theorem rsOf_len (T : Nat → Int) (V : Nat → List Int) (n : Nat) : (rsOf T V n).length = n := by simp [rsOf]
theorem rsOf_succ (T : Nat → Int) (V : Nat → List Int) (n : Nat) : encs (rsOf T V (n + 1)) = encs (rsOf T V n) ++ enc (T n) (V n) := by
  unfold rsOf
  rw [List.range_succ, List.map_append, encs_app]
  simp [encs]
theorem rsOf_split (T : Nat → Int) (V : Nat → List Int) {n k : Nat} (hk : k < n) : ∃ B, rsOf T V n = rsOf T V k ++ (T k, V k) :: B := by
  induction n with
  | zero => omega
  | succ n ih =>
    have e : rsOf T V (n + 1) = rsOf T V n ++ [(T n, V n)] := by simp [rsOf, List.range_succ]
    by_cases h : k = n
    · subst h
      exact ⟨[], e⟩
    · obtain ⟨B, hB⟩ := ih (by omega)
      exact ⟨B ++ [(T n, V n)], by rw [e, hB]; simp⟩
theorem rsOf_mem {T : Nat → Int} {V : Nat → List Int} {n : Nat} {x : Int × List Int} (h : x ∈ rsOf T V n) : ∃ i, i < n ∧ x = (T i, V i) := by
  obtain ⟨i, hi, rfl⟩ := List.mem_map.1 h
  exact ⟨i, List.mem_range.1 hi, rfl⟩

/-- The row g holds the records, each value in a row of its own. -/
structure DecL (w : World) (base g n : Nat) (T : Nat → Int) (V : Nat → List Int) (G : Nat → Nat) (f : Nat → Value) : Prop where
  row : w.rowIs g 36 (n * 2) f
  base_le : base ≤ g
  type : ∀ i, i < n → f (i * 2) = .int .u8 (T i)
  value : ∀ i, i < n → f (i * 2 + 1) = .slice (some ⟨G i, 0, none⟩) (V i).length (V i).length
  after : ∀ i, i < n → g < G i
  bytes : ∀ i, i < n → w.rowIs (G i) 5 (V i).length (fun j => .int .u8 ((V i).getD j 0))
  apart : ∀ i j, j < i → i < n → G j < G i

theorem decL {w : World} {base g n : Nat} {T : Nat → Int} {V : Nat → List Int} {G : Nat → Nat} (hv : ∀ i, i < n → (V i).length ≤ 65535) (hg : base ≤ g)
    (h : DecAt w base g n n (zl (encs (rsOf T V n))) (encs (rsOf T V n)).length G) : ∃ f, DecL w base g n T V G f := by
  obtain ⟨f, hrow, hf⟩ := h
  have key : ∀ i, i < n → f (i * 2) = .int .u8 (T i) ∧ f (i * 2 + 1) = .slice (some ⟨G i, 0, none⟩) (V i).length (V i).length ∧ g < G i ∧ w.rowIs (G i) 5 (V i).length (fun j => .int .u8 ((V i).getD j 0)) ∧ (∀ j, j < i → G j < G i) := by
    intro i hi
    obtain ⟨p, s, m, hrec, h0, h1, _, h3, h4, h5⟩ := hf i hi
    obtain ⟨B, hB⟩ := rsOf_split T V hi
    have hlen : (rsOf T V i).length = i := rsOf_len T V i
    rw [hB] at hrec h0 h4
    have hvv : ∀ x ∈ rsOf T V i ++ (T i, V i) :: B, x.2.length ≤ 65535 := by
      intro x hx
      rw [← hB] at hx
      obtain ⟨j, hj, rfl⟩ := rsOf_mem hx
      exact hv j hj
    have hrec2 : IsRec (zl (encs (rsOf T V i ++ (T i, V i) :: B))) (encs (rsOf T V i ++ (T i, V i) :: B)).length (rsOf T V i).length p s m := by rw [hlen]; exact hrec
    obtain ⟨g1, g2, g3⟩ := isRec_encs _ _ _ hvv hrec2
    dsimp only at g1 g2 g3
    subst g2
    exact ⟨by rw [h0, g1], h1, h3, h4.congr (fun j hj => by rw [g3 j hj]), h5⟩
  exact ⟨f, hrow, hg, fun i hi => (key i hi).1, fun i hi => (key i hi).2.1, fun i hi => (key i hi).2.2.1, fun i hi => (key i hi).2.2.2.1, fun i j hj hi => (key i hi).2.2.2.2 j hj⟩

theorem decode_good (a : Option Addr) (N c n : Nat) (T : Nat → Int) (V : Nat → List Int) (w : World) (hN : N = (encs (rsOf T V n)).length) (hc : N ≤ c) (hcap : c ≤ 9223372036854775807) (hn : (N : Int) ≤ 1048576)
    (hv : ∀ i, i < n → (0 ≤ T i ∧ T i ≤ 255) ∧ AllB (V i) ∧ (V i).length ≤ 65535) (ha : BytesAt w a N (zl (encs (rsOf T V n)))) :
    Calls Ycom.prog 25 #[.slice a N c] w fun e w' => Hid (∃ g G f, e = .returned (.tuple #[.slice (some ⟨g, 0, none⟩) n n, .int .i64 0]) ∧ DecL w' w.heap.size g n T V G f) ∧ Below w.heap.size w w' := by
  subst hN
  have hv2 : ∀ x ∈ rsOf T V n, (0 ≤ x.1 ∧ x.1 ≤ 255) ∧ AllB x.2 ∧ x.2.length ≤ 65535 := by
    intro x hx
    obtain ⟨j, hj, rfl⟩ := rsOf_mem hx
    exact hv j hj
  have hck := check_encs (rsOf T V n) [] 0 (fun x hx => (hv2 x hx).2.2) (.inl ⟨rfl, rfl⟩)
  simp only [List.append_nil] at hck
  rw [rsOf_len] at hck
  refine (decode_calls a _ c _ w hc hcap hn (zl_byte (encs_bytes hv2)) ha).mono ?_
  rintro e w' ⟨cnt, p, code, hc2, hb, hcase⟩
  obtain ⟨rfl, _, rfl⟩ := hc2.uniq hck
  rcases hcase with ⟨h, _⟩ | ⟨_, g, G, rfl, hg, hd⟩
  · exact absurd rfl h
  · obtain ⟨f, hf⟩ := decL (fun i hi => (hv i hi).2.2) hg hd
    exact ⟨⟨g, G, f, rfl, hf⟩, hb⟩

theorem decode_fault (a : Option Addr) (N c n : Nat) (T : Nat → Int) (V : Nat → List Int) (C : List Int) (code : Int) (w : World) (hN : N = (encs (rsOf T V n) ++ C).length) (hc : N ≤ c) (hcap : c ≤ 9223372036854775807) (hn : (N : Int) ≤ 1048576)
    (hv : ∀ i, i < n → (0 ≤ T i ∧ T i ≤ 255) ∧ AllB (V i) ∧ (V i).length ≤ 65535) (hC : AllB C) (hC0 : C ≠ []) (hcode : code ≠ 0) (hsp : (span (zl C) C.length 0).2.2 = code) (ha : BytesAt w a N (zl (encs (rsOf T V n) ++ C))) :
    Calls Ycom.prog 25 #[.slice a N c] w fun e w' => e = .returned (.tuple #[.slice none 0 0, .int .i64 code]) ∧ Below w.heap.size w w' := by
  subst hN
  have hv2 : ∀ x ∈ rsOf T V n, (0 ≤ x.1 ∧ x.1 ≤ 255) ∧ AllB x.2 ∧ x.2.length ≤ 65535 := by
    intro x hx
    obtain ⟨j, hj, rfl⟩ := rsOf_mem hx
    exact hv j hj
  have hck := check_encs (rsOf T V n) C code (fun x hx => (hv2 x hx).2.2) (.inr ⟨hC0, hcode, code_tail _ _ _ hsp⟩)
  refine (decode_calls a _ c _ w hc hcap hn (zl_byte ((encs_bytes hv2).app hC)) ha).mono ?_
  rintro e w' ⟨cnt, p, code', hc2, hb, hcase⟩
  obtain ⟨_, _, rfl⟩ := hc2.uniq hck
  rcases hcase with ⟨_, rfl⟩ | ⟨h, _⟩
  · exact ⟨rfl, hb⟩
  · exact absurd h hcode
end Go.Proofs.Ymbrco
