/-
  Ymbrco: 'Set': the records of other types in order, with r at the place of the first of her type.
-/
import Derived.Test.YmbrcoAppRec
namespace Go.Proofs.Ymbrco
open Go.RowKit
set_option linter.unusedVariables false

/-- At place p of the row stands record k. -/
def recAt (f : Nat → Value) (r : Recs) (p k : Nat) : Prop := f (p * 2) = .int .u8 (r.T k) ∧ f (p * 2 + 1) = .slice (r.A k) (r.L k) (r.C k)

/-- Which of the first k records are of another type than t. -/
def oth (T : Nat → Int) (t : Int) (k : Nat) : List Nat := (List.range k).filter (fun i => decide (T i ≠ t))

theorem oth_yes {T : Nat → Int} {t : Int} {k : Nat} (h : T k ≠ t) : oth T t (k + 1) = oth T t k ++ [k] := by simp [oth, List.range_succ, List.filter_append, h]
theorem oth_no {T : Nat → Int} {t : Int} {k : Nat} (h : T k = t) : oth T t (k + 1) = oth T t k := by simp [oth, List.range_succ, List.filter_append, h]
theorem oth_le (T : Nat → Int) (t : Int) (k : Nat) : (oth T t k).length ≤ k := by
  have := List.length_filter_le (fun i => decide (T i ≠ t)) (List.range k)
  simpa [oth] using this
theorem oth_lt {T : Nat → Int} {t : Int} {k i : Nat} (h : i ∈ oth T t k) : i < k := by
  unfold oth at h
  have := (List.mem_filter.1 h).1
  simpa using this

/-- p is the place of the first record of type t (or the end). -/
structure FirstAt (T : Nat → Int) (t : Int) (n p : Nat) : Prop where
  le : p ≤ n
  no : ∀ i, i < p → T i ≠ t
  yes : p < n → T p = t

theorem FirstAt.low {T : Nat → Int} {t : Int} {n p : Nat} (h : FirstAt T t n p) {k : Nat} (hk : k ≤ p) : (oth T t k).length = k := by
  induction k with
  | zero => rfl
  | succ k ih => rw [oth_yes (h.no k (by omega)), List.length_append, ih (by omega)]; rfl
theorem oth_mono (T : Nat → Int) (t : Int) (k d : Nat) : (oth T t k).length ≤ (oth T t (k + d)).length := by
  induction d with
  | zero => exact Nat.le_refl _
  | succ d ih =>
    rw [← Nat.add_assoc]
    by_cases e : T (k + d) = t
    · rw [oth_no e]; exact ih
    · rw [oth_yes e, List.length_append]; omega
theorem FirstAt.high {T : Nat → Int} {t : Int} {n p : Nat} (h : FirstAt T t n p) {k : Nat} (hk : p ≤ k) : p ≤ (oth T t k).length := by
  have := oth_mono T t p (k - p)
  rw [h.low (Nat.le_refl _), show p + (k - p) = k by omega] at this
  exact this

/-- The others that the row holds, one place further on from p. -/
def sh (p q : Nat) : Nat := if q < p then q else q + 1

def Others (f : Nat → Value) (r : Recs) (g : Nat → Nat) (l : List Nat) : Prop := ∀ q i, l[q]? = some i → recAt f r (g q) i

theorem recAt_put_same (f : Nat → Value) (r : Recs) (p k : Nat) : recAt (putR p (.int .u8 (r.T k)) (.slice (r.A k) (r.L k) (r.C k)) f) r p k := by
  refine ⟨?_, ?_⟩
  · unfold putR; rw [if_neg (by omega), if_pos rfl]
  · unfold putR; rw [if_pos rfl]
theorem recAt_put_other {f : Nat → Value} {r : Recs} {p q k : Nat} {T S : Value} (h : recAt f r p k) (hne : p ≠ q) : recAt (putR q T S f) r p k := by
  refine ⟨?_, ?_⟩
  · unfold putR; rw [if_neg (by omega), if_neg (by omega), h.1]
  · unfold putR; rw [if_neg (by omega), if_neg (by omega), h.2]

theorem Others.put {f : Nat → Value} {r : Recs} {g : Nat → Nat} {l : List Nat} {m : Nat} {T S : Value} (h : Others f r g l) (hne : ∀ q, q < l.length → g q ≠ m) : Others (putR m T S f) r g l :=
  fun q i hq => recAt_put_other (h q i hq) (hne q (List.getElem?_eq_some_iff.1 hq).1)
theorem Others.add {f : Nat → Value} {r : Recs} {g : Nat → Nat} {l : List Nat} {m k : Nat} (h : Others f r g l) (hm : g l.length = m) (hne : ∀ q, q < l.length → g q ≠ m) :
    Others (putR m (.int .u8 (r.T k)) (.slice (r.A k) (r.L k) (r.C k)) f) r g (l ++ [k]) := by
  intro q i hq
  by_cases e : q < l.length
  · rw [List.getElem?_append_left e] at hq
    exact recAt_put_other (h q i hq) (hne q e)
  · rw [List.getElem?_append_right (by omega)] at hq
    by_cases e2 : q = l.length
    · rw [e2, Nat.sub_self] at hq
      simp at hq
      subst hq
      rw [e2, hm]
      exact recAt_put_same f r m k
    · obtain ⟨d, hd⟩ : ∃ d, q - l.length = d + 1 := ⟨q - l.length - 1, by omega⟩
      rw [hd] at hq
      simp at hq

/-- After k records: the others stand in the row, and r where the first of her type stood. -/
structure SetTo (f : Nat → Value) (r : Recs) (x : Value × Value) (t : Int) (p k m : Nat) : Prop where
  hoth : Others f r (sh p) (oth r.T t k)
  len : m = (oth r.T t k).length + if p < k then 1 else 0
  at' : p < k → f (p * 2) = x.1 ∧ f (p * 2 + 1) = x.2

theorem sh_ne {p q m : Nat} (h : q < m) : sh p q ≠ sh p m := by unfold sh; split <;> split <;> omega

theorem SetTo.start (f : Nat → Value) (r : Recs) (x : Value × Value) (t : Int) (p : Nat) : SetTo f r x t p 0 0 :=
  ⟨fun q i h => by simp [oth] at h, by simp [oth], fun h => absurd h (Nat.not_lt_zero _)⟩
theorem SetTo.other {f : Nat → Value} {r : Recs} {x : Value × Value} {t : Int} {n p k m : Nat} (h : SetTo f r x t p k m) (hp : FirstAt r.T t n p) (hk : k < n) (hT : r.T k ≠ t) :
    SetTo (putR m (.int .u8 (r.T k)) (.slice (r.A k) (r.L k) (r.C k)) f) r x t p (k + 1) (m + 1) := by
  have hkp : k ≠ p := fun e => hT (e ▸ hp.yes (by omega))
  have hl := h.len
  have hm : sh p (oth r.T t k).length = m := by
    unfold sh
    by_cases e : p < k
    · have := hp.high (Nat.le_of_lt e)
      rw [if_pos e] at hl
      rw [if_neg (by omega)]
      omega
    · have := hp.low (show k ≤ p by omega)
      rw [if_neg e] at hl
      rw [if_pos (by omega)]
      omega
  refine ⟨?_, ?_, fun e => ?_⟩
  · rw [oth_yes hT]
    exact h.hoth.add hm (fun q hq => hm ▸ sh_ne hq)
  · rw [oth_yes hT, List.length_append]
    by_cases e : p < k
    · rw [if_pos e] at hl; rw [if_pos (by omega)]; simp; omega
    · rw [if_neg e] at hl; rw [if_neg (by omega)]; simp; omega
  · have e' : p < k := by omega
    obtain ⟨h1, h2⟩ := h.at' e'
    have := hp.high (Nat.le_of_lt e')
    rw [if_pos e'] at hl
    refine ⟨?_, ?_⟩
    · unfold putR; rw [if_neg (by omega), if_neg (by omega), h1]
    · unfold putR; rw [if_neg (by omega), if_neg (by omega), h2]
theorem SetTo.here {f : Nat → Value} {r : Recs} {x : Value × Value} {t : Int} {n p m : Nat} (h : SetTo f r x t p p m) (hp : FirstAt r.T t n p) (hT : oth r.T t (p + 1) = oth r.T t p) :
    SetTo (putR m x.1 x.2 f) r x t p (p + 1) (m + 1) := by
  have hl := h.len
  have hlow := hp.low (Nat.le_refl p)
  rw [if_neg (Nat.lt_irrefl _)] at hl
  refine ⟨?_, ?_, fun _ => ⟨?_, ?_⟩⟩
  · rw [hT]
    refine h.hoth.put (fun q hq => ?_)
    unfold sh
    rw [if_pos (by omega)]
    omega
  · rw [hT, if_pos (by omega)]; omega
  · unfold putR; rw [if_neg (by omega), if_pos (by omega)]
  · unfold putR; rw [if_pos (by omega)]
theorem SetTo.skip {f : Nat → Value} {r : Recs} {x : Value × Value} {t : Int} {p k m : Nat} (h : SetTo f r x t p k m) (hk : p < k) (hT : r.T k = t) : SetTo f r x t p (k + 1) m :=
  ⟨by rw [oth_no hT]; exact h.hoth, by have := h.len; rw [if_pos hk] at this; rw [oth_no hT, if_pos (by omega)]; exact this, fun _ => h.at' hk⟩

/-- The whole row. -/
structure SetAll (f : Nat → Value) (r : Recs) (t : Int) (ra : Option Addr) (rl rc : Nat) (p n : Nat) : Prop where
  hoth : Others f r (sh p) (oth r.T t n)
  at0 : f (p * 2) = .int .u8 t
  at1 : f (p * 2 + 1) = .slice ra rl rc

theorem SetTo.last {f : Nat → Value} {r : Recs} {t : Int} {ra : Option Addr} {rl rc n m : Nat} (h : SetTo f r (.int .u8 t, .slice ra rl rc) t n n m) (hp : FirstAt r.T t n n) : SetAll (putR m (.int .u8 t) (.slice ra rl rc) f) r t ra rl rc n n ∧ m + 1 = (oth r.T t n).length + 1 := by
  have hl := h.len
  have hlow := hp.low (Nat.le_refl n)
  rw [if_neg (Nat.lt_irrefl _)] at hl
  refine ⟨⟨h.hoth.put (fun q hq => ?_), ?_, ?_⟩, by omega⟩
  · unfold sh
    rw [if_pos (by omega)]
    omega
  · unfold putR; rw [if_neg (by omega), if_pos (by omega)]
  · unfold putR; rw [if_pos (by omega)]
theorem SetTo.done {f : Nat → Value} {r : Recs} {t : Int} {ra : Option Addr} {rl rc n p m : Nat} (h : SetTo f r (.int .u8 t, .slice ra rl rc) t p n m) (hp : p < n) : SetAll f r t ra rl rc p n ∧ m = (oth r.T t n).length + 1 := by
  have hl := h.len
  rw [if_pos hp] at hl
  exact ⟨⟨h.hoth, (h.at' hp).1, (h.at' hp).2⟩, hl⟩
theorem SetTo.room {f : Nat → Value} {r : Recs} {x : Value × Value} {t : Int} {p k m : Nat} (h : SetTo f r x t p k m) : m ≤ k + 1 ∧ (k ≤ p → m ≤ k) := by
  have hl := h.len
  have := oth_le r.T t k
  split at hl <;> omega

theorem rowIs_rec (w : World) (T S : Value) : (w.alloc (.cells #[T, S] 36)).rowIs w.heap.size 36 2 (fun q => if q = 0 then T else S) :=
  ⟨#[T, S], heap_alloc_new w _, rfl, fun j hj => by
    match j, hj with
    | 0, _ => rfl
    | 1, _ => rfl⟩

set_option maxRecDepth 100000 in
set_option maxHeartbeats 4000000 in
theorem set_calls (a : Option Addr) (n c : Nat) (r : Recs) (t : Int) (ra : Option Addr) (rl rc p : Nat) (w : World) (hn : (n : Int) ≤ 1000000) (hok : RecsOk n r) (ha : RecsAt w a n r) (hp : FirstAt r.T t n p) :
    Calls Ycom.prog 22 #[.slice a n c, .agg #[.int .u8 t, .slice ra rl rc]] w fun e w' => e = .returned (.slice (some ⟨w.heap.size + 1, 0, none⟩) ((oth r.T t n).length + 1) (n + 1)) ∧ Hid (∃ f, w'.rowIs (w.heap.size + 1) 36 ((n + 1) * 2) f ∧ SetAll f r t ra rl rc p n) ∧ Below w.heap.size w w' := by
  have HA : Hid (RecsAt w a n r) := ha
  have HK : Hid (RecsOk n r) := hok
  have HP : Hid (FirstAt r.T t n p) := hp
  have hpn := hp.le
  clear ha hok hp
  obtain ⟨x, hx⟩ : ∃ x : Value × Value, x = (.int .u8 t, .slice ra rl rc) := ⟨_, rfl⟩
  have HX : Hid (x = (.int .u8 t, .slice ra rl rc)) := hx
  clear hx
  have hn1 : (n : Int) + 1 = ((n + 1 : Nat) : Int) := by omega
  obtain ⟨N, hN⟩ : ∃ N, N = n + 1 := ⟨_, rfl⟩
  have HN : Hid (N = n + 1) := hN
  have hN2 : (N : Int) = (n : Int) + 1 := by omega
  have hN3 : N ≤ 8796093022208 := by omega
  clear hN hn1
  have HBX : Hid (∀ w1, Below (w.heap.size + 1) (w.alloc (.cells #[.int .u8 t, .slice ra rl rc] 36)) w1 → Hid (w1.rowIs w.heap.size 36 2 (fun q => if q = 0 then .int .u8 t else .slice ra rl rc)) ∧ Hid (Below w.heap.size w w1)) := by
    intro w1 hb
    have hsz : (w.alloc (.cells #[.int .u8 t, .slice ra rl rc] 36)).heap.size = w.heap.size + 1 := by simp
    refine ⟨rowIs_below (rowIs_rec w (.int .u8 t) (.slice ra rl rc)) (hsz ▸ hb) (by omega), ((Below.refl _ _).alloc (Nat.le_refl _) _).trans (hb.mono (by omega))⟩
  go_enter Ycom.func22, Ycom.ntmps22
  go_wp2_with (at_make; refine wpList_mkRx (w.alloc (.cells #[.int .u8 t, .slice ra rl rc] 36)) (w.heap.size + 1) (by simp) rfl _ _ rfl .i64 .i64 _ _ 0 N rfl rfl rfl (by omega) (by omega) hN3 ?_; intro w1 hrow hb hs1; have HR1 : Hid (∃ f, w1.rowIs (w.heap.size + 1) 36 (N * 2) f ∧ SetTo f r x t p 0 0) := ⟨_, hrow, SetTo.start _ _ _ _ _⟩; obtain ⟨HX1, HB1⟩ := HBX.out w1 hb; clear hrow hb)
  go_loopw [5, 6, 15] (fun ov pv iv wr => ∃ k m : Nat, ∃ pl : Bool, k ≤ n ∧ ov = .slice (some ⟨w.heap.size + 1, 0, none⟩) m N ∧ pv = .bool pl ∧ iv = .int .i64 k ∧ Hid (pl = decide (p < k)) ∧ w.heap.size + 1 < wr.heap.size ∧ Hid (∃ f, wr.rowIs (w.heap.size + 1) 36 (N * 2) f ∧ SetTo f r x t p k m) ∧ Hid (wr.rowIs w.heap.size 36 2 (fun q => if q = 0 then .int .u8 t else .slice ra rl rc)) ∧ Hid (Below w.heap.size w wr)) (fun _ _ iv _ => n - (intOf iv).toNat)
  case atStart => exact ⟨0, 0, false, Nat.zero_le _, rfl, rfl, rfl, rfl, by omega, HR1.out, HX1.out, HB1.out⟩
  case round =>
    clear HR1 HB1 HX1 hs1
    obtain ⟨k, m, pl, hk, rfl, rfl, rfl, HPL, hgw, HR, HXR, HB⟩ := hrel
    obtain ⟨f, hrow, hset⟩ := HR.out
    have HF : Hid (wr.rowIs (w.heap.size + 1) 36 (N * 2) f) := hrow
    have HS : Hid (SetTo f r x t p k m) := hset
    have hroom := hset.room
    have hN4 := HN.out
    have x0 : wr.cell? ⟨w.heap.size, 0, none⟩ = some (.int .u8 t) := HXR.out.cell (show 0 < 2 by omega)
    have x1 : wr.cell? ⟨w.heap.size, 1, none⟩ = some (.slice ra rl rc) := HXR.out.cell (show 1 < 2 by omega)
    have hgw2 : w.heap.size < wr.heap.size := by omega
    have hgw3 : ¬ w.heap.size = wr.heap.size := by omega
    have hmN : m + 1 ≤ N ∨ p < k := by omega
    have hm1 : m ≤ 9223372036854775807 := by omega
    have hm2 : (m : Int) ≤ 9223372036854775807 := by omega
    have hm3 : ¬ (m : Int) < 0 := by omega
    clear hrow hset HR hN4
    by_cases hlt : k < n
    · obtain ⟨ab, off, rfl, hT, hS⟩ := HA.out (by omega)
      have hc0 := hT k hlt
      have hc1 := hS k hlt
      have t0 : wr.cell? ⟨ab, off + k * 2, none⟩ = some (.int .u8 (r.T k)) := (HB.out.cell (World.block_lt_of_cell? _ _ hc0)).trans hc0
      have t1 : wr.cell? ⟨ab, off + k * 2 + 1, none⟩ = some (.slice (r.A k) (r.L k) (r.C k)) := (HB.out.cell (World.block_lt_of_cell? _ _ hc1)).trans hc1
      have hl2 : (k : Int) < (n : Int) := by omega
      clear hT hS hc0 hc1
      by_cases hTk : r.T k = t
      · have hbq : (r.T k == t) = true := by simp [hTk]
        have hnl : ¬ k < p := fun e => HP.out.no k e hTk
        have HT : Hid (r.T k = t) := hTk
        clear hTk
        by_cases hpk : p < k
        · obtain rfl : pl = true := by rw [HPL.out]; simp [hpk]
          go_wp2
          go_roundw
          case rel => exact ⟨k + 1, m, true, by omega, rfl, rfl, by go_num, by show _ = _; simp; omega, by simp; omega, ⟨f, HF.out.alloc _, HS.out.skip hpk HT.out⟩, HXR.out.alloc _, HB.out.alloc HB.out.size _⟩
          case measure => simp [intOf] <;> omega
        · obtain rfl : pl = false := by rw [HPL.out]; simp [hpk]
          obtain rfl : p = k := by omega
          go_wp2_with (at_builtin; refine wpList_appR _ rfl (.tmp 30) (.tmp 32) rfl (w.heap.size + 1) m N rfl f ((HF.out.alloc _).alloc _) _ _ rfl (.int .u8 t) (.slice ra rl rc) (by simp) (by simp) rfl rfl (by omega) ?_; intro w3 hrow3 hg3 hs3; have HR3 : Hid (∃ f, w3.rowIs (w.heap.size + 1) 36 (N * 2) f ∧ SetTo f r x t p (p + 1) (m + 1)) := ⟨_, hrow3, by have h9 := HS.out.here HP.out (oth_no HT.out); rw [HX.out] at h9 ⊢; exact h9⟩; have HB3 : Hid (Below w.heap.size w w3) := ((HB.out.alloc HB.out.size _).alloc (by have := HB.out.size; simp; omega) _).trans (below_of_grown hg3 (by have := HB.out.size; simp; omega) (by omega)); have HX3 : Hid (w3.rowIs w.heap.size 36 2 (fun q => if q = 0 then .int .u8 t else .slice ra rl rc)) := rowIs_grown ((HXR.out.alloc _).alloc _) hg3 (by omega); clear hrow3 hg3)
          go_roundw
          case rel => exact ⟨p + 1, m + 1, true, by omega, rfl, rfl, by go_num, by show _ = _; simp, by rw [hs3]; simp; omega, HR3.out, HX3.out, HB3.out⟩
          case measure => simp [intOf] <;> omega
      · have hbq : (r.T k == t) = false := by simp [hTk]
        have HT : Hid (¬ r.T k = t) := hTk
        have hkp : ¬ k = p := fun e => hTk (e ▸ HP.out.yes (by omega))
        have hmN2 : m + 1 ≤ N := by rw [HN.out]; omega
        go_wp2_with (at_builtin; refine wpList_appR _ rfl (.tmp 24) (.tmp 26) rfl (w.heap.size + 1) m N rfl f ((HF.out.alloc _).alloc _) _ _ rfl (.int .u8 (r.T k)) (.slice (r.A k) (r.L k) (r.C k)) (by simp) (by simp) rfl rfl hmN2 ?_; intro w3 hrow3 hg3 hs3; have HR3 : Hid (∃ f, w3.rowIs (w.heap.size + 1) 36 (N * 2) f ∧ SetTo f r x t p (k + 1) (m + 1)) := ⟨_, hrow3, HS.out.other HP.out hlt HT.out⟩; have HB3 : Hid (Below w.heap.size w w3) := ((HB.out.alloc HB.out.size _).alloc (by have := HB.out.size; simp; omega) _).trans (below_of_grown hg3 (by have := HB.out.size; simp; omega) (by omega)); have HX3 : Hid (w3.rowIs w.heap.size 36 2 (fun q => if q = 0 then .int .u8 t else .slice ra rl rc)) := rowIs_grown ((HXR.out.alloc _).alloc _) hg3 (by omega); clear hrow3 hg3)
        go_roundw
        case rel => exact ⟨k + 1, m + 1, pl, by omega, rfl, rfl, by go_num, by show _ = _; rw [HPL.out]; exact decide_eq_decide.2 (by omega), by rw [hs3]; simp; omega, HR3.out, HX3.out, HB3.out⟩
        case measure => simp [intOf] <;> omega
    · obtain rfl : n = k := by omega
      by_cases hpk : p < n
      · obtain rfl : pl = true := by rw [HPL.out]; simp [hpk]
        go_wp2
        go_ret
        have h9 := HS.out
        rw [HX.out] at h9
        obtain ⟨h1, rfl⟩ := h9.done hpk
        obtain rfl := HN.out
        exact ⟨rfl, ⟨f, HF.out, h1⟩, HB.out⟩
      · obtain rfl : pl = false := by rw [HPL.out]; simp [hpk]
        obtain rfl : p = n := by omega
        go_wp2_with (at_builtin; refine wpList_appR _ rfl (.tmp 37) (.tmp 39) rfl (w.heap.size + 1) m N rfl f (HF.out.alloc _) _ _ rfl (.int .u8 t) (.slice ra rl rc) (by simp) (by simp) rfl rfl (by omega) ?_; intro w3 hrow3 hg3 hs3; have HR3 : Hid (∃ f, w3.rowIs (w.heap.size + 1) 36 (N * 2) f ∧ SetAll f r t ra rl rc p p ∧ m + 1 = (oth r.T t p).length + 1) := ⟨_, hrow3, by have h9 := HS.out; rw [HX.out] at h9; exact h9.last HP.out⟩; have HB3 : Hid (Below w.heap.size w w3) := (HB.out.alloc HB.out.size _).trans (below_of_grown hg3 (by have := HB.out.size; simp; omega) (by omega)); clear hrow3 hg3)
        go_ret
        obtain ⟨f, hf, h1, h2⟩ := HR3.out
        obtain rfl := HN.out
        exact ⟨by simp; omega, ⟨f, hf, h1⟩, HB3.out⟩
end Go.Proofs.Ymbrco
