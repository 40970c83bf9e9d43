/-
  Ymbrco: 'Decode': all records of a message, each value in a row of its own.
-/
import Derived.Test.YmbrcoAppRec
import Derived.Test.YmbrcoReadRec
import Derived.Test.YmbrcoCheck
namespace Go.Proofs.Ymbrco
open Go.RowKit
set_option linter.unusedVariables false

/-- The k-th record of the message z: at p, its value s .. s + m. -/
structure IsRec (z : Nat → Int) (n k p s m : Nat) : Prop where
  reach : Reach z n k p
  lt : p < n
  span : span z n p = ((s : Int), ((s + m : Nat) : Int), 0)
  le : s + m ≤ n
  max : m ≤ 65535

theorem isRec_of {z : Nat → Int} {n k p : Nat} (hz : IsByte z) (h : Reach z n k p) (hp : p < n) (hc : (span z n p).2.2 = 0) : ∃ s m, IsRec z n k p s m ∧ Reach z n (k + 1) (s + m) := by
  obtain ⟨h0, h1, h2, h3, h4, h5⟩ := (span_bounds z n p hz).2.1 hc
  refine ⟨(span z n p).1.toNat, ((span z n p).2.1 - (span z n p).1).toNat, ⟨h, hp, ?_, by omega, by omega⟩, p, h, hp, hc, by omega⟩
  generalize hs : Go.Proofs.Ymbrco.span z n p = x at *
  obtain ⟨x1, x2, x3⟩ := x
  dsimp only at *
  subst hc
  simp only [Prod.mk.injEq, and_true]
  omega

theorem IsRec.uniq {z : Nat → Int} {n k p s m p' s' m' : Nat} (h : IsRec z n k p s m) (g : IsRec z n k p' s' m') : p = p' ∧ s = s' ∧ m = m' := by
  have hp := h.reach.uniq g.reach
  subst hp
  have e := h.span.symm.trans g.span
  simp only [Prod.mk.injEq] at e
  refine ⟨rfl, ?_, ?_⟩ <;> omega

/-- The row g holds the first k records of the message; their values lie in rows of their own, one behind the other in age. -/
def DecAt (w : World) (base g cap k : Nat) (z : Nat → Int) (n : Nat) (G : Nat → Nat) : Prop := ∃ f, w.rowIs g 36 (cap * 2) f ∧
  ∀ i, i < k → ∃ p s m, IsRec z n i p s m ∧ f (i * 2) = .int .u8 (z p) ∧ f (i * 2 + 1) = .slice (some ⟨G i, 0, none⟩) m m ∧ base ≤ G i ∧ g < G i ∧ w.rowIs (G i) 5 m (fun j => .int .u8 (z (s + j))) ∧ (∀ j, j < i → G j < G i)

def setG (G : Nat → Nat) (k v i : Nat) : Nat := if i = k then v else G i
theorem setG_eq (G : Nat → Nat) (k v : Nat) : setG G k v k = v := by simp [setG]
theorem setG_ne (G : Nat → Nat) {k i : Nat} (v : Nat) (h : i ≠ k) : setG G k v i = G i := by simp [setG, h]

theorem DecAt.start {w : World} {base g cap : Nat} {z : Nat → Int} {n : Nat} {G : Nat → Nat} {f : Nat → Value} (h : w.rowIs g 36 (cap * 2) f) : DecAt w base g cap 0 z n G := ⟨f, h, fun i hi => absurd hi (Nat.not_lt_zero _)⟩

theorem DecAt.step {w w2 : World} {base g cap k : Nat} {z : Nat → Int} {n : Nat} {G : Nat → Nat} {f : Nat → Value} {p s m gv : Nat}
    (hf : ∀ i, i < k → ∃ p s m, IsRec z n i p s m ∧ f (i * 2) = .int .u8 (z p) ∧ f (i * 2 + 1) = .slice (some ⟨G i, 0, none⟩) m m ∧ base ≤ G i ∧ g < G i ∧ w.rowIs (G i) 5 m (fun j => .int .u8 (z (s + j))) ∧ (∀ j, j < i → G j < G i))
    (hrec : IsRec z n k p s m) (hgv : w.heap.size ≤ gv) (hb : base ≤ w.heap.size) (hgw : g < w.heap.size) (hkeep : ∀ b t q F, b < w.heap.size → b ≠ g → w.rowIs b t q F → w2.rowIs b t q F)
    (hval : w2.rowIs gv 5 m (fun j => .int .u8 (z (s + j))))
    (h : w2.rowIs g 36 (cap * 2) (putR k (.int .u8 (z p)) (.slice (some ⟨gv, 0, none⟩) m m) f)) : DecAt w2 base g cap (k + 1) z n (setG G k gv) := by
  refine ⟨_, h, fun i hi => ?_⟩
  by_cases e : i = k
  · subst e
    refine ⟨p, s, m, hrec, ?_, ?_, ?_, ?_, ?_, ?_⟩
    · unfold putR; rw [if_neg (by omega), if_pos rfl]
    · unfold putR; rw [if_pos rfl, setG_eq]
    · rw [setG_eq]; omega
    · rw [setG_eq]; omega
    · rw [setG_eq]; exact hval
    · intro j hj
      rw [setG_eq, setG_ne _ _ (by omega)]
      obtain ⟨_, _, _, _, _, _, _, _, hr, _⟩ := hf j hj
      have := hr.lt
      omega
  · obtain ⟨p', s', m', h1, h2, h3, h4, h5, h6, h7⟩ := hf i (by omega)
    refine ⟨p', s', m', h1, ?_, ?_, ?_, ?_, ?_, ?_⟩
    · unfold putR; rw [if_neg (by omega), if_neg (by omega), h2]
    · unfold putR; rw [if_neg (by omega), if_neg (by omega), setG_ne _ _ e, h3]
    · rw [setG_ne _ _ e]; exact h4
    · rw [setG_ne _ _ e]; exact h5
    · rw [setG_ne _ _ e]; exact hkeep _ _ _ _ h6.lt (by omega) h6
    · intro j hj
      rw [setG_ne _ _ e, setG_ne _ _ (by omega)]
      exact h7 j hj

set_option maxRecDepth 100000 in
set_option maxHeartbeats 2000000 in
theorem decode_long (a : Option Addr) (n c : Nat) (w : World) (hn : n ≤ 9223372036854775807) (h : (1048576 : Int) < n) :
    Calls Ycom.prog 25 #[.slice a n c] w fun e w' => e = .returned (.tuple #[.slice none 0 0, .int .i64 3]) ∧ w' = w := by
  go_enter Ycom.func25, Ycom.ntmps25
  go_wp2_with (go_at_call 31; refine (check_long a n c w hn h).mono ?_; rintro e w1 ⟨rfl, rfl⟩)
  go_ret2
  exact ⟨rfl, rfl⟩

set_option maxRecDepth 100000 in
set_option maxHeartbeats 2000000 in
theorem decode_calls (a : Option Addr) (n c : Nat) (z : Nat → Int) (w : World) (hc : n ≤ c) (hcap : c ≤ 9223372036854775807) (hn : (n : Int) ≤ 1048576) (hz : IsByte z) (ha : BytesAt w a n z) :
    Calls Ycom.prog 25 #[.slice a n c] w fun e w' => ∃ (cnt p : Nat) (code : Int), IsCheck z n cnt p code ∧ Below w.heap.size w w' ∧
      ((code ≠ 0 ∧ e = .returned (.tuple #[.slice none 0 0, .int .i64 code])) ∨ (code = 0 ∧ ∃ g G, e = .returned (.tuple #[.slice (some ⟨g, 0, none⟩) cnt cnt, .int .i64 0]) ∧ w.heap.size ≤ g ∧ DecAt w' w.heap.size g cnt cnt z n G)) := by
  have HA : Hid (BytesAt w a n z) := ha
  have HZ : Hid (IsByte z) := hz
  clear ha hz
  go_enter Ycom.func25, Ycom.ntmps25
  go_wp2_with fail
  refine (check_calls a n c z w hn HZ.out HA.out).mono ?_
  rintro e w1 ⟨cnt, p, code, rfl, hck, d1, rfl⟩
  have HC : Hid (IsCheck z n cnt p code) := hck
  have hcnt : (cnt : Int) ≤ 524288 := by have := hck.1.le HZ.out; omega
  clear hck
  by_cases h0 : code = 0
  · subst h0
    go_wp2_with (at_make; refine wpList_mkRx _ _ rfl rfl _ _ rfl .i64 .i64 _ _ 0 cnt rfl rfl rfl rfl (by omega) (by omega) ?_; intro w2 hrow2 hb2 hs2; have HR2 : Hid (DecAt w2 w.heap.size w.heap.size cnt 0 z n (fun _ => 0)) := DecAt.start hrow2; have HB2 : Hid (Below w.heap.size w w2) := (below_drewN w d1).trans hb2; have hs2' : w2.heap.size = w.heap.size + 1 := hs2; clear hrow2 hb2 hs2)
    go_loopw [7, 8, 9] (fun rs ps i wr => ∃ k q : Nat, k ≤ cnt ∧ i = .int .i64 k ∧ ps = .int .i64 q ∧ (q : Int) ≤ 1048576 ∧ rs = .slice (some ⟨w.heap.size, 0, none⟩) k cnt ∧ Hid (Reach z n k q) ∧ Hid (∃ G, DecAt wr w.heap.size w.heap.size cnt k z n G) ∧ Hid (Below w.heap.size w wr)) (fun _ _ i _ => cnt - (intOf i).toNat)
    case atStart => exact ⟨0, 0, Nat.zero_le _, rfl, rfl, by omega, rfl, rfl, ⟨_, HR2.out⟩, HB2.out⟩
    case round =>
      clear HR2 HB2 hs2'
      obtain ⟨k, q, hk, rfl, rfl, hq, rfl, HQ, HD, HB⟩ := hrel
      by_cases hlt : k < cnt
      · obtain ⟨q', hq1, hq2, hq3⟩ := HC.out.1.pre hlt
        obtain rfl := HQ.out.uniq hq1
        obtain ⟨s, m, hrec, hnext⟩ := isRec_of HZ.out hq1 hq2 hq3
        have HREC : Hid (IsRec z n k q s m) := hrec
        have HNX : Hid (Reach z n (k + 1) (s + m)) := hnext
        have hsm := hrec.le
        have hm := hrec.max
        obtain ⟨G, f, hrow, hf⟩ := HD.out
        have HF : Hid (wr.rowIs w.heap.size 36 (cnt * 2) f) := hrow
        have HF2 := (show Hid _ from hf)
        have hgw := hrow.lt
        have hsz := HB.out.size
        have HRR : Hid (∀ wz : World, wr = wz → Calls Ycom.prog 32 #[.slice a n c, .int .i64 (q : Int)] wz fun e w' => ∃ g, e = .returned (.tuple #[.agg #[.int .u8 (z q), .slice (some ⟨g, 0, none⟩) m m], .int .i64 ((s + m : Nat) : Int), .int .i64 0]) ∧ wz.heap.size ≤ g ∧ w'.rowIs g 5 m (fun i => .int .u8 (z (s + i))) ∧ Below wz.heap.size wz w') := by
          rintro wz rfl
          exact rr_good a n c z q s m wr hc hcap HZ.out (HA.out.below HB.out) hrec.span hq2 hsm hm
        have hsm2 : ((s + m : Nat) : Int) ≤ 1048576 := by omega
        clear hrow hf hrec hnext hq1 hq2 hq3 HD
        go_wp2_with fail
        refine (HRR.out _ rfl).mono ?_
        rintro e w3 ⟨gv, rfl, hgv, hval, hb3⟩
        have HV3 : Hid (w3.rowIs gv 5 m (fun i => .int .u8 (z (s + i)))) := hval
        have HB3 : Hid (Below wr.heap.size wr w3) := hb3
        have hs3 := hb3.size
        have hgv3 := hval.lt
        clear hval hb3
        generalize hnx : s + m = nx at *
        go_wp2_with (at_builtin; refine wpList_appR _ rfl (.tmp 36) (.tmp 38) rfl w.heap.size k cnt rfl f (((rowIs_below HF.out HB3.out hgw).alloc _).alloc _) (w3.heap.size + 1) 1 rfl (.int .u8 (z q)) (.slice (some ⟨gv, 0, none⟩) m m) (by simp) (by simp) rfl rfl (by omega) ?_; intro w4 hrow4 hg4 hs4)
        have HB4 : Hid (Below w.heap.size w w4) := ((((HB.out.trans (HB3.out.mono hsz)).alloc (by omega) _).alloc (by simp; omega) _).trans (below_of_grown hg4 (by simp; omega) (Nat.le_refl _)))
        have HD4 : Hid (DecAt w4 w.heap.size w.heap.size cnt (k + 1) z n (setG G k gv)) := DecAt.step (w := wr) HF2.out HREC.out hgv hsz hgw (fun b t q F hb hne hr => rowIs_grown (((rowIs_below hr HB3.out hb).alloc _).alloc _) hg4 hne) (rowIs_grown ((HV3.out.alloc _).alloc _) hg4 (by omega)) hrow4
        clear hrow4 hg4
        go_roundw
        case rel => exact ⟨k + 1, nx, by omega, by go_num, rfl, by omega, rfl, HNX.out, ⟨_, HD4.out⟩, HB4.out⟩
        case measure => simp [intOf] <;> omega
      · obtain rfl : cnt = k := by omega
        go_wp2
        go_ret2
        obtain ⟨G, hG⟩ := HD.out
        exact ⟨cnt, p, 0, HC.out, HB.out, .inr ⟨rfl, w.heap.size, G, rfl, Nat.le_refl _, hG⟩⟩
  · have h0b : (code != 0) = true := by simpa using h0
    go_wp2
    go_ret2
    exact ⟨cnt, p, code, HC.out, below_drewN w d1, .inl ⟨h0, rfl⟩⟩
end Go.Proofs.Ymbrco
