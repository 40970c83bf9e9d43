/-
  Ymbrco: the walk of 'LawS930003AInPlace'.
-/
import Derived.Test.YmbrcoAfuns
import Derived.Test.YmbrcoEq
namespace Go.Proofs.Ymbrco.lawS930003AInPlace
open Go.RowKit Go.Proofs.Ymbrco
set_option linter.unusedVariables false

/-- What both rows hold at first. -/
def raw (n : Nat) (z : Nat → Int) (f : Int) (j : Nat) : Int := if j < n then z j else f
/-- What they hold at last. -/
def put (m : Nat) (l : List Int) (z : Nat → Int) (j : Nat) : Int := if m ≤ j ∧ j < m + l.length then l.getD (j - m) 0 else z j

theorem set_other {w : World} {g t n : Nat} {f : Nat → Value} (h : w.rowIs g t n f) {p : Addr} (hp : g ≠ p.block) (u : Value) : (w.setCell p u).rowIs g t n f := h.of_block (Below.heap_setCell w p u g hp)

theorem step_row {w : World} {g n k : Nat} {q : Nat → Int} {v : Int} (hg : w.rowIs g 5 n (fun j => .int .u8 (if j < k then q j else 0))) (hv : v = q k) :
    (w.setCell ⟨g, k, none⟩ (.int .u8 v)).rowIs g 5 n (fun j => .int .u8 (if j < k + 1 then q j else 0)) := by
  refine (hg.set k _).congr fun j _ => ?_
  by_cases e : j = k
  · subst e; simp [hv]
  · rw [if_neg e]
    by_cases h2 : j < k
    · rw [if_pos h2, if_pos (by omega)]
    · rw [if_neg h2, if_neg (by omega)]

theorem step_put {w : World} {g n m k : Nat} {l : List Int} {q : Nat → Int} {v : Int} (hg : w.rowIs g 5 n (fun j => .int .u8 (put m (l.take k) q j))) (hk : k < l.length) (hv : v = l.getD k 0) :
    (w.setCell ⟨g, m + k, none⟩ (.int .u8 v)).rowIs g 5 n (fun j => .int .u8 (put m (l.take (k + 1)) q j)) := by
  refine (hg.set (m + k) _).congr fun j _ => ?_
  by_cases e : j = m + k
  · subst e
    have h1 : m + k < m + min (k + 1) l.length := by omega
    simp [put, hv, h1]
  · rw [if_neg e]
    unfold put
    simp only [List.length_take]
    by_cases h2 : m ≤ j ∧ j < m + min k l.length
    · rw [if_pos h2, if_pos (by omega)]
      simp only [List.getD_eq_getElem?_getD, List.getElem?_take]
      rw [if_pos (by omega), if_pos (by omega)]
    · rw [if_neg h2, if_neg (by omega)]

set_option maxRecDepth 100000 in
set_option maxHeartbeats 4000000 in
theorem walk (a : Option Addr) (n c : Nat) (z : Nat → Int) (at' f s d : Int) (w : World) (hl : n ≤ c) (hc : c ≤ 9223372036854775807) (hn : a = none → n = 0 ∧ c = 0) (hz : IsByte z ∧ BytesAt w a n z) (ha : 0 ≤ at' ∧ at' ≤ 65535) (hf : 0 ≤ f ∧ f ≤ 255) (hs : 0 ≤ s ∧ s ≤ 255) (hd : -9223372036854775808 ≤ d ∧ d ≤ 9223372036854775807) :
    Calls Ycom.prog 4 #[.slice a n c, .int .u16 at', .int .u8 f, .int .u8 s, .int .i64 d] w fun e w' => e = .returned (.bool true) ∧ Below w.heap.size w w' := by
  by_cases hbig : 4096 < n
  · clear hn hz
    go_enter Ycom.func4, Ycom.ntmps4
    go_wp2
    go_ret
    exact ⟨rfl, Below.refl _ _⟩
  have HZ : Hid (IsByte z ∧ BytesAt w a n z) := hz
  clear hn hz
  go_enter Ycom.func4, Ycom.ntmps4
  go_wp2_with fail
  refine (abase_calls s w hs).mono ?_
  rintro e w1 ⟨b1, rfl, hb1, rfl⟩
  obtain ⟨N, hN⟩ : ∃ N, wrap64 ((b1 : Int) + d) = N := ⟨_, rfl⟩
  go_wp2_with (first | (at_make; refine wpList_mkBx _ (w1.heap.size + 1) hs2 rfl _ _ rfl .i64 .i64 _ _ (n + 3) (n + 3) rfl rfl (by omega) (by omega) (Nat.le_refl _) (by omega) ?_; intro w3 hrow3 hb3 hs3; have HR3 : Hid (w3.rowIs (w1.heap.size + 1) 5 (n + 3) (fun _ => .int .u8 0)) := hrow3; have HR2b : Hid (w3.rowIs w1.heap.size 5 (n + 3) (fun _ => .int .u8 0)) := rowIs_below HR2.out hb3 (by omega); have HB3 : Hid (Below w1.heap.size w1 w3) := HB2.out.trans (hb3.mono (by omega)); clear hrow3 hb3 HR2 HB2 hs2) | (at_make; refine wpList_mkBx _ _ rfl rfl _ _ rfl .i64 .i64 _ _ (n + 3) (n + 3) rfl rfl (by omega) (by omega) (Nat.le_refl _) (by omega) ?_; intro w2 hrow2 hb2 hs2; have HR2 : Hid (w2.rowIs w1.heap.size 5 (n + 3) (fun _ => .int .u8 0)) := hrow2; have HB2 : Hid (Below w1.heap.size w1 w2) := hb2; clear hrow2 hb2))
  go_loopw [14] (fun i wr => ∃ k : Nat, k ≤ n + 3 ∧ i = .int .i64 k ∧ Hid (wr.rowIs w1.heap.size 5 (n + 3) (fun j => .int .u8 (if j < k then raw n z f j else 0))) ∧ Hid (wr.rowIs (w1.heap.size + 1) 5 (n + 3) (fun j => .int .u8 (if j < k then raw n z f j else 0))) ∧ Hid (Below w1.heap.size w1 wr)) (fun i _ => n + 3 - (intOf i).toNat)
  case atStart => exact ⟨0, Nat.zero_le _, rfl, HR2b.out.congr fun j _ => by simp, HR3.out.congr fun j _ => by simp, HB3.out⟩
  case round =>
    obtain ⟨k, hk, rfl, H1, H2, HB⟩ := hrel
    by_cases hlt : k < n + 3
    · have d1 : wr.cell? ⟨w1.heap.size, k, none⟩ = some (.int .u8 _) := H1.out.cell hlt
      have f1 : wr.frozen? ⟨w1.heap.size, k, none⟩ = false := H1.out.frozen k
      have d2 : wr.cell? ⟨w1.heap.size + 1, k, none⟩ = some (.int .u8 _) := H2.out.cell hlt
      have f2 : wr.frozen? ⟨w1.heap.size + 1, k, none⟩ = false := H2.out.frozen k
      have FIN : Hid (∀ v : Int, v = raw n z f k → ∀ g, wr.rowIs g 5 (n + 3) (fun j => .int .u8 (if j < k then raw n z f j else 0)) → (wr.setCell ⟨g, k, none⟩ (.int .u8 v)).rowIs g 5 (n + 3) (fun j => .int .u8 (if j < k + 1 then raw n z f j else 0))) := fun v hv g hg => step_row hg hv
      have FIN2 : ∀ v : Int, v = raw n z f k → Hid (((wr.setCell ⟨w1.heap.size, k, none⟩ (.int .u8 v)).setCell ⟨w1.heap.size + 1, k, none⟩ (.int .u8 v)).rowIs (w1.heap.size + 1) 5 (n + 3) (fun j => .int .u8 (if j < k + 1 then raw n z f j else 0))) := fun v hv => step_row (set_other H2.out (by simp) _) hv
      by_cases h3 : k < n
      · obtain ⟨b, off, rfl, hcell⟩ := HZ.out.2 (by omega)
        have c1 : wr.cell? ⟨b, off + k, none⟩ = some (.int .u8 (z k)) := (HB.out.cell (World.block_lt_of_cell? _ _ (hcell k h3))).trans (hcell k h3)
        clear hcell
        go_wp2
        go_roundw
        case rel => exact ⟨k + 1, by omega, by go_num, set_other (FIN.out (z k) (by simp [raw, h3]) _ H1.out) (by simp) _, (FIN2 (z k) (by simp [raw, h3])).out, (HB.out.setCell (Nat.le_refl _) _).setCell (by simp) _⟩
        case measure => simp [intOf] <;> omega
      · go_wp2
        go_roundw
        case rel => exact ⟨k + 1, by omega, by go_num, set_other (FIN.out f (by simp [raw, h3]) _ H1.out) (by simp) _, (FIN2 f (by simp [raw, h3])).out, (HB.out.setCell (Nat.le_refl _) _).setCell (by simp) _⟩
        case measure => simp [intOf] <;> omega
    · obtain rfl : k = n + 3 := by omega
      have HR1 : Hid (wr.rowIs w1.heap.size 5 (n + 3) (fun j => .int .u8 (raw n z f j))) := H1.out.congr fun j hj => by rw [if_pos hj]
      have HR2 : Hid (wr.rowIs (w1.heap.size + 1) 5 (n + 3) (fun j => .int .u8 (raw n z f j))) := H2.out.congr fun j hj => by rw [if_pos hj]
      have hl1 : w1.heap.size + 1 < wr.heap.size := H2.out.lt
      clear H1 H2
      obtain ⟨m, hm⟩ : ∃ m : Nat, at' % ((n : Int) + 1) = (m : Int) := ⟨(at' % ((n : Int) + 1)).toNat, by have := Int.emod_nonneg at' (show ((n : Int) + 1) ≠ 0 by omega); omega⟩
      have hm2 : (m : Int) ≤ n := by have := Int.emod_lt_of_pos at' (show (0 : Int) < (n : Int) + 1 by omega); omega
      by_cases hr : N < 0 ∨ 65535 < N
      · have BAD : Hid (∀ w : World, (wr = w) → Calls Ycom.prog 16 #[.slice (some ⟨w1.heap.size, 0, none⟩) m (n + 3), .int .i64 N] w fun e w' => e = .returned (.tuple #[.slice (some ⟨w1.heap.size, 0, none⟩) m (n + 3), .bool false]) ∧ w' = wr) := by
          rintro w rfl
          exact al_bad _ _ _ N _ hr
        have HA1 : Hid (BytesAt wr (some ⟨w1.heap.size, 0, none⟩) (n + 3) (raw n z f)) := rowIs_bytes0 HR1.out _ (Nat.le_refl _)
        have HA2 : Hid (BytesAt wr (some ⟨w1.heap.size + 1, 0, none⟩) (n + 3) (raw n z f)) := rowIs_bytes0 HR2.out _ (Nat.le_refl _)
        rcases hr with h | h
        · go_wp2_with fail
          refine (BAD.out _ rfl).mono ?_
          rintro e w4 ⟨rfl, rfl⟩
          go_wp2_with fail
          refine (eq_calls _ _ (n + 3) (n + 3) _ _ (raw n z f) w4 (by omega) rfl HA1.out HA2.out).mono ?_
          rintro e w5 ⟨rfl, d5, rfl⟩
          go_wp2_with fail
          refine (eq_calls _ _ m m _ _ (raw n z f) (w4.drewN d5) (by omega) rfl (HA1.out.upto (by omega)) (HA2.out.upto (by omega))).mono ?_
          rintro e w6 ⟨rfl, d6, rfl⟩
          go_wp2
          go_ret
          exact ⟨rfl, HB.out.trans ((below_drewN w4 _).mono HB.out.size)⟩
        · have h0 : ¬ N < 0 := by omega
          have h0' : 0 ≤ N := by omega
          have h0'' : decide (N ≤ 65535) = false := decide_eq_false (by omega)
          go_wp2_with fail
          refine (BAD.out _ rfl).mono ?_
          rintro e w4 ⟨rfl, rfl⟩
          go_wp2_with fail
          refine (eq_calls _ _ (n + 3) (n + 3) _ _ (raw n z f) w4 (by omega) rfl HA1.out HA2.out).mono ?_
          rintro e w5 ⟨rfl, d5, rfl⟩
          go_wp2_with fail
          refine (eq_calls _ _ m m _ _ (raw n z f) (w4.drewN d5) (by omega) rfl (HA1.out.upto (by omega)) (HA2.out.upto (by omega))).mono ?_
          rintro e w6 ⟨rfl, d6, rfl⟩
          go_wp2
          go_ret
          exact ⟨rfl, HB.out.trans ((below_drewN w4 _).mono HB.out.size)⟩
      · obtain ⟨x, rfl⟩ : ∃ x : Nat, N = (x : Int) := ⟨N.toNat, by omega⟩
        have hx : (x : Int) ≤ 65535 := by omega
        have hsz := HB.out.size
        clear hr
        go_wp2_with fail
        refine (aenc_calls x wr hx).mono ?_
        rintro e w5 ⟨g, k, cm, rfl, hk3, hg1, hg2, hA, hB⟩
        have HK : Hid ((lenF x).length = k) := hk3.symm
        have hk4 : k ≤ 3 := by have h := lenF_len x; rw [← hk3] at h; split at h <;> (try split at h) <;> omega
        have HA5 : Hid (BytesAt w5 (some ⟨g, 0, none⟩) k (zl (lenF x))) := hA
        have HB5 : Hid (Below w1.heap.size w1 w5) := HB.out.trans (hB.mono hsz)
        have H51 : Hid (w5.rowIs w1.heap.size 5 (n + 3) (fun j => .int .u8 (raw n z f j))) := rowIs_below HR1.out hB (by omega)
        have H52 : Hid (w5.rowIs (w1.heap.size + 1) 5 (n + 3) (fun j => .int .u8 (raw n z f j))) := rowIs_below HR2.out hB (by omega)
        clear hA hB HR1 HR2 HB hk3
        go_wp2
        go_loopw [20] (fun i wq => ∃ q : Nat, q ≤ k ∧ i = .int .i64 q ∧ Hid (wq.rowIs w1.heap.size 5 (n + 3) (fun j => .int .u8 (raw n z f j))) ∧ Hid (wq.rowIs (w1.heap.size + 1) 5 (n + 3) (fun j => .int .u8 (put m ((lenF x).take q) (raw n z f) j))) ∧ Hid (BytesAt wq (some ⟨g, 0, none⟩) k (zl (lenF x))) ∧ Hid (Below w1.heap.size w1 wq)) (fun i _ => k - (intOf i).toNat)
        case atStart => exact ⟨0, Nat.zero_le _, rfl, H51.out, H52.out.congr fun j _ => by simp [put]; omega, HA5.out, HB5.out⟩
        case round =>
          obtain ⟨q, hq, rfl, H1, H2, HF, HB⟩ := hrel
          by_cases hlt : q < k
          · obtain ⟨b, off, e, hcell⟩ := HF.out (by omega)
            simp only [Option.some.injEq, Addr.mk.injEq, and_true] at e
            obtain ⟨rfl, rfl⟩ := e
            have c1 : wr.cell? ⟨g, q, none⟩ = some (.int .u8 (zl (lenF x) q)) := by have := hcell q hlt; rwa [Nat.zero_add] at this
            have d1 : wr.cell? ⟨w1.heap.size + 1, m + q, none⟩ = some (.int .u8 (put m ((lenF x).take q) (raw n z f) (m + q))) := H2.out.cell (by omega)
            have f1 : wr.frozen? ⟨w1.heap.size + 1, m + q, none⟩ = false := H2.out.frozen _
            have hne : g ≠ w1.heap.size + 1 := by omega
            clear hcell
            go_wp2
            go_roundw
            case rel =>
              refine ⟨q + 1, by omega, by go_num, set_other H1.out (by simp) _, step_put H2.out (by rw [HK.out]; exact hlt) rfl, fun hlt2 => ?_, HB.out.setCell (by simp) _⟩
              obtain ⟨b, off, e, hcell⟩ := HF.out hlt2
              simp only [Option.some.injEq, Addr.mk.injEq, and_true] at e
              obtain ⟨rfl, rfl⟩ := e
              exact ⟨g, 0, rfl, fun i hi => by rw [World.cell?_setCell_other _ _ _ _ (by simp)]; exact hcell i hi⟩
            case measure => simp [intOf] <;> omega
          · obtain rfl : k = q := by omega
            have HR2 : Hid (wr.rowIs (w1.heap.size + 1) 5 (n + 3) (fun j => .int .u8 (put m (lenF x) (raw n z f) j))) := H2.out.congr fun j _ => by rw [List.take_of_length_le (by rw [HK.out]; exact Nat.le_refl _)]
            have hl5 : w1.heap.size + 1 < wr.heap.size := H2.out.lt
            clear H2
            go_wp2_with fail
            refine (al_fit w1.heap.size m (n + 3) _ x wr H1.out (by omega) hx).mono ?_
            rintro e w6 ⟨m6, rfl, hm6, hrow6, hsz6, hB6, hoth⟩
            rw [HK.out] at hm6
            subst hm6
            have HA1 : Hid (BytesAt w6 (some ⟨w1.heap.size, 0, none⟩) (n + 3) (put m (lenF x) (raw n z f))) := rowIs_bytes0 (hrow6.congr fun j _ => by unfold put; split <;> rfl) _ (Nat.le_refl _)
            have HA2 : Hid (BytesAt w6 (some ⟨w1.heap.size + 1, 0, none⟩) (n + 3) (put m (lenF x) (raw n z f))) := rowIs_bytes0 (hoth _ _ _ _ (by omega) HR2.out) _ (Nat.le_refl _)
            have HB6 : Hid (Below w1.heap.size w1 w6) := HB.out.trans (hB6 _ (Nat.le_refl _) (by omega))
            clear hrow6 hoth hB6 H1 HR2 HB
            go_wp2_with fail
            refine (eq_calls _ _ (n + 3) (n + 3) _ _ _ w6 (by omega) rfl HA1.out HA2.out).mono ?_
            rintro e w7 ⟨rfl, d7, rfl⟩
            go_wp2_with fail
            refine (eq_calls _ _ (m + k) (m + k) _ _ _ (w6.drewN d7) (by omega) rfl (HA1.out.upto (by omega)) (HA2.out.upto (by omega))).mono ?_
            rintro e w8 ⟨rfl, d8, rfl⟩
            go_wp2
            go_ret
            exact ⟨rfl, HB6.out.trans ((below_drewN w6 _).mono HB6.out.size)⟩
end Go.Proofs.Ymbrco.lawS930003AInPlace
