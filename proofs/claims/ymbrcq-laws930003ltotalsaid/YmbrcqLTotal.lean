/-
  Ymbrcq: the walk of 'LawS930003LTotal'.
-/
import Derived.Test.YmbrcqSizes
import Derived.Test.YmbrcqMem
namespace Go.Proofs.Ymbrcq.lawS930003LTotal
open Go.RowKit Go.Proofs.Ymbrcq
set_option linter.unusedVariables false

set_option maxRecDepth 100000 in
theorem lpick_calls (e : Int) (w : World) (he : 0 ≤ e ∧ e ≤ 255) :
    Calls Ycqm.prog 26 #[.int .u8 e] w fun r w' => ∃ n : Nat, r = .returned (.int .i64 n) ∧ (n : Int) ≤ 65536 ∧ w' = w := by
  go_enter Ycqm.func26, Ycqm.ntmps26
  go_wp2
  all_goals
    go_ret
    first
      | (refine ⟨0, ret_int ?_, ?_, rfl⟩ <;> omega)
      | (refine ⟨5, ret_int ?_, ?_, rfl⟩ <;> omega)
      | (refine ⟨127, ret_int ?_, ?_, rfl⟩ <;> omega)
      | (refine ⟨128, ret_int ?_, ?_, rfl⟩ <;> omega)
      | (refine ⟨255, ret_int ?_, ?_, rfl⟩ <;> omega)
      | (refine ⟨256, ret_int ?_, ?_, rfl⟩ <;> omega)
      | (refine ⟨65535, ret_int ?_, ?_, rfl⟩ <;> omega)
      | (refine ⟨65536, ret_int ?_, ?_, rfl⟩ <;> omega)

/-- The sum of the sizes, a failing one counting nothing. -/
def rsum (L : Nat → Nat) : Nat → Int
  | 0 => 0
  | k + 1 => rsum L k + rsize (L k)
/-- None has failed. -/
def allB (L : Nat → Nat) : Nat → Bool
  | 0 => true
  | k + 1 => allB L k && rok (L k)
/-- L, but n at k. -/
def upd (L : Nat → Nat) (k n : Nat) : Nat → Nat := fun i => if i = k then n else L i
theorem rsum_upd (L : Nat → Nat) (k n : Nat) : ∀ j, j ≤ k → rsum (upd L k n) j = rsum L j ∧ allB (upd L k n) j = allB L j := by
  intro j
  induction j with
  | zero => intro _; exact ⟨rfl, rfl⟩
  | succ j ih =>
    intro h
    have := ih (by omega)
    simp only [rsum, allB, this.1, this.2, upd, show ¬ j = k by omega, if_false, and_self]
theorem rsum_step (L : Nat → Nat) (k n : Nat) : rsum (upd L k n) (k + 1) = rsum L k + rsize n ∧ allB (upd L k n) (k + 1) = (allB L k && rok n) := by
  have := rsum_upd L k n k (Nat.le_refl _)
  simp [rsum, allB, this.1, this.2, upd]
theorem rsize_bd (n : Nat) : 0 ≤ rsize n ∧ rsize n ≤ 65539 := by
  unfold rsize
  have := wire_ge n
  split <;> omega
theorem rsum_bd (L : Nat → Nat) (k : Nat) : 0 ≤ rsum L k ∧ rsum L k ≤ 65539 * k := by
  induction k with
  | zero => simp [rsum]
  | succ k ih => have := rsize_bd (L k); simp only [rsum]; omega
theorem all_iff (L : Nat → Nat) (k : Nat) : (allB L k = true → (∀ i, i < k → L i ≤ 65535) ∧ rsum L k = sumTo L k) ∧ (allB L k = false → ∃ i, i < k ∧ 65535 < L i) := by
  induction k with
  | zero => simp [allB, rsum, sumTo]
  | succ k ih =>
    constructor
    · intro h
      simp only [allB, Bool.and_eq_true, rok, decide_eq_true_eq] at h
      obtain ⟨h1, h2⟩ := h
      obtain ⟨g1, g2⟩ := ih.1 h1
      refine ⟨fun i hi => ?_, ?_⟩
      · by_cases e : i = k
        · rw [e]; exact h2
        · exact g1 i (by omega)
      · simp only [rsum, sumTo, g2, rsize, show ¬ 65535 < L k by omega, if_false]
        omega
    · intro h
      simp only [allB] at h
      cases h1 : allB L k with
      | false =>
        obtain ⟨i, hi, hl⟩ := ih.2 h1
        exact ⟨i, by omega, hl⟩
      | true =>
        rw [h1] at h
        simp [rok] at h
        exact ⟨k, by omega, h⟩

/-- The records of which the first k are laid. -/
def cellsTo (t : Int) (g : Nat) (N : Nat) (L : Nat → Nat) (k : Nat) : Nat → Value := fun j => if j / 2 < k then (if j % 2 = 0 then .int .u8 t else .slice (some ⟨g, 0, none⟩) (L (j / 2)) N) else (if j % 2 = 0 then .int .u8 0 else .slice none 0 0)

theorem row_step {w : World} {h n k : Nat} {t : Int} {g N : Nat} {L : Nat → Nat} {m : Nat} (hr : w.rowIs h 25 (n * 2) (cellsTo t g N L k)) :
    ((w.setCell ⟨h, k * 2, none⟩ (.int .u8 t)).setCell ⟨h, k * 2 + 1, none⟩ (.slice (some ⟨g, 0, none⟩) m N)).rowIs h 25 (n * 2) (cellsTo t g N (upd L k m) (k + 1)) := by
  refine ((hr.set (k * 2) _).set (k * 2 + 1) _).congr fun j _ => ?_
  by_cases e1 : j = k * 2 + 1
  · subst e1
    have a1 : (k * 2 + 1) / 2 = k := by omega
    have a2 : (k * 2 + 1) % 2 = 1 := by omega
    simp [cellsTo, a1, a2, upd]
  rw [if_neg e1]
  by_cases e2 : j = k * 2
  · subst e2
    have a1 : k * 2 / 2 = k := by omega
    simp [cellsTo, a1]
  rw [if_neg e2]
  unfold cellsTo
  by_cases e3 : j / 2 < k
  · rw [if_pos e3, if_pos (show j / 2 < k + 1 by omega)]
    simp [upd, show ¬ j / 2 = k by omega]
  · rw [if_neg e3, if_neg (show ¬ j / 2 < k + 1 by omega)]

theorem recsAt {w : World} {h n : Nat} {t : Int} {g N : Nat} {L : Nat → Nat} (hr : w.rowIs h 25 (n * 2) (cellsTo t g N L n)) : RecsAt w (some ⟨h, 0, none⟩) n ⟨fun _ => t, fun _ => some ⟨g, 0, none⟩, L, fun _ => N, fun _ _ => 0⟩ := by
  intro _
  refine ⟨h, 0, rfl, fun i hi => ?_, fun i hi => ?_⟩
  · rw [hr.cell (by omega)]
    have a1 : (0 + i * 2) / 2 = i := by omega
    have a2 : (0 + i * 2) % 2 = 0 := by omega
    simp only [cellsTo, a1, a2, hi, if_true]
  · rw [hr.cell (by omega)]
    have a1 : (0 + i * 2 + 1) / 2 = i := by omega
    have a2 : (0 + i * 2 + 1) % 2 = 1 := by omega
    simp only [cellsTo, a1, a2, hi, if_true]
    simp

set_option maxHeartbeats 2000000 in
theorem walk (t : Int) (a : Option Addr) (n c : Nat) (z : Nat → Int) (w : World) (ht : 0 ≤ t ∧ t ≤ 255) (_hl : n ≤ c) (hc : c ≤ 9223372036854775807) (_hn : a = none → n = 0 ∧ c = 0) (hz : IsByte z ∧ BytesAt w a n z) :
    Calls Ycqm.prog 14 #[.int .u8 t, .slice a n c] w fun e w' => e = .returned (.bool true) ∧ Below w.heap.size w w' := by
  obtain ⟨hz1, hz2⟩ := hz
  have HZ : Hid (IsByte z) := hz1
  have HA : Hid (BytesAt w a n z) := hz2
  clear hz1 hz2 _hn
  by_cases hbig : 1024 < n
  · go_enter Ycqm.func14, Ycqm.ntmps14
    go_wp2
    go_ret
    exact ⟨rfl, Below.refl _ _⟩
  obtain ⟨N, hN1, hN2⟩ : ∃ N : Nat, (65536 : Int) ≤ N ∧ (N : Int) ≤ 65536 := ⟨65536, by omega, by omega⟩
  go_enter Ycqm.func14, Ycqm.ntmps14
  go_wp2_with (first | (at_make; refine wpList_mkB _ rfl _ _ rfl .i64 .i64 _ _ N N rfl rfl (by omega) (by omega) (Nat.le_refl _) (by omega) ?_; intro w1 hrow1 hb1 hs1) | (at_make; refine wpList_mkR _ rfl _ _ rfl .i64 .i64 _ _ n n rfl rfl rfl rfl (Nat.le_refl _) (by omega) ?_; intro w2 hrow hb2 hs2))
  have hsz : w2.heap.size = w.heap.size + 2 := by omega
  rw [hs1] at hrow
  go_loopw [7, 8, 9] (fun x y i wr => ∃ (k : Nat) (L : Nat → Nat), k ≤ n ∧ i = .int .i64 k ∧ x = .int .i64 (rsum L k) ∧ y = .bool (allB L k) ∧ Hid (∀ i, i < n → (L i : Int) ≤ 65536) ∧ wr.rowIs (w.heap.size + 1) 25 (n * 2) (cellsTo t w.heap.size N L k) ∧ Below w.heap.size w wr)
    (fun _ _ i _ => n - (intOf i).toNat)
  case atStart => exact ⟨0, fun _ => 0, Nat.zero_le _, rfl, rfl, rfl, fun _ _ => by simp, hrow.congr fun j _ => by simp [cellsTo], hb1.trans (hb2.mono (by omega))⟩
  case round =>
    obtain ⟨k, L, hk, rfl, rfl, rfl, HL, hr, hb⟩ := hrel
    clear hrow hb1 hb2 hrow1
    have hsr := hr.lt
    have hbd := rsum_bd L k
    by_cases hlt : k < n
    · obtain ⟨b, off, rfl, hcell⟩ := HA.out (by omega)
      have h1 : wr.cell? ⟨b, off + k, none⟩ = some (.int .u8 (z k)) := (hb.cell (World.block_lt_of_cell? _ _ (hcell k hlt))).trans (hcell k hlt)
      have hz0 := HZ.out k
      clear hcell
      go_wp2_with fail
      refine (lpick_calls _ _ hz0).mono ?_
      rintro e w3 ⟨m, rfl, hm, rfl⟩
      have f1 : w3.frozen? ⟨w.heap.size + 1, k * 2, none⟩ = false := hr.frozen _
      have f2 : w3.frozen? ⟨w.heap.size + 1, k * 2 + 1, none⟩ = false := hr.frozen _
      have d1 : w3.cell? ⟨w.heap.size + 1, k * 2, none⟩ = some (cellsTo t w.heap.size N L k (k * 2)) := hr.cell (by omega)
      have d2 : w3.cell? ⟨w.heap.size + 1, k * 2 + 1, none⟩ = some (cellsTo t w.heap.size N L k (k * 2 + 1)) := hr.cell (by omega)
      have n1 : ¬ w3.heap.size = w.heap.size + 1 := by omega
      have n2 : ¬ w.heap.size + 1 = w3.heap.size := by omega
      have hst := rsum_step L k m
      have hrs := rsize_bd m
      have HL2 : Hid (∀ i, i < n → (upd L k m i : Int) ≤ 65536) := by
        intro i hi
        unfold upd
        split
        · exact hm
        · exact HL.out i hi
      have hr2 := row_step (m := m) hr
      have hb2 : Below w.heap.size w ((w3.setCell ⟨w.heap.size + 1, k * 2, none⟩ (.int .u8 t)).setCell ⟨w.heap.size + 1, k * 2 + 1, none⟩ (.slice (some ⟨w.heap.size, 0, none⟩) m N)) := (hb.setCell (by simp) _).setCell (by simp) _
      have HS : Hid (rsum (upd L k m) (k + 1) = rsum L k + rsize m) := hst.1
      have HS2 : Hid (allB (upd L k m) (k + 1) = (allB L k && rok m)) := hst.2
      have HR2 : Hid (((w3.setCell ⟨w.heap.size + 1, k * 2, none⟩ (.int .u8 t)).setCell ⟨w.heap.size + 1, k * 2 + 1, none⟩ (.slice (some ⟨w.heap.size, 0, none⟩) m N)).rowIs (w.heap.size + 1) 25 (n * 2) (cellsTo t w.heap.size N (upd L k m) (k + 1))) := hr2
      have HB2 : Hid (Below w.heap.size w ((w3.setCell ⟨w.heap.size + 1, k * 2, none⟩ (.int .u8 t)).setCell ⟨w.heap.size + 1, k * 2 + 1, none⟩ (.slice (some ⟨w.heap.size, 0, none⟩) m N))) := hb2
      clear hst hr2 hb2 hr hb
      go_wp2_with fail
      generalize hW : (w3.setCell ⟨w.heap.size + 1, k * 2, none⟩ (.int .u8 t)).setCell ⟨w.heap.size + 1, k * 2 + 1, none⟩ (.slice (some ⟨w.heap.size, 0, none⟩) m N) = W at *
      have hWs : W.heap.size = w3.heap.size := by rw [← hW]; simp
      clear hW f1 f2 d1 d2 h1
      refine (rs_calls t _ m N _ (by omega)).mono ?_
      rintro e w4 ⟨rfl, hb4⟩
      have hc4 : w4.cell? ⟨w3.heap.size, 1, none⟩ = some (.slice (some ⟨w.heap.size, 0, none⟩) m N) := by
        rw [hb4.cell (p := ⟨w3.heap.size, 1, none⟩) (by simp; omega), ← hWs]
        simp
      have HB4 : Hid (Below w.heap.size w w4) := (HB2.out.alloc HB2.out.size _).trans (hb4.mono (by simp; have := HB2.out.size; omega))
      have HR4 : Hid (w4.rowIs (w.heap.size + 1) 25 (n * 2) (cellsTo t w.heap.size N (upd L k m) (k + 1))) := rowIs_below (HR2.out.alloc _) hb4 (by simp; omega)
      clear hb4 hWs HR2 HB2
      by_cases hq : m ≤ 65535
      · have q1 : rok m = true := by simp [rok]; omega
        have q2 : decide ((m : Int) ≤ 65535) = true := decide_eq_true (by omega)
        clear hq
        go_wp2
        go_roundw
        case rel => exact ⟨k + 1, upd L k m, by omega, by go_num, by rw [HS.out], by rw [HS2.out, q1]; simp, HL2, HR4.out, HB4.out⟩
        case measure => simp [intOf] <;> omega
      · have q1 : rok m = false := by simp [rok]; omega
        have q2 : decide ((m : Int) ≤ 65535) = false := decide_eq_false (by omega)
        clear hq
        go_wp2
        go_roundw
        case rel => exact ⟨k + 1, upd L k m, by omega, by go_num, by rw [HS.out], by rw [HS2.out, q1]; simp, HL2, HR4.out, HB4.out⟩
        case measure => simp [intOf] <;> omega
    · obtain rfl : k = n := by omega
      have hA := all_iff L k
      go_wp2_with fail
      refine (ts_calls _ k k ⟨fun _ => t, fun _ => some ⟨w.heap.size, 0, none⟩, L, fun _ => N, fun _ _ => 0⟩ _ (by omega) (recsAt hr) (fun i hi => by have := HL.out i hi; dsimp only; omega)).mono ?_
      rintro e w4 ⟨q, bo, rfl, hT, hb4⟩
      have HB4 : Hid (Below w.heap.size w w4) := hb.trans (hb4.mono hb.size)
      clear hb4 hb hr
      cases hall : allB L k with
      | false =>
        obtain ⟨i, hi, hl⟩ := hA.2 hall
        have hnf : ¬ Fits L k := fun h => by have := h.1 i hi; omega
        rcases hT with ⟨_, h, _⟩ | ⟨rfl, _, rfl⟩
        · exact absurd h hnf
        clear hnf hA
        go_wp2
        go_ret
        exact ⟨rfl, HB4.out⟩
      | true =>
        obtain ⟨g1, g2⟩ := hA.1 hall
        by_cases hbg : (1048576 : Int) < rsum L k
        · have hnf : ¬ Fits L k := fun h => by have := h.2; omega
          rcases hT with ⟨_, h, _⟩ | ⟨rfl, _, rfl⟩
          · exact absurd h hnf
          clear hnf hA g1 g2
          go_wp2
          go_ret
          exact ⟨rfl, HB4.out⟩
        · have hf : Fits L k := ⟨g1, by omega⟩
          rcases hT with ⟨rfl, _, rfl⟩ | ⟨_, h, _⟩
          rotate_left
          · exact absurd hf h
          dsimp only at *
          have q3 : ((sumTo L k : Int) == rsum L k) = true := by simp [g2]
          clear hA g1 g2 hf
          go_wp2
          go_ret
          exact ⟨ret_bool (by simp), HB4.out⟩
end Go.Proofs.Ymbrcq.lawS930003LTotal
