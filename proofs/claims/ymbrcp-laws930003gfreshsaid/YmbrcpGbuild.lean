/-
  Ymbrcp: 'zzs930003gsize', 'zzs930003gat' and 'zzs930003gbuild': a record written by hand behind a prefix.
-/
import Derived.Test.YmbrcpEnc
import Derived.Test.YmbrcpMem
namespace Go.Proofs.Ymbrcp
open Go.RowKit
set_option linter.unusedVariables false

set_option maxRecDepth 100000 in
theorem gsize_calls (k x : Int) (w : World) (hk : 0 ≤ k ∧ k ≤ 255) (hx : 0 ≤ x ∧ x ≤ 65535) :
    Calls Ycpm.prog 22 #[.int .u8 k, .int .u16 x] w fun r w' => ∃ n : Nat, r = .returned (.int .i64 n) ∧ (n : Int) ≤ 65535 ∧ w' = w := by
  obtain ⟨x, rfl⟩ := Int.eq_ofNat_of_zero_le hx.1
  go_enter Ycpm.func22, Ycpm.ntmps22
  go_wp2
  all_goals
    go_ret
    first
      | (refine ⟨x % 128, ret_int ?_, ?_, rfl⟩ <;> omega)
      | (refine ⟨128 + x % 128, ret_int ?_, ?_, rfl⟩ <;> omega)
      | (refine ⟨256 + x % 65280, ret_int ?_, ?_, rfl⟩ <;> omega)

/-- The i-th byte of the value. -/
def gat (s : Int) (i : Nat) : Int := ((s + (i : Int)) % 256 + (i : Int) / 256) % 256
theorem gat_byte (s : Int) (i : Nat) : 0 ≤ gat s i ∧ gat s i ≤ 255 := by unfold gat; omega
/-- The value. -/
def gval (s : Int) (n : Nat) : List Int := (List.range n).map (gat s)
theorem gval_len (s : Int) (n : Nat) : (gval s n).length = n := by simp [gval]
theorem gval_succ (s : Int) (n : Nat) : gval s (n + 1) = gval s n ++ [gat s n] := by simp [gval, List.range_succ]
theorem gval_bytes (s : Int) (n : Nat) : AllB (gval s n) := by
  intro x hx
  obtain ⟨i, _, rfl⟩ := List.mem_map.1 hx
  exact gat_byte s i

theorem gat_calls (s : Int) (i : Nat) (w : World) (hs : 0 ≤ s ∧ s ≤ 255) (hi : (i : Int) ≤ 65535) :
    Calls Ycpm.prog 24 #[.int .u8 s, .int .i64 i] w fun r w' => r = .returned (.int .u8 (gat s i)) ∧ w' = w := by
  go_enter Ycpm.func24, Ycpm.ntmps24
  go_wp2
  go_ret
  exact ⟨rfl, rfl⟩

/-- The bytes of a slice as a list. -/
def lst (n : Nat) (z : Nat → Int) : List Int := (List.range n).map z
theorem lst_len (n : Nat) (z : Nat → Int) : (lst n z).length = n := by simp [lst]

theorem tupB {a : Option Addr} {n c : Nat} {x y : Int} (h : x = y) : Ending.returned (.tuple #[.slice a n c, .int .i64 x]) = .returned (.tuple #[.slice a n c, .int .i64 y]) := by rw [h]

set_option maxRecDepth 100000 in
set_option maxHeartbeats 8000000 in
theorem gbuild_calls (a : Option Addr) (pl pc : Nat) (z : Nat → Int) (t s : Int) (n : Nat) (w : World) (hnil : a = none → pl = 0 ∧ pc = 0) (ha : BytesAt w a pl z) (hpl : (pl : Int) ≤ 4096) (ht : 0 ≤ t ∧ t ≤ 255) (hs : 0 ≤ s ∧ s ≤ 255) (hn : (n : Int) ≤ 65535) :
    Calls Ycpm.prog 23 #[.slice a pl pc, .int .u8 t, .int .u8 s, .int .i64 n] w fun e w' => ∃ ao N cap st, e = .returned (.tuple #[.slice ao N cap, .int .i64 st]) ∧ st = (pl : Int) + (1 + (lenF n).length : Nat) ∧ OwnB w' w.heap.size (.slice ao N cap) (lst pl z ++ enc t (gval s n)) ∧ Below w.heap.size w w' := by
  have HA : Hid (BytesAt w a pl z) := ha
  have HNL : Hid (a = none → pl = 0 ∧ pc = 0) := hnil
  have HG : Hid (∀ i, 0 ≤ gat s i ∧ gat s i ≤ 255) := gat_byte s
  clear ha hnil
  by_cases h1 : n < 128
  · have h1' : (n : Int) ≤ 127 := by omega
    have HLF : Hid (lenF n = [(n : Int)]) := by simp [Hid, lenF, h1]
    go_enter Ycpm.func23, Ycpm.ntmps23
    go_wp2_with (first
      | (at_make; refine wpList_mkBx _ _ rfl rfl _ _ rfl .i64 .i64 _ _ 0 (pl + 4 + n) rfl rfl (by omega) (by omega) (Nat.zero_le _) (by omega) ?_; intro w0 hrow0 hb0 hs0; have HO0 : Hid (OwnB w0 w.heap.size (.slice (some ⟨w.heap.size, 0, none⟩) 0 (pl + 4 + n)) []) := OwnB.made hrow0 (Nat.le_refl _) (by omega); have HB0 : Hid (Below w.heap.size w w0) := hb0; have hz0 : w.heap.size ≤ w0.heap.size := (by omega); clear hrow0 hb0 hs0)
      | (at_builtin; refine wpList_appB _ rfl (.tmp 19) (.tmp 20) rfl w.heap.size _ 0 _ [] rfl HO0.out a pl pc rfl (lst pl z) (lst_len _ _) (listAt_of (HA.out.below HB0.out)) HNL.out (by omega) hz0 ?_; intro ao1 cap1 w1 hown1 hg1 hb1 hne1 hp1; have HO1 : Hid (OwnB w1 w.heap.size (.slice ao1 pl cap1) (lst pl z)) := (by have h := hown1; rw [Nat.zero_add, List.nil_append] at h; exact h); have HB1 : Hid (Below w.heap.size w w1) := HB0.out.trans hb1; have hz1 : w.heap.size ≤ w1.heap.size := HB1.out.size; clear hown1 hg1 hb1 hne1 hp1; simp only [Nat.zero_add])
      | (at_builtin; refine wpList_appB _ rfl (.tmp 22) (.tmp 24) rfl w.heap.size ao1 pl cap1 _ rfl (HO1.out.alloc _) _ 1 1 rfl [t] rfl (listAt_new _ [t] _) (by simp) (by omega) (by simp; omega) ?_; intro ao2 cap2 w2 hown2 hg2 hb2 hne2 hp2; have HO2 : Hid (OwnB w2 w.heap.size (.slice ao2 (pl + 1) cap2) (lst pl z ++ [t])) := hown2; have HB2 : Hid (Below w.heap.size w w2) := (HB1.out.alloc hz1 _).trans hb2; have hz2 : w.heap.size ≤ w2.heap.size := HB2.out.size; clear hown2 hg2 hb2 hne2 hp2)
      | (at_builtin; refine wpList_appB _ rfl (.tmp 28) (.tmp 31) rfl w.heap.size ao2 (pl + 1) cap2 _ rfl (HO2.out.alloc _) _ 1 1 rfl [(n : Int)] rfl (listAt_new _ [(n : Int)] _) (by simp) (by omega) (by simp; omega) ?_; intro ao3 cap3 w3 hown3 hg3 hb3 hne3 hp3; have HO3 : Hid (OwnB w3 w.heap.size (.slice ao3 (pl + 1 + 1) cap3) (lst pl z ++ [t] ++ [(n : Int)])) := hown3; have HB3 : Hid (Below w.heap.size w w3) := (HB2.out.alloc hz2 _).trans hb3; clear hown3 hg3 hb3 hne3 hp3))
    go_loopw [10, 12] (fun b i wr => ∃ (k : Nat) (ao' : Option Addr) (cap' : Nat), k ≤ n ∧ i = .int .i64 k ∧ b = .slice ao' (pl + 1 + 1 + k) cap' ∧ Hid (OwnB wr w.heap.size (.slice ao' (pl + 1 + 1 + k) cap') (lst pl z ++ [t] ++ [(n : Int)] ++ gval s k)) ∧ Hid (Below w.heap.size w wr))
      (fun _ i _ => n - (intOf i).toNat)
    case atStart => exact ⟨0, ao3, cap3, Nat.zero_le _, rfl, rfl, by simpa [gval] using HO3, HB3⟩
    case round =>
      obtain ⟨k, ao', cap', hk, rfl, rfl, HO', HB'⟩ := hrel
      by_cases hlt : k < n
      · have hzr : w.heap.size ≤ wr.heap.size := HB'.out.size
        have hgb := HG.out k
        go_wp2_with (first
          | (go_at_call 24; refine (gat_calls s k _ hs (by omega)).mono ?_; rintro e w' ⟨rfl, rfl⟩)
          | (at_builtin; refine wpList_appB _ rfl (.tmp 55) (.tmp 59) rfl w.heap.size ao' (pl + 1 + 1 + k) cap' _ rfl (HO'.out.alloc _) _ 1 1 rfl [gat s k] rfl (listAt_new _ [gat s k] _) (by simp) (by omega) (by simp; omega) ?_; intro ao4 cap4 w4 hown4 hg4 hb4 hne4 hp4; have HO4 : Hid (OwnB w4 w.heap.size (.slice ao4 (pl + 1 + 1 + k + 1) cap4) (lst pl z ++ [t] ++ [(n : Int)] ++ gval s k ++ [gat s k])) := hown4; have HB4 : Hid (Below w.heap.size w w4) := (HB'.out.alloc hzr _).trans hb4; clear hown4 hg4 hb4 hne4 hp4))
        go_roundw
        case rel => exact ⟨k + 1, ao4, cap4, by omega, by go_num, rfl, by have h := HO4; rw [List.append_assoc _ (gval s k), ← gval_succ] at h; exact h, HB4⟩
        case measure => simp [intOf] <;> omega
      · obtain rfl : n = k := by omega
        go_wp2
        go_ret2
        refine ⟨ao', _, cap', (pl : Int) + (1 + (lenF n).length : Nat), tupB ?_, rfl, ?_, HB'.out⟩
        · rw [HLF.out]; simp; omega
        · have h := HO'.out
          have e : lst pl z ++ enc t (gval s n) = lst pl z ++ [t] ++ [(n : Int)] ++ gval s n := by unfold enc; rw [gval_len, HLF.out]; simp
          rw [e]
          exact h
  by_cases h2 : n < 256
  · have h2' : (n : Int) ≤ 255 := by omega
    have HLF : Hid (lenF n = [129, (n : Int)]) := by simp [Hid, lenF, h1, h2]
    go_enter Ycpm.func23, Ycpm.ntmps23
    go_wp2_with (first
      | (at_make; refine wpList_mkBx _ _ rfl rfl _ _ rfl .i64 .i64 _ _ 0 (pl + 4 + n) rfl rfl (by omega) (by omega) (Nat.zero_le _) (by omega) ?_; intro w0 hrow0 hb0 hs0; have HO0 : Hid (OwnB w0 w.heap.size (.slice (some ⟨w.heap.size, 0, none⟩) 0 (pl + 4 + n)) []) := OwnB.made hrow0 (Nat.le_refl _) (by omega); have HB0 : Hid (Below w.heap.size w w0) := hb0; have hz0 : w.heap.size ≤ w0.heap.size := (by omega); clear hrow0 hb0 hs0)
      | (at_builtin; refine wpList_appB _ rfl (.tmp 19) (.tmp 20) rfl w.heap.size _ 0 _ [] rfl HO0.out a pl pc rfl (lst pl z) (lst_len _ _) (listAt_of (HA.out.below HB0.out)) HNL.out (by omega) hz0 ?_; intro ao1 cap1 w1 hown1 hg1 hb1 hne1 hp1; have HO1 : Hid (OwnB w1 w.heap.size (.slice ao1 pl cap1) (lst pl z)) := (by have h := hown1; rw [Nat.zero_add, List.nil_append] at h; exact h); have HB1 : Hid (Below w.heap.size w w1) := HB0.out.trans hb1; have hz1 : w.heap.size ≤ w1.heap.size := HB1.out.size; clear hown1 hg1 hb1 hne1 hp1; simp only [Nat.zero_add])
      | (at_builtin; refine wpList_appB _ rfl (.tmp 22) (.tmp 24) rfl w.heap.size ao1 pl cap1 _ rfl (HO1.out.alloc _) _ 1 1 rfl [t] rfl (listAt_new _ [t] _) (by simp) (by omega) (by simp; omega) ?_; intro ao2 cap2 w2 hown2 hg2 hb2 hne2 hp2; have HO2 : Hid (OwnB w2 w.heap.size (.slice ao2 (pl + 1) cap2) (lst pl z ++ [t])) := hown2; have HB2 : Hid (Below w.heap.size w w2) := (HB1.out.alloc hz1 _).trans hb2; have hz2 : w.heap.size ≤ w2.heap.size := HB2.out.size; clear hown2 hg2 hb2 hne2 hp2)
      | (at_builtin; refine wpList_appB _ rfl (.tmp 35) (.tmp 38) rfl w.heap.size ao2 (pl + 1) cap2 _ rfl (HO2.out.alloc _) _ 2 2 rfl [129, (n : Int)] rfl (listAt_new _ [129, (n : Int)] _) (by simp) (by omega) (by simp; omega) ?_; intro ao3 cap3 w3 hown3 hg3 hb3 hne3 hp3; have HO3 : Hid (OwnB w3 w.heap.size (.slice ao3 (pl + 1 + 2) cap3) (lst pl z ++ [t] ++ [129, (n : Int)])) := hown3; have HB3 : Hid (Below w.heap.size w w3) := (HB2.out.alloc hz2 _).trans hb3; clear hown3 hg3 hb3 hne3 hp3))
    go_loopw [10, 12] (fun b i wr => ∃ (k : Nat) (ao' : Option Addr) (cap' : Nat), k ≤ n ∧ i = .int .i64 k ∧ b = .slice ao' (pl + 1 + 2 + k) cap' ∧ Hid (OwnB wr w.heap.size (.slice ao' (pl + 1 + 2 + k) cap') (lst pl z ++ [t] ++ [129, (n : Int)] ++ gval s k)) ∧ Hid (Below w.heap.size w wr))
      (fun _ i _ => n - (intOf i).toNat)
    case atStart => exact ⟨0, ao3, cap3, Nat.zero_le _, rfl, rfl, by simpa [gval] using HO3, HB3⟩
    case round =>
      obtain ⟨k, ao', cap', hk, rfl, rfl, HO', HB'⟩ := hrel
      by_cases hlt : k < n
      · have hzr : w.heap.size ≤ wr.heap.size := HB'.out.size
        have hgb := HG.out k
        go_wp2_with (first
          | (go_at_call 24; refine (gat_calls s k _ hs (by omega)).mono ?_; rintro e w' ⟨rfl, rfl⟩)
          | (at_builtin; refine wpList_appB _ rfl (.tmp 55) (.tmp 59) rfl w.heap.size ao' (pl + 1 + 2 + k) cap' _ rfl (HO'.out.alloc _) _ 1 1 rfl [gat s k] rfl (listAt_new _ [gat s k] _) (by simp) (by omega) (by simp; omega) ?_; intro ao4 cap4 w4 hown4 hg4 hb4 hne4 hp4; have HO4 : Hid (OwnB w4 w.heap.size (.slice ao4 (pl + 1 + 2 + k + 1) cap4) (lst pl z ++ [t] ++ [129, (n : Int)] ++ gval s k ++ [gat s k])) := hown4; have HB4 : Hid (Below w.heap.size w w4) := (HB'.out.alloc hzr _).trans hb4; clear hown4 hg4 hb4 hne4 hp4))
        go_roundw
        case rel => exact ⟨k + 1, ao4, cap4, by omega, by go_num, rfl, by have h := HO4; rw [List.append_assoc _ (gval s k), ← gval_succ] at h; exact h, HB4⟩
        case measure => simp [intOf] <;> omega
      · obtain rfl : n = k := by omega
        go_wp2
        go_ret2
        refine ⟨ao', _, cap', (pl : Int) + (1 + (lenF n).length : Nat), tupB ?_, rfl, ?_, HB'.out⟩
        · rw [HLF.out]; simp; omega
        · have h := HO'.out
          have e : lst pl z ++ enc t (gval s n) = lst pl z ++ [t] ++ [129, (n : Int)] ++ gval s n := by unfold enc; rw [gval_len, HLF.out]; simp
          rw [e]
          exact h
  · have h2' : (256 : Int) ≤ n := by omega
    have HLF : Hid (lenF n = [130, (n : Int) / 256, (n : Int) % 256]) := by simp [Hid, lenF, h1, h2]
    go_enter Ycpm.func23, Ycpm.ntmps23
    go_wp2_with (first
      | (at_make; refine wpList_mkBx _ _ rfl rfl _ _ rfl .i64 .i64 _ _ 0 (pl + 4 + n) rfl rfl (by omega) (by omega) (Nat.zero_le _) (by omega) ?_; intro w0 hrow0 hb0 hs0; have HO0 : Hid (OwnB w0 w.heap.size (.slice (some ⟨w.heap.size, 0, none⟩) 0 (pl + 4 + n)) []) := OwnB.made hrow0 (Nat.le_refl _) (by omega); have HB0 : Hid (Below w.heap.size w w0) := hb0; have hz0 : w.heap.size ≤ w0.heap.size := (by omega); clear hrow0 hb0 hs0)
      | (at_builtin; refine wpList_appB _ rfl (.tmp 19) (.tmp 20) rfl w.heap.size _ 0 _ [] rfl HO0.out a pl pc rfl (lst pl z) (lst_len _ _) (listAt_of (HA.out.below HB0.out)) HNL.out (by omega) hz0 ?_; intro ao1 cap1 w1 hown1 hg1 hb1 hne1 hp1; have HO1 : Hid (OwnB w1 w.heap.size (.slice ao1 pl cap1) (lst pl z)) := (by have h := hown1; rw [Nat.zero_add, List.nil_append] at h; exact h); have HB1 : Hid (Below w.heap.size w w1) := HB0.out.trans hb1; have hz1 : w.heap.size ≤ w1.heap.size := HB1.out.size; clear hown1 hg1 hb1 hne1 hp1; simp only [Nat.zero_add])
      | (at_builtin; refine wpList_appB _ rfl (.tmp 22) (.tmp 24) rfl w.heap.size ao1 pl cap1 _ rfl (HO1.out.alloc _) _ 1 1 rfl [t] rfl (listAt_new _ [t] _) (by simp) (by omega) (by simp; omega) ?_; intro ao2 cap2 w2 hown2 hg2 hb2 hne2 hp2; have HO2 : Hid (OwnB w2 w.heap.size (.slice ao2 (pl + 1) cap2) (lst pl z ++ [t])) := hown2; have HB2 : Hid (Below w.heap.size w w2) := (HB1.out.alloc hz1 _).trans hb2; have hz2 : w.heap.size ≤ w2.heap.size := HB2.out.size; clear hown2 hg2 hb2 hne2 hp2)
      | (at_builtin; refine wpList_appB _ rfl (.tmp 40) (.tmp 46) rfl w.heap.size ao2 (pl + 1) cap2 _ rfl (HO2.out.alloc _) _ 3 3 rfl [130, (n : Int) / 256, (n : Int) % 256] rfl (listAt_new _ [130, (n : Int) / 256, (n : Int) % 256] _) (by simp) (by omega) (by simp; omega) ?_; intro ao3 cap3 w3 hown3 hg3 hb3 hne3 hp3; have HO3 : Hid (OwnB w3 w.heap.size (.slice ao3 (pl + 1 + 3) cap3) (lst pl z ++ [t] ++ [130, (n : Int) / 256, (n : Int) % 256])) := hown3; have HB3 : Hid (Below w.heap.size w w3) := (HB2.out.alloc hz2 _).trans hb3; clear hown3 hg3 hb3 hne3 hp3))
    go_loopw [10, 12] (fun b i wr => ∃ (k : Nat) (ao' : Option Addr) (cap' : Nat), k ≤ n ∧ i = .int .i64 k ∧ b = .slice ao' (pl + 1 + 3 + k) cap' ∧ Hid (OwnB wr w.heap.size (.slice ao' (pl + 1 + 3 + k) cap') (lst pl z ++ [t] ++ [130, (n : Int) / 256, (n : Int) % 256] ++ gval s k)) ∧ Hid (Below w.heap.size w wr))
      (fun _ i _ => n - (intOf i).toNat)
    case atStart => exact ⟨0, ao3, cap3, Nat.zero_le _, rfl, rfl, by simpa [gval] using HO3, HB3⟩
    case round =>
      obtain ⟨k, ao', cap', hk, rfl, rfl, HO', HB'⟩ := hrel
      by_cases hlt : k < n
      · have hzr : w.heap.size ≤ wr.heap.size := HB'.out.size
        have hgb := HG.out k
        go_wp2_with (first
          | (go_at_call 24; refine (gat_calls s k _ hs (by omega)).mono ?_; rintro e w' ⟨rfl, rfl⟩)
          | (at_builtin; refine wpList_appB _ rfl (.tmp 55) (.tmp 59) rfl w.heap.size ao' (pl + 1 + 3 + k) cap' _ rfl (HO'.out.alloc _) _ 1 1 rfl [gat s k] rfl (listAt_new _ [gat s k] _) (by simp) (by omega) (by simp; omega) ?_; intro ao4 cap4 w4 hown4 hg4 hb4 hne4 hp4; have HO4 : Hid (OwnB w4 w.heap.size (.slice ao4 (pl + 1 + 3 + k + 1) cap4) (lst pl z ++ [t] ++ [130, (n : Int) / 256, (n : Int) % 256] ++ gval s k ++ [gat s k])) := hown4; have HB4 : Hid (Below w.heap.size w w4) := (HB'.out.alloc hzr _).trans hb4; clear hown4 hg4 hb4 hne4 hp4))
        go_roundw
        case rel => exact ⟨k + 1, ao4, cap4, by omega, by go_num, rfl, by have h := HO4; rw [List.append_assoc _ (gval s k), ← gval_succ] at h; exact h, HB4⟩
        case measure => simp [intOf] <;> omega
      · obtain rfl : n = k := by omega
        go_wp2
        go_ret2
        refine ⟨ao', _, cap', (pl : Int) + (1 + (lenF n).length : Nat), tupB ?_, rfl, ?_, HB'.out⟩
        · rw [HLF.out]; simp; omega
        · have h := HO'.out
          have e : lst pl z ++ enc t (gval s n) = lst pl z ++ [t] ++ [130, (n : Int) / 256, (n : Int) % 256] ++ gval s n := by unfold enc; rw [gval_len, HLF.out]; simp
          rw [e]
          exact h
end Go.Proofs.Ymbrcp
