/-
  Ymbrcq: 'zzs930003krecord' appends one record's encoding.
-/
import Derived.Test.YmbrcqEnc
import Derived.Test.YmbrcqMem
namespace Go.Proofs.Ymbrcq.lawS930003KBuilt
open Go.RowKit Go.Proofs.Ymbrcq
set_option linter.unusedVariables false

def klen (v : Nat) : Nat := if v % 3 = 0 then v / 3 % 128 else if v % 3 = 1 then 128 + v / 3 % 128 else 256 + v / 3 % 256
def krec (v : Nat) (t f : Int) : List Int := enc t (List.replicate (klen v) f)

theorem klen_le (v : Nat) : klen v ≤ 511 := by
  unfold klen
  repeat' split
  all_goals omega

theorem krec_eq (v : Nat) (t f : Int) (h : List Int) (m : Nat) (hm : klen v = m) (hh : lenF m = h) : krec v t f = [t] ++ h ++ List.replicate m f := by
  unfold krec enc
  rw [hm, List.length_replicate, hh]
  simp

theorem rep_snoc (k : Nat) (f : Int) (l : List Int) : l ++ List.replicate k f ++ [f] = l ++ List.replicate (k + 1) f := by
  rw [List.append_assoc, List.replicate_succ']

theorem krec0 (v m : Nat) (t f : Int) (h : v % 3 = 0) (hm : (v : Int) / 3 % 128 = m) : krec v t f = [t] ++ [(m : Int)] ++ List.replicate m f :=
  krec_eq v t f _ m (by unfold klen; rw [if_pos h]; omega) (by unfold lenF; rw [if_pos (by omega)])
theorem krec1 (v m : Nat) (t f : Int) (h : v % 3 = 1) (hm : (v : Int) / 3 % 128 = m) : krec v t f = [t] ++ [129, 128 + (m : Int)] ++ List.replicate (128 + m) f :=
  krec_eq v t f _ (128 + m) (by unfold klen; rw [if_neg (by omega), if_pos h]; omega) (by unfold lenF; rw [if_neg (by omega), if_pos (by omega)]; simp)
theorem krec2 (v m : Nat) (t f : Int) (h : v % 3 = 2) (hm : (v : Int) / 3 % 256 = m) : krec v t f = [t] ++ [130, 1, (m : Int)] ++ List.replicate (m + 256) f :=
  krec_eq v t f _ (m + 256) (by unfold klen; rw [if_neg (by omega), if_neg (by omega)]; omega) (by
    unfold lenF
    rw [if_neg (by omega), if_neg (by omega)]
    have e1 : ((m + 256 : Nat) : Int) / 256 = 1 := by omega
    have e2 : ((m + 256 : Nat) : Int) % 256 = (m : Int) := by omega
    rw [e1, e2])

set_option maxRecDepth 100000 in
set_option maxHeartbeats 4000000 in
theorem krec_calls (ao : Option Addr) (n cap : Nat) (bs : List Int) (v : Nat) (t f : Int) (w : World) (base : Nat) (hown : OwnB w base (.slice ao n cap) bs) (hn : (n : Int) ≤ 10000000) (hbase : base ≤ w.heap.size) (hv : (v : Int) ≤ 65535) (ht : 0 ≤ t ∧ t ≤ 255) (hf : 0 ≤ f ∧ f ≤ 255) :
    Calls Ycqm.prog 22 #[.slice ao n cap, .int .u16 v, .int .u8 t, .int .u8 f] w fun e w' => ∃ ao' n' cap', e = .returned (.slice ao' n' cap') ∧ OwnB w' base (.slice ao' n' cap') (bs ++ krec v t f) ∧ Below base w w' := by
  have HO : Hid (OwnB w base (.slice ao n cap) bs) := hown
  clear hown
  rcases (show v % 3 = 0 ∨ v % 3 = 1 ∨ v % 3 = 2 by omega) with h | h | h
  · obtain ⟨m, hm, hm2⟩ : ∃ m : Nat, (v : Int) / 3 % 128 = (m : Int) ∧ (m : Int) ≤ 127 := ⟨((v : Int) / 3 % 128).toNat, by omega, by omega⟩
    have HK : Hid (krec v t f = [t] ++ [(m : Int)] ++ List.replicate (m) f) := krec0 v m t f h hm
    have q0 : ((v : Int) % 3 == 0) = true := by simp; omega
    clear h
    go_enter Ycqm.func22, Ycqm.ntmps22
    go_wp2_with (first
      | (at_builtin; refine wpList_appB _ rfl (.tmp 14) (.tmp 16) rfl base ao n cap bs rfl (HO.out.alloc _) _ 1 1 rfl [t] rfl (listAt_new _ [t] _) (by simp) (by omega) (by simp; omega) ?_; intro ao1 cap1 w1 hown1 hg1 hb1 hne1 hp1; have hs1 := hb1.size; have HO1 : Hid (OwnB w1 base (.slice ao1 (n + 1) cap1) (bs ++ [t])) := hown1; have HB1 : Hid (Below base w w1) := ((Below.refl _ _).alloc hbase _).trans hb1; have hz1 : base ≤ w1.heap.size := Nat.le_trans hbase HB1.out.size; clear hown1 hg1 hb1 hne1 hp1 hs1)
      | (at_builtin; refine wpList_appB _ rfl (.tmp 33) (.tmp 36) rfl base ao1 (n + 1) cap1 (bs ++ [t]) rfl (HO1.out.alloc _) _ 1 1 rfl [(m : Int)] rfl (listAt_new _ [(m : Int)] _) (by simp) (by omega) (by simp; omega) ?_; intro ao2 cap2 w2 hown2 hg2 hb2 hne2 hp2; have HO2 : Hid (OwnB w2 base (.slice ao2 (n + 1 + 1) cap2) (bs ++ [t] ++ [(m : Int)])) := hown2; have HB2 : Hid (Below base w w2) := (HB1.out.alloc hz1 _).trans hb2; clear hown2 hg2 hb2 hne2 hp2))
    go_loopw [0, 10] (fun b i wr => ∃ (k : Nat) (ao' : Option Addr) (cap' : Nat), k ≤ m ∧ i = .int .i64 k ∧ b = .slice ao' (n + 1 + 1 + k) cap' ∧ Hid (OwnB wr base (.slice ao' (n + 1 + 1 + k) cap') (bs ++ [t] ++ [(m : Int)] ++ List.replicate k f)) ∧ Hid (Below base w wr))
      (fun _ i _ => m - (intOf i).toNat)
    case atStart => exact ⟨0, ao2, cap2, Nat.zero_le _, rfl, rfl, by simpa using HO2, HB2⟩
    case round =>
      obtain ⟨k, ao', cap', hk, rfl, rfl, HO', HB'⟩ := hrel
      by_cases hlt : k < m
      · have hzr : base ≤ wr.heap.size := Nat.le_trans hbase HB'.out.size
        go_wp2_with (at_builtin; refine wpList_appB _ rfl (.tmp 53) (.tmp 55) rfl base ao' (n + 1 + 1 + k) cap' _ rfl (HO'.out.alloc _) _ 1 1 rfl [f] rfl (listAt_new _ [f] _) (by simp) (by omega) (by simp; omega) ?_; intro ao3 cap3 w3 hown3 hg3 hb3 hne3 hp3; have HO3 : Hid (OwnB w3 base (.slice ao3 (n + 1 + 1 + k + 1) cap3) (bs ++ [t] ++ [(m : Int)] ++ List.replicate k f ++ [f])) := hown3; have HB3 : Hid (Below base w w3) := (HB'.out.alloc hzr _).trans hb3; clear hown3 hg3 hb3 hne3 hp3)
        go_roundw
        case rel => exact ⟨k + 1, ao3, cap3, by omega, by go_num, rfl, by have h := HO3; rw [rep_snoc] at h; exact h, HB3⟩
        case measure => simp [intOf] <;> omega
      · obtain rfl : k = m := by omega
        go_wp2
        go_ret
        refine ⟨ao', _, cap', rfl, ?_, HB'.out⟩
        rw [HK.out]
        have h := HO'.out
        simpa only [List.append_assoc] using h
  · obtain ⟨m, hm, hm2⟩ : ∃ m : Nat, (v : Int) / 3 % 128 = (m : Int) ∧ (m : Int) ≤ 127 := ⟨((v : Int) / 3 % 128).toNat, by omega, by omega⟩
    have HK : Hid (krec v t f = [t] ++ [129, 128 + (m : Int)] ++ List.replicate (128 + m) f) := krec1 v m t f h hm
    have q0 : ((v : Int) % 3 == 0) = false := by simp; omega
    have q1 : ((v : Int) % 3 == 1) = true := by simp; omega
    clear h
    go_enter Ycqm.func22, Ycqm.ntmps22
    go_wp2_with (first
      | (at_builtin; refine wpList_appB _ rfl (.tmp 14) (.tmp 16) rfl base ao n cap bs rfl (HO.out.alloc _) _ 1 1 rfl [t] rfl (listAt_new _ [t] _) (by simp) (by omega) (by simp; omega) ?_; intro ao1 cap1 w1 hown1 hg1 hb1 hne1 hp1; have hs1 := hb1.size; have HO1 : Hid (OwnB w1 base (.slice ao1 (n + 1) cap1) (bs ++ [t])) := hown1; have HB1 : Hid (Below base w w1) := ((Below.refl _ _).alloc hbase _).trans hb1; have hz1 : base ≤ w1.heap.size := Nat.le_trans hbase HB1.out.size; clear hown1 hg1 hb1 hne1 hp1 hs1)
      | (at_builtin; refine wpList_appB _ rfl (.tmp 43) (.tmp 46) rfl base ao1 (n + 1) cap1 (bs ++ [t]) rfl (HO1.out.alloc _) _ 2 2 rfl [129, 128 + (m : Int)] rfl (listAt_new _ [129, 128 + (m : Int)] _) (by simp) (by omega) (by simp; omega) ?_; intro ao2 cap2 w2 hown2 hg2 hb2 hne2 hp2; have HO2 : Hid (OwnB w2 base (.slice ao2 (n + 1 + 2) cap2) (bs ++ [t] ++ [129, 128 + (m : Int)])) := hown2; have HB2 : Hid (Below base w w2) := (HB1.out.alloc hz1 _).trans hb2; clear hown2 hg2 hb2 hne2 hp2))
    go_loopw [0, 10] (fun b i wr => ∃ (k : Nat) (ao' : Option Addr) (cap' : Nat), k ≤ 128 + m ∧ i = .int .i64 k ∧ b = .slice ao' (n + 1 + 2 + k) cap' ∧ Hid (OwnB wr base (.slice ao' (n + 1 + 2 + k) cap') (bs ++ [t] ++ [129, 128 + (m : Int)] ++ List.replicate k f)) ∧ Hid (Below base w wr))
      (fun _ i _ => 128 + m - (intOf i).toNat)
    case atStart => exact ⟨0, ao2, cap2, Nat.zero_le _, rfl, rfl, by simpa using HO2, HB2⟩
    case round =>
      obtain ⟨k, ao', cap', hk, rfl, rfl, HO', HB'⟩ := hrel
      by_cases hlt : k < 128 + m
      · have hzr : base ≤ wr.heap.size := Nat.le_trans hbase HB'.out.size
        go_wp2_with (at_builtin; refine wpList_appB _ rfl (.tmp 53) (.tmp 55) rfl base ao' (n + 1 + 2 + k) cap' _ rfl (HO'.out.alloc _) _ 1 1 rfl [f] rfl (listAt_new _ [f] _) (by simp) (by omega) (by simp; omega) ?_; intro ao3 cap3 w3 hown3 hg3 hb3 hne3 hp3; have HO3 : Hid (OwnB w3 base (.slice ao3 (n + 1 + 2 + k + 1) cap3) (bs ++ [t] ++ [129, 128 + (m : Int)] ++ List.replicate k f ++ [f])) := hown3; have HB3 : Hid (Below base w w3) := (HB'.out.alloc hzr _).trans hb3; clear hown3 hg3 hb3 hne3 hp3)
        go_roundw
        case rel => exact ⟨k + 1, ao3, cap3, by omega, by go_num, rfl, by have h := HO3; rw [rep_snoc] at h; exact h, HB3⟩
        case measure => simp [intOf] <;> omega
      · obtain rfl : k = 128 + m := by omega
        go_wp2
        go_ret
        refine ⟨ao', _, cap', rfl, ?_, HB'.out⟩
        rw [HK.out]
        have h := HO'.out
        simpa only [List.append_assoc] using h
  · obtain ⟨m, hm, hm2⟩ : ∃ m : Nat, (v : Int) / 3 % 256 = (m : Int) ∧ (m : Int) ≤ 255 := ⟨((v : Int) / 3 % 256).toNat, by omega, by omega⟩
    have HK : Hid (krec v t f = [t] ++ [130, 1, (m : Int)] ++ List.replicate (m + 256) f) := krec2 v m t f h hm
    have q0 : ((v : Int) % 3 == 0) = false := by simp; omega
    have q1 : ((v : Int) % 3 == 1) = false := by simp; omega
    clear h
    go_enter Ycqm.func22, Ycqm.ntmps22
    go_wp2_with (first
      | (at_builtin; refine wpList_appB _ rfl (.tmp 14) (.tmp 16) rfl base ao n cap bs rfl (HO.out.alloc _) _ 1 1 rfl [t] rfl (listAt_new _ [t] _) (by simp) (by omega) (by simp; omega) ?_; intro ao1 cap1 w1 hown1 hg1 hb1 hne1 hp1; have hs1 := hb1.size; have HO1 : Hid (OwnB w1 base (.slice ao1 (n + 1) cap1) (bs ++ [t])) := hown1; have HB1 : Hid (Below base w w1) := ((Below.refl _ _).alloc hbase _).trans hb1; have hz1 : base ≤ w1.heap.size := Nat.le_trans hbase HB1.out.size; clear hown1 hg1 hb1 hne1 hp1 hs1)
      | (at_builtin; refine wpList_appB _ rfl (.tmp 22) (.tmp 25) rfl base ao1 (n + 1) cap1 (bs ++ [t]) rfl (HO1.out.alloc _) _ 3 3 rfl [130, 1, (m : Int)] rfl (listAt_new _ [130, 1, (m : Int)] _) (by simp) (by omega) (by simp; omega) ?_; intro ao2 cap2 w2 hown2 hg2 hb2 hne2 hp2; have HO2 : Hid (OwnB w2 base (.slice ao2 (n + 1 + 3) cap2) (bs ++ [t] ++ [130, 1, (m : Int)])) := hown2; have HB2 : Hid (Below base w w2) := (HB1.out.alloc hz1 _).trans hb2; clear hown2 hg2 hb2 hne2 hp2))
    go_loopw [0, 10] (fun b i wr => ∃ (k : Nat) (ao' : Option Addr) (cap' : Nat), k ≤ m + 256 ∧ i = .int .i64 k ∧ b = .slice ao' (n + 1 + 3 + k) cap' ∧ Hid (OwnB wr base (.slice ao' (n + 1 + 3 + k) cap') (bs ++ [t] ++ [130, 1, (m : Int)] ++ List.replicate k f)) ∧ Hid (Below base w wr))
      (fun _ i _ => m + 256 - (intOf i).toNat)
    case atStart => exact ⟨0, ao2, cap2, Nat.zero_le _, rfl, rfl, by simpa using HO2, HB2⟩
    case round =>
      obtain ⟨k, ao', cap', hk, rfl, rfl, HO', HB'⟩ := hrel
      by_cases hlt : k < m + 256
      · have hzr : base ≤ wr.heap.size := Nat.le_trans hbase HB'.out.size
        go_wp2_with (at_builtin; refine wpList_appB _ rfl (.tmp 53) (.tmp 55) rfl base ao' (n + 1 + 3 + k) cap' _ rfl (HO'.out.alloc _) _ 1 1 rfl [f] rfl (listAt_new _ [f] _) (by simp) (by omega) (by simp; omega) ?_; intro ao3 cap3 w3 hown3 hg3 hb3 hne3 hp3; have HO3 : Hid (OwnB w3 base (.slice ao3 (n + 1 + 3 + k + 1) cap3) (bs ++ [t] ++ [130, 1, (m : Int)] ++ List.replicate k f ++ [f])) := hown3; have HB3 : Hid (Below base w w3) := (HB'.out.alloc hzr _).trans hb3; clear hown3 hg3 hb3 hne3 hp3)
        go_roundw
        case rel => exact ⟨k + 1, ao3, cap3, by omega, by go_num, rfl, by have h := HO3; rw [rep_snoc] at h; exact h, HB3⟩
        case measure => simp [intOf] <;> omega
      · obtain rfl : k = m + 256 := by omega
        go_wp2
        go_ret
        refine ⟨ao', _, cap', rfl, ?_, HB'.out⟩
        rw [HK.out]
        have h := HO'.out
        simpa only [List.append_assoc] using h
end Go.Proofs.Ymbrcq.lawS930003KBuilt
