/-
  Ymbrco: the walk of 'LawS930003AExact'.
-/
import Derived.Test.YmbrcoAfuns
import Derived.Test.YmbrcoEq
namespace Go.Proofs.Ymbrco.lawS930003AExact
open Go.RowKit Go.Proofs.Ymbrco
set_option linter.unusedVariables false

theorem zl_split {A B : List Int} {i : Nat} (h : A.length ≤ i) : zl (A ++ B) i = zl B (i - A.length) := by
  have := zl_right A B (i - A.length)
  rwa [show A.length + (i - A.length) = i by omega] at this

set_option maxRecDepth 100000 in
set_option maxHeartbeats 4000000 in
theorem walk (a : Option Addr) (n c : Nat) (z : Nat → Int) (s d : Int) (w : World) (hl : n ≤ c) (hc : c ≤ 9223372036854775807) (hn : a = none → n = 0 ∧ c = 0) (hz : IsByte z ∧ BytesAt w a n z) (hs : 0 ≤ s ∧ s ≤ 255) (hd : -9223372036854775808 ≤ d ∧ d ≤ 9223372036854775807) :
    Calls Ycom.prog 3 #[.slice a n c, .int .u8 s, .int .i64 d] w fun e w' => e = .returned (.bool true) ∧ Below w.heap.size w w' := by
  by_cases hbig : 4096 < n
  · clear hn hz
    go_enter Ycom.func3, Ycom.ntmps3
    go_wp2
    go_ret
    exact ⟨rfl, Below.refl _ _⟩
  have HN : Hid (a = none → n = 0 ∧ c = 0) := hn
  have HZ : Hid (IsByte z ∧ BytesAt w a n z) := hz
  clear hn hz
  have hq := eqlB_nil
  go_enter Ycom.func3, Ycom.ntmps3
  go_wp2_with fail
  refine (abase_calls s w hs).mono ?_
  rintro e w1 ⟨b1, rfl, hb1, rfl⟩
  obtain ⟨N, hN⟩ : ∃ N, wrap64 ((b1 : Int) + d) = N := ⟨_, rfl⟩
  go_wp2_with fail
  refine (acopy_calls a n c z w1 HN.out (by omega) HZ.out.2).mono ?_
  rintro e w2 ⟨ao, cap, rfl, hno, hO, hB⟩
  have HO : Hid (OwnB w2 w1.heap.size (.slice ao n cap) (lst n z)) := hO
  have HB : Hid (Below w1.heap.size w1 w2) := hB
  clear hO hB
  by_cases hr : N < 0 ∨ 65535 < N
  · have HA1 : Hid (BytesAt w2 ao n z) := by
      have h := HO.out.bytes
      rw [lst_len] at h
      intro hlt
      obtain ⟨b, off, e, hc⟩ := h hlt
      exact ⟨b, off, e, fun i hi => by rw [hc i hi]; exact congrArg (fun x => some (Value.int .u8 x)) (lst_get (z := z) hi)⟩
    have HA2 : Hid (BytesAt w2 a n z) := HZ.out.2.below HB.out
    go_wp2_with fail
    refine (al_bad ao n cap N w2 hr).mono ?_
    rintro e w3 ⟨rfl, rfl⟩
    rcases hr with h | h
    · go_wp2_with (go_at_call 18; refine (eq_calls _ _ n n _ _ z w3 (by omega) rfl HA1.out HA2.out).mono ?_; rintro e w4 ⟨rfl, dd, rfl⟩)
      go_ret
      exact ⟨rfl, HB.out.trans ((below_drewN w3 dd).mono HB.out.size)⟩
    · have h0 : ¬ N < 0 := by omega
      go_wp2_with (go_at_call 18; refine (eq_calls _ _ n n _ _ z w3 (by omega) rfl HA1.out HA2.out).mono ?_; rintro e w4 ⟨rfl, dd, rfl⟩)
      go_ret
      exact ⟨rfl, HB.out.trans ((below_drewN w3 dd).mono HB.out.size)⟩
  · obtain ⟨x, rfl⟩ : ∃ x : Nat, N = (x : Int) := ⟨N.toNat, by omega⟩
    have hx : (x : Int) ≤ 65535 := by omega
    clear hr
    have hs2 := HB.out.size
    go_wp2_with fail
    refine (al_calls ao n cap _ x w2 w1.heap.size HO.out (by omega) hs2 hx).mono ?_
    rintro e w3 ⟨ao3, n3, cap3, rfl, hO3, hne, hB3, _⟩
    have HO3 : Hid (OwnB w3 w1.heap.size (.slice ao3 n3 cap3) (lst n z ++ lenF x)) := hO3
    have HB3 : Hid (Below w1.heap.size w1 w3) := HB.out.trans hB3
    obtain ⟨k, HK⟩ : ∃ k, Hid (k = (lenF x).length) := ⟨_, rfl⟩
    have hk : k ≤ 3 := by have h := lenF_len x; have := HK.out; split at h <;> (try split at h) <;> omega
    have hlen := hO3.len
    rw [List.length_append, lst_len, ← HK.out] at hlen
    subst hlen
    obtain ⟨_, _, hsh, hcap, hcap2, _⟩ := hO3.shape
    have hcap1 : n + k ≤ cap3 := by
      simp only [Value.slice.injEq] at hsh
      have e := hO3.len
      have := hsh.2.2
      omega
    have hk0 : 0 < k := by have h := lenF_len x; have := HK.out; split at h <;> (try split at h) <;> omega
    have hcap2 : cap3 ≤ 9223372036854775807 := by simp only [Value.slice.injEq] at hsh; omega
    obtain ⟨gb, hgb, hgb1, hgb2⟩ := hO3.block (by omega)
    subst hgb
    clear hO3 hB3 HO HB hne hsh hcap
    have hw3 := HB3.out.size
    go_wp2_with fail
    refine (aenc_calls x w3 hx).mono ?_
    rintro e w4 ⟨g, m, cm, rfl, hm, hg1, hg2, hA, hB⟩
    rw [← HK.out] at hm
    obtain rfl : k = m := hm.symm
    have HB4 : Hid (Below w1.heap.size w1 w4) := HB3.out.trans (hB.mono hw3)
    have HE : Hid (BytesAt w4 (some ⟨g, 0, none⟩) k (zl (lenF x))) := hA
    have HM : Hid (BytesAt w4 (some ⟨gb, 0, none⟩) (n + k) (zl (lst n z ++ lenF x))) := by
      have h := (HO3.out.below hB (Nat.le_refl _)).bytes
      rw [HO3.out.len] at h
      exact h
    have HA1 : Hid (BytesAt w4 (some ⟨gb, 0, none⟩) n z) := by
      intro hlt
      obtain ⟨b, off, e, hc⟩ := HM.out (by omega)
      exact ⟨b, off, e, fun i hi => by rw [hc i (by omega), zl_left (by rw [lst_len]; exact hi), lst_get hi]⟩
    have HA2 : Hid (BytesAt w4 a n z) := HZ.out.2.below HB4.out
    have HA3 : Hid (∀ off, off = n → BytesAt w4 (some ⟨gb, off, none⟩) k (zl (lenF x))) := by
      intro off ho hlt
      subst ho
      obtain ⟨b, o2, e, hc⟩ := HM.out (by omega)
      simp only [Option.some.injEq, Addr.mk.injEq, and_true] at e
      obtain ⟨rfl, rfl⟩ := e
      refine ⟨gb, off, rfl, fun i hi => ?_⟩
      have := hc (off + i) (by omega)
      rw [Nat.zero_add, zl_split (by rw [lst_len]; omega), lst_len, Nat.add_sub_cancel_left] at this
      exact this
    clear hA hB HO3 HM
    have hne2 : ¬ cap3 = n := by omega
    go_wp2_with fail
    refine (eq_calls _ _ n n _ _ z w4 (by omega) rfl HA1.out HA2.out).mono ?_
    rintro e w5 ⟨rfl, dd, rfl⟩
    go_wp2_with fail
    refine (eq_calls _ _ k k _ _ (zl (lenF x)) (w4.drewN dd) (by omega) rfl (HA3.out n rfl) HE.out).mono ?_
    rintro e w6 ⟨rfl, d6, rfl⟩
    go_wp2
    go_ret
    exact ⟨rfl, HB4.out.trans ((below_drewN w4 _).mono HB4.out.size)⟩
end Go.Proofs.Ymbrco.lawS930003AExact
