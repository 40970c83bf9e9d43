/-
  Ymbrco: the walk of 'LawS930003AOrder'.
-/
import Derived.Test.YmbrcoAfuns
namespace Go.Proofs.Ymbrco.lawS930003AOrder
open Go.RowKit Go.Proofs.Ymbrco
set_option linter.unusedVariables false

def ord (x y : Nat) : Int := if x < y then -1 else if y < x then 1 else 0

theorem lenF_cases (x : Nat) (hx : x ≤ 65535) : (x < 128 ∧ (lenF x).length = 1 ∧ zl (lenF x) 0 = x) ∨ (128 ≤ x ∧ x < 256 ∧ (lenF x).length = 2 ∧ zl (lenF x) 0 = 129 ∧ zl (lenF x) 1 = x) ∨
    (256 ≤ x ∧ (lenF x).length = 3 ∧ zl (lenF x) 0 = 130 ∧ zl (lenF x) 1 = (x : Int) / 256 ∧ zl (lenF x) 2 = (x : Int) % 256) := by
  by_cases h1 : x < 128
  · refine .inl ⟨h1, ?_, ?_⟩ <;> simp [lenF, h1, zl, List.getD]
  by_cases h2 : x < 256
  · refine .inr (.inl ⟨by omega, h2, ?_, ?_, ?_⟩) <;> simp [lenF, h1, h2, zl, List.getD]
  · refine .inr (.inr ⟨by omega, ?_, ?_, ?_, ?_⟩) <;> simp [lenF, h1, h2, zl, List.getD]

theorem cmp_ord (x y : Nat) (hx : x ≤ 65535) (hy : y ≤ 65535) (r : Int) (h : IsCmp (zl (lenF x)) (zl (lenF y)) (lenF x).length (lenF y).length r) : r = ord x y := by
  unfold ord
  have hxc := lenF_cases x hx
  have hyc := lenF_cases y hy
  rcases h with ⟨k, k1, k2, heq, hk⟩ | ⟨heq, hk⟩
  · have e0 : 0 < k → zl (lenF x) 0 = zl (lenF y) 0 := fun h => heq 0 h
    have e1 : 1 < k → zl (lenF x) 1 = zl (lenF y) 1 := fun h => heq 1 h
    have hk3 : k = 0 ∨ k = 1 ∨ k = 2 := by
      rcases hxc with ⟨_, h, _⟩ | ⟨_, _, h, _⟩ | ⟨_, h, _⟩ <;> omega
    rcases hk3 with rfl | rfl | rfl <;> rcases hxc with ⟨_, _, _⟩ | ⟨_, _, _, _, _⟩ | ⟨_, _, _, _, _⟩ <;> rcases hyc with ⟨_, _, _⟩ | ⟨_, _, _, _, _⟩ | ⟨_, _, _, _, _⟩ <;> (repeat' split) <;> omega
  · have e0 : zl (lenF x) 0 = zl (lenF y) 0 := heq 0 (by rcases hxc with ⟨_, h, _⟩ | ⟨_, _, h, _⟩ | ⟨_, h, _⟩ <;> omega) (by rcases hyc with ⟨_, h, _⟩ | ⟨_, _, h, _⟩ | ⟨_, h, _⟩ <;> omega)
    have e1 : 1 < (lenF x).length → 1 < (lenF y).length → zl (lenF x) 1 = zl (lenF y) 1 := fun h1 h2 => heq 1 h1 h2
    have e2 : 2 < (lenF x).length → 2 < (lenF y).length → zl (lenF x) 2 = zl (lenF y) 2 := fun h1 h2 => heq 2 h1 h2
    rcases hxc with ⟨_, _, _⟩ | ⟨_, _, _, _, _⟩ | ⟨_, _, _, _, _⟩ <;> rcases hyc with ⟨_, _, _⟩ | ⟨_, _, _, _, _⟩ | ⟨_, _, _, _, _⟩ <;> (repeat' split) <;> omega

theorem u16_nat (z : Int) : ∃ x : Nat, IntKind.u16.wrap z = (x : Int) ∧ (x : Int) ≤ 65535 := by
  refine ⟨(z % 65536).toNat, ?_, by omega⟩
  simp [IntKind.wrap, IntKind.bits, IntKind.signed]
  omega

set_option maxRecDepth 100000 in
set_option maxHeartbeats 2000000 in
theorem walk (sa da sb db : Int) (w : World) (hsa : 0 ≤ sa ∧ sa ≤ 255) (hda : 0 ≤ da ∧ da ≤ 65535) (hsb : 0 ≤ sb ∧ sb ≤ 255) (hdb : 0 ≤ db ∧ db ≤ 65535) :
    Calls Ycom.prog 5 #[.int .u8 sa, .int .u16 da, .int .u8 sb, .int .u16 db] w fun e w' => e = .returned (.bool true) ∧ Below w.heap.size w w' := by
  go_enter Ycom.func5, Ycom.ntmps5
  go_wp2_with fail
  refine (abase_calls sa w hsa).mono ?_
  rintro e w1 ⟨b1, rfl, hb1, rfl⟩
  obtain ⟨x, hx, hx2⟩ := u16_nat ((b1 : Int) + da)
  go_wp2_with fail
  refine (abase_calls sb _ hsb).mono ?_
  rintro e w1 ⟨b2, rfl, hb2, rfl⟩
  obtain ⟨y, hy, hy2⟩ := u16_nat ((b2 : Int) + db)
  go_wp2_with fail
  refine (al_calls none 0 0 [] x w1 w1.heap.size (OwnB.nil _ _) (by omega) (Nat.le_refl _) hx2).mono ?_
  rintro e w2 ⟨ao, n, cap, rfl, hO, _, hB, _⟩
  rw [List.nil_append] at hO
  have HO : Hid (OwnB w2 w1.heap.size (.slice ao n cap) (lenF x)) := hO
  have HB : Hid (Below w1.heap.size w1 w2) := hB
  clear hO hB
  go_wp2_with fail
  refine (al_calls none 0 0 [] y w2 w2.heap.size (OwnB.nil _ _) (by omega) (Nat.le_refl _) hy2).mono ?_
  rintro e w3 ⟨ao2, n2, cap2, rfl, hO2, _, hB2, _⟩
  rw [List.nil_append] at hO2
  have HA1 : Hid (BytesAt w3 ao n (zl (lenF x))) := by
    have h := (HO.out.below hB2 (Nat.le_refl _)).bytes
    rw [HO.out.len] at h
    exact h
  have HA2 : Hid (BytesAt w3 ao2 n2 (zl (lenF y))) := by
    have h := hO2.bytes
    rw [hO2.len] at h
    exact h
  have HL1 : Hid ((lenF x).length = n) := HO.out.len
  have HL2 : Hid ((lenF y).length = n2) := hO2.len
  have hn1 : (n : Int) ≤ 1000 := by have h := HL1.out; rw [lenF_len] at h; split at h <;> (try split at h) <;> omega
  have hn2 : (n2 : Int) ≤ 1000 := by have h := HL2.out; rw [lenF_len] at h; split at h <;> (try split at h) <;> omega
  have HB3 : Hid (Below w1.heap.size w1 w3) := HB.out.trans (hB2.mono HB.out.size)
  clear hO2 hB2 HO HB
  have HC : Hid (∀ r, IsCmp (zl (lenF x)) (zl (lenF y)) n n2 r → r = ord x y) := by
    intro r h
    rw [← HL1.out, ← HL2.out] at h
    exact cmp_ord x y (by omega) (by omega) r h
  by_cases c1 : x < y
  · have HW : Hid (ord x y = -1) := by simp [Hid, ord, c1]
    go_wp2_with (go_at_call 20; refine (acmp_calls _ _ _ _ _ _ _ _ _ hn1 hn2 HA1.out HA2.out).mono ?_; rintro e w4 ⟨r, rfl, hr, d, rfl⟩; have hr2 := HC.out r hr; rw [HW.out] at hr2; subst hr2; clear hr)
    go_ret
    exact ⟨rfl, HB3.out.trans ((below_drewN w3 d).mono HB3.out.size)⟩
  by_cases c2 : y < x
  · have HW : Hid (ord x y = 1) := by simp [Hid, ord, c1, c2]
    go_wp2_with (go_at_call 20; refine (acmp_calls _ _ _ _ _ _ _ _ _ hn1 hn2 HA1.out HA2.out).mono ?_; rintro e w4 ⟨r, rfl, hr, d, rfl⟩; have hr2 := HC.out r hr; rw [HW.out] at hr2; subst hr2; clear hr)
    go_ret
    exact ⟨rfl, HB3.out.trans ((below_drewN w3 d).mono HB3.out.size)⟩
  · have HW : Hid (ord x y = 0) := by simp [Hid, ord, c1, c2]
    go_wp2_with (go_at_call 20; refine (acmp_calls _ _ _ _ _ _ _ _ _ hn1 hn2 HA1.out HA2.out).mono ?_; rintro e w4 ⟨r, rfl, hr, d, rfl⟩; have hr2 := HC.out r hr; rw [HW.out] at hr2; subst hr2; clear hr)
    go_ret
    exact ⟨rfl, HB3.out.trans ((below_drewN w3 d).mono HB3.out.size)⟩
end Go.Proofs.Ymbrco.lawS930003AOrder
