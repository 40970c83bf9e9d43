/-
  Ymbrcp: the walk of 'LawS930003EExact'.
-/
import Derived.Test.YmbrcpRank
import Derived.Test.YmbrcpEfuns
namespace Go.Proofs.Ymbrcp.lawS930003EExact
open Go.RowKit Go.Proofs.Ymbrcp
set_option linter.unusedVariables false

set_option maxRecDepth 100000 in
set_option maxHeartbeats 4000000 in
theorem walk (a : Option Addr) (n c : Nat) (r : Recs) (w : World) (hl : n ≤ c) (hc : c ≤ 9223372036854775807) (_hn : a = none → n = 0 ∧ c = 0) (hz : RecsOk n r ∧ RecsAt w a n r ∧ ValsAt w n r) :
    Calls Ycpm.prog 3 #[.slice a n c] w fun e w' => e = .returned (.bool true) ∧ Below w.heap.size w w' := by
  obtain ⟨hok, ha, hv⟩ := hz
  by_cases hbig : 1024 < n
  · clear ha hv hok _hn
    go_enter Ycpm.func3, Ycpm.ntmps3
    go_wp2
    go_ret
    exact ⟨rfl, Below.refl _ _⟩
  have HA : Hid (RecsAt w a n r) := ha
  have HV : Hid (∀ i, i < n → r.L i ≤ 9223372036854775807 ∧ (0 < r.L i → ∃ b off, r.A i = some ⟨b, off, none⟩)) := fun i hi => ⟨by have := hok.hL i hi; have := hok.hC i hi; omega, fun hp => by obtain ⟨b, off, e, _⟩ := hv i hi hp; exact ⟨b, off, e⟩⟩
  have HK : Hid (RecsOk n r) := hok
  clear ha hv hok _hn
  have hnil := eqlR_nil
  go_enter Ycpm.func3, Ycpm.ntmps3
  go_wp2_with (go_at_call 15; refine (sort_calls a n c r w (by omega) HK.out HA.out).mono ?_; rintro e w1 ⟨l, f, rfl, hrow, hso, hb⟩; have HO : Hid (w1.rowIs w.heap.size 27 (n * 2) f) := hrow; have HS : Hid (SortedTo f r n l) := hso; have HB : Hid (Below w.heap.size w w1) := hb; clear hrow hso hb)
  go_loopw [4] (fun iv wr => ∃ k : Nat, k ≤ n ∧ iv = .int .i64 k ∧ Hid (wr.rowIs w.heap.size 27 (n * 2) f) ∧ Hid (Below w.heap.size w wr)) (fun iv _ => n - (intOf iv).toNat)
  case atStart => exact ⟨0, Nat.zero_le _, rfl, HO.out, HB.out⟩
  case round =>
    clear HO HB
    obtain ⟨k, hk, rfl, HO, HB⟩ := hrel
    by_cases hlt : k < n
    · have HA2 : Hid (RecsAt w a n r) := HA.out
      obtain ⟨ab, off, rfl, hT, hS⟩ := HA.out (by omega)
      obtain ⟨p, hp⟩ : ∃ p, p = rk r.T k n := ⟨_, rfl⟩
      have hat := rk_place HS.out.perm HS.out.ord hlt
      rw [← hp] at hat
      have hrec := HS.out.at' p k hat
      have hpn : p < n := by
        have h1 := HS.out.perm.length_eq
        simp at h1
        have h2 := (List.getElem?_eq_some_iff.1 hat).1
        omega
      have hpi : (p : Int) < (n : Int) := by omega
      have hc0 := hT k hlt
      have hc1 := hS k hlt
      have HC : Hid (∀ wz, wz = wr ∨ wz = wr.drew ∨ (∃ d, wz = wr.drew.drewN d) → wz.cell? ⟨ab, off + k * 2, none⟩ = some (.int .u8 (r.T k)) ∧ wz.cell? ⟨ab, off + k * 2 + 1, none⟩ = some (.slice (r.A k) (r.L k) (r.C k)) ∧ wz.cell? ⟨w.heap.size, p * 2, none⟩ = some (.int .u8 (r.T k)) ∧ wz.cell? ⟨w.heap.size, p * 2 + 1, none⟩ = some (.slice (r.A k) (r.L k) (r.C k))) := by
        intro wz hz
        have e : ∀ ad, wz.cell? ad = wr.cell? ad := by
          intro ad
          rcases hz with rfl | rfl | ⟨d, rfl⟩ <;> rfl
        simp only [e]
        refine ⟨(HB.out.cell (World.block_lt_of_cell? _ _ hc0)).trans hc0, (HB.out.cell (World.block_lt_of_cell? _ _ hc1)).trans hc1, ?_, ?_⟩
        · rw [HO.out.cell (by omega), hrec.1]
        · rw [HO.out.cell (by omega), hrec.2]
      have HE : Hid (∀ wz, Hid (∃ d, wz = wr.drew.drewN d) → Calls Ycpm.prog 16 #[.agg #[.int .u8 (r.T k), .slice (r.A k) (r.L k) (r.C k)], .agg #[.int .u8 (r.T k), .slice (r.A k) (r.L k) (r.C k)]] wz fun e w' => e = .returned (.bool true) ∧ w'.rowIs w.heap.size 27 (n * 2) f ∧ Below w.heap.size w w') := by
        intro wz hz
        obtain ⟨d, rfl⟩ := hz.out
        refine (esame_calls (r.T k) (r.A k) (r.L k) (r.C k) (r.C k) _ (HV.out k hlt).1 (HV.out k hlt).2).mono ?_
        rintro e w' ⟨rfl, hb⟩
        have hO : (wr.drew.drewN d).rowIs w.heap.size 27 (n * 2) f := HO.out
        exact ⟨rfl, rowIs_below hO hb hO.lt, (HB.out.drew.trans ((below_drewN _ d).mono HB.out.size)).trans (hb.mono HB.out.size)⟩
      have HRk : Hid (∀ wz, wr.drew = wz → Calls Ycpm.prog 17 #[.slice (some ⟨ab, off, none⟩) n c, .int .i64 k] wz fun e w' => e = .returned (.int .i64 p) ∧ Hid (∃ d, w' = wr.drew.drewN d)) := by
        rintro wz rfl
        refine (erank_calls _ n c r k wr.drew (by omega) hlt HK.out (HA2.out.below HB.out.drew)).mono ?_
        rintro e w' ⟨rfl, d, hd⟩
        exact ⟨by rw [hp], d, hd⟩
      have t0 := (HC.out wr (.inl rfl)).1
      have t1 := (HC.out wr (.inl rfl)).2.1
      clear hT hS hc0 hc1 hp hat hrec HA2
      go_wp2
      go_region_with (first
        | (go_at_call 16; refine (HE.out _ HD).mono ?_; rintro e w5 ⟨rfl, hO5, hB5⟩; have HO5 : Hid (w5.rowIs w.heap.size 27 (n * 2) f) := hO5; have HB5 : Hid (Below w.heap.size w w5) := hB5; clear hO5 hB5)
        | (go_at_call 17; refine (HRk.out _ rfl).mono ?_; rintro e w4 ⟨rfl, HD⟩; obtain ⟨y0, y1, y2, y3⟩ := HC.out w4 (.inr (.inr HD.out))))
      all_goals
        go_wp2
        go_roundw
        case rel => exact ⟨k + 1, by omega, by go_num, HO5.out, HB5.out⟩
        case measure => simp [intOf] <;> omega
    · obtain rfl : n = k := by omega
      go_wp2
      go_ret
      exact ⟨rfl, HB.out⟩
end Go.Proofs.Ymbrcp.lawS930003EExact
