/-
  Ymbrcq: the walk of 'LawS930003IPresent'.
-/
import Derived.Test.YmbrcqIndex
namespace Go.Proofs.Ymbrcq.lawS930003IPresent
open Go.RowKit Go.Proofs.Ymbrcq
set_option maxHeartbeats 400000 in
theorem walk (a : Option Addr) (n c : Nat) (r : Recs) (s : Int) (t : Int) (w : World) (_hl : n ≤ c) (hc : c ≤ 9223372036854775807) (_hn : a = none → n = 0 ∧ c = 0) (hz : RecsOk n r ∧ RecsAt w a n r ∧ ValsAt w n r) (hs : 0 ≤ s ∧ s ≤ 18446744073709551615) (_ht : 0 ≤ t ∧ t ≤ 255) :
    Calls Ycqm.prog 4 #[.slice a n c, .int .u64 s, .int .u8 t] w fun e w' => e = .returned (.bool true) ∧ Below w.heap.size w w' := by
  obtain ⟨_, ha, _⟩ := hz
  clear _hn
  obtain ⟨hs0, hs1⟩ := hs
  by_cases hn0 : n = 0
  · subst hn0
    have HA : Hid (RecsAt w a 0 r) := ha
    clear ha
    go_enter Ycqm.func4, Ycqm.ntmps4
    go_wp2_with (go_at_call 15; refine (index_any a 0 c r t _ (by omega) HA.out).mono ?_; rintro e w' ⟨j, rfl, hj, hb⟩)
    go_ret
    rcases hj with ⟨rfl, _⟩ | ⟨k, _, _, h, _⟩
    · exact ⟨rfl, hb⟩
    · omega
  · have hnb : ((n : Int) == 0) = false := by simpa using hn0
    have HA : Hid (RecsAt w a n r) := ha
    obtain ⟨b, off, rfl, hT, hV⟩ := ha (by omega)
    obtain ⟨sN, rfl⟩ := Int.eq_ofNat_of_zero_le hs0
    have hm : sN % n < n := Nat.mod_lt _ (by omega)
    have h1 : w.cell? ⟨b, off + (sN % n) * 2, none⟩ = some (.int .u8 (r.T (sN % n))) := hT _ hm
    have HT : Hid (∀ i, i < n → w.cell? ⟨b, off + i * 2, none⟩ = some (.int .u8 (r.T i))) := hT
    clear hT hV
    go_enter Ycqm.func4, Ycqm.ntmps4
    go_wp2_with fail
    refine (index_any _ n c r _ _ (by omega) HA.out).mono ?_
    rintro e w' ⟨j, rfl, hj, hb⟩
    obtain ⟨k, rfl, hkn, hkt, hle, hno⟩ : ∃ k : Nat, j = k ∧ k < n ∧ r.T k = r.T (sN % n) ∧ k ≤ sN % n ∧ Hid (∀ i, i < k → r.T i ≠ r.T (sN % n)) := by
      rcases hj with ⟨_, h⟩ | ⟨k, rfl, _, h1, h2, h3⟩
      · exact absurd rfl (h _ (Nat.zero_le _) hm)
      · exact ⟨k, rfl, h1, h2, by have := fun h => h3 (sN % n) (Nat.zero_le _) h; apply Nat.le_of_not_lt; intro h; exact this h rfl, fun i hi => h3 i (Nat.zero_le _) hi⟩
    have hle' : (k : Int) ≤ (sN : Int) % (n : Int) := by have : ((k : Nat) : Int) ≤ ((sN % n : Nat) : Int) := by omega
                                                         simpa using this
    have hc2 : w'.cell? ⟨b, off + k * 2, none⟩ = some (.int .u8 (r.T k)) := (hb.cell (World.block_lt_of_cell? _ _ (HT.out k hkn))).trans (HT.out k hkn)
    have hne : (r.T k != r.T (sN % n)) = false := by simp [hkt]
    clear hkt h1 hj
    go_wp2
    go_loop [10] (fun i => ∃ q : Nat, q ≤ k ∧ i = .int .i64 q) (fun i => k - (intOf i).toNat)
    case atStart => exact ⟨0, Nat.zero_le _, rfl⟩
    case round =>
      obtain ⟨q, hq, rfl⟩ := hrel
      by_cases hlt : q < k
      · have hc3 : w'.cell? ⟨b, off + q * 2, none⟩ = some (.int .u8 (r.T q)) := (hb.cell (World.block_lt_of_cell? _ _ (HT.out q (by omega)))).trans (HT.out q (by omega))
        have hne2 : (r.T q == r.T (sN % n)) = false := by simpa using hno.out q hlt
        go_wp2
        go_round
        case rel => exact ⟨q + 1, by omega, by go_num⟩
        case measure => simp [intOf] <;> omega
      · go_wp2
        go_ret
        exact ⟨rfl, hb⟩
end Go.Proofs.Ymbrcq.lawS930003IPresent
