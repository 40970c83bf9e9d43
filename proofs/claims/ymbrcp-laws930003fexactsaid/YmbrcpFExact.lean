/-
  Ymbrcp: 'zzs930003fwire' and the walk of 'LawS930003FExact'.
-/
import Derived.Test.YmbrcpFwire
namespace Go.Proofs.Ymbrcp.lawS930003FExact
open Go.RowKit Go.Proofs.Ymbrcp
set_option linter.unusedVariables false

set_option maxRecDepth 100000 in
set_option maxHeartbeats 2000000 in
theorem walk (a : Option Addr) (n c : Nat) (r : Recs) (w : World) (hl : n ≤ c) (hc : c ≤ 9223372036854775807) (_hn : a = none → n = 0 ∧ c = 0) (hz : RecsOk n r ∧ RecsAt w a n r ∧ ValsAt w n r) :
    Calls Ycpm.prog 6 #[.slice a n c] w fun e w' => e = .returned (.bool true) ∧ Below w.heap.size w w' := by
  obtain ⟨hok, ha, _⟩ := hz
  have HA : Hid (RecsAt w a n r) := ha
  have HK : Hid (RecsOk n r) := hok
  have HT := ts_calls a n c r w (by omega) ha (fun i hi => Nat.le_trans (hok.hL i hi) (hok.hC i hi))
  have HT' : Hid (Calls Ycpm.prog 18 #[.slice a n c] w fun e w' => ∃ q b, e = .returned (.tuple #[.int .i64 q, .bool b]) ∧ TotalIs r.L n q b ∧ Below w.heap.size w w') := HT
  clear ha hok _hn HT
  go_enter Ycpm.func6, Ycpm.ntmps6
  go_wp2_with fail
  refine HT'.out.mono ?_
  rintro e w1 ⟨q, bo, rfl, hT, hb1⟩
  by_cases hbig : (524288 : Int) < n
  · have hnf : ¬ Fits r.L n := fun h => by have := sumTo_ge r.L n; have := h.2; omega
    rcases hT with ⟨_, h, _⟩ | ⟨rfl, _, rfl⟩
    · exact absurd h hnf
    clear hnf
    go_wp2
    go_ret
    exact ⟨rfl, hb1⟩
  have HTI : Hid (TotalIs r.L n q bo) := hT
  clear hT
  go_wp2
  go_loop [5, 6, 7] (fun x y i => ∃ k : Nat, k ≤ n ∧ i = .int .i64 k ∧ x = .int .i64 (rsum r.L k) ∧ y = .bool (allB r.L k)) (fun _ _ i => n - (intOf i).toNat)
  case atStart => exact ⟨0, Nat.zero_le _, rfl, rfl, rfl⟩
  case round =>
    obtain ⟨k, hk, rfl, rfl, rfl⟩ := hrel
    have hbd := rsum_bd r.L k
    by_cases hlt : k < n
    · obtain ⟨b, off, rfl, hT, hV⟩ := HA.out (by omega)
      have h2 : w1.cell? ⟨b, off + k * 2 + 1, none⟩ = some (.slice (r.A k) (r.L k) (r.C k)) := (hb1.cell (World.block_lt_of_cell? _ _ (hV k hlt))).trans (hV k hlt)
      have hLb : (r.L k : Int) ≤ 9223372036854775807 := by have h3 := HK.out.hL k hlt; have h4 := HK.out.hC k hlt; omega
      clear hT hV
      have HS : Hid (rsum r.L (k + 1) = rsum r.L k + rsize (r.L k)) := rfl
      have HS2 : Hid (allB r.L (k + 1) = (allB r.L k && rok (r.L k))) := rfl
      by_cases hq : 65535 < r.L k
      · have hd : decide ((65535 : Int) < (r.L k : Int)) = true := decide_eq_true (by omega)
        have h1 : Hid (rsize (r.L k) = 0) := by simp [Hid, rsize, hq]
        have h3 : Hid (rok (r.L k) = false) := by simp [Hid, rok]; omega
        clear hq
        go_wp2
        go_round
        case rel => exact ⟨k + 1, by omega, by go_num, by rw [HS.out, h1.out, Int.add_zero], by rw [HS2.out, h3.out, Bool.and_false]⟩
        case measure => simp [intOf] <;> omega
      · have hd : decide ((65535 : Int) < (r.L k : Int)) = false := decide_eq_false (by omega)
        have h1 : Hid (rsize (r.L k) = wire (r.L k)) := by simp [Hid, rsize, hq]
        have h3 : Hid (rok (r.L k) = true) := by simp [Hid, rok]; omega
        have hw := wire_ge (r.L k)
        have hle : r.L k ≤ 65535 := by omega
        have hw2 : (wire (r.L k) : Int) ≤ 65539 := by omega
        have HL : Hid (r.L k ≤ 65535) := hle
        clear hq hw hle
        go_wp2_with (go_at_call 19; refine (fwire_calls (r.L k) _ HL.out).mono ?_; rintro e w' ⟨rfl, rfl⟩)
        go_round
        case rel => exact ⟨k + 1, by omega, by go_num, by rw [HS.out, h1.out], by rw [HS2.out, h3.out, Bool.and_true]⟩
        case measure => simp [intOf] <;> omega
    · obtain rfl : k = n := by omega
      have hA := all_iff r.L k
      cases hall : allB r.L k with
      | false =>
        obtain ⟨i, hi, hl⟩ := hA.2 hall
        have hnf : ¬ Fits r.L k := fun h => by have := h.1 i hi; omega
        rcases HTI.out with ⟨_, h, _⟩ | ⟨rfl, _, rfl⟩
        · exact absurd h hnf
        clear hnf hA
        go_wp2
        go_ret
        exact ⟨rfl, hb1⟩
      | true =>
        obtain ⟨g1, g2⟩ := hA.1 hall
        by_cases hbg : (1048576 : Int) < rsum r.L k
        · have hnf : ¬ Fits r.L k := fun h => by have := h.2; omega
          rcases HTI.out with ⟨_, h, _⟩ | ⟨rfl, _, rfl⟩
          · exact absurd h hnf
          clear hnf hA g1 g2
          go_wp2
          go_ret
          exact ⟨rfl, hb1⟩
        · have hf : Fits r.L k := ⟨g1, by omega⟩
          rcases HTI.out with ⟨rfl, _, rfl⟩ | ⟨_, h, _⟩
          rotate_left
          · exact absurd hf h
          have q3 : ((sumTo r.L k : Int) == rsum r.L k) = true := by simp [g2]
          clear hA g1 g2 hf
          go_wp2
          go_ret
          exact ⟨ret_bool (by simp), hb1⟩
end Go.Proofs.Ymbrcp.lawS930003FExact
