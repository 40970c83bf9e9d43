/-
  Ymbrcq: the walk of 'LawS930003IExact': the loop from the back keeps the least matching place.
-/
import Derived.Test.YmbrcqIndex
namespace Go.Proofs.Ymbrcq.lawS930003IExact
open Go.RowKit Go.Proofs.Ymbrcq

theorem first_step {T : Nat → Int} {t : Int} {k n : Nat} {r : Int} (h : IsFirst T t (k + 1) n r) (hk : k < n) :
    (T k = t → IsFirst T t k n k) ∧ (T k ≠ t → IsFirst T t k n r) := by
  refine ⟨fun e => .inr ⟨k, rfl, Nat.le_refl _, hk, e, fun i h1 h2 => by omega⟩, fun e => ?_⟩
  rcases h with ⟨rfl, h⟩ | ⟨j, rfl, hj0, hj, hjt, hm⟩
  · refine .inl ⟨rfl, fun i h1 h2 => ?_⟩
    by_cases e1 : i = k
    · rw [e1]; exact e
    · exact h i (by omega) h2
  · refine .inr ⟨j, rfl, by omega, hj, hjt, fun i h1 h2 => ?_⟩
    by_cases e1 : i = k
    · rw [e1]; exact e
    · exact hm i (by omega) h2

set_option maxHeartbeats 400000 in
theorem walk (a : Option Addr) (n c : Nat) (r : Recs) (t : Int) (w : World) (_hl : n ≤ c) (hc : c ≤ 9223372036854775807) (_hn : a = none → n = 0 ∧ c = 0) (hz : RecsOk n r ∧ RecsAt w a n r ∧ ValsAt w n r) (_ht : 0 ≤ t ∧ t ≤ 255) :
    Calls Ycqm.prog 3 #[.slice a n c, .int .u8 t] w fun e w' => e = .returned (.bool true) ∧ Below w.heap.size w w' := by
  obtain ⟨_, ha, _⟩ := hz
  have HA : Hid (RecsAt w a n r) := ha
  clear ha _hn
  go_enter Ycqm.func3, Ycqm.ntmps3
  go_wp2
  go_loop [5, 6] (fun x i => ∃ (k : Nat) (q : Int), k ≤ n ∧ i = .int .i64 k ∧ x = .int .i64 q ∧ Hid (IsFirst r.T t k n q)) (fun _ i => (intOf i).toNat)
  case atStart => exact ⟨n, -1, Nat.le_refl _, rfl, rfl, .inl ⟨rfl, fun i h1 h2 => by omega⟩⟩
  case round =>
    obtain ⟨k, q, hk, rfl, rfl, HF⟩ := hrel
    by_cases hk0 : 0 < k
    · obtain ⟨b, off, rfl, hT, hV⟩ := HA.out (by omega)
      obtain ⟨j, rfl⟩ : ∃ j, k = j + 1 := ⟨k - 1, by omega⟩
      have h1 : w.cell? ⟨b, off + j * 2, none⟩ = some (.int .u8 (r.T j)) := hT j (by omega)
      clear hT hV
      have hs := first_step HF.out (by omega)
      by_cases he : r.T j = t
      · have heb : (r.T j == t) = true := by simpa using he
        have HE : Hid (IsFirst r.T t j n j) := hs.1 he
        clear he hs
        go_wp2
        go_round
        case rel => exact ⟨j, j, by omega, by go_num, by go_num, HE⟩
        case measure => simp [intOf] <;> omega
      · have heb : (r.T j == t) = false := by simpa using he
        have HE : Hid (IsFirst r.T t j n q) := hs.2 he
        clear he hs
        go_wp2
        go_round
        case rel => exact ⟨j, q, by omega, by go_num, rfl, HE⟩
        case measure => simp [intOf] <;> omega
    · obtain rfl : k = 0 := by omega
      go_wp2_with (go_at_call 15; refine (index_any a n c r t _ (by omega) HA.out).mono ?_; rintro e w' ⟨j, rfl, hj, hb⟩)
      go_ret
      have := hj.uniq HF.out
      exact ⟨ret_bool (by simpa using this), hb⟩
end Go.Proofs.Ymbrcq.lawS930003IExact
