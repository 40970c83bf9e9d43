/-
  Ymbrcp: 'zzs930003erank': how many records stand ahead of one in the stable order.
-/
import Derived.Test.YmbrcpSort
import Derived.Test.YmbrcpCopyR
namespace Go.Proofs.Ymbrcp
open Go.RowKit
set_option linter.unusedVariables false

instance lexT.dec (T : Nat → Int) (x y : Nat) : Decidable (lexT T x y) := by unfold lexT; infer_instance

/-- How many of the first k records stand ahead of record i. -/
def rk (T : Nat → Int) (i k : Nat) : Nat := (List.range k).countP (fun x => decide (lexT T x i))

theorem rk_le (T : Nat → Int) (i k : Nat) : rk T i k ≤ k := by
  have := List.countP_le_length (p := fun x => decide (lexT T x i)) (l := List.range k)
  simpa [rk] using this
theorem rk_yes {T : Nat → Int} {i k : Nat} (h : lexT T k i) : rk T i (k + 1) = rk T i k + 1 := by
  simp [rk, List.range_succ, List.countP_append, h]
theorem rk_no {T : Nat → Int} {i k : Nat} (h : ¬ lexT T k i) : rk T i (k + 1) = rk T i k := by
  simp [rk, List.range_succ, List.countP_append, h]

theorem lexT.asymm {T : Nat → Int} {x y : Nat} (h : lexT T x y) : ¬ lexT T y x := by unfold lexT at *; omega

/-- The rank of record i is her place in the sorted row. -/
theorem rk_place {T : Nat → Int} {n i : Nat} {l : List Nat} (hp : l.Perm (List.range n)) (ho : l.Pairwise (lexT T)) (hi : i < n) : l[rk T i n]? = some i := by
  have hm : i ∈ l := hp.mem_iff.2 (List.mem_range.2 hi)
  obtain ⟨a, b, e⟩ := List.append_of_mem hm
  have hc : rk T i n = l.countP (fun x => decide (lexT T x i)) := (hp.countP_eq _).symm
  subst e
  obtain ⟨pa, pb, pab⟩ := List.pairwise_append.1 ho
  have hb := List.pairwise_cons.1 pb
  rw [List.countP_append, List.countP_cons] at hc
  have h1 : a.countP (fun x => decide (lexT T x i)) = a.length := List.countP_eq_length.2 (fun x hx => by simpa using pab x hx i (by simp))
  have h2 : b.countP (fun x => decide (lexT T x i)) = 0 := List.countP_eq_zero.2 (fun x hx => by simpa using (hb.1 x hx).asymm)
  have h3 : ¬ lexT T i i := by unfold lexT; omega
  rw [h1, h2] at hc
  simp [h3] at hc
  rw [hc, List.getElem?_append_right (Nat.le_refl _)]
  simp

set_option maxRecDepth 100000 in
set_option maxHeartbeats 4000000 in
theorem erank_calls (a : Option Addr) (n c : Nat) (r : Recs) (i : Nat) (w : World) (hn : (n : Int) ≤ 1000000) (hi : i < n) (hok : RecsOk n r) (ha : RecsAt w a n r) :
    Calls Ycpm.prog 17 #[.slice a n c, .int .i64 i] w fun e w' => e = .returned (.int .i64 (rk r.T i n)) ∧ ∃ d, w' = w.drewN d := by
  obtain ⟨ab, off, rfl, hT, hS⟩ := ha (by omega)
  have q0 : w.cell? ⟨ab, off + i * 2, none⟩ = some (.int .u8 (r.T i)) := hT i hi
  have HT : Hid (∀ k, k < n → w.cell? ⟨ab, off + k * 2, none⟩ = some (.int .u8 (r.T k))) := hT
  clear hT hS ha hok
  have hi2 : (i : Int) < (n : Int) := by omega
  go_enter Ycpm.func17, Ycpm.ntmps17
  go_wp2
  go_loopw [5, 6] (fun nv kv wr => ∃ k d : Nat, k ≤ n ∧ nv = .int .i64 (rk r.T i k) ∧ kv = .int .i64 k ∧ wr = w.drewN d) (fun _ kv _ => n - (intOf kv).toNat)
  case atStart => exact ⟨0, 0, Nat.zero_le _, rfl, rfl, rfl⟩
  case round =>
    obtain ⟨k, d, hk, rfl, rfl, rfl⟩ := hrel
    have hle := rk_le r.T i k
    by_cases hlt : k < n
    · have g1 := HT.out k hlt
      have hl : (k : Int) < (n : Int) := by omega
      by_cases h1 : r.T k < r.T i
      · have hd : decide (r.T k < r.T i) = true := decide_eq_true h1
        have HY : Hid (rk r.T i (k + 1) = rk r.T i k + 1) := rk_yes (.inl h1)
        go_wp2
        go_quiet (fail)
        go_wp2
        go_roundw
        case rel => exact ⟨k + 1, _, by omega, by rw [HY.out]; go_num, by go_num, rfl⟩
        case measure => simp [intOf] <;> omega
      · have hd : decide (r.T k < r.T i) = false := decide_eq_false h1
        by_cases h2 : k < i
        · have hd2 : decide ((k : Int) < (i : Int)) = true := decide_eq_true (by omega)
          by_cases h3 : r.T k = r.T i
          · have hd3 : decide (r.T k = r.T i) = true := decide_eq_true h3
            have hd4 : (r.T k == r.T i) = true := by simp [h3]
            have HY : Hid (rk r.T i (k + 1) = rk r.T i k + 1) := rk_yes (.inr ⟨h3, h2⟩)
            clear h3
            go_wp2
            go_quiet (fail)
            go_wp2
            go_roundw
            case rel => exact ⟨k + 1, _, by omega, by rw [HY.out]; go_num, by go_num, rfl⟩
            case measure => simp [intOf] <;> omega
          · have hd3 : decide (r.T k = r.T i) = false := decide_eq_false h3
            have hd4 : (r.T k == r.T i) = false := by simp [h3]
            have HY : Hid (rk r.T i (k + 1) = rk r.T i k) := rk_no (by unfold lexT; omega)
            go_wp2
            go_quiet (fail)
            go_wp2
            go_roundw
            case rel => exact ⟨k + 1, _, by omega, by rw [HY.out], by go_num, rfl⟩
            case measure => simp [intOf] <;> omega
        · have hd2 : decide ((k : Int) < (i : Int)) = false := decide_eq_false (by omega)
          have HY : Hid (rk r.T i (k + 1) = rk r.T i k) := rk_no (by unfold lexT; omega)
          go_wp2
          go_quiet (fail)
          go_wp2
          go_roundw
          case rel => exact ⟨k + 1, _, by omega, by rw [HY.out], by go_num, rfl⟩
          case measure => simp [intOf] <;> omega
    · obtain rfl : n = k := by omega
      go_wp2
      go_ret
      exact ⟨rfl, d, rfl⟩
end Go.Proofs.Ymbrcp
