/-
  Ymbrcq: 'Index': the least place of a type among the records, or -1.
-/
import Derived.Test.YmbrcqBase
namespace Go.Proofs.Ymbrcq
open Go.RowKit

/-- r is the least place from lo on (below n) at which T holds t; -1 if there is none. -/
def IsFirst (T : Nat → Int) (t : Int) (lo n : Nat) (r : Int) : Prop :=
  (r = -1 ∧ ∀ i, lo ≤ i → i < n → T i ≠ t) ∨ (∃ k : Nat, r = k ∧ lo ≤ k ∧ k < n ∧ T k = t ∧ ∀ i, lo ≤ i → i < k → T i ≠ t)

theorem IsFirst.uniq {T : Nat → Int} {t : Int} {lo n : Nat} {r s : Int} (h : IsFirst T t lo n r) (g : IsFirst T t lo n s) : r = s := by
  rcases h with ⟨rfl, h⟩ | ⟨k, rfl, hk0, hk, hkt, hm⟩ <;> rcases g with ⟨rfl, g⟩ | ⟨j, rfl, hj0, hj, hjt, gm⟩
  · rfl
  · exact absurd hjt (h j hj0 hj)
  · exact absurd hkt (g k hk0 hk)
  · rcases Nat.lt_trichotomy k j with h1 | h1 | h1
    · exact absurd hkt (gm k hk0 h1)
    · rw [h1]
    · exact absurd hjt (hm j hj0 h1)

theorem IsFirst.bound {T : Nat → Int} {t : Int} {lo n : Nat} {r : Int} (h : IsFirst T t lo n r) : -1 ≤ r ∧ r < n := by
  rcases h with ⟨rfl, h⟩ | ⟨k, rfl, hk0, hk, hkt, hm⟩ <;> omega

set_option maxHeartbeats 400000 in
theorem index_any (a : Option Addr) (n c : Nat) (r : Recs) (t : Int) (w : World) (hn : n ≤ 9223372036854775807) (ha : RecsAt w a n r) :
   Calls Ycqm.prog 15 #[.slice a n c, .int .u8 t] w fun e w' => ∃ k, e = .returned (.int .i64 k) ∧ IsFirst r.T t 0 n k ∧ Below w.heap.size w w' := by
  have HA : Hid (RecsAt w a n r) := ha
  clear ha
  go_enter Ycqm.func15, Ycqm.ntmps15
  go_wp2
  go_loopw [9] (fun i wr => ∃ k : Nat, k ≤ n ∧ i = .int .i64 k ∧ (∀ i, i < k → r.T i ≠ t) ∧ Below w.heap.size w wr)
    (fun i _ => n - (intOf i).toNat)
  case atStart => exact ⟨0, Nat.zero_le _, rfl, by intro i h; omega, Below.refl _ _⟩
  case round =>
    obtain ⟨k, hk, rfl, hno, hbel⟩ := hrel
    have HN : Hid (∀ i, i < k → r.T i ≠ t) := hno
    clear hno
    by_cases hlt : k < n
    · obtain ⟨b, off, rfl, hT, hV⟩ := HA.out (by omega)
      have h1 : wr.cell? ⟨b, off + k * 2, none⟩ = some (.int .u8 (r.T k)) := (hbel.cell (World.block_lt_of_cell? _ _ (hT k hlt))).trans (hT k hlt)
      have h2 : wr.cell? ⟨b, off + k * 2 + 1, none⟩ = some (.slice (r.A k) (r.L k) (r.C k)) := (hbel.cell (World.block_lt_of_cell? _ _ (hV k hlt))).trans (hV k hlt)
      clear hT hV
      by_cases he : r.T k = t
      · have heb : (r.T k == t) = true := by simpa using he
        have HE : Hid (r.T k = t) := he
        clear he
        go_wp2
        go_ret
        exact ⟨k, rfl, .inr ⟨k, rfl, Nat.zero_le _, hlt, HE.out, fun i _ h => HN.out i h⟩, hbel.alloc hbel.size _⟩
      · have heb : (r.T k == t) = false := by simpa using he
        have HE : Hid (r.T k ≠ t) := he
        clear he
        go_wp2
        go_roundw
        case rel =>
          refine ⟨k + 1, by omega, by go_num, fun i hi => ?_, hbel.alloc hbel.size _⟩
          by_cases e : i = k
          · rw [e]; exact HE.out
          · exact HN.out i (by omega)
        case measure => simp [intOf]; omega
    · go_wp2
      go_ret
      exact ⟨-1, rfl, .inl ⟨rfl, fun i _ h => HN.out i (by omega)⟩, hbel⟩
end Go.Proofs.Ymbrcq
