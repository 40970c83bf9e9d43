/-
  Ymbrcp: 'RecordSize' and 'TotalSize': plain functions of the values' lengths.
-/
import Derived.Test.YmbrcpBase
namespace Go.Proofs.Ymbrcp
open Go.RowKit
set_option linter.unusedVariables false

/-- What a value of n bytes takes on the wire. -/
def wire (n : Nat) : Nat := if n < 128 then n + 2 else if n < 256 then n + 3 else n + 4

/-- What the first k values take. -/
def sumTo (L : Nat → Nat) : Nat → Nat
  | 0 => 0
  | k + 1 => sumTo L k + wire (L k)

/-- The first n values make a lawful message. -/
def Fits (L : Nat → Nat) (n : Nat) : Prop := (∀ i, i < n → L i ≤ 65535) ∧ sumTo L n ≤ 1048576

theorem wire_ge (n : Nat) : n + 2 ≤ wire n ∧ wire n ≤ n + 4 := by unfold wire; split <;> (try split) <;> omega
theorem sumTo_mono (L : Nat → Nat) {j k : Nat} (h : j ≤ k) : sumTo L j ≤ sumTo L k := by
  induction h with
  | refl => exact Nat.le_refl _
  | step _ ih => simp only [sumTo]; omega
theorem sumTo_ge (L : Nat → Nat) (k : Nat) : 2 * k ≤ sumTo L k := by
  induction k with
  | zero => simp [sumTo]
  | succ k ih => have := wire_ge (L k); simp only [sumTo]; omega
theorem Fits.upto {L : Nat → Nat} {j n : Nat} (h : Fits L n) (hj : j ≤ n) : Fits L j := ⟨fun i hi => h.1 i (by omega), Nat.le_trans (sumTo_mono L hj) h.2⟩

def rsize (n : Nat) : Int := if 65535 < n then 0 else wire n
def rok (n : Nat) : Bool := decide (n ≤ 65535)

theorem pair_of {q q' : Int} {b b' : Bool} (h : q' = q) (h2 : b' = b) : Ending.returned (.tuple #[.int .i64 q, .bool b]) = .returned (.tuple #[.int .i64 q', .bool b']) := by rw [h, h2]

set_option maxRecDepth 100000 in
set_option maxHeartbeats 400000 in
theorem rs_calls (t : Int) (a : Option Addr) (n c : Nat) (w : World) (hn : n ≤ 9223372036854775807) :
    Calls Ycpm.prog 29 #[.agg #[.int .u8 t, .slice a n c]] w fun e w' => e = .returned (.tuple #[.int .i64 (rsize n), .bool (rok n)]) ∧ Below w.heap.size w w' := by
  by_cases h0 : 65535 < n
  · have HE : Hid (rsize n = 0 ∧ rok n = false) := ⟨by simp [rsize, h0], by simp [rok]; omega⟩
    go_enter Ycpm.func29, Ycpm.ntmps29
    go_wp2
    go_ret2
    exact ⟨pair_of HE.out.1 HE.out.2, (Below.refl _ _).alloc (Nat.le_refl _) _⟩
  have HO : Hid (rok n = true) := by simp [Hid, rok]; omega
  by_cases h1 : n < 128
  · have HE : Hid (rsize n = (n : Int) + 2) := by simp [Hid, rsize, wire, h0, h1]
    go_enter Ycpm.func29, Ycpm.ntmps29
    go_wp2
    go_ret2
    exact ⟨pair_of HE.out HO.out, (Below.refl _ _).alloc (Nat.le_refl _) _⟩
  by_cases h2 : n < 256
  · have HE : Hid (rsize n = (n : Int) + 3) := by simp [Hid, rsize, wire, h0, h1, h2]
    go_enter Ycpm.func29, Ycpm.ntmps29
    go_wp2
    go_ret2
    exact ⟨pair_of HE.out HO.out, (Below.refl _ _).alloc (Nat.le_refl _) _⟩
  · have HE : Hid (rsize n = (n : Int) + 4) := by simp [Hid, rsize, wire, h0, h1, h2]
    go_enter Ycpm.func29, Ycpm.ntmps29
    go_wp2
    go_ret2
    exact ⟨pair_of HE.out HO.out, (Below.refl _ _).alloc (Nat.le_refl _) _⟩

theorem bcell {W w1 : World} (hb : Below W.heap.size W w1) : (∀ b o, b < W.heap.size → w1.cell? ⟨b, o, none⟩ = W.cell? ⟨b, o, none⟩) ∧ (∀ b o, b < W.heap.size → w1.frozen? ⟨b, o, none⟩ = W.frozen? ⟨b, o, none⟩) :=
  ⟨fun b o h => hb.cell (p := ⟨b, o, none⟩) h, fun b o h => hb.frozen (p := ⟨b, o, none⟩) h⟩

/-- 'TotalSize': the whole, or 0 and false. -/
def TotalIs (L : Nat → Nat) (n : Nat) (r : Int) (b : Bool) : Prop := (b = true ∧ Fits L n ∧ r = sumTo L n) ∨ (b = false ∧ ¬ Fits L n ∧ r = 0)

set_option maxHeartbeats 1000000 in
theorem ts_calls (a : Option Addr) (n c : Nat) (r : Recs) (w : World) (hn : n ≤ 9223372036854775807) (ha : RecsAt w a n r) (hr : ∀ i, i < n → r.L i ≤ 9223372036854775807) :
    Calls Ycpm.prog 18 #[.slice a n c] w fun e w' => ∃ q b, e = .returned (.tuple #[.int .i64 q, .bool b]) ∧ TotalIs r.L n q b ∧ Below w.heap.size w w' := by
  have HA : Hid (RecsAt w a n r) := ha
  have HR : Hid (∀ i, i < n → r.L i ≤ 9223372036854775807) := hr
  clear ha hr
  go_enter Ycpm.func18, Ycpm.ntmps18
  go_wp2_with fail
  go_loopw [4, 11] (fun t i wr => ∃ k : Nat, k ≤ n ∧ i = .int .i64 k ∧ t = .int .i64 (sumTo r.L k) ∧ Hid (Fits r.L k) ∧ Below w.heap.size w wr)
    (fun _ i _ => n - (intOf i).toNat)
  case atStart => exact ⟨0, Nat.zero_le _, rfl, rfl, ⟨fun i hi => by omega, by simp [sumTo]⟩, Below.refl _ _⟩
  case round =>
    obtain ⟨k, hk, rfl, rfl, hf, hbel⟩ := hrel
    by_cases hlt : k < n
    · obtain ⟨b, off, rfl, hT, hV⟩ := HA.out (by omega)
      have h1 : wr.cell? ⟨b, off + k * 2, none⟩ = some (.int .u8 (r.T k)) := (hbel.cell (World.block_lt_of_cell? _ _ (hT k hlt))).trans (hT k hlt)
      have h2 : wr.cell? ⟨b, off + k * 2 + 1, none⟩ = some (.slice (r.A k) (r.L k) (r.C k)) := (hbel.cell (World.block_lt_of_cell? _ _ (hV k hlt))).trans (hV k hlt)
      clear hT hV
      have hs1 : sumTo r.L k ≤ 1048576 := hf.out.2
      have hL := HR.out k hlt
      have hsz := hbel.size
      by_cases hbig : 65535 < r.L k
      · have HN : Hid (¬ Fits r.L n) := fun h => by have := h.1 k hlt; omega
        have hq : rok (r.L k) = false := by simp [rok]; omega
        go_wp2_with (go_at_call 29; refine (rs_calls _ _ _ _ _ hL).mono ?_; rintro e w' ⟨rfl, hb2⟩)
        go_ret2
        exact ⟨_, _, rfl, .inr ⟨rfl, HN.out, rfl⟩, (hbel.alloc hbel.size _).trans (hb2.mono (by simp; omega))⟩
      · have hq : rok (r.L k) = true := by simp [rok]; omega
        have hq2 : rsize (r.L k) = wire (r.L k) := by simp [rsize, hbig]
        have hw : wire (r.L k) ≤ 65539 := by have := wire_ge (r.L k); omega
        by_cases hover : 1048576 < sumTo r.L k + wire (r.L k)
        · have HN : Hid (¬ Fits r.L n) := fun h => by have := (h.upto (show k + 1 ≤ n by omega)).2; simp only [sumTo] at this; omega
          go_wp2_with (go_at_call 29; refine (rs_calls _ _ _ _ _ hL).mono ?_; rintro e w' ⟨rfl, hb2⟩)
          go_ret2
          exact ⟨_, _, rfl, .inr ⟨rfl, HN.out, rfl⟩, (hbel.alloc hbel.size _).trans (hb2.mono (by simp; omega))⟩
        · have HN : Hid (Fits r.L (k + 1)) := by
            refine ⟨fun i hi => ?_, by simp only [sumTo]; omega⟩
            by_cases e : i = k
            · rw [e]; omega
            · exact hf.out.1 i (by omega)
          go_wp2_with (go_at_call 29; refine (rs_calls _ _ _ _ _ hL).mono ?_; rintro e w' ⟨rfl, hb2⟩)
          go_roundw
          case rel => exact ⟨k + 1, by omega, by go_num, by simp only [sumTo]; go_num, HN, (hbel.alloc hbel.size _).trans (hb2.mono (by simp; omega))⟩
          case measure => simp [intOf] <;> omega
    · obtain rfl : k = n := by omega
      go_wp2
      go_ret2
      exact ⟨_, _, rfl, .inl ⟨rfl, hf.out, rfl⟩, hbel⟩
end Go.Proofs.Ymbrcp
