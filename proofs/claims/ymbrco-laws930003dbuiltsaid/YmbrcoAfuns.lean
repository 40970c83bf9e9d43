/-
  Ymbrco: the helpers of the A laws: 'zzs930003abase', 'zzs930003acopy', 'zzs930003aenc', 'zzs930003acmp'.
-/
import Derived.Test.YmbrcoAppLen
namespace Go.Proofs.Ymbrco
open Go.RowKit
set_option linter.unusedVariables false

set_option maxRecDepth 100000 in
theorem abase_calls (e : Int) (w : World) (he : 0 ≤ e ∧ e ≤ 255) :
    Calls Ycom.prog 15 #[.int .u8 e] w fun r w' => ∃ n : Nat, r = .returned (.int .i64 n) ∧ (n : Int) ≤ 65535 ∧ w' = w := by
  go_enter Ycom.func15, Ycom.ntmps15
  go_wp2
  all_goals
    go_ret
    first
      | (refine ⟨0, ret_int ?_, ?_, rfl⟩ <;> omega)
      | (refine ⟨128, ret_int ?_, ?_, rfl⟩ <;> omega)
      | (refine ⟨256, ret_int ?_, ?_, rfl⟩ <;> omega)
      | (refine ⟨65535, ret_int ?_, ?_, rfl⟩ <;> omega)
      | (refine ⟨4660, ret_int ?_, ?_, rfl⟩ <;> omega)
      | (refine ⟨200, ret_int ?_, ?_, rfl⟩ <;> omega)

/-- The bytes of a slice as a list. -/
def lst (n : Nat) (z : Nat → Int) : List Int := (List.range n).map z
theorem lst_len (n : Nat) (z : Nat → Int) : (lst n z).length = n := by simp [lst]
theorem lst_bytes {n : Nat} {z : Nat → Int} (h : IsByte z) : AllB (lst n z) := by
  intro x hx
  obtain ⟨i, _, rfl⟩ := List.mem_map.1 hx
  exact h i
theorem lst_get {n : Nat} {z : Nat → Int} {i : Nat} (h : i < n) : zl (lst n z) i = z i := by simp [zl, lst, List.getD, h]

theorem ownB_row {w : World} {base g n : Nat} {z : Nat → Int} (h : w.rowIs g 5 n (fun i => .int .u8 (z i))) (hb : base ≤ g) (hn : n ≤ 9223372036854775807) : OwnB w base (.slice (some ⟨g, 0, none⟩) n n) (lst n z) := by
  obtain ⟨cur, hg, hcs, hcf⟩ := h
  have hl : (lst n z).length = n := lst_len n z
  refine ⟨by simp, .inr ⟨g, n, cur, by rw [hl], hb, hg, by rw [hl]; exact Nat.le_refl _, by unfold maxLen; omega, by rw [hcs, Nat.mul_one], ?_⟩⟩
  rw [hl, Nat.mul_one, List.take_of_length_le (by simp [hcs])]
  apply List.ext_getElem?
  intro i
  by_cases hi : i < n
  · have := hcf i hi
    simp only [Array.getElem?_toList, this]
    simp [lst, hi]
  · rw [List.getElem?_eq_none (by simp [hcs]; omega), List.getElem?_eq_none (by simp [hl]; omega)]

set_option maxHeartbeats 1000000 in
theorem acopy_calls (a : Option Addr) (n c : Nat) (z : Nat → Int) (w : World) (hnil : a = none → n = 0 ∧ c = 0) (hn : (n : Int) ≤ 4096) (ha : BytesAt w a n z) :
    Calls Ycom.prog 17 #[.slice a n c] w fun e w' => ∃ ao cap, e = .returned (.slice ao n cap) ∧ ao.isNone = a.isNone ∧ OwnB w' w.heap.size (.slice ao n cap) (lst n z) ∧ Below w.heap.size w w' := by
  have hq := eqlB_nil
  cases a with
  | none =>
    obtain ⟨rfl, rfl⟩ := hnil rfl
    go_enter Ycom.func17, Ycom.ntmps17
    go_wp2
    go_ret
    exact ⟨none, 0, rfl, rfl, OwnB.nil w _, Below.refl _ _⟩
  | some ad =>
    have HA : Hid (BytesAt w (some ad) n z) := ha
    clear ha hnil
    go_enter Ycom.func17, Ycom.ntmps17
    go_wp2_with (at_make; refine wpList_mkBx _ _ rfl rfl _ _ rfl .i64 .i64 _ _ n n rfl rfl rfl rfl (Nat.le_refl _) (by omega) ?_; intro w1 hrow hb1 hs1)
    go_loopw [4] (fun i wr => ∃ k : Nat, k ≤ n ∧ i = .int .i64 k ∧ Hid (wr.rowIs w.heap.size 5 n (fun j => .int .u8 (if j < k then z j else 0))) ∧ Hid (Below w.heap.size w wr)) (fun i _ => n - (intOf i).toNat)
    case atStart => exact ⟨0, Nat.zero_le _, rfl, hrow.congr fun j _ => by simp, hb1⟩
    case round =>
      obtain ⟨k, hk, rfl, HR, HB⟩ := hrel
      by_cases hlt : k < n
      · obtain ⟨b, off, e, hcell⟩ := HA.out (by omega)
        simp only [Option.some.injEq] at e
        subst e
        have c1 : wr.cell? ⟨b, off + k, none⟩ = some (.int .u8 (z k)) := (HB.out.cell (World.block_lt_of_cell? _ _ (hcell k hlt))).trans (hcell k hlt)
        have d1 : wr.cell? ⟨w.heap.size, k, none⟩ = some (.int .u8 (if k < k then z k else 0)) := HR.out.cell hlt
        have f1 : wr.frozen? ⟨w.heap.size, k, none⟩ = false := HR.out.frozen k
        clear hcell
        go_wp2
        go_roundw
        case rel =>
          refine ⟨k + 1, by omega, by go_num, (HR.out.set k _).congr fun j _ => ?_, HB.out.setCell (Nat.le_refl _) _⟩
          by_cases e : j = k
          · subst e; simp
          · rw [if_neg e]
            by_cases h2 : j < k
            · rw [if_pos h2, if_pos (by omega)]
            · rw [if_neg h2, if_neg (by omega)]
        case measure => simp [intOf] <;> omega
      · obtain rfl : n = k := by omega
        go_wp2
        go_ret
        refine ⟨some ⟨w.heap.size, 0, none⟩, n, rfl, rfl, ownB_row (HR.out.congr fun j hj => by rw [if_pos hj]) (Nat.le_refl _) (by omega), HB.out⟩

set_option maxRecDepth 100000 in
set_option maxHeartbeats 2000000 in
theorem aenc_calls (x : Nat) (w : World) (hx : (x : Int) ≤ 65535) :
    Calls Ycom.prog 19 #[.int .i64 x] w fun e w' => ∃ g m c, e = .returned (.slice (some ⟨g, 0, none⟩) m c) ∧ m = (lenF x).length ∧ w.heap.size ≤ g ∧ g < w'.heap.size ∧ BytesAt w' (some ⟨g, 0, none⟩) m (zl (lenF x)) ∧ Below w.heap.size w w' := by
  by_cases h1 : x < 128
  · have h1' : (x : Int) ≤ 127 := by omega
    have HL : Hid (lenF x = [(x : Int)]) := by simp [Hid, lenF, h1]
    go_enter Ycom.func19, Ycom.ntmps19
    go_wp2
    go_ret
    rw [HL.out]
    exact ⟨w.heap.size, 1, 1, rfl, rfl, Nat.le_refl _, by simp, listAt_new w [(x : Int)] 5, (Below.refl _ _).alloc (Nat.le_refl _) _⟩
  by_cases h2 : x < 256
  · have h2' : (x : Int) ≤ 255 := by omega
    have h3 : (x : Int) / 256 = 0 := by omega
    have h4 : (x : Int) % 256 = (x : Int) := by omega
    have hp : (0 : Int) < x := by omega
    have HL : Hid (lenF x = [129, (x : Int)]) := by simp [Hid, lenF, h1, h2]
    go_enter Ycom.func19, Ycom.ntmps19
    go_wp2
    refine wp_loop_rounds 2 ?_
    rw [rounds_succ]
    go_wp2
    rw [rounds_succ]
    go_wp2_with (at_make; refine wpList_mkBx _ _ rfl rfl _ _ rfl .i64 .i64 _ _ 2 2 rfl rfl rfl rfl (Nat.le_refl _) (by omega) ?_; intro w1 hrow hb1 hs1; have hlt := hrow.lt; have d0 : w1.cell? ⟨w.heap.size, 0, none⟩ = some (.int .u8 0) := hrow.cell (by omega); have f0 : w1.frozen? ⟨w.heap.size, 0, none⟩ = false := hrow.frozen _; have d1 : w1.cell? ⟨w.heap.size, 1, none⟩ = some (.int .u8 0) := hrow.cell (by omega); have f1 : w1.frozen? ⟨w.heap.size, 1, none⟩ = false := hrow.frozen _)
    refine wp_loop_rounds 2 ?_
    rw [rounds_succ]
    go_wp2
    rw [rounds_succ]
    go_wp2
    go_ret
    rw [HL.out]
    refine ⟨w.heap.size, 2, 2, rfl, rfl, Nat.le_refl _, by simp; omega, ?_, (hb1.setCell (Nat.le_refl _) _).setCell (Nat.le_refl _) _⟩
    refine rowIs_bytes0 (t := 5) (n := 2) (((hrow.set 0 (.int .u8 129)).set 1 (.int .u8 x)).congr fun j hj => ?_) 2 (Nat.le_refl _)
    match j, hj with
    | 0, _ => simp [zl, List.getD]
    | 1, _ => simp [zl, List.getD]
  · have h2' : (256 : Int) ≤ x := by omega
    have h3 : (x : Int) / 256 / 256 = 0 := by omega
    have h4 : (x : Int) / 256 % 256 = (x : Int) / 256 := by omega
    have hp : (0 : Int) < (x : Int) / 256 := by omega
    have hp2 : (x : Int) / 256 ≤ 255 := by omega
    have HL : Hid (lenF x = [130, (x : Int) / 256, (x : Int) % 256]) := by simp [Hid, lenF, h1, h2]
    go_enter Ycom.func19, Ycom.ntmps19
    go_wp2
    refine wp_loop_rounds 3 ?_
    rw [rounds_succ]
    go_wp2
    rw [rounds_succ]
    go_wp2
    rw [rounds_succ]
    go_wp2_with (at_make; refine wpList_mkBx _ _ rfl rfl _ _ rfl .i64 .i64 _ _ 3 3 rfl rfl rfl rfl (Nat.le_refl _) (by omega) ?_; intro w1 hrow hb1 hs1; have hlt := hrow.lt; have d0 : w1.cell? ⟨w.heap.size, 0, none⟩ = some (.int .u8 0) := hrow.cell (by omega); have f0 : w1.frozen? ⟨w.heap.size, 0, none⟩ = false := hrow.frozen _; have d1 : w1.cell? ⟨w.heap.size, 1, none⟩ = some (.int .u8 0) := hrow.cell (by omega); have f1 : w1.frozen? ⟨w.heap.size, 1, none⟩ = false := hrow.frozen _; have d2 : w1.cell? ⟨w.heap.size, 2, none⟩ = some (.int .u8 0) := hrow.cell (by omega); have f2 : w1.frozen? ⟨w.heap.size, 2, none⟩ = false := hrow.frozen _)
    refine wp_loop_rounds 3 ?_
    rw [rounds_succ]
    go_wp2
    rw [rounds_succ]
    go_wp2
    rw [rounds_succ]
    go_wp2
    go_ret
    rw [HL.out]
    refine ⟨w.heap.size, 3, 3, rfl, rfl, Nat.le_refl _, by simp; omega, ?_, ((hb1.setCell (Nat.le_refl _) _).setCell (Nat.le_refl _) _).setCell (Nat.le_refl _) _⟩
    refine rowIs_bytes0 (t := 5) (n := 3) ((((hrow.set 0 (.int .u8 130)).set 2 (.int .u8 ((x : Int) % 256))).set 1 (.int .u8 ((x : Int) / 256))).congr fun j hj => ?_) 3 (Nat.le_refl _)
    match j, hj with
    | 0, _ => simp [zl, List.getD]
    | 1, _ => simp [zl, List.getD]
    | 2, _ => simp [zl, List.getD]

theorem drewN_add (w : World) (a b : Nat) : (w.drewN a).drewN b = w.drewN (a + b) := by simp [World.drewN, Nat.add_assoc]

/-- What a comparison of two byte rows answers. -/
def IsCmp (z1 z2 : Nat → Int) (n1 n2 : Nat) (r : Int) : Prop :=
  (∃ k, k < n1 ∧ k < n2 ∧ (∀ i, i < k → z1 i = z2 i) ∧ ((z1 k < z2 k ∧ r = -1) ∨ (z2 k < z1 k ∧ r = 1))) ∨
  ((∀ i, i < n1 → i < n2 → z1 i = z2 i) ∧ ((n1 < n2 ∧ r = -1) ∨ (n2 < n1 ∧ r = 1) ∨ (n1 = n2 ∧ r = 0)))

set_option maxHeartbeats 2000000 in
theorem acmp_calls (a1 a2 : Option Addr) (n1 n2 c1 c2 : Nat) (z1 z2 : Nat → Int) (w : World) (hn1 : (n1 : Int) ≤ 1000) (hn2 : (n2 : Int) ≤ 1000) (h1 : BytesAt w a1 n1 z1) (h2 : BytesAt w a2 n2 z2) :
    Calls Ycom.prog 20 #[.slice a1 n1 c1, .slice a2 n2 c2] w fun e w' => ∃ r, e = .returned (.int .i64 r) ∧ IsCmp z1 z2 n1 n2 r ∧ ∃ d, w' = w.drewN d := by
  have H1 : Hid (BytesAt w a1 n1 z1) := h1
  have H2 : Hid (BytesAt w a2 n2 z2) := h2
  clear h1 h2
  go_enter Ycom.func20, Ycom.ntmps20
  go_wp2
  go_loopw [5] (fun i wr => ∃ k d : Nat, k ≤ n1 ∧ k ≤ n2 ∧ i = .int .i64 k ∧ Hid (∀ i, i < k → z1 i = z2 i) ∧ wr = w.drewN d) (fun i _ => n1 - (intOf i).toNat)
  case atStart => exact ⟨0, 0, Nat.zero_le _, Nat.zero_le _, rfl, fun i hi => by omega, rfl⟩
  case round =>
    obtain ⟨k, d, hk1, hk2, rfl, HE, rfl⟩ := hrel
    by_cases hlt : k < n1 ∧ k < n2
    · obtain ⟨hl1, hl2⟩ := hlt
      obtain ⟨b1, o1, rfl, hc1⟩ := H1.out (by omega)
      obtain ⟨b2, o2, rfl, hc2⟩ := H2.out (by omega)
      have g1 : w.cell? ⟨b1, o1 + k, none⟩ = some (.int .u8 (z1 k)) := hc1 k hl1
      have g2 : w.cell? ⟨b2, o2 + k, none⟩ = some (.int .u8 (z2 k)) := hc2 k hl2
      have m1 : (k : Int) < (n1 : Int) := by omega
      have m2 : (k : Int) < (n2 : Int) := by omega
      clear hc1 hc2
      by_cases x1 : z1 k < z2 k
      · have e1 : decide (z1 k < z2 k) = true := decide_eq_true x1
        go_wp2
        go_quiet (fail)
        go_wp2
        go_ret
        exact ⟨-1, rfl, .inl ⟨k, hl1, hl2, HE.out, .inl ⟨x1, rfl⟩⟩, _, drewN_add w d _⟩
      · have e1 : decide (z1 k < z2 k) = false := decide_eq_false x1
        by_cases x2 : z2 k < z1 k
        · have e2 : decide (z2 k < z1 k) = true := decide_eq_true x2
          go_wp2
          go_quiet (fail)
          go_wp2
          go_quiet (fail)
          go_wp2
          go_ret
          exact ⟨1, rfl, .inl ⟨k, hl1, hl2, HE.out, .inr ⟨x2, rfl⟩⟩, _, (by rw [drewN_add, drewN_add])⟩
        · have e2 : decide (z2 k < z1 k) = false := decide_eq_false x2
          have HN : Hid (∀ i, i < k + 1 → z1 i = z2 i) := by
            intro i hi
            by_cases e : i = k
            · rw [e]; omega
            · exact HE.out i (by omega)
          go_wp2
          go_quiet (fail)
          go_wp2
          go_quiet (fail)
          go_wp2
          go_roundw
          case rel => exact ⟨k + 1, _, by omega, by omega, by go_num, HN, rfl⟩
          case measure => simp [intOf] <;> omega
    · have HF : Hid (∀ i, i < n1 → i < n2 → z1 i = z2 i) := fun i h1 h2 => HE.out i (by omega)
      by_cases y1 : k < n1
      · have y2 : ¬ k < n2 := fun h => hlt ⟨y1, h⟩
        have y3 : n2 < n1 := by omega
        clear hlt
        go_wp2
        go_ret
        exact ⟨1, rfl, .inr ⟨HF.out, .inr (.inl ⟨y3, rfl⟩)⟩, d, rfl⟩
      · have y4 : k = n1 := by omega
        have HK : Hid (k = n1) := y4
        clear hlt y4
        by_cases y5 : n1 < n2
        · go_wp2
          go_ret
          exact ⟨-1, rfl, .inr ⟨HF.out, .inl ⟨y5, rfl⟩⟩, d, rfl⟩
        · have y6 : ¬ n2 < n1 := by have := HK.out; omega
          go_wp2
          go_ret
          exact ⟨0, rfl, .inr ⟨HF.out, .inr (.inr ⟨by omega, rfl⟩)⟩, d, rfl⟩
end Go.Proofs.Ymbrco
