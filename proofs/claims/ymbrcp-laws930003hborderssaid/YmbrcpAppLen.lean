/-
  Ymbrcp: 'AppendLength': the length field behind what is there.
-/
import Derived.Test.YmbrcpEnc
import Derived.Test.YmbrcpMem
namespace Go.Proofs.Ymbrcp
open Go.RowKit
set_option linter.unusedVariables false

/-- 'append' into the room of an own row: the value keeps its place; what stands elsewhere in the row stays. -/
theorem wpList_appFit (w : World) {ops : Array Oper} {rest : List Oper} {o : Oper} {a : Act} {Q : Exit → Act → World → Prop} (hgd : o.guard = none) (s x : Operand)
    (ho : o.op = .call { callee := .builtin .append, args := #[s, x], argTypes := #[25, 25] })
    (g n cap : Nat) (hs : a.eval s = .slice (some ⟨g, 0, none⟩) n cap) (f : Nat → Value) (hrow : w.rowIs g 5 cap f)
    (ad : Addr) (m c : Nat) (hx : a.eval x = .slice (some ad) m c) (news : List Int) (hm : news.length = m) (hsrc : ListAt w (some ad) news) (hroom : n + m ≤ cap)
    (h : ∀ w', w'.rowIs g 5 cap (fun j => if n ≤ j ∧ j < n + m then .int .u8 (news.getD (j - n) 0) else f j) → w.grownBy w' (some g) → w'.heap.size = w.heap.size → wpList Ycpm.prog ops Q rest (a.put o.dst (.slice (some ⟨g, 0, none⟩) (n + m) cap)) w') :
    wpList Ycpm.prog ops Q (o :: rest) a w := by
  obtain ⟨i, hi, hz0, hz1, hz2⟩ := info_parts Ycpm.info5
  obtain ⟨cur, hg, hcs, hcf⟩ := hrow
  refine wpList_plain hgd fun K hK' => ?_
  have hrun := run_append_room (P := Ycpm.prog) w 25 o.type 5 i Ycpm.underlying25 hi g n cap cur hg ad m c (news.map (Value.int .u8)) (by rw [hz1]; simp [hm]) (by
    intro j u hu
    have hj : j < news.length := by have := (List.getElem?_eq_some_iff.1 hu).1; simpa using this
    obtain ⟨b, off, e, hc⟩ := hsrc (by omega)
    simp only [Option.some.injEq] at e
    subst e
    rw [Addr.add_lit, hc j hj]
    simpa [List.getD, hj] using hu) (by
    intro u hu
    obtain ⟨_, _, rfl⟩ := List.mem_map.1 hu
    rfl) hroom (by rw [hz1, hcs]; simp [hm]; omega)
  rw [hz1, Nat.mul_one] at hrun
  unfold Oper.wp
  simp [execOp, ho, resolve, invoke, builtin, hs, hx, hrun, Result.andThen]
  refine hK' _ _ (h _ ⟨_, setRow_heap w g cur _ 5 _ hg, ?_, ?_⟩ ⟨rfl, rfl, rfl, by simp [World.setRow], fun k _ hk => setRow_other w g k _ (fun e => hk (by simp [e]))⟩ (by simp [World.setRow]))
  · simp [hcs, hm]
    omega
  · intro j hj
    have hlt : (cur.toList.take n).length = n := by simp [hcs]; omega
    simp only [List.getElem?_toArray]
    by_cases h1 : j < n
    · rw [if_neg (by omega), List.getElem?_append_left (by rw [hlt]; exact h1), List.getElem?_take, if_pos h1]
      simpa using hcf j hj
    · rw [List.getElem?_append_right (by rw [hlt]; omega), hlt]
      by_cases h2 : j < n + m
      · rw [if_pos (by omega), List.getElem?_append_left (by simp [hm]; omega)]
        simp [List.getD, show j - n < news.length by omega]
      · rw [if_neg (by omega), List.getElem?_append_right (by simp [hm]; omega)]
        simp only [List.length_map, hm, List.getElem?_drop]
        rw [show n + m + (j - n - m) = j by omega]
        simpa using hcf j hj

/-- Out of range: nothing happens. -/
theorem al_bad (a : Option Addr) (n c : Nat) (x : Int) (w : World) (hx : x < 0 ∨ 65535 < x) :
    Calls Ycpm.prog 36 #[.slice a n c, .int .i64 x] w fun e w' => e = .returned (.tuple #[.slice a n c, .bool false]) ∧ w' = w := by
  rcases hx with h | h
  · go_enter Ycpm.func36, Ycpm.ntmps36
    go_wp2
    go_ret2
    exact ⟨rfl, rfl⟩
  · have h0 : ¬ x < 0 := by omega
    go_enter Ycpm.func36, Ycpm.ntmps36
    go_wp2
    go_ret2
    exact ⟨rfl, rfl⟩

set_option maxRecDepth 100000 in
set_option maxHeartbeats 2000000 in
/-- What the call itself has built, or nil: the field is appended. -/
theorem al_calls (ao : Option Addr) (n cap : Nat) (bs : List Int) (x : Nat) (w : World) (base : Nat) (hown : OwnB w base (.slice ao n cap) bs) (hn : (n : Int) ≤ 10000000) (hbase : base ≤ w.heap.size) (hx : (x : Int) ≤ 65535) :
    Calls Ycpm.prog 36 #[.slice ao n cap, .int .i64 x] w fun e w' => ∃ ao' n' cap', e = .returned (.tuple #[.slice ao' n' cap', .bool true]) ∧ OwnB w' base (.slice ao' n' cap') (bs ++ lenF x) ∧ ao' ≠ none ∧ Below base w w' ∧ (w.alloc (.cells ((lenF x).map (Value.int .u8)).toArray 5)).grownBy w' (Value.slice ao n cap).ownBlock := by
  have HO : Hid (OwnB w base (.slice ao n cap) bs) := hown
  clear hown
  by_cases h1 : x < 128
  · have h1' : (x : Int) ≤ 127 := by omega
    have HL : Hid (lenF x = [(x : Int)]) := by simp [Hid, lenF, h1]
    go_enter Ycpm.func36, Ycpm.ntmps36
    go_wp2_with (at_builtin; refine wpList_appB _ rfl (.tmp 15) (.tmp 18) rfl base ao n cap bs rfl (HO.out.alloc _) _ 1 1 rfl [(x : Int)] rfl (listAt_new _ [(x : Int)] _) (by simp) (by omega) (by simp; omega) ?_; intro ao1 cap1 w1 hown1 hg1 hb1 hne1 hp1)
    go_ret2
    rw [HL.out]
    exact ⟨ao1, n + 1, cap1, rfl, hown1, hp1 (by omega), ((Below.refl _ _).alloc hbase _).trans hb1, hg1⟩
  by_cases h2 : x < 256
  · have h2' : (x : Int) ≤ 255 := by omega
    have HL : Hid (lenF x = [129, (x : Int)]) := by simp [Hid, lenF, h1, h2]
    go_enter Ycpm.func36, Ycpm.ntmps36
    go_wp2_with (at_builtin; refine wpList_appB _ rfl (.tmp 22) (.tmp 25) rfl base ao n cap bs rfl (HO.out.alloc _) _ 2 2 rfl [129, (x : Int)] rfl (listAt_new _ [129, (x : Int)] _) (by simp) (by omega) (by simp; omega) ?_; intro ao1 cap1 w1 hown1 hg1 hb1 hne1 hp1)
    go_ret2
    rw [HL.out]
    exact ⟨ao1, n + 2, cap1, rfl, hown1, hp1 (by omega), ((Below.refl _ _).alloc hbase _).trans hb1, hg1⟩
  · have h2' : (256 : Int) ≤ x := by omega
    have HL : Hid (lenF x = [130, (x : Int) / 256, (x : Int) % 256]) := by simp [Hid, lenF, h1, h2]
    go_enter Ycpm.func36, Ycpm.ntmps36
    go_wp2_with (at_builtin; refine wpList_appB _ rfl (.tmp 27) (.tmp 33) rfl base ao n cap bs rfl (HO.out.alloc _) _ 3 3 rfl [130, (x : Int) / 256, (x : Int) % 256] rfl (listAt_new _ [130, (x : Int) / 256, (x : Int) % 256] _) (by simp) (by omega) (by simp; omega) ?_; intro ao1 cap1 w1 hown1 hg1 hb1 hne1 hp1)
    go_ret2
    rw [HL.out]
    exact ⟨ao1, n + 3, cap1, rfl, hown1, hp1 (by omega), ((Below.refl _ _).alloc hbase _).trans hb1, hg1⟩

set_option maxRecDepth 100000 in
set_option maxHeartbeats 2000000 in
/-- Where there is room: the field is written there. -/
theorem al_fit (g n cap : Nat) (f : Nat → Value) (x : Nat) (w : World) (hrow : w.rowIs g 5 cap f) (hroom : n + 3 ≤ cap) (hx : (x : Int) ≤ 65535) :
    Calls Ycpm.prog 36 #[.slice (some ⟨g, 0, none⟩) n cap, .int .i64 x] w fun e w' => ∃ m, e = .returned (.tuple #[.slice (some ⟨g, 0, none⟩) m cap, .bool true]) ∧ m = n + (lenF x).length ∧ w'.rowIs g 5 cap (fun j => if n ≤ j ∧ j < n + (lenF x).length then .int .u8 ((lenF x).getD (j - n) 0) else f j) ∧ w.heap.size ≤ w'.heap.size ∧ (∀ B, B ≤ g → B ≤ w.heap.size → Below B w w') ∧ (∀ b t k q, b ≠ g → w.rowIs b t k q → w'.rowIs b t k q) := by
  have HR : Hid (w.rowIs g 5 cap f) := hrow
  have hlt := hrow.lt
  clear hrow
  have fin : ∀ (o : Obj) (w1 : World), (w.alloc o).grownBy w1 (some g) → w.heap.size ≤ w1.heap.size ∧ (∀ B, B ≤ g → B ≤ w.heap.size → Below B w w1) ∧ (∀ b t k q, b ≠ g → w.rowIs b t k q → w1.rowIs b t k q) := by
    intro o w1 hg
    refine ⟨by have := hg.size; simp at this; omega, fun B h1 h2 => ((Below.refl _ _).alloc h2 _).trans (below_of_grown hg (by simp; omega) h1), fun b t k q hb hr => rowIs_grown (hr.alloc o) hg hb⟩
  have FIN := (show Hid _ from fin)
  clear fin
  by_cases h1 : x < 128
  · have h1' : (x : Int) ≤ 127 := by omega
    have HL : Hid (lenF x = [(x : Int)]) := by simp [Hid, lenF, h1]
    go_enter Ycpm.func36, Ycpm.ntmps36
    go_wp2_with (at_builtin; refine wpList_appFit _ rfl (.tmp 15) (.tmp 18) rfl g n cap rfl _ (HR.out.alloc _) ⟨w.heap.size, 0, none⟩ 1 1 rfl [(x : Int)] rfl (listAt_new _ [(x : Int)] _) (by omega) ?_; intro w1 hrow1 hg1 hs1)
    go_ret2
    rw [HL.out]
    exact ⟨n + 1, rfl, rfl, hrow1, FIN.out _ w1 hg1⟩
  by_cases h2 : x < 256
  · have h2' : (x : Int) ≤ 255 := by omega
    have HL : Hid (lenF x = [129, (x : Int)]) := by simp [Hid, lenF, h1, h2]
    go_enter Ycpm.func36, Ycpm.ntmps36
    go_wp2_with (at_builtin; refine wpList_appFit _ rfl (.tmp 22) (.tmp 25) rfl g n cap rfl _ (HR.out.alloc _) ⟨w.heap.size, 0, none⟩ 2 2 rfl [129, (x : Int)] rfl (listAt_new _ [129, (x : Int)] _) (by omega) ?_; intro w1 hrow1 hg1 hs1)
    go_ret2
    rw [HL.out]
    exact ⟨n + 2, rfl, rfl, hrow1, FIN.out _ w1 hg1⟩
  · have h2' : (256 : Int) ≤ x := by omega
    have HL : Hid (lenF x = [130, (x : Int) / 256, (x : Int) % 256]) := by simp [Hid, lenF, h1, h2]
    go_enter Ycpm.func36, Ycpm.ntmps36
    go_wp2_with (at_builtin; refine wpList_appFit _ rfl (.tmp 27) (.tmp 33) rfl g n cap rfl _ (HR.out.alloc _) ⟨w.heap.size, 0, none⟩ 3 3 rfl [130, (x : Int) / 256, (x : Int) % 256] rfl (listAt_new _ [130, (x : Int) / 256, (x : Int) % 256] _) (by omega) ?_; intro w1 hrow1 hg1 hs1)
    go_ret2
    rw [HL.out]
    exact ⟨n + 3, rfl, rfl, hrow1, FIN.out _ w1 hg1⟩
end Go.Proofs.Ymbrcp
