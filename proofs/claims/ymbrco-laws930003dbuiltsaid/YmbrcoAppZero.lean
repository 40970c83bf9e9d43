/-
  Ymbrco: 'append(s, make([]byte, m)...)' where s is what the call has built: m zeros behind it.
-/
import Derived.Test.YmbrcoMem
namespace Go.Proofs.Ymbrco
open Go.RowKit
set_option linter.unusedVariables false

theorem zeroCells_u8 (m : Nat) : Builtin.zeroCells #[Value.int .u8 0] m = ((List.replicate m (0 : Int)).map (Value.int .u8)).toArray := by
  apply Array.ext
  · simp [Builtin.zeroCells]
  · intro i h1 h2
    simp [Builtin.zeroCells, Nat.mod_one]

theorem run_appZ (w : World) (ty : TypeId) (base g n cap m : Nat) (bs : List Int) (hown : OwnB w base (.slice (some ⟨g, 0, none⟩) n cap) bs) (hbytes : n + m ≤ 140737488355328) (hbase : base ≤ w.heap.size) :
    ∃ ao cap' w', (Builtin.append_ #[22, 3] ty #[.slice (some ⟨g, 0, none⟩) n cap, .int .i64 m]).run Ycom.prog w = .ok (.slice ao (n + m) cap') w' ∧ OwnB w' base (.slice ao (n + m) cap') (bs ++ List.replicate m 0) ∧ w.grownBy w' (some g) := by
  obtain ⟨i, hi, hz0, hz1, hz2⟩ := info_parts Ycom.info5
  have hlen := hown.len
  subst hlen
  have hw : IntKind.i64.wrap (m : Int) = (m : Int) := by simp [IntKind.wrap, IntKind.bits, IntKind.signed]; omega
  have h0 : ¬ ((m : Int) < 0) := by omega
  have h1 : ¬ ((281474976710656 : Int) < (m : Int)) := by omega
  have hL : (bs ++ List.replicate m (0 : Int)).length = bs.length + m := by simp
  have hf : (if m = 0 then Sem.pure #[] else Sem.pure (Builtin.zeroCells #[Value.int .u8 0] m)) = (Sem.pure ((List.replicate m (0 : Int)).map (Value.int .u8)).toArray : Sem (Array Value)) := by
    split
    · rename_i e; subst e; rfl
    · rw [zeroCells_u8]
  rcases hown.2 with ⟨e, _⟩ | ⟨g', cap', cur, e, hbg, hg, hnc, hcm, hcs, htake⟩
  · simp at e
  simp only [Value.slice.injEq, Option.some.injEq, Addr.mk.injEq, and_true, true_and] at e
  obtain ⟨rfl, rfl⟩ := e
  by_cases hroom : bs.length + m ≤ cap
  · have hst := run_storeCells_at Ycom.prog g (bs.length * 1) 5 ((List.replicate m (0 : Int)).map (Value.int .u8)) 0 cur w hg (by simp; omega) (by intro u hu; obtain ⟨_, _, rfl⟩ := List.mem_map.1 hu; rfl)
    simp only [Nat.add_zero] at hst
    have hcl : (Value.int .u8 0).cells = #[Value.int .u8 0] := rfl
    have hw0 : IntKind.i64.wrap 0 = 0 := by decide
    rw [Nat.mul_one] at hst
    generalize hW : w.setRow g (cur.toList.take bs.length ++ (List.replicate m (0 : Int)).map (Value.int .u8) ++ cur.toList.drop (bs.length + ((List.replicate m (0 : Int)).map (Value.int .u8)).length)).toArray = W at hst
    refine ⟨some ⟨g, 0, none⟩, cap, W, ?_, ?_, ?_⟩
    · by_cases e : m = 0
      · subst e
        have hst2 : (storeCells ⟨g, bs.length, none⟩ []).run Ycom.prog w = .ok () W := hst
        simp [Builtin.append_, run_underlying Ycom.underlying22, run_underlying Ycom.underlying3, sizeOf, typeInfo, hi, hz1, hz2, asInt, asIntOf, Addr.add_lit, hnc, hw0, hst2]
      · simp [Builtin.append_, run_underlying Ycom.underlying22, run_underlying Ycom.underlying3, sizeOf, typeInfo, zeroValue, hi, hroom, hz0, hz1, hz2, asInt, asIntOf, hw, h0, h1, e, Addr.add_lit, hcl, zeroCells_u8]
        simp at hst
        simp [hst]
    · subst hW
      refine ⟨by simp, .inr ⟨g, cap, _, by rw [hL], hbg, setRow_heap w g cur _ 5 _ hg, by rw [hL]; exact hroom, hcm, ?_, ?_⟩⟩
      · simp [hcs]
        omega
      · rw [Nat.mul_one] at htake
        rw [Nat.mul_one, hL, htake, List.map_append]
        rw [show bs.length + m = (bs.map (Value.int .u8) ++ (List.replicate m (0 : Int)).map (Value.int .u8)).length by simp]
        exact List.take_left
    · subst hW
      exact ⟨rfl, rfl, rfl, by simp, fun k _ hk => setRow_other w g k _ (fun e => hk (by simp [e]))⟩
  · have hfo := run_firstCells_some (P := Ycom.prog) w.drew 1 bs.length ⟨g, 0, none⟩ bs.length cap (bs.map (Value.int .u8)) (by simp) (by
      intro j u hu
      have hj : j < bs.length := by have := (List.getElem?_eq_some_iff.1 hu).1; simpa using this
      have := hown.cell hj
      rw [Addr.add_lit]
      simp only [World.cell?_drew, Nat.zero_add]
      rw [this]
      simpa [List.getD, hj] using hu)
    have hm0 : m ≠ 0 := by omega
    have hcl : (Value.int .u8 0).cells = #[Value.int .u8 0] := rfl
    have h63' : ¬ ((9223372036854775807 : Int) < (bs.length : Int) + (m : Int)) := by omega
    have hmx : max (m : Int) 0 = m := by omega
    have h48 := growslice_fits (need := bs.length + m) (old := cap) (bytes := 1) (by omega) (by omega)
    have h48' : ¬ (281474976710656 < Builtin.nextslicecap (bs.length + m) cap) := by omega
    refine ⟨some ⟨w.heap.size, 0, none⟩, grownCap w (bs.length + m) cap 5, w.drew.alloc (.cells ((bs.map (Value.int .u8)).toArray ++ ((List.replicate m (0 : Int)).map (Value.int .u8)).toArray ++ Builtin.zeroCells #[Value.int .u8 0] (grownCap w (bs.length + m) cap 5 - (bs.length + m))) 5), ?_, ?_, ?_⟩
    · simp [Builtin.append_, run_underlying Ycom.underlying22, run_underlying Ycom.underlying3, sizeOf, typeInfo, zeroValue, hi, hroom, hz0, hz1, hz2, asInt, asIntOf, hw, h0, h1, hm0, hcl, hmx, h63', h48', Question.forced, hfo, newRow, grownCap, zeroCells_u8]
    · have hge := grownCap_ge w (bs.length + m) cap 5
      have hcm2 : grownCap w (bs.length + m) cap 5 ≤ maxLen := grownCap_le_maxLen w (bs.length + m) cap 5 (by unfold maxLen; omega)
      refine ⟨by simp, .inr ⟨w.heap.size, _, _, by rw [hL], hbase, heap_alloc_new w.drew _, by rw [hL]; exact hge, hcm2, ?_, ?_⟩⟩
      · simp [size_zeroCells]
        omega
      · simp only [Array.toList_append, List.append_assoc]
        rw [← List.append_assoc, Nat.mul_one, hL, List.map_append, show bs.length + m = (bs.map (Value.int .u8) ++ (List.replicate m (0 : Int)).map (Value.int .u8)).length by simp]
        exact List.take_left
    · exact ⟨rfl, rfl, rfl, by simp, fun k hk _ => heap_alloc_old w.drew _ hk⟩

theorem wpList_appZ (w : World) {ops : Array Oper} {rest : List Oper} {o : Oper} {a : Act} {Q : Exit → Act → World → Prop} (hgd : o.guard = none) (s x : Operand)
    (ho : o.op = .call { callee := .builtin .append, args := #[s, x], argTypes := #[22, 3] })
    (base g n cap : Nat) (bs : List Int) (hs : a.eval s = .slice (some ⟨g, 0, none⟩) n cap) (hown : OwnB w base (.slice (some ⟨g, 0, none⟩) n cap) bs)
    (X : Int) (m : Nat) (hx : a.eval x = .int .i64 X) (hX : X = (m : Int)) (hbytes : n + m ≤ 140737488355328) (hbase : base ≤ w.heap.size)
    (h : ∀ ao' cap' w', OwnB w' base (.slice ao' (n + m) cap') (bs ++ List.replicate m 0) → w.grownBy w' (some g) → Below base w w' → wpList Ycom.prog ops Q rest (a.put o.dst (.slice ao' (n + m) cap')) w') :
    wpList Ycom.prog ops Q (o :: rest) a w := by
  subst hX
  obtain ⟨ao', cap', w', hrun, h2, h3⟩ := run_appZ w o.type base g n cap m bs hown hbytes hbase
  refine wpList_plain hgd fun K hK' => ?_
  unfold Oper.wp
  simp [execOp, ho, resolve, invoke, builtin, hs, hx, hrun, Result.andThen]
  exact hK' _ _ (h ao' cap' w' h2 h3 ((Below.refl _ _).grown h3 hbase (fun k hk => (hown.lt k (by simpa [Value.ownBlock] using hk)).1)))
end Go.Proofs.Ymbrco
