/-
  Ymbrco: 'append(recs, r)' of one record where there is room: the law for a plain region and for one that draws its order.
-/
import Derived.Test.YmbrcoMem
import Derived.ArgAppend
import Derived.Deep.RegionLaw
namespace Go.Proofs.Ymbrco
open Go.RowKit
set_option linter.unusedVariables false

/-- The row's cells when record k is written. -/
def putR (k : Nat) (T S : Value) (f : Nat → Value) (j : Nat) : Value := if j = k * 2 + 1 then S else if j = k * 2 then T else f j

theorem grown_set (w : World) (g j : Nat) (v : Value) : w.grownBy (w.setCell ⟨g, j, none⟩ v) (some g) :=
  ⟨rfl, rfl, rfl, by simp, fun k _ hk => Below.heap_setCell w _ v k (fun e => hk (by simp [e]))⟩

theorem run_appR (w : World) (ty : TypeId) (g k cap : Nat) (f : Nat → Value) (hrow : w.rowIs g 36 (cap * 2) f) (b c : Nat) (T S : Value)
    (h0 : w.cell? ⟨b, 0, none⟩ = some T) (h1 : w.cell? ⟨b, 1, none⟩ = some S) (hT : T.oneCell' = true) (hS : S.oneCell' = true) (hroom : k + 1 ≤ cap) :
    ∃ w', (Builtin.append_ #[34, 34] ty #[.slice (some ⟨g, 0, none⟩) k cap, .slice (some ⟨b, 0, none⟩) 1 c]).run Ycom.prog w = .ok (.slice (some ⟨g, 0, none⟩) (k + 1) cap) w' ∧
      w'.rowIs g 36 (cap * 2) (putR k T S f) ∧ w.grownBy w' (some g) ∧ w'.heap.size = w.heap.size := by
  obtain ⟨i, hi, hz0, hz1, hz2⟩ := info_parts Ycom.info36
  have hrun := run_append_room_cells (P := Ycom.prog) w 34 ty 36 i Ycom.underlying34 hi g 0 k cap ⟨b, 0, none⟩ 1 c [T, S] (by rw [hz1]; rfl) (by
    intro j u hu
    rw [Addr.add_lit]
    match j with
    | 0 => simp at hu; subst hu; exact h0
    | 1 => simp at hu; subst hu; exact h1
    | j + 2 => simp at hu) (by
    intro u hu
    simp at hu
    rcases hu with rfl | rfl <;> assumption) hroom (by
    intro j hj
    have hj2 : j < 2 := hj
    rw [hz1, hrow.cell (by omega)]
    rfl) (fun j _ => hrow.frozen _)
  rw [hz1, Nat.zero_add] at hrun
  refine ⟨_, hrun, ?_, ?_, ?_⟩
  · refine ((hrow.set (k * 2) T).set (k * 2 + 1) S).congr fun j _ => rfl
  · exact grown_trans (grown_set w g _ _) (grown_set _ g _ _)
  · simp [World.setCells]

theorem wpList_appR (w : World) {ops : Array Oper} {rest : List Oper} {o : Oper} {a : Act} {Q : Exit → Act → World → Prop} (hgd : o.guard = none) (s x : Operand)
    (ho : o.op = .call { callee := .builtin .append, args := #[s, x], argTypes := #[34, 34] })
    (g k cap : Nat) (hs : a.eval s = .slice (some ⟨g, 0, none⟩) k cap) (f : Nat → Value) (hrow : w.rowIs g 36 (cap * 2) f) (b c : Nat) (hx : a.eval x = .slice (some ⟨b, 0, none⟩) 1 c) (T S : Value)
    (h0 : w.cell? ⟨b, 0, none⟩ = some T) (h1 : w.cell? ⟨b, 1, none⟩ = some S) (hT : T.oneCell' = true) (hS : S.oneCell' = true) (hroom : k + 1 ≤ cap)
    (h : ∀ w', w'.rowIs g 36 (cap * 2) (putR k T S f) → w.grownBy w' (some g) → w'.heap.size = w.heap.size → wpList Ycom.prog ops Q rest (a.put o.dst (.slice (some ⟨g, 0, none⟩) (k + 1) cap)) w') :
    wpList Ycom.prog ops Q (o :: rest) a w := by
  obtain ⟨w', hrun, h2, h3, h4⟩ := run_appR w o.type g k cap f hrow b c T S h0 h1 hT hS hroom
  refine wpList_plain hgd fun K hK' => ?_
  unfold Oper.wp
  simp [execOp, ho, resolve, invoke, builtin, hs, hx, hrun, Result.andThen]
  exact hK' _ _ (h w' h2 h3 h4)

theorem step_appR {w : World} {ops : Array Oper} {o : Oper} {a : Act} {K : Act → World → Prop} {Q : Exit → Act → World → Prop} {E : Prop} (hgd : o.guard = none) (s x : Operand)
    (ho : o.op = .call { callee := .builtin .append, args := #[s, x], argTypes := #[34, 34] })
    (g k cap : Nat) (hs : a.eval s = .slice (some ⟨g, 0, none⟩) k cap) (f : Nat → Value) (hrow : w.rowIs g 36 (cap * 2) f) (b c : Nat) (hx : a.eval x = .slice (some ⟨b, 0, none⟩) 1 c) (T S : Value)
    (h0 : w.cell? ⟨b, 0, none⟩ = some T) (h1 : w.cell? ⟨b, 1, none⟩ = some S) (hT : T.oneCell' = true) (hS : S.oneCell' = true) (hroom : k + 1 ≤ cap)
    (h : ∀ w', w'.rowIs g 36 (cap * 2) (putR k T S f) → w.grownBy w' (some g) → w'.heap.size = w.heap.size → K (a.put o.dst (.slice (some ⟨g, 0, none⟩) (k + 1) cap)) w') :
    if Region.wanted o (yielded ops a.tmps) = true then Oper.wp Ycom.prog o a w K Q else E := by
  obtain ⟨w', hrun, h2, h3, h4⟩ := run_appR w o.type g k cap f hrow b c T S h0 h1 hT hS hroom
  have hw : Region.wanted o (yielded ops a.tmps) = true := by simp [Region.wanted, hgd]
  rw [if_pos hw]
  unfold Oper.wp
  simp [execOp, ho, resolve, invoke, builtin, hs, hx, hrun, Result.andThen]
  exact h w' h2 h3 h4

/-- A row of the call's own that holds k records with values of these lengths. -/
def Built (w : World) (g cap k : Nat) (L : Nat → Nat) : Prop := ∃ f, w.rowIs g 36 (cap * 2) f ∧ ∀ i, i < k → ∃ t a c, f (i * 2) = .int .u8 t ∧ f (i * 2 + 1) = .slice a (L i) c

theorem Built.start {w : World} {g cap : Nat} {L : Nat → Nat} {f : Nat → Value} (h : w.rowIs g 36 (cap * 2) f) : Built w g cap 0 L := ⟨f, h, fun i hi => absurd hi (Nat.not_lt_zero _)⟩
theorem Built.step {w : World} {g cap k : Nat} {L : Nat → Nat} {f : Nat → Value} {t : Int} {a : Option Addr} {m c : Nat} (hf : ∀ i, i < k → ∃ t a c, f (i * 2) = .int .u8 t ∧ f (i * 2 + 1) = .slice a (L i) c) (hm : m = L k)
    (h : w.rowIs g 36 (cap * 2) (putR k (.int .u8 t) (.slice a m c) f)) : Built w g cap (k + 1) L := by
  refine ⟨_, h, fun i hi => ?_⟩
  by_cases e : i = k
  · subst e
    refine ⟨t, a, c, ?_, ?_⟩
    · unfold putR; rw [if_neg (by omega), if_pos rfl]
    · unfold putR; rw [if_pos rfl, hm]
  · obtain ⟨t', a', c', h1, h2⟩ := hf i (by omega)
    refine ⟨t', a', c', ?_, ?_⟩
    · unfold putR; rw [if_neg (by omega), if_neg (by omega), h1]
    · unfold putR; rw [if_neg (by omega), if_neg (by omega), h2]
theorem Built.recs {w : World} {g cap k : Nat} {L : Nat → Nat} (h : Built w g cap k L) (hk : k ≤ cap) : ∃ r : Recs, RecsAt w (some ⟨g, 0, none⟩) k r ∧ r.L = L := by
  obtain ⟨f, hrow, hf⟩ := h
  refine ⟨⟨fun i => intOf (f (i * 2)), fun i => match f (i * 2 + 1) with | .slice a _ _ => a | _ => none, L, fun i => match f (i * 2 + 1) with | .slice _ _ c => c | _ => 0, fun _ _ => 0⟩, fun _ => ⟨g, 0, rfl, fun i hi => ?_, fun i hi => ?_⟩, rfl⟩
  · obtain ⟨t, a, c, h1, h2⟩ := hf i hi
    rw [Nat.zero_add, hrow.cell (by omega), h1]
    simp [h1, intOf]
  · obtain ⟨t, a, c, h1, h2⟩ := hf i hi
    rw [Nat.zero_add, hrow.cell (by omega), h2]
    simp [h2]
end Go.Proofs.Ymbrco
