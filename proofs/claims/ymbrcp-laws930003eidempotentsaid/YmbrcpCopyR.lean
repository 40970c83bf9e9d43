/-
  Ymbrcp: 'copy(dst, src)' of records.
-/
import Derived.Test.YmbrcpAppRec
namespace Go.Proofs.Ymbrcp
open Go.RowKit
set_option linter.unusedVariables false

/-- The cells of the records. -/
def recCell (r : Recs) (j : Nat) : Value := if j % 2 = 0 then .int .u8 (r.T (j / 2)) else .slice (r.A (j / 2)) (r.L (j / 2)) (r.C (j / 2))

theorem RecsAt.cells {w : World} {a : Option Addr} {n : Nat} {r : Recs} (h : RecsAt w a n r) (hn : 0 < n) : ∃ b off, a = some ⟨b, off, none⟩ ∧ ∀ j, j < n * 2 → w.cell? ⟨b, off + j, none⟩ = some (recCell r j) := by
  obtain ⟨b, off, rfl, h0, h1⟩ := h hn
  refine ⟨b, off, rfl, fun j hj => ?_⟩
  unfold recCell
  rcases Nat.mod_two_eq_zero_or_one j with e | e
  · rw [if_pos e, ← h0 (j / 2) (by omega)]
    congr 2
    omega
  · rw [if_neg (by omega), ← h1 (j / 2) (by omega)]
    congr 2
    omega

theorem wpList_copyR (w : World) {ops : Array Oper} {rest : List Oper} {o : Oper} {a : Act} {Q : Exit → Act → World → Prop} (hgd : o.guard = none) (d s : Operand)
    (ho : o.op = .call { callee := .builtin .copy, args := #[d, s], argTypes := #[22, 22] })
    (g n dCap : Nat) (sp : Option Addr) (sLen sCap : Nat) (hd : a.eval d = .slice (some ⟨g, 0, none⟩) n dCap) (hs : a.eval s = .slice sp sLen sCap) (hsl : sLen = n)
    (f : Nat → Value) (r : Recs) (hrow : w.rowIs g 27 (n * 2) f) (hsrc : RecsAt w sp n r)
    (h : ∀ w', w'.rowIs g 27 (n * 2) (recCell r) → w.grownBy w' (some g) → w'.heap.size = w.heap.size → wpList Ycpm.prog ops Q rest (a.put o.dst (.int .i64 n)) w') : wpList Ycpm.prog ops Q (o :: rest) a w := by
  subst hsl
  obtain ⟨i, hi, hz0, hz1, hz2⟩ := info_parts Ycpm.info27
  obtain ⟨cur, hg, hcs, hcf⟩ := hrow
  have hnews : ∃ news : List Value, news = (List.range (sLen * 2)).map (recCell r) := ⟨_, rfl⟩
  obtain ⟨news, hnw⟩ := hnews
  have hlen : news.length = sLen * 2 := by rw [hnw]; simp
  have h1 : ∀ v ∈ news, v.oneCell' = true := by
    intro v hv
    rw [hnw] at hv
    obtain ⟨i, _, rfl⟩ := List.mem_map.1 hv
    unfold recCell
    split <;> rfl
  have hst := run_storeCells_at Ycpm.prog g 0 27 news 0 cur w hg (by omega) h1
  simp only [Nat.add_zero, Nat.zero_add] at hst
  have hfc : (Builtin.firstCells 2 sLen (.slice sp sLen sCap)).run Ycpm.prog w = .ok news.toArray w := by
    cases sp with
    | none =>
      have hz : sLen = 0 := by
        by_cases e : sLen = 0
        · exact e
        · obtain ⟨b, off, e2, _⟩ := hsrc.cells (by omega)
          simp at e2
      subst hz
      have : news = [] := List.eq_nil_of_length_eq_zero (by simpa using hlen)
      subst this
      exact run_firstCells_none w 2 0 0 sCap
    | some ad =>
      refine run_firstCells_some (P := Ycpm.prog) w 2 sLen ad sLen sCap news hlen ?_
      intro j v hv
      have hj : j < sLen * 2 := by have := (List.getElem?_eq_some_iff.1 hv).1; omega
      obtain ⟨b, off, e, hc⟩ := hsrc.cells (by omega)
      simp only [Option.some.injEq] at e
      subst e
      rw [Addr.add_lit, hc j hj]
      rw [hnw] at hv
      simpa [hj] using hv
  have hrun : (Builtin.copy_ #[22, 22] o.type #[.slice (some ⟨g, 0, none⟩) sLen dCap, .slice sp sLen sCap]).run Ycpm.prog w = .ok (goInt sLen) (w.setRow g (cur.toList.take 0 ++ news ++ cur.toList.drop news.length).toArray) := by
    have hmin : Nat.min sLen sLen = sLen := Nat.min_self _
    simp [Builtin.copy_, run_underlying Ycpm.underlying22, sizeOf, typeInfo, hi, hz1, Builtin.lenOf, hfc]
    simp at hst
    simp [hst]
  refine wpList_plain hgd fun K hK => ?_
  unfold Oper.wp
  simp [execOp, ho, resolve, invoke, builtin, hd, hs, hrun, Result.andThen]
  refine hK _ _ (h _ ⟨_, setRow_heap w g cur _ 27 _ hg, ?_, ?_⟩ ⟨rfl, rfl, rfl, by simp [World.setRow], fun k _ hk => setRow_other w g k _ (fun e => hk (by simp [e]))⟩ (by simp [World.setRow]))
  · simp [hcs, hlen]
  · intro j hj
    simp only [List.getElem?_toArray]
    rw [List.getElem?_append_left (by omega), hnw]
    simp [hj]
end Go.Proofs.Ymbrcp
