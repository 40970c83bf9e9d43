/-
  Ymbrcq: memory that a call makes: make, copy and append as laws for the walk, in this seat's own words.
-/
import Derived.Test.YmbrcqBase
import Derived.Laws.CopyOwn
import Derived.Laws.AppendOwnNone
import Derived.Lib.SliceRun
namespace Go.Proofs.Ymbrcq
open Go.RowKit

theorem Ycqm.info25 : (Ycqm.prog.info? 25).map (fun i => (i.zero, i.size, i.bytes)) = some (some (.agg #[.int .u8 0, .slice none 0 0]), 2, 32) := by kernel_rfl

/-- 'b == nil', at bytes and at records: for the walk's context. -/
theorem eqlB_nil (w : World) (a : Option Addr) (l c : Nat) : (binOp .eql 23 (.slice a l c) (.slice none 0 0)).run Ycqm.prog w = .ok (.bool a.isNone) w := Lib.run_eql_slice_nil w 23 5 a l c 0 0 Ycqm.underlying23
theorem eqlR_nil (w : World) (a : Option Addr) (l c : Nat) : (binOp .eql 22 (.slice a l c) (.slice none 0 0)).run Ycqm.prog w = .ok (.bool a.isNone) w := Lib.run_eql_slice_nil w 22 25 a l c 0 0 Ycqm.underlying22

/-- A guard: the goal is a list of operations. -/
theorem wpList_here {P : Program} {w : World} {ops : Array Oper} {rest : List Oper} {o : Oper} {a : Act} {Q : Exit → Act → World → Prop} (h : wpList P ops Q (o :: rest) a w) : wpList P ops Q (o :: rest) a w := h

/-- Of a row: kept where its block is kept. -/
theorem rowIs_below {B : Nat} {w w' : World} {b : Nat} {t : TypeId} {n : Nat} {f : Nat → Value} (h : w.rowIs b t n f) (hb : Below B w w') (hB : b < B) : w'.rowIs b t n f := h.of_block (hb.block b hB)

theorem rowIs_grown {w w' : World} {b g : Nat} {t : TypeId} {n : Nat} {f : Nat → Value} (h : w.rowIs b t n f) (hg : w.grownBy w' (some g)) (hB : b ≠ g) : w'.rowIs b t n f := h.of_block (hg.block b h.lt (by simpa using hB))

/-- A part of a row of bytes, read as a slice. -/
theorem rowIs_bytes {w : World} {b : Nat} {t : TypeId} {n : Nat} {z : Nat → Int} (h : w.rowIs b t n (fun i => .int .u8 (z i))) (off m : Nat) (hm : off + m ≤ n) : BytesAt w (some ⟨b, off, none⟩) m (fun i => z (off + i)) := by
  intro _
  exact ⟨b, off, rfl, fun i hi => h.cell (by omega)⟩

theorem rowIs_bytes0 {w : World} {b : Nat} {t : TypeId} {n : Nat} {z : Nat → Int} (h : w.rowIs b t n (fun i => .int .u8 (z i))) (m : Nat) (hm : m ≤ n) : BytesAt w (some ⟨b, 0, none⟩) m z := by
  intro _
  exact ⟨b, 0, rfl, fun i hi => by rw [Nat.zero_add]; exact h.cell (by omega)⟩

/-- 'make([]T, l, n)': a new row of zero elements. -/
theorem wpList_mk {P : Program} (w : World) {ops : Array Oper} {rest : List Oper} {o : Oper} {a : Act} {Q : Exit → Act → World → Prop}
    (hg : o.guard = none) (lo co : Operand) (t : TypeId) (hop : o.op = Op.makeSlice t lo co)
    (e : TypeId) (z : Value) (size bytes : Nat) (h1 : P.underlying t = some (.slice e)) (hinfo : (P.info? e).map (fun i => (i.zero, i.size, i.bytes)) = some (some z, size, bytes)) (hzs : z.cells.size = size) (hsz : 0 < size)
    (kl kc : IntKind) (L C : Int) (l n : Nat) (hl : a.eval lo = .int kl L) (hc : a.eval co = .int kc C) (hL : L = (l : Int)) (hC : C = (n : Int)) (hln : l ≤ n) (b2 : bytes * n ≤ 281474976710656) (b3 : n ≤ 9223372036854775807)
    (hK : ∀ w', w'.rowIs w.heap.size e (n * size) (fun j => z.cells.toList.getD (j % size) z) → Below w.heap.size w w' → w'.heap.size = w.heap.size + 1 → wpList P ops Q rest (a.put o.dst (.slice (some ⟨w.heap.size, 0, none⟩) l n)) w') :
    wpList P ops Q (o :: rest) a w := by
  obtain ⟨i, hi, hz0, hz1, hz2⟩ := info_parts hinfo
  refine wpList_plain hg fun K hK' => ?_
  subst hL
  subst hC
  have hb' : (i.bytes : Int) * (n : Int) ≤ 281474976710656 := by
    rw [hz2]
    have h : ((bytes * n : Nat) : Int) ≤ 281474976710656 := by omega
    rwa [Int.natCast_mul] at h
  have hrun := run_make (P := P) w t e i z h1 hi hz0 kl kc l n (by omega) (by omega) hb' (by omega)
  simp only [Int.toNat_natCast, hz1] at hrun
  unfold Oper.wp
  simp [execOp, hop, hl, hc, hrun, Result.andThen]
  refine hK' _ _ (hK _ ?_ ((Below.refl _ _).alloc (Nat.le_refl _) _) (by simp))
  refine ⟨_, Go.Deep.blk_alloc_new _ _, size_madeCells _ _, fun j hj => ?_⟩
  have hm : j % size < z.cells.size := by rw [hzs]; exact Nat.mod_lt _ hsz
  simp [madeCells, hj, hzs, List.getD]
  rw [getElem!_pos z.cells (j % size) hm, getElem?_pos z.cells (j % size) hm]
  rfl

/-- 'make([]byte, l, n)' -/
theorem wpList_mkB (w : World) {ops : Array Oper} {rest : List Oper} {o : Oper} {a : Act} {Q : Exit → Act → World → Prop}
    (hg : o.guard = none) (lo co : Operand) (hop : o.op = Op.makeSlice 23 lo co)
    (kl kc : IntKind) (L C : Int) (l n : Nat) (hl : a.eval lo = .int kl L) (hc : a.eval co = .int kc C) (hL : L = (l : Int)) (hC : C = (n : Int)) (hln : l ≤ n) (b2 : n ≤ 281474976710656)
    (hK : ∀ w', w'.rowIs w.heap.size 5 n (fun _ => .int .u8 0) → Below w.heap.size w w' → w'.heap.size = w.heap.size + 1 → wpList Ycqm.prog ops Q rest (a.put o.dst (.slice (some ⟨w.heap.size, 0, none⟩) l n)) w') :
    wpList Ycqm.prog ops Q (o :: rest) a w :=
  wpList_mk w hg lo co 23 hop 5 (.int .u8 0) 1 1 Ycqm.underlying23 Ycqm.info5 rfl (by omega) kl kc L C l n hl hc hL hC hln (by omega) (by omega)
    (fun w' h b s => hK w' (by rw [Nat.mul_one] at h; exact h.congr fun j _ => by simp [Nat.mod_one, Value.cells]) b s)

/-- 'make([]Record, l, n)' -/
theorem wpList_mkR (w : World) {ops : Array Oper} {rest : List Oper} {o : Oper} {a : Act} {Q : Exit → Act → World → Prop}
    (hg : o.guard = none) (lo co : Operand) (hop : o.op = Op.makeSlice 22 lo co)
    (kl kc : IntKind) (L C : Int) (l n : Nat) (hl : a.eval lo = .int kl L) (hc : a.eval co = .int kc C) (hL : L = (l : Int)) (hC : C = (n : Int)) (hln : l ≤ n) (b2 : n ≤ 8796093022208)
    (hK : ∀ w', w'.rowIs w.heap.size 25 (n * 2) (fun j => if j % 2 = 0 then .int .u8 0 else .slice none 0 0) → Below w.heap.size w w' → w'.heap.size = w.heap.size + 1 → wpList Ycqm.prog ops Q rest (a.put o.dst (.slice (some ⟨w.heap.size, 0, none⟩) l n)) w') :
    wpList Ycqm.prog ops Q (o :: rest) a w :=
  wpList_mk w hg lo co 22 hop 25 (.agg #[.int .u8 0, .slice none 0 0]) 2 32 Ycqm.underlying22 Ycqm.info25 rfl (by omega) kl kc L C l n hl hc hL hC hln (by omega) (by omega)
    (fun w' h b s => hK w' (h.congr fun j _ => by
      rcases Nat.mod_two_eq_zero_or_one j with e | e <;> simp [e, Value.cells]) b s)

/-- The same two, the new block's number under a name. -/
theorem wpList_mkBx (w : World) (B : Nat) (hB : w.heap.size = B) {ops : Array Oper} {rest : List Oper} {o : Oper} {a : Act} {Q : Exit → Act → World → Prop}
    (hg : o.guard = none) (lo co : Operand) (hop : o.op = Op.makeSlice 23 lo co)
    (kl kc : IntKind) (L C : Int) (l n : Nat) (hl : a.eval lo = .int kl L) (hc : a.eval co = .int kc C) (hL : L = (l : Int)) (hC : C = (n : Int)) (hln : l ≤ n) (b2 : n ≤ 281474976710656)
    (hK : ∀ w', w'.rowIs B 5 n (fun _ => .int .u8 0) → Below B w w' → w'.heap.size = B + 1 → wpList Ycqm.prog ops Q rest (a.put o.dst (.slice (some ⟨B, 0, none⟩) l n)) w') :
    wpList Ycqm.prog ops Q (o :: rest) a w := by
  subst hB
  exact wpList_mkB w hg lo co hop kl kc L C l n hl hc hL hC hln b2 hK

theorem wpList_mkRx (w : World) (B : Nat) (hB : w.heap.size = B) {ops : Array Oper} {rest : List Oper} {o : Oper} {a : Act} {Q : Exit → Act → World → Prop}
    (hg : o.guard = none) (lo co : Operand) (hop : o.op = Op.makeSlice 22 lo co)
    (kl kc : IntKind) (L C : Int) (l n : Nat) (hl : a.eval lo = .int kl L) (hc : a.eval co = .int kc C) (hL : L = (l : Int)) (hC : C = (n : Int)) (hln : l ≤ n) (b2 : n ≤ 8796093022208)
    (hK : ∀ w', w'.rowIs B 25 (n * 2) (fun j => if j % 2 = 0 then .int .u8 0 else .slice none 0 0) → Below B w w' → w'.heap.size = B + 1 → wpList Ycqm.prog ops Q rest (a.put o.dst (.slice (some ⟨B, 0, none⟩) l n)) w') :
    wpList Ycqm.prog ops Q (o :: rest) a w := by
  subst hB
  exact wpList_mkR w hg lo co hop kl kc L C l n hl hc hL hC hln b2 hK

/-- 'copy(dst, src)': dst the whole of an own row of bytes (or its head), src as long as dst. -/
theorem wpList_copyB (w : World) {ops : Array Oper} {rest : List Oper} {o : Oper} {a : Act} {Q : Exit → Act → World → Prop} (hgd : o.guard = none) (d s : Operand)
    (ho : o.op = .call { callee := .builtin .copy, args := #[d, s], argTypes := #[23, 23] })
    (g n dCap : Nat) (sp : Option Addr) (sLen sCap : Nat) (hd : a.eval d = .slice (some ⟨g, 0, none⟩) n dCap) (hs : a.eval s = .slice sp sLen sCap) (hsl : sLen = n)
    (f : Nat → Value) (z : Nat → Int) (hrow : w.rowIs g 5 n f) (hsrc : BytesAt w sp n z)
    (h : ∀ w', w'.rowIs g 5 n (fun i => .int .u8 (z i)) → w.grownBy w' (some g) → w'.heap.size = w.heap.size → wpList Ycqm.prog ops Q rest (a.put o.dst (.int .i64 n)) w') : wpList Ycqm.prog ops Q (o :: rest) a w := by
  subst hsl
  have hsz : (Ycqm.prog.info? 5).map (·.size) = some 1 := by kernel_rfl
  by_cases h0 : sLen = 0
  · subst h0
    refine wpList_copy_nothing hgd d s 23 23 ho 5 Ycqm.underlying23 hsz _ _ _ _ _ _ hd hs (by simp) ?_
    exact h w (hrow.congr fun i hi => by omega) (World.grownBy.refl _ _) rfl
  · obtain ⟨b, off, rfl, hc⟩ := hsrc (by omega)
    obtain ⟨cur, hg, hcs, hcf⟩ := hrow
    refine wpList_copy_own hgd d s 23 23 ho 5 Ycqm.underlying23 hsz g 0 _ _ ⟨b, off, none⟩ _ _ hd hs cur 5 hg ((List.range sLen).map fun i => .int .u8 (z i)) (by simp) ?_ (by simp [hcs]) ?_ ?_
    · intro j v hv
      rw [Addr.add_lit]
      have hj : j < sLen := by have := (List.getElem?_eq_some_iff.1 hv).1; simpa using this
      rw [hc j hj]
      simpa [hj] using hv
    · intro v hv
      obtain ⟨i, _, rfl⟩ := List.mem_map.1 hv
      rfl
    · have hl : ((List.range sLen).map fun i => Value.int .u8 (z i)).length = sLen := by simp
      rw [hl]
      refine h _ ⟨_, setRow_heap w g cur _ 5 _ hg, ?_, ?_⟩ ⟨rfl, rfl, rfl, by simp [World.setRow], fun k _ hk => setRow_other w g k _ (fun e => hk (by simp [e]))⟩ (by simp [World.setRow])
      · simp [hcs]
      · intro i hi
        have e : (cur.toList.take 0 ++ (((List.range sLen).map fun i => Value.int .u8 (z i)) ++ cur.toList.drop (0 + sLen))).toArray[i]? = (((List.range sLen).map fun i => Value.int .u8 (z i)) ++ cur.toList.drop (0 + sLen))[i]? := by simp
        rw [e, List.getElem?_append_left (by simpa using hi)]
        simp [hi]

/-- A list of bytes that the call has built by append. -/
def OwnB (w : World) (base : Nat) (v : Value) (bs : List Int) : Prop := w.ownsRow base 5 1 v bs.length (bs.map (Value.int .u8))

/-- The bytes bs lie at a. -/
def ListAt (w : World) (a : Option Addr) (bs : List Int) : Prop := BytesAt w a bs.length (fun i => bs.getD i 0)

theorem OwnB.shape {w : World} {base : Nat} {v : Value} {bs : List Int} (h : OwnB w base v bs) : ∃ a cap, v = .slice a bs.length cap ∧ bs.length ≤ cap ∧ cap ≤ 9223372036854775807 ∧ (a = none → bs = [] ∧ cap = 0) := by
  rcases h.2 with ⟨rfl, h0⟩ | ⟨g, cap, cur, rfl, _, _, hc, hm, _, _⟩
  · exact ⟨none, 0, by rw [h0], by omega, by omega, fun _ => ⟨List.eq_nil_of_length_eq_zero h0, rfl⟩⟩
  · unfold maxLen at hm
    exact ⟨some ⟨g, 0, none⟩, cap, rfl, hc, by omega, fun h => by simp at h⟩

theorem OwnB.len {w : World} {base : Nat} {a : Option Addr} {n cap : Nat} {bs : List Int} (h : OwnB w base (.slice a n cap) bs) : bs.length = n := by
  obtain ⟨a', cap', e, _⟩ := h.shape
  simp only [Value.slice.injEq] at e
  omega

theorem OwnB.bytes {w : World} {base : Nat} {a : Option Addr} {n cap : Nat} {bs : List Int} (h : OwnB w base (.slice a n cap) bs) : BytesAt w a bs.length (fun i => bs.getD i 0) := by
  intro hn
  rcases h.2 with ⟨h1, h0⟩ | ⟨g, cap', cur, h1, _, hg, hc, hm, hs, ht⟩
  · omega
  · simp only [Value.slice.injEq] at h1
    obtain ⟨rfl, rfl, rfl⟩ := h1
    refine ⟨g, 0, rfl, fun i hi => ?_⟩
    have h2 := h.cellAt i (by omega)
    rw [Nat.zero_add, h2]
    simp [List.getD, hi]

theorem OwnB.alloc {w : World} {base : Nat} {v : Value} {bs : List Int} (h : OwnB w base v bs) (o : Obj) : OwnB (w.alloc o) base v bs := World.ownsRow.alloc h o
theorem OwnB.drewN {w : World} {base : Nat} {v : Value} {bs : List Int} (h : OwnB w base v bs) (k : Nat) : OwnB (w.drewN k) base v bs := h
theorem OwnB.nil (w : World) (base : Nat) : OwnB w base (.slice none 0 0) [] := World.ownsRow_nil w base 5 1

/-- An own row, with a length of nothing: room to append into. -/
theorem OwnB.made {w : World} {base g n : Nat} {f : Nat → Value} (h : w.rowIs g 5 n f) (hb : base ≤ g) (hn : n ≤ 9223372036854775807) : OwnB w base (.slice (some ⟨g, 0, none⟩) 0 n) [] := by
  obtain ⟨cur, hg, hcs, _⟩ := h
  exact ⟨by simp, .inr ⟨g, n, cur, rfl, hb, hg, Nat.zero_le _, by unfold maxLen; omega, by rw [hcs, Nat.mul_one], by simp⟩⟩

theorem OwnB.below {w w' : World} {base B : Nat} {v : Value} {bs : List Int} (h : OwnB w base v bs) (hb : Below B w w') (hB : w.heap.size ≤ B) : OwnB w' base v bs := by
  refine ⟨h.1, ?_⟩
  rcases h.2 with h1 | ⟨g, cap, cur, hv, hg, hh, r⟩
  · exact .inl h1
  · refine .inr ⟨g, cap, cur, hv, hg, ?_, r⟩
    have : g < w.heap.size := (Array.getElem?_eq_some_iff.1 hh).1
    rw [hb.block g (by omega)]
    exact hh

/-- Where it lies, as soon as it is not empty. -/
theorem OwnB.block {w : World} {base : Nat} {a : Option Addr} {n cap : Nat} {bs : List Int} (h : OwnB w base (.slice a n cap) bs) (hn : 0 < n) : ∃ g, a = some ⟨g, 0, none⟩ ∧ base ≤ g ∧ g < w.heap.size := by
  rcases h.2 with ⟨h1, h0⟩ | ⟨g, cap', cur, h1, hb, hg, _⟩
  · simp only [Value.slice.injEq] at h1; omega
  · simp only [Value.slice.injEq] at h1
    exact ⟨g, h1.1, hb, (Array.getElem?_eq_some_iff.1 hg).1⟩
theorem OwnB.cell {w : World} {base g : Nat} {n cap : Nat} {bs : List Int} (h : OwnB w base (.slice (some ⟨g, 0, none⟩) n cap) bs) {j : Nat} (hj : j < n) : w.cell? ⟨g, j, none⟩ = some (.int .u8 (bs.getD j 0)) := by
  have hl := h.len
  have h2 : w.ownsRow base 5 1 (.slice (some ⟨g, 0, none⟩) n cap) n (bs.map (Value.int .u8)) := by rw [← hl] at h ⊢; exact h
  rw [h2.cellAt j (by omega)]
  simp [List.getD, show j < bs.length by omega]
theorem OwnB.frozen {w : World} {base g : Nat} {n cap : Nat} {bs : List Int} (h : OwnB w base (.slice (some ⟨g, 0, none⟩) n cap) bs) (j : Nat) : w.frozen? ⟨g, j, none⟩ = false := by
  have hl := h.len
  have h2 : w.ownsRow base 5 1 (.slice (some ⟨g, 0, none⟩) n cap) n (bs.map (Value.int .u8)) := by rw [← hl] at h ⊢; exact h
  exact h2.frozenAt j
theorem OwnB.set {w : World} {base g : Nat} {n cap : Nat} {bs : List Int} (h : OwnB w base (.slice (some ⟨g, 0, none⟩) n cap) bs) (j : Nat) (x : Int) :
    OwnB (w.setCell ⟨g, j, none⟩ (.int .u8 x)) base (.slice (some ⟨g, 0, none⟩) n cap) (bs.set j x) ∧ w.grownBy (w.setCell ⟨g, j, none⟩ (.int .u8 x)) (some g) := by
  have hl := h.len
  have h2 : w.ownsRow base 5 1 (.slice (some ⟨g, 0, none⟩) n cap) n (bs.map (Value.int .u8)) := by rw [← hl] at h ⊢; exact h
  have h3 := h2.stored j (.int .u8 x)
  refine ⟨?_, h3.2⟩
  unfold OwnB
  rw [List.length_set, hl, List.map_set]
  exact h3.1
theorem OwnB.kept {w w' : World} {base : Nat} {v : Value} {bs : List Int} {row : Option Nat} (h : OwnB w base v bs) (hg : w.grownBy w' row) (hne : v.ownBlock = none ∨ v.ownBlock ≠ row) : OwnB w' base v bs := World.ownsRow.kept h hg hne
theorem grown_trans {w w' w'' : World} {row : Option Nat} (h : w.grownBy w' row) (k : w'.grownBy w'' row) : w.grownBy w'' row :=
  ⟨k.os.trans h.os, k.tape.trans h.tape, k.output.trans h.output, Nat.le_trans h.size k.size, fun i hi hne => (k.block i (by have := h.size; omega) hne).trans (h.block i hi hne)⟩
theorem grown_drewN (w : World) (k : Nat) (row : Option Nat) : w.grownBy (w.drewN k) row := ⟨rfl, rfl, rfl, Nat.le_refl _, fun _ _ _ => rfl⟩
theorem below_of_grown {B : Nat} {w w' : World} {g : Nat} (h : w.grownBy w' (some g)) (hB : B ≤ w.heap.size) (hg : B ≤ g) : Below B w w' := (Below.refl _ _).grown h hB (fun k hk => by cases hk; exact hg)

/-- '[]byte{}' -/
theorem OwnB.empty (w : World) (base : Nat) (h : base ≤ w.heap.size) : OwnB (w.alloc (.cells #[] 5)) base (.slice (some ⟨w.heap.size, 0, none⟩) 0 0) [] :=
  ⟨by simp, .inr ⟨w.heap.size, 0, #[], rfl, h, heap_alloc_new w _, Nat.le_refl _, by unfold maxLen; omega, by simp, by simp⟩⟩

/-- 'append(s, x...)' where s is what the call has built (or nil) and x whatever bytes. -/
theorem wpList_appB (w : World) {ops : Array Oper} {rest : List Oper} {o : Oper} {a : Act} {Q : Exit → Act → World → Prop} (hgd : o.guard = none) (s x : Operand)
    (ho : o.op = .call { callee := .builtin .append, args := #[s, x], argTypes := #[23, 23] })
    (base : Nat) (ao : Option Addr) (n cap : Nat) (bs : List Int) (hs : a.eval s = .slice ao n cap) (hown : OwnB w base (.slice ao n cap) bs)
    (ad : Option Addr) (m c : Nat) (hx : a.eval x = .slice ad m c) (news : List Int) (hm : news.length = m) (hsrc : ListAt w ad news) (hnil : ad = none → m = 0 ∧ c = 0)
    (hbytes : n + m ≤ 140737488355328) (hbase : base ≤ w.heap.size)
    (h : ∀ ao' cap' w', OwnB w' base (.slice ao' (n + m) cap') (bs ++ news) → w.grownBy w' (Value.slice ao n cap).ownBlock → Below base w w' → (ao ≠ none → ao' ≠ none) → (0 < n + m → ao' ≠ none) → wpList Ycqm.prog ops Q rest (a.put o.dst (.slice ao' (n + m) cap')) w') :
    wpList Ycqm.prog ops Q (o :: rest) a w := by
  have hn : bs.length = n := by
    rcases hown.2 with ⟨e, h0⟩ | ⟨g, cap', cur, e, _⟩
    · simp only [Value.slice.injEq] at e; omega
    · simp only [Value.slice.injEq] at e; omega
  obtain ⟨i, hi, hz0, hz1, hz2⟩ := info_parts Ycqm.info5
  have below : ∀ w', w.grownBy w' (Value.slice ao n cap).ownBlock → Below base w w' := fun w' hg => (Below.refl _ _).grown hg hbase (fun k hk => (hown.lt k hk).1)
  have fin : ∀ v' w', w'.ownsRow base 5 1 v' (bs.length + m) (bs.map (Value.int .u8) ++ news.map (Value.int .u8)) → w.grownBy w' (Value.slice ao n cap).ownBlock → (v' = .slice none 0 0 ↔ Value.slice ao n cap = .slice none 0 0 ∧ m = 0) → wpList Ycqm.prog ops Q rest (a.put o.dst v') w' := by
    intro v' w' h2 h3 h4
    have h2' : OwnB w' base v' (bs ++ news) := by
      unfold OwnB
      rw [List.length_append, hm, List.map_append]
      exact h2
    obtain ⟨ao', cap', rfl, _, _, hnn⟩ := h2'.shape
    have e : (bs ++ news).length = n + m := by rw [List.length_append, hn, hm]
    rw [e] at h2' ⊢
    refine h ao' cap' w' h2' h3 (below w' h3) (fun hne e2 => ?_) (fun hp e2 => ?_)
    · obtain ⟨hb, hc0⟩ := hnn e2
      have e3 : n + m = 0 := by rw [← e, hb]; rfl
      have := h4.1 (by rw [e2, hc0]; simp [e, e3])
      simp only [Value.slice.injEq] at this
      exact hne this.1.1
    · obtain ⟨hb, _⟩ := hnn e2
      rw [hb] at e
      simp at e
      omega
  cases ad with
  | some ad =>
    refine wpList_append_own w hgd s x 23 ho base 5 i (.int .u8 0) 1 1 Ycqm.underlying23 hi hz0 hz1 hz2 rfl (by decide) (.slice ao n cap) bs.length _ hs hown ad m c (news.map (Value.int .u8)) hx (by simp [hm]) ?_ ?_ (by unfold maxLen; omega) (by omega) hbase fin
    · intro j u hu
      have hj : j < news.length := by have := (List.getElem?_eq_some_iff.1 hu).1; simpa using this
      obtain ⟨b, off, e, hc⟩ := hsrc (by omega)
      simp only [Option.some.injEq] at e
      subst e
      rw [Addr.add_lit, hc j hj]
      simpa [List.getD, hj] using hu
    · intro u hu
      obtain ⟨_, _, rfl⟩ := List.mem_map.1 hu
      rfl
  | none =>
    obtain ⟨rfl, rfl⟩ := hnil rfl
    obtain rfl : news = [] := List.eq_nil_of_length_eq_zero hm
    refine wpList_append_own_none hgd s x 23 ho base 5 i 1 Ycqm.underlying23 hi (.slice ao n cap) bs.length _ hs hown hx ?_
    exact fin _ w (by have h2 := hown; unfold OwnB at h2; simpa using h2) (World.grownBy.refl _ _) (by simp)

/-- A list literal '[]byte{..}' that stands in a new block. -/
theorem listAt_new (w : World) (bs : List Int) (t : TypeId) : ListAt (w.alloc (.cells (bs.map (Value.int .u8)).toArray t)) (some ⟨w.heap.size, 0, none⟩) bs := by
  intro hn
  refine ⟨w.heap.size, 0, rfl, fun i hi => ?_⟩
  have h := World.rowIs_alloc w (bs.map (Value.int .u8)).toArray t (fun i => .int .u8 (bs.getD i 0)) (fun i hi => by simp at hi; simp [List.getD, hi])
  rw [Nat.zero_add]
  exact h.cell (by simpa using hi)

theorem listAt_of {w : World} {a : Option Addr} {n : Nat} {z : Nat → Int} (h : BytesAt w a n z) : ListAt w a ((List.range n).map z) := by
  intro hn
  simp at hn
  obtain ⟨b, off, e, hc⟩ := h hn
  refine ⟨b, off, e, fun i hi => ?_⟩
  simp at hi
  rw [hc i hi]
  simp [List.getD, hi]
end Go.Proofs.Ymbrcq
