/-
  Ymbrcp: 'Sort': the records in a row of their own, ascending by type and stable.
-/
import Derived.Test.YmbrcpAppRec
namespace Go.Proofs.Ymbrcp
open Go.RowKit
set_option linter.unusedVariables false

/-- x stands ahead of y in the stable order. -/
def lexT (T : Nat → Int) (x y : Nat) : Prop := T x < T y ∨ (T x = T y ∧ x < y)

/-- At place p of the row stands record k. -/
def recAt (f : Nat → Value) (r : Recs) (p k : Nat) : Prop := f (p * 2) = .int .u8 (r.T k) ∧ f (p * 2 + 1) = .slice (r.A k) (r.L k) (r.C k)

theorem recAt_put_same (f : Nat → Value) (r : Recs) (p k : Nat) : recAt (putR p (.int .u8 (r.T k)) (.slice (r.A k) (r.L k) (r.C k)) f) r p k := by
  refine ⟨?_, ?_⟩
  · unfold putR; rw [if_neg (by omega), if_pos rfl]
  · unfold putR; rw [if_pos rfl]
theorem recAt_put_other {f : Nat → Value} {r : Recs} {p q k : Nat} {T S : Value} (h : recAt f r p k) (hne : p ≠ q) : recAt (putR q T S f) r p k := by
  refine ⟨?_, ?_⟩
  · unfold putR; rw [if_neg (by omega), if_neg (by omega), h.1]
  · unfold putR; rw [if_neg (by omega), if_neg (by omega), h.2]

/-- The first i records stand sorted in the row. -/
structure SortedTo (f : Nat → Value) (r : Recs) (i : Nat) (l : List Nat) : Prop where
  perm : l.Perm (List.range i)
  ord : l.Pairwise (lexT r.T)
  at' : ∀ p k, l[p]? = some k → recAt f r p k

/-- The hole at j, what lies behind it moved by one. -/
structure Hole (f : Nat → Value) (r : Recs) (i : Nat) (l a b : List Nat) (j : Nat) : Prop where
  split : l = a ++ b
  len : a.length = j
  left : ∀ p k, a[p]? = some k → recAt f r p k
  right : ∀ p k, b[p]? = some k → recAt f r (j + 1 + p) k
  above : ∀ y ∈ b, r.T i < r.T y

theorem Hole.start {f : Nat → Value} {r : Recs} {i : Nat} {l : List Nat} (h : SortedTo f r i l) : Hole f r i l l [] i :=
  ⟨by simp, by have := h.perm.length_eq; simpa using this, h.at', fun p k hk => by simp at hk, fun y hy => by simp at hy⟩

theorem Hole.step {f : Nat → Value} {r : Recs} {i j y : Nat} {l a b : List Nat} (h : Hole f r i l (a ++ [y]) b (j + 1)) (hy : r.T i < r.T y) :
    Hole (putR (j + 1) (.int .u8 (r.T y)) (.slice (r.A y) (r.L y) (r.C y)) f) r i l a (y :: b) j := by
  have hlen : a.length = j := by have := h.len; simp at this; exact this
  refine ⟨by rw [h.split]; simp, hlen, fun p k hk => ?_, fun p k hk => ?_, fun z hz => ?_⟩
  · have hp : p < a.length := by
      by_cases e : p < a.length
      · exact e
      · rw [List.getElem?_eq_none (by omega)] at hk; simp at hk
    exact recAt_put_other (h.left p k (by rw [List.getElem?_append_left hp]; exact hk)) (by omega)
  · cases p with
    | zero =>
      simp at hk
      subst hk
      exact recAt_put_same f r (j + 1) y
    | succ p =>
      have := h.right p k (by simpa using hk)
      exact recAt_put_other (by rw [show j + 1 + (p + 1) = j + 1 + 1 + p by omega]; exact this) (by omega)
  · rcases List.mem_cons.1 hz with rfl | hz
    · exact hy
    · exact h.above z hz

theorem Hole.fill {f : Nat → Value} {r : Recs} {i j : Nat} {l a b : List Nat} (h : Hole f r i l a b j) (hs : l.Perm (List.range i) ∧ l.Pairwise (lexT r.T)) (hstop : ∀ a' y, a = a' ++ [y] → r.T y ≤ r.T i) :
    SortedTo (putR j (.int .u8 (r.T i)) (.slice (r.A i) (r.L i) (r.C i)) f) r (i + 1) (a ++ i :: b) := by
  have hmem : ∀ y ∈ l, y < i := fun y hy => List.mem_range.1 (hs.1.mem_iff.1 hy)
  have hsp := h.split
  have hpw := hs.2
  rw [hsp] at hpw
  obtain ⟨pa, pb, pab⟩ := List.pairwise_append.1 hpw
  have hle : ∀ y ∈ a, lexT r.T y i := by
    intro y hy
    have hyi := hmem y (by rw [hsp]; simp [hy])
    rcases List.eq_nil_or_concat a with rfl | ⟨a', z, e⟩
    · simp at hy
    · rw [List.concat_eq_append] at e
      have hz := hstop a' z e
      rw [e] at hy pa
      rcases List.mem_append.1 hy with h1 | h1
      · have := (List.pairwise_append.1 pa).2.2 y h1 z (by simp)
        unfold lexT at *
        omega
      · simp at h1
        subst h1
        unfold lexT
        omega
  refine ⟨?_, ?_, fun p k hk => ?_⟩
  · rw [List.range_succ]
    refine List.perm_middle.trans ?_
    have h1 : (i :: (a ++ b)).Perm (i :: List.range i) := (hsp ▸ hs.1).cons i
    exact h1.trans (List.perm_append_singleton i (List.range i)).symm
  · rw [List.pairwise_append]
    refine ⟨pa, List.pairwise_cons.2 ⟨fun y hy => .inl (h.above y hy), pb⟩, fun x hx y hy => ?_⟩
    rcases List.mem_cons.1 hy with rfl | hy
    · exact hle x hx
    · exact pab x hx y hy
  · have hl := h.len
    by_cases e : p < a.length
    · rw [List.getElem?_append_left e] at hk
      exact recAt_put_other (h.left p k hk) (by omega)
    · rw [List.getElem?_append_right (by omega)] at hk
      by_cases e2 : p = a.length
      · rw [e2, Nat.sub_self] at hk
        simp at hk
        subst hk
        rw [e2, hl]
        exact recAt_put_same f r j i
      · obtain ⟨q, hq⟩ : ∃ q, p - a.length = q + 1 := ⟨p - a.length - 1, by omega⟩
        rw [hq] at hk
        simp at hk
        have := h.right q k hk
        rw [show j + 1 + q = p by omega] at this
        exact recAt_put_other this (by omega)

theorem rowIs_drewN {w : World} {g t n : Nat} {f : Nat → Value} (h : w.rowIs g t n f) (k : Nat) : (w.drewN k).rowIs g t n f := h

theorem rowIs_rec (w : World) (T S : Value) : (w.alloc (.cells #[T, S] 27)).rowIs w.heap.size 27 2 (fun q => if q = 0 then T else S) :=
  ⟨#[T, S], heap_alloc_new w _, rfl, fun j hj => by
    match j, hj with
    | 0, _ => rfl
    | 1, _ => rfl⟩

set_option maxRecDepth 100000 in
set_option maxHeartbeats 4000000 in
theorem sort_calls (a : Option Addr) (n c : Nat) (r : Recs) (w : World) (hn : (n : Int) ≤ 1000000) (hok : RecsOk n r) (ha : RecsAt w a n r) :
    Calls Ycpm.prog 15 #[.slice a n c] w fun e w' => ∃ l f, e = .returned (.slice (some ⟨w.heap.size, 0, none⟩) n n) ∧ w'.rowIs w.heap.size 27 (n * 2) f ∧ SortedTo f r n l ∧ Below w.heap.size w w' := by
  have HA : Hid (RecsAt w a n r) := ha
  have HK : Hid (RecsOk n r) := hok
  clear ha hok
  go_enter Ycpm.func15, Ycpm.ntmps15
  go_wp2_with (at_make; refine wpList_mkRx _ _ rfl rfl _ _ rfl .i64 .i64 _ _ n n rfl rfl rfl rfl (Nat.le_refl _) (by omega) ?_; intro w1 hrow hb hs1; have HR1 : Hid (∃ f l, w1.rowIs w.heap.size 27 (n * 2) f ∧ SortedTo f r 0 l) := ⟨_, [], hrow, ⟨.refl _, .nil, fun p k hk => by simp at hk⟩⟩; have HB1 : Hid (Below w.heap.size w w1) := hb; have hg1 := hrow.lt; clear hrow hb)
  go_loopw [12] (fun i wr => ∃ k : Nat, k ≤ n ∧ i = .int .i64 k ∧ w.heap.size < wr.heap.size ∧ Hid (∃ f l, wr.rowIs w.heap.size 27 (n * 2) f ∧ SortedTo f r k l) ∧ Hid (Below w.heap.size w wr)) (fun i _ => n - (intOf i).toNat)
  case atStart => exact ⟨0, Nat.zero_le _, rfl, hg1, HR1.out, HB1.out⟩
  case round =>
    clear HR1 HB1 hg1
    obtain ⟨i, hi, rfl, hgw, HR, HB⟩ := hrel
    by_cases hlt : i < n
    · obtain ⟨f, l, hrow, hso⟩ := HR.out
      obtain ⟨ab, off, rfl, hT, hS⟩ := HA.out (by omega)
      have hc0 := hT i hlt
      have hc1 := hS i hlt
      have hab : ab < w.heap.size := World.block_lt_of_cell? _ _ hc0
      have t0 : wr.cell? ⟨ab, off + i * 2, none⟩ = some (.int .u8 (r.T i)) := (HB.out.cell (World.block_lt_of_cell? _ _ hc0)).trans hc0
      have t1 : wr.cell? ⟨ab, off + i * 2 + 1, none⟩ = some (.slice (r.A i) (r.L i) (r.C i)) := (HB.out.cell (World.block_lt_of_cell? _ _ hc1)).trans hc1
      have HSO : Hid (l.Perm (List.range i) ∧ l.Pairwise (lexT r.T)) := ⟨hso.perm, hso.ord⟩
      have HH0 : Hid (Hole f r i l l [] i) := Hole.start hso
      have HF : Hid (wr.rowIs w.heap.size 27 (n * 2) f) := hrow
      clear hT hS hc0 hc1 hrow hso HR
      obtain ⟨wo, rfl⟩ : ∃ wo, wo = wr := ⟨wr, rfl⟩
      go_wp2
      go_loopw [6] (fun jv wq => ∃ j : Nat, j ≤ i ∧ jv = .int .i64 j ∧ Hid (∃ f a b, wq.rowIs w.heap.size 27 (n * 2) f ∧ Hole f r i l a b j) ∧ Hid (wq.rowIs wo.heap.size 27 2 (fun q => if q = 0 then .int .u8 (r.T i) else .slice (r.A i) (r.L i) (r.C i))) ∧ Hid (Below w.heap.size w wq)) (fun jv _ => (intOf jv).toNat)
      case atStart => exact ⟨i, Nat.le_refl _, rfl, ⟨f, l, [], HF.out.alloc _, HH0.out⟩, rowIs_rec wo _ _, HB.out.alloc HB.out.size _⟩
      case round =>
        clear HF HH0 HB t0 t1
        obtain ⟨j, hj, rfl, HH, HX, HQ⟩ := hrel
        obtain ⟨f, a, b, hrow, hole⟩ := HH.out
        have x0 : wr.cell? ⟨wo.heap.size, 0, none⟩ = some (.int .u8 (r.T i)) := HX.out.cell (show 0 < 2 by omega)
        have x1 : wr.cell? ⟨wo.heap.size, 1, none⟩ = some (.slice (r.A i) (r.L i) (r.C i)) := HX.out.cell (show 1 < 2 by omega)
        have d0 : wr.cell? ⟨w.heap.size, j * 2, none⟩ = some (f (j * 2)) := hrow.cell (by omega)
        have d1 : wr.cell? ⟨w.heap.size, j * 2 + 1, none⟩ = some (f (j * 2 + 1)) := hrow.cell (by omega)
        have e0 : wr.frozen? ⟨w.heap.size, j * 2, none⟩ = false := hrow.frozen _
        have e1 : wr.frozen? ⟨w.heap.size, j * 2 + 1, none⟩ = false := hrow.frozen _
        have HF : Hid (wr.rowIs w.heap.size 27 (n * 2) f) := hrow
        have HO : Hid (Hole f r i l a b j) := hole
        have hne : ¬ wo.heap.size = w.heap.size := by omega
        clear hrow hole HH
        have FILL : Hid ((∀ a' y, a = a' ++ [y] → r.T y ≤ r.T i) → SortedTo (putR j (.int .u8 (r.T i)) (.slice (r.A i) (r.L i) (r.C i)) f) r (i + 1) (a ++ i :: b)) := fun h => HO.out.fill HSO.out h
        cases j with
        | zero =>
          have HN : Hid (a = []) := List.eq_nil_of_length_eq_zero HO.out.len
          go_wp2
          go_quiet (fail)
          go_wp2
          go_roundw
          case rel =>
            refine ⟨i + 1, by omega, by go_num, by simp; exact HF.out.lt, ⟨_, a ++ i :: b, ((rowIs_drewN HF.out _).set 0 _).set 1 _, ?_⟩, ((HQ.out.trans ((below_drewN wr _).mono HQ.out.size)).setCell (Nat.le_refl _) _).setCell (Nat.le_refl _) _⟩
            exact FILL.out (fun a' y e => by rw [HN.out] at e; simp at e)
          case measure => simp [intOf] <;> omega
        | succ j =>
          obtain ⟨a', y, ea⟩ : ∃ a' y, a = a' ++ [y] := by
            rcases List.eq_nil_or_concat a with rfl | ⟨a', y, e⟩
            · have := HO.out.len; simp at this
            · exact ⟨a', y, by rw [e, List.concat_eq_append]⟩
          have hlen : a'.length = j := by have := HO.out.len; rw [ea] at this; simpa using this
          have hrec := HO.out.left j y (by rw [ea, ← hlen]; simp)
          have g0 : wr.cell? ⟨w.heap.size, j * 2, none⟩ = some (.int .u8 (r.T y)) := by rw [HF.out.cell (by omega), hrec.1]
          have g1 : wr.cell? ⟨w.heap.size, j * 2 + 1, none⟩ = some (.slice (r.A y) (r.L y) (r.C y)) := by rw [HF.out.cell (by omega), hrec.2]
          have HE : Hid (a = a' ++ [y]) := ea
          clear ea hlen hrec
          by_cases hgt : r.T i < r.T y
          · have hgd : decide (r.T i < r.T y) = true := decide_eq_true hgt
            go_wp2
            go_quiet (fail)
            go_wp2
            go_roundw
            case rel =>
              have hst := HO.out
              rw [HE.out] at hst
              have hst2 := hst.step hgt
              exact ⟨j, by omega, by go_num, ⟨_, a', y :: b, ((rowIs_drewN HF.out _).set _ _).set _ _, hst2⟩, (HX.out).of_block (by rw [Below.heap_setCell _ _ _ _ hne, Below.heap_setCell _ _ _ _ hne]; rfl), ((HQ.out.trans ((below_drewN wr _).mono HQ.out.size)).setCell (Nat.le_refl _) _).setCell (Nat.le_refl _) _⟩
            case measure => simp [intOf] <;> omega
          · have hgd : decide (r.T i < r.T y) = false := decide_eq_false hgt
            go_wp2
            go_quiet (fail)
            go_wp2
            go_roundw
            case rel =>
              refine ⟨i + 1, by omega, by go_num, by simp; exact HF.out.lt, ⟨_, a ++ i :: b, ((rowIs_drewN HF.out _).set _ _).set _ _, ?_⟩, ((HQ.out.trans ((below_drewN wr _).mono HQ.out.size)).setCell (Nat.le_refl _) _).setCell (Nat.le_refl _) _⟩
              refine FILL.out (fun a2 y2 e => ?_)
              rw [HE.out] at e
              have := List.append_inj_right' e rfl
              simp at this
              subst this
              omega
            case measure => simp [intOf] <;> omega
    · obtain rfl : n = i := by omega
      go_wp2
      go_ret
      obtain ⟨f, l, hrow, hso⟩ := HR.out
      exact ⟨l, f, rfl, hrow, hso, HB.out⟩
end Go.Proofs.Ymbrcp
