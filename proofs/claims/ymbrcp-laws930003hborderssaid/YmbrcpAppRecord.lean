/-
  Ymbrcp: 'AppendRecord': the record's wire form behind what is there.
-/
import Derived.Test.YmbrcpAppLen
namespace Go.Proofs.Ymbrcp
open Go.RowKit
set_option linter.unusedVariables false

theorem own_ne {w : World} {base : Nat} {v : Value} {bs : List Int} {x : Nat} {cs : Array Value} {q : Nat × Nat} (h : OwnB w base v bs) (hx : w.heap[x]? = some (.cells cs 27 q)) : v.ownBlock ≠ some x := by
  rcases h.2 with ⟨rfl, _⟩ | ⟨g, cap, cur, rfl, _, hg, _⟩
  · simp [Value.ownBlock]
  · intro e
    simp [Value.ownBlock] at e
    subst e
    rw [hg] at hx
    simp at hx

theorem box_kept {w w' : World} {row : Option Nat} {x : Nat} {o : Obj} (hg : w.grownBy w' row) (hx : w.heap[x]? = some o) (hne : row ≠ some x) : w'.heap[x]? = some o := by
  rw [hg.block x (by have := (Array.getElem?_eq_some_iff.1 hx).1; exact this) (fun e => hne e.symm)]
  exact hx

theorem box_cell {w : World} {x : Nat} {cs : Array Value} {t : TypeId} {q : Nat × Nat} (hx : w.heap[x]? = some (.cells cs t q)) (j : Nat) (v : Value) (hj : cs[j]? = some v) : w.cell? ⟨x, j, none⟩ = some v := by
  simp [World.cell?, hx, hj]

theorem listAt_newx (w : World) (x : Nat) (hx : w.heap.size = x) (bs : List Int) (t : TypeId) : ListAt (w.alloc (.cells (bs.map (Value.int .u8)).toArray t)) (some ⟨x, 0, none⟩) bs := by
  subst hx
  exact listAt_new w bs t

set_option maxRecDepth 100000 in
set_option maxHeartbeats 2000000 in
theorem ar_calls (ao : Option Addr) (n cap : Nat) (bs : List Int) (t : Int) (av : Option Addr) (m cv : Nat) (zv : Nat → Int) (w : World) (base : Nat) (hown : OwnB w base (.slice ao n cap) bs) (hn : (n : Int) ≤ 9000000) (hbase : base ≤ w.heap.size) (hm : (m : Int) ≤ 65535) (hnil : av = none → m = 0 ∧ cv = 0)
    (hV : ∀ w', Below base w w' → BytesAt w' av m zv) :
    Calls Ycpm.prog 32 #[.slice ao n cap, .agg #[.int .u8 t, .slice av m cv]] w fun e w' => ∃ ao' n' cap', e = .returned (.tuple #[.slice ao' n' cap', .bool true]) ∧ OwnB w' base (.slice ao' n' cap') (bs ++ enc t ((List.range m).map zv)) ∧ ao' ≠ none ∧ Below base w w' := by
  have HO : Hid (OwnB w base (.slice ao n cap) bs) := hown
  have HV : Hid (∀ w', Below base w w' → BytesAt w' av m zv) := hV
  have HN : Hid (av = none → m = 0 ∧ cv = 0) := hnil
  clear hown hV hnil
  go_enter Ycpm.func32, Ycpm.ntmps32
  go_wp2_with (first
    | (at_builtin; refine wpList_appB _ rfl (.tmp 12) (.tmp 15) rfl base ao n cap bs rfl ((HO.out.alloc _).alloc _) (some ⟨w.heap.size + 1, 0, none⟩) 1 1 rfl [t] rfl (listAt_newx _ _ (by simp) [t] _) (by simp) (by omega) (by simp; omega) ?_; intro ao1 cap1 w1 hown1 hg1 hb1 hne1 hp1
       have HO1 : Hid (OwnB w1 base (.slice ao1 (n + 1) cap1) (bs ++ [t])) := hown1
       have HX1 : Hid (w1.heap[w.heap.size]? = some (.cells #[.int .u8 t, .slice av m cv] 27)) := box_kept hg1 ((heap_alloc_old _ _ (by simp)).trans (heap_alloc_new w _)) (own_ne ((HO.out.alloc _).alloc (.cells #[.int .u8 t] 5)) ((heap_alloc_old _ _ (by simp)).trans (heap_alloc_new w (.cells #[.int .u8 t, .slice av m cv] 27))))
       have HB1 : Hid (Below base w w1) := (((Below.refl _ _).alloc hbase _).alloc (by simp; omega) _).trans hb1
       have r0 : w1.cell? ⟨w.heap.size, 0, none⟩ = some (.int .u8 t) := box_cell HX1.out 0 _ rfl
       have r1 : w1.cell? ⟨w.heap.size, 1, none⟩ = some (.slice av m cv) := box_cell HX1.out 1 _ rfl
       have hs1 := HB1.out.size
       clear hown1 hg1 hb1 hne1 hp1))
  refine (al_calls ao1 (n + 1) cap1 _ m w1 base HO1.out (by omega) (by omega) hm).mono ?_
  rintro e w2 ⟨ao2, n2, cap2, rfl, hO2, hne2, hB2, hg2⟩
  have HX2 : Hid (w2.heap[w.heap.size]? = some (.cells #[.int .u8 t, .slice av m cv] 27)) := box_kept hg2 ((heap_alloc_old _ _ (Array.getElem?_eq_some_iff.1 HX1.out).1).trans HX1.out) (own_ne HO1.out HX1.out)
  have q0 : w2.cell? ⟨w.heap.size, 0, none⟩ = some (.int .u8 t) := box_cell HX2.out 0 _ rfl
  have q1 : w2.cell? ⟨w.heap.size, 1, none⟩ = some (.slice av m cv) := box_cell HX2.out 1 _ rfl
  have HO2 : Hid (OwnB w2 base (.slice ao2 n2 cap2) (bs ++ [t] ++ lenF m)) := hO2
  have HB2 : Hid (Below base w w2) := HB1.out.trans hB2
  have hs2 := HB2.out.size
  have HNE : Hid (ao2 ≠ none) := hne2
  have hn2 : (n2 : Int) ≤ 10000010 := by
    have h := hO2.len
    have h1 := HO1.out.len
    have h2 := lenF_len m
    rw [List.length_append] at h
    split at h2 <;> (try split at h2) <;> omega
  clear hO2 hB2 hne2 hg2
  go_wp2_with (at_builtin; refine wpList_appB _ rfl (.tmp 25) (.tmp 27) rfl base ao2 n2 cap2 _ rfl HO2.out av m cv rfl ((List.range m).map zv) (by simp) (listAt_of (HV.out w2 HB2.out)) HN.out (by omega) (by omega) ?_; intro ao3 cap3 w3 hown3 hg3 hb3 hne3 hp3)
  go_ret2
  refine ⟨ao3, n2 + m, cap3, rfl, ?_, hne3 HNE.out, HB2.out.trans hb3⟩
  have e : bs ++ enc t ((List.range m).map zv) = bs ++ [t] ++ lenF m ++ (List.range m).map zv := by simp [enc]
  rw [e]
  exact hown3
end Go.Proofs.Ymbrcp
