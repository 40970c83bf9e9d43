/-
  Ymbrcq: 'zzs930003jvalue', and an append that keeps the rows beside.
-/
import Derived.Test.YmbrcqQuads
import Derived.Test.YmbrcqMem
import Derived.Maps.AppendAt
namespace Go.Proofs.Ymbrcq
open Go.RowKit
set_option linter.unusedVariables false

/-- The rows that are not v's own stay as they were, and are not v''s own. -/
def Keeps (w : World) (v : Value) (w' : World) (v' : Value) : Prop := ∀ gw t m f, v.ownBlock ≠ some gw → w.rowIs gw t m f → w'.rowIs gw t m f ∧ v'.ownBlock ≠ some gw

theorem Keeps.trans {w w1 w2 : World} {v v1 v2 : Value} (h : Keeps w v w1 v1) (k : Keeps w1 v1 w2 v2) : Keeps w v w2 v2 := fun gw t m f h1 h2 => k gw t m f (h gw t m f h1 h2).2 (h gw t m f h1 h2).1
theorem Keeps.alloc (w : World) (v : Value) (o : Obj) : Keeps w v (w.alloc o) v := fun gw t m f h1 h2 => ⟨h2.alloc o, h1⟩

theorem wpList_appC (w : World) {ops : Array Oper} {rest : List Oper} {o : Oper} {a : Act} {Q : Exit → Act → World → Prop} (hgd : o.guard = none) (s x : Operand)
    (ho : o.op = .call { callee := .builtin .append, args := #[s, x], argTypes := #[23, 23] })
    (base : Nat) (ao : Option Addr) (n cap : Nat) (bs : List Int) (hs : a.eval s = .slice ao n cap) (hown : OwnB w base (.slice ao n cap) bs)
    (ad : Addr) (m c : Nat) (hx : a.eval x = .slice (some ad) m c) (news : List Int) (hm : news.length = m) (hsrc : ListAt w (some ad) news)
    (hbytes : n + m ≤ 140737488355328) (hbase : base ≤ w.heap.size)
    (h : ∀ ao' cap' w', OwnB w' base (.slice ao' (n + m) cap') (bs ++ news) → Keeps w (.slice ao n cap) w' (.slice ao' (n + m) cap') → Below base w w' → wpList Ycqm.prog ops Q rest (a.put o.dst (.slice ao' (n + m) cap')) w') :
    wpList Ycqm.prog ops Q (o :: rest) a w := by
  have hn : bs.length = n := by
    rcases hown.2 with ⟨e, h0⟩ | ⟨g, cap', cur, e, _⟩
    · simp only [Value.slice.injEq] at e; omega
    · simp only [Value.slice.injEq] at e; omega
  obtain ⟨i, hi, hz0, hz1, hz2⟩ := info_parts Ycqm.info5
  refine wpList_append_own_at w hgd s x 23 ho base 5 i (.int .u8 0) 1 1 Ycqm.underlying23 hi hz0 hz1 hz2 rfl (by decide) (.slice ao n cap) bs.length _ hs hown ad m c (news.map (Value.int .u8)) hx (by simp [hm]) ?_ ?_ (by unfold maxLen; omega) (by omega) hbase ?_
  · intro j u hu
    have hj : j < news.length := by have := (List.getElem?_eq_some_iff.1 hu).1; simpa using this
    obtain ⟨b, off, e, hc⟩ := hsrc (by omega)
    simp only [Option.some.injEq] at e
    subst e
    rw [Addr.add_lit, hc j hj]
    simpa [List.getD, hj] using hu
  · intro u hu
    obtain ⟨_, _, rfl⟩ := List.mem_map.1 hu
    rfl
  · intro v' w' h2 h3 h4 h5
    have h2' : OwnB w' base v' (bs ++ news) := by
      unfold OwnB
      rw [List.length_append, hm, List.map_append]
      exact h2
    obtain ⟨ao', cap', rfl, _, _, hnn⟩ := h2'.shape
    have e : (bs ++ news).length = n + m := by rw [List.length_append, hn, hm]
    rw [e] at h2' h5 ⊢
    refine h ao' cap' w' h2' ?_ ((Below.refl _ _).grown h3 hbase (fun k hk => (hown.lt k hk).1))
    intro gw t q f g1 g2
    have hlt := g2.lt
    refine ⟨g2.of_block (h3.block gw hlt (fun e2 => g1 e2.symm)), ?_⟩
    rcases h5 with h5 | h5
    · rw [h5]; exact g1
    · rw [h5]
      intro e2
      simp only [Option.some.injEq] at e2
      omega

def fillB (x : Int) (j : Nat) : Int := (x + (j : Int)) % 256
def fills (x : Int) (m : Nat) : List Int := (List.range m).map (fillB x)
theorem fills_len (x : Int) (m : Nat) : (fills x m).length = m := by simp [fills]
theorem fills_getD (x : Int) (m j : Nat) (h : j < m) : (fills x m).getD j 0 = fillB x j := by simp [fills, List.getD, h]

def jz (F N : Int) : Nat := (F % 3 * 128 + N % 100).toNat
theorem jz_cast (F N : Int) : ((jz F N : Nat) : Int) = F % 3 * 128 + N % 100 := by unfold jz; omega
theorem jz_le (F N : Int) : jz F N ≤ 355 := by unfold jz; omega

set_option maxRecDepth 100000 in
set_option maxHeartbeats 1000000 in
theorem jvalue_calls (t F N X : Int) (w : World) (hF : 0 ≤ F ∧ F ≤ 255) (hN : 0 ≤ N ∧ N ≤ 255) (hX : 0 ≤ X ∧ X ≤ 255) (m : Nat) (hm : m = jz F N) :
    Calls Ycqm.prog 19 #[.agg #[.int .u8 t, .int .u8 F, .int .u8 N, .int .u8 X]] w fun e w' => e = .returned (.slice (some ⟨w.heap.size + 1, 0, none⟩) m m) ∧ Hid (w'.rowIs (w.heap.size + 1) 5 m (fun i => .int .u8 (fillB X i))) ∧ Hid (Below w.heap.size w w') := by
  have HM : Hid ((m : Int) = F % 3 * 128 + N % 100) := by rw [hm]; exact jz_cast F N
  have hm3 : m ≤ 355 := by rw [hm]; exact jz_le F N
  have hmm : F % 3 * 128 + N % 100 = (m : Int) := HM.out.symm
  clear hm
  have HBX : Hid (∀ w1, Below (w.heap.size + 1) (w.alloc (.cells #[.int .u8 t, .int .u8 F, .int .u8 N, .int .u8 X] 39)) w1 → w1.cell? ⟨w.heap.size, 3, none⟩ = some (.int .u8 X) ∧ Hid (Below w.heap.size w w1)) := by
    intro w1 hb
    refine ⟨(hb.cell (show w.heap.size < w.heap.size + 1 by omega)).trans (by simp), ((Below.refl _ _).alloc (Nat.le_refl _) _).trans (hb.mono (by omega))⟩
  go_enter Ycqm.func19, Ycqm.ntmps19
  go_wp2_with (at_make; refine wpList_mkBx (w.alloc (.cells #[.int .u8 t, .int .u8 F, .int .u8 N, .int .u8 X] 39)) (w.heap.size + 1) (by simp) rfl _ _ rfl .i64 .i64 _ _ m m rfl rfl rfl rfl (Nat.le_refl _) (by omega) ?_; intro w1 hrow hb hs1; obtain ⟨x3, HB1⟩ := HBX.out w1 hb; have HR1 : Hid (w1.rowIs (w.heap.size + 1) 5 m (fun _ => .int .u8 0)) := hrow; clear hb hrow)
  go_loopw [5] (fun jv wr => ∃ j : Nat, j ≤ m ∧ jv = .int .i64 j ∧ Hid (∃ h, wr.rowIs (w.heap.size + 1) 5 m h ∧ ∀ j', j' < j → h j' = .int .u8 (fillB X j')) ∧ Hid (wr.cell? ⟨w.heap.size, 3, none⟩ = some (.int .u8 X)) ∧ Hid (Below w.heap.size w wr)) (fun jv _ => m - (intOf jv).toNat)
  case atStart => exact ⟨0, Nat.zero_le _, rfl, ⟨_, HR1.out, fun j' h => absurd h (Nat.not_lt_zero _)⟩, x3, HB1.out⟩
  case round =>
    clear HR1 HB1 x3 hs1
    obtain ⟨j, hj, rfl, HR, HX3, HB⟩ := hrel
    by_cases hjm : j < m
    · obtain ⟨h, hrow, hh⟩ := HR.out
      have x3 := HX3.out
      have d0 : wr.cell? ⟨w.heap.size + 1, j, none⟩ = some (h j) := hrow.cell hjm
      have e0 : wr.frozen? ⟨w.heap.size + 1, j, none⟩ = false := hrow.frozen j
      have HRK : Hid (wr.rowIs (w.heap.size + 1) 5 m h) := hrow
      have HHH : Hid (∀ j', j' < j → h j' = .int .u8 (fillB X j')) := hh
      have hji : (j : Int) < (m : Int) := by omega
      clear hrow hh HR
      go_wp2
      go_roundw
      case rel =>
        refine ⟨j + 1, by omega, by go_num, ⟨_, HRK.out.set _ _, fun j' hj' => ?_⟩, ?_, HB.out.setCell (by show w.heap.size ≤ w.heap.size + 1; omega) _⟩
        · by_cases e : j' = j
          · subst e
            rw [if_pos rfl]
            rfl
          · rw [if_neg e]
            exact HHH.out j' (by omega)
        · show World.cell? _ _ = _
          rw [World.cell?_of_block (w := wr) (Below.heap_setCell _ _ _ _ (by show ¬ w.heap.size = w.heap.size + 1; omega))]
          exact HX3.out
      case measure => simp [intOf] <;> omega
    · obtain rfl : m = j := by omega
      obtain ⟨h, hrow, hh⟩ := HR.out
      have HRF : Hid (wr.rowIs (w.heap.size + 1) 5 m (fun i => .int .u8 (fillB X i))) := hrow.congr (fun i hi => hh i hi)
      clear HR hrow hh
      go_wp2
      go_ret
      exact ⟨rfl, HRF.out, HB.out⟩
end Go.Proofs.Ymbrcq
