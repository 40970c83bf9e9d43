/-
  Ymbrco: the walk of 'LawS930003CRound'.
-/
import Derived.Test.YmbrcoCsize
import Derived.Test.YmbrcoDecL
namespace Go.Proofs.Ymbrco.lawS930003CRound
open Go.RowKit Go.Proofs.Ymbrco
set_option linter.unusedVariables false

def sz (q : Quads) (i : Nat) : Nat := szN (q.F i) (q.N i)
def fillB (x : Int) (j : Nat) : Int := (x + (j : Int)) % 256
def fills (x : Int) (m : Nat) : List Int := (List.range m).map (fillB x)
def Vc (q : Quads) (i : Nat) : List Int := fills (q.X i) (sz q i)

theorem fills_len (x : Int) (m : Nat) : (fills x m).length = m := by simp [fills]
theorem fills_succ (x : Int) (m : Nat) : fills x (m + 1) = fills x m ++ [fillB x m] := by simp [fills, List.range_succ]
theorem fills_getD (x : Int) (m j : Nat) (h : j < m) : (fills x m).getD j 0 = fillB x j := by simp [fills, List.getD, h]
theorem fills_bytes (x : Int) (m : Nat) : AllB (fills x m) := by
  intro y hy
  obtain ⟨j, _, rfl⟩ := List.mem_map.1 hy
  unfold fillB
  omega
theorem V_ok {n : Nat} {q : Quads} (h : QuadsOk n q) (i : Nat) (hi : i < n) : (0 ≤ q.T i ∧ q.T i ≤ 255) ∧ AllB (Vc q i) ∧ (Vc q i).length ≤ 65535 :=
  ⟨(h i hi).1, fills_bytes _ _, by unfold Vc; rw [fills_len]; have := szN_le (q.F i) (q.N i); unfold sz; omega⟩
theorem msg_succ (q : Quads) (k : Nat) : encs (rsOf q.T (Vc q) (k + 1)) = encs (rsOf q.T (Vc q) k) ++ [q.T k] ++ lenF (sz q k) ++ fills (q.X k) (sz q k) := by
  rw [rsOf_succ]
  unfold enc
  rw [show (Vc q k).length = sz q k by unfold Vc; rw [fills_len]]
  simp [Vc]

theorem fault_calls {n : Nat} {q : Quads} (hK : QuadsOk n q) (C : List Int) (code : Int) (w' : World) (base : Nat) (ao : Option Addr) (M cap : Nat) (hown : OwnB w' base (.slice ao M cap) (encs (rsOf q.T (Vc q) n) ++ C)) (hM : (M : Int) ≤ 1048576)
    (hC : AllB C) (hC0 : C ≠ []) (hcode : code ≠ 0) (hsp : (span (zl C) C.length 0).2.2 = code) :
    Calls Ycom.prog 25 #[.slice ao M cap] w' fun e w'' => e = .returned (.tuple #[.slice none 0 0, .int .i64 code]) ∧ Below w'.heap.size w' w'' := by
  have hlen := hown.len
  obtain ⟨_, _, hshape, hcap1, hcap2, _⟩ := hown.shape
  simp only [Value.slice.injEq] at hshape
  obtain ⟨hs1, hs2, rfl⟩ := hshape
  rw [hlen] at hcap1
  refine decode_fault ao M cap n q.T (Vc q) C code w' hlen.symm hcap1 hcap2 hM (fun i hi => V_ok hK i hi) hC hC0 hcode hsp ?_
  have h := hown.bytes
  rw [hlen] at h
  exact h

theorem tail0 (t x : Int) (hx : 0 ≤ x ∧ x ≤ 255) : (span (zl [t]) ([t] : List Int).length 0).2.2 = 1 := by
  have h := span_end (zl [t]) 1 0 (by omega) (by omega)
  have h2 : span (zl [t]) 1 0 = (0, 0, 1) := by simpa using h
  show (span (zl [t]) 1 0).2.2 = 1
  rw [h2]

theorem tail1 (t x : Int) (hx : 0 ≤ x ∧ x ≤ 255) : (span (zl [t, 131 + x % 125]) ([t, 131 + x % 125] : List Int).length 0).2.2 = 2 := by
  have h := span_at (zl [t, 131 + x % 125]) 2 0 (by omega)
  have z1 : zl [t, 131 + x % 125] (0 + 1) = 131 + x % 125 := rfl
  rw [z1, if_neg (by omega), if_neg (by omega), if_neg (by omega)] at h
  show (span (zl [t, 131 + x % 125]) 2 (0 : Nat)).2.2 = 2
  rw [h]

theorem tail2 (t x : Int) (hx : 0 ≤ x ∧ x ≤ 255) : (span (zl [t, 129, x % 128]) ([t, 129, x % 128] : List Int).length 0).2.2 = 2 := by
  have h := span_at (zl [t, 129, x % 128]) 3 0 (by omega)
  have z1 : zl [t, 129, x % 128] (0 + 1) = 129 := rfl
  have z2 : zl [t, 129, x % 128] (0 + 2) = x % 128 := rfl
  rw [z1, z2, if_neg (by omega), if_pos rfl, if_neg (by omega), if_pos (by omega)] at h
  show (span (zl [t, 129, x % 128]) 3 (0 : Nat)).2.2 = 2
  rw [h]

theorem tail3 (t x : Int) (hx : 0 ≤ x ∧ x ≤ 255) : (span (zl [t, 130, 0, x]) ([t, 130, 0, x] : List Int).length 0).2.2 = 2 := by
  have h := span_at (zl [t, 130, 0, x]) 4 0 (by omega)
  have z1 : zl [t, 130, 0, x] (0 + 1) = 130 := rfl
  have z2 : zl [t, 130, 0, x] (0 + 2) = 0 := rfl
  have z3 : zl [t, 130, 0, x] (0 + 3) = x := rfl
  rw [z1, z2, z3, if_neg (by omega), if_neg (by omega), if_pos rfl, if_neg (by omega), if_pos (by omega)] at h
  show (span (zl [t, 130, 0, x]) 4 (0 : Nat)).2.2 = 2
  rw [h]

theorem tail4 (t x : Int) (hx : 0 ≤ x ∧ x ≤ 255) : (span (zl [t, 1 + x % 127]) ([t, 1 + x % 127] : List Int).length 0).2.2 = 1 := by
  have h := span_at (zl [t, 1 + x % 127]) 2 0 (by omega)
  have z1 : zl [t, 1 + x % 127] (0 + 1) = 1 + x % 127 := rfl
  rw [z1, if_pos (by omega), if_pos (by omega)] at h
  show (span (zl [t, 1 + x % 127]) 2 (0 : Nat)).2.2 = 1
  rw [h]

theorem tail5 (t x : Int) (hx : 0 ≤ x ∧ x ≤ 255) : (span (zl [t, 129]) ([t, 129] : List Int).length 0).2.2 = 1 := by
  have h := span_at (zl [t, 129]) 2 0 (by omega)
  have z1 : zl [t, 129] (0 + 1) = 129 := rfl
  rw [z1, if_neg (by omega), if_pos rfl, if_pos (by omega)] at h
  show (span (zl [t, 129]) 2 (0 : Nat)).2.2 = 1
  rw [h]

theorem tail6 (t x : Int) (hx : 0 ≤ x ∧ x ≤ 255) : (span (zl [t, 130, x]) ([t, 130, x] : List Int).length 0).2.2 = 1 := by
  have h := span_at (zl [t, 130, x]) 3 0 (by omega)
  have z1 : zl [t, 130, x] (0 + 1) = 130 := rfl
  rw [z1, if_neg (by omega), if_neg (by omega), if_pos rfl, if_pos (by omega)] at h
  show (span (zl [t, 130, x]) 3 (0 : Nat)).2.2 = 1
  rw [h]

set_option maxRecDepth 100000 in
set_option maxHeartbeats 16000000 in
theorem walk (a : Option Addr) (n c : Nat) (q : Quads) (bro : Bool) (tail t x : Int) (w : World) (hl : n ≤ c) (hc : c ≤ 9223372036854775807) (_hn : a = none → n = 0 ∧ c = 0) (hz : QuadsOk n q ∧ QuadsAt w a n q) (htl : 0 ≤ tail ∧ tail ≤ 255) (ht : 0 ≤ t ∧ t ≤ 255) (hx : 0 ≤ x ∧ x ≤ 255) :
    Calls Ycom.prog 10 #[.slice a n c, .bool bro, .int .u8 tail, .int .u8 t, .int .u8 x] w fun e w' => e = .returned (.bool true) ∧ Below w.heap.size w w' := by
  obtain ⟨hok, ha⟩ := hz
  by_cases hbig : 256 < n
  · clear ha hok _hn
    go_enter Ycom.func10, Ycom.ntmps10
    go_wp2
    go_ret
    exact ⟨rfl, Below.refl _ _⟩
  have HA : Hid (QuadsAt w a n q) := ha
  have HK : Hid (QuadsOk n q) := hok
  clear ha hok _hn
  have hq := eqlR_nil
  go_enter Ycom.func10, Ycom.ntmps10
  go_wp2
  go_loopw [11, 12] (fun bv iv wr => ∃ (k : Nat) (ao : Option Addr) (N cap : Nat), k ≤ n ∧ iv = .int .i64 k ∧ bv = .slice ao N cap ∧ N ≤ 1283 * k ∧ Hid (OwnB wr w.heap.size (.slice ao N cap) (encs (rsOf q.T (Vc q) k))) ∧ Hid (Below w.heap.size w wr)) (fun _ iv _ => n - (intOf iv).toNat)
  case atStart => exact ⟨0, _, 0, 0, Nat.zero_le _, rfl, rfl, Nat.le_refl _, OwnB.empty w _ (Nat.le_refl _), (Below.refl _ _).alloc (Nat.le_refl _) _⟩
  case round =>
    obtain ⟨k, ao, N, cap, hk, rfl, rfl, hN, HO, HB⟩ := hrel
    by_cases hlt : k < n
    · obtain ⟨ab, off, rfl, hS⟩ := HA.out (by omega)
      obtain ⟨h0, h1, h2, h3⟩ := hS k hlt
      have t0 : wr.cell? ⟨ab, off + k * 4, none⟩ = some (.int .u8 (q.T k)) := (HB.out.cell (World.block_lt_of_cell? _ _ h0)).trans h0
      have t1 : wr.cell? ⟨ab, off + k * 4 + 1, none⟩ = some (.int .u8 (q.F k)) := (HB.out.cell (World.block_lt_of_cell? _ _ h1)).trans h1
      have t2 : wr.cell? ⟨ab, off + k * 4 + 2, none⟩ = some (.int .u16 (q.N k)) := (HB.out.cell (World.block_lt_of_cell? _ _ h2)).trans h2
      have t3 : wr.cell? ⟨ab, off + k * 4 + 3, none⟩ = some (.int .u8 (q.X k)) := (HB.out.cell (World.block_lt_of_cell? _ _ h3)).trans h3
      obtain ⟨b0, b1, b2, b3⟩ := HK.out k hlt
      obtain ⟨m, hm⟩ : ∃ m, m = sz q k := ⟨_, rfl⟩
      have hm1 : m ≤ 1279 := by rw [hm]; exact szN_le _ _
      have HCS : Hid (Calls Ycom.prog 28 #[.agg #[.int .u8 (q.T k), .int .u8 (q.F k), .int .u16 (q.N k), .int .u8 (q.X k)]] wr fun e w' => e = .returned (.int .i64 (m : Int)) ∧ Below wr.heap.size wr w') := by
        rw [hm]
        exact csize_calls _ _ _ _ wr b1 b2
      have HMS : Hid (encs (rsOf q.T (Vc q) (k + 1)) = encs (rsOf q.T (Vc q) k) ++ [q.T k] ++ lenF m ++ fills (q.X k) m) := by rw [hm]; exact msg_succ q k
      have HC0 : Hid (w.cell? ⟨ab, off + k * 4, none⟩ = some (.int .u8 (q.T k))) := h0
      have HC3 : Hid (w.cell? ⟨ab, off + k * 4 + 3, none⟩ = some (.int .u8 (q.X k))) := h3
      have hsz := HB.out.size
      clear hS h0 h1 h2 h3 hm
      have hcase : 256 ≤ m ∨ (128 ≤ m ∧ m < 256) ∨ m < 128 := by omega
      rcases hcase with h256 | h128 | h127
      focus
        have hi256 : (256 : Int) ≤ (m : Int) := by omega
        have HLF : Hid (lenF m = [130, (m : Int) / 256, (m : Int) % 256]) := by show _ = _; unfold lenF; rw [if_neg (by omega), if_neg (by omega)]
        go_wp2_with (first
          | (at_builtin; refine wpList_appB _ rfl (.tmp 48) (.tmp 55) rfl w.heap.size _ (N + 1) cap2 _ rfl (HO2.out.alloc _) _ 3 3 rfl [130, (m : Int) / 256, (m : Int) % 256] rfl (listAt_new _ [130, (m : Int) / 256, (m : Int) % 256] _) (by simp) (by omega) (Nat.le_trans hs2 (by simp)) ?_; intro ao3 cap3 w3 hown hg hb hne hp; obtain ⟨M, hM⟩ : ∃ M, M = N + 1 + 3 := ⟨_, rfl⟩; rw [← hM] at hown ⊢; have HO3 : Hid (OwnB w3 w.heap.size (.slice ao3 M cap3) (encs (rsOf q.T (Vc q) k) ++ [q.T k] ++ lenF m)) := (by rw [HLF.out]; exact hown); have HB3 : Hid (Below w.heap.size w w3) := (HB2.out.alloc HB2.out.size _).trans hb; have hMN : M ≤ N + 4 := (by omega); clear hown hg hb hne hp hM)
          | (at_builtin; refine wpList_appB _ rfl (.tmp 38) (.tmp 44) rfl w.heap.size ao N cap _ rfl (HO1.out.alloc _) _ 1 1 rfl [q.T k] rfl (listAt_new _ [q.T k] _) (by simp) (by omega) (Nat.le_trans hs1 (by simp)) ?_; intro ao2 cap2 w2 hown hg hb hne hp; have HO2 : Hid (OwnB w2 w.heap.size (.slice ao2 (N + 1) cap2) (encs (rsOf q.T (Vc q) k) ++ [q.T k])) := hown; have HB2 : Hid (Below w.heap.size w w2) := (HB1.out.alloc HB1.out.size _).trans hb; have hs2 := HB2.out.size; clear hown hg hb hne hp)
          | (go_at_call 28; refine HCS.out.mono ?_; rintro e w1 ⟨rfl, hb1⟩; have HO1 : Hid (OwnB w1 w.heap.size (.slice ao N cap) (encs (rsOf q.T (Vc q) k))) := HO.out.below hb1 (Nat.le_refl _); have HB1 : Hid (Below w.heap.size w w1) := HB.out.trans (hb1.mono hsz); have u0 : w1.cell? ⟨ab, off + k * 4, none⟩ = some (.int .u8 (q.T k)) := (HB1.out.cell (World.block_lt_of_cell? _ _ HC0.out)).trans HC0.out; have hs1 := HB1.out.size; clear hb1))
      rotate_left
      focus
        have hi256 : ¬ (256 : Int) ≤ (m : Int) := by omega
        have hi128 : (128 : Int) ≤ (m : Int) := by omega
        have HLF : Hid (lenF m = [129, (m : Int)]) := by show _ = _; unfold lenF; rw [if_neg (by omega), if_pos (by omega)]
        go_wp2_with (first
          | (at_builtin; refine wpList_appB _ rfl (.tmp 59) (.tmp 62) rfl w.heap.size _ (N + 1) cap2 _ rfl (HO2.out.alloc _) _ 2 2 rfl [129, (m : Int)] rfl (listAt_new _ [129, (m : Int)] _) (by simp) (by omega) (Nat.le_trans hs2 (by simp)) ?_; intro ao3 cap3 w3 hown hg hb hne hp; obtain ⟨M, hM⟩ : ∃ M, M = N + 1 + 2 := ⟨_, rfl⟩; rw [← hM] at hown ⊢; have HO3 : Hid (OwnB w3 w.heap.size (.slice ao3 M cap3) (encs (rsOf q.T (Vc q) k) ++ [q.T k] ++ lenF m)) := (by rw [HLF.out]; exact hown); have HB3 : Hid (Below w.heap.size w w3) := (HB2.out.alloc HB2.out.size _).trans hb; have hMN : M ≤ N + 4 := (by omega); clear hown hg hb hne hp hM)
          | (at_builtin; refine wpList_appB _ rfl (.tmp 38) (.tmp 44) rfl w.heap.size ao N cap _ rfl (HO1.out.alloc _) _ 1 1 rfl [q.T k] rfl (listAt_new _ [q.T k] _) (by simp) (by omega) (Nat.le_trans hs1 (by simp)) ?_; intro ao2 cap2 w2 hown hg hb hne hp; have HO2 : Hid (OwnB w2 w.heap.size (.slice ao2 (N + 1) cap2) (encs (rsOf q.T (Vc q) k) ++ [q.T k])) := hown; have HB2 : Hid (Below w.heap.size w w2) := (HB1.out.alloc HB1.out.size _).trans hb; have hs2 := HB2.out.size; clear hown hg hb hne hp)
          | (go_at_call 28; refine HCS.out.mono ?_; rintro e w1 ⟨rfl, hb1⟩; have HO1 : Hid (OwnB w1 w.heap.size (.slice ao N cap) (encs (rsOf q.T (Vc q) k))) := HO.out.below hb1 (Nat.le_refl _); have HB1 : Hid (Below w.heap.size w w1) := HB.out.trans (hb1.mono hsz); have u0 : w1.cell? ⟨ab, off + k * 4, none⟩ = some (.int .u8 (q.T k)) := (HB1.out.cell (World.block_lt_of_cell? _ _ HC0.out)).trans HC0.out; have hs1 := HB1.out.size; clear hb1))
      rotate_left
      focus
        have hi256 : ¬ (256 : Int) ≤ (m : Int) := by omega
        have hi128 : ¬ (128 : Int) ≤ (m : Int) := by omega
        have HLF : Hid (lenF m = [(m : Int)]) := by show _ = _; unfold lenF; rw [if_pos (by omega)]
        go_wp2_with (first
          | (at_builtin; refine wpList_appB _ rfl (.tmp 64) (.tmp 67) rfl w.heap.size _ (N + 1) cap2 _ rfl (HO2.out.alloc _) _ 1 1 rfl [(m : Int)] rfl (listAt_new _ [(m : Int)] _) (by simp) (by omega) (Nat.le_trans hs2 (by simp)) ?_; intro ao3 cap3 w3 hown hg hb hne hp; obtain ⟨M, hM⟩ : ∃ M, M = N + 1 + 1 := ⟨_, rfl⟩; rw [← hM] at hown ⊢; have HO3 : Hid (OwnB w3 w.heap.size (.slice ao3 M cap3) (encs (rsOf q.T (Vc q) k) ++ [q.T k] ++ lenF m)) := (by rw [HLF.out]; exact hown); have HB3 : Hid (Below w.heap.size w w3) := (HB2.out.alloc HB2.out.size _).trans hb; have hMN : M ≤ N + 4 := (by omega); clear hown hg hb hne hp hM)
          | (at_builtin; refine wpList_appB _ rfl (.tmp 38) (.tmp 44) rfl w.heap.size ao N cap _ rfl (HO1.out.alloc _) _ 1 1 rfl [q.T k] rfl (listAt_new _ [q.T k] _) (by simp) (by omega) (Nat.le_trans hs1 (by simp)) ?_; intro ao2 cap2 w2 hown hg hb hne hp; have HO2 : Hid (OwnB w2 w.heap.size (.slice ao2 (N + 1) cap2) (encs (rsOf q.T (Vc q) k) ++ [q.T k])) := hown; have HB2 : Hid (Below w.heap.size w w2) := (HB1.out.alloc HB1.out.size _).trans hb; have hs2 := HB2.out.size; clear hown hg hb hne hp)
          | (go_at_call 28; refine HCS.out.mono ?_; rintro e w1 ⟨rfl, hb1⟩; have HO1 : Hid (OwnB w1 w.heap.size (.slice ao N cap) (encs (rsOf q.T (Vc q) k))) := HO.out.below hb1 (Nat.le_refl _); have HB1 : Hid (Below w.heap.size w w1) := HB.out.trans (hb1.mono hsz); have u0 : w1.cell? ⟨ab, off + k * 4, none⟩ = some (.int .u8 (q.T k)) := (HB1.out.cell (World.block_lt_of_cell? _ _ HC0.out)).trans HC0.out; have hs1 := HB1.out.size; clear hb1))
      all_goals
        obtain ⟨P, hP⟩ : ∃ P, P = encs (rsOf q.T (Vc q) k) ++ [q.T k] ++ lenF m := ⟨_, rfl⟩
        rw [← hP] at HO3 HMS
        clear HO HO1 HO2 HB1 HB2 HCS HLF hP t0 t1 t2 t3 u0 HB
        go_loopw [11, 14] (fun bv jv wq => ∃ (j : Nat) (ao : Option Addr) (N' cap : Nat), j ≤ m ∧ jv = .int .i64 j ∧ bv = .slice ao N' cap ∧ N' ≤ M + j ∧ Hid (OwnB wq w.heap.size (.slice ao N' cap) (P ++ fills (q.X k) j)) ∧ Hid (Below w.heap.size w wq)) (fun _ jv _ => m - (intOf jv).toNat)
        case atStart => exact ⟨0, _, M, _, Nat.zero_le _, rfl, rfl, Nat.le_refl _, by (show OwnB _ _ _ _; simpa [fills] using HO3.out), HB3.out⟩
        case round =>
          clear HO3 HB3
          obtain ⟨j, ao4, N4, cap4, hj, rfl, rfl, hN4, HO, HB⟩ := hrel
          by_cases hjm : j < m
          · have hs4 := HB.out.size
            have t3 : wr.cell? ⟨ab, off + k * 4 + 3, none⟩ = some (.int .u8 (q.X k)) := (HB.out.cell (World.block_lt_of_cell? _ _ HC3.out)).trans HC3.out
            have hji : (j : Int) < (m : Int) := by omega
            go_wp2_with (at_builtin; refine wpList_appB _ rfl (.tmp 74) (.tmp 84) rfl w.heap.size _ N4 cap4 _ rfl (HO.out.alloc _) _ 1 1 rfl [(q.X k + (j : Int)) % 256] rfl (listAt_new _ [(q.X k + (j : Int)) % 256] _) (by simp) (by omega) (Nat.le_trans hs4 (by simp)) ?_; intro ao5 cap5 w5 hown hg hb hne hp; have HO5 : Hid (OwnB w5 w.heap.size (.slice ao5 (N4 + 1) cap5) (P ++ fills (q.X k) (j + 1))) := (by rw [fills_succ, ← List.append_assoc]; exact hown); have HB5 : Hid (Below w.heap.size w w5) := (HB.out.alloc HB.out.size _).trans hb; clear hown hg hb hne hp)
            go_roundw
            case rel => exact ⟨j + 1, ao5, N4 + 1, cap5, by omega, by go_num, rfl, by omega, HO5.out, HB5.out⟩
            case measure => simp [intOf] <;> omega
          · obtain rfl : m = j := by omega
            go_wp2
            go_roundw
            case rel => exact ⟨k + 1, ao4, N4, cap4, by omega, by go_num, rfl, by omega, by rw [HMS.out]; exact HO.out, HB.out⟩
            case measure => simp [intOf] <;> omega
    · obtain rfl : n = k := by omega
      have hlen := HO.out.len
      obtain ⟨_, _, hshape, hcap1, hcap2, _⟩ := HO.out.shape
      simp only [Value.slice.injEq] at hshape
      obtain ⟨hs1, hs2, rfl⟩ := hshape
      clear hs1 hs2
      rw [hlen] at hcap1
      have hNi : (N : Int) ≤ 328448 := by omega
      have hsz := HB.out.size
      cases bro with
      | true =>
        have hcase : tail % 7 = 0 ∨ tail % 7 = 1 ∨ tail % 7 = 2 ∨ tail % 7 = 3 ∨ tail % 7 = 4 ∨ tail % 7 = 5 ∨ tail % 7 = 6 := by omega
        rcases hcase with h7 | h7 | h7 | h7 | h7 | h7 | h7
        · go_wp2_with (first
            | (go_at_call 25; refine HF.out.mono ?_; rintro e w4 ⟨rfl, hb4⟩; have HB4 : Hid (Below w.heap.size w w4) := HB3.out.trans (hb4.mono HB3.out.size); clear hb4)
            | (at_builtin; refine wpList_appB _ rfl (.tmp 91) (.tmp 93) rfl w.heap.size _ N cap _ rfl (HO.out.alloc _) _ 1 1 rfl [t] rfl (listAt_new _ [t] _) (by simp) (by omega) (Nat.le_trans hsz (by simp)) ?_; intro ao3 cap3 w3 hown hg hb hne hp; have HF : Hid (Calls Ycom.prog 25 #[.slice ao3 (N + 1) cap3] w3 fun e w'' => e = .returned (.tuple #[.slice none 0 0, .int .i64 1]) ∧ Below w3.heap.size w3 w'') := fault_calls HK.out [t] 1 w3 w.heap.size ao3 (N + 1) cap3 hown (by omega) (by intro y hy; simp at hy; omega) (by simp) (by omega) (tail0 t x hx); have HB3 : Hid (Below w.heap.size w w3) := (HB.out.alloc HB.out.size _).trans hb; clear hown hg hb hne hp))
          go_ret
          exact ⟨rfl, HB4.out⟩
        · go_wp2_with (first
            | (go_at_call 25; refine HF.out.mono ?_; rintro e w4 ⟨rfl, hb4⟩; have HB4 : Hid (Below w.heap.size w w4) := HB3.out.trans (hb4.mono HB3.out.size); clear hb4)
            | (at_builtin; refine wpList_appB _ rfl (.tmp 97) (.tmp 102) rfl w.heap.size _ N cap _ rfl (HO.out.alloc _) _ 2 2 rfl [t, 131 + x % 125] rfl (listAt_new _ [t, 131 + x % 125] _) (by simp) (by omega) (Nat.le_trans hsz (by simp)) ?_; intro ao3 cap3 w3 hown hg hb hne hp; have HF : Hid (Calls Ycom.prog 25 #[.slice ao3 (N + 2) cap3] w3 fun e w'' => e = .returned (.tuple #[.slice none 0 0, .int .i64 2]) ∧ Below w3.heap.size w3 w'') := fault_calls HK.out [t, 131 + x % 125] 2 w3 w.heap.size ao3 (N + 2) cap3 hown (by omega) (by intro y hy; simp at hy; omega) (by simp) (by omega) (tail1 t x hx); have HB3 : Hid (Below w.heap.size w w3) := (HB.out.alloc HB.out.size _).trans hb; clear hown hg hb hne hp))
          go_ret
          exact ⟨rfl, HB4.out⟩
        · go_wp2_with (first
            | (go_at_call 25; refine HF.out.mono ?_; rintro e w4 ⟨rfl, hb4⟩; have HB4 : Hid (Below w.heap.size w w4) := HB3.out.trans (hb4.mono HB3.out.size); clear hb4)
            | (at_builtin; refine wpList_appB _ rfl (.tmp 106) (.tmp 110) rfl w.heap.size _ N cap _ rfl (HO.out.alloc _) _ 3 3 rfl [t, 129, x % 128] rfl (listAt_new _ [t, 129, x % 128] _) (by simp) (by omega) (Nat.le_trans hsz (by simp)) ?_; intro ao3 cap3 w3 hown hg hb hne hp; have HF : Hid (Calls Ycom.prog 25 #[.slice ao3 (N + 3) cap3] w3 fun e w'' => e = .returned (.tuple #[.slice none 0 0, .int .i64 2]) ∧ Below w3.heap.size w3 w'') := fault_calls HK.out [t, 129, x % 128] 2 w3 w.heap.size ao3 (N + 3) cap3 hown (by omega) (by intro y hy; simp at hy; omega) (by simp) (by omega) (tail2 t x hx); have HB3 : Hid (Below w.heap.size w w3) := (HB.out.alloc HB.out.size _).trans hb; clear hown hg hb hne hp))
          go_ret
          exact ⟨rfl, HB4.out⟩
        · go_wp2_with (first
            | (go_at_call 25; refine HF.out.mono ?_; rintro e w4 ⟨rfl, hb4⟩; have HB4 : Hid (Below w.heap.size w w4) := HB3.out.trans (hb4.mono HB3.out.size); clear hb4)
            | (at_builtin; refine wpList_appB _ rfl (.tmp 114) (.tmp 117) rfl w.heap.size _ N cap _ rfl (HO.out.alloc _) _ 4 4 rfl [t, 130, 0, x] rfl (listAt_new _ [t, 130, 0, x] _) (by simp) (by omega) (Nat.le_trans hsz (by simp)) ?_; intro ao3 cap3 w3 hown hg hb hne hp; have HF : Hid (Calls Ycom.prog 25 #[.slice ao3 (N + 4) cap3] w3 fun e w'' => e = .returned (.tuple #[.slice none 0 0, .int .i64 2]) ∧ Below w3.heap.size w3 w'') := fault_calls HK.out [t, 130, 0, x] 2 w3 w.heap.size ao3 (N + 4) cap3 hown (by omega) (by intro y hy; simp at hy; omega) (by simp) (by omega) (tail3 t x hx); have HB3 : Hid (Below w.heap.size w w3) := (HB.out.alloc HB.out.size _).trans hb; clear hown hg hb hne hp))
          go_ret
          exact ⟨rfl, HB4.out⟩
        · go_wp2_with (first
            | (go_at_call 25; refine HF.out.mono ?_; rintro e w4 ⟨rfl, hb4⟩; have HB4 : Hid (Below w.heap.size w w4) := HB3.out.trans (hb4.mono HB3.out.size); clear hb4)
            | (at_builtin; refine wpList_appB _ rfl (.tmp 121) (.tmp 126) rfl w.heap.size _ N cap _ rfl (HO.out.alloc _) _ 2 2 rfl [t, 1 + x % 127] rfl (listAt_new _ [t, 1 + x % 127] _) (by simp) (by omega) (Nat.le_trans hsz (by simp)) ?_; intro ao3 cap3 w3 hown hg hb hne hp; have HF : Hid (Calls Ycom.prog 25 #[.slice ao3 (N + 2) cap3] w3 fun e w'' => e = .returned (.tuple #[.slice none 0 0, .int .i64 1]) ∧ Below w3.heap.size w3 w'') := fault_calls HK.out [t, 1 + x % 127] 1 w3 w.heap.size ao3 (N + 2) cap3 hown (by omega) (by intro y hy; simp at hy; omega) (by simp) (by omega) (tail4 t x hx); have HB3 : Hid (Below w.heap.size w w3) := (HB.out.alloc HB.out.size _).trans hb; clear hown hg hb hne hp))
          go_ret
          exact ⟨rfl, HB4.out⟩
        · go_wp2_with (first
            | (go_at_call 25; refine HF.out.mono ?_; rintro e w4 ⟨rfl, hb4⟩; have HB4 : Hid (Below w.heap.size w w4) := HB3.out.trans (hb4.mono HB3.out.size); clear hb4)
            | (at_builtin; refine wpList_appB _ rfl (.tmp 130) (.tmp 132) rfl w.heap.size _ N cap _ rfl (HO.out.alloc _) _ 2 2 rfl [t, 129] rfl (listAt_new _ [t, 129] _) (by simp) (by omega) (Nat.le_trans hsz (by simp)) ?_; intro ao3 cap3 w3 hown hg hb hne hp; have HF : Hid (Calls Ycom.prog 25 #[.slice ao3 (N + 2) cap3] w3 fun e w'' => e = .returned (.tuple #[.slice none 0 0, .int .i64 1]) ∧ Below w3.heap.size w3 w'') := fault_calls HK.out [t, 129] 1 w3 w.heap.size ao3 (N + 2) cap3 hown (by omega) (by intro y hy; simp at hy; omega) (by simp) (by omega) (tail5 t x hx); have HB3 : Hid (Below w.heap.size w w3) := (HB.out.alloc HB.out.size _).trans hb; clear hown hg hb hne hp))
          go_ret
          exact ⟨rfl, HB4.out⟩
        · go_wp2_with (first
            | (go_at_call 25; refine HF.out.mono ?_; rintro e w4 ⟨rfl, hb4⟩; have HB4 : Hid (Below w.heap.size w w4) := HB3.out.trans (hb4.mono HB3.out.size); clear hb4)
            | (at_builtin; refine wpList_appB _ rfl (.tmp 136) (.tmp 139) rfl w.heap.size _ N cap _ rfl (HO.out.alloc _) _ 3 3 rfl [t, 130, x] rfl (listAt_new _ [t, 130, x] _) (by simp) (by omega) (Nat.le_trans hsz (by simp)) ?_; intro ao3 cap3 w3 hown hg hb hne hp; have HF : Hid (Calls Ycom.prog 25 #[.slice ao3 (N + 3) cap3] w3 fun e w'' => e = .returned (.tuple #[.slice none 0 0, .int .i64 1]) ∧ Below w3.heap.size w3 w'') := fault_calls HK.out [t, 130, x] 1 w3 w.heap.size ao3 (N + 3) cap3 hown (by omega) (by intro y hy; simp at hy; omega) (by simp) (by omega) (tail6 t x hx); have HB3 : Hid (Below w.heap.size w w3) := (HB.out.alloc HB.out.size _).trans hb; clear hown hg hb hne hp))
          go_ret
          exact ⟨rfl, HB4.out⟩
      | false =>
        have hbytes : BytesAt wr ao N (zl (encs (rsOf q.T (Vc q) n))) := by
          have h := HO.out.bytes
          rw [hlen] at h
          exact h
        have HDC : Hid (Calls Ycom.prog 25 #[.slice ao N cap] wr fun e w' => Hid (∃ g G f, e = .returned (.tuple #[.slice (some ⟨g, 0, none⟩) n n, .int .i64 0]) ∧ DecL w' wr.heap.size g n q.T (Vc q) G f) ∧ Below wr.heap.size wr w') := decode_good ao N cap n q.T (Vc q) wr hlen.symm hcap1 hcap2 (by omega) (fun i hi => V_ok HK.out i hi) hbytes
        clear hlen hbytes
        obtain ⟨wo, rfl⟩ : ∃ wo, wo = wr := ⟨wr, rfl⟩
        go_wp2_with fail
        refine HDC.out.mono ?_
        rintro e w2 ⟨hid, hb2⟩
        obtain ⟨g, G, f, rfl, hdec⟩ := hid.out
        have HD : Hid (DecL w2 wo.heap.size g n q.T (Vc q) G f) := hdec
        have HB2 : Hid (Below w.heap.size w w2) := HB.out.trans (hb2.mono hsz)
        clear hdec hb2 hid HDC HO
        go_wp2
        go_loopw [20] (fun iv wr => ∃ k : Nat, k ≤ n ∧ iv = .int .i64 k ∧ Hid (Below w2.heap.size w2 wr)) (fun iv _ => n - (intOf iv).toNat)
        case atStart => exact ⟨0, Nat.zero_le _, rfl, Below.refl _ _⟩
        case round =>
          obtain ⟨k, hk, rfl, HBR⟩ := hrel
          by_cases hlt : k < n
          · obtain ⟨ab, off, rfl, hS⟩ := HA.out (by omega)
            obtain ⟨h0, h1, h2, h3⟩ := hS k hlt
            have HBW : Hid (Below w.heap.size w wr) := HB2.out.trans (HBR.out.mono HB2.out.size)
            have t0 : wr.cell? ⟨ab, off + k * 4, none⟩ = some (.int .u8 (q.T k)) := (HBW.out.cell (World.block_lt_of_cell? _ _ h0)).trans h0
            have t1 : wr.cell? ⟨ab, off + k * 4 + 1, none⟩ = some (.int .u8 (q.F k)) := (HBW.out.cell (World.block_lt_of_cell? _ _ h1)).trans h1
            have t2 : wr.cell? ⟨ab, off + k * 4 + 2, none⟩ = some (.int .u16 (q.N k)) := (HBW.out.cell (World.block_lt_of_cell? _ _ h2)).trans h2
            have t3 : wr.cell? ⟨ab, off + k * 4 + 3, none⟩ = some (.int .u8 (q.X k)) := (HBW.out.cell (World.block_lt_of_cell? _ _ h3)).trans h3
            obtain ⟨b0, b1, b2, b3⟩ := HK.out k hlt
            obtain ⟨m, hm⟩ : ∃ m, m = sz q k := ⟨_, rfl⟩
            have hm1 : m ≤ 1279 := by rw [hm]; exact szN_le _ _
            have hVl : (Vc q k).length = m := by unfold Vc; rw [fills_len, hm]
            have HCS : Hid (Calls Ycom.prog 28 #[.agg #[.int .u8 (q.T k), .int .u8 (q.F k), .int .u16 (q.N k), .int .u8 (q.X k)]] wr fun e w' => e = .returned (.int .i64 (m : Int)) ∧ Hid (Below w2.heap.size w2 w') ∧ w'.cell? ⟨ab, off + k * 4, none⟩ = some (.int .u8 (q.T k)) ∧ w'.cell? ⟨ab, off + k * 4 + 3, none⟩ = some (.int .u8 (q.X k)) ∧ w'.cell? ⟨g, k * 2, none⟩ = some (.int .u8 (q.T k)) ∧ w'.cell? ⟨g, k * 2 + 1, none⟩ = some (.slice (some ⟨G k, 0, none⟩) m m) ∧ Hid (∀ j, j < m → w'.cell? ⟨G k, j, none⟩ = some (.int .u8 ((q.X k + (j : Int)) % 256)))) := by
              have hc := csize_calls (q.T k) (q.F k) (q.N k) (q.X k) wr b1 b2
              rw [show szN (q.F k) (q.N k) = m from hm.symm] at hc
              refine hc.mono ?_
              rintro e w' ⟨rfl, hb⟩
              have hb2 : Below w2.heap.size w2 w' := HBR.out.trans (hb.mono HBR.out.size)
              have hbw : Below w.heap.size w w' := HB2.out.trans (hb2.mono HB2.out.size)
              have hrow := rowIs_below HD.out.row hb2 HD.out.row.lt
              have hbyt := rowIs_below (HD.out.bytes k hlt) hb2 (HD.out.bytes k hlt).lt
              refine ⟨rfl, hb2, (hbw.cell (World.block_lt_of_cell? _ _ h0)).trans h0, (hbw.cell (World.block_lt_of_cell? _ _ h3)).trans h3, ?_, ?_, fun j hj => ?_⟩
              · rw [hrow.cell (by omega), HD.out.type k hlt]
              · rw [hrow.cell (by omega), HD.out.value k hlt, hVl]
              · rw [hbyt.cell (by rw [hVl]; exact hj)]
                unfold Vc
                rw [← hm, fills_getD _ _ _ hj]
                rfl
            clear hS h0 h1 h2 h3 hm hVl
            go_wp2_with (go_at_call 28; refine HCS.out.mono ?_; rintro e w3 ⟨rfl, HB3, y0, y3, z0, z1, HZ⟩)
            clear t0 t1 t2 t3
            go_quiet (fail)
            go_wp2
            go_loopw [22] (fun jv wq => ∃ j d : Nat, j ≤ m ∧ jv = .int .i64 j ∧ wq = w3.drewN d) (fun jv _ => m - (intOf jv).toNat)
            case atStart => exact ⟨0, nq, Nat.zero_le _, rfl, rfl⟩
            case round =>
              obtain ⟨j, d, hj, rfl, rfl⟩ := hrel
              by_cases hjm : j < m
              · have hji : (j : Int) < (m : Int) := by omega
                have x0 := HZ.out j hjm
                go_wp2
                go_quiet (fail)
                go_wp2
                go_roundw
                case rel => exact ⟨j + 1, _, by omega, by go_num, rfl⟩
                case measure => simp [intOf] <;> omega
              · obtain rfl : m = j := by omega
                go_wp2
                go_roundw
                case rel => exact ⟨k + 1, by omega, by go_num, HB3.out.trans ((below_drewN w3 d).mono HB3.out.size)⟩
                case measure => simp [intOf] <;> omega
          · obtain rfl : n = k := by omega
            have HBW : Hid (Below w.heap.size w wr) := HB2.out.trans (HBR.out.mono HB2.out.size)
            go_wp2
            go_ret
            exact ⟨rfl, HBW.out⟩
end Go.Proofs.Ymbrco.lawS930003CRound
