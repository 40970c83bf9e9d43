/-
  Ymbrcq: the walk of 'LawS930003KBuilt'.
-/
import Derived.Test.YmbrcqKRecord
namespace Go.Proofs.Ymbrcq.lawS930003KBuilt
open Go.ChangeShapes Go.WideShapes Go.ChangeAt Go.RowKit Go.Proofs.Ymbrcq
set_option linter.unusedVariables false

theorem Ycqm.cells48 : Ycqm.prog.cellsOf 48 = 1 := by kernel_rfl

/-- A slice of uint16 that came in. -/
theorem open_u16s {H : Type} {enc : TypeId × Value → H} {W : World} {a : Option Addr} {len cap : Nat} {x : DataW H × List MemPlace} {fuel : Nat}
    (h : DataW.trod enc Ycqm.prog W 0 (fun _ => true) true fuel 46 [.slice a len cap] = some x) :
    len ≤ cap ∧ cap ≤ 9223372036854775807 ∧ (a = none → len = 0 ∧ cap = 0) ∧ ∃ z : Nat → Nat, (∀ i, (z i : Int) ≤ 65535) ∧ (0 < len → ∃ b off, a = some ⟨b, off, none⟩ ∧ ∀ i, i < len → W.cell? ⟨b, off + i, none⟩ = some (.int .u16 (z i))) := by
  rcases open_ints Ycqm.underlying46 Ycqm.underlying48 Ycqm.cells48 h with ⟨hcs, _⟩ | ⟨ad, l, c, zs, hcs, _, hl, hm, hz, _, hcell, hwz⟩
  · simp at hcs
    obtain ⟨rfl, rfl, rfl⟩ := hcs
    exact ⟨Nat.le_refl _, by omega, fun _ => ⟨rfl, rfl⟩, fun _ => 0, fun _ => by simp, fun hn => absurd hn (Nat.lt_irrefl _)⟩
  · simp at hcs
    obtain ⟨rfl, rfl, rfl⟩ := hcs
    unfold maxLen at hm
    simp only [if_true] at hz
    have hb : ∀ i, 0 ≤ zs.getD i 0 ∧ zs.getD i 0 ≤ 65535 := by
      intro i
      by_cases hi : i < zs.length
      · exact bounds_u16 (hwz (zs.getD i 0) (by simp [List.getD, hi]))
      · simp [List.getD, List.getElem?_eq_none (show zs.length ≤ i by omega)]
    refine ⟨hl, by omega, fun e => by simp at e, fun i => (zs.getD i 0).toNat, fun i => by have := hb i; dsimp only; omega, fun hn => ?_⟩
    obtain ⟨b, off, rfl, hc⟩ := ints_at hcell (by omega)
    refine ⟨b, off, rfl, fun i hi => ?_⟩
    rw [hc i (by omega)]
    have := hb i
    congr 2
    dsimp only
    omega

/-- The first k records. -/
def rs (z : Nat → Nat) (t f : Int) (k : Nat) : List (Int × List Int) := (List.range k).map fun i => (t, List.replicate (klen (z i)) f)
theorem rs_len (z : Nat → Nat) (t f : Int) (k : Nat) : (rs z t f k).length = k := by simp [rs]
theorem rs_succ (z : Nat → Nat) (t f : Int) (k : Nat) : encs (rs z t f (k + 1)) = encs (rs z t f k) ++ krec (z k) t f := by
  unfold rs
  rw [List.range_succ, List.map_append, encs_app]
  simp [encs, krec]
theorem rs_ok (z : Nat → Nat) (t f : Int) (k : Nat) : ∀ r ∈ rs z t f k, r.2.length ≤ 65535 := by
  intro r hr
  obtain ⟨i, _, rfl⟩ := List.mem_map.1 hr
  have := klen_le (z i)
  simp
  omega
theorem krec_len (v : Nat) (t f : Int) : (krec v t f).length ≤ 515 := by
  unfold krec
  rw [enc_wire]
  have := klen_le v
  simp
  repeat' split
  all_goals omega
theorem rs_bound (z : Nat → Nat) (t f : Int) (k : Nat) : (encs (rs z t f k)).length ≤ 515 * k := by
  induction k with
  | zero => simp [rs, encs]
  | succ k ih =>
    rw [rs_succ, List.length_append]
    have := krec_len (z k) t f
    omega
theorem rs_bytes (z : Nat → Nat) (t f : Int) (k : Nat) (ht : 0 ≤ t ∧ t ≤ 255) (hf : 0 ≤ f ∧ f ≤ 255) : AllB (encs (rs z t f k)) := by
  refine encs_bytes fun r hr => ?_
  have h := rs_ok z t f k r hr
  obtain ⟨i, _, rfl⟩ := List.mem_map.1 hr
  refine ⟨ht, ?_, h⟩
  intro x hx
  obtain rfl := (List.mem_replicate.1 hx).2
  exact hf

theorem code1 (t f : Int) : (span (zl [t]) ([t] : List Int).length 0).2.2 = 1 := by
  have := span_end (zl [t]) 1 0 (by omega) (by omega)
  simp only [Int.natCast_zero] at this
  show (span (zl [t]) 1 0).2.2 = 1
  rw [this]
theorem code2 (t f : Int) : (span (zl [t, 128]) ([t, 128] : List Int).length 0).2.2 = 2 := by
  have := span_at (zl [t, 128]) 2 0 (by omega)
  simp only [Int.natCast_zero, Nat.zero_add] at this
  show (span (zl [t, 128]) 2 0).2.2 = 2
  rw [this]
  simp [zl, List.getD]
theorem code3 (t f : Int) : (span (zl [t, 129]) ([t, 129] : List Int).length 0).2.2 = 1 := by
  have := span_at (zl [t, 129]) 2 0 (by omega)
  simp only [Int.natCast_zero, Nat.zero_add] at this
  show (span (zl [t, 129]) 2 0).2.2 = 1
  rw [this]
  simp [zl, List.getD]
theorem code4 (t f : Int) : (span (zl [t, 129, 127]) ([t, 129, 127] : List Int).length 0).2.2 = 2 := by
  have := span_at (zl [t, 129, 127]) 3 0 (by omega)
  simp only [Int.natCast_zero, Nat.zero_add] at this
  show (span (zl [t, 129, 127]) 3 0).2.2 = 2
  rw [this]
  simp [zl, List.getD]
theorem code5 (t f : Int) : (span (zl [t, 130, 1]) ([t, 130, 1] : List Int).length 0).2.2 = 1 := by
  have := span_at (zl [t, 130, 1]) 3 0 (by omega)
  simp only [Int.natCast_zero, Nat.zero_add] at this
  show (span (zl [t, 130, 1]) 3 0).2.2 = 1
  rw [this]
  simp [zl, List.getD]
theorem code6 (t f : Int) : (span (zl [t, 130, 0, 255]) ([t, 130, 0, 255] : List Int).length 0).2.2 = 2 := by
  have := span_at (zl [t, 130, 0, 255]) 4 0 (by omega)
  simp only [Int.natCast_zero, Nat.zero_add] at this
  show (span (zl [t, 130, 0, 255]) 4 0).2.2 = 2
  rw [this]
  simp [zl, List.getD]
theorem code7 (t f : Int) : (span (zl [t, 2, f]) ([t, 2, f] : List Int).length 0).2.2 = 1 := by
  have := span_at (zl [t, 2, f]) 3 0 (by omega)
  simp only [Int.natCast_zero, Nat.zero_add] at this
  show (span (zl [t, 2, f]) 3 0).2.2 = 1
  rw [this]
  simp [zl, List.getD]

set_option maxRecDepth 100000 in
set_option maxHeartbeats 8000000 in
theorem walk (a : Option Addr) (n c : Nat) (z : Nat → Nat) (t f tl : Int) (w : World) (hl : n ≤ c) (hc : c ≤ 9223372036854775807) (_hn : a = none → n = 0 ∧ c = 0)
    (hz : (∀ i, (z i : Int) ≤ 65535) ∧ (0 < n → ∃ b off, a = some ⟨b, off, none⟩ ∧ ∀ i, i < n → w.cell? ⟨b, off + i, none⟩ = some (.int .u16 (z i)))) (ht : 0 ≤ t ∧ t ≤ 255) (hf : 0 ≤ f ∧ f ≤ 255) (htl : 0 ≤ tl ∧ tl ≤ 255) :
    Calls Ycqm.prog 10 #[.slice a n c, .int .u8 t, .int .u8 f, .int .u8 tl] w fun e w' => e = .returned (.bool true) ∧ Below w.heap.size w w' := by
  by_cases hbig : 512 < n
  · clear hz _hn
    go_enter Ycqm.func10, Ycqm.ntmps10
    go_wp2
    go_ret
    exact ⟨rfl, Below.refl _ _⟩
  have HZ : Hid ((∀ i, (z i : Int) ≤ 65535) ∧ (0 < n → ∃ b off, a = some ⟨b, off, none⟩ ∧ ∀ i, i < n → w.cell? ⟨b, off + i, none⟩ = some (.int .u16 (z i)))) := hz
  clear hz _hn
  go_enter Ycqm.func10, Ycqm.ntmps10
  go_wp2
  go_loopw [9, 10] (fun b i wr => ∃ (k : Nat) (ao : Option Addr) (N cap : Nat), k ≤ n ∧ i = .int .i64 k ∧ b = .slice ao N cap ∧ Hid (OwnB wr w.heap.size (.slice ao N cap) (encs (rs z t f k))) ∧ Hid (Below w.heap.size w wr))
    (fun _ i _ => n - (intOf i).toNat)
  case atStart => exact ⟨0, some ⟨w.heap.size, 0, none⟩, 0, 0, Nat.zero_le _, rfl, rfl, OwnB.empty w w.heap.size (Nat.le_refl _), (Below.refl _ _).alloc (Nat.le_refl _) _⟩
  case round =>
    obtain ⟨k, ao, N, cap, hk, rfl, rfl, HO, HB⟩ := hrel
    have hN : (N : Int) ≤ 515 * k := by have h1 := HO.out.len; have h2 := rs_bound z t f k; omega
    have hsz := HB.out.size
    by_cases hlt : k < n
    · obtain ⟨b, off, rfl, hcell⟩ := HZ.out.2 (by omega)
      have c1 : wr.cell? ⟨b, off + k, none⟩ = some (.int .u16 (z k)) := (HB.out.cell (World.block_lt_of_cell? _ _ (hcell k hlt))).trans (hcell k hlt)
      have hzk := HZ.out.1 k
      clear hcell
      go_wp2_with fail
      refine (krec_calls ao N cap _ (z k) t f _ w.heap.size HO.out (by omega) hsz hzk ht hf).mono ?_
      rintro e w2 ⟨ao2, N2, cap2, rfl, hO2, hB2⟩
      have HO2 : Hid (OwnB w2 w.heap.size (.slice ao2 N2 cap2) (encs (rs z t f (k + 1)))) := by show OwnB _ _ _ _; rw [rs_succ]; exact hO2
      have HB2 : Hid (Below w.heap.size w w2) := HB.out.trans hB2
      clear hO2 hB2
      go_wp2
      go_roundw
      case rel => exact ⟨k + 1, ao2, N2, cap2, by omega, by go_num, rfl, HO2, HB2⟩
      case measure => simp [intOf] <;> omega
    · obtain rfl : k = n := by omega
      have hlen := HO.out.len
      have HLEN : Hid ((encs (rs z t f k)).length = N) := hlen
      clear hlen
      have HAB := rs_bytes z t f k ht hf
      have HAB' : Hid (AllB (encs (rs z t f k))) := HAB
      clear HAB
      obtain ⟨e, he, he7⟩ : ∃ e : Nat, tl % 8 = (e : Int) ∧ e ≤ 7 := ⟨(tl % 8).toNat, by omega, by omega⟩
      rcases (show e = 0 ∨ e = 1 ∨ e = 2 ∨ e = 3 ∨ e = 4 ∨ e = 5 ∨ e = 6 ∨ e = 7 by omega) with rfl | rfl | rfl | rfl | rfl | rfl | rfl | rfl
      · have HC : Hid (IsCheck (zl (encs (rs z t f k))) N k N 0) := by
          have h := check_encs (rs z t f k) [] 0 (rs_ok z t f k) (.inl ⟨rfl, rfl⟩)
          rw [List.append_nil, rs_len, HLEN.out] at h
          exact h
        have he' : tl % 8 = 0 := he
        clear he
        go_wp2_with fail
        refine (check_calls ao N cap (zl (encs (rs z t f k))) wr (by omega) (zl_byte HAB'.out) (by have h := HO.out.bytes; rw [HLEN.out] at h; exact h)).mono ?_
        rintro e w3 ⟨cnt, p, code, rfl, hck, d, rfl⟩
        obtain ⟨rfl, rfl, rfl⟩ := hck.uniq HC.out
        clear hck
        go_wp2
        go_ret
        exact ⟨ret_bool (by simp), HB.out.trans ((below_drewN wr d).mono hsz)⟩
      · have HC : Hid (IsCheck (zl (encs (rs z t f k) ++ [t])) (N + 1) k N 1) := by
          have h := check_encs (rs z t f k) [t] 1 (rs_ok z t f k) (.inr ⟨by simp, by omega, code_tail _ _ _ (code1 t f)⟩)
          rw [rs_len, HLEN.out, List.length_append, HLEN.out] at h
          exact h
        have HBY : Hid (AllB (encs (rs z t f k) ++ [t])) := HAB'.out.app (by intro x hx; simp at hx; omega)
        have he' : tl % 8 = 1 := he
        clear he
        go_wp2_with (at_builtin; refine wpList_appB _ rfl (.tmp 40) (.tmp 42) rfl w.heap.size ao N cap _ rfl (HO.out.alloc _) _ 1 1 rfl [t] rfl (listAt_new _ [t] _) (by simp) (by omega) (by simp; omega) ?_; intro ao2 cap2 w2 hown2 hg2 hb2 hne2 hp2; have HO2 : Hid (OwnB w2 w.heap.size (.slice ao2 (N + 1) cap2) (encs (rs z t f k) ++ [t])) := hown2; have HB2 : Hid (Below w.heap.size w w2) := (HB.out.alloc hsz _).trans hb2; clear hown2 hg2 hb2 hne2 hp2)
        have hlen2 := HO2.out.len
        refine (check_calls ao2 (N + 1) cap2 (zl (encs (rs z t f k) ++ [t])) w2 (by omega) (zl_byte HBY.out) (by have h := HO2.out.bytes; rw [hlen2] at h; exact h)).mono ?_
        rintro e w3 ⟨cnt, p, code, rfl, hck, d, rfl⟩
        obtain ⟨rfl, rfl, rfl⟩ := hck.uniq HC.out
        clear hck hlen2
        go_wp2
        go_ret
        exact ⟨ret_bool (by simp), HB2.out.trans ((below_drewN w2 d).mono HB2.out.size)⟩
      · have HC : Hid (IsCheck (zl (encs (rs z t f k) ++ [t, 128])) (N + 2) k N 2) := by
          have h := check_encs (rs z t f k) [t, 128] 2 (rs_ok z t f k) (.inr ⟨by simp, by omega, code_tail _ _ _ (code2 t f)⟩)
          rw [rs_len, HLEN.out, List.length_append, HLEN.out] at h
          exact h
        have HBY : Hid (AllB (encs (rs z t f k) ++ [t, 128])) := HAB'.out.app (by intro x hx; simp at hx; omega)
        have he' : tl % 8 = 2 := he
        clear he
        go_wp2_with (at_builtin; refine wpList_appB _ rfl (.tmp 46) (.tmp 48) rfl w.heap.size ao N cap _ rfl (HO.out.alloc _) _ 2 2 rfl [t, 128] rfl (listAt_new _ [t, 128] _) (by simp) (by omega) (by simp; omega) ?_; intro ao2 cap2 w2 hown2 hg2 hb2 hne2 hp2; have HO2 : Hid (OwnB w2 w.heap.size (.slice ao2 (N + 2) cap2) (encs (rs z t f k) ++ [t, 128])) := hown2; have HB2 : Hid (Below w.heap.size w w2) := (HB.out.alloc hsz _).trans hb2; clear hown2 hg2 hb2 hne2 hp2)
        have hlen2 := HO2.out.len
        refine (check_calls ao2 (N + 2) cap2 (zl (encs (rs z t f k) ++ [t, 128])) w2 (by omega) (zl_byte HBY.out) (by have h := HO2.out.bytes; rw [hlen2] at h; exact h)).mono ?_
        rintro e w3 ⟨cnt, p, code, rfl, hck, d, rfl⟩
        obtain ⟨rfl, rfl, rfl⟩ := hck.uniq HC.out
        clear hck hlen2
        go_wp2
        go_ret
        exact ⟨ret_bool (by simp), HB2.out.trans ((below_drewN w2 d).mono HB2.out.size)⟩
      · have HC : Hid (IsCheck (zl (encs (rs z t f k) ++ [t, 129])) (N + 2) k N 1) := by
          have h := check_encs (rs z t f k) [t, 129] 1 (rs_ok z t f k) (.inr ⟨by simp, by omega, code_tail _ _ _ (code3 t f)⟩)
          rw [rs_len, HLEN.out, List.length_append, HLEN.out] at h
          exact h
        have HBY : Hid (AllB (encs (rs z t f k) ++ [t, 129])) := HAB'.out.app (by intro x hx; simp at hx; omega)
        have he' : tl % 8 = 3 := he
        clear he
        go_wp2_with (at_builtin; refine wpList_appB _ rfl (.tmp 52) (.tmp 54) rfl w.heap.size ao N cap _ rfl (HO.out.alloc _) _ 2 2 rfl [t, 129] rfl (listAt_new _ [t, 129] _) (by simp) (by omega) (by simp; omega) ?_; intro ao2 cap2 w2 hown2 hg2 hb2 hne2 hp2; have HO2 : Hid (OwnB w2 w.heap.size (.slice ao2 (N + 2) cap2) (encs (rs z t f k) ++ [t, 129])) := hown2; have HB2 : Hid (Below w.heap.size w w2) := (HB.out.alloc hsz _).trans hb2; clear hown2 hg2 hb2 hne2 hp2)
        have hlen2 := HO2.out.len
        refine (check_calls ao2 (N + 2) cap2 (zl (encs (rs z t f k) ++ [t, 129])) w2 (by omega) (zl_byte HBY.out) (by have h := HO2.out.bytes; rw [hlen2] at h; exact h)).mono ?_
        rintro e w3 ⟨cnt, p, code, rfl, hck, d, rfl⟩
        obtain ⟨rfl, rfl, rfl⟩ := hck.uniq HC.out
        clear hck hlen2
        go_wp2
        go_ret
        exact ⟨ret_bool (by simp), HB2.out.trans ((below_drewN w2 d).mono HB2.out.size)⟩
      · have HC : Hid (IsCheck (zl (encs (rs z t f k) ++ [t, 129, 127])) (N + 3) k N 2) := by
          have h := check_encs (rs z t f k) [t, 129, 127] 2 (rs_ok z t f k) (.inr ⟨by simp, by omega, code_tail _ _ _ (code4 t f)⟩)
          rw [rs_len, HLEN.out, List.length_append, HLEN.out] at h
          exact h
        have HBY : Hid (AllB (encs (rs z t f k) ++ [t, 129, 127])) := HAB'.out.app (by intro x hx; simp at hx; omega)
        have he' : tl % 8 = 4 := he
        clear he
        go_wp2_with (at_builtin; refine wpList_appB _ rfl (.tmp 58) (.tmp 60) rfl w.heap.size ao N cap _ rfl (HO.out.alloc _) _ 3 3 rfl [t, 129, 127] rfl (listAt_new _ [t, 129, 127] _) (by simp) (by omega) (by simp; omega) ?_; intro ao2 cap2 w2 hown2 hg2 hb2 hne2 hp2; have HO2 : Hid (OwnB w2 w.heap.size (.slice ao2 (N + 3) cap2) (encs (rs z t f k) ++ [t, 129, 127])) := hown2; have HB2 : Hid (Below w.heap.size w w2) := (HB.out.alloc hsz _).trans hb2; clear hown2 hg2 hb2 hne2 hp2)
        have hlen2 := HO2.out.len
        refine (check_calls ao2 (N + 3) cap2 (zl (encs (rs z t f k) ++ [t, 129, 127])) w2 (by omega) (zl_byte HBY.out) (by have h := HO2.out.bytes; rw [hlen2] at h; exact h)).mono ?_
        rintro e w3 ⟨cnt, p, code, rfl, hck, d, rfl⟩
        obtain ⟨rfl, rfl, rfl⟩ := hck.uniq HC.out
        clear hck hlen2
        go_wp2
        go_ret
        exact ⟨ret_bool (by simp), HB2.out.trans ((below_drewN w2 d).mono HB2.out.size)⟩
      · have HC : Hid (IsCheck (zl (encs (rs z t f k) ++ [t, 130, 1])) (N + 3) k N 1) := by
          have h := check_encs (rs z t f k) [t, 130, 1] 1 (rs_ok z t f k) (.inr ⟨by simp, by omega, code_tail _ _ _ (code5 t f)⟩)
          rw [rs_len, HLEN.out, List.length_append, HLEN.out] at h
          exact h
        have HBY : Hid (AllB (encs (rs z t f k) ++ [t, 130, 1])) := HAB'.out.app (by intro x hx; simp at hx; omega)
        have he' : tl % 8 = 5 := he
        clear he
        go_wp2_with (at_builtin; refine wpList_appB _ rfl (.tmp 64) (.tmp 66) rfl w.heap.size ao N cap _ rfl (HO.out.alloc _) _ 3 3 rfl [t, 130, 1] rfl (listAt_new _ [t, 130, 1] _) (by simp) (by omega) (by simp; omega) ?_; intro ao2 cap2 w2 hown2 hg2 hb2 hne2 hp2; have HO2 : Hid (OwnB w2 w.heap.size (.slice ao2 (N + 3) cap2) (encs (rs z t f k) ++ [t, 130, 1])) := hown2; have HB2 : Hid (Below w.heap.size w w2) := (HB.out.alloc hsz _).trans hb2; clear hown2 hg2 hb2 hne2 hp2)
        have hlen2 := HO2.out.len
        refine (check_calls ao2 (N + 3) cap2 (zl (encs (rs z t f k) ++ [t, 130, 1])) w2 (by omega) (zl_byte HBY.out) (by have h := HO2.out.bytes; rw [hlen2] at h; exact h)).mono ?_
        rintro e w3 ⟨cnt, p, code, rfl, hck, d, rfl⟩
        obtain ⟨rfl, rfl, rfl⟩ := hck.uniq HC.out
        clear hck hlen2
        go_wp2
        go_ret
        exact ⟨ret_bool (by simp), HB2.out.trans ((below_drewN w2 d).mono HB2.out.size)⟩
      · have HC : Hid (IsCheck (zl (encs (rs z t f k) ++ [t, 130, 0, 255])) (N + 4) k N 2) := by
          have h := check_encs (rs z t f k) [t, 130, 0, 255] 2 (rs_ok z t f k) (.inr ⟨by simp, by omega, code_tail _ _ _ (code6 t f)⟩)
          rw [rs_len, HLEN.out, List.length_append, HLEN.out] at h
          exact h
        have HBY : Hid (AllB (encs (rs z t f k) ++ [t, 130, 0, 255])) := HAB'.out.app (by intro x hx; simp at hx; omega)
        have he' : tl % 8 = 6 := he
        clear he
        go_wp2_with (at_builtin; refine wpList_appB _ rfl (.tmp 70) (.tmp 72) rfl w.heap.size ao N cap _ rfl (HO.out.alloc _) _ 4 4 rfl [t, 130, 0, 255] rfl (listAt_new _ [t, 130, 0, 255] _) (by simp) (by omega) (by simp; omega) ?_; intro ao2 cap2 w2 hown2 hg2 hb2 hne2 hp2; have HO2 : Hid (OwnB w2 w.heap.size (.slice ao2 (N + 4) cap2) (encs (rs z t f k) ++ [t, 130, 0, 255])) := hown2; have HB2 : Hid (Below w.heap.size w w2) := (HB.out.alloc hsz _).trans hb2; clear hown2 hg2 hb2 hne2 hp2)
        have hlen2 := HO2.out.len
        refine (check_calls ao2 (N + 4) cap2 (zl (encs (rs z t f k) ++ [t, 130, 0, 255])) w2 (by omega) (zl_byte HBY.out) (by have h := HO2.out.bytes; rw [hlen2] at h; exact h)).mono ?_
        rintro e w3 ⟨cnt, p, code, rfl, hck, d, rfl⟩
        obtain ⟨rfl, rfl, rfl⟩ := hck.uniq HC.out
        clear hck hlen2
        go_wp2
        go_ret
        exact ⟨ret_bool (by simp), HB2.out.trans ((below_drewN w2 d).mono HB2.out.size)⟩
      · have HC : Hid (IsCheck (zl (encs (rs z t f k) ++ [t, 2, f])) (N + 3) k N 1) := by
          have h := check_encs (rs z t f k) [t, 2, f] 1 (rs_ok z t f k) (.inr ⟨by simp, by omega, code_tail _ _ _ (code7 t f)⟩)
          rw [rs_len, HLEN.out, List.length_append, HLEN.out] at h
          exact h
        have HBY : Hid (AllB (encs (rs z t f k) ++ [t, 2, f])) := HAB'.out.app (by intro x hx; simp at hx; omega)
        have he' : tl % 8 = 7 := he
        clear he
        go_wp2_with (at_builtin; refine wpList_appB _ rfl (.tmp 76) (.tmp 79) rfl w.heap.size ao N cap _ rfl (HO.out.alloc _) _ 3 3 rfl [t, 2, f] rfl (listAt_new _ [t, 2, f] _) (by simp) (by omega) (by simp; omega) ?_; intro ao2 cap2 w2 hown2 hg2 hb2 hne2 hp2; have HO2 : Hid (OwnB w2 w.heap.size (.slice ao2 (N + 3) cap2) (encs (rs z t f k) ++ [t, 2, f])) := hown2; have HB2 : Hid (Below w.heap.size w w2) := (HB.out.alloc hsz _).trans hb2; clear hown2 hg2 hb2 hne2 hp2)
        have hlen2 := HO2.out.len
        refine (check_calls ao2 (N + 3) cap2 (zl (encs (rs z t f k) ++ [t, 2, f])) w2 (by omega) (zl_byte HBY.out) (by have h := HO2.out.bytes; rw [hlen2] at h; exact h)).mono ?_
        rintro e w3 ⟨cnt, p, code, rfl, hck, d, rfl⟩
        obtain ⟨rfl, rfl, rfl⟩ := hck.uniq HC.out
        clear hck hlen2
        go_wp2
        go_ret
        exact ⟨ret_bool (by simp), HB2.out.trans ((below_drewN w2 d).mono HB2.out.size)⟩
end Go.Proofs.Ymbrcq.lawS930003KBuilt
