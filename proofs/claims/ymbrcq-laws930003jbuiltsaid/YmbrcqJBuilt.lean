/-
  Ymbrcq: the walk of 'LawS930003JBuilt'.
-/
import Derived.Test.YmbrcqJfuns
import Derived.Test.YmbrcqJmsg
import Derived.Test.YmbrcqEq
namespace Go.Proofs.Ymbrcq.lawS930003JBuilt
open Go.RowKit Go.Proofs.Ymbrcq
set_option linter.unusedVariables false

def Tj (q : Quads) (i : Nat) : Int := q.T i % 4
def mj (q : Quads) (i : Nat) : Nat := jz (q.F i) (q.N i)
def Vj (q : Quads) (i : Nat) : List Int := fills (q.X i) (mj q i)

theorem Vj_len (q : Quads) (i : Nat) : (Vj q i).length = mj q i := by unfold Vj; rw [fills_len]
theorem fills_bytes (x : Int) (m : Nat) : AllB (fills x m) := by
  intro y hy
  obtain ⟨j, _, rfl⟩ := List.mem_map.1 hy
  unfold fillB
  omega
theorem V_ok (q : Quads) (i : Nat) : (0 ≤ Tj q i ∧ Tj q i ≤ 255) ∧ AllB (Vj q i) ∧ (Vj q i).length ≤ 65535 :=
  ⟨by unfold Tj; omega, fills_bytes _ _, by rw [Vj_len]; have := jz_le (q.F i) (q.N i); unfold mj; omega⟩
theorem msg_succ (q : Quads) (k : Nat) : encs (rsOf (Tj q) (Vj q) (k + 1)) = encs (rsOf (Tj q) (Vj q) k) ++ [q.T k % 4] ++ lenF (mj q k) ++ fills (q.X k) (mj q k) := by
  rw [rsOf_succ]
  unfold enc
  rw [Vj_len]
  simp [Vj, Tj]
theorem msg_bytes (q : Quads) (n : Nat) : AllB (encs (rsOf (Tj q) (Vj q) n)) := encs_bytes fun r hr => by
  obtain ⟨i, _, rfl⟩ := rsOf_mem hr
  exact V_ok q i

/-- What 'found' and 'want' are after k records. -/
def WantIs (w : World) (buf : Value) (q : Quads) (t : Int) (k : Nat) (fd : Bool) (wv : Value) : Prop :=
  (fd = false ∧ wv = .slice none 0 0 ∧ ∀ i, i < k → Tj q i ≠ t) ∨
  (fd = true ∧ ∃ p gw, p < k ∧ Tj q p = t ∧ (∀ i, i < p → Tj q i ≠ t) ∧ wv = .slice (some ⟨gw, 0, none⟩) (mj q p) (mj q p) ∧ w.rowIs gw 5 (mj q p) (fun i => .int .u8 (fillB (q.X p) i)) ∧ buf.ownBlock ≠ some gw)

theorem WantIs.keep {w w' : World} {buf buf' : Value} {q : Quads} {t : Int} {k : Nat} {fd : Bool} {wv : Value} (h : WantIs w buf q t k fd wv) (hk : Keeps w buf w' buf') : WantIs w' buf' q t k fd wv := by
  rcases h with h | ⟨h1, p, gw, h2, h3, h4, h5, h6, h7⟩
  · exact .inl h
  · have := hk gw _ _ _ h7 h6
    exact .inr ⟨h1, p, gw, h2, h3, h4, h5, this.1, this.2⟩
theorem WantIs.below {w w' : World} {buf : Value} {q : Quads} {t : Int} {k : Nat} {fd : Bool} {wv : Value} (h : WantIs w buf q t k fd wv) (hb : Below w.heap.size w w') : WantIs w' buf q t k fd wv := by
  rcases h with h | ⟨h1, p, gw, h2, h3, h4, h5, h6, h7⟩
  · exact .inl h
  · exact .inr ⟨h1, p, gw, h2, h3, h4, h5, rowIs_below h6 hb h6.lt, h7⟩

/-- The state while a record is laid. -/
structure St (w0 w : World) (buf : Value) (bs : List Int) (gv m : Nat) (X : Int) (q : Quads) (t : Int) (k : Nat) (fd : Bool) (wv : Value) : Prop where
  own : OwnB w w0.heap.size buf bs
  vrow : w.rowIs gv 5 m (fun i => .int .u8 (fillB X i))
  vne : buf.ownBlock ≠ some gv
  want : WantIs w buf q t k fd wv
  bel : Below w0.heap.size w0 w

theorem St.alloc {w0 w : World} {buf : Value} {bs : List Int} {gv m : Nat} {X : Int} {q : Quads} {t : Int} {k : Nat} {fd : Bool} {wv : Value} (h : St w0 w buf bs gv m X q t k fd wv) (o : Obj) : St w0 (w.alloc o) buf bs gv m X q t k fd wv :=
  ⟨h.own.alloc o, h.vrow.alloc o, h.vne, h.want.keep (Keeps.alloc w buf o), h.bel.alloc h.bel.size o⟩
theorem St.step {w0 w w' : World} {buf buf' : Value} {bs bs' : List Int} {gv m : Nat} {X : Int} {q : Quads} {t : Int} {k : Nat} {fd : Bool} {wv : Value} (h : St w0 w buf bs gv m X q t k fd wv)
    (ho : OwnB w' w0.heap.size buf' bs') (hk : Keeps w buf w' buf') (hb : Below w0.heap.size w w') : St w0 w' buf' bs' gv m X q t k fd wv :=
  ⟨ho, (hk gv _ _ _ h.vne h.vrow).1, (hk gv _ _ _ h.vne h.vrow).2, h.want.keep hk, h.bel.trans hb⟩

theorem St.list {w0 w : World} {buf : Value} {bs : List Int} {gv m : Nat} {X : Int} {q : Quads} {t : Int} {k : Nat} {fd : Bool} {wv : Value} (h : St w0 w buf bs gv m X q t k fd wv) : ListAt w (some ⟨gv, 0, none⟩) (fills X m) := by
  have := rowIs_bytes (z := fillB X) h.vrow 0 m (by omega)
  exact listAt_of (z := fillB X) (by simpa using this)

theorem want_true {w : World} {buf wv : Value} {q : Quads} {t : Int} {k : Nat} (h : WantIs w buf q t k true wv) : WantIs w buf q t (k + 1) true wv := by
  rcases h with ⟨h, _⟩ | ⟨h1, p, gw, h2, h3⟩
  · cases h
  · exact .inr ⟨h1, p, gw, by omega, h3⟩
theorem want_ne {w : World} {buf wv : Value} {q : Quads} {t : Int} {k : Nat} (h : WantIs w buf q t k false wv) (hne : Tj q k ≠ t) : WantIs w buf q t (k + 1) false wv := by
  rcases h with ⟨_, h1, h2⟩ | ⟨h, _⟩
  · refine .inl ⟨rfl, h1, fun i hi => ?_⟩
    by_cases e : i = k
    · subst e; exact hne
    · exact h2 i (by omega)
  · cases h
theorem want_eq {w : World} {buf wv : Value} {q : Quads} {t : Int} {k gv : Nat} (h : WantIs w buf q t k false wv) (he : Tj q k = t) (hrow : w.rowIs gv 5 (mj q k) (fun i => .int .u8 (fillB (q.X k) i))) (hne : buf.ownBlock ≠ some gv) :
    WantIs w buf q t (k + 1) true (.slice (some ⟨gv, 0, none⟩) (mj q k) (mj q k)) := by
  rcases h with ⟨_, h1, h2⟩ | ⟨h, _⟩
  · exact .inr ⟨rfl, k, gv, by omega, he, h2, rfl, hrow, hne⟩
  · cases h

theorem want_eq' {w : World} {buf wv : Value} {q : Quads} {t : Int} {k gv m : Nat} {fd : Bool} (h : WantIs w buf q t k fd wv) (hfd : fd = false) (he : Tj q k = t) (hm : m = mj q k) (hrow : w.rowIs gv 5 m (fun i => .int .u8 (fillB (q.X k) i))) (hne : buf.ownBlock ≠ some gv) :
    WantIs w buf q t (k + 1) true (.slice (some ⟨gv, 0, none⟩) m m) := by
  subst hfd hm
  exact want_eq h he hrow hne

/-- What may stand behind the records. -/
def TailOk (C : List Int) (code : Int) : Prop := (C = [] ∧ code = 4) ∨ (C ≠ [] ∧ code ≠ 0 ∧ (span (zl C) C.length 0).2.2 = code)

theorem tail1 (t : Int) : (span (zl [t]) ([t] : List Int).length 0).2.2 = 1 := by
  have h := span_end (zl [t]) 1 0 (by omega) (by omega)
  show (span (zl [t]) 1 (0 : Nat)).2.2 = 1
  rw [h]
theorem tail2 (t : Int) : (span (zl [t, 128]) ([t, 128] : List Int).length 0).2.2 = 2 := by
  have h := span_at (zl [t, 128]) 2 0 (by omega)
  have z1 : zl [t, 128] (0 + 1) = 128 := rfl
  rw [z1, if_neg (by omega), if_neg (by omega), if_neg (by omega)] at h
  show (span (zl [t, 128]) 2 (0 : Nat)).2.2 = 2
  rw [h]
theorem tail3 (t : Int) : (span (zl [t, 2, 7]) ([t, 2, 7] : List Int).length 0).2.2 = 1 := by
  have h := span_at (zl [t, 2, 7]) 3 0 (by omega)
  have z1 : zl [t, 2, 7] (0 + 1) = 2 := rfl
  rw [z1, if_pos (by omega), if_pos (by omega)] at h
  show (span (zl [t, 2, 7]) 3 (0 : Nat)).2.2 = 1
  rw [h]

theorem find_nf (a : Option Addr) (n c : Nat) (z : Nat → Int) (t code : Int) (w : World) (hn : (n : Int) ≤ 1048576) (hnc : n ≤ c) (hcc : c ≤ 9223372036854775807) (hz : IsByte z) (ha : BytesAt w a n z) (hf : FindBad z n t code) :
    Calls Ycqm.prog 17 #[.slice a n c, .int .u8 t] w fun e w' => e = .returned (.tuple #[.agg #[.int .u8 0, .slice none 0 0], .int .i64 code]) ∧ Below w.heap.size w w' := by
  refine (find_calls a n c z t w hn hnc hcc hz ha).mono ?_
  rintro e w' (⟨code', rfl, h1, h2⟩ | ⟨s, m, g, _, h1, _⟩)
  · exact ⟨by rw [h1.uniq hf], h2⟩
  · exact absurd h1 (fun h => hf.not_good h)
theorem find_fd (a : Option Addr) (n c : Nat) (z y : Nat → Int) (t : Int) (s m : Nat) (w : World) (hn : (n : Int) ≤ 1048576) (hnc : n ≤ c) (hcc : c ≤ 9223372036854775807) (hz : IsByte z) (ha : BytesAt w a n z) (hf : FindGood z n t s m) (hy : ∀ j, j < m → z (s + j) = y j) :
    Calls Ycqm.prog 17 #[.slice a n c, .int .u8 t] w fun e w' => ∃ g, e = .returned (.tuple #[.agg #[.int .u8 t, .slice (some ⟨g, 0, none⟩) m m], .int .i64 0]) ∧ w.heap.size ≤ g ∧ Hid (w'.rowIs g 5 m (fun i => .int .u8 (y i))) ∧ Hid (Below w.heap.size w w') := by
  refine (find_calls a n c z t w hn hnc hcc hz ha).mono ?_
  rintro e w' (⟨code', _, h1, h2⟩ | ⟨s', m', g, rfl, h1, h2, h3, h4⟩)
  · exact absurd hf (fun h => h1.not_good h)
  · obtain ⟨rfl, rfl⟩ := h1.uniq hf
    exact ⟨g, rfl, h2, h3.congr (fun i hi => by rw [hy i hi]), h4⟩

theorem own_caps {w : World} {base : Nat} {a : Option Addr} {n cap : Nat} {bs : List Int} (h : OwnB w base (.slice a n cap) bs) : n ≤ cap ∧ cap ≤ 9223372036854775807 := by
  have hlen := h.len
  obtain ⟨_, _, hshape, hcap1, hcap2, _⟩ := h.shape
  simp only [Value.slice.injEq] at hshape
  obtain ⟨_, _, rfl⟩ := hshape
  omega
theorem own_bytes {w : World} {base : Nat} {a : Option Addr} {n cap : Nat} {bs : List Int} (h : OwnB w base (.slice a n cap) bs) : BytesAt w a n (zl bs) := by
  have hlen := h.len
  have hb := h.bytes
  rw [hlen] at hb
  exact hb
theorem own_addr {w : World} {base : Nat} {a : Option Addr} {n cap : Nat} {bs : List Int} (h : OwnB w base (.slice a n cap) bs) : ∀ ad, a = some ad → ad.block < w.heap.size := by
  intro ad e
  subst e
  rcases h.2 with ⟨h, _⟩ | ⟨g', cap', cur, h, _, hh, _⟩
  · simp at h
  · simp only [Value.slice.injEq, Option.some.injEq] at h
    rw [h.1]
    exact (Array.getElem?_eq_some_iff.1 hh).1
theorem bytes_grown {w w' : World} {a : Option Addr} {n g : Nat} {z : Nat → Int} (h : BytesAt w a n z) (hg : w.grownBy w' (some g)) (ha : ∀ ad, a = some ad → ad.block < g) : BytesAt w' a n z := by
  intro hn
  obtain ⟨b, off, rfl, hc⟩ := h hn
  refine ⟨b, off, rfl, fun i hi => ?_⟩
  have h1 := hc i hi
  have h2 : b < g := ha ⟨b, off, none⟩ rfl
  exact hg.cell h1 (by simp; omega)
theorem row_bytes {w : World} {g n : Nat} {z : Nat → Int} (h : w.rowIs g 5 n (fun i => .int .u8 (z i))) : BytesAt w (some ⟨g, 0, none⟩) n z := by
  have := rowIs_bytes (z := z) h 0 n (by omega)
  simpa using this

def bxf (t : Int) (g m : Nat) (q : Nat) : Value := if q = 0 then .int .u8 t else .slice (some ⟨g, 0, none⟩) m m

theorem first_eq {w5 w6 : World} {g gw m : Nat} {y : Nat → Int} (h1 : w6.rowIs g 5 m (fun i => .int .u8 (y i))) (h2 : w6.rowIs gw 5 m (fun i => .int .u8 (y i))) (hb : Below w5.heap.size w5 w6) (hm : m ≤ 9223372036854775807) (t : Int) :
    Calls Ycqm.prog 18 #[.slice (some ⟨g, 0, none⟩) m m, .slice (some ⟨gw, 0, none⟩) m m] (w6.alloc (.cells #[.int .u8 t, .slice (some ⟨g, 0, none⟩) m m] 25)) fun e w' => e = .returned (.bool true) ∧ Hid (Below w5.heap.size w5 w') ∧ Hid (w'.rowIs g 5 m (fun i => .int .u8 (y i))) ∧ Hid (w'.rowIs w6.heap.size 25 2 (bxf t g m)) := by
  refine (eq_calls _ _ m m _ _ y _ hm rfl (row_bytes (h1.alloc _)) (row_bytes (h2.alloc _))).mono ?_
  rintro e w' ⟨rfl, d, rfl⟩
  refine ⟨rfl, (hb.alloc hb.size _).trans ((below_drewN _ d).mono (hb.alloc hb.size _).size), h1.alloc _, ?_⟩
  exact ⟨#[.int .u8 t, .slice (some ⟨g, 0, none⟩) m m], heap_alloc_new w6 _, rfl, fun j hj => by
    match j, hj with
    | 0, _ => rfl
    | 1, _ => rfl⟩

set_option maxRecDepth 100000 in
set_option maxHeartbeats 16000000 in
theorem walk (a : Option Addr) (n c : Nat) (q : Quads) (typ tail : Int) (w : World) (hl : n ≤ c) (hc : c ≤ 9223372036854775807) (_hn : a = none → n = 0 ∧ c = 0) (hz : QuadsOk n q ∧ QuadsAt w a n q) (htyp : 0 ≤ typ ∧ typ ≤ 255) (htl : 0 ≤ tail ∧ tail ≤ 255) :
    Calls Ycqm.prog 7 #[.slice a n c, .int .u8 typ, .int .u8 tail] w fun e w' => e = .returned (.bool true) ∧ Below w.heap.size w w' := by
  obtain ⟨hok, ha⟩ := hz
  by_cases hbig : 256 < n
  · clear ha hok _hn
    go_enter Ycqm.func7, Ycqm.ntmps7
    go_wp2
    go_ret
    exact ⟨rfl, Below.refl _ _⟩
  have HA : Hid (QuadsAt w a n q) := ha
  have HK : Hid (QuadsOk n q) := hok
  clear ha hok _hn
  obtain ⟨t1, ht1⟩ : ∃ t1, t1 = typ % 4 := ⟨_, rfl⟩
  have HT1 : Hid (t1 = typ % 4) := ht1
  clear ht1
  go_enter Ycqm.func7, Ycqm.ntmps7
  go_wp2
  go_loopw [7, 8, 9, 10] (fun bv fv wv iv wr => ∃ (k : Nat) (ao : Option Addr) (N cap : Nat) (fd : Bool), k ≤ n ∧ iv = .int .i64 k ∧ bv = .slice ao N cap ∧ fv = .bool fd ∧ N ≤ 359 * k ∧ Hid (OwnB wr w.heap.size (.slice ao N cap) (encs (rsOf (Tj q) (Vj q) k))) ∧ Hid (WantIs wr (.slice ao N cap) q t1 k fd wv) ∧ Hid (Below w.heap.size w wr)) (fun _ _ _ iv _ => n - (intOf iv).toNat)
  case atStart => exact ⟨0, _, 0, 0, false, Nat.zero_le _, rfl, rfl, rfl, Nat.le_refl _, OwnB.empty w _ (Nat.le_refl _), .inl ⟨rfl, rfl, fun i hi => absurd hi (Nat.not_lt_zero _)⟩, (Below.refl _ _).alloc (Nat.le_refl _) _⟩
  case round =>
    obtain ⟨k, ao, N, cap, fd, hk, rfl, rfl, rfl, hN, HO, HW, HB⟩ := hrel
    by_cases hlt : k < n
    · obtain ⟨ab, off, rfl, hS⟩ := HA.out (by omega)
      obtain ⟨h0, h1, h2, h3⟩ := hS k hlt
      have t0 : wr.cell? ⟨ab, off + k * 4, none⟩ = some (.int .u8 (q.T k)) := (HB.out.cell (World.block_lt_of_cell? _ _ h0)).trans h0
      have t1' : wr.cell? ⟨ab, off + k * 4 + 1, none⟩ = some (.int .u8 (q.F k)) := (HB.out.cell (World.block_lt_of_cell? _ _ h1)).trans h1
      have t2 : wr.cell? ⟨ab, off + k * 4 + 2, none⟩ = some (.int .u8 (q.N k)) := (HB.out.cell (World.block_lt_of_cell? _ _ h2)).trans h2
      have t3 : wr.cell? ⟨ab, off + k * 4 + 3, none⟩ = some (.int .u8 (q.X k)) := (HB.out.cell (World.block_lt_of_cell? _ _ h3)).trans h3
      obtain ⟨b0, b1, b2, b3⟩ := HK.out k hlt
      obtain ⟨m, hm⟩ : ∃ m, m = mj q k := ⟨_, rfl⟩
      have hm1 : m ≤ 355 := by rw [hm]; exact jz_le _ _
      have HCS : Hid (Calls Ycqm.prog 19 #[.agg #[.int .u8 (q.T k), .int .u8 (q.F k), .int .u8 (q.N k), .int .u8 (q.X k)]] wr fun e w' => e = .returned (.slice (some ⟨wr.heap.size + 1, 0, none⟩) m m) ∧ Hid (St w w' (.slice ao N cap) (encs (rsOf (Tj q) (Vj q) k)) (wr.heap.size + 1) m (q.X k) q t1 k fd u9)) := by
        refine (jvalue_calls (q.T k) (q.F k) (q.N k) (q.X k) wr b1 b2 b3 m hm).mono ?_
        rintro e w' ⟨rfl, hrow, hb⟩
        refine ⟨rfl, HO.out.below hb.out (Nat.le_refl _), hrow.out, fun e => ?_, HW.out.below hb.out, HB.out.trans (hb.out.mono HB.out.size)⟩
        have := (HO.out.lt _ e).2
        omega
      have HMS : Hid (encs (rsOf (Tj q) (Vj q) (k + 1)) = encs (rsOf (Tj q) (Vj q) k) ++ [q.T k % 4] ++ lenF m ++ fills (q.X k) m) := by rw [hm]; exact msg_succ q k
      have HMJ : Hid (m = mj q k) := hm
      have hsz := HB.out.size
      clear hS h0 h1 h2 h3 hm
      obtain ⟨gv, hgv⟩ : ∃ gv, gv = wr.heap.size + 1 := ⟨_, rfl⟩
      rw [← hgv] at HCS
      clear hgv
      have hlcase : ∃ LL : List Int, Hid (lenF m = LL) ∧ (((256 : Int) ≤ (m : Int) ∧ LL = [130, (m : Int) / 256, (m : Int) % 256]) ∨ (¬ (256 : Int) ≤ (m : Int) ∧ (128 : Int) ≤ (m : Int) ∧ LL = [129, (m : Int)]) ∨ (¬ (256 : Int) ≤ (m : Int) ∧ ¬ (128 : Int) ≤ (m : Int) ∧ LL = [(m : Int)])) := by
        unfold lenF
        by_cases e1 : m < 128
        · exact ⟨_, by rw [if_pos e1]; rfl, .inr (.inr ⟨by omega, by omega, rfl⟩)⟩
        · by_cases e2 : m < 256
          · exact ⟨_, by rw [if_neg e1, if_pos e2]; rfl, .inr (.inl ⟨by omega, by omega, rfl⟩)⟩
          · exact ⟨_, by rw [if_neg e1, if_neg e2]; rfl, .inl ⟨by omega, rfl⟩⟩
      obtain ⟨LL, HLF, hLL⟩ := hlcase
      have hfcase : (fd = true) ∨ (fd = false ∧ (q.T k % 4 == typ % 4) = true) ∨ (fd = false ∧ (q.T k % 4 == typ % 4) = false) := by
        cases fd <;> cases (q.T k % 4 == typ % 4) <;> simp
      obtain ⟨fd', hfd'⟩ : ∃ fd', fd' = fd := ⟨_, rfl⟩
      obtain ⟨wv, hwv⟩ : ∃ wv, wv = u9 := ⟨_, rfl⟩
      rw [← hfd', ← hwv] at HCS
      have HFD : Hid (fd' = fd) := hfd'
      have HWV : Hid (wv = u9) := hwv
      clear HO HW hfd' hwv
      rcases hfcase with rfl | ⟨rfl, hbb⟩ | ⟨rfl, hbb⟩ <;> rcases hLL with ⟨hi256, rfl⟩ | ⟨hi256, hi128, rfl⟩ | ⟨hi256, hi128, rfl⟩
      all_goals
        go_wp2_with (first
          | (at_builtin; refine wpList_appC _ rfl (.tmp 71) (.tmp 72) rfl w.heap.size _ M cap3 _ rfl HS3.out.own ⟨gv, 0, none⟩ m m rfl (fills (q.X k) m) (fills_len _ _) HS3.out.list (by omega) HS3.out.bel.size ?_; intro ao4 cap4 w4 hown hkp hb; have HS4 : Hid (St w w4 (.slice ao4 (M + m) cap4) (encs (rsOf (Tj q) (Vj q) (k + 1))) gv m (q.X k) q t1 k fd' wv) := (by rw [HMS.out]; exact HS3.out.step hown hkp hb); clear hown hkp hb)
          | (at_builtin; refine wpList_appC _ rfl (.tmp 50) (.tmp 57) rfl w.heap.size _ (N + 1) cap2 _ rfl (HS2.out.alloc _).own _ 3 3 rfl [130, (m : Int) / 256, (m : Int) % 256] rfl (listAt_new _ [130, (m : Int) / 256, (m : Int) % 256] _) (by omega) (HS2.out.alloc _).bel.size ?_; intro ao3 cap3 w3 hown hkp hb; obtain ⟨M, hM⟩ : ∃ M, M = N + 1 + 3 := ⟨_, rfl⟩; rw [← hM] at hown hkp ⊢; have HS3 : Hid (St w w3 (.slice ao3 M cap3) (encs (rsOf (Tj q) (Vj q) k) ++ [q.T k % 4] ++ lenF m) gv m (q.X k) q t1 k fd' wv) := (by rw [HLF.out]; exact (HS2.out.alloc _).step hown hkp hb); have hMN : M ≤ N + 4 := (by omega); clear hown hkp hb hM)
          | (at_builtin; refine wpList_appC _ rfl (.tmp 61) (.tmp 64) rfl w.heap.size _ (N + 1) cap2 _ rfl (HS2.out.alloc _).own _ 2 2 rfl [129, (m : Int)] rfl (listAt_new _ [129, (m : Int)] _) (by omega) (HS2.out.alloc _).bel.size ?_; intro ao3 cap3 w3 hown hkp hb; obtain ⟨M, hM⟩ : ∃ M, M = N + 1 + 2 := ⟨_, rfl⟩; rw [← hM] at hown hkp ⊢; have HS3 : Hid (St w w3 (.slice ao3 M cap3) (encs (rsOf (Tj q) (Vj q) k) ++ [q.T k % 4] ++ lenF m) gv m (q.X k) q t1 k fd' wv) := (by rw [HLF.out]; exact (HS2.out.alloc _).step hown hkp hb); have hMN : M ≤ N + 4 := (by omega); clear hown hkp hb hM)
          | (at_builtin; refine wpList_appC _ rfl (.tmp 66) (.tmp 69) rfl w.heap.size _ (N + 1) cap2 _ rfl (HS2.out.alloc _).own _ 1 1 rfl [(m : Int)] rfl (listAt_new _ [(m : Int)] _) (by omega) (HS2.out.alloc _).bel.size ?_; intro ao3 cap3 w3 hown hkp hb; obtain ⟨M, hM⟩ : ∃ M, M = N + 1 + 1 := ⟨_, rfl⟩; rw [← hM] at hown hkp ⊢; have HS3 : Hid (St w w3 (.slice ao3 M cap3) (encs (rsOf (Tj q) (Vj q) k) ++ [q.T k % 4] ++ lenF m) gv m (q.X k) q t1 k fd' wv) := (by rw [HLF.out]; exact (HS2.out.alloc _).step hown hkp hb); have hMN : M ≤ N + 4 := (by omega); clear hown hkp hb hM)
          | (at_builtin; refine wpList_appC _ rfl (.tmp 44) (.tmp 46) rfl w.heap.size _ N cap _ rfl (HS1.out.alloc _).own _ 1 1 rfl [q.T k % 4] rfl (listAt_new _ [q.T k % 4] _) (by omega) (HS1.out.alloc _).bel.size ?_; intro ao2 cap2 w2 hown hkp hb; have HS2 : Hid (St w w2 (.slice ao2 (N + 1) cap2) (encs (rsOf (Tj q) (Vj q) k) ++ [q.T k % 4]) gv m (q.X k) q t1 k fd' wv) := (HS1.out.alloc _).step hown hkp hb; clear hown hkp hb)
          | (go_at_call 19; refine HCS.out.mono ?_; rintro e w1 ⟨rfl, HS1⟩))
        go_roundw
        case rel => first
          | exact ⟨k + 1, ao4, M + m, cap4, true, by omega, by go_num, rfl, rfl, by omega, HS4.out.own, want_true (HFD.out ▸ HWV.out ▸ HS4.out.want), HS4.out.bel⟩
          | exact ⟨k + 1, ao4, M + m, cap4, true, by omega, by go_num, rfl, rfl, by omega, HS4.out.own, want_eq' HS4.out.want HFD.out (by rw [HT1.out]; simpa [Tj] using hbb) HMJ.out HS4.out.vrow HS4.out.vne, HS4.out.bel⟩
          | exact ⟨k + 1, ao4, M + m, cap4, false, by omega, by go_num, rfl, rfl, by omega, HS4.out.own, want_ne (HFD.out ▸ HWV.out ▸ HS4.out.want) (by rw [HT1.out]; simpa [Tj] using hbb), HS4.out.bel⟩
        case measure => simp [intOf] <;> omega
    · obtain rfl : n = k := by omega
      obtain rfl := HT1.out
      have hsz := HB.out.size
      have hNi : (N : Int) ≤ 91904 := by omega
      have hqn := eqlB_nil
      have htc : ∃ (C : List Int) (code : Int), Hid (TailOk C code) ∧ Hid (AllB C) ∧ ((tail % 4 = 0 ∧ code = 4 ∧ Hid (C = [])) ∨ (tail % 4 = 1 ∧ code = 1 ∧ Hid (C = [typ % 4])) ∨ (tail % 4 = 2 ∧ code = 2 ∧ Hid (C = [typ % 4, 128])) ∨ (tail % 4 = 3 ∧ code = 1 ∧ Hid (C = [typ % 4, 2, 7]))) := by
        have h4 : tail % 4 = 0 ∨ tail % 4 = 1 ∨ tail % 4 = 2 ∨ tail % 4 = 3 := by omega
        rcases h4 with h | h | h | h
        · exact ⟨[], 4, .inl ⟨rfl, rfl⟩, by (intro y hy; simp at hy), .inl ⟨h, rfl, rfl⟩⟩
        · exact ⟨[typ % 4], 1, .inr ⟨by simp, by omega, tail1 _⟩, by (intro y hy; simp at hy; omega), .inr (.inl ⟨h, rfl, rfl⟩)⟩
        · exact ⟨[typ % 4, 128], 2, .inr ⟨by simp, by omega, tail2 _⟩, by (intro y hy; simp at hy; omega), .inr (.inr (.inl ⟨h, rfl, rfl⟩))⟩
        · exact ⟨[typ % 4, 2, 7], 1, .inr ⟨by simp, by omega, tail3 _⟩, by (intro y hy; simp at hy; omega), .inr (.inr (.inr ⟨h, rfl, rfl⟩))⟩
      obtain ⟨C, code, HTC, HCB, h4⟩ := htc
      have HZB : Hid (IsByte (zl (encs (rsOf (Tj q) (Vj q) n) ++ C))) := zl_byte ((msg_bytes q n).app HCB.out)
      rcases HW.out with ⟨rfl, hwv, hno⟩ | ⟨rfl, p, gw, hpn, hTp, hno, hwv, hwrow, hwne⟩
      · have HFB : Hid (FindBad (zl (encs (rsOf (Tj q) (Vj q) n) ++ C)) (encs (rsOf (Tj q) (Vj q) n) ++ C).length (typ % 4) code) := find_none _ _ n _ C code (fun i hi => ⟨(V_ok q i).2.2, hno i hi⟩) HTC.out
        clear hwv hno
        clear HW
        rcases h4 with ⟨h4, rfl, HC⟩ | ⟨h4, rfl, HC⟩ | ⟨h4, rfl, HC⟩ | ⟨h4, rfl, HC⟩
        focus
          obtain ⟨ao3, rfl⟩ : ∃ x, x = ao := ⟨_, rfl⟩
          obtain ⟨M, rfl⟩ : ∃ x, x = N := ⟨_, rfl⟩
          obtain ⟨cap3, rfl⟩ : ∃ x, x = cap := ⟨_, rfl⟩
          obtain ⟨w3, rfl⟩ : ∃ x, x = wr := ⟨_, rfl⟩
          have HO3 : Hid (OwnB w3 w.heap.size (.slice ao3 M cap3) (encs (rsOf (Tj q) (Vj q) n) ++ C)) := by (show OwnB _ _ _ _; rw [HC.out, List.append_nil]; exact HO.out)
          have HKP : Hid (Keeps w3 (.slice ao3 M cap3) w3 (.slice ao3 M cap3)) := fun gw t m f h1 h2 => ⟨h2, h1⟩
          have HB3 : Hid (Below w.heap.size w w3) := HB.out
          have hMi : (M : Int) ≤ 91907 := by omega
          obtain ⟨hc31, hc32⟩ := own_caps HO3.out
          have hs3 := HB3.out.size
          skip
        all_goals
          go_wp2_with (first
            | (go_at_call 18; refine (HEQ.out _ (HB6.out.alloc HB6.out.size _)).mono ?_; rintro e w7 ⟨rfl, hb7⟩; have HB7 : Hid (Below w.heap.size w w7) := HB5.out.trans (hb7.out.mono HB5.out.size))
            | (go_at_call 17; refine HFN.out.mono ?_; rintro e w6 ⟨rfl, hb6⟩; have HB6 : Hid (Below w5.heap.size w5 w6) := hb6; clear hb6)
            | ((with_reducible refine wpList_here ?_); refine wpList_copyB _ rfl (.tmp 106) (.tmp 107) rfl w3.heap.size M M ao3 M cap3 rfl rfl rfl _ (zl (encs (rsOf (Tj q) (Vj q) n) ++ C)) HR4.out HBY4.out ?_; intro w5 hrow5 hg5 hs5; have HB5 : Hid (Below w.heap.size w w5) := HB4.out.trans (below_of_grown hg5 HB4.out.size hs3); have HBY5 : Hid (BytesAt w5 ao3 M (zl (encs (rsOf (Tj q) (Vj q) n) ++ C))) := bytes_grown HBY4.out hg5 HMA.out; have HSV : Hid (BytesAt w5 (some ⟨w3.heap.size, 0, none⟩) M (zl (encs (rsOf (Tj q) (Vj q) n) ++ C))) := row_bytes hrow5; have HFN : Hid (Calls Ycqm.prog 17 #[.slice ao3 M cap3, .int .u8 (typ % 4)] w5 fun e w' => e = .returned (.tuple #[.agg #[.int .u8 0, .slice none 0 0], .int .i64 _]) ∧ Below w5.heap.size w5 w') := find_nf _ _ _ _ _ _ w5 (by omega) hc31 hc32 HZB.out HBY5.out (HO3.out.len ▸ HFB.out); have HEQ : Hid (∀ wz, Below w5.heap.size w5 wz → Calls Ycqm.prog 18 #[.slice ao3 M cap3, .slice (some ⟨w3.heap.size, 0, none⟩) M M] wz fun e w' => e = .returned (.bool true) ∧ Hid (Below w5.heap.size w5 w')) := (fun wz hb => (eq_calls _ _ M M _ _ _ wz (by omega) rfl (HBY5.out.below hb) (HSV.out.below hb)).mono (fun e w' ⟨he, d, hd⟩ => ⟨he, (by rw [hd]; exact hb.trans ((below_drewN wz d).mono hb.size))⟩)); clear hrow5 hg5)
            | (at_make; refine wpList_mkBx w3 _ rfl rfl _ _ rfl .i64 .i64 _ _ M M rfl rfl rfl rfl (Nat.le_refl _) (by omega) ?_; intro w4 hrow4 hb4 hs4; have HR4 : Hid (w4.rowIs w3.heap.size 5 M (fun _ => .int .u8 0)) := hrow4; have HB4 : Hid (Below w.heap.size w w4) := HB3.out.trans (hb4.mono hs3); have HBY4 : Hid (BytesAt w4 ao3 M (zl (encs (rsOf (Tj q) (Vj q) n) ++ C))) := (own_bytes HO3.out).below hb4; have HMA : Hid (∀ ad, ao3 = some ad → ad.block < w3.heap.size) := own_addr HO3.out; clear hrow4 hb4)
            | (at_builtin; refine wpList_appC _ rfl (.tmp 85) (.tmp 87) rfl w.heap.size ao N cap _ rfl (HO.out.alloc _) _ 1 1 rfl [typ % 4] rfl (listAt_new _ [typ % 4] _) (by omega) (Nat.le_trans hsz (by simp)) ?_; intro ao3 cap3 w3 hown hkp hb; obtain ⟨M, hM⟩ : ∃ M, M = N + 1 := ⟨_, rfl⟩; rw [← hM] at hown hkp ⊢; have HO3 : Hid (OwnB w3 w.heap.size (.slice ao3 M cap3) (encs (rsOf (Tj q) (Vj q) n) ++ C)) := (by rw [HC.out]; exact hown); have HKP : Hid (Keeps wr (.slice ao N cap) w3 (.slice ao3 M cap3)) := (Keeps.alloc _ _ _).trans hkp; have HB3 : Hid (Below w.heap.size w w3) := (HB.out.alloc hsz _).trans hb; have hMN : M ≤ N + 3 := (by omega); have hMi : (M : Int) ≤ 91907 := (by omega); obtain ⟨hc31, hc32⟩ := own_caps HO3.out; have hs3 := HB3.out.size; clear hown hkp hb hM)
            | (at_builtin; refine wpList_appC _ rfl (.tmp 92) (.tmp 94) rfl w.heap.size ao N cap _ rfl (HO.out.alloc _) _ 2 2 rfl [typ % 4, 128] rfl (listAt_new _ [typ % 4, 128] _) (by omega) (Nat.le_trans hsz (by simp)) ?_; intro ao3 cap3 w3 hown hkp hb; obtain ⟨M, hM⟩ : ∃ M, M = N + 2 := ⟨_, rfl⟩; rw [← hM] at hown hkp ⊢; have HO3 : Hid (OwnB w3 w.heap.size (.slice ao3 M cap3) (encs (rsOf (Tj q) (Vj q) n) ++ C)) := (by rw [HC.out]; exact hown); have HKP : Hid (Keeps wr (.slice ao N cap) w3 (.slice ao3 M cap3)) := (Keeps.alloc _ _ _).trans hkp; have HB3 : Hid (Below w.heap.size w w3) := (HB.out.alloc hsz _).trans hb; have hMN : M ≤ N + 3 := (by omega); have hMi : (M : Int) ≤ 91907 := (by omega); obtain ⟨hc31, hc32⟩ := own_caps HO3.out; have hs3 := HB3.out.size; clear hown hkp hb hM)
            | (at_builtin; refine wpList_appC _ rfl (.tmp 99) (.tmp 101) rfl w.heap.size ao N cap _ rfl (HO.out.alloc _) _ 3 3 rfl [typ % 4, 2, 7] rfl (listAt_new _ [typ % 4, 2, 7] _) (by omega) (Nat.le_trans hsz (by simp)) ?_; intro ao3 cap3 w3 hown hkp hb; obtain ⟨M, hM⟩ : ∃ M, M = N + 3 := ⟨_, rfl⟩; rw [← hM] at hown hkp ⊢; have HO3 : Hid (OwnB w3 w.heap.size (.slice ao3 M cap3) (encs (rsOf (Tj q) (Vj q) n) ++ C)) := (by rw [HC.out]; exact hown); have HKP : Hid (Keeps wr (.slice ao N cap) w3 (.slice ao3 M cap3)) := (Keeps.alloc _ _ _).trans hkp; have HB3 : Hid (Below w.heap.size w w3) := (HB.out.alloc hsz _).trans hb; have hMN : M ≤ N + 3 := (by omega); have hMi : (M : Int) ≤ 91907 := (by omega); obtain ⟨hc31, hc32⟩ := own_caps HO3.out; have hs3 := HB3.out.size; clear hown hkp hb hM))
          go_ret
          exact ⟨rfl, HB7.out⟩
      · obtain ⟨m, hm⟩ : ∃ m, m = mj q p := ⟨_, rfl⟩
        have hm3 : m ≤ 355 := by rw [hm]; exact jz_le _ _
        rw [← hm] at hwv hwrow
        have hfg : ∃ s, Hid (FindGood (zl (encs (rsOf (Tj q) (Vj q) n) ++ C)) (encs (rsOf (Tj q) (Vj q) n) ++ C).length (typ % 4) s m ∧ ∀ j, j < m → zl (encs (rsOf (Tj q) (Vj q) n) ++ C) (s + j) = fillB (q.X p) j) := by
          obtain ⟨s, h1, h2⟩ := find_first (Tj q) (Vj q) n p (typ % 4) C hpn (fun i _ => (V_ok q i).2.2) hno hTp
          rw [Vj_len, ← hm] at h1 h2
          refine ⟨s, h1, fun j hj => ?_⟩
          rw [h2 j hj]
          unfold Vj
          rw [← hm, fills_getD _ _ _ hj]
        obtain ⟨s, HFG⟩ := hfg
        have HWR : Hid (wr.rowIs gw 5 m (fun i => .int .u8 (fillB (q.X p) i))) := hwrow
        have HWN : Hid ((Value.slice ao N cap).ownBlock ≠ some gw) := hwne
        have HFY : Hid (∀ j, 0 ≤ fillB (q.X p) j ∧ fillB (q.X p) j ≤ 255) := fun j => by unfold fillB; omega
        clear hwrow hwne hno hTp hm HW HTC
        subst hwv
        rcases h4 with ⟨h4, rfl, HC⟩ | ⟨h4, rfl, HC⟩ | ⟨h4, rfl, HC⟩ | ⟨h4, rfl, HC⟩
        focus
          obtain ⟨ao3, rfl⟩ : ∃ x, x = ao := ⟨_, rfl⟩
          obtain ⟨M, rfl⟩ : ∃ x, x = N := ⟨_, rfl⟩
          obtain ⟨cap3, rfl⟩ : ∃ x, x = cap := ⟨_, rfl⟩
          obtain ⟨w3, rfl⟩ : ∃ x, x = wr := ⟨_, rfl⟩
          have HO3 : Hid (OwnB w3 w.heap.size (.slice ao3 M cap3) (encs (rsOf (Tj q) (Vj q) n) ++ C)) := by (show OwnB _ _ _ _; rw [HC.out, List.append_nil]; exact HO.out)
          have HKP : Hid (Keeps w3 (.slice ao3 M cap3) w3 (.slice ao3 M cap3)) := fun gw t m f h1 h2 => ⟨h2, h1⟩
          have HB3 : Hid (Below w.heap.size w w3) := HB.out
          have hMi : (M : Int) ≤ 91907 := by omega
          obtain ⟨hc31, hc32⟩ := own_caps HO3.out
          have hs3 := HB3.out.size
          skip
        all_goals
          go_wp2_with (first
            | (go_at_call 18; refine HE1.out.mono ?_; rintro e w7 ⟨rfl, HB7, HR7, HX7⟩)
            | (go_at_call 17; refine HFN.out.mono ?_; rintro e w6 ⟨g, rfl, hg, HRG, HB6⟩; have HE1 : Hid (Calls Ycqm.prog 18 #[.slice (some ⟨g, 0, none⟩) m m, .slice (some ⟨gw, 0, none⟩) m m] (w6.alloc (.cells #[.int .u8 (typ % 4), .slice (some ⟨g, 0, none⟩) m m] 25)) fun e w' => e = .returned (.bool true) ∧ Hid (Below w5.heap.size w5 w') ∧ Hid (w'.rowIs g 5 m (fun i => .int .u8 (fillB (q.X p) i))) ∧ Hid (w'.rowIs w6.heap.size 25 2 (bxf (typ % 4) g m))) := first_eq HRG.out (rowIs_below HWR5.out HB6.out HWR5.out.lt) HB6.out (by omega) _)
            | ((with_reducible refine wpList_here ?_); refine wpList_copyB _ rfl (.tmp 106) (.tmp 107) rfl w3.heap.size M M ao3 M cap3 rfl rfl rfl _ (zl (encs (rsOf (Tj q) (Vj q) n) ++ C)) HR4.out HBY4.out ?_; intro w5 hrow5 hg5 hs5; have HB5 : Hid (Below w.heap.size w w5) := HB4.out.trans (below_of_grown hg5 HB4.out.size hs3); have HBY5 : Hid (BytesAt w5 ao3 M (zl (encs (rsOf (Tj q) (Vj q) n) ++ C))) := bytes_grown HBY4.out hg5 HMA.out; have HSV : Hid (BytesAt w5 (some ⟨w3.heap.size, 0, none⟩) M (zl (encs (rsOf (Tj q) (Vj q) n) ++ C))) := row_bytes hrow5; have HWR5 : Hid (w5.rowIs gw 5 m (fun i => .int .u8 (fillB (q.X p) i))) := rowIs_grown (rowIs_below (HKP.out gw _ _ _ HWN.out HWR.out).1 HBM.out (HKP.out gw _ _ _ HWN.out HWR.out).1.lt) hg5 (fun e => by have := (HKP.out gw _ _ _ HWN.out HWR.out).1.lt; omega); have HFN : Hid (Calls Ycqm.prog 17 #[.slice ao3 M cap3, .int .u8 (typ % 4)] w5 fun e w' => ∃ g, e = .returned (.tuple #[.agg #[.int .u8 (typ % 4), .slice (some ⟨g, 0, none⟩) m m], .int .i64 0]) ∧ w5.heap.size ≤ g ∧ Hid (w'.rowIs g 5 m (fun i => .int .u8 (fillB (q.X p) i))) ∧ Hid (Below w5.heap.size w5 w')) := find_fd _ _ _ _ _ _ s m w5 (by omega) hc31 hc32 HZB.out HBY5.out (HO3.out.len ▸ HFG.out.1) HFG.out.2; have HEQ : Hid (∀ wz, Below w5.heap.size w5 wz → Calls Ycqm.prog 18 #[.slice ao3 M cap3, .slice (some ⟨w3.heap.size, 0, none⟩) M M] wz fun e w' => e = .returned (.bool true) ∧ Hid (Below w5.heap.size w5 w')) := (fun wz hb => (eq_calls _ _ M M _ _ _ wz (by omega) rfl (HBY5.out.below hb) (HSV.out.below hb)).mono (fun e w' ⟨he, d, hd⟩ => ⟨he, (by rw [hd]; exact hb.trans ((below_drewN wz d).mono hb.size))⟩)); clear hrow5 hg5)
            | (at_make; refine wpList_mkBx w3 _ rfl rfl _ _ rfl .i64 .i64 _ _ M M rfl rfl rfl rfl (Nat.le_refl _) (by omega) ?_; intro w4 hrow4 hb4 hs4; have HR4 : Hid (w4.rowIs w3.heap.size 5 M (fun _ => .int .u8 0)) := hrow4; have HB4 : Hid (Below w.heap.size w w4) := HB3.out.trans (hb4.mono hs3); have HBY4 : Hid (BytesAt w4 ao3 M (zl (encs (rsOf (Tj q) (Vj q) n) ++ C))) := (own_bytes HO3.out).below hb4; have HMA : Hid (∀ ad, ao3 = some ad → ad.block < w3.heap.size) := own_addr HO3.out; have HBM : Hid (Below w3.heap.size w3 w4) := hb4; clear hrow4 hb4)
            | (at_builtin; refine wpList_appC _ rfl (.tmp 85) (.tmp 87) rfl w.heap.size ao N cap _ rfl (HO.out.alloc _) _ 1 1 rfl [typ % 4] rfl (listAt_new _ [typ % 4] _) (by omega) (Nat.le_trans hsz (by simp)) ?_; intro ao3 cap3 w3 hown hkp hb; obtain ⟨M, hM⟩ : ∃ M, M = N + 1 := ⟨_, rfl⟩; rw [← hM] at hown hkp ⊢; have HO3 : Hid (OwnB w3 w.heap.size (.slice ao3 M cap3) (encs (rsOf (Tj q) (Vj q) n) ++ C)) := (by rw [HC.out]; exact hown); have HKP : Hid (Keeps wr (.slice ao N cap) w3 (.slice ao3 M cap3)) := (Keeps.alloc _ _ _).trans hkp; have HB3 : Hid (Below w.heap.size w w3) := (HB.out.alloc hsz _).trans hb; have hMN : M ≤ N + 3 := (by omega); have hMi : (M : Int) ≤ 91907 := (by omega); obtain ⟨hc31, hc32⟩ := own_caps HO3.out; have hs3 := HB3.out.size; clear hown hkp hb hM)
            | (at_builtin; refine wpList_appC _ rfl (.tmp 92) (.tmp 94) rfl w.heap.size ao N cap _ rfl (HO.out.alloc _) _ 2 2 rfl [typ % 4, 128] rfl (listAt_new _ [typ % 4, 128] _) (by omega) (Nat.le_trans hsz (by simp)) ?_; intro ao3 cap3 w3 hown hkp hb; obtain ⟨M, hM⟩ : ∃ M, M = N + 2 := ⟨_, rfl⟩; rw [← hM] at hown hkp ⊢; have HO3 : Hid (OwnB w3 w.heap.size (.slice ao3 M cap3) (encs (rsOf (Tj q) (Vj q) n) ++ C)) := (by rw [HC.out]; exact hown); have HKP : Hid (Keeps wr (.slice ao N cap) w3 (.slice ao3 M cap3)) := (Keeps.alloc _ _ _).trans hkp; have HB3 : Hid (Below w.heap.size w w3) := (HB.out.alloc hsz _).trans hb; have hMN : M ≤ N + 3 := (by omega); have hMi : (M : Int) ≤ 91907 := (by omega); obtain ⟨hc31, hc32⟩ := own_caps HO3.out; have hs3 := HB3.out.size; clear hown hkp hb hM)
            | (at_builtin; refine wpList_appC _ rfl (.tmp 99) (.tmp 101) rfl w.heap.size ao N cap _ rfl (HO.out.alloc _) _ 3 3 rfl [typ % 4, 2, 7] rfl (listAt_new _ [typ % 4, 2, 7] _) (by omega) (Nat.le_trans hsz (by simp)) ?_; intro ao3 cap3 w3 hown hkp hb; obtain ⟨M, hM⟩ : ∃ M, M = N + 3 := ⟨_, rfl⟩; rw [← hM] at hown hkp ⊢; have HO3 : Hid (OwnB w3 w.heap.size (.slice ao3 M cap3) (encs (rsOf (Tj q) (Vj q) n) ++ C)) := (by rw [HC.out]; exact hown); have HKP : Hid (Keeps wr (.slice ao N cap) w3 (.slice ao3 M cap3)) := (Keeps.alloc _ _ _).trans hkp; have HB3 : Hid (Below w.heap.size w w3) := (HB.out.alloc hsz _).trans hb; have hMN : M ≤ N + 3 := (by omega); have hMi : (M : Int) ≤ 91907 := (by omega); obtain ⟨hc31, hc32⟩ := own_caps HO3.out; have hs3 := HB3.out.size; clear hown hkp hb hM))
          have hgx : g < w6.heap.size := HRG.out.lt
          clear HRG HE1 HFN HWR5 HKP HO3 HR4 HB4 HBY4 HBM HBY5 HSV
          go_loopw [18] (fun jv wq => ∃ j : Nat, j ≤ m ∧ jv = .int .i64 j ∧ Hid (wq.rowIs w6.heap.size 25 2 (bxf (typ % 4) g m)) ∧ Hid (∃ h, wq.rowIs g 5 m h ∧ ∀ j', j ≤ j' → h j' = .int .u8 (fillB (q.X p) j')) ∧ Hid (Below w5.heap.size w5 wq)) (fun jv _ => m - (intOf jv).toNat)
          case atStart => exact ⟨0, Nat.zero_le _, rfl, HX7.out, ⟨_, HR7.out, fun _ _ => rfl⟩, HB7.out⟩
          case round =>
            clear HX7 HR7 HB7
            obtain ⟨j, hj, rfl, HX, HR, HB7⟩ := hrel
            have x1 : wr.cell? ⟨w6.heap.size, 1, none⟩ = some (.slice (some ⟨g, 0, none⟩) m m) := HX.out.cell (show 1 < 2 by omega)
            by_cases hjm : j < m
            · obtain ⟨h, hrow, hh⟩ := HR.out
              have q0 : wr.cell? ⟨g, j, none⟩ = some (.int .u8 (fillB (q.X p) j)) := by rw [hrow.cell hjm, hh j (Nat.le_refl _)]
              have q1 : wr.frozen? ⟨g, j, none⟩ = false := hrow.frozen j
              have HRK : Hid (wr.rowIs g 5 m h) := hrow
              have HHH : Hid (∀ j', j ≤ j' → h j' = .int .u8 (fillB (q.X p) j')) := hh
              have hji : (j : Int) < (m : Int) := by omega
              have hfy := HFY.out j
              have hgne : ¬ w6.heap.size = g := by omega
              clear hrow hh HR
              go_wp2
              go_region
              all_goals
                go_wp2
                go_roundw
                case rel => exact ⟨j + 1, by omega, by go_num, HX.out.of_block (Below.heap_setCell _ _ _ _ hgne), ⟨_, HRK.out.set _ _, fun j' hj' => by rw [if_neg (by omega)]; exact HHH.out j' (by omega)⟩, (HB7.out.drew).setCell (by show w5.heap.size ≤ g; omega) _⟩
                case measure => simp [intOf] <;> omega
            · obtain rfl : m = j := by omega
              clear HR
              go_wp2_with (go_at_call 18; refine (HEQ.out _ HB7.out).mono ?_; rintro e w8 ⟨rfl, hb8⟩; have HB8 : Hid (Below w.heap.size w w8) := HB5.out.trans (hb8.out.mono HB5.out.size))
              go_ret
              exact ⟨rfl, HB8.out⟩
end Go.Proofs.Ymbrcq.lawS930003JBuilt
