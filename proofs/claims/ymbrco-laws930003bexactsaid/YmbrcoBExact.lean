/-
  Ymbrco: the walk of 'LawS930003BExact'.
-/
import Derived.Test.YmbrcoBset
import Derived.Test.YmbrcoBfuns
import Derived.Test.YmbrcoClass
namespace Go.Proofs.Ymbrco
open Go.ChangeShapes Go.WideShapes Go.ChangeAt Go.RowKit
set_option linter.unusedVariables false

/-- A record by value that came in. -/
theorem open_rec {H : Type} {enc : TypeId × Value → H} {W : World} {b0 : Nat} {v : Value} {d : DataW H} {p : List MemPlace} (hv : Value.okWide Ycom.prog W .any b0 36 v)
    (h : DataW.Trod enc Ycom.prog W 0 (fun _ => true) true 36 v d p) :
    ∃ t a len cap z, v = .agg #[.int .u8 t, .slice a len cap] ∧ (0 ≤ t ∧ t ≤ 255) ∧ len ≤ cap ∧ cap ≤ 9223372036854775807 ∧ (a = none → len = 0 ∧ cap = 0) ∧ IsByte z ∧ BytesAt W a len z := by
  obtain ⟨cs, rfl, hsz⟩ := okWide_struct Ycom.underlying36 hv
  rw [Ycom.cells36] at hsz
  obtain ⟨fuel, hf⟩ := h
  obtain ⟨xs, k, hk, hxy, _, hxl, hff⟩ := DataW.trod_struct Ycom.underlying36 hf
  obtain ⟨l⟩ := cs
  match xs, hxl, l, hsz with
  | [y0, y1], _, [v0, v1], _ =>
    have g0 := hff 0 _ rfl
    have g1 := hff 1 _ rfl
    simp [Value.cells, Ycom.cells5, Ycom.cells22] at g0 g1
    obtain ⟨t, e0, _, wt⟩ := DataW.trod_int Ycom.underlying5 g0
    simp at e0
    subst e0
    have hsl : ∃ a l c, v1 = .slice a l c := by
      rcases DataW.trod_slice Ycom.underlying22 g1 with ⟨e, _⟩ | ⟨a, l, c, _, _, _, _, e, _⟩
      · exact ⟨none, 0, 0, by simpa using e⟩
      · exact ⟨some a, l, c, by simpa using e⟩
    obtain ⟨a1, l1, c1, rfl⟩ := hsl
    obtain ⟨h1, h2, h3, z, hz, hb⟩ := open_bytes g1
    exact ⟨t, a1, l1, c1, z, rfl, u8_of_wf wt, h1, h2, h3, hz, hb⟩
end Go.Proofs.Ymbrco

namespace Go.Proofs.Ymbrco.lawS930003BExact
open Go.RowKit Go.Proofs.Ymbrco
set_option linter.unusedVariables false

theorem rowIs_drewN {w : World} {g t n : Nat} {f : Nat → Value} (h : w.rowIs g t n f) (k : Nat) : (w.drewN k).rowIs g t n f := h

def via (r : Recs) (l : List Nat) : Recs := ⟨fun p => r.T (l.getD p 0), fun p => r.A (l.getD p 0), fun p => r.L (l.getD p 0), fun p => r.C (l.getD p 0), fun p => r.Z (l.getD p 0)⟩

theorem others_at {w : World} {g N : Nat} {f : Nat → Value} {r : Recs} {gg : Nat → Nat} {l : List Nat} (h : Others f r gg l) (hrow : w.rowIs g 36 N f) (lo cnt off : Nat) (hg : ∀ q, q < cnt → gg (lo + q) = off + q) (hle : lo + cnt ≤ l.length) (hN : (off + cnt) * 2 ≤ N) :
    RecsAt w (some ⟨g, off * 2, none⟩) cnt (via r (l.drop lo)) := by
  intro _
  have key : ∀ q, q < cnt → recAt f r (off + q) ((l.drop lo).getD q 0) := by
    intro q hq
    rw [← hg q hq]
    refine h (lo + q) _ ?_
    rw [List.getD_eq_getElem?_getD, List.getElem?_drop, List.getElem?_eq_getElem (by omega)]
    rfl
  refine ⟨g, off * 2, rfl, fun i hi => ?_, fun i hi => ?_⟩
  · rw [hrow.cell (by omega), ← Nat.add_mul, (key i hi).1]
    rfl
  · rw [hrow.cell (by omega), ← Nat.add_mul, (key i hi).2]
    rfl

theorem via_lt {r : Recs} {t : Int} {n lo q : Nat} (hq : lo + q < (oth r.T t n).length) : ((oth r.T t n).drop lo).getD q 0 < n := by
  rw [List.getD_eq_getElem?_getD, List.getElem?_drop, List.getElem?_eq_getElem hq]
  exact oth_lt (List.getElem_mem hq)

/-- What stays through the calls at the end. -/
structure Facts (w w' : World) (H G p m : Nat) (Q1 Q2 : Recs) : Prop where
  a : RecsAt w' (some ⟨H, 0 * 2, none⟩) p Q1
  b : RecsAt w' (some ⟨G, 0 * 2, none⟩) p Q1
  c : RecsAt w' (some ⟨H, (p + 1) * 2, none⟩) (m - p) Q2
  d : RecsAt w' (some ⟨G, p * 2, none⟩) (m - p) Q2
  bel : Below w.heap.size w w'
theorem Facts.below {w w' w2 : World} {H G p m : Nat} {Q1 Q2 : Recs} (h : Facts w w' H G p m Q1 Q2) (hb : Below w'.heap.size w' w2) : Facts w w2 H G p m Q1 Q2 :=
  ⟨h.a.below hb, h.b.below hb, h.c.below hb, h.d.below hb, h.bel.trans (hb.mono h.bel.size)⟩

abbrev box (t : Int) (S : Value) (q : Nat) : Value := if q = 0 then .int .u8 t else S

set_option maxRecDepth 100000 in
set_option maxHeartbeats 4000000 in
theorem walk (a : Option Addr) (n c : Nat) (r : Recs) (t : Int) (ra : Option Addr) (rl rc : Nat) (rz : Nat → Int) (pick : Int) (w : World) (hl : n ≤ c) (hc : c ≤ 9223372036854775807) (_hn : a = none → n = 0 ∧ c = 0) (hz : RecsOk n r ∧ RecsAt w a n r ∧ ValsAt w n r)
    (hr : (0 ≤ t ∧ t ≤ 255) ∧ rl ≤ rc ∧ rc ≤ 9223372036854775807 ∧ (ra = none → rl = 0 ∧ rc = 0) ∧ IsByte rz ∧ BytesAt w ra rl rz) (hpk : 0 ≤ pick ∧ pick ≤ 255) :
    Calls Ycom.prog 6 #[.slice a n c, .agg #[.int .u8 t, .slice ra rl rc], .int .u8 pick] w fun e w' => e = .returned (.bool true) ∧ Below w.heap.size w w' := by
  obtain ⟨hok, ha, hv⟩ := hz
  by_cases hbig : 1024 < n
  · clear ha hv hok _hn hr
    go_enter Ycom.func6, Ycom.ntmps6
    go_wp2
    go_ret
    exact ⟨rfl, (Below.refl _ _).alloc (Nat.le_refl _) _⟩
  have HA : Hid (RecsAt w a n r) := ha
  have HV : Hid (∀ i, i < n → r.L i ≤ 9223372036854775807 ∧ (0 < r.L i → ∃ b off, r.A i = some ⟨b, off, none⟩)) := fun i hi => ⟨by have := hok.hL i hi; have := hok.hC i hi; omega, fun hp => by obtain ⟨b, off, e, _⟩ := hv i hi hp; exact ⟨b, off, e⟩⟩
  have HRV : Hid (rl ≤ 9223372036854775807 ∧ (0 < rl → ∃ b off, ra = some ⟨b, off, none⟩)) := ⟨by omega, fun hp => by obtain ⟨b, off, e, _⟩ := hr.2.2.2.2.2 hp; exact ⟨b, off, e⟩⟩
  have HK : Hid (RecsOk n r) := hok
  have hni : (n : Int) ≤ 1000000 := by omega
  clear ha hv hok _hn hr
  have HBA : Hid (∀ w1, w1 = w.alloc (.cells #[.int .u8 t, .slice ra rl rc] 36) → Calls Ycom.prog 21 #[.slice a n c, .agg #[.int .u8 t, .slice ra rl rc], .int .u8 pick] w1 fun e w' => (∃ t', e = .returned (.agg #[.int .u8 t', .slice ra rl rc])) ∧ Hid (w'.rowIs w.heap.size 36 2 (box t (.slice ra rl rc))) ∧ Hid (Below w.heap.size w w') ∧ w.heap.size < w'.heap.size) := by
    rintro w1 rfl
    have hb0 : Below w.heap.size w (w.alloc (.cells #[.int .u8 t, .slice ra rl rc] 36)) := (Below.refl _ _).alloc (Nat.le_refl _) _
    have hsz : (w.alloc (.cells #[.int .u8 t, .slice ra rl rc] 36)).heap.size = w.heap.size + 1 := by simp
    refine (baim_calls a n c r t ra rl rc pick _ hni hpk HK.out (HA.out.below hb0)).mono ?_
    rintro e w' ⟨⟨t', _, rfl⟩, hb⟩
    exact ⟨⟨t', rfl⟩, rowIs_below (rowIs_rec w (.int .u8 t) (.slice ra rl rc)) hb (by omega), hb0.trans (hb.mono (by omega)), by have := hb.size; omega⟩
  go_enter Ycom.func6, Ycom.ntmps6
  go_wp2_with (go_at_call 21; refine (HBA.out _ rfl).mono ?_; rintro e w1 ⟨⟨t1, rfl⟩, HX1, HB1, hgw1⟩; have y0 : w1.cell? ⟨w.heap.size, 0, none⟩ = some (.int .u8 t) := HX1.out.cell (show 0 < 2 by omega); have y1 : w1.cell? ⟨w.heap.size, 1, none⟩ = some (.slice ra rl rc) := HX1.out.cell (show 1 < 2 by omega); have f0 : w1.frozen? ⟨w.heap.size, 0, none⟩ = false := HX1.out.frozen _; have f1 : w1.frozen? ⟨w.heap.size, 1, none⟩ = false := HX1.out.frozen _)
  go_loopw [7] (fun pv wr => ∃ k : Nat, k ≤ n ∧ pv = .int .i64 k ∧ Hid (∀ i, i < k → r.T i ≠ t1) ∧ w.heap.size < wr.heap.size ∧ Hid (wr.rowIs w.heap.size 36 2 (box t1 (.slice ra rl rc))) ∧ Hid (Below w.heap.size w wr)) (fun pv _ => n - (intOf pv).toNat)
  case atStart =>
    refine ⟨0, Nat.zero_le _, rfl, fun i hi => absurd hi (Nat.not_lt_zero _), by simp; omega, ?_, (HB1.out.setCell (Nat.le_refl _) _).setCell (Nat.le_refl _) _⟩
    refine ((HX1.out.set 0 (.int .u8 t1)).set 1 (.slice ra rl rc)).congr ?_
    intro j hj
    match j, hj with
    | 0, _ => rfl
    | 1, _ => rfl
  case round =>
    clear HX1 HB1 y0 y1 f0 f1 hgw1 HBA
    obtain ⟨p, hp, rfl, HNO, hgw, HX, HB⟩ := hrel
    have x0 : wr.cell? ⟨w.heap.size, 0, none⟩ = some (.int .u8 t1) := HX.out.cell (show 0 < 2 by omega)
    have x1 : wr.cell? ⟨w.heap.size, 1, none⟩ = some (.slice ra rl rc) := HX.out.cell (show 1 < 2 by omega)
    by_cases hgo : p < n ∧ r.T p ≠ t1
    · obtain ⟨hlt, hne⟩ := hgo
      obtain ⟨ab, off, rfl, hT, hS⟩ := HA.out (by omega)
      have hc0 := hT p hlt
      have t0 : wr.cell? ⟨ab, off + p * 2, none⟩ = some (.int .u8 (r.T p)) := (HB.out.cell (World.block_lt_of_cell? _ _ hc0)).trans hc0
      have hl2 : (p : Int) < (n : Int) := by omega
      have hbq : (r.T p == t1) = false := by simp [hne]
      have hbq2 : decide (r.T p = t1) = false := by simp [hne]
      have HNE : Hid (r.T p ≠ t1) := hne
      clear hT hS hc0 hne
      go_wp2
      go_quiet (fail)
      go_wp2
      go_roundw
      case rel => exact ⟨p + 1, by omega, by go_num, fun i hi => by (rcases Nat.lt_succ_iff_lt_or_eq.1 hi with h | rfl; exact HNO.out i h; exact HNE.out), hgw, HX.out, HB.out.trans ((below_drewN wr _).mono HB.out.size)⟩
      case measure => simp [intOf] <;> omega
    · have HF : Hid (FirstAt r.T t1 n p) := ⟨hp, HNO.out, fun h => by by_cases e : r.T p = t1; exact e; exact absurd ⟨h, e⟩ hgo⟩
      have hcase : (p < n ∧ r.T p = t1) ∨ ¬ p < n := by
        by_cases h : p < n
        · exact .inl ⟨h, HF.out.yes h⟩
        · exact .inr h
      have hpm := HF.out.high (k := n) hp
      have hol := oth_le r.T t1 n
      clear hgo HNO
      rcases hcase with ⟨hlt, he⟩ | hlt
      focus
        obtain ⟨ab, off, e, hT, hS⟩ := HA.out (by omega)
        subst e
        have hc0 := hT p hlt
        have t0 : wr.cell? ⟨ab, off + p * 2, none⟩ = some (.int .u8 (r.T p)) := (HB.out.cell (World.block_lt_of_cell? _ _ hc0)).trans hc0
        have hl2 : (p : Int) < (n : Int) := by omega
        have hbq : (r.T p == t1) = true := by simp [he]
        have hbq2 : decide (r.T p = t1) = true := by simp [he]
        clear hT hS hc0 he
        go_wp2
        go_quiet (fail)
        clear t0
      rotate_left
      focus
        have hl2 : ¬ (p : Int) < (n : Int) := by omega
        go_wp2
        go_quiet (fail)
      all_goals
        have HB' : Hid (Below w.heap.size w (wr.drewN nq)) := HB.out.trans ((below_drewN wr _).mono HB.out.size)
        have HX' : Hid ((wr.drewN nq).rowIs w.heap.size 36 2 (box t1 (.slice ra rl rc))) := HX.out
        obtain ⟨wo, hwo⟩ : ∃ wo, wo = wr.drewN nq := ⟨_, rfl⟩
        rw [← hwo] at HB' HX'
        have hgo : w.heap.size < wo.heap.size := by rw [hwo]; exact hgw
        rw [← hwo]
        clear HB HX x0 x1 hwo hgw
        go_wp2_with (at_make; refine wpList_mkRx _ _ rfl rfl _ _ rfl .i64 .i64 _ _ 0 n rfl rfl rfl rfl (Nat.zero_le _) (by omega) ?_; intro w2 hrow2 hb2 hs2; have HR2 : Hid (∃ f, w2.rowIs wo.heap.size 36 (n * 2) f ∧ Others f r id (oth r.T t1 0)) := ⟨_, hrow2, fun q i hq => by simp [oth] at hq⟩; have HB2 : Hid (Below w.heap.size w w2) := HB'.out.trans (hb2.mono (by omega)); have HX2 : Hid (w2.rowIs w.heap.size 36 2 (box t1 (.slice ra rl rc))) := rowIs_below HX'.out hb2 (by omega); clear hrow2 hb2)
        clear HB' HX'
        go_loopw [8, 9] (fun ov iv wr => ∃ k m : Nat, k ≤ n ∧ ov = .slice (some ⟨wo.heap.size, 0, none⟩) m n ∧ iv = .int .i64 k ∧ Hid (m = (oth r.T t1 k).length) ∧ wo.heap.size < wr.heap.size ∧ Hid (∃ f, wr.rowIs wo.heap.size 36 (n * 2) f ∧ Others f r id (oth r.T t1 k)) ∧ Hid (wr.rowIs w.heap.size 36 2 (box t1 (.slice ra rl rc))) ∧ Hid (Below w.heap.size w wr)) (fun _ iv _ => n - (intOf iv).toNat)
        case atStart => exact ⟨0, 0, Nat.zero_le _, rfl, rfl, rfl, by omega, HR2.out, HX2.out, HB2.out⟩
        case round =>
          clear HR2 HB2 HX2 hs2
          obtain ⟨k, m, hk, rfl, rfl, HM, hgw, HR, HX, HB⟩ := hrel
          obtain ⟨f, hrow, hset⟩ := HR.out
          have HF2 : Hid (wr.rowIs wo.heap.size 36 (n * 2) f) := hrow
          have HS : Hid (Others f r id (oth r.T t1 k)) := hset
          have x0 : wr.cell? ⟨w.heap.size, 0, none⟩ = some (.int .u8 t1) := HX.out.cell (show 0 < 2 by omega)
          have x1 : wr.cell? ⟨w.heap.size, 1, none⟩ = some (.slice ra rl rc) := HX.out.cell (show 1 < 2 by omega)
          have hmk : m ≤ k := by rw [HM.out]; exact oth_le _ _ _
          have hgw2 : w.heap.size < wr.heap.size := by omega
          have hm1 : m ≤ 9223372036854775807 := by omega
          have hm2 : (m : Int) ≤ 9223372036854775807 := by omega
          have hm3 : ¬ (m : Int) < 0 := by omega
          clear hrow hset HR
          by_cases hlt2 : k < n
          · obtain ⟨ab, off, e, hT, hS⟩ := HA.out (by omega)
            cases e
            have hc0 := hT k hlt2
            have hc1 := hS k hlt2
            have t0 : wr.cell? ⟨ab, off + k * 2, none⟩ = some (.int .u8 (r.T k)) := (HB.out.cell (World.block_lt_of_cell? _ _ hc0)).trans hc0
            have t1' : wr.cell? ⟨ab, off + k * 2 + 1, none⟩ = some (.slice (r.A k) (r.L k) (r.C k)) := (HB.out.cell (World.block_lt_of_cell? _ _ hc1)).trans hc1
            have hl3 : (k : Int) < (n : Int) := by omega
            clear hT hS hc0 hc1
            by_cases hTk : r.T k = t1
            · have hbq : (r.T k == t1) = true := by simp [hTk]
              have hbq2 : decide (r.T k = t1) = true := by simp [hTk]
              have HT : Hid (r.T k = t1) := hTk
              clear hTk
              go_wp2
              go_quiet (fail)
              go_wp2
              go_roundw
              case rel => exact ⟨k + 1, m, by omega, rfl, by go_num, by show m = _; rw [oth_no HT.out]; exact HM.out, hgw, ⟨f, HF2.out, by rw [oth_no HT.out]; exact HS.out⟩, HX.out, HB.out.trans ((below_drewN wr _).mono HB.out.size)⟩
              case measure => simp [intOf] <;> omega
            · have hbq : (r.T k == t1) = false := by simp [hTk]
              have hbq2 : decide (r.T k = t1) = false := by simp [hTk]
              have HT : Hid (¬ r.T k = t1) := hTk
              clear hTk
              go_wp2
              go_quiet (fail)
              go_wp2_with (at_builtin; refine wpList_appR _ rfl (.tmp 51) (.tmp 56) rfl wo.heap.size m n rfl f ((rowIs_drewN HF2.out _).alloc _) _ _ rfl (.int .u8 (r.T k)) (.slice (r.A k) (r.L k) (r.C k)) ((rowIs_rec (wr.drewN nq) _ _).cell (show 0 < 2 by omega)) ((rowIs_rec (wr.drewN nq) _ _).cell (show 1 < 2 by omega)) rfl rfl (by omega) ?_; intro w3 hrow3 hg3 hs3; have HR3 : Hid (∃ f, w3.rowIs wo.heap.size 36 (n * 2) f ∧ Others f r id (oth r.T t1 (k + 1))) := ⟨_, hrow3, by rw [oth_yes HT.out]; exact HS.out.add HM.out.symm (fun q hq => by have := HM.out; show q ≠ m; omega)⟩; have HB3 : Hid (Below w.heap.size w w3) := ((HB.out.trans ((below_drewN wr _).mono HB.out.size)).alloc HB.out.size _).trans (below_of_grown hg3 (by have := HB.out.size; simp; omega) (by omega)); have HX3 : Hid (w3.rowIs w.heap.size 36 2 (box t1 (.slice ra rl rc))) := rowIs_grown ((rowIs_drewN HX.out _).alloc _) hg3 (by omega); clear hrow3 hg3)
              go_roundw
              case rel => exact ⟨k + 1, m + 1, by omega, rfl, by go_num, by show m + 1 = _; rw [oth_yes HT.out, List.length_append, ← HM.out]; rfl, by rw [hs3]; simp; omega, HR3.out, HX3.out, HB3.out⟩
              case measure => simp [intOf] <;> omega
          · obtain rfl : n = k := by omega
            obtain ⟨Q1, hQ1⟩ : ∃ Q, Q = via r ((oth r.T t1 n).drop 0) := ⟨_, rfl⟩
            obtain ⟨Q2, hQ2⟩ : ∃ Q, Q = via r ((oth r.T t1 n).drop p) := ⟨_, rfl⟩
            have hm0 := HM.out
            have hpm2 : p ≤ m := by omega
            have hpm3 : (p : Int) ≤ (m : Int) := by omega
            have HV1 : Hid (∀ i, i < p → Q1.L i ≤ 9223372036854775807 ∧ (0 < Q1.L i → ∃ b off, Q1.A i = some ⟨b, off, none⟩)) := by rw [hQ1]; exact fun i hi => HV.out _ (via_lt (by omega))
            have HV2 : Hid (∀ i, i < m - p → Q2.L i ≤ 9223372036854775807 ∧ (0 < Q2.L i → ∃ b off, Q2.A i = some ⟨b, off, none⟩)) := by rw [hQ2]; exact fun i hi => HV.out _ (via_lt (by omega))
            have HSet : Hid (∀ aa, Hid (RecsAt w aa n r) → Calls Ycom.prog 22 #[.slice aa n c, .agg #[.int .u8 t1, .slice ra rl rc]] wr fun e w' => e = .returned (.slice (some ⟨wr.heap.size + 1, 0, none⟩) (m + 1) (n + 1)) ∧ Hid (Facts w w' (wr.heap.size + 1) wo.heap.size p m Q1 Q2) ∧
                w'.cell? ⟨wr.heap.size + 1, p * 2, none⟩ = some (.int .u8 t1) ∧ w'.cell? ⟨wr.heap.size + 1, p * 2 + 1, none⟩ = some (.slice ra rl rc) ∧ w'.cell? ⟨w.heap.size, 0, none⟩ = some (.int .u8 t1) ∧ w'.cell? ⟨w.heap.size, 1, none⟩ = some (.slice ra rl rc)) := by
              intro aa haa
              refine (set_calls aa n c r t1 ra rl rc p wr hni HK.out (haa.out.below HB.out) HF.out).mono ?_
              rintro e w' ⟨rfl, hid, hb⟩
              obtain ⟨f2, hrow2, hall⟩ := hid.out
              have hG := rowIs_below HF2.out hb hgw
              have hX := rowIs_below HX.out hb hgw2
              refine ⟨by rw [hm0], ⟨?_, ?_, ?_, ?_, HB.out.trans (hb.mono HB.out.size)⟩, ?_, ?_, hX.cell (show 0 < 2 by omega), hX.cell (show 1 < 2 by omega)⟩
              · rw [hQ1]; exact others_at hall.hoth hrow2 0 p 0 (fun q hq => by unfold sh; rw [if_pos (by omega)]) (by omega) (by omega)
              · rw [hQ1]; exact others_at HS.out hG 0 p 0 (fun q hq => rfl) (by omega) (by omega)
              · rw [hQ2]; exact others_at hall.hoth hrow2 p (m - p) (p + 1) (fun q hq => by unfold sh; rw [if_neg (by omega)]; omega) (by omega) (by omega)
              · rw [hQ2]; exact others_at HS.out hG p (m - p) p (fun q hq => rfl) (by omega) (by omega)
              · rw [hrow2.cell (by omega), hall.at0]
              · rw [hrow2.cell (by omega), hall.at1]
            obtain ⟨G, hG⟩ : ∃ G : World → Prop, G = fun w' => Facts w w' (wr.heap.size + 1) wo.heap.size p m Q1 Q2 ∧ w'.cell? ⟨wr.heap.size + 1, p * 2, none⟩ = some (.int .u8 t1) ∧ w'.cell? ⟨wr.heap.size + 1, p * 2 + 1, none⟩ = some (.slice ra rl rc) ∧ w'.cell? ⟨w.heap.size, 0, none⟩ = some (.int .u8 t1) ∧ w'.cell? ⟨w.heap.size, 1, none⟩ = some (.slice ra rl rc) := ⟨_, rfl⟩
            have HGB : Hid (∀ w1 w2, G w1 → Below w1.heap.size w1 w2 → G w2) := by
              intro w1 w2 h hb
              rw [hG] at h ⊢
              obtain ⟨hf, h0, h1, h2, h3⟩ := h
              exact ⟨hf.below hb, (hb.cell (World.block_lt_of_cell? _ _ h0)).trans h0, (hb.cell (World.block_lt_of_cell? _ _ h1)).trans h1, (hb.cell (World.block_lt_of_cell? _ _ h2)).trans h2, (hb.cell (World.block_lt_of_cell? _ _ h3)).trans h3⟩
            have HGF : Hid (∀ w1, G w1 → Facts w w1 (wr.heap.size + 1) wo.heap.size p m Q1 Q2) := by
              intro w1 h
              rw [hG] at h
              exact h.1
            have HGD : Hid (∀ w1, G w1 → Facts w w1 (wr.heap.size + 1) wo.heap.size p m Q1 Q2 ∧ w1.cell? ⟨wr.heap.size + 1, p * 2, none⟩ = some (.int .u8 t1) ∧ w1.cell? ⟨wr.heap.size + 1, p * 2 + 1, none⟩ = some (.slice ra rl rc) ∧ w1.cell? ⟨w.heap.size, 0, none⟩ = some (.int .u8 t1) ∧ w1.cell? ⟨w.heap.size, 1, none⟩ = some (.slice ra rl rc)) := by
              intro w1 h
              rw [hG] at h
              exact h
            have c0 : ∀ s : GW G, s.w.cell? ⟨wr.heap.size + 1, p * 2, none⟩ = some (.int .u8 t1) := fun s => (HGD.out _ s.ok).2.1
            have c1 : ∀ s : GW G, s.w.cell? ⟨wr.heap.size + 1, p * 2 + 1, none⟩ = some (.slice ra rl rc) := fun s => (HGD.out _ s.ok).2.2.1
            have c2 : ∀ s : GW G, s.w.cell? ⟨w.heap.size, 0, none⟩ = some (.int .u8 t1) := fun s => (HGD.out _ s.ok).2.2.2.1
            have c3 : ∀ s : GW G, s.w.cell? ⟨w.heap.size, 1, none⟩ = some (.slice ra rl rc) := fun s => (HGD.out _ s.ok).2.2.2.2
            have HSame : Hid (∀ s : GW G, Calls Ycom.prog 23 #[.agg #[.int .u8 t1, .slice ra rl rc], .agg #[.int .u8 t1, .slice ra rl rc]] s.w fun e w' => e = .returned (.bool true) ∧ ∃ s' : GW G, w' = s'.w) := by
              intro s
              refine (bsame_calls t1 ra rl rc rc s.w HRV.out.1 HRV.out.2).mono ?_
              rintro e w' ⟨rfl, hb⟩
              exact ⟨rfl, ⟨w', HGB.out _ _ s.ok hb⟩, rfl⟩
            have HBall1 : Hid (∀ s : GW G, Calls Ycom.prog 24 #[.slice (some ⟨wr.heap.size + 1, 0, none⟩) p (n + 1), .slice (some ⟨wo.heap.size, 0, none⟩) p n] s.w fun e w' => e = .returned (.bool true) ∧ ∃ s' : GW G, w' = s'.w) := by
              intro s
              refine (ball_calls _ _ p p _ _ Q1 s.w rfl (by omega) (HGF.out _ s.ok).a (HGF.out _ s.ok).b HV1.out).mono ?_
              rintro e w' ⟨rfl, hb⟩
              exact ⟨rfl, ⟨w', HGB.out _ _ s.ok hb⟩, rfl⟩
            have HBall2 : Hid (∀ (s : GW G) (o1 o2 : Nat), (m - p = 0 ∨ (o1 = (p + 1) * 2 ∧ o2 = p * 2)) → Calls Ycom.prog 24 #[.slice (some ⟨wr.heap.size + 1, o1, none⟩) (m - p) (n - p), .slice (some ⟨wo.heap.size, o2, none⟩) (m - p) (n - p)] s.w fun e w' => e = .returned (.bool true) ∧ ∃ s' : GW G, w' = s'.w) := by
              intro s o1 o2 hor
              have h1 : RecsAt s.w (some ⟨wr.heap.size + 1, o1, none⟩) (m - p) Q2 ∧ RecsAt s.w (some ⟨wo.heap.size, o2, none⟩) (m - p) Q2 := by
                rcases hor with h | ⟨rfl, rfl⟩
                · rw [h]
                  exact ⟨fun h => absurd h (Nat.lt_irrefl _), fun h => absurd h (Nat.lt_irrefl _)⟩
                · exact ⟨(HGF.out _ s.ok).c, (HGF.out _ s.ok).d⟩
              refine (ball_calls _ _ (m - p) (m - p) _ _ Q2 s.w rfl (by omega) h1.1 h1.2 HV2.out).mono ?_
              rintro e w' ⟨rfl, hb⟩
              exact ⟨rfl, ⟨w', HGB.out _ _ s.ok hb⟩, rfl⟩
            have HSet2 : Hid (∀ aa, Hid (RecsAt w aa n r) → Calls Ycom.prog 22 #[.slice aa n c, .agg #[.int .u8 t1, .slice ra rl rc]] wr fun e w' => e = .returned (.slice (some ⟨wr.heap.size + 1, 0, none⟩) (m + 1) (n + 1)) ∧ ∃ s' : GW G, w' = s'.w) := by
              intro aa haa
              refine (HSet.out aa haa).mono ?_
              rintro e w' ⟨rfl, hf, h0, h1, h2, h3⟩
              exact ⟨rfl, ⟨w', by rw [hG]; exact ⟨hf.out, h0, h1, h2, h3⟩⟩, rfl⟩
            have hwr : IntKind.i64.wrap ((m : Int) + 1) = (m : Int) + 1 := by rw [IntKind.wrap_i64]; omega
            have hwp : IntKind.i64.wrap ((p : Int) + 1) = (p : Int) + 1 := by rw [IntKind.wrap_i64]; omega
            have hpi : (p : Int) < (m : Int) + 1 := by omega
            have hpn2 : p < m + 1 := by omega
            clear hm0 hQ1 hQ2 hG HSet HF2 HS HX HB HM
            go_wp2_with (go_at_call 22; refine (HSet2.out _ HA).mono ?_; rintro e w5 ⟨rfl, s5, rfl⟩)
            have hnon : Nonempty (GW G) := ⟨s5⟩
            refine wp_region_class (G := G) (by kernel_rfl) (by kernel_rfl) (HGB.out _ _ s5.ok (below_drewN _ _)) ?_
            repeat (go_big_quiet_step ((go_at_call 23; exact HSame.out _)))
            refine wpQuiet_nil ?_
            intro s6
            go_wp2
            have hm2' : m ≤ n := hmk
            refine wp_region_class (G := G) (by kernel_rfl) (by kernel_rfl) (HGB.out _ _ s6.ok (below_drewN _ _)) ?_
            repeat (go_big_quiet_step (fail))
            go_big_quiet_step ((go_at_call 24; exact HBall1.out _))
            repeat (go_big_quiet_step (fail))
            go_big_quiet_step ((go_at_call 24; exact HBall2.out _ _ _ (by omega)))
            repeat (go_big_quiet_step (fail))
            refine wpQuiet_nil ?_
            intro s7
            have HE7 : Hid (Below w.heap.size w s7.w) := (HGF.out _ s7.ok).bel
            go_wp2
            go_ret
            exact ⟨rfl, HE7.out⟩
end Go.Proofs.Ymbrco.lawS930003BExact
