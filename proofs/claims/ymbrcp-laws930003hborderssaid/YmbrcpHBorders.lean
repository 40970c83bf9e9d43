/-
  Ymbrcp: the walk of 'LawS930003HBorders'.
-/
import Derived.Test.YmbrcpHwalk
import Derived.Test.YmbrcpAppRec
import Derived.Test.YmbrcpPicks
import Derived.Deep.Cut
import Derived.Deep.CutRange
namespace Go.Proofs.Ymbrcp.lawS930003HBorders
open Go.RowKit Go.Proofs.Ymbrcp
set_option linter.unusedVariables false

/-- A row of k records whose values are heads of the row B. -/
def HeadsOf (f : Nat → Value) (B k : Nat) : Prop := ∀ i, i < k → ∃ t m, (0 ≤ t ∧ t ≤ 255) ∧ m ≤ 65537 ∧ f (i * 2) = .int .u8 t ∧ f (i * 2 + 1) = .slice (some ⟨B, 0, none⟩) m 65537
def BuiltV (w : World) (g cap k B : Nat) : Prop := ∃ f, w.rowIs g 27 (cap * 2) f ∧ HeadsOf f B k

theorem BuiltV.start {w : World} {g cap B : Nat} {f : Nat → Value} (h : w.rowIs g 27 (cap * 2) f) : BuiltV w g cap 0 B := ⟨f, h, fun i hi => absurd hi (Nat.not_lt_zero _)⟩
theorem BuiltV.step {w : World} {g cap k B : Nat} {f : Nat → Value} {t : Int} {m : Nat} (hf : HeadsOf f B k) (ht : 0 ≤ t ∧ t ≤ 255) (hm : m ≤ 65537)
    (h : w.rowIs g 27 (cap * 2) (putR k (.int .u8 t) (.slice (some ⟨B, 0, none⟩) m 65537) f)) : BuiltV w g cap (k + 1) B := by
  refine ⟨_, h, fun i hi => ?_⟩
  by_cases e : i = k
  · subst e
    refine ⟨t, m, ht, hm, ?_, ?_⟩
    · unfold putR; rw [if_neg (by omega), if_pos rfl]
    · unfold putR; rw [if_pos rfl]
  · obtain ⟨t', m', h0, h1, h2, h3⟩ := hf i (by omega)
    refine ⟨t', m', h0, h1, ?_, ?_⟩
    · unfold putR; rw [if_neg (by omega), if_neg (by omega), h2]
    · unfold putR; rw [if_neg (by omega), if_neg (by omega), h3]

theorem BuiltV.recs {w : World} {g cap k B : Nat} {y : Nat → Int} (h : BuiltV w g cap k B) (hk : k ≤ cap) (hB : w.rowIs B 5 65537 (fun j => .int .u8 (y j))) (hy : IsByte y) :
    ∃ r : Recs, RecsOk k r ∧ RecsAt w (some ⟨g, 0, none⟩) k r ∧ ValsAt w k r := by
  obtain ⟨f, hrow, hf⟩ := h
  have each : ∀ i, i < k → ∃ q : Int × Nat, (0 ≤ q.1 ∧ q.1 ≤ 255) ∧ q.2 ≤ 65537 ∧ f (i * 2) = .int .u8 q.1 ∧ f (i * 2 + 1) = .slice (some ⟨B, 0, none⟩) q.2 65537 := by
    intro i hi
    obtain ⟨t, m, h0, h1, h2, h3⟩ := hf i hi
    exact ⟨(t, m), h0, h1, h2, h3⟩
  have inh : Inhabited (Int × Nat) := ⟨(0, 0)⟩
  obtain ⟨q, hq⟩ := Go.Deep.choose_lt each
  refine ⟨⟨fun i => (q i).1, fun _ => some ⟨B, 0, none⟩, fun i => (q i).2, fun _ => 65537, fun _ => y⟩, ⟨fun i hi => (hq i hi).1, fun i hi => (hq i hi).2.1, fun i _ => by show (65537 : Nat) ≤ _; omega, fun _ => hy, fun i _ e => by simp at e⟩, fun _ => ⟨g, 0, rfl, fun i hi => ?_, fun i hi => ?_⟩, fun i hi => ?_⟩
  · rw [Nat.zero_add, hrow.cell (by omega), (hq i hi).2.2.1]
  · rw [Nat.zero_add, hrow.cell (by omega), (hq i hi).2.2.2]
  · exact rowIs_bytes0 hB _ (hq i hi).2.1

theorem rowIs_drew {w : World} {g t n : Nat} {f : Nat → Value} (h : w.rowIs g t n f) : w.drew.rowIs g t n f := h

theorem u8_nat (z : Int) : ∃ x : Int, IntKind.u8.wrap z = x ∧ (0 ≤ x ∧ x ≤ 255) := by
  refine ⟨z % 256, ?_, by omega⟩
  simp [IntKind.wrap, IntKind.bits, IntKind.signed]

set_option maxRecDepth 100000 in
set_option maxHeartbeats 4000000 in
theorem walk (a : Option Addr) (n c : Nat) (p : Nat → Int × Int × Int) (sd : Int) (hv : Bool) (w : World) (hl : n ≤ c) (hc : c ≤ 9223372036854775807) (hn : a = none → n = 0 ∧ c = 0)
    (hz : (∀ i, i < n → (0 ≤ (p i).1 ∧ (p i).1 ≤ 255) ∧ (0 ≤ (p i).2.1 ∧ (p i).2.1 ≤ 255) ∧ (0 ≤ (p i).2.2 ∧ (p i).2.2 ≤ 255)) ∧ PicksAt w a n p) (hsd : 0 ≤ sd ∧ sd ≤ 255) :
    Calls Ycpm.prog 13 #[.slice a n c, .int .u8 sd, .bool hv] w fun e w' => e = .returned (.bool true) ∧ Below w.heap.size w w' := by
  by_cases hbig : 1024 < n
  · clear hn hz
    go_enter Ycpm.func13, Ycpm.ntmps13
    go_wp2
    go_ret
    exact ⟨rfl, Below.refl _ _⟩
  have HZ : Hid (∀ i, i < n → (0 ≤ (p i).1 ∧ (p i).1 ≤ 255) ∧ (0 ≤ (p i).2.1 ∧ (p i).2.1 ≤ 255) ∧ (0 ≤ (p i).2.2 ∧ (p i).2.2 ≤ 255)) := hz.1
  have HP : Hid (PicksAt w a n p) := hz.2
  clear hn hz
  go_enter Ycpm.func13, Ycpm.ntmps13
  go_wp2_with (at_make; refine wpList_mkBx _ _ rfl rfl _ _ rfl .i64 .i64 _ _ 65537 65537 rfl rfl (by omega) (by omega) (by omega) (by omega) ?_; intro w1 hrow hb hs1; have HR1 : Hid (w1.rowIs w.heap.size 5 65537 (fun _ => .int .u8 0)) := hrow; have HB1 : Hid (Below w.heap.size w w1) := hb; clear hrow hb)
  go_loopw [8] (fun i wr => ∃ k : Nat, k ≤ 65537 ∧ i = .int .i64 k ∧ (∃ y : Nat → Int, IsByte y ∧ Hid (wr.rowIs w.heap.size 5 65537 (fun j => .int .u8 (y j)))) ∧ wr.heap.size = w.heap.size + 1 ∧ Hid (Below w.heap.size w wr)) (fun i _ => 65537 - (intOf i).toNat)
  case atStart => exact ⟨0, Nat.zero_le _, rfl, ⟨fun _ => 0, fun _ => by simp, HR1.out⟩, hs1, HB1.out⟩
  case round =>
    clear HR1 HB1
    obtain ⟨k, hk, rfl, ⟨y, hy, HR⟩, hsz, HB⟩ := hrel
    have HY : Hid (IsByte y) := hy
    clear hy
    by_cases hlt : k < 65537
    · have d1 : wr.cell? ⟨w.heap.size, k, none⟩ = some (.int .u8 (y k)) := HR.out.cell hlt
      have f1 : wr.frozen? ⟨w.heap.size, k, none⟩ = false := HR.out.frozen k
      have hk2 : (k : Int) < 65537 := by omega
      go_wp2
      go_roundw
      case rel =>
        refine ⟨k + 1, by omega, by go_num, ⟨fun j => if j = k then (sd + (k : Int) * 7) % 256 else y j, fun j => ?_, (HR.out.set k _).congr fun j _ => by by_cases e : j = k <;> simp [e]⟩, by simp [hsz], HB.out.setCell (Nat.le_refl _) _⟩
        show 0 ≤ (if j = k then (sd + (k : Int) * 7) % 256 else y j) ∧ (if j = k then (sd + (k : Int) * 7) % 256 else y j) ≤ 255
        split
        · omega
        · exact HY.out j
      case measure => simp [intOf] <;> omega
    · obtain rfl : k = 65537 := by omega
      go_upto_if 35 with (at_make; refine wpList_mkRx _ (w.heap.size + 1) hsz rfl _ _ rfl .i64 .i64 _ _ 0 (n + 15) rfl rfl rfl (by omega) (by omega) (by omega) ?_; intro w2 hrow hb hs2; have HR2 : Hid (BuiltV w2 (w.heap.size + 1) (n + 15) 0 w.heap.size) := BuiltV.start hrow; have HB2 : Hid (Below w.heap.size w w2) := HB.out.trans (hb.mono (by omega)); have HY2 : Hid (w2.rowIs w.heap.size 5 65537 (fun j => .int .u8 (y j))) := rowIs_below HR.out hb (by omega); clear hrow hb)
      go_cut [9, 10] from 36 to 47 (fun rs s10 wx => ∃ K : Nat, K ≤ 15 ∧ rs = .slice (some ⟨w.heap.size + 1, 0, none⟩) K (n + 15) ∧ Hid (BuiltV wx (w.heap.size + 1) (n + 15) K w.heap.size) ∧ Hid (wx.rowIs w.heap.size 5 65537 (fun j => .int .u8 (y j))) ∧ Hid (Below w.heap.size w wx))
      case first =>
        cases hv with
        | true =>
          go_wp2
          go_loopw [9, 10] (fun rs i wr => ∃ k : Nat, k ≤ 15 ∧ i = .int .i64 k ∧ rs = .slice (some ⟨w.heap.size + 1, 0, none⟩) k (n + 15) ∧ Hid (BuiltV wr (w.heap.size + 1) (n + 15) k w.heap.size) ∧ Hid (wr.rowIs w.heap.size 5 65537 (fun j => .int .u8 (y j))) ∧ Hid (Below w.heap.size w wr)) (fun _ i _ => 15 - (intOf i).toNat)
          case atStart => exact ⟨0, Nat.zero_le _, rfl, rfl, HR2.out, HY2.out, HB2.out⟩
          case round =>
            clear HR2 HB2 HY2 HB HR
            obtain ⟨k, hk, rfl, rfl, HR3, HY3, HB3⟩ := hrel
            by_cases hlt : k < 15
            · obtain ⟨f, hrow, hf⟩ := HR3.out
              have HF : Hid (wr.rowIs (w.heap.size + 1) 27 ((n + 15) * 2) f) := hrow
              have HF2 : Hid (HeadsOf f w.heap.size k) := hf
              have hsz4 := hrow.lt
              clear hrow hf HR3
              go_wp2_with (at_builtin; refine wpList_appR _ rfl (.tmp 40) (.tmp 46) rfl (w.heap.size + 1) k (n + 15) rfl f (HF.out.alloc _) _ _ rfl (.int .u8 (k : Int)) (.slice (some ⟨w.heap.size, 0, none⟩) 65535 65537) (by simp) (by simp) rfl rfl (by omega) ?_; intro w5 hrow5 hg5 hs5; have HR5 : Hid (BuiltV w5 (w.heap.size + 1) (n + 15) (k + 1) w.heap.size) := BuiltV.step HF2.out (by omega) (by omega) hrow5; have HB5 : Hid (Below w.heap.size w w5) := (HB3.out.alloc HB3.out.size _).trans (below_of_grown hg5 (by have := HB3.out.size; simp; omega) (by omega)); have HY5 : Hid (w5.rowIs w.heap.size 5 65537 (fun j => .int .u8 (y j))) := rowIs_grown (HY3.out.alloc _) hg5 (by omega); clear hrow5 hg5)
              go_roundw
              case rel => exact ⟨k + 1, by omega, by go_num, rfl, HR5.out, HY5.out, HB5.out⟩
              case measure => simp [intOf] <;> omega
            · obtain rfl : k = 15 := by omega
              go_wp2
              go_meet
              exact ⟨15, by omega, rfl, HR3.out, HY3.out, HB3.out⟩
        | false =>
          go_wp2
          go_meet
          exact ⟨0, by omega, rfl, HR2.out, HY2.out, HB2.out⟩
      case rest =>
        clear HR2 HB2 HY2 HB HR
        obtain ⟨K0, hK0, rfl, HR3, HY3, HB3⟩ := hcut
        go_wp2
        go_loopw [9, 11] (fun rs i wr => ∃ k : Nat, k ≤ n ∧ i = .int .i64 k ∧ (∃ q, q = K0 + k ∧ rs = .slice (some ⟨w.heap.size + 1, 0, none⟩) q (n + 15)) ∧ Hid (BuiltV wr (w.heap.size + 1) (n + 15) (K0 + k) w.heap.size) ∧ Hid (wr.rowIs w.heap.size 5 65537 (fun j => .int .u8 (y j))) ∧ Hid (Below w.heap.size w wr)) (fun _ i _ => n - (intOf i).toNat)
        case atStart => exact ⟨0, Nat.zero_le _, rfl, ⟨K0, rfl, rfl⟩, HR3.out, HY3.out, HB3.out⟩
        case round =>
          obtain ⟨k, hk, rfl, ⟨q, hq, rfl⟩, HR4, HY4, HB4⟩ := hrel
          by_cases hlt : k < n
          · obtain ⟨b, off, rfl, hcell⟩ := HP.out (by omega)
            obtain ⟨k0, k1, k2⟩ := hcell k hlt
            obtain ⟨z0, z1, z2⟩ := HZ.out k hlt
            obtain ⟨pt, hpt⟩ : ∃ x, (p k).1 = x := ⟨_, rfl⟩
            obtain ⟨pk, hpk⟩ : ∃ x, (p k).2.1 = x := ⟨_, rfl⟩
            obtain ⟨po, hpo⟩ : ∃ x, (p k).2.2 = x := ⟨_, rfl⟩
            rw [hpt] at k0 z0
            rw [hpk] at k1 z1
            rw [hpo] at k2 z2
            have hbl : b < w.heap.size := World.block_lt_of_cell? _ _ k0
            have c0 : wr.cell? ⟨b, off + k * 3, none⟩ = some (.int .u8 pt) := (HB4.out.cell hbl).trans k0
            have c1 : wr.cell? ⟨b, off + k * 3 + 1, none⟩ = some (.int .u8 pk) := (HB4.out.cell (p := ⟨b, off + k * 3 + 1, none⟩) hbl).trans k1
            have c2 : wr.cell? ⟨b, off + k * 3 + 2, none⟩ = some (.int .u8 po) := (HB4.out.cell (p := ⟨b, off + k * 3 + 2, none⟩) hbl).trans k2
            obtain ⟨o5, ho5⟩ : ∃ o5 : Nat, po % 5 = (o5 : Int) := ⟨(po % 5).toNat, by omega⟩
            have ho6 : (o5 : Int) ≤ 4 := by omega
            obtain ⟨f, hrow, hf⟩ := HR4.out
            rw [← hq] at hf
            have HF : Hid (wr.rowIs (w.heap.size + 1) 27 ((n + 15) * 2) f) := hrow
            have HF2 : Hid (HeadsOf f w.heap.size q) := hf
            have hsz4 := hrow.lt
            have hbl2 : b < wr.heap.size := by omega
            have HQ : Hid (q = K0 + k) := hq
            have hqr : q + 1 ≤ n + 15 := by omega
            have FIN : Hid (∀ w1 w3 : World, w1.grownBy w3 (some (w.heap.size + 1)) → Below w.heap.size w w1 → w.heap.size ≤ w1.heap.size → Below w.heap.size w w3) := fun w1 w3 hg hb hs => hb.trans (below_of_grown hg hs (by omega))
            clear hcell k0 k1 k2 hpt hpk hpo hrow hf HR4 hq
            have cases5 : pk % 5 = 0 ∨ pk % 5 = 1 ∨ pk % 5 = 2 ∨ pk % 5 = 3 ∨ pk % 5 = 4 := by omega
            rcases cases5 with h5 | h5 | h5 | h5 | h5
            · have hM : True := trivial
              have hm3 : o5 ≤ 65537 := by omega
              have hm4 : (o5 : Int) ≤ 65537 := by omega
              have hm5 : ¬ (o5 : Int) < 0 := by omega
              go_wp2_with fail
              go_region_law (refine step_appR rfl (.tmp 83) (.tmp 93) rfl (w.heap.size + 1) q (n + 15) (by simp [Act.eval]) f (rowIs_drew (HF.out.alloc _)) wr.heap.size 1 (by simp [Act.eval]) (.int .u8 pt) (.slice (some ⟨w.heap.size, 0, none⟩) o5 65537) (by simp) (by simp) rfl rfl hqr ?_; intro w5 hrow5 hg5 hs5; have HR5 : Hid (BuiltV w5 (w.heap.size + 1) (n + 15) (q + 1) w.heap.size) := BuiltV.step HF2.out z0 hm3 hrow5; have HB5 : Hid (Below w.heap.size w w5) := FIN.out _ _ hg5 (HB4.out.alloc HB4.out.size _).drew (by have := HB4.out.size; simp; omega); have HY5 : Hid (w5.rowIs w.heap.size 5 65537 (fun j => .int .u8 (y j))) := rowIs_grown (rowIs_drew (HY4.out.alloc _)) hg5 (by omega); clear hrow5 hg5)
              all_goals
                go_wp2
                go_roundw
                case rel =>
                  have hq := HQ.out
                  exact ⟨k + 1, by omega, by go_num, ⟨q + 1, by omega, rfl⟩, by rw [show K0 + (k + 1) = q + 1 by omega]; exact HR5.out, HY5.out, HB5.out⟩
                case measure => simp [intOf] <;> omega
            · obtain ⟨M, hM⟩ : ∃ M : Nat, (o5 : Int) + 126 = (M : Int) := ⟨o5 + 126, by omega⟩
              have hm3 : M ≤ 65537 := by omega
              have hm4 : (M : Int) ≤ 65537 := by omega
              have hm5 : ¬ (M : Int) < 0 := by omega
              go_wp2_with fail
              go_region_law (refine step_appR rfl (.tmp 83) (.tmp 93) rfl (w.heap.size + 1) q (n + 15) (by simp [Act.eval]) f (rowIs_drew (HF.out.alloc _)) wr.heap.size 1 (by simp [Act.eval]) (.int .u8 pt) (.slice (some ⟨w.heap.size, 0, none⟩) M 65537) (by simp) (by simp) rfl rfl hqr ?_; intro w5 hrow5 hg5 hs5; have HR5 : Hid (BuiltV w5 (w.heap.size + 1) (n + 15) (q + 1) w.heap.size) := BuiltV.step HF2.out z0 hm3 hrow5; have HB5 : Hid (Below w.heap.size w w5) := FIN.out _ _ hg5 (HB4.out.alloc HB4.out.size _).drew (by have := HB4.out.size; simp; omega); have HY5 : Hid (w5.rowIs w.heap.size 5 65537 (fun j => .int .u8 (y j))) := rowIs_grown (rowIs_drew (HY4.out.alloc _)) hg5 (by omega); clear hrow5 hg5)
              all_goals
                go_wp2
                go_roundw
                case rel =>
                  have hq := HQ.out
                  exact ⟨k + 1, by omega, by go_num, ⟨q + 1, by omega, rfl⟩, by rw [show K0 + (k + 1) = q + 1 by omega]; exact HR5.out, HY5.out, HB5.out⟩
                case measure => simp [intOf] <;> omega
            · obtain ⟨M, hM⟩ : ∃ M : Nat, (o5 : Int) + 254 = (M : Int) := ⟨o5 + 254, by omega⟩
              have hm3 : M ≤ 65537 := by omega
              have hm4 : (M : Int) ≤ 65537 := by omega
              have hm5 : ¬ (M : Int) < 0 := by omega
              go_wp2_with fail
              go_region_law (refine step_appR rfl (.tmp 83) (.tmp 93) rfl (w.heap.size + 1) q (n + 15) (by simp [Act.eval]) f (rowIs_drew (HF.out.alloc _)) wr.heap.size 1 (by simp [Act.eval]) (.int .u8 pt) (.slice (some ⟨w.heap.size, 0, none⟩) M 65537) (by simp) (by simp) rfl rfl hqr ?_; intro w5 hrow5 hg5 hs5; have HR5 : Hid (BuiltV w5 (w.heap.size + 1) (n + 15) (q + 1) w.heap.size) := BuiltV.step HF2.out z0 hm3 hrow5; have HB5 : Hid (Below w.heap.size w w5) := FIN.out _ _ hg5 (HB4.out.alloc HB4.out.size _).drew (by have := HB4.out.size; simp; omega); have HY5 : Hid (w5.rowIs w.heap.size 5 65537 (fun j => .int .u8 (y j))) := rowIs_grown (rowIs_drew (HY4.out.alloc _)) hg5 (by omega); clear hrow5 hg5)
              all_goals
                go_wp2
                go_roundw
                case rel =>
                  have hq := HQ.out
                  exact ⟨k + 1, by omega, by go_num, ⟨q + 1, by omega, rfl⟩, by rw [show K0 + (k + 1) = q + 1 by omega]; exact HR5.out, HY5.out, HB5.out⟩
                case measure => simp [intOf] <;> omega
            · obtain ⟨M, hM⟩ : ∃ M : Nat, (o5 : Int) + 65485 = (M : Int) := ⟨o5 + 65485, by omega⟩
              have hm3 : M ≤ 65537 := by omega
              have hm4 : (M : Int) ≤ 65537 := by omega
              have hm5 : ¬ (M : Int) < 0 := by omega
              go_wp2_with fail
              go_region_law (refine step_appR rfl (.tmp 83) (.tmp 93) rfl (w.heap.size + 1) q (n + 15) (by simp [Act.eval]) f (rowIs_drew (HF.out.alloc _)) wr.heap.size 1 (by simp [Act.eval]) (.int .u8 pt) (.slice (some ⟨w.heap.size, 0, none⟩) M 65537) (by simp) (by simp) rfl rfl hqr ?_; intro w5 hrow5 hg5 hs5; have HR5 : Hid (BuiltV w5 (w.heap.size + 1) (n + 15) (q + 1) w.heap.size) := BuiltV.step HF2.out z0 hm3 hrow5; have HB5 : Hid (Below w.heap.size w w5) := FIN.out _ _ hg5 (HB4.out.alloc HB4.out.size _).drew (by have := HB4.out.size; simp; omega); have HY5 : Hid (w5.rowIs w.heap.size 5 65537 (fun j => .int .u8 (y j))) := rowIs_grown (rowIs_drew (HY4.out.alloc _)) hg5 (by omega); clear hrow5 hg5)
              all_goals
                go_wp2
                go_roundw
                case rel =>
                  have hq := HQ.out
                  exact ⟨k + 1, by omega, by go_num, ⟨q + 1, by omega, rfl⟩, by rw [show K0 + (k + 1) = q + 1 by omega]; exact HR5.out, HY5.out, HB5.out⟩
                case measure => simp [intOf] <;> omega
            · obtain ⟨M, hM⟩ : ∃ M : Nat, (o5 : Int) + 65533 = (M : Int) := ⟨o5 + 65533, by omega⟩
              have hm3 : M ≤ 65537 := by omega
              have hm4 : (M : Int) ≤ 65537 := by omega
              have hm5 : ¬ (M : Int) < 0 := by omega
              go_wp2_with fail
              go_region_law (refine step_appR rfl (.tmp 83) (.tmp 93) rfl (w.heap.size + 1) q (n + 15) (by simp [Act.eval]) f (rowIs_drew (HF.out.alloc _)) wr.heap.size 1 (by simp [Act.eval]) (.int .u8 pt) (.slice (some ⟨w.heap.size, 0, none⟩) M 65537) (by simp) (by simp) rfl rfl hqr ?_; intro w5 hrow5 hg5 hs5; have HR5 : Hid (BuiltV w5 (w.heap.size + 1) (n + 15) (q + 1) w.heap.size) := BuiltV.step HF2.out z0 hm3 hrow5; have HB5 : Hid (Below w.heap.size w w5) := FIN.out _ _ hg5 (HB4.out.alloc HB4.out.size _).drew (by have := HB4.out.size; simp; omega); have HY5 : Hid (w5.rowIs w.heap.size 5 65537 (fun j => .int .u8 (y j))) := rowIs_grown (rowIs_drew (HY4.out.alloc _)) hg5 (by omega); clear hrow5 hg5)
              all_goals
                go_wp2
                go_roundw
                case rel =>
                  have hq := HQ.out
                  exact ⟨k + 1, by omega, by go_num, ⟨q + 1, by omega, rfl⟩, by rw [show K0 + (k + 1) = q + 1 by omega]; exact HR5.out, HY5.out, HB5.out⟩
                case measure => simp [intOf] <;> omega
          · obtain rfl : n = k := by omega
            rw [← hq] at HR4
            obtain ⟨r, hr1, hr2, hr3⟩ := HR4.out.recs (by omega) HY4.out HY.out
            have HC : Hid (∀ wz, wr = wz → Calls Ycpm.prog 25 #[.slice (some ⟨w.heap.size + 1, 0, none⟩) q (n + 15)] wz fun e w' => e = .returned (.bool true) ∧ Below wz.heap.size wz w') := by
              rintro wz rfl
              exact hwire_calls _ q _ r wr (by omega) hr1 hr2 hr3
            clear hr1 hr2 hr3 HR4 hq
            go_wp2_with (go_at_call 25; refine (HC.out _ rfl).mono ?_; rintro e w7 ⟨rfl, hb7⟩; have HB7 : Hid (Below w.heap.size w w7) := HB4.out.trans (hb7.mono HB4.out.size); clear hb7)
            go_ret
            exact ⟨rfl, HB7.out⟩
end Go.Proofs.Ymbrcp.lawS930003HBorders
