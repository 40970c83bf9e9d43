/-
  Ymbrco: the walk of 'LawS930003CFresh'.
-/
import Derived.Test.YmbrcoVals
import Derived.Test.YmbrcoDecL
import Derived.Test.YmbrcoCeq
namespace Go.Proofs.Ymbrco.lawS930003CFresh
open Go.RowKit Go.Proofs.Ymbrco
set_option linter.unusedVariables false

def mi (r : Recs) (i : Nat) : Nat := if 127 < r.L i then 127 else r.L i
def Vl (r : Recs) (i : Nat) : List Int := (List.range (mi r i)).map (r.Z i)
def Tl (i : Nat) : Int := (i : Int) % 256

theorem Vl_len (r : Recs) (i : Nat) : (Vl r i).length = mi r i := by simp [Vl]
theorem mi_le (r : Recs) (i : Nat) : mi r i ≤ 127 ∧ mi r i ≤ r.L i := by unfold mi; split <;> omega
theorem Vl_getD (r : Recs) (i j : Nat) (h : j < mi r i) : (Vl r i).getD j 0 = r.Z i j := by simp [Vl, List.getD, h]
theorem enc_l (r : Recs) (i : Nat) : enc (Tl i) (Vl r i) = [Tl i, (mi r i : Int)] ++ Vl r i := by
  have := mi_le r i
  unfold enc lenF
  rw [Vl_len, if_pos (by omega)]
  rfl
theorem msg_succ (r : Recs) (k : Nat) : encs (rsOf Tl (Vl r) (k + 1)) = encs (rsOf Tl (Vl r) k) ++ [Tl k, (mi r k : Int)] ++ Vl r k := by
  rw [rsOf_succ, enc_l, List.append_assoc]
theorem V_ok {n : Nat} {r : Recs} (h : RecsOk n r) (i : Nat) : (0 ≤ Tl i ∧ Tl i ≤ 255) ∧ AllB (Vl r i) ∧ (Vl r i).length ≤ 65535 := by
  refine ⟨by unfold Tl; omega, fun x hx => ?_, by rw [Vl_len]; have := mi_le r i; omega⟩
  obtain ⟨j, _, rfl⟩ := List.mem_map.1 hx
  exact h.hZ i j

theorem DecL.grown {w w' : World} {base g n gm : Nat} {T : Nat → Int} {V : Nat → List Int} {G : Nat → Nat} {f : Nat → Value} (h : DecL w base g n T V G f) (hg : w.grownBy w' (some gm)) (hne : gm < base) : DecL w' base g n T V G f :=
  ⟨rowIs_grown h.row hg (by have := h.base_le; omega), h.base_le, h.type, h.value, h.after, fun i hi => rowIs_grown (h.bytes i hi) hg (by have := h.base_le; have := h.after i hi; omega), h.apart⟩

theorem bytes_belowB {w w' : World} {a : Option Addr} {n B : Nat} {z : Nat → Int} (h : BytesAt w a n z) (hB : ∀ ad, a = some ad → ad.block < B) (hb : Below B w w') : BytesAt w' a n z := by
  intro hn
  obtain ⟨b, off, rfl, hc⟩ := h hn
  exact ⟨b, off, rfl, fun i hi => (hb.cell (show (⟨b, off + i, none⟩ : Addr).block < B from hB ⟨b, off, none⟩ rfl)).trans (hc i hi)⟩

theorem set_170 {bs : List Int} {k : Nat} (h : ∀ j, j < k → bs.getD j 0 = 170) (hk : k < bs.length) : ∀ j, j < k + 1 → (bs.set k 170).getD j 0 = 170 := by
  intro j hj
  rw [List.getD_eq_getElem?_getD]
  by_cases e : j = k
  · subst e
    rw [List.getElem?_set_self hk]
    rfl
  · rw [List.getElem?_set_ne (by omega), ← List.getD_eq_getElem?_getD]
    exact h j (by omega)

set_option maxRecDepth 100000 in
set_option maxHeartbeats 8000000 in
theorem walk (a : Option Addr) (n c : Nat) (r : Recs) (w : World) (hl : n ≤ c) (hc : c ≤ 9223372036854775807) (_hn : a = none → n = 0 ∧ c = 0) (hz : RecsOk n r ∧ SlicesAt w a n r ∧ ValsAt w n r) :
    Calls Ycom.prog 11 #[.slice a n c] w fun e w' => e = .returned (.bool true) ∧ Below w.heap.size w w' := by
  obtain ⟨hok, ha, hv⟩ := hz
  by_cases hbig : 256 < n
  · clear ha hv hok _hn
    go_enter Ycom.func11, Ycom.ntmps11
    go_wp2
    go_ret
    exact ⟨rfl, Below.refl _ _⟩
  have HA : Hid (SlicesAt w a n r) := ha
  have HV : Hid (ValsAt w n r) := hv
  have HK : Hid (RecsOk n r) := hok
  clear ha hv hok _hn
  go_enter Ycom.func11, Ycom.ntmps11
  go_wp2
  go_loopw [3, 4] (fun bv iv wr => ∃ (k : Nat) (ao : Option Addr) (N cap : Nat), k ≤ n ∧ iv = .int .i64 k ∧ bv = .slice ao N cap ∧ N ≤ 129 * k ∧ Hid (OwnB wr w.heap.size (.slice ao N cap) (encs (rsOf Tl (Vl r) k))) ∧ Hid (Below w.heap.size w wr)) (fun _ iv _ => n - (intOf iv).toNat)
  case atStart => exact ⟨0, _, 0, 0, Nat.zero_le _, rfl, rfl, Nat.le_refl _, OwnB.empty w _ (Nat.le_refl _), (Below.refl _ _).alloc (Nat.le_refl _) _⟩
  case round =>
    obtain ⟨k, ao, N, cap, hk, rfl, rfl, hN, HO, HB⟩ := hrel
    by_cases hlt : k < n
    · obtain ⟨ab, off, rfl, hS⟩ := HA.out (by omega)
      have hc0 := hS k hlt
      have t0 : wr.cell? ⟨ab, off + k, none⟩ = some (.slice (r.A k) (r.L k) (r.C k)) := (HB.out.cell (World.block_lt_of_cell? _ _ hc0)).trans hc0
      have hL := HK.out.hL k hlt
      have hC := HK.out.hC k hlt
      have hsz := HB.out.size
      obtain ⟨m, hm⟩ : ∃ m, m = mi r k := ⟨_, rfl⟩
      have hm127 : m ≤ 127 := by rw [hm]; exact (mi_le r k).1
      have hmL : m ≤ r.L k := by rw [hm]; exact (mi_le r k).2
      have HSV : Hid (∀ wz, Below w.heap.size w wz → ListAt wz (r.A k) (Vl r k)) := by
        intro wz hb
        unfold Vl
        rw [← hm]
        exact listAt_of (((HV.out k hlt).upto hmL).below hb)
      have HVL : Hid ((Vl r k).length = m) := by show _ = _; rw [Vl_len, hm]
      have HNIL : Hid (r.A k = none → r.L k = 0 ∧ r.C k = 0) := HK.out.hN k hlt
      have HMS : Hid (encs (rsOf Tl (Vl r) (k + 1)) = encs (rsOf Tl (Vl r) k) ++ [(k : Int) % 256, (m : Int)] ++ Vl r k) := by show _ = _; rw [msg_succ, ← hm]; rfl
      clear hS hc0
      by_cases h127 : 127 < r.L k
      · have hm2 : m = 127 := by rw [hm]; unfold mi; rw [if_pos h127]
        have h127i : (127 : Int) < (r.L k : Int) := by omega
        clear hm
        subst hm2
        go_wp2_with (first
          | (at_builtin; refine wpList_appB _ rfl (.tmp 41) (.tmp 42) rfl w.heap.size _ (N + 2) cap1 _ rfl HO1.out (r.A k) 127 (r.C k) rfl (Vl r k) HVL.out (HSV.out _ HB1.out) (fun e => by have := HNIL.out e; omega) (by omega) HB1.out.size ?_; intro ao2 cap2 w2 hown hg hb hne hp; have HO2 : Hid (OwnB w2 w.heap.size (.slice ao2 (N + 2 + 127) cap2) (encs (rsOf Tl (Vl r) (k + 1)))) := HMS.out ▸ hown; have HB2 : Hid (Below w.heap.size w w2) := HB1.out.trans hb; clear hown hg hb hne hp)
          | (at_builtin; refine wpList_appB _ rfl (.tmp 32) (.tmp 39) rfl w.heap.size ao N cap _ rfl (HO.out.alloc _) _ 2 2 rfl [(k : Int) % 256, 127] rfl (listAt_new _ [(k : Int) % 256, 127] _) (by simp) (by omega) (by simp; omega) ?_; intro ao1 cap1 w1 hown hg hb hne hp; have HO1 : Hid (OwnB w1 w.heap.size (.slice ao1 (N + 2) cap1) (encs (rsOf Tl (Vl r) k) ++ [(k : Int) % 256, 127])) := hown; have HB1 : Hid (Below w.heap.size w w1) := (HB.out.alloc hsz _).trans hb; clear hown hg hb hne hp))
        go_roundw
        case rel => exact ⟨k + 1, ao2, N + 2 + 127, cap2, by omega, by go_num, rfl, by omega, HO2.out, HB2.out⟩
        case measure => simp [intOf] <;> omega
      · have hm2 : r.L k = m := by rw [hm]; unfold mi; rw [if_neg h127]
        rw [hm2] at t0 hL h127 HNIL hmL
        clear hm hm2
        have h127i : (m : Int) ≤ 127 := by omega
        go_wp2_with (first
          | (at_builtin; refine wpList_appB _ rfl (.tmp 41) (.tmp 42) rfl w.heap.size _ (N + 2) cap1 _ rfl HO1.out (r.A k) m (r.C k) rfl (Vl r k) HVL.out (HSV.out _ HB1.out) HNIL.out (by omega) HB1.out.size ?_; intro ao2 cap2 w2 hown hg hb hne hp; have HO2 : Hid (OwnB w2 w.heap.size (.slice ao2 (N + 2 + m) cap2) (encs (rsOf Tl (Vl r) (k + 1)))) := HMS.out ▸ hown; have HB2 : Hid (Below w.heap.size w w2) := HB1.out.trans hb; clear hown hg hb hne hp)
          | (at_builtin; refine wpList_appB _ rfl (.tmp 32) (.tmp 39) rfl w.heap.size ao N cap _ rfl (HO.out.alloc _) _ 2 2 rfl [(k : Int) % 256, (m : Int)] rfl (listAt_new _ [(k : Int) % 256, (m : Int)] _) (by simp) (by omega) (by simp; omega) ?_; intro ao1 cap1 w1 hown hg hb hne hp; have HO1 : Hid (OwnB w1 w.heap.size (.slice ao1 (N + 2) cap1) (encs (rsOf Tl (Vl r) k) ++ [(k : Int) % 256, (m : Int)])) := hown; have HB1 : Hid (Below w.heap.size w w1) := (HB.out.alloc hsz _).trans hb; clear hown hg hb hne hp))
        go_roundw
        case rel => exact ⟨k + 1, ao2, N + 2 + m, cap2, by omega, by go_num, rfl, by omega, HO2.out, HB2.out⟩
        case measure => simp [intOf] <;> omega
    · obtain rfl : n = k := by omega
      have hlen := HO.out.len
      obtain ⟨_, _, hshape, hcap1, hcap2, _⟩ := HO.out.shape
      simp only [Value.slice.injEq] at hshape
      obtain ⟨hs1, hs2, rfl⟩ := hshape
      clear hs1 hs2
      rw [hlen] at hcap1
      have hbytes : BytesAt wr ao N (zl (encs (rsOf Tl (Vl r) n))) := by
        have h := HO.out.bytes
        rw [hlen] at h
        exact h
      have HDC : Hid (Calls Ycom.prog 25 #[.slice ao N cap] wr fun e w' => Hid (∃ g G f, e = .returned (.tuple #[.slice (some ⟨g, 0, none⟩) n n, .int .i64 0]) ∧ DecL w' wr.heap.size g n Tl (Vl r) G f) ∧ Below wr.heap.size wr w') := decode_good ao N cap n Tl (Vl r) wr hlen.symm hcap1 hcap2 (by omega) (fun i _ => V_ok HK.out i) hbytes
      have hNi : (N : Int) ≤ 33024 := by omega
      clear hlen hbytes
      obtain ⟨wo, rfl⟩ : ∃ wo, wo = wr := ⟨wr, rfl⟩
      go_wp2_with fail
      refine HDC.out.mono ?_
      rintro e w2 ⟨hid, hb2⟩
      obtain ⟨g, G, f, rfl, hdec⟩ := hid.out
      have HD : Hid (DecL w2 wo.heap.size g n Tl (Vl r) G f) := hdec
      have HB2 : Hid (Below wo.heap.size wo w2) := hb2
      have HO2 : Hid (OwnB w2 w.heap.size (.slice ao N cap) (encs (rsOf Tl (Vl r) n))) := HO.out.below hb2 (Nat.le_refl _)
      clear hdec hb2 hid
      go_wp2
      have HBW2 : Hid (Below w.heap.size w w2) := HB.out.trans (HB2.out.mono HB.out.size)
      go_loopw [8] (fun iv wr => ∃ k : Nat, k ≤ N ∧ iv = .int .i64 k ∧ Hid (∃ bs, OwnB wr w.heap.size (.slice ao N cap) bs ∧ ∀ j, j < k → bs.getD j 0 = 170) ∧ Hid (DecL wr wo.heap.size g n Tl (Vl r) G f) ∧ Hid (Below w.heap.size w wr)) (fun iv _ => N - (intOf iv).toNat)
      case atStart => exact ⟨0, Nat.zero_le _, rfl, ⟨_, HO2.out, fun j hj => absurd hj (Nat.not_lt_zero _)⟩, HD.out, HBW2.out⟩
      case round =>
        clear HD HBW2 HO2 HDC
        obtain ⟨k, hk, rfl, HM, HD, HBW⟩ := hrel
        by_cases hlt : k < N
        · obtain ⟨gm, rfl, hgm1, hgm2⟩ := HO.out.block (by omega)
          obtain ⟨bs, hO, h170⟩ := HM.out
          have hlen := hO.len
          have HO3 : Hid (OwnB wr w.heap.size (.slice (some ⟨gm, 0, none⟩) N cap) bs) := hO
          have H170 : Hid (∀ j, j < k + 1 → (bs.set k 170).getD j 0 = 170) := set_170 h170 (by omega)
          have d0 : wr.cell? ⟨gm, k, none⟩ = some (.int .u8 (bs.getD k 0)) := hO.cell hlt
          have e0 : wr.frozen? ⟨gm, k, none⟩ = false := hO.frozen k
          have hlt2 : (k : Int) < (N : Int) := by omega
          clear hO h170 HM hlen
          go_wp2
          go_roundw
          case rel => exact ⟨k + 1, by omega, by go_num, ⟨_, (HO3.out.set k 170).1, H170.out⟩, DecL.grown HD.out (HO3.out.set k 170).2 hgm2, HBW.out.setCell hgm1 _⟩
          case measure => simp [intOf] <;> omega
        · obtain rfl : N = k := by omega
          obtain ⟨wm, rfl⟩ : ∃ wm, wm = wr := ⟨wr, rfl⟩
          have HMB : Hid (BytesAt wm ao N (fun _ => 170)) := by
            obtain ⟨bs, hO, h170⟩ := HM.out
            have hlen := hO.len
            intro hn
            obtain ⟨b, off, e, hcc⟩ := hO.bytes (by omega)
            exact ⟨b, off, e, fun i hi => by rw [hcc i (by omega)]; dsimp only; rw [h170 i hi]⟩
          have HMA : Hid (∀ ad, ao = some ad → ad.block < wo.heap.size) := by
            intro ad e
            subst e
            rcases HO.out.2 with ⟨h, _⟩ | ⟨g', cap', cur, h, _, hh, _⟩
            · simp at h
            · simp only [Value.slice.injEq, Option.some.injEq] at h
              rw [h.1]
              exact (Array.getElem?_eq_some_iff.1 hh).1
          have HR0 : Hid (wm.rowIs g 36 (n * 2) f) := HD.out.row
          have HG0 : Hid (∀ i, 0 ≤ i → i < n → wm.rowIs (G i) 5 (mi r i) (fun j => .int .u8 ((Vl r i).getD j 0))) := fun i _ hi => Vl_len r i ▸ HD.out.bytes i hi
          have HTY : Hid (∀ i, i < n → f (i * 2) = .int .u8 ((i : Int) % 256) ∧ f (i * 2 + 1) = .slice (some ⟨G i, 0, none⟩) (mi r i) (mi r i)) := fun i hi => ⟨HD.out.type i hi, by rw [HD.out.value i hi, Vl_len]⟩
          have HAF : Hid (∀ i, i < n → wo.heap.size ≤ G i ∧ G i ≠ g) := fun i hi => by have := HD.out.after i hi; have := HD.out.base_le; omega
          have HAP : Hid (∀ i j, j < i → i < n → G i ≠ G j) := fun i j h1 h2 => by have := HD.out.apart i j h1 h2; omega
          have hwo := HB.out.size
          have hwm : wo.heap.size ≤ wm.heap.size := by have := HD.out.row.lt; have := HD.out.base_le; omega
          clear HM HD
          go_wp2
          go_loopw [9] (fun iv wr => ∃ k : Nat, k ≤ n ∧ iv = .int .i64 k ∧ Hid (wr.rowIs g 36 (n * 2) f) ∧ Hid (∀ i, k ≤ i → i < n → wr.rowIs (G i) 5 (mi r i) (fun j => .int .u8 ((Vl r i).getD j 0))) ∧ Hid (Below wo.heap.size wm wr) ∧ Hid (Below w.heap.size w wr)) (fun iv _ => n - (intOf iv).toNat)
          case atStart => exact ⟨0, Nat.zero_le _, rfl, HR0.out, HG0.out, Below.refl _ _, HBW.out⟩
          case round =>
            clear HR0 HG0 HBW
            obtain ⟨k, hk, rfl, HR, HG, HBM, HBW⟩ := hrel
            by_cases hlt2 : k < n
            · obtain ⟨ab, off, rfl, hS⟩ := HA.out (by omega)
              have hc0 := hS k hlt2
              have t0 : wr.cell? ⟨ab, off + k, none⟩ = some (.slice (r.A k) (r.L k) (r.C k)) := (HBW.out.cell (World.block_lt_of_cell? _ _ hc0)).trans hc0
              have hL := HK.out.hL k hlt2
              have hC := HK.out.hC k hlt2
              obtain ⟨m, hm⟩ : ∃ m, m = mi r k := ⟨_, rfl⟩
              have hm127 : m ≤ 127 := by rw [hm]; exact (mi_le r k).1
              have hmL : m ≤ r.L k := by rw [hm]; exact (mi_le r k).2
              have f0 : wr.cell? ⟨g, k * 2, none⟩ = some (.int .u8 ((k : Int) % 256)) := by rw [HR.out.cell (by omega), (HTY.out k hlt2).1]
              have f1 : wr.cell? ⟨g, k * 2 + 1, none⟩ = some (.slice (some ⟨G k, 0, none⟩) m m) := by rw [HR.out.cell (by omega), (HTY.out k hlt2).2, hm]
              have HGK : Hid (wr.rowIs (G k) 5 m (fun j => .int .u8 (r.Z k j))) := (hm ▸ HG.out k (Nat.le_refl _) hlt2).congr (fun j hj => by rw [Vl_getD r k j (by omega)])
              have HE : Hid (∀ cc q, q = m → Calls Ycom.prog 27 #[.slice (some ⟨G k, 0, none⟩) m m, .slice (r.A k) q cc] wr fun e w' => e = .returned (.bool true) ∧ ∃ d, w' = wr.drewN d) := by
                rintro cc q rfl
                refine ceq_calls _ _ q q _ _ (r.Z k) wr (by omega) rfl ?_ (((HV.out k hlt2).upto hmL).below HBW.out)
                have := rowIs_bytes (z := r.Z k) HGK.out 0 q (by omega)
                simpa using this
              have hZ := HK.out.hZ k
              have HZK : Hid (IsByte (r.Z k)) := hZ
              clear hS hc0 hZ
              have hcase : 127 < r.L k ∨ r.L k = m := by
                by_cases h : 127 < r.L k
                · exact .inl h
                · exact .inr (by rw [hm]; unfold mi; rw [if_neg h])
              have hm2 : 127 < r.L k → m = 127 := fun h => by rw [hm]; unfold mi; rw [if_pos h]
              clear hm
              rcases hcase with h127 | hLm
              focus
                have h127i : (127 : Int) < (r.L k : Int) := by omega
                have HM7 : Hid (127 = m) := (hm2 h127).symm
                clear hm2
                go_wp2_with (go_at_call 27; refine (HE.out _ _ HM7.out).mono ?_; rintro e w5 ⟨rfl, d5, rfl⟩)
              rotate_left
              focus
                rw [hLm] at t0 hL hmL
                have h127i : ¬ (127 : Int) < (m : Int) := by omega
                clear hm2 hLm
                go_wp2_with (go_at_call 27; refine (HE.out _ _ rfl).mono ?_; rintro e w5 ⟨rfl, d5, rfl⟩)
              all_goals
                clear t0 f0 HE
                obtain ⟨wv, rfl⟩ : ∃ wv, wv = wr := ⟨wr, rfl⟩
                go_loopw [11] (fun jv wr => ∃ j : Nat, j ≤ m ∧ jv = .int .i64 j ∧ Hid (wr.rowIs g 36 (n * 2) f) ∧ Hid (∃ h, wr.rowIs (G k) 5 m h ∧ ∀ j', j ≤ j' → h j' = .int .u8 (r.Z k j')) ∧ Hid (∀ i, k + 1 ≤ i → i < n → wr.rowIs (G i) 5 (mi r i) (fun j => .int .u8 ((Vl r i).getD j 0))) ∧ Hid (Below wo.heap.size wm wr) ∧ Hid (Below w.heap.size w wr)) (fun jv _ => m - (intOf jv).toNat)
                case atStart => exact ⟨0, Nat.zero_le _, rfl, HR.out, ⟨_, HGK.out, fun _ _ => rfl⟩, fun i h1 h2 => HG.out i (by omega) h2, HBM.out.trans ((below_drewN _ _).mono (by have := HBM.out.size; omega)), HBW.out.trans ((below_drewN _ _).mono HBW.out.size)⟩
                case round =>
                  have HTK : Hid (f (k * 2 + 1) = .slice (some ⟨G k, 0, none⟩) m m) := by
                    have h1 := HR.out.cell (i := k * 2 + 1) (by omega)
                    rw [f1] at h1
                    exact (Option.some.inj h1).symm
                  clear HR HG HBM HBW HGK f1
                  obtain ⟨j, hj, rfl, HR, HH, HG, HBM, HBW⟩ := hrel
                  obtain ⟨h, hrow, hh⟩ := HH.out
                  have f1 : wr.cell? ⟨g, k * 2 + 1, none⟩ = some (.slice (some ⟨G k, 0, none⟩) m m) := by rw [HR.out.cell (by omega), HTK.out]
                  by_cases hjm : j < m
                  · have q0 : wr.cell? ⟨G k, j, none⟩ = some (.int .u8 (r.Z k j)) := by rw [hrow.cell hjm, hh j (Nat.le_refl _)]
                    have q1 : wr.frozen? ⟨G k, j, none⟩ = false := hrow.frozen j
                    have HRK : Hid (wr.rowIs (G k) 5 m h) := hrow
                    have HHH : Hid (∀ j', j ≤ j' → h j' = .int .u8 (r.Z k j')) := hh
                    have hji : (j : Int) < (m : Int) := by omega
                    have hzb := HZK.out j
                    have hGg := (HAF.out k hlt2).2
                    have hGo := (HAF.out k hlt2).1
                    clear hrow hh HH
                    go_wp2
                    go_roundw
                    case rel => exact ⟨j + 1, by omega, by go_num, HR.out.of_block (Below.heap_setCell _ _ _ _ (fun e => hGg e.symm)), ⟨_, HRK.out.set _ _, fun j' hj' => by rw [if_neg (by omega)]; exact HHH.out j' (by omega)⟩, fun i h1 h2 => (HG.out i h1 h2).of_block (Below.heap_setCell _ _ _ _ (HAP.out i k (by omega) h2)), HBM.out.setCell hGo _, HBW.out.setCell (by show w.heap.size ≤ G k; omega) _⟩
                    case measure => simp [intOf] <;> omega
                  · obtain rfl : m = j := by omega
                    clear hrow hh HH
                    go_wp2
                    go_roundw
                    case rel => exact ⟨k + 1, by omega, by go_num, HR.out, HG.out, HBM.out, HBW.out⟩
                    case measure => simp [intOf] <;> omega
            · obtain rfl : n = k := by omega
              have HMB2 : Hid (BytesAt wr ao N (fun _ => 170)) := bytes_belowB HMB.out HMA.out HBM.out
              obtain ⟨wz, rfl⟩ : ∃ wz, wz = wr := ⟨wr, rfl⟩
              go_wp2
              go_loopw [12] (fun iv wr => ∃ k : Nat, k ≤ N ∧ iv = .int .i64 k ∧ wr = wz) (fun iv _ => N - (intOf iv).toNat)
              case atStart => exact ⟨0, Nat.zero_le _, rfl, rfl⟩
              case round =>
                obtain ⟨k, hk, rfl, rfl⟩ := hrel
                by_cases hlt3 : k < N
                · obtain ⟨b, off, rfl, hcc⟩ := HMB2.out (by omega)
                  have q0 := hcc k hlt3
                  dsimp only at q0
                  have hki : (k : Int) < (N : Int) := by omega
                  clear hcc
                  go_wp2
                  go_roundw
                  case rel => exact ⟨k + 1, by omega, by go_num, trivial⟩
                  case measure => simp [intOf] <;> omega
                · obtain rfl : N = k := by omega
                  go_wp2
                  go_ret
                  exact ⟨rfl, HBW.out⟩
end Go.Proofs.Ymbrco.lawS930003CFresh
