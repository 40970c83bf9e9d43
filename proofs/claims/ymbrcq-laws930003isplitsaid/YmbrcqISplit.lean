/-
  Ymbrcq: the walk of 'LawS930003ISplit'.
-/
import Derived.Test.YmbrcqIndex
import Derived.Test.YmbrcqMem
namespace Go.Proofs.Ymbrcq.lawS930003ISplit
open Go.RowKit Go.Proofs.Ymbrcq
set_option linter.unusedVariables false

/-- The records of which the first k have been given their types. -/
def cellsTo (z : Nat → Int) (k : Nat) : Nat → Value := fun j => if j % 2 = 0 then .int .u8 (if j / 2 < k then z (j / 2) % 4 else 0) else .slice none 0 0

def recs (z : Nat → Int) : Recs := ⟨fun i => z i % 4, fun _ => none, fun _ => 0, fun _ => 0, fun _ _ => 0⟩

theorem recsAt {w : World} {g n : Nat} {z : Nat → Int} (h : w.rowIs g 25 (n * 2) (cellsTo z n)) (lo m : Nat) (hm : lo + m ≤ n) :
    RecsAt w (some ⟨g, lo * 2, none⟩) m ⟨fun i => z (lo + i) % 4, fun _ => none, fun _ => 0, fun _ => 0, fun _ _ => 0⟩ := by
  intro _
  refine ⟨g, lo * 2, rfl, fun i hi => ?_, fun i hi => ?_⟩
  · rw [h.cell (by omega)]
    have e1 : (lo * 2 + i * 2) % 2 = 0 := by omega
    have e2 : (lo * 2 + i * 2) / 2 = lo + i := by omega
    simp only [cellsTo, e1, e2, if_true]
    rw [if_pos (by omega)]
  · rw [h.cell (by omega)]
    have e1 : (lo * 2 + i * 2 + 1) % 2 = 1 := by omega
    simp [cellsTo, e1]

theorem recsAt0 {w : World} {g n : Nat} {z : Nat → Int} (h : w.rowIs g 25 (n * 2) (cellsTo z n)) (m : Nat) (hm : m ≤ n) : RecsAt w (some ⟨g, 0, none⟩) m (recs z) := by
  have := recsAt h 0 m (by omega)
  simpa [recs] using this

theorem row_step {w : World} {g n k : Nat} {z : Nat → Int} (h : w.rowIs g 25 (n * 2) (cellsTo z k)) : (w.setCell ⟨g, k * 2, none⟩ (.int .u8 (z k % 4))).rowIs g 25 (n * 2) (cellsTo z (k + 1)) := by
  refine (h.set (k * 2) _).congr fun j _ => ?_
  by_cases e : j = k * 2
  · subst e
    have e2 : k * 2 / 2 = k := by omega
    simp [cellsTo, e2]
  · rw [if_neg e]
    unfold cellsTo
    by_cases e1 : j % 2 = 0
    · have e3 : (j / 2 < k + 1) = (j / 2 < k) := by apply propext; omega
      simp [e1, e3]
    · simp [e1]

theorem first_shift {T : Nat → Int} {t : Int} {c n : Nat} {r : Int} (h : IsFirst (fun i => T (c + i)) t 0 (n - c) r) (hc : c ≤ n) :
    (r = -1 ∧ ∀ i, c ≤ i → i < n → T i ≠ t) ∨ (0 ≤ r ∧ r < (n : Int) - c ∧ IsFirst T t c n (c + r)) := by
  rcases h with ⟨rfl, h⟩ | ⟨k, rfl, h0, h1, h2, h3⟩
  · refine .inl ⟨rfl, fun i h1 h2 => ?_⟩
    have := h (i - c) (Nat.zero_le _) (by omega)
    dsimp only at this
    rwa [show c + (i - c) = i by omega] at this
  · refine .inr ⟨by omega, by omega, .inr ⟨c + k, by omega, by omega, by omega, h2, fun i g1 g2 => ?_⟩⟩
    have := h3 (i - c) (Nat.zero_le _) (by omega)
    dsimp only at this
    rwa [show c + (i - c) = i by omega] at this

theorem fin_front {T : Nat → Int} {t : Int} {p n : Nat} {r1 r2 : Int} (h1 : IsFirst T t 0 n r1) (h2 : IsFirst T t 0 p r2) (hp : p ≤ n) (hne : r2 ≠ -1) : 0 ≤ r2 ∧ r2 < p ∧ r1 = r2 := by
  rcases h2 with ⟨rfl, _⟩ | ⟨k, rfl, g0, g1, g2, g3⟩
  · exact absurd rfl hne
  · refine ⟨by omega, by omega, h1.uniq (.inr ⟨k, rfl, g0, by omega, g2, g3⟩)⟩

theorem fin_rest {T : Nat → Int} {t : Int} {p n : Nat} {r1 r2 r3 : Int} (h1 : IsFirst T t 0 n r1) (h2 : IsFirst T t 0 p r2) (h3 : IsFirst (fun i => T (p + i)) t 0 (n - p) r3) (hp : p ≤ n) (hm : r2 = -1) :
    (r3 ≠ -1 → 0 ≤ r3 ∧ r3 < (n : Int) - p ∧ r1 = p + r3) ∧ (r3 = -1 → r1 = -1) := by
  have hno : ∀ i, i < p → T i ≠ t := by
    rcases h2 with ⟨_, h⟩ | ⟨k, e, _⟩
    · exact fun i hi => h i (Nat.zero_le _) hi
    · omega
  rcases first_shift h3 hp with ⟨rfl, h⟩ | ⟨g0, g1, g2⟩
  · refine ⟨fun h => absurd rfl h, fun _ => h1.uniq (.inl ⟨rfl, fun i _ hi => ?_⟩)⟩
    by_cases e : i < p
    · exact hno i e
    · exact h i (by omega) hi
  · refine ⟨fun _ => ⟨g0, g1, h1.uniq ?_⟩, fun h => by omega⟩
    rcases g2 with ⟨e, _⟩ | ⟨k, e, k0, k1, k2, k3⟩
    · omega
    · refine .inr ⟨k, e, Nat.zero_le _, k1, k2, fun i _ hi => ?_⟩
      by_cases e : i < p
      · exact hno i e
      · exact k3 i (by omega) hi

set_option maxHeartbeats 1000000 in
theorem walk (a : Option Addr) (n c : Nat) (z : Nat → Int) (t s : Int) (w : World) (_hl : n ≤ c) (hc : c ≤ 9223372036854775807) (_hn : a = none → n = 0 ∧ c = 0) (hz : IsByte z ∧ BytesAt w a n z) (ht : 0 ≤ t ∧ t ≤ 255) (hs : 0 ≤ s ∧ s ≤ 18446744073709551615) :
    Calls Ycqm.prog 5 #[.slice a n c, .int .u8 t, .int .u64 s] w fun e w' => e = .returned (.bool true) ∧ Below w.heap.size w w' := by
  obtain ⟨hz1, hz2⟩ := hz
  have HZ : Hid (IsByte z) := hz1
  have HA : Hid (BytesAt w a n z) := hz2
  clear hz1 hz2 _hn
  by_cases hbig : 1024 < n
  · go_enter Ycqm.func5, Ycqm.ntmps5
    go_wp2
    go_ret
    exact ⟨rfl, Below.refl _ _⟩
  go_enter Ycqm.func5, Ycqm.ntmps5
  go_wp2_with (at_make; refine wpList_mkR _ rfl _ _ rfl .i64 .i64 _ _ n n rfl rfl rfl rfl (Nat.le_refl _) (by omega) ?_; intro w1 hrow hb1 hs1)
  go_loopw [8] (fun i wr => ∃ k : Nat, k ≤ n ∧ i = .int .i64 k ∧ wr.rowIs w.heap.size 25 (n * 2) (cellsTo z k) ∧ Below w.heap.size w wr)
    (fun i _ => n - (intOf i).toNat)
  case atStart => exact ⟨0, Nat.zero_le _, rfl, hrow.congr fun j _ => by simp [cellsTo], hb1⟩
  case round =>
    obtain ⟨k, hk, rfl, hr, hb⟩ := hrel
    by_cases hlt : k < n
    · obtain ⟨b, off, rfl, hcell⟩ := HA.out (by omega)
      have h1 : wr.cell? ⟨b, off + k, none⟩ = some (.int .u8 (z k)) := (hb.cell (World.block_lt_of_cell? _ _ (hcell k hlt))).trans (hcell k hlt)
      have hz0 := HZ.out k
      have h2 : wr.cell? ⟨w.heap.size, k * 2, none⟩ = some (cellsTo z k (k * 2)) := hr.cell (by omega)
      have h3 : wr.frozen? ⟨w.heap.size, k * 2, none⟩ = false := hr.frozen _
      clear hcell
      go_wp2
      go_roundw
      case rel => exact ⟨k + 1, by omega, by go_num, row_step hr, hb.setCell (Nat.le_refl _) _⟩
      case measure => simp [intOf] <;> omega
    · obtain rfl : k = n := by omega
      obtain ⟨p, hp, hpn⟩ : ∃ p : Nat, s % ((k : Int) + 1) = (p : Int) ∧ p ≤ k := by
        have h1 := Int.emod_nonneg s (show ((k : Int) + 1) ≠ 0 by omega)
        have h2 := Int.emod_lt_of_pos s (show 0 < ((k : Int) + 1) by omega)
        exact ⟨(s % ((k : Int) + 1)).toNat, by omega, by omega⟩
      have hp0 : 0 ≤ s % ((k : Int) + 1) := by omega
      have hp1 : s % ((k : Int) + 1) ≤ (k : Int) := by omega
      have HP : Hid (s % ((k : Int) + 1) = (p : Int)) := hp
      have HR : Hid (wr.rowIs w.heap.size 25 (k * 2) (cellsTo z k)) := hr
      have hlt : w.heap.size < wr.heap.size := hr.lt
      clear hp hr hrow
      go_wp2_with fail
      rw [HP.out]
      clear hp0 hp1
      refine (index_any _ k k (recs z) _ _ (by omega) (recsAt0 HR.out k (Nat.le_refl _))).mono ?_
      rintro e w2 ⟨r1, rfl, hf1, hb2⟩
      have HF1 : Hid (IsFirst (recs z).T (t % 4) 0 k r1) := hf1
      have hr1 := hf1.bound
      have HR2 : Hid (w2.rowIs w.heap.size 25 (k * 2) (cellsTo z k)) := rowIs_below HR.out hb2 hlt
      clear hf1
      go_wp2_with fail
      refine (index_any _ p k (recs z) _ _ (by omega) (recsAt0 HR2.out p hpn)).mono ?_
      rintro e w3 ⟨r2, rfl, hf2, hb3⟩
      have HF2 : Hid (IsFirst (recs z).T (t % 4) 0 p r2) := hf2
      have hr2 := hf2.bound
      have HR3 : Hid (w3.rowIs w.heap.size 25 (k * 2) (cellsTo z k)) := rowIs_below HR2.out hb3 (by have := hb2.size; omega)
      clear hf2
      have HC : Hid (∀ r3, IsFirst (fun i => (recs z).T (p + i)) (t % 4) 0 (k - p) r3 → (r2 ≠ -1 → 0 ≤ r2 ∧ r2 < p ∧ r1 = r2) ∧ (r2 = -1 → (r3 ≠ -1 → 0 ≤ r3 ∧ r3 < (k : Int) - p ∧ r1 = p + r3) ∧ (r3 = -1 → r1 = -1))) :=
        fun r3 h3 => ⟨fin_front HF1.out HF2.out hpn, fin_rest HF1.out HF2.out h3 hpn⟩
      have H3 : Hid (∀ a' c', RecsAt w3 a' (k - p) ⟨fun i => (recs z).T (p + i), fun _ => none, fun _ => 0, fun _ => 0, fun _ _ => 0⟩ → Calls Ycqm.prog 15 #[.slice a' (k - p) c', .int .u8 (t % 4)] w3 fun e w' => ∃ r3, e = .returned (.int .i64 r3) ∧ IsFirst (fun i => (recs z).T (p + i)) (t % 4) 0 (k - p) r3 ∧ Below w3.heap.size w3 w') :=
        fun a' c' h => index_any a' (k - p) c' _ _ _ (by omega) h
      have HB : Hid (∀ w4, Below w3.heap.size w3 w4 → Below w.heap.size w w4) := fun w4 h => ((hb.trans (hb2.mono (by omega))).trans (hb3.mono (by have := hb2.size; omega))).trans (h.mono (by have := hb2.size; have := hb3.size; omega))
      clear hb hb1 hb2 hb3
      by_cases hpk : k = p
      · have HC0 : Hid (∀ r3, IsFirst (fun i => (recs z).T (p + i)) (t % 4) 0 0 r3 → (r2 ≠ -1 → 0 ≤ r2 ∧ r2 < p ∧ r1 = r2) ∧ (r2 = -1 → r3 = -1 ∧ r1 = -1)) := by
          intro r3 h3
          have e0 : k - p = 0 := by omega
          have h4 := HC.out r3 (by rw [e0]; exact h3)
          have h5 : r3 = -1 := by
            rcases h3 with ⟨h, _⟩ | ⟨q, _, _, h, _⟩
            · exact h
            · omega
          exact ⟨h4.1, fun h => ⟨h5, (h4.2 h).2 h5⟩⟩
        go_wp2_with fail
        refine (index_any _ 0 0 ⟨fun i => (recs z).T (p + i), fun _ => none, fun _ => 0, fun _ => 0, fun _ _ => 0⟩ _ _ (by omega) (fun h => by omega)).mono ?_
        rintro e w4 ⟨r3, rfl, hf3, hb4⟩
        have hC := HC0.out r3 hf3
        have HB4 : Hid (Below w.heap.size w w4) := HB.out w4 hb4
        clear hf3 hb4
        by_cases h2 : r2 = -1
        · obtain ⟨rfl, rfl⟩ := hC.2 h2
          subst h2
          clear hC
          go_wp2
          go_ret
          exact ⟨rfl, HB4.out⟩
        · obtain ⟨g1, g2, rfl⟩ := hC.1 h2
          have h2b : (r1 != -1) = true := by simpa using h2
          clear hC
          go_wp2
          go_ret
          exact ⟨rfl, HB4.out⟩
      · go_wp2_with fail
        refine (H3.out _ _ (recsAt HR3.out p (k - p) (by omega))).mono ?_
        rintro e w4 ⟨r3, rfl, hf3, hb4⟩
        have hC := HC.out r3 hf3
        have hr3 := hf3.bound
        have HB4 : Hid (Below w.heap.size w w4) := HB.out w4 hb4
        clear hf3 hb4
        by_cases h2 : r2 = -1
        · by_cases h3 : r3 = -1
          · obtain rfl := (hC.2 h2).2 h3
            subst h2 h3
            clear hC
            go_wp2
            go_ret
            exact ⟨rfl, HB4.out⟩
          · obtain ⟨g1, g2, rfl⟩ := (hC.2 h2).1 h3
            subst h2
            have h3b : (r3 != -1) = true := by simpa using h3
            clear hC
            go_wp2
            go_ret
            exact ⟨rfl, HB4.out⟩
        · obtain ⟨g1, g2, rfl⟩ := hC.1 h2
          have h2b : (r1 != -1) = true := by simpa using h2
          clear hC
          go_wp2
          go_ret
          exact ⟨rfl, HB4.out⟩
end Go.Proofs.Ymbrcq.lawS930003ISplit
