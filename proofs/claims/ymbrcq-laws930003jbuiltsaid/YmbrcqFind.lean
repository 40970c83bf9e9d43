/-
  Ymbrcq: 'Find': the first record of a type, or a code.
-/
import Derived.Test.YmbrcqCheck
import Derived.Test.YmbrcqReadRec
namespace Go.Proofs.Ymbrcq
open Go.RowKit
set_option linter.unusedVariables false

/-- k whole records, none of type t, lead from the front to p. -/
def ReachN (z : Nat → Int) (n : Nat) (t : Int) : Nat → Nat → Prop
  | 0, p => p = 0
  | k + 1, p => ∃ q, ReachN z n t k q ∧ q < n ∧ (span z n q).2.2 = 0 ∧ z q ≠ t ∧ (span z n q).2.1 = (p : Int)

theorem ReachN.uniq {z : Nat → Int} {n : Nat} {t : Int} : ∀ {k p q : Nat}, ReachN z n t k p → ReachN z n t k q → p = q
  | 0, p, q, h, g => by simp only [ReachN] at h g; omega
  | k + 1, p, q, ⟨a, ha, _, _, _, ea⟩, ⟨b, hb, _, _, _, eb⟩ => by
    have := ReachN.uniq ha hb
    subst this
    omega

theorem ReachN.le {z : Nat → Int} {n : Nat} {t : Int} (hz : IsByte z) : ∀ {k p : Nat}, ReachN z n t k p → p ≤ n
  | 0, p, h => by simp only [ReachN] at h; omega
  | k + 1, p, ⟨a, ha, h1, h2, _, ea⟩ => by
    have hb := (span_bounds z n a hz).2.1 h2
    omega

theorem ReachN.pre {z : Nat → Int} {n : Nat} {t : Int} : ∀ {j k p : Nat}, ReachN z n t k p → j < k → ∃ q, ReachN z n t j q ∧ q < n ∧ (span z n q).2.2 = 0 ∧ z q ≠ t
  | j, 0, p, h, hj => by omega
  | j, k + 1, p, ⟨a, ha, h1, h2, h3, ea⟩, hj => by
    by_cases e : j = k
    · subst e
      exact ⟨a, ha, h1, h2, h3⟩
    · exact ReachN.pre ha (by omega)

/-- The walk stops at p: no record of type t is found. -/
def StopBad (z : Nat → Int) (n : Nat) (p : Nat) (code : Int) : Prop := (p = n ∧ code = 4) ∨ (p < n ∧ code = (span z n p).2.2 ∧ code ≠ 0)
/-- The walk stops at p: there the record of type t stands. -/
def StopGood (z : Nat → Int) (n : Nat) (t : Int) (p s m : Nat) : Prop := p < n ∧ z p = t ∧ span z n p = ((s : Int), ((s + m : Nat) : Int), 0) ∧ s + m ≤ n ∧ m ≤ 65535

def FindBad (z : Nat → Int) (n : Nat) (t : Int) (code : Int) : Prop := ∃ k p, ReachN z n t k p ∧ StopBad z n p code
def FindGood (z : Nat → Int) (n : Nat) (t : Int) (s m : Nat) : Prop := ∃ k p, ReachN z n t k p ∧ StopGood z n t p s m

theorem stop_eq {z : Nat → Int} {n : Nat} {t : Int} {k p k' p' : Nat} (h : ReachN z n t k p) (h' : ReachN z n t k' p') (hs : ¬ (p < n ∧ (span z n p).2.2 = 0 ∧ z p ≠ t)) (hs' : ¬ (p' < n ∧ (span z n p').2.2 = 0 ∧ z p' ≠ t)) : p = p' := by
  rcases Nat.lt_trichotomy k k' with e | e | e
  · obtain ⟨q, hq, h1, h2, h3⟩ := h'.pre e
    have := h.uniq hq
    subst this
    exact absurd ⟨h1, h2, h3⟩ hs
  · subst e
    exact h.uniq h'
  · obtain ⟨q, hq, h1, h2, h3⟩ := h.pre e
    have := h'.uniq hq
    subst this
    exact absurd ⟨h1, h2, h3⟩ hs'

theorem StopBad.stop {z : Nat → Int} {n p : Nat} {t code : Int} (h : StopBad z n p code) : ¬ (p < n ∧ (span z n p).2.2 = 0 ∧ z p ≠ t) := by
  rintro ⟨h1, h2, _⟩
  rcases h with ⟨h3, _⟩ | ⟨_, h3, h4⟩ <;> omega
theorem StopGood.stop {z : Nat → Int} {n p s m : Nat} {t : Int} (h : StopGood z n t p s m) : ¬ (p < n ∧ (span z n p).2.2 = 0 ∧ z p ≠ t) := fun h2 => h2.2.2 h.2.1

theorem FindBad.uniq {z : Nat → Int} {n : Nat} {t c c' : Int} (h : FindBad z n t c) (g : FindBad z n t c') : c = c' := by
  obtain ⟨k, p, hr, hs⟩ := h
  obtain ⟨k', p', gr, gs⟩ := g
  have := stop_eq hr gr hs.stop gs.stop
  subst this
  rcases hs with ⟨h1, h2⟩ | ⟨h1, h2, h3⟩ <;> rcases gs with ⟨g1, g2⟩ | ⟨g1, g2, g3⟩ <;> omega
theorem FindBad.not_good {z : Nat → Int} {n s m : Nat} {t c : Int} (h : FindBad z n t c) (g : FindGood z n t s m) : False := by
  obtain ⟨k, p, hr, hs⟩ := h
  obtain ⟨k', p', gr, gs⟩ := g
  have := stop_eq hr gr hs.stop gs.stop
  subst this
  obtain ⟨g1, _, g2, _⟩ := gs
  rcases hs with ⟨h1, h2⟩ | ⟨h1, h2, h3⟩
  · omega
  · rw [g2] at h2
    exact h3 h2
theorem FindGood.uniq {z : Nat → Int} {n s m s' m' : Nat} {t : Int} (h : FindGood z n t s m) (g : FindGood z n t s' m') : s = s' ∧ m = m' := by
  obtain ⟨k, p, hr, hs⟩ := h
  obtain ⟨k', p', gr, gs⟩ := g
  have := stop_eq hr gr hs.stop gs.stop
  subst this
  have h1 := hs.2.2.1
  rw [gs.2.2.1] at h1
  simp only [Prod.mk.injEq] at h1
  omega
theorem FindBad.code {z : Nat → Int} {n : Nat} {t c : Int} (h : FindBad z n t c) : c ≠ 0 := by
  obtain ⟨k, p, hr, hs⟩ := h
  rcases hs with ⟨h1, h2⟩ | ⟨h1, h2, h3⟩ <;> omega

theorem tup2 {v : Value} {a b : Int} (h : a = b) : Ending.returned (.tuple #[v, .int .i64 a]) = .returned (.tuple #[v, .int .i64 b]) := by rw [h]

set_option maxHeartbeats 1000000 in
theorem find_long (a : Option Addr) (n c : Nat) (t : Int) (w : World) (hn : n ≤ 9223372036854775807) (h : (1048576 : Int) < n) :
    Calls Ycqm.prog 17 #[.slice a n c, .int .u8 t] w fun e w' => e = .returned (.tuple #[.agg #[.int .u8 0, .slice none 0 0], .int .i64 3]) ∧ Below w.heap.size w w' := by
  have hd : decide ((1048576 : Int) < (n : Int)) = true := decide_eq_true h
  go_enter Ycqm.func17, Ycqm.ntmps17
  go_wp2
  exact bodyPost_ret (v := .tuple #[.agg #[.int .u8 0, .slice none 0 0], .int .i64 3]) (by simp [results, Ycqm.results17, go_sem]) rfl ⟨rfl, (Below.refl _ _).alloc (Nat.le_refl _) _⟩

set_option maxHeartbeats 4000000 in
theorem find_calls (a : Option Addr) (n c : Nat) (z : Nat → Int) (t : Int) (w : World) (hn : (n : Int) ≤ 1048576) (hnc : n ≤ c) (hcc : c ≤ 9223372036854775807) (hz : IsByte z) (ha : BytesAt w a n z) :
    Calls Ycqm.prog 17 #[.slice a n c, .int .u8 t] w fun e w' =>
      (∃ code, e = .returned (.tuple #[.agg #[.int .u8 0, .slice none 0 0], .int .i64 code]) ∧ FindBad z n t code ∧ Below w.heap.size w w') ∨
      (∃ s m g, e = .returned (.tuple #[.agg #[.int .u8 t, .slice (some ⟨g, 0, none⟩) m m], .int .i64 0]) ∧ FindGood z n t s m ∧ w.heap.size ≤ g ∧ w'.rowIs g 5 m (fun i => .int .u8 (z (s + i))) ∧ Below w.heap.size w w') := by
  have HA : Hid (BytesAt w a n z) := ha
  have HZ : Hid (IsByte z) := hz
  clear ha hz
  have hd : decide ((1048576 : Int) < (n : Int)) = false := decide_eq_false (by omega)
  go_enter Ycqm.func17, Ycqm.ntmps17
  go_wp2
  go_loopw [6] (fun y wr => ∃ (k p d : Nat), p ≤ n ∧ y = .int .i64 p ∧ Hid (ReachN z n t k p) ∧ wr = (w.alloc (.cells #[.int .u8 0, .slice none 0 0] 25)).drewN d)
    (fun y _ => n - (intOf y).toNat)
  case atStart => exact ⟨0, 0, 0, Nat.zero_le _, rfl, rfl, rfl⟩
  case round =>
    obtain ⟨k, p, d, hp, rfl, HR, rfl⟩ := hrel
    by_cases hlt : p < n
    · have hsb := span_bounds z n p HZ.out
      have hbel := below_alloc_drewN w (.cells #[.int .u8 0, .slice none 0 0] 25) d
      have HS : Hid (Calls Ycqm.prog 28 #[.slice a n c, .int .i64 (p : Int)] ((w.alloc (.cells #[.int .u8 0, .slice none 0 0] 25)).drewN d) fun e w' => e = .returned (tri (span z n p)) ∧ ∃ k, w' = ((w.alloc (.cells #[.int .u8 0, .slice none 0 0] 25)).drewN d).drewN k) := span_calls a n c z p _ (by omega) HZ.out (HA.out.below hbel) (by omega) (by omega)
      by_cases hc : (span z n p).2.2 = 0
      · obtain ⟨g0, g1, g2, g3, g4, g5⟩ := hsb.2.1 hc
        obtain ⟨q, hq⟩ : ∃ q : Nat, (span z n p).2.1 = (q : Int) := ⟨(span z n p).2.1.toNat, by omega⟩
        obtain ⟨b, off, rfl, hcell⟩ := HA.out (by omega)
        have hbw : b < w.heap.size := World.block_lt_of_cell? _ _ (hcell p hlt)
        have c0 : w.cell? ⟨b, off + p, none⟩ = some (.int .u8 (z p)) := hcell p hlt
        clear hcell hsb hbel
        by_cases ht : z p = t
        · obtain ⟨s, hs⟩ : ∃ s : Nat, (span z n p).1 = (s : Int) := ⟨(span z n p).1.toNat, by omega⟩
          obtain ⟨m, rfl⟩ : ∃ m, q = s + m := ⟨q - s, by omega⟩
          have hsp : span z n p = ((s : Int), ((s + m : Nat) : Int), 0) := by
            rw [← hs, ← hq, ← hc]
          have HG : Hid (FindGood z n t s m) := ⟨k, p, HR.out, hlt, ht, hsp, by omega, by omega⟩
          have HRR : Hid (∀ d2, Calls Ycqm.prog 25 #[.slice (some ⟨b, off, none⟩) n c, .int .i64 (p : Int)] ((w.alloc (.cells #[.int .u8 0, .slice none 0 0] 25)).drewN (d + d2)) fun e w' => ∃ g, e = .returned (.tuple #[.agg #[.int .u8 (z p), .slice (some ⟨g, 0, none⟩) m m], .int .i64 ((s + m : Nat) : Int), .int .i64 0]) ∧ w.heap.size + 1 ≤ g ∧ w'.rowIs g 5 m (fun i => .int .u8 (z (s + i))) ∧ Below (w.heap.size + 1) ((w.alloc (.cells #[.int .u8 0, .slice none 0 0] 25)).drewN (d + d2)) w') := by
            intro d2
            refine (rr_good _ n c z p s m _ hnc hcc HZ.out (HA.out.below (below_alloc_drewN w _ (d + d2))) hsp hlt (by omega) (by omega)).mono ?_
            rintro e w' ⟨g, rfl, hg, hrow, hb⟩
            exact ⟨g, rfl, by simpa [World.drewN] using hg, hrow, by simpa [World.drewN] using hb⟩
          rw [hsp] at HS
          have htb : (z p == t) = true := by simpa using ht
          clear hs hq hc ht hsp g0 g1 g2 g3 g4 g5
          go_wp2_with fail
          refine HS.out.mono ?_
          rintro e w' ⟨rfl, d2, rfl⟩
          unfold tri
          dsimp only
          go_wp2_with fail
          refine (HRR.out d2).mono ?_
          rintro e w2 ⟨g, rfl, hg, hrow, hb⟩
          have hs2 : w.heap.size + 1 ≤ w2.heap.size := by have := hb.size; simpa [World.drewN] using this
          have r0 : w2.cell? ⟨w.heap.size, 0, none⟩ = some (.int .u8 0) := by rw [hb.cell (p := ⟨w.heap.size, 0, none⟩) (by simp)]; simp
          have r1 : w2.cell? ⟨w.heap.size, 1, none⟩ = some (.slice none 0 0) := by rw [hb.cell (p := ⟨w.heap.size, 1, none⟩) (by simp)]; simp
          have x0 : w2.frozen? ⟨w.heap.size, 0, none⟩ = false := by rw [hb.frozen (p := ⟨w.heap.size, 0, none⟩) (by simp)]; simp
          have x1 : w2.frozen? ⟨w.heap.size, 1, none⟩ = false := by rw [hb.frozen (p := ⟨w.heap.size, 1, none⟩) (by simp)]; simp
          have l2 : w.heap.size < w2.heap.size := by omega
          have n1 : ¬ w.heap.size = w2.heap.size := by omega
          have n2 : ¬ w2.heap.size = w.heap.size := by omega
          go_wp2
          have ht : z p = t := eq_of_beq htb
          have hbw2 : Below w.heap.size w w2 := (below_alloc_drewN w (.cells #[.int .u8 0, .slice none 0 0] 25) (d + d2)).trans (hb.mono (by omega))
          refine bodyPost_ret (v := .tuple #[.agg #[.int .u8 (z p), .slice (some ⟨g, 0, none⟩) m m], .int .i64 0]) (by simp [results, Ycqm.results17, go_sem, r0, r1, l2]) rfl (.inr ⟨s, m, g, by rw [ht], HG.out, by omega, ?_, ?_⟩)
          · exact ((hrow.setOther (by simp; omega) _).setOther (by simp; omega) _).alloc _
          · exact ((hbw2.setCell (Nat.le_refl _) _).setCell (Nat.le_refl _) _).alloc (by simp; omega) _
        · have HR2 : Hid (ReachN z n t (k + 1) q) := ⟨p, HR.out, hlt, hc, ht, hq⟩
          have htb : (z p == t) = false := by simpa using ht
          clear ht
          generalize span z n p = s at *
          obtain ⟨s1, s2, s3⟩ := s
          dsimp only at *
          subst hq hc
          go_wp2_with fail
          refine HS.out.mono ?_
          rintro e w' ⟨rfl, d2, rfl⟩
          unfold tri
          dsimp only
          go_wp2
          go_roundw
          case rel => exact ⟨k + 1, q, d + d2, by omega, rfl, HR2, by simp [World.drewN]⟩
          case measure => simp [intOf] <;> omega
      · have HC : Hid (FindBad z n t (span z n p).2.2) := ⟨k, p, HR.out, .inr ⟨hlt, rfl, hc⟩⟩
        clear hsb hbel
        generalize span z n p = s at *
        obtain ⟨s1, s2, s3⟩ := s
        dsimp only at *
        have hcb : (s3 != 0) = true := by simpa using hc
        go_wp2_with fail
        refine HS.out.mono ?_
        rintro e w' ⟨rfl, d2, rfl⟩
        unfold tri
        dsimp only
        go_wp2
        refine bodyPost_ret (v := .tuple #[.agg #[.int .u8 0, .slice none 0 0], .int .i64 s3]) (by simp [results, Ycqm.results17, go_sem]) rfl (.inl ⟨s3, rfl, HC.out, ?_⟩)
        exact ((below_alloc_drewN w (.cells #[.int .u8 0, .slice none 0 0] 25) (d + d2)).setCell (Nat.le_refl _) _).setCell (Nat.le_refl _) _
    · obtain rfl : p = n := by omega
      have HC : Hid (FindBad z p t 4) := ⟨k, p, HR.out, .inl ⟨rfl, rfl⟩⟩
      go_wp2
      refine bodyPost_ret (v := .tuple #[.agg #[.int .u8 0, .slice none 0 0], .int .i64 4]) (by simp [results, Ycqm.results17, go_sem]) rfl (.inl ⟨4, rfl, HC.out, ?_⟩)
      exact ((below_alloc_drewN w (.cells #[.int .u8 0, .slice none 0 0] 25) d).setCell (Nat.le_refl _) _).setCell (Nat.le_refl _) _
end Go.Proofs.Ymbrcq
