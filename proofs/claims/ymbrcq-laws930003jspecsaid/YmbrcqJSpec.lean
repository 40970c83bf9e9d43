/-
  Ymbrcq: the walk of 'LawS930003JSpec'.
-/
import Derived.Test.YmbrcqJspecWalk
import Derived.Test.YmbrcqEq
namespace Go.Proofs.Ymbrcq.lawS930003JSpec
open Go.RowKit Go.Proofs.Ymbrcq
set_option linter.unusedVariables false

set_option maxRecDepth 100000 in
set_option maxHeartbeats 2000000 in
theorem walk (a : Option Addr) (n c : Nat) (z : Nat → Int) (t : Int) (w : World) (hl : n ≤ c) (hc : c ≤ 9223372036854775807) (_hn : a = none → n = 0 ∧ c = 0) (hz : IsByte z ∧ BytesAt w a n z) (ht : 0 ≤ t ∧ t ≤ 255) :
    Calls Ycqm.prog 6 #[.slice a n c, .int .u8 t] w fun e w' => e = .returned (.bool true) ∧ Below w.heap.size w w' := by
  obtain ⟨hz1, hz2⟩ := hz
  have hnil := eqlB_nil
  have hnnil := neqB_nil
  by_cases hbig : (1048576 : Int) < n
  · clear _hn
    go_enter Ycqm.func6, Ycqm.ntmps6
    go_wp2_with fail
    refine (jspec_long a n c t w (by omega) hbig).mono ?_
    rintro e w2 ⟨rfl, rfl⟩
    go_wp2_with fail
    refine (find_long a n c t _ (by omega) hbig).mono ?_
    rintro e w2 ⟨rfl, hb⟩
    go_wp2
    go_ret
    exact ⟨rfl, hb.alloc hb.size _⟩
  · have H1 : Hid (∀ d, Calls Ycqm.prog 17 #[.slice a n c, .int .u8 t] (w.drewN d) fun e w' =>
      (∃ code, e = .returned (.tuple #[.agg #[.int .u8 0, .slice none 0 0], .int .i64 code]) ∧ FindBad z n t code ∧ Below w.heap.size w w') ∨
      (∃ s m g, e = .returned (.tuple #[.agg #[.int .u8 t, .slice (some ⟨g, 0, none⟩) m m], .int .i64 0]) ∧ FindGood z n t s m ∧ w'.rowIs g 5 m (fun i => .int .u8 (z (s + i))) ∧ Below w.heap.size w w')) := by
      intro d
      refine (find_calls a n c z t _ (by omega) hl hc hz1 (hz2.below (below_drewN w d))).mono ?_
      rintro e w' (⟨code, rfl, h1, h2⟩ | ⟨s, m, g, rfl, h1, h2, h3, h4⟩)
      · exact .inl ⟨code, rfl, h1, (below_drewN w d).trans h2⟩
      · exact .inr ⟨s, m, g, rfl, h1, h3, (below_drewN w d).trans h4⟩
    have H2 := jspec_calls a n c z t w (by omega) hl hc hz1 hz2
    have H2' : Hid (Calls Ycqm.prog 16 #[.slice a n c, .int .u8 t] w fun e w' => (∃ d, w' = w.drewN d) ∧
      ((∃ code, e = .returned (.tuple #[.slice none 0 0, .int .i64 code]) ∧ FindBad z n t code) ∨
       (∃ s m a', (∃ c', e = .returned (.tuple #[.slice a' m c', .int .i64 0])) ∧ FindGood z n t s m ∧ BytesAt w a' m (fun i => z (s + i))))) := H2
    clear hz1 hz2 _hn H2
    go_enter Ycqm.func6, Ycqm.ntmps6
    go_wp2_with fail
    refine H2'.out.mono ?_
    rintro e w2 ⟨⟨d, rfl⟩, h⟩
    rcases h with ⟨code, rfl, hB⟩ | ⟨s, m, a', ⟨c', rfl⟩, hG, hA⟩
    · have HB : Hid (FindBad z n t code) := hB
      clear hB
      go_wp2_with fail
      refine (H1.out d).mono ?_
      rintro e w2 (⟨code2, rfl, h1, h2⟩ | ⟨s, m, g, rfl, h1, h3, h4⟩)
      · obtain rfl := HB.out.uniq h1
        have hcb : (code != 0) = true := by simpa using h1.code
        clear h1 HB
        go_wp2
        go_ret
        exact ⟨rfl, h2.alloc h2.size _⟩
      · exact absurd h1 (fun h => HB.out.not_good h)
    · have HG : Hid (FindGood z n t s m) := hG
      have HA : Hid (BytesAt w a' m (fun i => z (s + i))) := hA
      clear hG hA
      go_wp2_with fail
      refine (H1.out d).mono ?_
      rintro e w2 (⟨code2, rfl, h1, h2⟩ | ⟨s2, m2, g, rfl, h1, h3, h4⟩)
      · exact absurd HG.out (fun h => h1.not_good h)
      · obtain ⟨rfl, rfl⟩ := HG.out.uniq h1
        have HR : Hid (w2.rowIs g 5 m (fun i => .int .u8 (z (s + i)))) := h3
        have HB4 : Hid (Below w.heap.size w w2) := h4
        have hm : (m : Int) ≤ 65535 := by obtain ⟨_, _, _, _, _, _, _, h⟩ := h1; omega
        have HE : Hid (∀ o, Calls Ycqm.prog 18 #[.slice (some ⟨g, 0, none⟩) m m, .slice a' m c'] (w2.alloc o) fun e w' => e = .returned (.bool true) ∧ ∃ d, w' = (w2.alloc o).drewN d) := fun o =>
          eq_calls _ _ m m m c' (fun i => z (s + i)) _ (by omega) rfl (rowIs_bytes0 (HR.out.alloc o) m (Nat.le_refl _)) (HA.out.below (HB4.out.alloc HB4.out.size o))
        clear h1 h3 h4 HG
        go_wp2_with fail
        refine (HE.out _).mono ?_
        rintro e w3 ⟨rfl, d2, rfl⟩
        go_wp2
        go_ret
        exact ⟨rfl, (HB4.out.alloc HB4.out.size _).trans ((below_drewN _ d2).mono (by simp; have := HB4.out.size; omega))⟩
end Go.Proofs.Ymbrcq.lawS930003JSpec
