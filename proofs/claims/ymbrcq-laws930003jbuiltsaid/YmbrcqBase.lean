/-
  Ymbrcq: what every proof of this seat shares: how a slice of bytes and a slice of records lie in memory, how each is opened as an argument, and small laws on worlds.
-/
import Derived.Test.YmbrcqRows
import Derived.WalkKit
import Derived.ProofKit
import Derived.OpenShut
import Derived.ShutString
import Derived.ChangeOld
import Derived.Below
import Derived.Deep.Slices
import Derived.Deep.SlicePairs
import Derived.Deep.QuietTactic
import Derived.BigQuiet
import Derived.Deep.OwnRows
namespace Go.Proofs.Ymbrcq
open Go.ChangeShapes Go.WideShapes Go.ChangeAt Go.RowKit

theorem own : ownKnob Ycqm.prog.godebug = none := by kernel_rfl
theorem laidOut : laidOutB Ycqm.prog = true := by kernel_rfl
theorem Ycqm.cells5 : Ycqm.prog.cellsOf 5 = 1 := by kernel_rfl
theorem Ycqm.cells23 : Ycqm.prog.cellsOf 23 = 1 := by kernel_rfl
theorem Ycqm.cells25 : Ycqm.prog.cellsOf 25 = 2 := by kernel_rfl
theorem Ycqm.info5 : (Ycqm.prog.info? 5).map (fun i => (i.zero, i.size, i.bytes)) = some (some (.int .u8 0), 1, 1) := by kernel_rfl

/-- The bytes z lie at a. -/
def BytesAt (w : World) (a : Option Addr) (n : Nat) (z : Nat → Int) : Prop :=
  0 < n → ∃ b off, a = some ⟨b, off, none⟩ ∧ ∀ i, i < n → w.cell? ⟨b, off + i, none⟩ = some (.int .u8 (z i))

def IsByte (z : Nat → Int) : Prop := ∀ i, 0 ≤ z i ∧ z i ≤ 255

/-- What a slice of records reads as: the types' bytes, the values' slices (address, length, capacity), the values' bytes. -/
structure Recs where
  T : Nat → Int
  A : Nat → Option Addr
  L : Nat → Nat
  C : Nat → Nat
  Z : Nat → Nat → Int

/-- The records lie at a: each takes two cells. -/
def RecsAt (w : World) (a : Option Addr) (n : Nat) (r : Recs) : Prop :=
  0 < n → ∃ b off, a = some ⟨b, off, none⟩ ∧
    (∀ i, i < n → w.cell? ⟨b, off + i * 2, none⟩ = some (.int .u8 (r.T i))) ∧
    (∀ i, i < n → w.cell? ⟨b, off + i * 2 + 1, none⟩ = some (.slice (r.A i) (r.L i) (r.C i)))

/-- The records' values lie where the records say. -/
def ValsAt (w : World) (n : Nat) (r : Recs) : Prop := ∀ i, i < n → BytesAt w (r.A i) (r.L i) (r.Z i)

/-- The numbers of the records are as Go's own. -/
structure RecsOk (n : Nat) (r : Recs) : Prop where
  hT : ∀ i, i < n → 0 ≤ r.T i ∧ r.T i ≤ 255
  hL : ∀ i, i < n → r.L i ≤ r.C i
  hC : ∀ i, i < n → r.C i ≤ 9223372036854775807
  hZ : ∀ i, IsByte (r.Z i)
  hN : ∀ i, i < n → r.A i = none → r.L i = 0 ∧ r.C i = 0

theorem BytesAt.below {w w' : World} {a : Option Addr} {n : Nat} {z : Nat → Int} (h : BytesAt w a n z) (hb : Below w.heap.size w w') : BytesAt w' a n z := by
  intro hn
  obtain ⟨b, off, rfl, hc⟩ := h hn
  exact ⟨b, off, rfl, fun i hi => (hb.cell (World.block_lt_of_cell? _ _ (hc i hi))).trans (hc i hi)⟩

theorem RecsAt.below {w w' : World} {a : Option Addr} {n : Nat} {r : Recs} (h : RecsAt w a n r) (hb : Below w.heap.size w w') : RecsAt w' a n r := by
  intro hn
  obtain ⟨b, off, rfl, hc, hd⟩ := h hn
  exact ⟨b, off, rfl, fun i hi => (hb.cell (World.block_lt_of_cell? _ _ (hc i hi))).trans (hc i hi), fun i hi => (hb.cell (World.block_lt_of_cell? _ _ (hd i hi))).trans (hd i hi)⟩

theorem ValsAt.below {w w' : World} {n : Nat} {r : Recs} (h : ValsAt w n r) (hb : Below w.heap.size w w') : ValsAt w' n r := fun i hi => (h i hi).below hb

theorem below_drewN (w : World) (k : Nat) : Below w.heap.size w (w.drewN k) := ⟨rfl, rfl, rfl, Nat.le_refl _, fun _ _ => rfl⟩

theorem u8_of_wf {n : Int} (h : (Lit.int .u8 n).wf = true) : 0 ≤ n ∧ n ≤ 255 := bounds_u8 h

/-- What is read behind a cut: 'b[lo:]' (at the capacity's end the address stays, and nothing is left). -/
theorem BytesAt.from {w : World} {b off n c : Nat} {z : Nat → Int} (h : BytesAt w (some ⟨b, off, none⟩) n z) (hn : n ≤ c) (lo : Nat) :
    BytesAt w (if c = lo then some ⟨b, off, none⟩ else some ⟨b, off + lo, none⟩) (n - lo) (fun i => z (i + lo)) := by
  intro hlt
  obtain ⟨b', off', e, hc⟩ := h (by omega)
  simp only [Option.some.injEq, Addr.mk.injEq, and_true] at e
  obtain ⟨rfl, rfl⟩ := e
  rw [if_neg (by omega)]
  refine ⟨b, off + lo, rfl, fun i hi => ?_⟩
  have := hc (i + lo) (by omega)
  rw [← this]
  congr 2
  omega
theorem BytesAt.add {w : World} {ad : Addr} {n : Nat} {z : Nat → Int} (h : BytesAt w (some ad) n z) (lo : Nat) : BytesAt w (some (ad.add lo)) (n - lo) (fun i => z (i + lo)) := by
  intro hlt
  obtain ⟨b, off, e, hc⟩ := h (by omega)
  simp only [Option.some.injEq] at e
  subst e
  rw [add_plain]
  refine ⟨b, off + lo, rfl, fun i hi => ?_⟩
  have := hc (i + lo) (by omega)
  rw [← this]
  congr 2
  omega
/-- What is read ahead of a cut: 'b[:hi]'. -/
theorem BytesAt.upto {w : World} {a : Option Addr} {n : Nat} {z : Nat → Int} (h : BytesAt w a n z) {m : Nat} (hm : m ≤ n) : BytesAt w a m z := by
  intro hlt
  obtain ⟨b, off, e, hc⟩ := h (by omega)
  exact ⟨b, off, e, fun i hi => hc i (by omega)⟩

/-- A slice of bytes that came in. -/
theorem open_bytes {H : Type} {enc : TypeId × Value → H} {W : World} {a : Option Addr} {len cap : Nat} {x : DataW H × List MemPlace} {fuel : Nat}
    (h : DataW.trod enc Ycqm.prog W 0 (fun _ => true) true fuel 23 [.slice a len cap] = some x) :
    len ≤ cap ∧ cap ≤ 9223372036854775807 ∧ (a = none → len = 0 ∧ cap = 0) ∧ ∃ z, IsByte z ∧ BytesAt W a len z := by
  rcases open_ints Ycqm.underlying23 Ycqm.underlying5 Ycqm.cells5 h with ⟨hcs, _⟩ | ⟨ad, l, c, zs, hcs, _, hl, hm, hz, _, hcell, hwz⟩
  · simp at hcs
    obtain ⟨rfl, rfl, rfl⟩ := hcs
    exact ⟨Nat.le_refl _, by omega, fun _ => ⟨rfl, rfl⟩, fun _ => 0, fun _ => by simp, fun hn => absurd hn (Nat.lt_irrefl _)⟩
  · simp at hcs
    obtain ⟨rfl, rfl, rfl⟩ := hcs
    unfold maxLen at hm
    simp only [if_true] at hz
    refine ⟨hl, by omega, fun e => by simp at e, fun i => zs.getD i 0, fun i => ?_, fun hn => ?_⟩
    · by_cases hi : i < zs.length
      · have := u8_of_wf (hwz (zs.getD i 0) (by simp [List.getD, hi]))
        exact this
      · simp [List.getD, List.getElem?_eq_none (show zs.length ≤ i by omega)]
    · obtain ⟨b, off, rfl, hc⟩ := ints_at hcell (by omega)
      exact ⟨b, off, rfl, fun i hi => hc i (by omega)⟩

/-- A slice of records that came in. -/
theorem open_recs {H : Type} {enc : TypeId × Value → H} {W : World} {a : Option Addr} {len cap : Nat} {x : DataW H × List MemPlace} {fuel : Nat}
    (h : DataW.trod enc Ycqm.prog W 0 (fun _ => true) true fuel 22 [.slice a len cap] = some x) :
    len ≤ cap ∧ cap ≤ 9223372036854775807 ∧ (a = none → len = 0 ∧ cap = 0) ∧ ∃ r, RecsOk len r ∧ RecsAt W a len r ∧ ValsAt W len r := by
  rcases Go.Deep.open_slice_pairs Ycqm.underlying22 Ycqm.underlying25 Ycqm.cells25 rfl rfl Ycqm.cells5 Ycqm.cells23 h with ⟨hcs, _⟩ | ⟨ad, l, c, m, n, V0, V1, D0, D1, P0, P1, hcs, _, hl, hm, hmm, _, hx⟩
  · simp at hcs
    obtain ⟨rfl, rfl, rfl⟩ := hcs
    exact ⟨Nat.le_refl _, by omega, fun _ => ⟨rfl, rfl⟩, ⟨fun _ => 0, fun _ => none, fun _ => 0, fun _ => 0, fun _ _ => 0⟩, ⟨fun _ h => absurd h (Nat.not_lt_zero _), fun _ h => absurd h (Nat.not_lt_zero _), fun _ h => absurd h (Nat.not_lt_zero _), fun _ _ => by simp, fun _ h => absurd h (Nat.not_lt_zero _)⟩, fun hn => absurd hn (Nat.lt_irrefl _), fun _ h => absurd h (Nat.not_lt_zero _)⟩
  · simp at hcs
    obtain ⟨rfl, rfl, rfl⟩ := hcs
    unfold maxLen at hm
    simp only [if_true] at hmm
    subst hmm
    have each : ∀ i, i < len → ∃ q : Int × (Option Addr × Nat × Nat) × (Nat → Int), V0 i = .int .u8 q.1 ∧ (0 ≤ q.1 ∧ q.1 ≤ 255) ∧ V1 i = .slice q.2.1.1 q.2.1.2.1 q.2.1.2.2 ∧ q.2.1.2.1 ≤ q.2.1.2.2 ∧ q.2.1.2.2 ≤ 9223372036854775807 ∧ (q.2.1.1 = none → q.2.1.2.1 = 0 ∧ q.2.1.2.2 = 0) ∧ IsByte q.2.2 ∧ BytesAt W q.2.1.1 q.2.1.2.1 q.2.2 := by
      intro i hi
      obtain ⟨_, _, h0, h1⟩ := hx i (by omega)
      obtain ⟨t, e0, _, wt⟩ := DataW.trod_int Ycqm.underlying5 h0
      simp at e0
      have hsl : ∃ a l c, V1 i = .slice a l c := by
        rcases DataW.trod_slice Ycqm.underlying23 h1 with ⟨e, _⟩ | ⟨a, l, c, _, _, _, _, e, _⟩
        · exact ⟨none, 0, 0, by simpa using e⟩
        · exact ⟨some a, l, c, by simpa using e⟩
      obtain ⟨a1, l1, c1, e1⟩ := hsl
      rw [e1] at h1
      obtain ⟨g1, g2, g3, z, hz, hb⟩ := open_bytes h1
      exact ⟨(t, (a1, l1, c1), z), e0, u8_of_wf wt, e1, g1, g2, g3, hz, hb⟩
    have : Inhabited (Int × (Option Addr × Nat × Nat) × (Nat → Int)) := ⟨(0, (none, 0, 0), fun _ => 0)⟩
    obtain ⟨q, hq⟩ := Go.Deep.choose_lt each
    refine ⟨hl, by omega, fun e => by simp at e, ⟨fun i => (q i).1, fun i => (q i).2.1.1, fun i => (q i).2.1.2.1, fun i => (q i).2.1.2.2, fun i => if i < len then (q i).2.2 else fun _ => 0⟩, ⟨fun i hi => (hq i hi).2.1, fun i hi => (hq i hi).2.2.2.1, fun i hi => (hq i hi).2.2.2.2.1, fun i => ?_, fun i hi => (hq i hi).2.2.2.2.2.1⟩, fun hn => ?_, fun i hi => ?_⟩
    · show IsByte (if i < len then (q i).2.2 else fun _ => 0)
      split
      · exact (hq i (by assumption)).2.2.2.2.2.2.1
      · intro _; simp
    · obtain ⟨b, off, spot⟩ := ad
      have hspot : spot = none := by simpa [Addr.add] using World.cell?_spot (hx 0 (by omega)).1
      subst hspot
      refine ⟨b, off, rfl, fun i hi => ?_, fun i hi => ?_⟩
      · have := (hx i (by omega)).1
        rw [add_plain] at this
        rw [this, (hq i hi).1]
      · have := (hx i (by omega)).2.1
        rw [add_plain] at this
        rw [Nat.add_assoc, this, (hq i hi).2.2.1]
    · show BytesAt W (q i).2.1.1 (q i).2.1.2.1 (if i < len then (q i).2.2 else fun _ => 0)
      rw [if_pos hi]
      exact (hq i hi).2.2.2.2.2.2.2

theorem ret_int {k : IntKind} {a b : Int} (h : a = b) : Ending.returned (.int k a) = .returned (.int k b) := by rw [h]
theorem ret_bool {a b : Bool} (h : a = b) : Ending.returned (.bool a) = .returned (.bool b) := by rw [h]
end Go.Proofs.Ymbrcq
