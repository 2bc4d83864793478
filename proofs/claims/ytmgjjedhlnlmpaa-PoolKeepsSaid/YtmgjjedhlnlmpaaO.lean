/- A call written down (Act), and a list of them, read as data: what its cells hold. -/
import Derived.Test.YtmgjjedhlnlmpaaL
import Derived.ProofKit
import Derived.Deep.Slices
import Derived.Deep.Strs
namespace Go.Proofs.Ytmgjjedhlnlmpaa
open Go.ChangeShapes Go.WideShapes Go.Deep Go.RowKit

theorem Try.cells46 : Try.prog.cellsOf 46 = 5 := by kernel_rfl
theorem Try.cells23 : Try.prog.cellsOf 23 = 3 := by kernel_rfl
theorem Try.cells3 : Try.prog.cellsOf 3 = 1 := by kernel_rfl
theorem Try.cells9 : Try.prog.cellsOf 9 = 1 := by kernel_rfl

theorem act_cells {H : Type} {enc : TypeId × Value → H} {w : World} {base : Nat} {spare : Nat → Bool} {held : Bool} {fuel : Nat} {cs : List Value} {x : DataW H × List MemPlace}
    (h : DataW.trod enc Try.prog w base spare held fuel 46 cs = some x) : ∃ (kind n f t : Int) (s : ByteArray), cs = [.int .i64 kind, .int .i64 n, .int .i64 f, .int .i64 t, .string s] := by
  obtain ⟨xs, k, _, _, hlen, hxl, hf⟩ := DataW.trod_struct Try.underlying46 h
  rw [Try.cells46] at hlen
  match cs, hlen with
  | [c0, c1, c2, c3, c4], _ =>
    match xs, hxl with
    | [y0, y1, y2], _ =>
      have g0 := hf 0 _ rfl
      have g1 := hf 1 _ rfl
      have g2 := hf 2 _ rfl
      simp [Try.cells3, Try.cells23] at g0 g1 g2
      obtain ⟨kind, e0, _, wk⟩ := DataW.trod_int Try.underlying3 g0
      obtain ⟨n, e1, _, _⟩ := DataW.trod_int Try.underlying3 g1
      obtain ⟨xs2, k2, _, _, _, hxl2, hf2⟩ := DataW.trod_struct Try.underlying23 g2
      match xs2, hxl2 with
      | [z0, z1, z2], _ =>
        have q0 := hf2 0 _ rfl
        have q1 := hf2 1 _ rfl
        have q2 := hf2 2 _ rfl
        simp [Try.cells3, Try.cells9] at q0 q1 q2
        obtain ⟨f, e2, _, _⟩ := DataW.trod_int Try.underlying3 q0
        obtain ⟨t, e3, _, _⟩ := DataW.trod_int Try.underlying3 q1
        obtain ⟨s, e4, _, _⟩ := DataW.trod_string Try.underlying9 q2
        simp only [List.cons.injEq, and_true] at e0 e1 e2 e3 e4
        subst e0 e1 e2 e3 e4
        exact ⟨kind, n, f, t, s, rfl⟩

/-- A call written down. -/
structure Call where
  kind : Int
  n : Int
  m : Msg

instance : Inhabited Call := ⟨⟨0, 0, ⟨0, 0, ⟨#[]⟩⟩⟩⟩

/-- The five cells of call c at place i of the row at ⟨b, off⟩. -/
def CallAt (w : World) (b off i : Nat) (c : Call) : Prop :=
  w.cell? ⟨b, off + i * 5, none⟩ = some (.int .i64 c.kind) ∧ w.cell? ⟨b, off + i * 5 + 1, none⟩ = some (.int .i64 c.n) ∧ w.cell? ⟨b, off + i * 5 + 2, none⟩ = some (.int .i64 c.m.f) ∧
  w.cell? ⟨b, off + i * 5 + 3, none⟩ = some (.int .i64 c.m.t) ∧ w.cell? ⟨b, off + i * 5 + 4, none⟩ = some (.string c.m.b)

/-- A list of calls that came in. -/
def CallsAt (w : World) (v : Value) : Prop :=
  ∃ (ao : Option Addr) (len cap : Nat), v = .slice ao len cap ∧ len ≤ cap ∧ cap ≤ maxLen ∧ (0 < len → ∃ (b off : Nat) (A : Nat → Call), ao = some ⟨b, off, none⟩ ∧ b < w.heap.size ∧ ∀ i, i < len → CallAt w b off i (A i))

theorem calls_open {H : Type} {enc : TypeId × Value → H} {w : World} {v : Value} {d : DataW H} {p : List MemPlace} {r : Reach} {b0 : Nat} (hv : Value.okWide Try.prog w r b0 39 v)
    (h : DataW.Trod enc Try.prog w 0 (fun _ => true) true 39 v d p) : CallsAt w v := by
  obtain ⟨a0, len, cap, rfl⟩ := okWide_slice Try.underlying39 hv
  obtain ⟨fuel, hf⟩ := h
  rcases open_slice Try.underlying39 hf with ⟨hcs, _⟩ | ⟨a, l, c, m, n, D, Pl, hcs, _, hl, hm, hmm, _, hi⟩
  · simp [Value.cells] at hcs
    obtain ⟨rfl, rfl, rfl⟩ := hcs
    exact ⟨none, 0, 0, rfl, Nat.le_refl _, by decide, fun h => absurd h (by omega)⟩
  · simp [Value.cells] at hcs
    obtain ⟨rfl, rfl, rfl⟩ := hcs
    refine ⟨some a, len, cap, rfl, hl, hm, fun h0 => ?_⟩
    simp only [if_true] at hmm
    subst hmm
    obtain ⟨b, off, spot⟩ := a
    have hs : spot = none := by
      obtain ⟨cs', hc, ht⟩ := hi 0 (by omega)
      obtain ⟨kind, n, f, t, s, rfl⟩ := act_cells ht
      rw [Try.cells46] at hc
      obtain ⟨_, _, hat⟩ := World.cells?_some hc
      have h0 := hat 0 (by omega)
      simpa [Addr.add] using World.cell?_spot h0
    subst hs
    have key : ∀ i, i < len → ∃ c : Call, CallAt w b off i c := by
      intro i hil
      obtain ⟨cs', hc, ht⟩ := hi i (by omega)
      obtain ⟨kind, n, f, t, s, rfl⟩ := act_cells ht
      rw [Try.cells46] at hc
      obtain ⟨_, _, hat⟩ := World.cells?_some hc
      have h0 := hat 0 (by omega)
      refine ⟨⟨kind, n, ⟨f, t, s⟩⟩, ?_⟩
      have h1 := hat 1 (by omega)
      have h2 := hat 2 (by omega)
      have h3 := hat 3 (by omega)
      have h4 := hat 4 (by omega)
      simp only [Addr.add_lit, Nat.add_zero] at h0 h1 h2 h3 h4
      exact ⟨h0, h1, h2, h3, h4⟩
    obtain ⟨A, hA⟩ := choose_lt key
    exact ⟨b, off, A, rfl, World.block_lt_of_cell? w _ (hA 0 h0).1, hA⟩

end Go.Proofs.Ytmgjjedhlnlmpaa
