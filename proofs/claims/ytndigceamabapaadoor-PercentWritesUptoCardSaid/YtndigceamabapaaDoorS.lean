/-
  A list of pairs that came in, read as data: what its cells hold; what its bulk bounds. No condition.
-/
import Derived.Test.YtndigceamabapaaDoorJ
import Derived.Test.YtndigceamabapaaDoorR
import Derived.Deep.SlicePairs
import Derived.Deep.Slices
import Derived.Deep.Strs
import Derived.ChangeOld
namespace Go.Proofs.YtndigceamabapaaDoor
open Go.ChangeShapes Go.WideShapes Go.Deep Go.RowKit

theorem Tryd.cells45 : Tryd.prog.cellsOf 45 = 2 := by kernel_rfl
theorem Tryd.cells9 : Tryd.prog.cellsOf 9 = 1 := by kernel_rfl

/-- A bound on what a list of pairs is when it is written. -/
def wsum : Pairs → Nat
  | [] => 0
  | x :: l => 3 * x.1.length + 3 * x.2.length + 2 + wsum l
theorem write_wsum : ∀ l : Pairs, (writeL l).length ≤ wsum l
  | [] => by simp [writeL, Lib.join, List.intercalate]
  | [x] => by
    have h1 := enc_length x.1
    have h2 := enc_length x.2
    show (Lib.join [piece x] [38]).length ≤ _
    rw [join_one]; simp [piece, wsum]; omega
  | x :: y :: l => by
    have h1 := enc_length x.1
    have h2 := enc_length x.2
    have ih := write_wsum (y :: l)
    show (Lib.join (piece x :: piece y :: l.map piece) [38]).length ≤ _
    rw [join_cons]
    have e : Lib.join (piece y :: l.map piece) [38] = writeL (y :: l) := rfl
    rw [e]
    simp only [List.length_append, List.length_cons, List.length_nil, piece, wsum] at ih ⊢
    omega

def strOfV : Value → ByteArray
  | .string s => s
  | _ => ⟨#[]⟩
def pairOfV (V0 V1 : Nat → Value) (i : Nat) : List UInt8 × List UInt8 := ((strOfV (V0 i)).data.toList, (strOfV (V1 i)).data.toList)

theorem bulk_pairs {H : Type} {V0 V1 : Nat → Value} {D0 D1 : Nat → DataW H} : ∀ is : List Nat, (∀ i ∈ is, D0 i = .lit (.string (strOfV (V0 i)).data.toList) ∧ D1 i = .lit (.string (strOfV (V1 i)).data.toList)) →
    wsum (is.map (pairOfV V0 V1)) ≤ 3 * Rows.uptoBulkAll (is.map fun i => DataW.agg [D0 i, D1 i]) ∧ ∀ x ∈ is.map (pairOfV V0 V1), x.1.length + x.2.length ≤ Rows.uptoBulkAll (is.map fun i => DataW.agg [D0 i, D1 i])
  | [], _ => by simp [wsum, Rows.uptoBulkAll]
  | i :: is, h => by
    obtain ⟨ih1, ih2⟩ := bulk_pairs is fun j hj => h j (List.mem_cons_of_mem _ hj)
    obtain ⟨e0, e1⟩ := h i (List.mem_cons_self ..)
    have hb : Rows.uptoBulkAll ((i :: is).map fun i => DataW.agg [D0 i, D1 i]) = ((strOfV (V0 i)).size + 1 + ((strOfV (V1 i)).size + 1) + 1) + Rows.uptoBulkAll (is.map fun i => DataW.agg [D0 i, D1 i]) := by
      simp only [List.map_cons, Rows.uptoBulkAll, Rows.uptoBulk, e0, e1]
      simp
    rw [hb]
    have l0 : (strOfV (V0 i)).data.toList.length = (strOfV (V0 i)).size := by simp
    have l1 : (strOfV (V1 i)).data.toList.length = (strOfV (V1 i)).size := by simp
    refine ⟨?_, ?_⟩
    · simp only [List.map_cons, wsum, pairOfV, l0, l1] at ih1 ⊢
      omega
    · intro x hx
      rw [List.map_cons, List.mem_cons] at hx
      rcases hx with rfl | hx
      · simp only [pairOfV, l0, l1]; omega
      · have := ih2 x hx; omega

theorem pairs_open {H : Type} {enc : TypeId × Value → H} {w : World} {v : Value} {d : DataW H} {p : List MemPlace} {r : Reach} {b0 : Nat} (hv : Value.okWide Tryd.prog w r b0 31 v)
    (h : DataW.Trod enc Tryd.prog w 0 (fun _ => true) true 31 v d p) : ∃ (a : Option Addr) (c : Nat) (l : Pairs), v = .slice a l.length c ∧ PRow w a l ∧ wsum l ≤ 3 * Rows.uptoBulk d ∧ ∀ x ∈ l, x.1.length + x.2.length ≤ Rows.uptoBulk d := by
  obtain ⟨a0, len, cap, rfl⟩ := okWide_slice Tryd.underlying31 hv
  obtain ⟨fuel, hf⟩ := h
  rcases open_slice_pairs Tryd.underlying31 Tryd.underlying45 Tryd.cells45 rfl rfl Tryd.cells9 Tryd.cells9 hf with ⟨hcs, _⟩ | ⟨a, l, c, m, n, V0, V1, D0, D1, P0, P1, hcs, _, hl, hm, hmm, hx, hi⟩
  · simp [Value.cells] at hcs
    obtain ⟨rfl, rfl, rfl⟩ := hcs
    exact ⟨none, 0, [], rfl, ⟨(fun j hj => absurd hj (Nat.not_lt_zero _)), (fun _ g off s e => nomatch e), (fun g off e => nomatch e), (fun g off e => nomatch e)⟩, by simp [wsum], by simp⟩
  · simp [Value.cells] at hcs
    obtain ⟨rfl, rfl, rfl⟩ := hcs
    simp only [if_true] at hmm
    subst hmm
    have hstr : ∀ i, i < m → V0 i = .string (strOfV (V0 i)) ∧ V1 i = .string (strOfV (V1 i)) ∧ D0 i = .lit (.string (strOfV (V0 i)).data.toList) ∧ D1 i = .lit (.string (strOfV (V1 i)).data.toList) := by
      intro i hic
      obtain ⟨_, _, t0, t1⟩ := hi i hic
      obtain ⟨s0, e0, q0, _⟩ := DataW.trod_string Tryd.underlying9 t0
      obtain ⟨s1, e1, q1, _⟩ := DataW.trod_string Tryd.underlying9 t1
      simp only [List.cons.injEq, and_true] at e0 e1
      simp only [Prod.mk.injEq] at q0 q1
      rw [e0, e1]
      exact ⟨rfl, rfl, q0.1, q1.1⟩
    have hb := bulk_pairs (V0 := V0) (V1 := V1) (D0 := D0) (D1 := D1) (List.range len) fun i hir => (hstr i (by have := List.mem_range.1 hir; omega)).2.2
    have hd : Rows.uptoBulkAll ((List.range len).map fun i => DataW.agg [D0 i, D1 i]) ≤ Rows.uptoBulk d := by
      have hx1 := congrArg Prod.fst hx
      simp only at hx1
      rw [hx1]; simp only [Rows.uptoBulk]; omega
    refine ⟨some a, m, (List.range len).map (pairOfV V0 V1), by simp, ⟨?_, ?_, ?_, ?_⟩, by omega, fun x hx => by have := hb.2 x hx; omega⟩
    · intro j hj
      have hj' : j < len := by simpa using hj
      obtain ⟨t0, _⟩ := hi 0 (by omega)
      obtain ⟨b, off, spot⟩ := a
      have hs : spot = none := by simpa [Addr.add] using World.cell?_spot t0
      subst hs
      exact ⟨b, off, rfl⟩
    · intro hl0 g off s e
      obtain rfl := Option.some.inj e
      have hl0' : 0 < len := by simpa using hl0
      obtain ⟨t0, _⟩ := hi 0 (by omega)
      simpa [Addr.add] using World.block_lt_of_cell? w _ t0
    · intro g off e j x hx'
      obtain rfl := Option.some.inj e
      obtain ⟨hj, rfl⟩ := List.getElem?_eq_some_iff.1 hx'
      have hj' : j < len := by simpa using hj
      obtain ⟨t0, _⟩ := hi j (by omega)
      rw [Addr.add_lit] at t0
      rw [t0, (hstr j (by omega)).1]
      simp [pairOfV]
    · intro g off e j x hx'
      obtain rfl := Option.some.inj e
      obtain ⟨hj, rfl⟩ := List.getElem?_eq_some_iff.1 hx'
      have hj' : j < len := by simpa using hj
      obtain ⟨_, t1, _⟩ := hi j (by omega)
      rw [Addr.add_lit] at t1
      rw [Nat.add_assoc, t1, (hstr j (by omega)).2.1]
      simp [pairOfV]
end Go.Proofs.YtndigceamabapaaDoor
