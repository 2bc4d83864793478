/-
  Walks: two lists of pairs that hold the same; the law of reading. Condition: at most 2^20 bytes.
-/
import Derived.Test.YtndigceamabapaaDoorI
import Derived.Test.YtndigceamabapaaDoorL
import Derived.Test.YtndigceamabapaaDoorM
namespace Go.Proofs.YtndigceamabapaaDoor
open Go.RowKit

theorem neqPair (x y : ByteArray) (w : World) :
    (binOp .neq 45 (.agg #[.string x, .string y]) (.agg #[.string x, .string y])).run Tryd.prog w = .ok (.bool false) w := by
  have hS : Tryd.prog.underlying 45 = some (.struct (Tryd.prog.fieldsOf 45)) := by kernel_rfl
  have hp : Tryd.prog.stoodInHeld 45 = false := by kernel_rfl
  rw [run_neq_struct, show (10000 : Nat) = 9999 + 1 from rfl, run_equalIn_agg w 9999 45 _ _ hS hp]
  simp only [Program.fieldsOf, Tryd.underlying45]
  go_simp

theorem guardPair : Tryd.prog.eqGuardType Tryd.prog.depth 45 = false := by kernel_rfl

set_option maxHeartbeats 1000000 in
theorem same_calls (l : Pairs) (a b : Option Addr) (ca cb : Nat) (w : World) (ha : PRow w a l) (hb : PRow w b l) (hl : l.length ≤ 2097152) :
    Calls Tryd.prog 17 #[.slice a l.length ca, .slice b l.length cb] w fun e w' => e = .returned (.bool true) ∧ Below w.heap.size w w' := by
  have HA := Lib.hid ha
  have HB := Lib.hid hb
  clear ha hb
  generalize hn : l.length = n at *
  have HN := Lib.hid hn
  clear hn
  have hq := neqPair
  have hg := guardPair
  go_enter Tryd.func17, Tryd.ntmps17
  go_wp2_with fail
  go_loopw [5] (fun i wr => ∃ k q : Nat, k ≤ n ∧ i = .int .i64 k ∧ wr = w.drewN q) (fun i _ => n - (intOf i).toNat)
  case atStart => exact ⟨0, 0, Nat.zero_le _, rfl, rfl⟩
  case round =>
    obtain ⟨k, q, hk, rfl, rfl⟩ := hrel
    by_cases hkl : k < n
    · obtain ⟨x, hx⟩ : ∃ x, l[k]? = some x := ⟨l[k]'(by have := HN.out; omega), List.getElem?_eq_getElem _⟩
      obtain ⟨g, off, rfl⟩ := HA.out.isSome k (by have := HN.out; omega)
      obtain ⟨g2, off2, rfl⟩ := HB.out.isSome k (by have := HN.out; omega)
      have c0 := HA.out.cell0 g off rfl k x hx
      have c1 := HA.out.cell1 g off rfl k x hx
      have d0 := HB.out.cell0 g2 off2 rfl k x hx
      have d1 := HB.out.cell1 g2 off2 rfl k x hx
      clear hx
      have b0 : (0 : Int) ≤ (k : Int) := by omega
      have b1 : (k : Int) < (n : Int) := by omega
      generalize (⟨x.1.toArray⟩ : ByteArray) = x0 at *
      generalize (⟨x.2.toArray⟩ : ByteArray) = x1 at *
      go_wp2_with fail
      go_quiet (fail)
      go_wp2_with fail
      go_roundw
      case rel => exact ⟨k + 1, q + nq, by omega, by go_num, rfl⟩
      case measure => simp [intOf]; omega
    · go_wp2_with fail
      go_ret
      exact ⟨rfl, below_drewN _ _⟩

theorem reads_calls (s key : ByteArray) (hs : s.size ≤ 1048576) (m : Int) (w : World) (hm : w.cell? ⟨0, 0, none⟩ = some (.int .i64 m)) : Calls Tryd.prog 6 #[.string s, .string key] w fun e w' => e = .returned (.bool true) ∧ Below w.heap.size w w' := by
  have HM := Lib.hid hm
  have hlen : (readV s.data.toList).length ≤ 64 := by
    unfold readV
    split
    · split
      · simp
      · omega
    · simp
  have H1 := Lib.hid (fun (w1 : World) h => read_calls s hs m w1 h)
  have H2 := Lib.hid (fun w1 => refread_calls s hs w1)
  clear hm hs
  generalize readV s.data.toList = l at *
  generalize readE s.data.toList = er at *
  go_enter Tryd.func6, Tryd.ntmps6
  go_wp2_with fail
  refine (H1.out w HM.out).mono ?_
  rintro e w1 ⟨v1, rfl, ho1⟩
  have hb1 := Lib.hid ho1.below
  obtain ⟨a1, c1, rfl, hr1⟩ := ho1.row
  have HR1 := Lib.hid hr1
  clear ho1 hr1
  go_wp2_with fail
  refine (H2.out w1).mono ?_
  rintro e w2 ⟨v2, rfl, ho2⟩
  have hb2 := Lib.hid ho2.below
  have HR1' := Lib.hid (HR1.out.on hb2.out)
  obtain ⟨a2, c2, rfl, hr2⟩ := ho2.row
  have HR2 := Lib.hid hr2
  clear ho2 hr2
  go_wp2_with fail
  refine (get_calls l key a2 c2 w2 HR2.out (by omega)).mono ?_
  rintro e w3 ⟨rfl, hb3'⟩
  have hb3 := Lib.hid hb3'
  clear hb3'
  have HR1c := Lib.hid (HR1'.out.on hb3.out)
  have HR2c := Lib.hid (HR2.out.on hb3.out)
  go_wp2_with fail
  refine (refget_calls l key a2 c2 w3 HR2c.out (by omega)).mono ?_
  rintro e w4 ⟨rfl, hb4'⟩
  have hb4 := Lib.hid hb4'
  clear hb4'
  have HR1d := Lib.hid (HR1c.out.on hb4.out)
  have HR2d := Lib.hid (HR2c.out.on hb4.out)
  have HBa := Lib.hid (below_both (below_both (below_both hb1.out hb2.out) hb3.out) hb4.out)
  generalize getT l key.data.toList = tt at *
  generalize getE l key.data.toList = te at *
  go_wp2_with (first
    | (go_at_call 17; refine (same_calls l a1 a2 c1 c2 _ HR1d.out HR2d.out (by omega)).mono ?_; rintro e w5 ⟨rfl, hb5⟩; have HB5 := Lib.hid (below_both HBa.out hb5); clear hb5)
    | (go_at_call 11; refine (awake_calls m _ (keepM HM.out HB5.out)).mono ?_; rintro e w6 ⟨rfl, hb6⟩; have HB6 := Lib.hid (below_both HB5.out hb6); clear hb6))
  go_ret
  exact ⟨rfl, HB6.out⟩
end Go.Proofs.YtndigceamabapaaDoor
