/- The walk of the law PoolPlays. -/
import Derived.Test.YtmgjjedhlnlmpaaN
import Derived.Test.YtmgjjedhlnlmpaaO
import Derived.Deep.RegionHeld3
namespace Go.Proofs.Ytmgjjedhlnlmpaa
open Go.RowKit

/-- In wi the pool at bp and the list u, made since w, hold ms; nothing older than B has turned. -/
def Pair (B : Nat) (w wi : World) (bp : Nat) (u : Value) (ms : List Msg) : Prop := ∃ v, Two wi B bp v u ms ms ∧ Below B w wi ∧ ms.length ≤ 256

theorem Two.drew {w : World} {B bp : Nat} {v u : Value} {ms ns : List Msg} (h : Two w B bp v u ms ns) : Two w.drew B bp v u ms ns :=
  ⟨⟨h.pool.box, h.pool.own, h.pool.le⟩, h.list, h.apart⟩

theorem plays_zero (ao : Option Addr) (cap : Nat) (w : World) :
    Calls Try.prog 6 #[.slice ao 0 cap] w fun e w' => e = .returned (.bool true) ∧ Below w.heap.size w w' := by
  go_enter Try.func6, Try.ntmps6
  go_wp2_with (go_at_call 8; refine (new_any _).mono ?_; rintro e w1 ⟨rfl, rfl⟩)
  go_loop [5] (fun i => i = .int .i64 0) (fun _ => 0)
  case atStart => rfl
  case round =>
    obtain rfl := hrel
    go_wp2_with fail
    refine (awake_any _).mono ?_
    rintro e w1 ⟨rfl, hb⟩
    go_wp2
    go_ret
    exact ⟨rfl, below_then (below_then (below_alloc w _) (below_alloc _ _)) hb⟩

theorem Pair.start (w : World) : Pair w.heap.size w ((w.alloc (.cells #[.slice none 0 0] 56)).alloc (.cells #[] 23)) w.heap.size (.slice (some ⟨w.heap.size + 1, 0, none⟩) 0 0) [] := by
  refine ⟨.slice none 0 0, ⟨⟨?_, World.ownsRow_nil _ _ _ _, Nat.le_refl _⟩, ?_, ?_⟩, below_then (below_alloc w _) (below_alloc _ _), by simp⟩
  · rw [Below.heap_alloc _ _ _ (by simp)]
    exact heap_alloc_new w _
  · have := World.ownsRow_made (base := w.heap.size) (size := 3) (e := 23) (w.alloc (.cells #[.slice none 0 0] 56)) #[] 0 (by simp) (by decide) (by decide)
    simpa [Go.Proofs.Ytmgjjedhlnlmpaa.cells] using this
  · intro k _ e
    simp [Value.ownBlock] at e

set_option maxHeartbeats 800000 in
set_option maxRecDepth 100000 in
theorem plays_some (b off n cap : Nat) (A : Nat → Call) (w : World) (hb : b < w.heap.size) (hc : ∀ i, i < n → CallAt w b off i (A i)) :
    Calls Try.prog 6 #[.slice (some ⟨b, off, none⟩) n cap] w fun e w' => e = .returned (.bool true) ∧ Below w.heap.size w w' := by
  have HC := Lib.hid hc
  have HS := Lib.hid (Pair.start w)
  clear hc
  go_enter Try.func6, Try.ntmps6
  go_wp2_with (go_at_call 8; refine (new_any _).mono ?_; rintro e w1 ⟨rfl, rfl⟩)
  go_loopw [4, 5] (fun u i wr => ∃ k : Nat, k ≤ n ∧ k ≤ 300 ∧ i = .int .i64 k ∧ ∃ ms, Pair w.heap.size w wr w.heap.size u ms) (fun _ i _ => n - (intOf i).toNat)
  case atStart => exact ⟨0, Nat.zero_le _, Nat.zero_le _, rfl, [], HS.out⟩
  case round =>
    obtain ⟨k, hk, hk3, rfl, ms, v, h2, hbw, hl⟩ := hrel
    have H2 := Lib.hid h2
    have HW := Lib.hid hbw
    have HL := Lib.hid hl
    have hbr : b < wr.heap.size := Nat.lt_of_lt_of_le hb hbw.size
    clear h2 hbw hl
    by_cases hkn : k < n ∧ k < 300
    · obtain ⟨hk1, hk2⟩ := hkn
      obtain ⟨q0, q1, q2, q3, q4⟩ := HC.out k hk1
      have c0 := (HW.out.cell (p := ⟨b, off + k * 5, none⟩) hb).trans q0
      have c1 := (HW.out.cell (p := ⟨b, off + k * 5 + 1, none⟩) hb).trans q1
      have c2 := (HW.out.cell (p := ⟨b, off + k * 5 + 2, none⟩) hb).trans q2
      have c3 := (HW.out.cell (p := ⟨b, off + k * 5 + 3, none⟩) hb).trans q3
      have c4 := (HW.out.cell (p := ⟨b, off + k * 5 + 4, none⟩) hb).trans q4
      have Q3 := Lib.hid q3
      clear q0 q1 q2 q3 q4
      have i0 : (0 : Int) ≤ (k : Int) := by omega
      have i1 : (k : Int) < (n : Int) := by omega
      generalize A k = c at *
      go_wp2_with fail
      refine (step_any _ _ v u4 ms c.kind c.n c.m _ H2.out HW.out.size HL.out).mono ?_
      rintro e w1 ⟨ms1, u1, v1, rfl, k2, hb1, near⟩
      obtain ⟨ao, cp, rfl, _⟩ := own_form k2.list
      have K0 := Lib.hid k2
      have HW1 := Lib.hid (HW.out.trans hb1)
      have HL1 := Lib.hid near.1
      have hb1w : b < w1.heap.size := Nat.lt_of_lt_of_le hb HW1.out.size
      clear k2 hb1 near c0 c1 c2 c3 c4
      have d3 := (HW1.out.cell (p := ⟨b, off + k * 5 + 3, none⟩) hb).trans Q3.out
      go_wp2_with fail
      go_region_held3 (fun w' => w'.cell? ⟨b, off + k * 5 + 3, none⟩ = some (.int .i64 c.m.t))
        (first | go_keep | (rw [hb5.cell (p := ⟨b, off + k * 5 + 3, none⟩) hb4w]; assumption) | (rw [hb4.cell (p := ⟨b, off + k * 5 + 3, none⟩) hb3w]; assumption) | (rw [hb3.cell (p := ⟨b, off + k * 5 + 3, none⟩) hb1w]; assumption))
        (first
          | (go_at_call 17; refine (all_any _ _ v1 ms1 _ K0.out.drew.pool HL1.out).mono ?_; rintro e w3 ⟨x, rfl, ho, hb3⟩; have K3 := Lib.hid (K0.out.drew.below hb3); have HO3 := Lib.hid ho; have HB3 := Lib.hid hb3; have hb3w : b < w3.heap.size := Nat.lt_of_lt_of_le hb1w hb3.size; clear ho)
          | (go_at_call 19; refine (same_any _ _ _ _ _ _ ms1 _ HO3.out K3.out.list (Nat.le_trans HL1.out (by decide))).mono ?_; rintro e w4 ⟨rfl, hb4⟩; have K4 := Lib.hid (K3.out.below hb4); have HB4 := Lib.hid hb4; have hb4w : b < w4.heap.size := Nat.lt_of_lt_of_le hb3w hb4.size)
          | (go_at_call 15; refine (len_any _ _ v1 ms1 _ K4.out.pool).mono ?_; rintro e w' ⟨rfl, rfl⟩)
          | (go_at_call 20; refine (pcount_any _ _ v1 ms1 _ _ K4.out.pool HL1.out).mono ?_; rintro e w5 ⟨rfl, hb5⟩; have K5 := Lib.hid (K4.out.below hb5); have HB5 := Lib.hid hb5)
          | (go_at_call 21; refine (rcount_any _ _ _ ms1 _ _ K5.out.list (Nat.le_trans HL1.out (by decide))).mono ?_; rintro e w' ⟨rfl, rfl⟩))
      all_goals
        have HF := Lib.hid (show Pair w.heap.size w w5 w.heap.size (.slice ao ms1.length cp) ms1 from ⟨v1, K5.out, below_then (below_then (below_then HW1.out.drew HB3.out) HB4.out) HB5.out, HL1.out⟩)
        clear hb3 hb4 hb5
        go_wp2
        go_roundw
        case rel => exact ⟨k + 1, by omega, by omega, by go_num, ms1, HF.out⟩
        case measure => simp [intOf]; omega
    · by_cases hk1 : k < n
      · have hk2 : ¬ k < 300 := by omega
        clear hkn
        go_wp2_with fail
        refine (awake_any _).mono ?_
        rintro e w1 ⟨rfl, hb1⟩
        go_wp2
        go_ret
        exact ⟨rfl, below_then HW.out hb1⟩
      · clear hkn
        go_wp2_with fail
        refine (awake_any _).mono ?_
        rintro e w1 ⟨rfl, hb1⟩
        go_wp2
        go_ret
        exact ⟨rfl, below_then HW.out hb1⟩

end Go.Proofs.Ytmgjjedhlnlmpaa
