/- The walk of the law PoolKeeps. -/
import Derived.Test.YtmgjjedhlnlmpaaQ
namespace Go.Proofs.Ytmgjjedhlnlmpaa
open Go.RowKit

/-- In wi the pool at bp, made since w, holds ms; nothing older than B has turned. -/
def Kept (B : Nat) (w wi : World) (bp : Nat) (ms : List Msg) : Prop := Holds B w wi bp ms ∧ ms.length ≤ 256

theorem Two.fresh {w wx : World} {B bp : Nat} {v x : Value} {ms : List Msg} (hp : PoolAt w B bp v ms) (hB : B ≤ w.heap.size) (hb : Below w.heap.size w wx) (ho : wx.ownsRow w.heap.size 23 3 x ms.length (cells ms)) : Two wx B bp v x ms ms :=
  ⟨hp.below hb, ownsRow_le ho hB, fun k hk e => by have := (ho.lt k hk).1; have := (hp.own.lt k e).2; omega⟩

set_option maxHeartbeats 800000 in
theorem keeps_zero (ao : Option Addr) (cap : Nat) (s : ByteArray) (w : World) :
    Calls Try.prog 5 #[.slice ao 0 cap, .string s] w fun e w' => e = .returned (.bool true) ∧ Below w.heap.size w w' := by
  have HH0 := Lib.hid (Holds.new w)
  go_enter Try.func5, Try.ntmps5
  go_wp2_with (go_at_call 8; refine (new_any _).mono ?_; rintro e w1 ⟨rfl, rfl⟩)
  go_loop [6, 7] (fun n i => i = .int .i64 0 ∧ n = .int .i64 0) (fun _ _ => 0)
  case atStart => exact ⟨rfl, rfl⟩
  case round =>
    obtain ⟨rfl, rfl⟩ := hrel
    obtain ⟨v, hp, hbv⟩ := HH0.out
    have HP := Lib.hid hp
    have HV := Lib.hid hbv
    clear hp hbv
    go_wp2_with fail
    refine (all_any _ _ v [] _ HP.out (by simp)).mono ?_
    rintro e w1 ⟨x, rfl, ho, hb⟩
    have HO := Lib.hid ho
    have HB := Lib.hid hb
    clear ho hb
    go_wp2_with fail
    refine (count_any _ _ x [] s _ HO.out (by simp)).mono ?_
    rintro e w2 ⟨rfl, rfl⟩
    have e0 : countB s [] = 0 := rfl
    rw [e0]
    go_wp2_with fail
    refine (awake_any _).mono ?_
    rintro e w3 ⟨rfl, hb3⟩
    go_wp2
    go_ret
    exact ⟨rfl, below_then (below_then HV.out HB.out) hb3⟩

set_option maxHeartbeats 1600000 in
set_option maxRecDepth 100000 in
theorem keeps_some (b off n cap : Nat) (A : Nat → Call) (s : ByteArray) (w : World) (hb : b < w.heap.size) (hc : ∀ i, i < n → CallAt w b off i (A i)) :
    Calls Try.prog 5 #[.slice (some ⟨b, off, none⟩) n cap, .string s] w fun e w' => e = .returned (.bool true) ∧ Below w.heap.size w w' := by
  have HC := Lib.hid hc
  have HH0 := Lib.hid (Holds.new w)
  clear hc
  go_enter Try.func5, Try.ntmps5
  go_wp2_with (go_at_call 8; refine (new_any _).mono ?_; rintro e w1 ⟨rfl, rfl⟩)
  go_loopw [6, 7] (fun t i wr => ∃ k : Nat, k ≤ n ∧ k ≤ 200 ∧ i = .int .i64 k ∧ ∃ ms, t = .int .i64 (countB s ms) ∧ Kept w.heap.size w wr w.heap.size ms) (fun _ i _ => n - (intOf i).toNat)
  case atStart => exact ⟨0, Nat.zero_le _, Nat.zero_le _, rfl, [], rfl, HH0.out, by simp⟩
  case round =>
    obtain ⟨k, hk, hk3, rfl, ms, rfl, ⟨v, h2, hbw⟩, hl⟩ := hrel
    have H2 := Lib.hid h2
    have HW := Lib.hid hbw
    have HL := Lib.hid hl
    have hcl : countB s ms ≤ 256 := Nat.le_trans (by unfold countB; exact List.countP_le_length) hl
    clear h2 hbw hl
    by_cases hkn : k < n ∧ k < 200
    · obtain ⟨hk1, hk2⟩ := hkn
      obtain ⟨q0, q1, q2, q3, q4⟩ := HC.out k hk1
      have HQ := Lib.hid (⟨q0, q1, q2, q3, q4⟩ : CallAt w b off k (A k))
      clear q0 q1 q2 q3 q4
      have i0 : (0 : Int) ≤ (k : Int) := by omega
      have i1 : (k : Int) < (n : Int) := by omega
      generalize A k = c at *
      go_wp2_with fail
      refine (all_any _ _ v ms _ H2.out HL.out).mono ?_
      rintro e w1 ⟨x, rfl, ho, hb1⟩
      have HO1 := Lib.hid ho
      have P1 := Lib.hid (H2.out.below hb1)
      have W1 := Lib.hid (below_then HW.out hb1)
      have hbw1 : b < w1.heap.size := Nat.lt_of_lt_of_le hb W1.out.size
      clear ho hb1
      go_wp2_with fail
      refine (count_any _ _ x ms s _ HO1.out (Nat.le_trans HL.out (by decide))).mono ?_
      rintro e w' ⟨rfl, rfl⟩
      obtain ⟨q0, q1, q2, q3, q4⟩ := HQ.out
      have c0 := (W1.out.cell (p := ⟨b, off + k * 5, none⟩) hb).trans q0
      have c1 := (W1.out.cell (p := ⟨b, off + k * 5 + 1, none⟩) hb).trans q1
      have c2 := (W1.out.cell (p := ⟨b, off + k * 5 + 2, none⟩) hb).trans q2
      have c3 := (W1.out.cell (p := ⟨b, off + k * 5 + 3, none⟩) hb).trans q3
      have c4 := (W1.out.cell (p := ⟨b, off + k * 5 + 4, none⟩) hb).trans q4
      clear q0 q1 q2 q3 q4
      go_wp2_with fail
      go_region_held3 (fun w' => w'.cell? ⟨b, off + k * 5, none⟩ = some (.int .i64 c.kind) ∧ w'.cell? ⟨b, off + k * 5 + 1, none⟩ = some (.int .i64 c.n) ∧ w'.cell? ⟨b, off + k * 5 + 2, none⟩ = some (.int .i64 c.m.f) ∧ w'.cell? ⟨b, off + k * 5 + 3, none⟩ = some (.int .i64 c.m.t) ∧ w'.cell? ⟨b, off + k * 5 + 4, none⟩ = some (.string c.m.b))
        (first | go_keep | (go_split_ands; refine ⟨?_, ?_, ?_, ?_, ?_⟩ <;> (rw [hb4.cell hb]; assumption)) | (go_split_ands; refine ⟨?_, ?_, ?_, ?_, ?_⟩ <;> (rw [hb3.cell hbw1]; assumption)))
        (first
          | (go_at_call 17; refine (all_any _ _ v ms _ (show PoolAt w1.drew _ _ v ms from ⟨P1.out.box, P1.out.own, P1.out.le⟩) HL.out).mono ?_; rintro e w3 ⟨y, rfl, ho, hb3⟩; have HB3 := Lib.hid hb3; have K3 := Lib.hid (Two.fresh (show PoolAt w1.drew _ _ v ms from ⟨P1.out.box, P1.out.own, P1.out.le⟩) W1.out.size hb3 ho); clear ho)
          | (go_at_call 18; refine (step_any _ _ v y ms c.kind c.n c.m _ K3.out (Nat.le_trans W1.out.size HB3.out.size) HL.out).mono ?_; rintro e w4 ⟨ms1, u1, v1, rfl, k4, hb4, near⟩; have K4 := Lib.hid k4; have HB4 := Lib.hid hb4; have NR := Lib.hid near; clear k4 near))
      all_goals
        have W4 := Lib.hid ((below_then W1.out.drew HB3.out).trans HB4.out)
        have d0 := (W4.out.cell (p := ⟨b, off + k * 5, none⟩) hb).trans HQ.out.1
        have hbw4 : b < w4.heap.size := Nat.lt_of_lt_of_le hb W4.out.size
        obtain ⟨hl1, near⟩ := NR.out
        obtain ⟨n1, n2, n3⟩ := near s
        have HL1 := Lib.hid hl1
        have m1 : (countB s ms1 : Int) - (countB s ms : Int) ≤ 1 := by omega
        have m2 : (countB s ms : Int) - (countB s ms1 : Int) ≤ 1 := by omega
        have hcl1 : countB s ms1 ≤ 256 := Nat.le_trans (by unfold countB; exact List.countP_le_length) hl1
        have HT := Lib.hid (show Kept w.heap.size w w4 w.heap.size ms1 from ⟨⟨v1, K4.out.pool, W4.out⟩, hl1⟩)
        have N3 := Lib.hid n3
        clear hb3 hb4 near hl1 c0 c1 c2 c3 c4 n3
        by_cases k0 : c.kind = 0
        · have m3 : (countB s ms : Int) ≤ (countB s ms1 : Int) := by have := N3.out k0; omega
          have kb : (c.kind == 0) = true := by simpa using k0
          clear k0
          go_wp2_with fail
          refine (count_any _ _ u1 ms1 s _ K4.out.list (Nat.le_trans HL1.out (by decide))).mono ?_
          rintro e w' ⟨rfl, rfl⟩
          go_wp2
          go_roundw
          case rel => exact ⟨k + 1, by omega, by omega, by go_num, ms1, by congr 1; omega, HT.out⟩
          case measure => simp [intOf]; omega
        · have kb : (c.kind == 0) = false := by simpa using k0
          clear k0
          go_wp2_with fail
          refine (count_any _ _ u1 ms1 s _ K4.out.list (Nat.le_trans HL1.out (by decide))).mono ?_
          rintro e w' ⟨rfl, rfl⟩
          go_wp2
          go_roundw
          case rel => exact ⟨k + 1, by omega, by omega, by go_num, ms1, by congr 1; omega, HT.out⟩
          case measure => simp [intOf]; omega
    · by_cases hk1 : k < n
      · have hk2 : ¬ k < 200 := by omega
        clear hkn
        go_wp2_with fail
        refine (all_any _ _ v ms _ H2.out HL.out).mono ?_
        rintro e w1 ⟨x, rfl, ho, hb1⟩
        have HO1 := Lib.hid ho
        have W1 := Lib.hid (below_then HW.out hb1)
        clear ho hb1
        go_wp2_with fail
        refine (count_any _ _ x ms s _ HO1.out (Nat.le_trans HL.out (by decide))).mono ?_
        rintro e w' ⟨rfl, rfl⟩
        go_wp2_with fail
        refine (awake_any _).mono ?_
        rintro e w2 ⟨rfl, hb2⟩
        go_wp2
        go_ret
        exact ⟨rfl, below_then W1.out hb2⟩
      · clear hkn
        go_wp2_with fail
        refine (all_any _ _ v ms _ H2.out HL.out).mono ?_
        rintro e w1 ⟨x, rfl, ho, hb1⟩
        have HO1 := Lib.hid ho
        have W1 := Lib.hid (below_then HW.out hb1)
        clear ho hb1
        go_wp2_with fail
        refine (count_any _ _ x ms s _ HO1.out (Nat.le_trans HL.out (by decide))).mono ?_
        rintro e w' ⟨rfl, rfl⟩
        go_wp2_with fail
        refine (awake_any _).mono ?_
        rintro e w2 ⟨rfl, hb2⟩
        go_wp2
        go_ret
        exact ⟨rfl, below_then W1.out hb2⟩

end Go.Proofs.Ytmgjjedhlnlmpaa
