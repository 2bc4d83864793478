/- awake: it answers true, and nothing that was there turns. -/
import Derived.Test.YtmgjjedhlnlmpaaJ
namespace Go.Proofs.Ytmgjjedhlnlmpaa
open Go.RowKit

/-- In wi the pool at bp, made since w, holds ms, and nothing older than B has turned. -/
def Holds (B : Nat) (w wi : World) (bp : Nat) (ms : List Msg) : Prop := ∃ v, PoolAt wi B bp v ms ∧ Below B w wi

theorem Holds.new (w : World) : Holds w.heap.size w (w.alloc (.cells #[.slice none 0 0] 56)) w.heap.size [] :=
  ⟨.slice none 0 0, ⟨heap_alloc_new w _, World.ownsRow_nil _ _ _ _, Nat.le_refl _⟩, below_alloc _ _⟩

theorem Sent.below {w w' : World} {B bp : Nat} {v : Value} {ms ms' : List Msg} (hp : PoolAt w B bp v ms) (h : Sent w w' B bp v ms') (hB : B ≤ w.heap.size) : Below B w w' := by
  obtain ⟨v', h1, h2, h3⟩ := h
  have hl := hp.le
  refine ⟨h3.os, h3.tape, h3.output, h3.size, fun k hk => h3.block k (by omega) (by omega) ?_⟩
  intro e
  have := (hp.own.lt _ e.symm).1
  omega

theorem Holds.sent {B : Nat} {w wi wj : World} {bp : Nat} {v : Value} {ms ms' : List Msg} (hp : PoolAt wi B bp v ms) (hb : Below B w wi) (hB : B ≤ w.heap.size) (h : Sent wi wj B bp v ms') : Holds B w wj bp ms' := by
  have k := h.below hp (Nat.le_trans hB hb.size)
  obtain ⟨v', h1, _⟩ := h
  exact ⟨v', h1, hb.trans k⟩

theorem Holds.later {B : Nat} {w wi wj : World} {bp : Nat} {ms : List Msg} (h : Holds B w wi bp ms) (hB : B ≤ w.heap.size) (hb : Below wi.heap.size wi wj) : Holds B w wj bp ms := by
  obtain ⟨v, h1, h2⟩ := h
  exact ⟨v, h1.below hb, h2.trans (hb.mono (Nat.le_trans hB h2.size))⟩

def msgA : Msg := ⟨-1, 0, ⟨#[97]⟩⟩
def msgB : Msg := ⟨-1, 0, ⟨#[98]⟩⟩
theorem okA : okMsg msgA = true := by decide
theorem okB : okMsg msgB = true := by decide

theorem aw_double (B bp : Nat) (v : Value) (w : World) (hp : PoolAt w B bp v [msgA, msgB]) :
    Calls Try.prog 11 #[.pointer (some ⟨bp, 0, none⟩), .int .i64 0] w fun e w' => e = .returned (.int .i64 0) ∧ Sent w w' B bp v [msgA, msgB, msgA] := by
  have h := double_ok B bp v [] [msgB] msgA w hp (by simp)
  simpa [sendE, sendL, okA] using h

theorem aw_take (B bp : Nat) (v : Value) (w : World) (hp : PoolAt w B bp v [msgA, msgB, msgA]) :
    Calls Try.prog 14 #[.pointer (some ⟨bp, 0, none⟩), .int .i64 1] w fun e w' => e = .returned (.tuple #[msgB.agg, .int .i64 0]) ∧ Sent w w' B bp v [msgA, msgA] :=
  take_ok B bp v [msgA] [msgA] msgB w hp

set_option maxHeartbeats 400000 in
theorem awake_any (w : World) : Calls Try.prog 12 #[] w fun e w' => e = .returned (.bool true) ∧ Below w.heap.size w w' := by
  have HH0 := Lib.hid (Holds.new w)
  go_enter Try.func12, Try.ntmps12
  go_wp2_with (go_at_call 8; refine (new_any _).mono ?_; rintro e w1 ⟨rfl, rfl⟩)
  refine (message_any _ _).mono ?_
  rintro e w2 ⟨rfl, hb⟩
  obtain ⟨v1, p1, b1⟩ := HH0.out.later (Nat.le_refl _) hb
  clear hb HH0
  have P1 := Lib.hid p1
  have B1 := Lib.hid b1
  clear p1 b1
  go_wp2_with fail
  refine (send_ok _ _ _ _ msgA _ P1.out okA (by simp)).mono ?_
  rintro e w3 ⟨rfl, hs⟩
  have H2 := Lib.hid (Holds.sent P1.out B1.out (Nat.le_refl _) hs)
  clear hs P1 B1
  go_wp2_with fail
  refine (message_any _ _).mono ?_
  rintro e w4 ⟨rfl, hb⟩
  obtain ⟨v3, p3, b3⟩ := H2.out.later (Nat.le_refl _) hb
  clear hb H2
  have P3 := Lib.hid p3
  have B3 := Lib.hid b3
  clear p3 b3
  go_wp2_with fail
  refine (send_ok _ _ _ _ msgB _ P3.out okB (by simp)).mono ?_
  rintro e w5 ⟨rfl, hs⟩
  obtain ⟨v4, p4, b4⟩ := Holds.sent P3.out B3.out (Nat.le_refl _) hs
  have P4 := Lib.hid p4
  have B4 := Lib.hid b4
  clear hs P3 B3 p4 b4
  go_wp2_with fail
  refine (aw_double _ _ v4 _ P4.out).mono ?_
  rintro e w6 ⟨rfl, hs⟩
  obtain ⟨v5, p5, b5⟩ := Holds.sent P4.out B4.out (Nat.le_refl _) hs
  have P5 := Lib.hid p5
  have B5 := Lib.hid b5
  clear hs P4 B4 p5 b5
  go_wp2_with fail
  refine (aw_take _ _ v5 _ P5.out).mono ?_
  rintro e w7 ⟨rfl, hs⟩
  obtain ⟨v6, p6, b6⟩ := Holds.sent P5.out B5.out (Nat.le_refl _) hs
  have P6 := Lib.hid p6
  have B6 := Lib.hid b6
  clear hs P5 B5 p6 b6
  unfold Msg.agg msgB
  go_wp2_with fail
  refine (len_any _ _ _ _ _ (P6.out.below (below_alloc _ _))).mono ?_
  rintro e w8 ⟨rfl, rfl⟩
  go_wp2
  go_ret
  exact ⟨rfl, B6.out.trans ((below_alloc _ _).mono B6.out.size)⟩

end Go.Proofs.Ytmgjjedhlnlmpaa
