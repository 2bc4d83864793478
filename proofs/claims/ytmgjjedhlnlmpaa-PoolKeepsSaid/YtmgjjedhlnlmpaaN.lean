/- The walk of the law PoolNil. -/
import Derived.Test.YtmgjjedhlnlmpaaL
namespace Go.Proofs.Ytmgjjedhlnlmpaa
open Go.RowKit

theorem below_then {w w1 w2 : World} (h : Below w.heap.size w w1) (k : Below w1.heap.size w1 w2) : Below w.heap.size w w2 := h.trans (k.mono h.size)

/-- The two boxes of the law, in whatever later world. -/
structure Boxes (w wx : World) (a1 : Nat) (kind n : Int) (m : Msg) : Prop where
  lt : w.heap.size < wx.heap.size
  lt1 : a1 < wx.heap.size
  act : wx.heap[w.heap.size]? = some (.cells #[.int .i64 kind, .int .i64 n, .int .i64 m.f, .int .i64 m.t, .string m.b] 46 (0, 0))
  zero : wx.heap[a1]? = some (.cells #[.int .i64 0, .int .i64 0, .string ⟨#[]⟩] 23 (0, 0))
  old : Below w.heap.size w wx

theorem Boxes.later {w wx wy : World} {a1 : Nat} {kind n : Int} {m : Msg} (h : Boxes w wx a1 kind n m) (hb : Below wx.heap.size wx wy) : Boxes w wy a1 kind n m :=
  ⟨Nat.lt_of_lt_of_le h.lt hb.size, Nat.lt_of_lt_of_le h.lt1 hb.size, (hb.block _ h.lt).trans h.act, (hb.block _ h.lt1).trans h.zero, below_then h.old hb⟩

set_option maxHeartbeats 800000 in
theorem nil_walk (kind n : Int) (m : Msg) (w : World) :
    Calls Try.prog 7 #[actV kind n m] w fun e w' => e = .returned (.bool true) ∧ Below w.heap.size w w' := by
  have hq := eqlMsg
  have hg := guardMsg
  unfold actV
  go_enter Try.func7, Try.ntmps7
  go_wp2_with fail
  refine (take_nil _ _).mono ?_
  rintro e w1 ⟨rfl, hb⟩
  obtain ⟨hb1, hbx, hl1⟩ := boxed hb
  have c1 := cell_of_block hbx 1
  have c2 := cell_of_block hbx 2
  have c3 := cell_of_block hbx 3
  have c4 := cell_of_block hbx 4
  have HX := Lib.hid (show Boxes w (w1.alloc (.cells #[.int .i64 0, .int .i64 0, .string ⟨#[]⟩] 23)) w1.heap.size kind n m from
    ⟨by simp; omega, by simp, (Below.heap_alloc _ _ _ hl1).trans hbx, heap_alloc_new w1 _, below_then hb1 (below_alloc _ _)⟩)
  clear hb hb1 hbx
  unfold Msg.agg Msg.zero
  go_wp2_with fail
  refine (send_nil m _).mono ?_
  rintro e w2 ⟨rfl, hb⟩
  have HX2 := Lib.hid (HX.out.later hb)
  have c1 := cell_of_block HX2.out.act 1
  have d0 := cell_of_block HX2.out.zero 0
  have d1 := cell_of_block HX2.out.zero 1
  have d2 := cell_of_block HX2.out.zero 2
  have hr := beqMsg_refl ⟨0, 0, ⟨#[]⟩⟩
  clear hb HX
  go_wp2_with fail
  refine (drop_nil _ _).mono ?_
  rintro e w3 ⟨rfl, hb⟩
  have HX3 := Lib.hid (HX2.out.later hb)
  clear hb HX2 c1 d0 d1 d2
  have c1 := cell_of_block HX3.out.act 1
  go_wp2_with fail
  refine (double_nil _ _).mono ?_
  rintro e w4 ⟨rfl, rfl⟩
  go_wp2_with fail
  refine (len_nil _).mono ?_
  rintro e w4 ⟨rfl, rfl⟩
  go_wp2_with fail
  refine (all_nil _).mono ?_
  rintro e w4 ⟨rfl, rfl⟩
  go_wp2_with fail
  refine (pcount_nil _ _).mono ?_
  rintro e w5 ⟨rfl, hb⟩
  have HX5 := Lib.hid (HX3.out.later hb)
  clear hb HX3 c1
  go_wp2_with fail
  refine (awake_any _).mono ?_
  rintro e w6 ⟨rfl, hb⟩
  have HX6 := Lib.hid (HX5.out.later hb)
  go_wp2
  go_ret
  exact ⟨rfl, HX6.out.old⟩

end Go.Proofs.Ytmgjjedhlnlmpaa
