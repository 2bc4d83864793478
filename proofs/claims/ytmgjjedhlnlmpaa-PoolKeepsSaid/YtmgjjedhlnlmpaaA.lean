/- The messages of a pool as plain data, and the small functions of the pool: what each call returns, and that nothing that was there turns. -/
import Derived.Test.YtmgjjedhlnlmpaaProg
import Derived.WalkKit
import Derived.WalkSpells
import Derived.WalkLawsBesides
import Derived.Lib.Hide
namespace Go.Proofs.Ytmgjjedhlnlmpaa
open Go.RowKit

/-- A message. -/
structure Msg where
  f : Int
  t : Int
  b : ByteArray

def Msg.vals (m : Msg) : List Value := [.int .i64 m.f, .int .i64 m.t, .string m.b]
def Msg.agg (m : Msg) : Value := .agg #[.int .i64 m.f, .int .i64 m.t, .string m.b]
def cells (ms : List Msg) : List Value := ms.flatMap Msg.vals

def okMsg (m : Msg) : Bool :=
  (decide (m.f = -1) && decide (0 ≤ m.t) && decide (m.t < 8) && decide (m.b.size ≤ 65536)) ||
  (decide (m.t = -1) && decide (0 ≤ m.f) && decide (m.f < 8) && decide (m.b.size ≤ 65536))

theorem new_any (w : World) : Calls Try.prog 8 #[] w fun e w' => e = .returned (.pointer (some ⟨w.heap.size, 0, none⟩)) ∧ w.alloc (.cells #[.slice none 0 0] 56) = w' := by
  go_enter Try.func8, Try.ntmps8
  go_wp2
  go_ret
  exact ⟨rfl, rfl⟩

theorem message_any (s : ByteArray) (w : World) : Calls Try.prog 13 #[.string s] w fun e w' => e = .returned (Msg.agg ⟨-1, 0, s⟩) ∧ Below w.heap.size w w' := by
  go_enter Try.func13, Try.ntmps13
  go_wp2
  exact bodyPost_ret (v := Msg.agg ⟨-1, 0, s⟩) (by simp [results, Try.results13, go_sem, Msg.agg]) rfl ⟨rfl, (Below.refl _ _).alloc (Nat.le_refl _) _⟩

theorem in_any (n : Int) (w : World) : Calls Try.prog 30 #[.int .i64 n] w fun e w' => e = .returned (.bool (decide (-1 ≤ n) && decide (n < 8))) ∧ w = w' := by
  go_enter Try.func30, Try.ntmps30
  go_wp2
  · have h : -1 ≤ n := by assumption
    go_ret
    simp [h]
  · have h : n < -1 := by assumption
    go_ret
    have : ¬ -1 ≤ n := by omega
    simp [this]

theorem ret_bool {a b : Bool} (h : a = b) : Ending.returned (.bool a) = .returned (.bool b) := by rw [h]

theorem Right_any (m : Msg) (w : World) : Calls Try.prog 9 #[m.agg] w fun e w' => e = .returned (.bool (okMsg m)) ∧ Below w.heap.size w w' := by
  obtain ⟨f, t, b⟩ := m
  unfold Msg.agg
  go_enter Try.func9, Try.ntmps9
  go_wp2
  all_goals
    first
      | (have hb : (f == -1) = true := by assumption
         have hf : f = -1 := by simpa using hb
         clear hb)
      | (have hb : (f == -1) = false := by assumption
         have hf : f ≠ -1 := by simpa using hb
         clear hb)
    go_ret
    refine ⟨ret_bool ?_, (Below.refl _ _).alloc (Nat.le_refl _) _⟩
    rw [Bool.eq_iff_iff]
    simp [okMsg]
    try omega

theorem right_any (m : Msg) (w : World) : Calls Try.prog 23 #[m.agg] w fun e w' => e = .returned (.bool (okMsg m)) ∧ Below w.heap.size w w' := by
  obtain ⟨f, t, b⟩ := m
  unfold Msg.agg
  go_enter Try.func23, Try.ntmps23
  go_wp2_with ((go_at_call 30; refine (in_any _ _).mono ?_; rintro e w' ⟨rfl, rfl⟩))
  all_goals
    go_ret
    refine ⟨ret_bool ?_, (Below.refl _ _).alloc (Nat.le_refl _) _⟩
    rw [Bool.eq_iff_iff]
    simp [okMsg]
    try omega

end Go.Proofs.Ytmgjjedhlnlmpaa
