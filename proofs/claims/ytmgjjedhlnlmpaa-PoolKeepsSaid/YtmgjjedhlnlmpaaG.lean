/- The reference's Same at one list; the pool's Count. -/
import Derived.Test.YtmgjjedhlnlmpaaF
namespace Go.Proofs.Ytmgjjedhlnlmpaa
open Go.RowKit

def beqMsg (a b : Msg) : Bool := a.f == b.f && a.t == b.t && a.b.toList == b.b.toList

theorem eqlMsg (xf xt yf yt : Int) (xb yb : ByteArray) (w : World) :
    (binOp .eql 23 (.agg #[.int .i64 xf, .int .i64 xt, .string xb]) (.agg #[.int .i64 yf, .int .i64 yt, .string yb])).run Try.prog w = .ok (.bool (beqMsg ⟨xf, xt, xb⟩ ⟨yf, yt, yb⟩)) w := by
  have hS : Try.prog.underlying 23 = some (.struct (Try.prog.fieldsOf 23)) := by kernel_rfl
  have hp : Try.prog.stoodInHeld 23 = false := by kernel_rfl
  rw [run_eql_struct, show (10000 : Nat) = 9999 + 1 from rfl, run_equalIn_agg w 9999 23 _ _ hS hp]
  simp only [Program.fieldsOf, Try.underlying23]
  go_simp
  unfold beqMsg
  by_cases h1 : xf = yf <;> by_cases h2 : xt = yt <;> by_cases h3 : xb.toList = yb.toList <;> simp [h1, h2, h3]

theorem neqMsg (xf xt yf yt : Int) (xb yb : ByteArray) (w : World) :
    (binOp .neq 23 (.agg #[.int .i64 xf, .int .i64 xt, .string xb]) (.agg #[.int .i64 yf, .int .i64 yt, .string yb])).run Try.prog w = .ok (.bool (!beqMsg ⟨xf, xt, xb⟩ ⟨yf, yt, yb⟩)) w := by
  have hS : Try.prog.underlying 23 = some (.struct (Try.prog.fieldsOf 23)) := by kernel_rfl
  have hp : Try.prog.stoodInHeld 23 = false := by kernel_rfl
  rw [run_neq_struct, show (10000 : Nat) = 9999 + 1 from rfl, run_equalIn_agg w 9999 23 _ _ hS hp]
  simp only [Program.fieldsOf, Try.underlying23]
  go_simp
  unfold beqMsg
  by_cases h1 : xf = yf <;> by_cases h2 : xt = yt <;> by_cases h3 : xb.toList = yb.toList <;> simp [h1, h2, h3]

theorem beqMsg_refl (m : Msg) : beqMsg m m = true := by unfold beqMsg; simp

theorem guardMsg : Try.prog.eqGuardType Try.prog.depth 23 = false := by kernel_rfl

theorem same_some (B g cap B2 g2 cap2 : Nat) (ms : List Msg) (w : World) (hown : w.ownsRow B 23 3 (.slice (some ⟨g, 0, none⟩) ms.length cap) ms.length (cells ms))
    (hown2 : w.ownsRow B2 23 3 (.slice (some ⟨g2, 0, none⟩) ms.length cap2) ms.length (cells ms)) (hl : ms.length ≤ 1000) :
    Calls Try.prog 19 #[.slice (some ⟨g, 0, none⟩) ms.length cap, .slice (some ⟨g2, 0, none⟩) ms.length cap2] w fun e w' => e = .returned (.bool true) ∧ Below w.heap.size w w' := by
  have HC := Lib.hid (cells_at hown)
  have HC2 := Lib.hid (cells_at hown2)
  have hle : ms.length ≤ cap := by obtain ⟨_, _, hv, h, _⟩ := own_form hown; cases hv; exact h
  have hle2 : ms.length ≤ cap2 := by obtain ⟨_, _, hv, h, _⟩ := own_form hown2; cases hv; exact h
  have hq := neqMsg
  have hg := guardMsg
  clear hown hown2
  go_enter Try.func19, Try.ntmps19
  go_wp2
  go_loopw [5] (fun i wr => ∃ k n : Nat, k ≤ ms.length ∧ i = .int .i64 k ∧ wr = w.drewN n) (fun i _ => ms.length - (intOf i).toNat)
  case atStart => exact ⟨0, 0, Nat.zero_le _, rfl, rfl⟩
  case round =>
    obtain ⟨k, n, hk, rfl, rfl⟩ := hrel
    by_cases hlt : k < ms.length
    · obtain ⟨c0, c1, c2⟩ := HC.out k hlt
      obtain ⟨d0, d1, d2⟩ := HC2.out k hlt
      have b0 : (0 : Int) ≤ (k : Int) := by omega
      have b1 : (k : Int) < (ms.length : Int) := by omega
      have hr := beqMsg_refl ms[k]
      go_wp2
      go_quiet (fail)
      go_wp2
      go_roundw
      case rel => exact ⟨k + 1, n + nq, by omega, by go_num, rfl⟩
      case measure => simp [intOf]; omega
    · obtain rfl : k = ms.length := by omega
      go_wp2
      go_ret
      exact ⟨rfl, below_drewN (Below.refl _ _) _⟩

theorem same_zero (ao ao2 : Option Addr) (cap cap2 : Nat) (w : World) :
    Calls Try.prog 19 #[.slice ao 0 cap, .slice ao2 0 cap2] w fun e w' => e = .returned (.bool true) ∧ Below w.heap.size w w' := by
  go_enter Try.func19, Try.ntmps19
  go_wp2
  go_loop [5] (fun i => i = .int .i64 0) (fun _ => 0)
  case atStart => exact rfl
  case round =>
    obtain rfl := hrel
    go_wp2
    go_ret
    exact ⟨rfl, Below.refl _ _⟩

theorem same_any (B n B2 n2 : Nat) (v v2 : Value) (ms : List Msg) (w : World) (hown : w.ownsRow B 23 3 v n (cells ms)) (hown2 : w.ownsRow B2 23 3 v2 n2 (cells ms)) (hl : ms.length ≤ 1000) :
    Calls Try.prog 19 #[v, v2] w fun e w' => e = .returned (.bool true) ∧ Below w.heap.size w w' := by
  obtain rfl := len_of_own hown
  obtain rfl := len_of_own hown2
  by_cases h0 : ms.length = 0
  · obtain ⟨ao, cap, rfl, _⟩ := own_form hown
    obtain ⟨ao2, cap2, rfl, _⟩ := own_form hown2
    rw [h0]
    exact same_zero _ _ _ _ w
  · obtain ⟨g, cap, rfl, _⟩ := hown.form (by omega)
    obtain ⟨g2, cap2, rfl, _⟩ := hown2.form (by omega)
    exact same_some B g cap B2 g2 cap2 ms w hown hown2 hl

end Go.Proofs.Ytmgjjedhlnlmpaa
