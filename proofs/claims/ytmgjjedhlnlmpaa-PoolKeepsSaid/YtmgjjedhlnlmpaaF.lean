/- The loops over a list of messages: the law's count, the reference's Count and Same, the pool's Count. -/
import Derived.Test.YtmgjjedhlnlmpaaE
namespace Go.Proofs.Ytmgjjedhlnlmpaa
open Go.RowKit

theorem cells_at {w : World} {B n cap g : Nat} {ms : List Msg} (h : w.ownsRow B 23 3 (.slice (some ⟨g, 0, none⟩) n cap) n (cells ms)) (k : Nat) (hk : k < ms.length) :
    w.cell? ⟨g, k * 3, none⟩ = some (.int .i64 ms[k].f) ∧ w.cell? ⟨g, k * 3 + 1, none⟩ = some (.int .i64 ms[k].t) ∧ w.cell? ⟨g, k * 3 + 2, none⟩ = some (.string ms[k].b) := by
  have e : ms = ms.take k ++ ms[k] :: ms.drop (k + 1) := by rw [← List.drop_eq_getElem_cons hk, List.take_append_drop]
  rw [e] at h
  have := cells_mid h
  rwa [List.length_take, Nat.min_eq_left (by omega)] at this

theorem len_of_own {w : World} {B n : Nat} {v : Value} {ms : List Msg} (h : w.ownsRow B 23 3 v n (cells ms)) : n = ms.length := by
  have := h.1
  rw [length_cells] at this
  omega

def countB (s : ByteArray) (ms : List Msg) : Nat := ms.countP fun m => m.b.toList == s.toList
def countT (t : Int) (ms : List Msg) : Nat := ms.countP fun m => m.t == t

theorem take_snoc' (ms : List Msg) (k : Nat) (hk : k < ms.length) : ms.take (k + 1) = ms.take k ++ [ms[k]] := by
  rw [List.take_succ_eq_append_getElem hk]

theorem countB_hit (s : ByteArray) (ms : List Msg) (k : Nat) (hk : k < ms.length) (h : (ms[k].b.toList == s.toList) = true) : countB s (ms.take (k + 1)) = countB s (ms.take k) + 1 := by
  unfold countB; rw [take_snoc' ms k hk, List.countP_append]; simp [h]
theorem countB_miss (s : ByteArray) (ms : List Msg) (k : Nat) (hk : k < ms.length) (h : (ms[k].b.toList == s.toList) = false) : countB s (ms.take (k + 1)) = countB s (ms.take k) := by
  unfold countB; rw [take_snoc' ms k hk, List.countP_append]; simp [h]
theorem countT_hit (t : Int) (ms : List Msg) (k : Nat) (hk : k < ms.length) (h : ms[k].t = t) : countT t (ms.take (k + 1)) = countT t (ms.take k) + 1 := by
  unfold countT; rw [take_snoc' ms k hk, List.countP_append]; simp [h]
theorem countT_miss (t : Int) (ms : List Msg) (k : Nat) (hk : k < ms.length) (h : ¬ ms[k].t = t) : countT t (ms.take (k + 1)) = countT t (ms.take k) := by
  unfold countT; rw [take_snoc' ms k hk, List.countP_append]; simp [h]
theorem countB_le (s : ByteArray) (ms : List Msg) (k : Nat) : countB s (ms.take k) ≤ k := by
  unfold countB; exact Nat.le_trans List.countP_le_length (List.length_take_le _ _)
theorem countT_le (t : Int) (ms : List Msg) (k : Nat) : countT t (ms.take k) ≤ k := by
  unfold countT; exact Nat.le_trans List.countP_le_length (List.length_take_le _ _)

theorem ret_nat {a b : Nat} (h : a = b) : Ending.returned (.int .i64 (a : Int)) = .returned (.int .i64 (b : Int)) := by rw [h]

theorem count_zero (ao : Option Addr) (cap : Nat) (s : ByteArray) (w : World) :
    Calls Try.prog 16 #[.slice ao 0 cap, .string s] w fun e w' => e = .returned (.int .i64 0) ∧ w = w' := by
  go_enter Try.func16, Try.ntmps16
  go_wp2
  go_loop [5, 6] (fun n i => i = .int .i64 0 ∧ n = .int .i64 0) (fun _ _ => 0)
  case atStart => exact ⟨rfl, rfl⟩
  case round =>
    obtain ⟨rfl, rfl⟩ := hrel
    go_wp2
    go_ret
    exact ⟨rfl, rfl⟩

theorem count_some (B g cap : Nat) (ms : List Msg) (s : ByteArray) (w : World) (hown : w.ownsRow B 23 3 (.slice (some ⟨g, 0, none⟩) ms.length cap) ms.length (cells ms)) (hl : ms.length ≤ 1000) :
    Calls Try.prog 16 #[.slice (some ⟨g, 0, none⟩) ms.length cap, .string s] w fun e w' => e = .returned (.int .i64 (countB s ms)) ∧ w = w' := by
  have HC := Lib.hid (cells_at hown)
  have hle : ms.length ≤ cap := by obtain ⟨_, _, hv, h, _⟩ := own_form hown; cases hv; exact h
  clear hown
  go_enter Try.func16, Try.ntmps16
  go_wp2
  go_loop [5, 6] (fun n i => ∃ k : Nat, k ≤ ms.length ∧ i = .int .i64 k ∧ n = .int .i64 (countB s (ms.take k))) (fun _ i => ms.length - (intOf i).toNat)
  case atStart => exact ⟨0, Nat.zero_le _, rfl, rfl⟩
  case round =>
    obtain ⟨k, hk, rfl, rfl⟩ := hrel
    by_cases hlt : k < ms.length
    · obtain ⟨c0, c1, c2⟩ := HC.out k hlt
      have hcl := countB_le s ms k
      go_wp2
      · have h : (ms[k].b.toList == s.toList) = true := by assumption
        go_round
        case rel => exact ⟨k + 1, by omega, by go_num, by rw [countB_hit s ms k hlt h]; go_num⟩
        case measure => simp [intOf]; omega
      · have h : (ms[k].b.toList == s.toList) = false := by assumption
        go_round
        case rel => exact ⟨k + 1, by omega, by go_num, by rw [countB_miss s ms k hlt h]⟩
        case measure => simp [intOf]; omega
    · obtain rfl : k = ms.length := by omega
      go_wp2
      go_ret
      exact ⟨rfl, rfl⟩

theorem count_any (B n : Nat) (v : Value) (ms : List Msg) (s : ByteArray) (w : World) (hown : w.ownsRow B 23 3 v n (cells ms)) (hl : n ≤ 1000) :
    Calls Try.prog 16 #[v, .string s] w fun e w' => e = .returned (.int .i64 (countB s ms)) ∧ w = w' := by
  obtain rfl := len_of_own hown
  rcases id hown.2 with ⟨rfl, h0⟩ | ⟨g, cap, cur, rfl, _⟩
  · obtain rfl : ms = [] := List.eq_nil_of_length_eq_zero h0
    exact count_zero _ _ s w
  · exact count_some B g cap ms s w hown hl

theorem rcount_zero (ao : Option Addr) (cap : Nat) (t : Int) (w : World) :
    Calls Try.prog 21 #[.slice ao 0 cap, .int .i64 t] w fun e w' => e = .returned (.int .i64 0) ∧ w = w' := by
  go_enter Try.func21, Try.ntmps21
  go_wp2
  go_loop [5, 6] (fun n i => i = .int .i64 0 ∧ n = .int .i64 0) (fun _ _ => 0)
  case atStart => exact ⟨rfl, rfl⟩
  case round =>
    obtain ⟨rfl, rfl⟩ := hrel
    go_wp2
    go_ret
    exact ⟨rfl, rfl⟩

theorem rcount_some (B g cap : Nat) (ms : List Msg) (t : Int) (w : World) (hown : w.ownsRow B 23 3 (.slice (some ⟨g, 0, none⟩) ms.length cap) ms.length (cells ms)) (hl : ms.length ≤ 1000) :
    Calls Try.prog 21 #[.slice (some ⟨g, 0, none⟩) ms.length cap, .int .i64 t] w fun e w' => e = .returned (.int .i64 (countT t ms)) ∧ w = w' := by
  have HC := Lib.hid (cells_at hown)
  have hle : ms.length ≤ cap := by obtain ⟨_, _, hv, h, _⟩ := own_form hown; cases hv; exact h
  clear hown
  go_enter Try.func21, Try.ntmps21
  go_wp2
  go_loop [5, 6] (fun n i => ∃ k : Nat, k ≤ ms.length ∧ i = .int .i64 k ∧ n = .int .i64 (countT t (ms.take k))) (fun _ i => ms.length - (intOf i).toNat)
  case atStart => exact ⟨0, Nat.zero_le _, rfl, rfl⟩
  case round =>
    obtain ⟨k, hk, rfl, rfl⟩ := hrel
    by_cases hlt : k < ms.length
    · obtain ⟨c0, c1, c2⟩ := HC.out k hlt
      have hcl := countT_le t ms k
      by_cases h : ms[k].t = t
      · have hb : (ms[k].t == t) = true := by simpa using h
        have H := Lib.hid h
        clear h
        go_wp2
        go_round
        case rel => exact ⟨k + 1, by omega, by go_num, by rw [countT_hit t ms k hlt H.out]; go_num⟩
        case measure => simp [intOf]; omega
      · have hb : (ms[k].t == t) = false := by simpa using h
        have H := Lib.hid h
        clear h
        go_wp2
        go_round
        case rel => exact ⟨k + 1, by omega, by go_num, by rw [countT_miss t ms k hlt H.out]⟩
        case measure => simp [intOf]; omega
    · obtain rfl : k = ms.length := by omega
      go_wp2
      go_ret
      exact ⟨rfl, rfl⟩

theorem rcount_any (B n : Nat) (v : Value) (ms : List Msg) (t : Int) (w : World) (hown : w.ownsRow B 23 3 v n (cells ms)) (hl : n ≤ 1000) :
    Calls Try.prog 21 #[v, .int .i64 t] w fun e w' => e = .returned (.int .i64 (countT t ms)) ∧ w = w' := by
  obtain rfl := len_of_own hown
  rcases id hown.2 with ⟨rfl, h0⟩ | ⟨g, cap, cur, rfl, _⟩
  · obtain rfl : ms = [] := List.eq_nil_of_length_eq_zero h0
    exact rcount_zero _ _ t w
  · exact rcount_some B g cap ms t w hown hl

end Go.Proofs.Ytmgjjedhlnlmpaa
