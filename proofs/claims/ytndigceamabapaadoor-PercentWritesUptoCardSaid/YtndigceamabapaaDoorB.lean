/-
  Walks: which bytes stand as they are, in the program and in the reference; digits. No condition.
-/
import Derived.Test.YtndigceamabapaaDoorA
import Derived.Test.YtndigceamabapaaDoorShelf
import Derived.WalkKit
import Derived.WalkSpells
import Derived.WalkLawsBesides
import Derived.Lib.Hide
import Derived.Lib.BufSteps
namespace Go.Proofs.YtndigceamabapaaDoor
open Go.RowKit

theorem ret_bool {a b : Bool} (h : a = b) : Ending.returned (.bool a) = .returned (.bool b) := by rw [h]

theorem ret_u8 {a b : Int} (h : a = b) : Ending.returned (.int .u8 a) = .returned (.int .u8 b) := by rw [h]

theorem plain_calls (b : UInt8) (w : World) : Calls Tryd.prog 20 #[.int .u8 b.toNat] w fun e w' => e = .returned (.bool (plainB b)) ∧ w' = w := by
  go_enter Tryd.func20, Tryd.ntmps20
  go_wp2_with fail
  all_goals
    go_ret
    refine ⟨ret_bool ?_, rfl⟩
    rw [Bool.eq_iff_iff]
    simp only [plainB, decide_eq_true_eq]
    try simp only [beq_iff_eq, beq_eq_false_iff_ne, ne_eq] at *
    try simp
    try omega

theorem between_calls (b : UInt8) (f t : Int) (w : World) : Calls Tryd.prog 38 #[.int .u8 b.toNat, .int .u8 f, .int .u8 t] w fun e w' => e = .returned (.bool (decide (f ≤ b.toNat ∧ b.toNat ≤ t))) ∧ w' = w := by
  go_enter Tryd.func38, Tryd.ntmps38
  go_wp2_with fail
  all_goals
    go_ret
    refine ⟨ret_bool ?_, rfl⟩
    rw [Bool.eq_iff_iff]
    try simp
    try omega

theorem digit_calls (n : Nat) (h : n < 16) (w : World) : Calls Tryd.prog 23 #[.int .i64 n] w fun e w' => e = .returned (.int .u8 (hexB n).toNat) ∧ w' = w := by
  go_enter Tryd.func23, Tryd.ntmps23
  go_wp2_with fail
  all_goals
    go_ret
    refine ⟨ret_u8 ?_, rfl⟩
    unfold hexB
    first
      | rw [if_pos (by omega), UInt8.toNat_ofNat']
      | rw [if_neg (by omega), UInt8.toNat_ofNat']
    omega

theorem one_at (b : UInt8) (h : 0 < (⟨#[b]⟩ : ByteArray).size) : (⟨#[b]⟩ : ByteArray)[0] = b := rfl

theorem contains_at (l : List UInt8) (b : UInt8) (k : Nat) (h : k < l.length) (e : l[k] = b) : l.contains b = true := by
  rw [List.contains_iff_mem]; rw [← e]; exact List.getElem_mem h
theorem contains_not (l : List UInt8) (b : UInt8) (h : ∀ j (hj : j < l.length), l[j] ≠ b) : l.contains b = false := by
  rw [Bool.eq_false_iff]; intro hc
  rw [List.contains_iff_mem] at hc
  obtain ⟨j, hj, e⟩ := List.getElem_of_mem hc
  exact h j hj e

theorem is_calls (b : UInt8) (s : ByteArray) (hs : s.size ≤ 4) (w : World) : Calls Tryd.prog 31 #[.int .u8 b.toNat, .string s] w fun e w' => e = .returned (.bool (s.data.toList.contains b)) ∧ w' = w := by
  go_enter Tryd.func31, Tryd.ntmps31
  go_wp2_with fail
  go_loopw [5] (fun i wr => ∃ k : Nat, k ≤ s.size ∧ i = .int .i64 k ∧ wr = w ∧ ∀ j (hj : j < k) (hl : j < s.data.toList.length), s.data.toList[j] ≠ b)
    (fun i _ => s.size - (intOf i).toNat)
  case atStart => exact ⟨0, Nat.zero_le _, rfl, rfl, fun j hj => absurd hj (Nat.not_lt_zero _)⟩
  case round =>
    obtain ⟨k, hk, rfl, rfl, hno⟩ := hrel
    have hno' := Lib.hid hno
    clear hno
    go_wp2_with fail
    · have hk : k < s.data.toList.length := by simpa using (by assumption : k < s.size)
      have he : s[k].toNat = b.toNat := by
        have : ((s[k].toNat : Int) == (b.toNat : Int)) = true := by assumption
        have := beq_iff_eq.1 this
        omega
      have hs : s.data.toList[k] = b := by
        have e2 : s.data.toList[k] = s[k] := by rw [Array.getElem_toList]; rfl
        rw [e2]; exact UInt8.toNat_inj.1 he
      go_ret
      exact ⟨ret_bool (contains_at _ b k hk hs).symm, rfl⟩
    · have hks : k < s.size := by assumption
      have hne : ¬ s[k].toNat = b.toNat := by
        have : ((s[k].toNat : Int) == (b.toNat : Int)) = false := by assumption
        intro e; rw [e] at this; simp at this
      refine ⟨⟨k + 1, by omega, by simp, trivial, fun j hj hl => ?_⟩, by simp [intOf]; omega⟩
      rcases (by omega : j < k ∨ j = k) with h | rfl
      · exact hno' j h hl
      · have e2 : s.data.toList[j] = s[j] := by rw [Array.getElem_toList]; rfl
        rw [e2]; intro e; exact hne (by rw [e])
    · have hge : ¬ k < s.size := by assumption
      go_ret
      refine ⟨ret_bool (contains_not _ b fun j hj => hno' j ?_ hj).symm, rfl⟩
      have : j < s.size := by simpa using hj
      omega

set_option maxHeartbeats 1000000 in
theorem all_calls (b : UInt8) (w : World) : Calls Tryd.prog 30 #[.string ⟨#[b]⟩, .int .i64 3] w fun e w' => e = .returned (.bool (decide ((97 ≤ b.toNat ∧ b.toNat ≤ 122) ∨ (65 ≤ b.toNat ∧ b.toNat ≤ 90) ∨ (48 ≤ b.toNat ∧ b.toNat ≤ 57) ∨ b.toNat = 95))) ∧ w' = w := by
  go_enter Tryd.func30, Tryd.ntmps30
  go_wp2_with fail
  go_loopw [5] (fun i wr => ∃ k : Nat, k ≤ 1 ∧ i = .int .i64 k ∧ wr = w ∧ (k = 1 → ((97 ≤ b.toNat ∧ b.toNat ≤ 122) ∨ (65 ≤ b.toNat ∧ b.toNat ≤ 90) ∨ (48 ≤ b.toNat ∧ b.toNat ≤ 57) ∨ b.toNat = 95)))
    (fun i _ => 1 - (intOf i).toNat)
  case atStart => exact ⟨0, Nat.zero_le _, rfl, rfl, fun h => absurd h (by decide)⟩
  case round =>
    obtain ⟨k, hk, rfl, rfl, hno⟩ := hrel
    rcases (by omega : k = 0 ∨ k = 1) with rfl | rfl
    · clear hno
      go_wp2_with (go_at_call 38; refine (between_calls b _ _ _).mono ?_; rintro e w1 ⟨rfl, rfl⟩)
      all_goals first
        | (go_ret
           refine ⟨ret_bool ?_, rfl⟩
           simp [one_at] at *
           omega)
        | (refine ⟨⟨1, by omega, rfl, trivial, fun _ => ?_⟩, by simp [intOf]⟩
           simp [one_at] at *
           omega)
    · go_wp2_with fail
      go_ret
      first | exact ⟨rfl, rfl⟩ | exact ⟨ret_bool (decide_eq_true (hno trivial)).symm, rfl⟩

theorem val_none (b : UInt8) (h : ∀ k, k < 16 → hexB k ≠ b) : valB b = -1 := by
  have hg := Lib.indexByte_ge digitsL b
  by_cases h0 : 0 ≤ valB b
  · have := hex_val b h0
    exact absurd this.2 (h _ this.1)
  · unfold valB at *; omega

theorem value_calls (b : UInt8) (w : World) : Calls Tryd.prog 24 #[.int .u8 b.toNat] w fun e w' => e = .returned (.int .i64 (valB b)) ∧ w' = w := by
  go_enter Tryd.func24, Tryd.ntmps24
  go_wp2_with fail
  go_loopw [3] (fun i wr => ∃ k : Nat, k ≤ 16 ∧ i = .int .i64 k ∧ wr = w ∧ ∀ j, j < k → hexB j ≠ b)
    (fun i _ => 16 - (intOf i).toNat)
  case atStart => exact ⟨0, Nat.zero_le _, rfl, rfl, fun j hj => absurd hj (Nat.not_lt_zero _)⟩
  case round =>
    obtain ⟨k, hk, rfl, rfl, hno⟩ := hrel
    have hno' := Lib.hid hno
    clear hno
    go_wp2_with (go_at_call 23; refine (digit_calls k (by omega) _).mono ?_; rintro e w1 ⟨rfl, rfl⟩)
    · have hk16 : k < 16 := by have : (k : Int) < 16 := by assumption
                               omega
      have he : hexB k = b := by
        have : (((hexB k).toNat : Int) == (b.toNat : Int)) = true := by assumption
        have := beq_iff_eq.1 this
        exact UInt8.toNat_inj.1 (by omega)
      go_ret
      exact ⟨by rw [← he, val_hex k hk16]; rfl, rfl⟩
    · have hk16 : k < 16 := by have : (k : Int) < 16 := by assumption
                               omega
      have hne : ¬ hexB k = b := by
        have : (((hexB k).toNat : Int) == (b.toNat : Int)) = false := by assumption
        intro e; rw [e] at this; simp at this
      refine ⟨⟨k + 1, by omega, by simp, trivial, fun j hj => ?_⟩, by simp [intOf]; omega⟩
      rcases (by omega : j < k ∨ j = k) with h | rfl
      · exact hno' j h
      · exact hne
    · have hk16 : 16 ≤ k := by have : 16 ≤ (k : Int) := by assumption
                               omega
      go_ret
      exact ⟨by rw [val_none b fun j hj => hno' j (by omega)]; rfl, rfl⟩
end Go.Proofs.YtndigceamabapaaDoor
