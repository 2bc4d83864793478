/-
  Walk: the reference's encoding. Condition: at most 2^24 bytes.
-/
import Derived.Test.YtndigceamabapaaDoorD
namespace Go.Proofs.YtndigceamabapaaDoor
open Go.RowKit

theorem digit_int (x : Int) (h0 : 0 ≤ x) (h1 : x < 16) (w : World) : Calls Tryd.prog 23 #[.int .i64 x] w fun e w' => e = .returned (.int .u8 (hexB x.toNat).toNat) ∧ w' = w := by
  have := digit_calls x.toNat (by omega) w
  rwa [Int.toNat_of_nonneg h0] at this

theorem wrap_b (b : UInt8) : IntKind.i64.wrap (b.toNat : Int) = (b.toNat : Int) := by
  have := all_bytes (fun b => decide (IntKind.i64.wrap (b.toNat : Int) = (b.toNat : Int))) (fun n => by revert n; exact of_decide_eq_true (by kernel_rfl)) b
  exact of_decide_eq_true this
theorem wrap_q (b : UInt8) : IntKind.i64.wrap ((b.toNat : Int) / 16) = (b.toNat : Int) / 16 := by
  have := all_bytes (fun b => decide (IntKind.i64.wrap ((b.toNat : Int) / 16) = (b.toNat : Int) / 16)) (fun n => by revert n; exact of_decide_eq_true (by kernel_rfl)) b
  exact of_decide_eq_true this
theorem wrap_r (b : UInt8) : IntKind.i64.wrap ((b.toNat : Int) % 16) = (b.toNat : Int) % 16 := by
  have := all_bytes (fun b => decide (IntKind.i64.wrap ((b.toNat : Int) % 16) = (b.toNat : Int) % 16)) (fun n => by revert n; exact of_decide_eq_true (by kernel_rfl)) b
  exact of_decide_eq_true this

set_option maxHeartbeats 1000000 in
theorem refencode_calls (s : ByteArray) (hs : s.size ≤ 16777216) (w : World) : Calls Tryd.prog 10 #[.string s] w fun e w' => e = .returned (.string ⟨(enc s.data.toList).toArray⟩) ∧ Below w.heap.size w w' := by
  go_enter Tryd.func10, Tryd.ntmps10
  go_wp2_with fail
  go_loopw [3, 4] (fun v i wr => ∃ k : Nat, k ≤ s.size ∧ i = .int .i64 k ∧ OwnB w.heap.size v (enc (s.data.toList.take k)) w wr)
    (fun _ i _ => s.size - (intOf i).toNat)
  case atStart => exact ⟨0, Nat.zero_le _, rfl, OwnB.startM w⟩
  case round =>
    obtain ⟨k, hk, rfl, hown⟩ := hrel
    have HO := Lib.hid hown
    by_cases hkl : k < s.size
    · have hlen : (enc (s.data.toList.take k)).length ≤ 50331648 := by
        have := enc_length (s.data.toList.take k)
        simp at this; omega
      generalize hb : s[k] = b
      have hkl' : k < s.data.toList.length := by simpa using hkl
      have e2 : s.data.toList[k] = b := by rw [← hb, Array.getElem_toList]; rfl
      have hnext := enc_take s.data.toList k hkl'
      rw [e2] at hnext
      have HN := Lib.hid hnext
      generalize enc (s.data.toList.take k) = out at *
      obtain ⟨ao, no, co, rfl⟩ := hown.slice
      clear hown e2 hnext
      cases hp : plainB b with
      | true =>
        go_wp2_with (first
          | (go_at_call 22; refine (refplain_calls b _).mono ?_; rintro e w1 ⟨rfl, hb1⟩; rw [hp]; have HO1 := Lib.hid (HO.out.on hb1); clear hb1)
          | (at_builtin; refine wpList_append_new rfl (.tmp 16) (.tmp 20) 39 rfl w.heap.size 5 (.int .u8 0) 1 1 Tryd.underlying39 Tryd.info5' rfl (by decide) _ _ _ rfl w (HO1.out.alloc _) _ 1 ([b].map u8v) (0, 0) rfl (heap_alloc_new _ _) rfl (u8_one _) (by omega) ?_; intro v2 w2 hown2; have HO2 := Lib.hid hown2; clear hown2))
        refine ⟨⟨k + 1, by omega, by simp, ?_⟩, by simp [intOf]; omega⟩
        rw [HN.out]
        have : enc1 b = [b] := by simp [enc1, hp]
        rw [this]
        exact OwnB.next rfl HO2.out
      | false =>
        have hb256 : (b.toNat : Int) < 256 := by have := b.toNat_lt; omega
        have hw0 := wrap_b b
        have hw1 : (b.toNat : Int).tdiv 16 = (b.toNat : Int) / 16 := Int.tdiv_eq_ediv_of_nonneg (by omega)
        have hw2 := wrap_q b
        have hw3 : (b.toNat : Int).tmod 16 = (b.toNat : Int) % 16 := Int.tmod_eq_emod_of_nonneg (by omega)
        have hw4 := wrap_r b
        have hw5 : hexB ((b.toNat : Int) / 16).toNat = hexB (b.toNat / 16) := by congr 1
        have hw6 : hexB ((b.toNat : Int) % 16).toNat = hexB (b.toNat % 16) := by congr 1
        go_wp2_with (first
          | (go_at_call 22; refine (refplain_calls b _).mono ?_; rintro e w1 ⟨rfl, hb1⟩; rw [hp]; have HO1 := Lib.hid (HO.out.on hb1); clear hb1))
        go_region_law (first
          | (go_simp; go_at_call 23; refine (digit_int _ (by omega) (by omega) _).mono ?_; rintro e w' ⟨rfl, rfl⟩)
          | (refine step_append_new (by rfl) (.tmp 22) (.tmp 35) 39 (by rfl) w.heap.size 5 (.int .u8 0) 1 1 Tryd.underlying39 Tryd.info5' rfl (by decide) (.slice ao no co) _ _ (by simp [Act.eval]) w ((HO1.out.alloc _).drew) _ 3 ([37, hexB (b.toNat / 16), hexB (b.toNat % 16)].map u8v) (0, 0) (by simp [Act.eval]) (heap_alloc_new _ _) rfl (u8_one _) (by omega) ?_; intro v2 w2 hown2; have HO2 := Lib.hid hown2; clear hown2))
        all_goals
          go_wp2_with fail
          refine ⟨⟨k + 1, by omega, by simp, ?_⟩, by simp [intOf]; omega⟩
          rw [HN.out]
          have : enc1 b = [37, hexB (b.toNat / 16), hexB (b.toNat % 16)] := by simp [enc1, hp]
          rw [this]
          exact OwnB.next rfl HO2.out
    · have hks : k = s.size := by omega
      have hcv := own_convert hown
      have htk : s.data.toList.take k = s.data.toList := List.take_of_length_le (by simp; omega)
      rw [htk] at hcv
      have hb2 := Lib.hid hown.below
      clear hown
      go_wp2_with fail
      go_ret
      exact ⟨rfl, hb2.out⟩
end Go.Proofs.YtndigceamabapaaDoor
