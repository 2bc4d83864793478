/-
  Walks: both encodings. Condition: at most 2^24 bytes.
-/
import Derived.Test.YtndigceamabapaaDoorC
namespace Go.Proofs.YtndigceamabapaaDoor
open Go.RowKit

theorem OwnB.start (w : World) : OwnB w.heap.size (.slice none 0 0) (enc []) w w := OwnR.nil w 5 1
theorem OwnB.startM (w : World) : OwnB w.heap.size (.slice (some ⟨w.heap.size, 0, none⟩) 0 0) (enc []) w (w.alloc (.cells #[] 5)) := OwnR.made w 5 1

theorem u8_one (l : List UInt8) : ∀ u ∈ l.map u8v, u.oneCell' = true := by
  intro u hu
  obtain ⟨b, _, rfl⟩ := List.mem_map.1 hu
  rfl

theorem digits_at (n : Nat) (h : n < (⟨#[48, 49, 50, 51, 52, 53, 54, 55, 56, 57, 65, 66, 67, 68, 69, 70]⟩ : ByteArray).size) : (⟨#[48, 49, 50, 51, 52, 53, 54, 55, 56, 57, 65, 66, 67, 68, 69, 70]⟩ : ByteArray)[n] = hexB n := by
  have : ∀ k : Fin 16, (⟨#[48, 49, 50, 51, 52, 53, 54, 55, 56, 57, 65, 66, 67, 68, 69, 70]⟩ : ByteArray)[k.val]'k.isLt = hexB k.val := by decide
  exact this ⟨n, h⟩
theorem digit_hi (b : UInt8) (h : ((b.toNat : Int) / 16).toNat < (⟨#[48, 49, 50, 51, 52, 53, 54, 55, 56, 57, 65, 66, 67, 68, 69, 70]⟩ : ByteArray).size) : (⟨#[48, 49, 50, 51, 52, 53, 54, 55, 56, 57, 65, 66, 67, 68, 69, 70]⟩ : ByteArray)[((b.toNat : Int) / 16).toNat] = hexB (b.toNat / 16) := by
  rw [digits_at]; congr 1

theorem digit_lo (b : UInt8) (h : ((b.toNat : Int) % 16).toNat < (⟨#[48, 49, 50, 51, 52, 53, 54, 55, 56, 57, 65, 66, 67, 68, 69, 70]⟩ : ByteArray).size) : (⟨#[48, 49, 50, 51, 52, 53, 54, 55, 56, 57, 65, 66, 67, 68, 69, 70]⟩ : ByteArray)[((b.toNat : Int) % 16).toNat] = hexB (b.toNat % 16) := by
  rw [digits_at]; congr 1
theorem and_15 (b : UInt8) : bits BinOp.and IntKind.u8 (b.toNat : Int) 15 = (b.toNat : Int) % 16 := by
  have := all_bytes (fun b => decide (bits BinOp.and IntKind.u8 (b.toNat : Int) 15 = (b.toNat : Int) % 16)) (fun n => by revert n; exact of_decide_eq_true (by kernel_rfl)) b
  exact of_decide_eq_true this

set_option maxHeartbeats 1000000 in
theorem encode_calls (s : ByteArray) (hs : s.size ≤ 16777216) (w : World) : Calls Tryd.prog 8 #[.string s] w fun e w' => e = .returned (.string ⟨(enc s.data.toList).toArray⟩) ∧ Below w.heap.size w w' := by
  go_enter Tryd.func8, Tryd.ntmps8
  go_wp2_with fail
  go_loopw [3, 4] (fun v i wr => ∃ k : Nat, k ≤ s.size ∧ i = .int .i64 k ∧ OwnB w.heap.size v (enc (s.data.toList.take k)) w wr)
    (fun _ i _ => s.size - (intOf i).toNat)
  case atStart => exact ⟨0, Nat.zero_le _, rfl, OwnB.start w⟩
  case round =>
    obtain ⟨k, hk, rfl, hown⟩ := hrel
    have HO := Lib.hid hown
    by_cases hkl : k < s.size
    · have hlen : (enc (s.data.toList.take k)).length ≤ 50331648 := by
        have := enc_length (s.data.toList.take k)
        simp at this; omega
      generalize hb : s[k] = b
      have hkl' : k < s.data.toList.length := by simpa using hkl
      have e2 : s.data.toList[k] = b := by rw [← hb, Array.getElem_toList]; rfl
      have hnext := enc_take s.data.toList k hkl'
      rw [e2] at hnext
      have HN := Lib.hid hnext
      generalize enc (s.data.toList.take k) = out at *
      obtain ⟨ao, no, co, rfl⟩ := hown.slice
      clear hown e2 hnext
      cases hp : plainB b with
      | true =>
        go_wp2_with (first
          | (go_at_call 20; refine (plain_calls b _).mono ?_; rintro e w1 ⟨rfl, rfl⟩; rw [hp])
          | (at_builtin; refine wpList_append_new rfl (.tmp 15) (.tmp 19) 39 rfl w.heap.size 5 (.int .u8 0) 1 1 Tryd.underlying39 Tryd.info5' rfl (by decide) _ _ _ rfl w (HO.out.alloc _) _ 1 ([b].map u8v) (0, 0) rfl (heap_alloc_new _ _) rfl (u8_one _) (by omega) ?_; intro v2 w2 hown2; have HO2 := Lib.hid hown2; clear hown2))
        refine ⟨⟨k + 1, by omega, by simp, ?_⟩, by simp [intOf]; omega⟩
        rw [HN.out]
        have : enc1 b = [b] := by simp [enc1, hp]
        rw [this]
        exact OwnB.next rfl HO2.out
      | false =>
        have hb256 : (b.toNat : Int) < 256 := by have := b.toNat_lt; omega
        have hx1 : 0 ≤ (b.toNat : Int) / 16 ∧ (b.toNat : Int) / 16 < 16 := by omega
        have hd1 := digit_hi b
        have hx2 : 0 ≤ (b.toNat : Int) % 16 ∧ (b.toNat : Int) % 16 < 16 := by omega
        have hd2 := digit_lo b
        have hand := and_15 b
        go_wp2_with (first
          | (go_at_call 20; refine (plain_calls b _).mono ?_; rintro e w1 ⟨rfl, rfl⟩; rw [hp]))
        go_region_law (refine step_append_new (by rfl) (.tmp 21) (.tmp 32) 39 (by rfl) w.heap.size 5 (.int .u8 0) 1 1 Tryd.underlying39 Tryd.info5' rfl (by decide) (.slice ao no co) _ _ (by simp [Act.eval]) w ((HO.out.alloc _).drew) _ 3 ([37, hexB (b.toNat / 16), hexB (b.toNat % 16)].map u8v) (0, 0) (by simp [Act.eval]) (heap_alloc_new _ _) rfl (u8_one _) (by omega) ?_; intro v2 w2 hown2; have HO2 := Lib.hid hown2; clear hown2)
        all_goals
          go_wp2_with fail
          refine ⟨⟨k + 1, by omega, by simp, ?_⟩, by simp [intOf]; omega⟩
          rw [HN.out]
          have : enc1 b = [37, hexB (b.toNat / 16), hexB (b.toNat % 16)] := by simp [enc1, hp]
          rw [this]
          exact OwnB.next rfl HO2.out
    · have hks : k = s.size := by omega
      have hcv := own_convert hown
      have htk : s.data.toList.take k = s.data.toList := List.take_of_length_le (by simp; omega)
      rw [htk] at hcv
      have hb2 := Lib.hid hown.below
      clear hown
      go_wp2_with fail
      go_ret
      exact ⟨rfl, hb2.out⟩

end Go.Proofs.YtndigceamabapaaDoor
