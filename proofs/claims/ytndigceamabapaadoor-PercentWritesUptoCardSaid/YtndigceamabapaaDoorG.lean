/-
  Walk: the reference's decoding. Condition: at most 2^24 bytes.
-/
import Derived.Test.YtndigceamabapaaDoorE
import Derived.Test.YtndigceamabapaaDoorF
namespace Go.Proofs.YtndigceamabapaaDoor
open Go.RowKit

/-- What the reference's decoding hands back: the text and true; or the empty text and false. -/
def rdecV (r : Option (List UInt8)) : Value := match r with
  | some l => .tuple #[.string ⟨l.toArray⟩, .bool true]
  | none => .tuple #[.string ⟨#[]⟩, .bool false]

theorem byte_wrap (x y : UInt8) (hx : 0 ≤ valB x) (hy : 0 ≤ valB y) : IntKind.u8.wrap (16 * valB x + valB y) = ((byteOf x y).toNat : Int) := by
  have h1 := (hex_val x hx).1
  have h2 := (hex_val y hy).1
  have e1 : valB x = ((valB x).toNat : Int) := by omega
  have e2 : valB y = ((valB y).toNat : Int) := by omega
  have h : ∀ n m : Fin 16, IntKind.u8.wrap (16 * ((n.val : Nat) : Int) + ((m.val : Nat) : Int)) = ((16 * n.val + m.val : Nat) : Int) := of_decide_eq_true (by kernel_rfl)
  rw [byteOf_toNat x y hx hy, e1, e2]
  exact h ⟨_, h1⟩ ⟨_, h2⟩

theorem below_both {W0 w w' : World} (h : Below W0.heap.size W0 w) (k : Below w.heap.size w w') : Below W0.heap.size W0 w' :=
  ⟨k.os.trans h.os, k.tape.trans h.tape, k.output.trans h.output, Nat.le_trans h.size k.size, fun i hi => (k.block i (Nat.lt_of_lt_of_le hi h.size)).trans (h.block i hi)⟩
theorem refDec_some {s t : List UInt8} (h : rdec s = some t) : refDec s = if enc t = s then some t else none := by unfold refDec; rw [h]; rfl

theorem refDec_none {s : List UInt8} (h : rdec s = none) : refDec s = none := by unfold refDec; rw [h]; rfl

set_option maxHeartbeats 1000000 in
theorem refdecode_calls (s : ByteArray) (hs : s.size ≤ 4194304) (w : World) : Calls Tryd.prog 12 #[.string s] w fun e w' => e = .returned (rdecV (dec s.data.toList)) ∧ Below w.heap.size w w' := by
  rw [← refDec_eq]
  go_enter Tryd.func12, Tryd.ntmps12
  go_wp2_with fail
  go_loopw [4, 5] (fun v i wr => ∃ (k : Nat) (out : List UInt8), k ≤ s.size ∧ i = .int .i64 k ∧ OwnB w.heap.size v out w wr ∧ out.length ≤ k ∧ rdec s.data.toList = (rdec (s.data.toList.drop k)).map (out ++ ·))
    (fun _ i _ => s.size - (intOf i).toNat)
  case atStart => exact ⟨0, [], Nat.zero_le _, rfl, OwnB.startM w, Nat.le_refl _, by simp⟩
  case round =>
    obtain ⟨k, out, hk, rfl, hown, hlen, hdec⟩ := hrel
    have HO := Lib.hid hown
    have HD := Lib.hid hdec
    clear hdec
    by_cases hkl : k < s.size
    · generalize hb : s[k] = b
      have hkl' : k < s.data.toList.length := by simpa using hkl
      have e2 : s.data.toList[k] = b := by rw [← hb, Array.getElem_toList]; rfl
      have E2 := Lib.hid e2
      obtain ⟨ao, no, co, rfl⟩ := hown.slice
      clear hown e2
      by_cases h37 : b = 37
      · have hbn : ((b.toNat : Int) != 37) = false := by rw [h37]; rfl
        have H37 := Lib.hid h37
        clear h37
        by_cases hsz : k + 2 < s.size
        · generalize hb1 : s[k + 1] = b1
          generalize hb2 : s[k + 2] = b2
          have f1 : (decide (((s.size : Nat) : Int) ≤ (k : Int) + 2)) = false := by simp; omega
          have hk2' : k + 2 < s.data.toList.length := by simpa using hsz
          have e1 : s.data.toList[k + 1] = b1 := by rw [← hb1, Array.getElem_toList]; rfl
          have e2 : s.data.toList[k + 2] = b2 := by rw [← hb2, Array.getElem_toList]; rfl
          have HE1 := Lib.hid e1
          have HE2 := Lib.hid e2
          clear e1 e2
          by_cases hx : valB b1 < 0
          · have hbad := Lib.hid (rdec_bad _ k hk2' (by rw [E2.out]; exact H37.out) (.inl (by rw [HE1.out]; exact hx)))
            go_wp2_with (first
              | (go_at_call_of 24 b1; refine (value_calls b1 _).mono ?_; rintro e w1 ⟨rfl, rfl⟩)
              | (go_at_call_of 24 b2; refine (value_calls b2 _).mono ?_; rintro e w1 ⟨rfl, rfl⟩))
            refine bodyPost_ret (v := rdecV none) (by simp [results, Tryd.results12, go_sem, rdecV]) rfl ⟨?_, HO.out.below⟩
            rw [refDec_none (HD.out.trans (by rw [hbad.out]; rfl))]
          · by_cases hy : valB b2 < 0
            · have hbad := Lib.hid (rdec_bad _ k hk2' (by rw [E2.out]; exact H37.out) (.inr (by rw [HE2.out]; exact hy)))
              go_wp2_with (first
                | (go_at_call_of 24 b1; refine (value_calls b1 _).mono ?_; rintro e w1 ⟨rfl, rfl⟩)
                | (go_at_call_of 24 b2; refine (value_calls b2 _).mono ?_; rintro e w1 ⟨rfl, rfl⟩))
              refine bodyPost_ret (v := rdecV none) (by simp [results, Tryd.results12, go_sem, rdecV]) rfl ⟨?_, HO.out.below⟩
              rw [refDec_none (HD.out.trans (by rw [hbad.out]; rfl))]
            · have hgood := Lib.hid (rdec_three _ k hk2' (by rw [E2.out]; exact H37.out) (by rw [HE1.out]; omega) (by rw [HE2.out]; omega))
              go_wp2_with (first
                | (go_at_call_of 24 b1; refine (value_calls b1 _).mono ?_; rintro e w1 ⟨rfl, rfl⟩)
                | (go_at_call_of 24 b2; refine (value_calls b2 _).mono ?_; rintro e w1 ⟨rfl, rfl⟩))
              have hw1 : IntKind.i64.wrap ((k : Int) + 1) = (k : Int) + 1 := IntWalk.i64_in _ (by omega)
              have hw2 : IntKind.i64.wrap ((k : Int) + 2) = (k : Int) + 2 := IntWalk.i64_in _ (by omega)
              have hp1 : 0 ≤ (k : Int) + 1 ∧ (k : Int) + 1 < s.size := by omega
              have hp2 : 0 ≤ (k : Int) + 2 ∧ (k : Int) + 2 < s.size := by omega
              have hn1 : ((k : Int) + 1).toNat = k + 1 := by omega
              have hn2 : ((k : Int) + 2).toNat = k + 2 := by omega
              have hv1 := (hex_val b1 (by omega)).1
              have hv2 := (hex_val b2 (by omega)).1
              have hw3 : IntKind.i64.wrap (16 * valB b1) = 16 * valB b1 := IntWalk.i64_in _ (by omega)
              have hw4 : IntKind.i64.wrap (16 * valB b1 + valB b2) = 16 * valB b1 + valB b2 := IntWalk.i64_in _ (by omega)
              have hw5 := byte_wrap b1 b2 (by omega) (by omega)
              go_region_law (first
                | (go_simp; go_at_call_of 24 b1; refine (value_calls b1 _).mono ?_; rintro e w' ⟨rfl, rfl⟩)
                | (go_simp; go_at_call_of 24 b2; refine (value_calls b2 _).mono ?_; rintro e w' ⟨rfl, rfl⟩)
                | (refine step_append_new (by rfl) (.tmp 44) (.tmp 58) 39 (by rfl) w.heap.size 5 (.int .u8 0) 1 1 Tryd.underlying39 Tryd.info5' rfl (by decide) (.slice ao no co) _ _ (by simp [Act.eval]) w ((HO.out.alloc _).drew) _ 1 ([byteOf b1 b2].map u8v) (0, 0) (by simp [Act.eval]) (heap_alloc_new _ _) rfl (u8_one _) (by omega) ?_; intro v2 w2 hown2; have HO2 := Lib.hid hown2; clear hown2))
              all_goals
                go_wp2_with fail
                refine ⟨⟨k + 3, out ++ [byteOf b1 b2], by omega, by simp; omega, OwnB.next rfl HO2.out, by simp; omega, ?_⟩, by simp [intOf]; omega⟩
                rw [HD.out, hgood.out, HE1.out, HE2.out]
                simp [Function.comp_def]
        · go_wp2_with fail
          refine bodyPost_ret (v := rdecV none) (by simp [results, Tryd.results12, go_sem, rdecV]) rfl ⟨?_, HO.out.below⟩
          rw [refDec_none (HD.out.trans (by rw [rdec_short _ k hkl' (by rw [E2.out]; exact H37.out) (by simp; omega)]; rfl))]
      · have hbn : ((b.toNat : Int) != 37) = true := by
          rw [bne_iff_ne]; intro e; exact h37 (UInt8.toNat_inj.1 (by simpa using (by omega : b.toNat = 37)))
        have H37 := Lib.hid h37
        clear h37
        go_wp2_with (at_builtin; refine wpList_append_new rfl (.tmp 17) (.tmp 21) 39 rfl w.heap.size 5 (.int .u8 0) 1 1 Tryd.underlying39 Tryd.info5' rfl (by decide) _ _ _ rfl w (HO.out.alloc _) _ 1 ([b].map u8v) (0, 0) rfl (heap_alloc_new _ _) rfl (u8_one _) (by omega) ?_; intro v2 w2 hown2; have HO2 := Lib.hid hown2; clear hown2)
        refine ⟨⟨k + 1, out ++ [b], by omega, by simp, OwnB.next rfl HO2.out, by simp; omega, ?_⟩, by simp [intOf]; omega⟩
        rw [HD.out, rdec_plain _ k hkl' (by rw [E2.out]; exact H37.out), E2.out]
        simp [Function.comp_def]
    · have hks : k = s.size := by omega
      have hcv := own_convert hown
      have hb2 := Lib.hid hown.below
      have hrd := Lib.hid (HD.out.trans (by rw [rdec_stop _ k (by simp; omega)]; simp : _ = some out))
      clear hown
      have hos : (⟨out.toArray⟩ : ByteArray).size ≤ 16777216 := by show out.toArray.size ≤ _; simp; omega
      go_wp2_with (go_at_call 10; refine (refencode_calls _ hos _).mono ?_; rintro e w1 ⟨rfl, hb3⟩; have HB3 := Lib.hid hb3; have hcv1 := own_convert (show OwnB _ _ _ _ _ from OwnR.on HO.out hb3); clear hb3)
      all_goals have HBF := Lib.hid (below_both hb2.out HB3.out)
      · have hne : ¬ enc out = s.data.toList := by
          have h : (!(enc out == s.toList)) = true := by assumption
          rw [ByteArray.toList_eq] at h
          simpa using h
        refine bodyPost_ret (v := rdecV none) (by simp [results, Tryd.results12, go_sem, rdecV]) rfl ⟨?_, HBF.out⟩
        rw [refDec_some hrd.out, if_neg hne]
      · have he : enc out = s.data.toList := by
          have h : (!(enc out == s.toList)) = false := by assumption
          rw [ByteArray.toList_eq] at h
          simpa using h
        refine bodyPost_ret (v := rdecV (some out)) (by simp [results, Tryd.results12, go_sem, rdecV]) rfl ⟨?_, HBF.out⟩
        rw [refDec_some hrd.out, if_pos he]
end Go.Proofs.YtndigceamabapaaDoor
