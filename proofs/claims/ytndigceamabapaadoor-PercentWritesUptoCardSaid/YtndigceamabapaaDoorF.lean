/-
  Walks: the program's decoding. Condition: at most 2^24 bytes.
-/
import Derived.Test.YtndigceamabapaaDoorD
namespace Go.Proofs.YtndigceamabapaaDoor
open Go.RowKit

/-- What decoding hands back: the text and 0; or the empty text and 2. -/
def decV (r : Option (List UInt8)) : Value := match r with
  | some l => .tuple #[.string ⟨l.toArray⟩, .int .i64 0]
  | none => .tuple #[.string ⟨#[]⟩, .int .i64 2]

theorem below_drewN (w : World) (n : Nat) : Below w.heap.size w (w.drewN n) := ⟨rfl, rfl, rfl, Nat.le_refl _, fun _ _ => rfl⟩
theorem _root_.Go.RowKit.Below.drewN_of {B : Nat} {W0 w : World} (h : Below B W0 w) (n : Nat) : Below B W0 (w.drewN n) := ⟨h.os, h.tape, h.output, h.size, h.block⟩
theorem OwnB.drewN {B : Nat} {v : Value} {l : List UInt8} {W0 w : World} (h : OwnB B v l W0 w) (n : Nat) : OwnB B v l W0 (w.drewN n) := OwnR.on h (below_drewN w n)

theorem or_byte (x y : UInt8) (hx : 0 ≤ valB x) (hy : 0 ≤ valB y) : bits BinOp.or IntKind.i64 (wrap64 (valB x * 16)) (valB y) % 256 = ((byteOf x y).toNat : Int) := by
  have h1 := (hex_val x hx).1
  have h2 := (hex_val y hy).1
  have e1 : valB x = ((valB x).toNat : Int) := by omega
  have e2 : valB y = ((valB y).toNat : Int) := by omega
  have h : ∀ n m : Fin 16, bits BinOp.or IntKind.i64 (wrap64 (((n.val : Nat) : Int) * 16)) ((m.val : Nat) : Int) % 256 = ((16 * n.val + m.val : Nat) : Int) := of_decide_eq_true (by kernel_rfl)
  rw [byteOf_toNat x y hx hy, e1, e2]
  exact h ⟨_, h1⟩ ⟨_, h2⟩

theorem index_calls (b : UInt8) (w : World) : Calls Tryd.prog 21 #[.string ⟨#[48, 49, 50, 51, 52, 53, 54, 55, 56, 57, 65, 66, 67, 68, 69, 70]⟩, .int .u8 b.toNat] w fun e w' => e = .returned (.int .i64 (valB b)) ∧ w' = w := by
  have h := Tryd.strings_IndexByte ⟨#[48, 49, 50, 51, 52, 53, 54, 55, 56, 57, 65, 66, 67, 68, 69, 70]⟩ (b.toNat : Int) w
  have e : ((b.toNat : Int).toNat).toUInt8 = b := by
    have := all_bytes (fun b => decide (((b.toNat : Int).toNat).toUInt8 = b)) (fun n => by revert n; exact of_decide_eq_true (by kernel_rfl)) b
    exact of_decide_eq_true this
  rw [e] at h
  exact h

set_option maxHeartbeats 1000000 in
theorem decode_calls (s : ByteArray) (hs : s.size ≤ 16777216) (w : World) : Calls Tryd.prog 9 #[.string s] w fun e w' => e = .returned (decV (dec s.data.toList)) ∧ Below w.heap.size w w' := by
  go_enter Tryd.func9, Tryd.ntmps9
  go_wp2_with fail
  go_loopw [4, 5] (fun v i wr => ∃ (k : Nat) (out : List UInt8), k ≤ s.size ∧ i = .int .i64 k ∧ OwnB w.heap.size v out w wr ∧ out.length ≤ k ∧ dec s.data.toList = (dec (s.data.toList.drop k)).map (out ++ ·))
    (fun _ i _ => s.size - (intOf i).toNat)
  case atStart => exact ⟨0, [], Nat.zero_le _, rfl, OwnB.start w, Nat.le_refl _, by simp⟩
  case round =>
    obtain ⟨k, out, hk, rfl, hown, hlen, hdec⟩ := hrel
    have HO := Lib.hid hown
    have HD := Lib.hid hdec
    clear hdec
    by_cases hkl : k < s.size
    · generalize hb : s[k] = b
      have hkl' : k < s.data.toList.length := by simpa using hkl
      have e2 : s.data.toList[k] = b := by rw [← hb, Array.getElem_toList]; rfl
      have E2 := Lib.hid e2
      obtain ⟨ao, no, co, rfl⟩ := hown.slice
      clear hown e2
      cases hp : plainB b with
      | true =>
        go_wp2_with (first
          | (go_at_call 20; refine (plain_calls b _).mono ?_; rintro e w1 ⟨rfl, rfl⟩; rw [hp])
          | (at_builtin; refine wpList_append_new rfl (.tmp 18) (.tmp 22) 39 rfl w.heap.size 5 (.int .u8 0) 1 1 Tryd.underlying39 Tryd.info5' rfl (by decide) _ _ _ rfl w (HO.out.alloc _) _ 1 ([b].map u8v) (0, 0) rfl (heap_alloc_new _ _) rfl (u8_one _) (by omega) ?_; intro v2 w2 hown2; have HO2 := Lib.hid hown2; clear hown2))
        refine ⟨⟨k + 1, out ++ [b], by omega, by simp, OwnB.next rfl HO2.out, by simp; omega, ?_⟩, by simp [intOf]; omega⟩
        rw [HD.out, dec_plain _ k hkl' (by rw [E2.out]; exact hp), E2.out]
        simp [Function.comp_def]
      | false =>
        by_cases h37 : b = 37
        · have hbn : ((b.toNat : Int) != 37) = false := by rw [h37]; rfl
          have H37 := Lib.hid h37
          clear h37
          by_cases hsz : k + 2 < s.size
          · generalize hb1 : s[k + 1] = b1
            generalize hb2 : s[k + 2] = b2
            have f1 : (decide (((s.size : Nat) : Int) ≤ (k : Int) + 2)) = false := by simp; omega
            go_wp2_with (first
              | (go_at_call 20; refine (plain_calls b _).mono ?_; rintro e w1 ⟨rfl, rfl⟩; rw [hp]))
            have ha1 : (k : Int) + 1 < s.size := by omega
            have hw1 : IntKind.i64.wrap ((k : Int) + 1) = (k : Int) + 1 := IntWalk.i64_in _ (by omega)
            have hw2 : IntKind.i64.wrap ((k : Int) + 2) = (k : Int) + 2 := IntWalk.i64_in _ (by omega)
            have hp1 : 0 ≤ (k : Int) + 1 ∧ (k : Int) + 1 < s.size := by omega
            have hp2 : 0 ≤ (k : Int) + 2 ∧ (k : Int) + 2 < s.size := by omega
            have hn1 : ((k : Int) + 1).toNat = k + 1 := by omega
            have hn2 : ((k : Int) + 2).toNat = k + 2 := by omega
            go_quiet (first
              | (go_at_call_of 21 b1; exact Calls.quiet_of ((index_calls b1 _).mono fun _ _ h => ⟨h.1, 0, h.2⟩))
              | (go_at_call_of 21 b2; exact Calls.quiet_of ((index_calls b2 _).mono fun _ _ h => ⟨h.1, 0, h.2⟩)))
            have hk2' : k + 2 < s.data.toList.length := by simpa using hsz
            have e1 : s.data.toList[k + 1] = b1 := by rw [← hb1, Array.getElem_toList]; rfl
            have e2 : s.data.toList[k + 2] = b2 := by rw [← hb2, Array.getElem_toList]; rfl
            have HE1 := Lib.hid e1
            have HE2 := Lib.hid e2
            have HB := Lib.hid (HO.out.below.drewN_of nq)
            have HO1 := Lib.hid (HO.out.drewN nq)
            clear e1 e2 hb1 hb2
            generalize w1.drewN nq = w2 at *
            clear HO
            by_cases hx : valB b1 < 0
            · have hbad := Lib.hid (dec_bad _ k hk2' (by rw [E2.out]; exact hp) (.inl (by rw [HE1.out]; exact hx)))
              go_wp2_with fail
              refine bodyPost_ret (v := decV none) (by simp [results, Tryd.results9, go_sem, decV]) rfl ⟨?_, HB.out⟩
              rw [HD.out, hbad.out]; rfl
            · by_cases hy : valB b2 < 0
              · have hbad := Lib.hid (dec_bad _ k hk2' (by rw [E2.out]; exact hp) (.inr (.inl (by rw [HE2.out]; exact hy))))
                go_wp2_with fail
                refine bodyPost_ret (v := decV none) (by simp [results, Tryd.results9, go_sem, decV]) rfl ⟨?_, HB.out⟩
                rw [HD.out, hbad.out]; rfl
              · have hor := or_byte b1 b2 (by omega) (by omega)
                cases hq : plainB (byteOf b1 b2) with
                | true =>
                  have hbad := Lib.hid (dec_bad _ k hk2' (by rw [E2.out]; exact hp) (.inr (.inr (by rw [HE1.out, HE2.out]; exact hq))))
                  go_wp2_with (go_at_call 20; refine (plain_calls (byteOf b1 b2) _).mono ?_; rintro e w3 ⟨rfl, rfl⟩; rw [hq])
                  refine bodyPost_ret (v := decV none) (by simp [results, Tryd.results9, go_sem, decV]) rfl ⟨?_, HB.out⟩
                  rw [HD.out, hbad.out]; rfl
                | false =>
                  have hgood := Lib.hid (dec_three _ k hk2' (by rw [E2.out]; exact H37.out) (by rw [HE1.out]; omega) (by rw [HE2.out]; omega) (by rw [HE1.out, HE2.out]; exact hq))
                  go_wp2_with (first
                    | (go_at_call 20; refine (plain_calls (byteOf b1 b2) _).mono ?_; rintro e w3 ⟨rfl, rfl⟩; rw [hq])
                    | (at_builtin; refine wpList_append_new rfl (.tmp 59) (.tmp 65) 39 rfl w.heap.size 5 (.int .u8 0) 1 1 Tryd.underlying39 Tryd.info5' rfl (by decide) _ _ _ rfl w (HO1.out.alloc _) _ 1 ([byteOf b1 b2].map u8v) (0, 0) rfl (heap_alloc_new _ _) rfl (u8_one _) (by omega) ?_; intro v2 w4 hown2; have HO2 := Lib.hid hown2; clear hown2))
                  refine ⟨⟨k + 3, out ++ [byteOf b1 b2], by omega, by simp; omega, OwnB.next rfl HO2.out, by simp; omega, ?_⟩, by simp [intOf]; omega⟩
                  rw [HD.out, hgood.out, HE1.out, HE2.out]
                  simp [Function.comp_def]
          · go_wp2_with (first
              | (go_at_call 20; refine (plain_calls b _).mono ?_; rintro e w1 ⟨rfl, rfl⟩; rw [hp]))
            refine bodyPost_ret (v := decV none) (by simp [results, Tryd.results9, go_sem, decV]) rfl ⟨?_, HO.out.below⟩
            rw [HD.out, dec_short _ k hkl' (by rw [E2.out]; exact hp) (by simp; omega)]; rfl
        · have hbn : ((b.toNat : Int) != 37) = true := by
            rw [bne_iff_ne]; intro e; exact h37 (UInt8.toNat_inj.1 (by simpa using (by omega : b.toNat = 37)))
          have H37 := Lib.hid h37
          clear h37
          go_wp2_with (first
            | (go_at_call 20; refine (plain_calls b _).mono ?_; rintro e w1 ⟨rfl, rfl⟩; rw [hp]))
          refine bodyPost_ret (v := decV none) (by simp [results, Tryd.results9, go_sem, decV]) rfl ⟨?_, HO.out.below⟩
          rw [HD.out, dec_other _ k hkl' (by rw [E2.out]; exact hp) (by rw [E2.out]; exact H37.out)]; rfl
    · have hks : k = s.size := by omega
      have hcv := own_convert hown
      have hb2 := Lib.hid hown.below
      clear hown
      go_wp2_with fail
      refine bodyPost_ret (v := decV (some out)) (by simp [results, Tryd.results9, go_sem, decV]) rfl ⟨?_, hb2.out⟩
      rw [HD.out, dec_stop _ k (by simp; omega)]; simp
end Go.Proofs.YtndigceamabapaaDoor
