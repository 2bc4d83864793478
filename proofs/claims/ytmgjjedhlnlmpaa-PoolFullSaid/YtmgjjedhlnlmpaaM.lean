/- The walk of the law PoolFull. -/
import Derived.Test.YtmgjjedhlnlmpaaL
namespace Go.Proofs.Ytmgjjedhlnlmpaa
open Go.RowKit

def full (m : Msg) (i : Nat) : List Msg := if okMsg m then List.replicate (min i 256) m else []

theorem full_mod (n : Int) : ∃ N : Nat, wrap64 ((IntKind.u64.wrap n).tmod 270) = (N : Int) ∧ N < 270 := by
  have h0 : 0 ≤ IntKind.u64.wrap n := by rw [IntKind.wrap_u64]; omega
  rw [Int.tmod_eq_emod_of_nonneg h0]
  refine ⟨(IntKind.u64.wrap n % 270).toNat, ?_, by omega⟩
  generalize IntKind.u64.wrap n = x at *
  unfold wrap64
  omega

theorem full_succ (m : Msg) (i : Nat) : sendL (full m i) m = full m (i + 1) := by
  unfold sendL full
  cases h : okMsg m with
  | false => simp
  | true =>
    simp only [if_true, List.length_replicate]
    by_cases h2 : 256 ≤ i
    · rw [if_pos (by omega), show min i 256 = min (i + 1) 256 by omega]
    · rw [if_neg (by omega), show min (i + 1) 256 = min i 256 + 1 by omega, List.replicate_succ']

theorem full_len (m : Msg) (i : Nat) : (full m i).length ≤ 256 := by
  unfold full; split <;> simp; omega

theorem full_err (m : Msg) (i : Nat) : sendE (full m i) m = if okMsg m then (if 256 ≤ i then 3 else 0) else 2 := by
  unfold sendE full
  cases h : okMsg m with
  | false => simp
  | true =>
    simp only [if_true, List.length_replicate]
    by_cases h2 : 256 ≤ i
    · rw [if_pos (by omega), if_pos h2]
    · rw [if_neg (by omega), if_neg h2]

/-- The box of the message, and the pool behind i messages. -/
theorem full_box {w wr : World} {m : Msg} {ms : List Msg} (h : Holds (w.heap.size + 1) (w.alloc (.cells #[.int .i64 m.f, .int .i64 m.t, .string m.b] 23)) wr (w.heap.size + 1) ms) :
    wr.heap[w.heap.size]? = some (.cells #[.int .i64 m.f, .int .i64 m.t, .string m.b] 23 (0, 0)) ∧ Below w.heap.size w wr ∧ w.heap.size + 1 < wr.heap.size := by
  obtain ⟨v, hp, hb⟩ := h
  exact ⟨(hb.block _ (by omega)).trans (heap_alloc_new w _), (below_alloc w _).trans (hb.mono (by omega)), hp.lt⟩

theorem full_start (m : Msg) (w : World) : Holds (w.heap.size + 1) (w.alloc (.cells #[.int .i64 m.f, .int .i64 m.t, .string m.b] 23)) ((w.alloc (.cells #[.int .i64 m.f, .int .i64 m.t, .string m.b] 23)).alloc (.cells #[.slice none 0 0] 56)) (w.heap.size + 1) (full m 0) := by
  have h := Holds.new (w.alloc (.cells #[.int .i64 m.f, .int .i64 m.t, .string m.b] 23))
  have e : full m 0 = [] := by unfold full; simp
  rw [e]
  simpa using h

set_option maxHeartbeats 400000 in
set_option maxRecDepth 100000 in
theorem full_bad (m : Msg) (n : Int) (w : World) (hm : okMsg m = false) :
    Calls Try.prog 3 #[m.agg, .int .i64 n] w fun e w' => e = .returned (.bool true) ∧ Below w.heap.size w w' := by
  obtain ⟨N, hN, hlt⟩ := full_mod n
  have HN := Lib.hid hN
  clear hN
  have HH0 := Lib.hid (full_start m w)
  unfold Msg.agg
  go_enter Try.func3, Try.ntmps3
  go_wp2_with (go_at_call 8; refine (new_any _).mono ?_; rintro e w1 ⟨rfl, rfl⟩)
  rw [HN.out]
  go_loopw [6] (fun i wr => ∃ k : Nat, k ≤ N ∧ i = .int .i64 k ∧ Holds (w.heap.size + 1) (w.alloc (.cells #[.int .i64 m.f, .int .i64 m.t, .string m.b] 23)) wr (w.heap.size + 1) (full m k)) (fun i _ => N - (intOf i).toNat)
  case atStart => exact ⟨0, Nat.zero_le _, rfl, HH0.out⟩
  case round =>
    obtain ⟨k, hk, rfl, hh⟩ := hrel
    obtain ⟨hbx, hbw, hs⟩ := full_box hh
    have c0 := cell_of_block hbx 0
    have c1 := cell_of_block hbx 1
    have c2 := cell_of_block hbx 2
    have HX := Lib.hid hbx
    have HW := Lib.hid hbw
    have HH := Lib.hid hh
    clear hbx hbw hh
    by_cases hkN : k < N
    · go_wp2_with fail
      refine (Right_any m _).mono ?_
      rintro e w1 ⟨rfl, hb⟩
      obtain ⟨v, hp, hbv⟩ := HH.out.later (by simp) hb
      have HP := Lib.hid hp
      have HV := Lib.hid hbv
      have hbx := (hb.block _ (by omega)).trans HX.out
      have d0 := cell_of_block hbx 0
      have d1 := cell_of_block hbx 1
      have d2 := cell_of_block hbx 2
      clear hp hbv hbx hb c0 c1 c2
      go_wp2_with fail
      refine (send_any _ _ v (full m k) m _ HP.out (full_len m k)).mono ?_
      rw [full_err, full_succ, hm]
      rintro e w2 ⟨rfl, hs2⟩
      have HH2 := Lib.hid (Holds.sent HP.out HV.out (by simp) hs2)
      clear hs2 d0 d1 d2
      go_wp2
      go_roundw
      case rel => exact ⟨k + 1, by omega, by go_num, HH2.out⟩
      case measure => simp [intOf]; omega
    · obtain rfl : k = N := by omega
      clear hkN
      by_cases h256 : 256 < k
      · go_wp2_with fail
        refine (Right_any m _).mono ?_
        rintro e w1 ⟨rfl, hb⟩
        rw [hm]
        go_wp2_with fail
        refine (awake_any _).mono ?_
        rintro e w2 ⟨rfl, hb2⟩
        go_wp2
        go_ret
        exact ⟨rfl, HW.out.trans ((hb.mono HW.out.size).trans (hb2.mono (by have := HW.out.size; have := hb.size; omega)))⟩
      · go_wp2_with fail
        refine (awake_any _).mono ?_
        rintro e w2 ⟨rfl, hb2⟩
        go_wp2
        go_ret
        exact ⟨rfl, HW.out.trans (hb2.mono HW.out.size)⟩

theorem full_double (B bp : Nat) (v : Value) (m : Msg) (k : Nat) (w : World) (hp : PoolAt w B bp v (full m k)) (hm : okMsg m = true) (hk : 256 < k) :
    Calls Try.prog 11 #[.pointer (some ⟨bp, 0, none⟩), .int .i64 0] w fun e w' => e = .returned (.int .i64 3) ∧ ∃ ms, Sent w w' B bp v ms := by
  have e : full m k = [] ++ m :: List.replicate 255 m := by
    unfold full
    rw [if_pos hm, show min k 256 = 255 + 1 by omega, List.replicate_succ, List.nil_append]
  rw [e] at hp
  have h := double_ok B bp v [] (List.replicate 255 m) m w hp (by rw [List.nil_append, List.length_cons, List.length_replicate]; exact Nat.le_refl _)
  have e2 : sendE ([] ++ m :: List.replicate 255 m) m = 3 := by unfold sendE; rw [if_pos hm, if_pos (by rw [List.nil_append, List.length_cons, List.length_replicate]; exact Nat.le_refl _)]
  rw [e2] at h
  exact h.mono fun e w' ⟨h1, h2⟩ => ⟨h1, _, h2⟩

set_option maxHeartbeats 400000 in
set_option maxRecDepth 100000 in
theorem full_good (m : Msg) (n : Int) (w : World) (hm : okMsg m = true) :
    Calls Try.prog 3 #[m.agg, .int .i64 n] w fun e w' => e = .returned (.bool true) ∧ Below w.heap.size w w' := by
  obtain ⟨N, hN, hlt⟩ := full_mod n
  have HN := Lib.hid hN
  clear hN
  have HH0 := Lib.hid (full_start m w)
  unfold Msg.agg
  go_enter Try.func3, Try.ntmps3
  go_wp2_with (go_at_call 8; refine (new_any _).mono ?_; rintro e w1 ⟨rfl, rfl⟩)
  rw [HN.out]
  go_loopw [6] (fun i wr => ∃ k : Nat, k ≤ N ∧ i = .int .i64 k ∧ Holds (w.heap.size + 1) (w.alloc (.cells #[.int .i64 m.f, .int .i64 m.t, .string m.b] 23)) wr (w.heap.size + 1) (full m k)) (fun i _ => N - (intOf i).toNat)
  case atStart => exact ⟨0, Nat.zero_le _, rfl, HH0.out⟩
  case round =>
    obtain ⟨k, hk, rfl, hh⟩ := hrel
    obtain ⟨hbx, hbw, hs⟩ := full_box hh
    have c0 := cell_of_block hbx 0
    have c1 := cell_of_block hbx 1
    have c2 := cell_of_block hbx 2
    have HX := Lib.hid hbx
    have HW := Lib.hid hbw
    have HH := Lib.hid hh
    clear hbx hbw hh
    by_cases hkN : k < N
    · by_cases hk2 : 256 ≤ k
      all_goals
        go_wp2_with fail
        refine (Right_any m _).mono ?_
        rintro e w1 ⟨rfl, hb⟩
        obtain ⟨v, hp, hbv⟩ := HH.out.later (by simp) hb
        have HP := Lib.hid hp
        have HV := Lib.hid hbv
        have hbx := (hb.block _ (by omega)).trans HX.out
        have d0 := cell_of_block hbx 0
        have d1 := cell_of_block hbx 1
        have d2 := cell_of_block hbx 2
        clear hp hbv hbx hb c0 c1 c2
        rw [hm]
        go_wp2_with fail
        refine (send_any _ _ v (full m k) m _ HP.out (full_len m k)).mono ?_
        rw [full_err, full_succ, hm, if_pos rfl]
        first | rw [if_pos hk2] | rw [if_neg hk2]
        rintro e w2 ⟨rfl, hs2⟩
        have HH2 := Lib.hid (Holds.sent HP.out HV.out (by simp) hs2)
        clear hs2 d0 d1 d2
        go_wp2
        go_roundw
        case rel => exact ⟨k + 1, by omega, by go_num, HH2.out⟩
        case measure => simp [intOf]; omega
    · obtain rfl : k = N := by omega
      clear hkN
      by_cases h256 : 256 < k
      · go_wp2_with fail
        refine (Right_any m _).mono ?_
        rintro e w1 ⟨rfl, hb⟩
        obtain ⟨v, hp, hbv⟩ := HH.out.later (by simp) hb
        have HP := Lib.hid hp
        have HV := Lib.hid hbv
        clear hp hbv
        rw [hm]
        go_wp2_with fail
        refine (full_double _ _ v m k _ HP.out hm h256).mono ?_
        rintro e w2 ⟨rfl, ms, hs2⟩
        have HH2 := Lib.hid (Holds.sent HP.out HV.out (by simp) hs2)
        clear hs2
        go_wp2_with fail
        refine (awake_any _).mono ?_
        rintro e w3 ⟨rfl, hb3⟩
        go_wp2
        go_ret
        obtain ⟨_, hb4, _⟩ := full_box HH2.out
        exact ⟨rfl, hb4.trans (hb3.mono hb4.size)⟩
      · go_wp2_with fail
        refine (awake_any _).mono ?_
        rintro e w2 ⟨rfl, hb2⟩
        go_wp2
        go_ret
        exact ⟨rfl, HW.out.trans (hb2.mono HW.out.size)⟩

theorem full_walk (m : Msg) (n : Int) (w : World) :
    Calls Try.prog 3 #[m.agg, .int .i64 n] w fun e w' => e = .returned (.bool true) ∧ Below w.heap.size w w' := by
  cases hm : okMsg m with
  | false => exact full_bad m n w hm
  | true => exact full_good m n w hm

end Go.Proofs.Ytmgjjedhlnlmpaa
