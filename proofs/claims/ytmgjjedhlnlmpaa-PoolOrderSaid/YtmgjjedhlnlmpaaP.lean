/- The walk of the law PoolOrder. -/
import Derived.Test.YtmgjjedhlnlmpaaN
import Derived.Deep.RegionHeld3
namespace Go.Proofs.Ytmgjjedhlnlmpaa
open Go.RowKit

/-- The messages of the first n texts. -/
def msgs (S : Nat → ByteArray) (n : Nat) : List Msg := (List.range n).map fun j => ⟨-1, 0, S j⟩

theorem msgs_len (S : Nat → ByteArray) (n : Nat) : (msgs S n).length = n := by simp [msgs]
theorem msgs_succ (S : Nat → ByteArray) (k : Nat) : msgs S k ++ [⟨-1, 0, S k⟩] = msgs S (k + 1) := by simp [msgs, List.range_succ]
theorem msgs_drop (S : Nat → ByteArray) (n k : Nat) (h : k < n) : (msgs S n).drop k = [] ++ ⟨-1, 0, S k⟩ :: (msgs S n).drop (k + 1) := by
  rw [List.drop_eq_getElem_cons (by rw [msgs_len]; exact h)]
  simp [msgs]
theorem okShort (s : ByteArray) (h : s.size ≤ 65536) : okMsg ⟨-1, 0, s⟩ = true := by simp [okMsg, h]

theorem take_first (B bp : Nat) (v : Value) (S : Nat → ByteArray) (n k : Nat) (w : World) (hp : PoolAt w B bp v ((msgs S n).drop k)) (h : k < n) :
    Calls Try.prog 14 #[.pointer (some ⟨bp, 0, none⟩), .int .i64 0] w fun e w' => e = .returned (.tuple #[.agg #[.int .i64 (-1), .int .i64 0, .string (S k)], .int .i64 0]) ∧ Sent w w' B bp v ((msgs S n).drop (k + 1)) := by
  rw [msgs_drop S n k h] at hp
  exact take_ok B bp v [] _ _ w hp

theorem Holds.cells {w wr : World} {B bp : Nat} {ms : List Msg} (hB : B = w.heap.size) (h : Holds B w wr bp ms) : Below w.heap.size w wr := by
  obtain ⟨_, _, hb⟩ := h
  rw [hB] at hb
  exact hb

theorem order_zero (ao : Option Addr) (cap : Nat) (w : World) :
    Calls Try.prog 4 #[.slice ao 0 cap] w fun e w' => e = .returned (.bool true) ∧ Below w.heap.size w w' := by
  have HH0 := Lib.hid (Holds.new w)
  go_enter Try.func4, Try.ntmps4
  go_wp2_with (go_at_call 8; refine (new_any _).mono ?_; rintro e w1 ⟨rfl, rfl⟩)
  go_loop [4] (fun i => i = .int .i64 0) (fun _ => 0)
  case atStart => rfl
  case round =>
    obtain rfl := hrel
    go_wp2
    go_loop [5] (fun i => i = .int .i64 0) (fun _ => 0)
    case atStart => rfl
    case round =>
      obtain rfl := hrel
      obtain ⟨v, hp, hbv⟩ := HH0.out
      have HP := Lib.hid hp
      have HV := Lib.hid hbv
      clear hp hbv
      go_wp2_with fail
      refine (take_bad _ _ v [] _ _ HP.out (by simp)).mono ?_
      rintro e w1 ⟨rfl, hb⟩
      have hp1 := HP.out.below (hb.trans ((below_alloc w1 (.cells #[.int .i64 0, .int .i64 0, .string ⟨#[]⟩] 23)).mono hb.size))
      have HP1 := Lib.hid hp1
      have HB := Lib.hid hb
      clear hp1 hb
      unfold Msg.agg Msg.zero
      go_wp2_with fail
      refine (len_any _ _ _ _ _ HP1.out).mono ?_
      rintro e w2 ⟨rfl, rfl⟩
      go_wp2_with fail
      refine (awake_any _).mono ?_
      rintro e w3 ⟨rfl, hb3⟩
      go_wp2
      go_ret
      have q : Below w.heap.size w w1 := (below_alloc _ _).trans (HB.out.mono (by simp))
      exact ⟨rfl, below_then (below_then q (below_alloc _ _)) hb3⟩

set_option maxHeartbeats 800000 in
theorem order_short (b off n cap : Nat) (S : Nat → ByteArray) (w : World) (hn : n ≤ 200) (hcap : n ≤ cap) (hcm : cap ≤ 9223372036854775807) (hb : b < w.heap.size) (hc : ∀ i, i < n → w.cell? ⟨b, off + i, none⟩ = some (.string (S i))) :
    Calls Try.prog 4 #[.slice (some ⟨b, off, none⟩) n cap] w fun e w' => e = .returned (.bool true) ∧ Below w.heap.size w w' := by
  have HH0 := Lib.hid (Holds.new w)
  have HC := Lib.hid hc
  clear hc
  go_enter Try.func4, Try.ntmps4
  go_wp2_with (go_at_call 8; refine (new_any _).mono ?_; rintro e w1 ⟨rfl, rfl⟩)
  go_loopw [4] (fun i wr => ∃ k : Nat, k ≤ n ∧ i = .int .i64 k ∧ Holds w.heap.size w wr w.heap.size (msgs S k)) (fun i _ => n - (intOf i).toNat)
  case atStart => exact ⟨0, Nat.zero_le _, rfl, HH0.out⟩
  case round =>
    obtain ⟨k, hk, rfl, hh⟩ := hrel
    have HH := Lib.hid hh
    have HB := Lib.hid (hh.cells rfl)
    clear hh
    by_cases hkn : k < n
    · have c0 := (HB.out.cell (p := ⟨b, off + k, none⟩) hb).trans (HC.out k (by omega))
      by_cases hs : (S k).size ≤ 65536
      · go_wp2_with fail
        refine (message_any _ _).mono ?_
        rintro e w1 ⟨rfl, hbm⟩
        obtain ⟨v, hp, hbv⟩ := HH.out.later (Nat.le_refl _) hbm
        have HP := Lib.hid hp
        have HV := Lib.hid hbv
        clear hp hbv hbm c0
        go_wp2_with fail
        refine (send_ok _ _ v _ _ _ HP.out (okShort _ hs) (by rw [msgs_len]; omega)).mono ?_
        rw [msgs_succ]
        rintro e w2 ⟨rfl, hs2⟩
        have HH2 := Lib.hid (Holds.sent HP.out HV.out (Nat.le_refl _) hs2)
        clear hs2 HP HV
        go_wp2
        go_roundw
        case rel => exact ⟨k + 1, by omega, by go_num, HH2.out⟩
        case measure => simp [intOf]; omega
      · go_wp2_with fail
        refine (awake_any _).mono ?_
        rintro e w1 ⟨rfl, hb1⟩
        go_wp2
        go_ret
        exact ⟨rfl, below_then HB.out hb1⟩
    · obtain rfl : n = k := by omega
      go_wp2_with fail
      go_loopw [5] (fun i wx => ∃ j : Nat, j ≤ n ∧ i = .int .i64 j ∧ Holds w.heap.size w wx w.heap.size ((msgs S n).drop j)) (fun i _ => n - (intOf i).toNat)
      case atStart => exact ⟨0, Nat.zero_le _, rfl, HH.out⟩
      case round =>
        obtain ⟨j, hj, rfl, hh⟩ := hrel
        obtain ⟨v, hp, hbv⟩ := hh
        have HP := Lib.hid hp
        have HV := Lib.hid hbv
        clear hp hbv
        by_cases hjn : j < n
        · go_wp2_with fail
          refine (take_first _ _ v S n j _ HP.out hjn).mono ?_
          rintro e w1 ⟨rfl, hs1⟩
          have HS := Lib.hid (Holds.sent HP.out HV.out (Nat.le_refl _) hs1)
          clear hs1
          have c0 := ((HS.out.cells rfl).cell (p := ⟨b, off + j, none⟩) hb).trans (HC.out j (by omega))
          have hbw : b < w1.heap.size := Nat.lt_of_lt_of_le hb (HS.out.cells rfl).size
          have hq := neqMsg
          have hg := guardMsg
          have hr := beqMsg_refl ⟨-1, 0, S j⟩
          have i0 : (0 : Int) ≤ (j : Int) := by omega
          have i1 : (j : Int) < (n : Int) := by omega
          have hx : b ≠ w1.heap.size := by omega
          go_wp2_with fail
          go_region_held3 (fun w' => w'.cell? ⟨b, off + j, none⟩ = some (.string (S j)) ∧ w'.cell? ⟨w1.heap.size, 0, none⟩ = some (.int .i64 (-1)) ∧ w'.cell? ⟨w1.heap.size, 1, none⟩ = some (.int .i64 0) ∧ w'.cell? ⟨w1.heap.size, 2, none⟩ = some (.string (S j)))
            (first | go_keep | (go_split_ands; refine ⟨?_, ?_, ?_, ?_⟩ <;> (rw [hb3.cell (by first | (simp; done) | (simp; omega))]; assumption)))
            ((go_at_call 13; refine (message_any _ _).mono ?_; rintro e w3 ⟨rfl, hb3⟩; have HB3 := Lib.hid hb3; unfold Msg.agg))
          all_goals
            have HF := Lib.hid (HS.out.later (Nat.le_refl _) (below_then (below_alloc w1 _).drew HB3.out))
            go_wp2
            go_roundw
            case rel => exact ⟨j + 1, by omega, by go_num, HF.out⟩
            case measure => simp [intOf]; omega
        · obtain rfl : n = j := by omega
          have hnil : (msgs S n).drop n = [] := by rw [List.drop_eq_nil_iff, msgs_len]; exact Nat.le_refl _
          have HN := Lib.hid hnil
          clear hnil
          go_wp2_with fail
          refine (take_bad _ _ v ((msgs S n).drop n) _ _ HP.out (by rw [HN.out]; simp)).mono ?_
          rintro e w1 ⟨rfl, hb1⟩
          have q := below_then hb1 (below_alloc w1 (.cells #[.int .i64 0, .int .i64 0, .string ⟨#[]⟩] 23))
          have HP1 := Lib.hid (HP.out.below q)
          have HQ := Lib.hid (HV.out.trans (q.mono HV.out.size))
          clear q hb1
          unfold Msg.agg Msg.zero
          go_wp2_with fail
          refine (len_any _ _ _ _ _ HP1.out).mono ?_
          rw [HN.out]
          rintro e w2 ⟨rfl, rfl⟩
          go_wp2_with fail
          refine (awake_any _).mono ?_
          rintro e w3 ⟨rfl, hb3⟩
          have HR := Lib.hid (below_then HQ.out hb3)
          go_wp2
          go_ret
          exact ⟨rfl, HR.out⟩

set_option maxHeartbeats 800000 in
set_option maxRecDepth 100000 in
theorem order_long (b off n cap : Nat) (S : Nat → ByteArray) (w : World) (hn : 200 < n) (hcap : n ≤ cap) (hcm : cap ≤ 9223372036854775807) (hb : b < w.heap.size) (hc : ∀ i, i < n → w.cell? ⟨b, off + i, none⟩ = some (.string (S i))) :
    Calls Try.prog 4 #[.slice (some ⟨b, off, none⟩) n cap] w fun e w' => e = .returned (.bool true) ∧ Below w.heap.size w w' := by
  have hd : decide ((200 : Int) < (n : Int)) = true := by simp; omega
  have HH0 := Lib.hid (Holds.new w)
  have HC := Lib.hid hc
  clear hc
  go_enter Try.func4, Try.ntmps4
  go_wp2_with (go_at_call 8; refine (new_any _).mono ?_; rintro e w1 ⟨rfl, rfl⟩)
  generalize hN : (200 : Nat) = N
  have hn1 : N < n := by omega
  have hn2 : N ≤ 200 := by omega
  clear hN
  go_loopw [4] (fun i wr => ∃ k : Nat, k ≤ N ∧ i = .int .i64 k ∧ Holds w.heap.size w wr w.heap.size (msgs S k)) (fun i _ => N - (intOf i).toNat)
  case atStart => exact ⟨0, Nat.zero_le _, rfl, HH0.out⟩
  case round =>
    obtain ⟨k, hk, rfl, hh⟩ := hrel
    have HH := Lib.hid hh
    have HB := Lib.hid (hh.cells rfl)
    clear hh
    by_cases hkn : k < N
    · have c0 := (HB.out.cell (p := ⟨b, off + k, none⟩) hb).trans (HC.out k (by omega))
      by_cases hs : (S k).size ≤ 65536
      · go_wp2_with fail
        refine (message_any _ _).mono ?_
        rintro e w1 ⟨rfl, hbm⟩
        obtain ⟨v, hp, hbv⟩ := HH.out.later (Nat.le_refl _) hbm
        have HP := Lib.hid hp
        have HV := Lib.hid hbv
        clear hp hbv hbm c0
        go_wp2_with fail
        refine (send_ok _ _ v _ _ _ HP.out (okShort _ hs) (by rw [msgs_len]; omega)).mono ?_
        rw [msgs_succ]
        rintro e w2 ⟨rfl, hs2⟩
        have HH2 := Lib.hid (Holds.sent HP.out HV.out (Nat.le_refl _) hs2)
        clear hs2 HP HV
        go_wp2
        go_roundw
        case rel => exact ⟨k + 1, by omega, by go_num, HH2.out⟩
        case measure => simp [intOf]; omega
      · go_wp2_with fail
        refine (awake_any _).mono ?_
        rintro e w1 ⟨rfl, hb1⟩
        go_wp2
        go_ret
        exact ⟨rfl, below_then HB.out hb1⟩
    · obtain rfl : N = k := by omega
      go_wp2_with fail
      go_loopw [5] (fun i wx => ∃ j : Nat, j ≤ N ∧ i = .int .i64 j ∧ Holds w.heap.size w wx w.heap.size ((msgs S N).drop j)) (fun i _ => N - (intOf i).toNat)
      case atStart => exact ⟨0, Nat.zero_le _, rfl, HH.out⟩
      case round =>
        obtain ⟨j, hj, rfl, hh⟩ := hrel
        obtain ⟨v, hp, hbv⟩ := hh
        have HP := Lib.hid hp
        have HV := Lib.hid hbv
        clear hp hbv
        by_cases hjn : j < N
        · go_wp2_with fail
          refine (take_first _ _ v S N j _ HP.out hjn).mono ?_
          rintro e w1 ⟨rfl, hs1⟩
          have HS := Lib.hid (Holds.sent HP.out HV.out (Nat.le_refl _) hs1)
          clear hs1
          have c0 := ((HS.out.cells rfl).cell (p := ⟨b, off + j, none⟩) hb).trans (HC.out j (by omega))
          have hbw : b < w1.heap.size := Nat.lt_of_lt_of_le hb (HS.out.cells rfl).size
          have hq := neqMsg
          have hg := guardMsg
          have hr := beqMsg_refl ⟨-1, 0, S j⟩
          have i0 : (0 : Int) ≤ (j : Int) := by omega
          have i1 : (j : Int) < (N : Int) := by omega
          have hx : b ≠ w1.heap.size := by omega
          go_wp2_with fail
          go_region_held3 (fun w' => w'.cell? ⟨b, off + j, none⟩ = some (.string (S j)) ∧ w'.cell? ⟨w1.heap.size, 0, none⟩ = some (.int .i64 (-1)) ∧ w'.cell? ⟨w1.heap.size, 1, none⟩ = some (.int .i64 0) ∧ w'.cell? ⟨w1.heap.size, 2, none⟩ = some (.string (S j)))
            (first | go_keep | (go_split_ands; refine ⟨?_, ?_, ?_, ?_⟩ <;> (rw [hb3.cell (by first | (simp; done) | (simp; omega))]; assumption)))
            ((go_at_call 13; refine (message_any _ _).mono ?_; rintro e w3 ⟨rfl, hb3⟩; have HB3 := Lib.hid hb3; unfold Msg.agg))
          all_goals
            have HF := Lib.hid (HS.out.later (Nat.le_refl _) (below_then (below_alloc w1 _).drew HB3.out))
            go_wp2
            go_roundw
            case rel => exact ⟨j + 1, by omega, by go_num, HF.out⟩
            case measure => simp [intOf]; omega
        · obtain rfl : N = j := by omega
          have hnil : (msgs S N).drop N = [] := by rw [List.drop_eq_nil_iff, msgs_len]; exact Nat.le_refl _
          have HN := Lib.hid hnil
          clear hnil
          go_wp2_with fail
          refine (take_bad _ _ v ((msgs S N).drop N) _ _ HP.out (by rw [HN.out]; simp)).mono ?_
          rintro e w1 ⟨rfl, hb1⟩
          have q := below_then hb1 (below_alloc w1 (.cells #[.int .i64 0, .int .i64 0, .string ⟨#[]⟩] 23))
          have HP1 := Lib.hid (HP.out.below q)
          have HQ := Lib.hid (HV.out.trans (q.mono HV.out.size))
          clear q hb1
          unfold Msg.agg Msg.zero
          go_wp2_with fail
          refine (len_any _ _ _ _ _ HP1.out).mono ?_
          rw [HN.out]
          rintro e w2 ⟨rfl, rfl⟩
          go_wp2_with fail
          refine (awake_any _).mono ?_
          rintro e w3 ⟨rfl, hb3⟩
          have HR := Lib.hid (below_then HQ.out hb3)
          go_wp2
          go_ret
          exact ⟨rfl, HR.out⟩

end Go.Proofs.Ytmgjjedhlnlmpaa
