/- The pool's Count. -/
import Derived.Test.YtmgjjedhlnlmpaaG
namespace Go.Proofs.Ytmgjjedhlnlmpaa
open Go.RowKit

theorem pcount_nil (t : Int) (w : World) : Calls Try.prog 20 #[.pointer none, .int .i64 t] w fun e w' => e = .returned (.int .i64 0) ∧ Below w.heap.size w w' := by
  go_enter Try.func20, Try.ntmps20
  go_wp2_with (go_at_call 17; refine (all_nil _).mono ?_; rintro e w1 ⟨rfl, rfl⟩)
  go_loop [5, 11] (fun n i => i = .int .i64 0 ∧ n = .int .i64 0) (fun _ _ => 0)
  case atStart => exact ⟨rfl, rfl⟩
  case round =>
    obtain ⟨rfl, rfl⟩ := hrel
    go_wp2
    go_ret
    exact ⟨rfl, Below.refl _ _⟩

theorem below_cells {w wr : World} {ms : List Msg} {g : Nat} (hg : g < w.heap.size) (hb : Below w.heap.size w wr) {k : Nat} {hk : k < ms.length}
    (h : w.cell? ⟨g, k * 3, none⟩ = some (.int .i64 ms[k].f) ∧ w.cell? ⟨g, k * 3 + 1, none⟩ = some (.int .i64 ms[k].t) ∧ w.cell? ⟨g, k * 3 + 2, none⟩ = some (.string ms[k].b)) :
    wr.cell? ⟨g, k * 3, none⟩ = some (.int .i64 ms[k].f) ∧ wr.cell? ⟨g, k * 3 + 1, none⟩ = some (.int .i64 ms[k].t) ∧ wr.cell? ⟨g, k * 3 + 2, none⟩ = some (.string ms[k].b) :=
  ⟨(hb.cell (p := ⟨g, k * 3, none⟩) hg).trans h.1, (hb.cell (p := ⟨g, k * 3 + 1, none⟩) hg).trans h.2.1, (hb.cell (p := ⟨g, k * 3 + 2, none⟩) hg).trans h.2.2⟩

set_option maxHeartbeats 400000 in
theorem pcount_any (B bp : Nat) (v : Value) (ms : List Msg) (t : Int) (w : World) (hp : PoolAt w B bp v ms) (hl : ms.length ≤ 256) :
    Calls Try.prog 20 #[.pointer (some ⟨bp, 0, none⟩), .int .i64 t] w fun e w' => e = .returned (.int .i64 (countT t ms)) ∧ Below w.heap.size w w' := by
  have HP := Lib.hid hp
  clear hp
  by_cases h0 : ms.length = 0
  · obtain rfl : ms = [] := List.eq_nil_of_length_eq_zero h0
    clear h0
    go_enter Try.func20, Try.ntmps20
    go_wp2_with (go_at_call 17; refine (all_any B bp v [] _ HP.out (by simp)).mono ?_; rintro e w1 ⟨u, rfl, ho, hb⟩; obtain ⟨ao, cap, rfl, _⟩ := own_form ho; clear ho)
    go_loop [5, 11] (fun n i => i = .int .i64 0 ∧ n = .int .i64 0) (fun _ _ => 0)
    case atStart => exact ⟨rfl, rfl⟩
    case round =>
      obtain ⟨rfl, rfl⟩ := hrel
      go_wp2
      go_ret
      exact ⟨rfl, hb⟩
  · go_enter Try.func20, Try.ntmps20
    go_wp2_with (go_at_call 17; refine (all_any B bp v ms _ HP.out hl).mono ?_; rintro e w1 ⟨u, rfl, ho, hb⟩; obtain ⟨g, cap, rfl, _, hg⟩ := ho.form (by omega); have HC := Lib.hid (cells_at ho); have hle : ms.length ≤ cap := (by obtain ⟨_, _, hv, h, _⟩ := own_form ho; cases hv; exact h); clear ho)
    go_loopw [5, 11] (fun n i wr => ∃ k : Nat, k ≤ ms.length ∧ i = .int .i64 k ∧ n = .int .i64 (countT t (ms.take k)) ∧ Below w1.heap.size w1 wr) (fun _ i _ => ms.length - (intOf i).toNat)
    case atStart => exact ⟨0, Nat.zero_le _, rfl, rfl, Below.refl _ _⟩
    case round =>
      obtain ⟨k, hk, rfl, rfl, hbr⟩ := hrel
      by_cases hlt : k < ms.length
      · obtain ⟨c0, c1, c2⟩ := below_cells hg hbr (HC.out k hlt)
        have hgr : g < wr.heap.size := Nat.lt_of_lt_of_le hg hbr.size
        have hcl := countT_le t ms k
        by_cases h : ms[k].t = t
        · have hb : (ms[k].t == t) = true := by simpa using h
          have H := Lib.hid h
          clear h
          go_wp2
          go_roundw
          case rel => exact ⟨k + 1, by omega, by go_num, by rw [countT_hit t ms k hlt H.out]; go_num, hbr.alloc hbr.size _⟩
          case measure => simp [intOf]; omega
        · have hb : (ms[k].t == t) = false := by simpa using h
          have H := Lib.hid h
          clear h
          go_wp2
          go_roundw
          case rel => exact ⟨k + 1, by omega, by go_num, by rw [countT_miss t ms k hlt H.out], hbr.alloc hbr.size _⟩
          case measure => simp [intOf]; omega
      · obtain rfl : k = ms.length := by omega
        go_wp2
        go_ret
        exact ⟨ret_nat (by rw [List.take_length]), hb.trans (hbr.mono hb.size)⟩

end Go.Proofs.Ytmgjjedhlnlmpaa
