/- Take, Drop, Double, Len of the pool. -/
import Derived.Test.YtmgjjedhlnlmpaaC
namespace Go.Proofs.Ytmgjjedhlnlmpaa
open Go.RowKit

def Msg.zero : Msg := ⟨0, 0, ⟨#[]⟩⟩

theorem below_alloc (w : World) (o : Obj) : Below w.heap.size w (w.alloc o) := (Below.refl _ _).alloc (Nat.le_refl _) _

theorem take_nil (i : Int) (w : World) : Calls Try.prog 14 #[.pointer none, .int .i64 i] w fun e w' => e = .returned (.tuple #[Msg.zero.agg, .int .i64 7]) ∧ Below w.heap.size w w' := by
  unfold Msg.agg Msg.zero
  go_enter Try.func14, Try.ntmps14
  go_wp2_with (go_at_call 24; refine (at_nil _ _).mono ?_; rintro e w1 ⟨rfl, rfl⟩)
  exact bodyPost_ret (v := .tuple #[.agg #[.int .i64 0, .int .i64 0, .string ⟨#[]⟩], .int .i64 7]) (by simp [results, Try.results14, go_sem]) rfl ⟨rfl, below_alloc _ _⟩

theorem take_bad (B bp : Nat) (v : Value) (ms : List Msg) (i : Int) (w : World) (hp : PoolAt w B bp v ms) (hi : i < 0 ∨ (ms.length : Int) ≤ i) :
    Calls Try.prog 14 #[.pointer (some ⟨bp, 0, none⟩), .int .i64 i] w fun e w' => e = .returned (.tuple #[Msg.zero.agg, .int .i64 4]) ∧ Below w.heap.size w w' := by
  have h4 : atE ms.length i = 4 := by unfold atE; rw [if_pos hi]
  have HP := Lib.hid hp
  have H4 := Lib.hid h4
  clear hp h4 hi
  unfold Msg.agg Msg.zero
  go_enter Try.func14, Try.ntmps14
  go_wp2_with (go_at_call 24; refine (at_any B bp v ms _ _ (HP.out.below (below_alloc _ _))).mono ?_; rintro e w1 ⟨rfl, rfl⟩; rw [H4.out])
  exact bodyPost_ret (v := .tuple #[.agg #[.int .i64 0, .int .i64 0, .string ⟨#[]⟩], .int .i64 4]) (by simp [results, Try.results14, go_sem]) rfl ⟨rfl, below_alloc _ _⟩

/-- What Sent says goes on from ahead of a new block. -/
theorem Sent.of_alloc {w w' : World} {o : Obj} {B bp : Nat} {v : Value} {ms : List Msg} (h : Sent (w.alloc o) w' B bp v ms) : Sent w w' B bp v ms := by
  obtain ⟨v', h1, h2, h3⟩ := h
  refine ⟨v', h1, ?_, ⟨h3.os, h3.tape, h3.output, by have := h3.size; simp at this; omega, fun k hk a b => (h3.block k (by simp; omega) a b).trans (Below.heap_alloc w o k hk)⟩⟩
  rcases h2 with h2 | h2
  · exact .inl h2
  · exact .inr fun g hg => by have := h2 g hg; simp at this; omega

/-- The new block itself is as it was laid; and stores into it turn nothing of the pool. -/
theorem Sent.fresh {w w' : World} {o : Obj} {B bp : Nat} {v : Value} {ms ms0 : List Msg} (h : Sent (w.alloc o) w' B bp v ms) (hp : PoolAt w B bp v ms0) :
    w'.heap[w.heap.size]? = some o ∧ w.heap.size < w'.heap.size ∧ ∀ u0 u1 u2 : Value, Sent w (((w'.setCell ⟨w.heap.size, 0, none⟩ u0).setCell ⟨w.heap.size, 1, none⟩ u1).setCell ⟨w.heap.size, 2, none⟩ u2) B bp v ms := by
  have hlt := hp.lt
  have hov : some w.heap.size ≠ v.ownBlock := Ne.symm (apart_new hp)
  obtain ⟨v', h1, h2, h3⟩ := id h
  refine ⟨(h3.block _ (by simp) (by omega) hov).trans (heap_alloc_new w o), by have := h3.size; simp at this; omega, fun u0 u1 u2 => ?_⟩
  have hv' : v'.ownBlock ≠ some w.heap.size := by
    rcases h2 with h2 | h2
    · rw [h2]; exact Ne.symm hov
    · intro e
      have := h2 _ e
      simp at this
      omega
  obtain ⟨v'', k1, k2, k3⟩ := h.of_alloc
  refine ⟨v', ⟨?_, ?_, h1.le⟩, ?_, ((k3.setCell (.inr (Nat.le_refl _)) _).setCell (.inr (Nat.le_refl _)) _).setCell (.inr (Nat.le_refl _)) _⟩
  · rw [Below.heap_setCell _ _ _ _ (by simp; omega), Below.heap_setCell _ _ _ _ (by simp; omega), Below.heap_setCell _ _ _ _ (by simp; omega)]
    exact h1.box
  · exact ownsRow_setCell_other (ownsRow_setCell_other (ownsRow_setCell_other h1.own hv' _) hv' _) hv' _
  · rcases h2 with h2 | h2
    · exact .inl h2
    · exact .inr fun g hg => by have := h2 g hg; simp at this; omega

theorem take_ok (B bp : Nat) (v : Value) (a b : List Msg) (m : Msg) (w : World) (hp : PoolAt w B bp v (a ++ m :: b)) :
    Calls Try.prog 14 #[.pointer (some ⟨bp, 0, none⟩), .int .i64 a.length] w fun e w' => e = .returned (.tuple #[m.agg, .int .i64 0]) ∧ Sent w w' B bp v (a ++ b) := by
  have h4 : atE (a ++ m :: b).length a.length = 0 := by unfold atE; rw [if_neg (by simp; omega)]
  have HP := Lib.hid hp
  have H4 := Lib.hid h4
  clear hp h4
  unfold Msg.agg
  go_enter Try.func14, Try.ntmps14
  go_wp2_with (first | (go_at_call 24; refine (at_any B bp v (a ++ m :: b) _ _ (HP.out.below (below_alloc _ _))).mono ?_; rintro e w1 ⟨rfl, rfl⟩; rw [H4.out]) | (go_at_call 25; refine (out_any B bp v a b m _ (HP.out.below (below_alloc _ _))).mono ?_; rintro e w1 ⟨rfl, hs⟩; obtain ⟨hz, hl, HS⟩ := hs.fresh HP.out; have HS' := Lib.hid HS; clear hs HS; have z0 := cell_of_block hz 0; have z1 := cell_of_block hz 1; have z2 := cell_of_block hz 2; have f0 := frozen_of_block hz 0; have f1 := frozen_of_block hz 1; have f2 := frozen_of_block hz 2; clear hz; unfold Msg.agg))
  exact bodyPost_ret (v := .tuple #[.agg #[.int .i64 m.f, .int .i64 m.t, .string m.b], .int .i64 0]) (by simp [results, Try.results14, go_sem, z0, z1, z2]) rfl ⟨rfl, HS'.out _ _ _⟩

theorem Sent.alloc {w w' : World} {B bp : Nat} {v : Value} {ms : List Msg} (h : Sent w w' B bp v ms) (o : Obj) : Sent w (w'.alloc o) B bp v ms := by
  obtain ⟨v', h1, h2, h3⟩ := h
  exact ⟨v', h1.below (below_alloc _ _), h2, h3.alloc o⟩

theorem drop_nil (i : Int) (w : World) : Calls Try.prog 22 #[.pointer none, .int .i64 i] w fun e w' => e = .returned (.int .i64 7) ∧ Below w.heap.size w w' := by
  go_enter Try.func22, Try.ntmps22
  go_wp2_with (go_at_call 14; refine (take_nil _ _).mono ?_; rintro e w1 ⟨rfl, hb⟩; unfold Msg.agg Msg.zero)
  go_ret
  exact ⟨rfl, hb.trans ((below_alloc _ _).mono hb.size)⟩

theorem drop_bad (B bp : Nat) (v : Value) (ms : List Msg) (i : Int) (w : World) (hp : PoolAt w B bp v ms) (hi : i < 0 ∨ (ms.length : Int) ≤ i) :
    Calls Try.prog 22 #[.pointer (some ⟨bp, 0, none⟩), .int .i64 i] w fun e w' => e = .returned (.int .i64 4) ∧ Below w.heap.size w w' := by
  have HP := Lib.hid hp
  have HI := Lib.hid hi
  clear hp hi
  go_enter Try.func22, Try.ntmps22
  go_wp2_with (go_at_call 14; refine (take_bad B bp v ms _ _ HP.out HI.out).mono ?_; rintro e w1 ⟨rfl, hb⟩; unfold Msg.agg Msg.zero)
  go_ret
  exact ⟨rfl, hb.trans ((below_alloc _ _).mono hb.size)⟩

theorem drop_ok (B bp : Nat) (v : Value) (a b : List Msg) (m : Msg) (w : World) (hp : PoolAt w B bp v (a ++ m :: b)) :
    Calls Try.prog 22 #[.pointer (some ⟨bp, 0, none⟩), .int .i64 a.length] w fun e w' => e = .returned (.int .i64 0) ∧ Sent w w' B bp v (a ++ b) := by
  have HP := Lib.hid hp
  clear hp
  go_enter Try.func22, Try.ntmps22
  go_wp2_with (go_at_call 14; refine (take_ok B bp v a b m _ HP.out).mono ?_; rintro e w1 ⟨rfl, hs⟩; have HS := Lib.hid hs; clear hs; unfold Msg.agg)
  go_ret
  exact ⟨rfl, HS.out.alloc _⟩

theorem double_nil (i : Int) (w : World) : Calls Try.prog 11 #[.pointer none, .int .i64 i] w fun e w' => e = .returned (.int .i64 7) ∧ w = w' := by
  go_enter Try.func11, Try.ntmps11
  go_wp2_with (go_at_call 24; refine (at_nil _ _).mono ?_; rintro e w1 ⟨rfl, rfl⟩)
  go_ret
  exact ⟨rfl, rfl⟩

theorem double_bad (B bp : Nat) (v : Value) (ms : List Msg) (i : Int) (w : World) (hp : PoolAt w B bp v ms) (hi : i < 0 ∨ (ms.length : Int) ≤ i) :
    Calls Try.prog 11 #[.pointer (some ⟨bp, 0, none⟩), .int .i64 i] w fun e w' => e = .returned (.int .i64 4) ∧ w = w' := by
  have h4 : atE ms.length i = 4 := by unfold atE; rw [if_pos hi]
  have HP := Lib.hid hp
  have H4 := Lib.hid h4
  clear hp h4 hi
  go_enter Try.func11, Try.ntmps11
  go_wp2_with (go_at_call 24; refine (at_any B bp v ms _ _ HP.out).mono ?_; rintro e w1 ⟨rfl, rfl⟩; rw [H4.out])
  go_ret
  exact ⟨rfl, rfl⟩

theorem double_ok (B bp : Nat) (v : Value) (a b : List Msg) (m : Msg) (w : World) (hp : PoolAt w B bp v (a ++ m :: b)) (hl : (a ++ m :: b).length ≤ 256) :
    Calls Try.prog 11 #[.pointer (some ⟨bp, 0, none⟩), .int .i64 a.length] w fun e w' => e = .returned (.int .i64 (sendE (a ++ m :: b) m)) ∧ Sent w w' B bp v (sendL (a ++ m :: b) m) := by
  have h4 : atE (a ++ m :: b).length a.length = 0 := by unfold atE; rw [if_neg (by simp; omega)]
  obtain ⟨n, hn⟩ : ∃ n, n = (a ++ m :: b).length := ⟨_, rfl⟩
  have hown := hp.own
  rw [← hn] at hown
  obtain ⟨g, cap, rfl, hBg, hg⟩ := hown.form (by rw [hn]; simp; omega)
  obtain ⟨k0, k1, k2⟩ := cells_mid hown
  have hk : n = a.length + 1 + b.length := by rw [hn]; simp; omega
  have hc := cell_of_block hp.box 0
  have b1 : (0 : Int) ≤ (a.length : Int) := by omega
  have b2 : (a.length : Int) < (n : Int) := by omega
  have HP := Lib.hid hp
  have H4 := Lib.hid h4
  have HL := Lib.hid hl
  clear hp h4 hn hown hk hl
  go_enter Try.func11, Try.ntmps11
  go_wp2_with (first | (go_at_call 24; refine (at_any B bp _ (a ++ m :: b) _ _ HP.out).mono ?_; rintro e w1 ⟨rfl, rfl⟩; rw [H4.out]) | (go_at_call 10; refine (send_any B bp _ (a ++ m :: b) m _ HP.out HL.out).mono ?_; rintro e w1 ⟨rfl, hs⟩; have HS := Lib.hid hs; clear hs))
  go_ret
  exact ⟨rfl, HS.out⟩

theorem len_nil (w : World) : Calls Try.prog 15 #[.pointer none] w fun e w' => e = .returned (.int .i64 0) ∧ w = w' := by
  go_enter Try.func15, Try.ntmps15
  go_wp2
  go_ret
  exact ⟨rfl, rfl⟩

theorem len_any (B bp : Nat) (v : Value) (ms : List Msg) (w : World) (hp : PoolAt w B bp v ms) :
    Calls Try.prog 15 #[.pointer (some ⟨bp, 0, none⟩)] w fun e w' => e = .returned (.int .i64 ms.length) ∧ w = w' := by
  have hc := cell_of_block hp.box 0
  obtain ⟨ao, cap, rfl, _⟩ := own_form hp.own
  clear hp
  go_enter Try.func15, Try.ntmps15
  go_wp2
  go_ret
  exact ⟨rfl, rfl⟩

end Go.Proofs.Ytmgjjedhlnlmpaa
