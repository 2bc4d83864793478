/- The pool in memory, and Send: what the call returns and what the pool then holds. -/
import Derived.Test.YtmgjjedhlnlmpaaA
import Derived.Deep.AppendLies
import Derived.Deep.RegionLaw
import Derived.OneCell
namespace Go.Proofs.Ytmgjjedhlnlmpaa
open Go.RowKit

theorem Try.info23 : (Try.prog.info? 23).map (fun i => (i.zero, i.size, i.bytes)) = some (some (.agg #[.int .i64 0, .int .i64 0, .string ByteArray.empty]), 3, 32) := by kernel_rfl

/-- A pool at block bp holds the messages ms, in the slice v. -/
structure PoolAt (w : World) (B bp : Nat) (v : Value) (ms : List Msg) : Prop where
  box : w.heap[bp]? = some (.cells #[v] 56 (0, 0))
  own : w.ownsRow B 23 3 v ms.length (cells ms)
  le : B ≤ bp

/-- All blocks but bp and ro are as they were. -/
structure Only (bp : Nat) (ro : Option Nat) (w w' : World) : Prop where
  os : w'.os = w.os
  tape : w'.tape = w.tape
  output : w'.output = w.output
  size : w.heap.size ≤ w'.heap.size
  block : ∀ k, k < w.heap.size → k ≠ bp → some k ≠ ro → w'.heap[k]? = w.heap[k]?

def Newer (w : World) (v v' : Value) : Prop := v'.ownBlock = v.ownBlock ∨ ∀ g, v'.ownBlock = some g → w.heap.size ≤ g

def sendE (ms : List Msg) (m : Msg) : Int := if okMsg m then (if ms.length ≥ 256 then 3 else 0) else 2
def sendL (ms : List Msg) (m : Msg) : List Msg := if okMsg m then (if ms.length ≥ 256 then ms else ms ++ [m]) else ms

theorem send_nil (m : Msg) (w : World) : Calls Try.prog 10 #[.pointer none, m.agg] w fun e w' => e = .returned (.int .i64 7) ∧ Below w.heap.size w w' := by
  obtain ⟨f, t, b⟩ := m
  unfold Msg.agg
  go_enter Try.func10, Try.ntmps10
  go_wp2
  go_ret
  exact ⟨rfl, (Below.refl _ _).alloc (Nat.le_refl _) _⟩

theorem cell_of_block {w : World} {g : Nat} {cur : Array Value} {t : TypeId} (h : w.heap[g]? = some (.cells cur t (0, 0))) (o : Nat) : w.cell? ⟨g, o, none⟩ = cur[o]? := by
  simp [World.cell?, h]
theorem frozen_of_block {w : World} {g : Nat} {cur : Array Value} {t : TypeId} (h : w.heap[g]? = some (.cells cur t (0, 0))) (o : Nat) : w.frozen? ⟨g, o, none⟩ = false := by
  simp [World.frozen?, h]

theorem send_bad (bp : Nat) (m : Msg) (w : World) (hm : okMsg m = false) : Calls Try.prog 10 #[.pointer (some ⟨bp, 0, none⟩), m.agg] w fun e w' => e = .returned (.int .i64 2) ∧ Below w.heap.size w w' := by
  obtain ⟨f, t, b⟩ := m
  unfold Msg.agg
  go_enter Try.func10, Try.ntmps10
  go_wp2_with (go_at_call 23; refine (right_any ⟨f, t, b⟩ _).mono ?_; rintro e w1 ⟨rfl, hb1⟩)
  go_ret
  exact ⟨rfl, ((Below.refl _ _).alloc (Nat.le_refl _) _).trans (hb1.mono (by simp))⟩

theorem boxed {w w1 : World} {o : Obj} (hb : Below (w.alloc o).heap.size (w.alloc o) w1) : Below w.heap.size w w1 ∧ w1.heap[w.heap.size]? = some o ∧ w.heap.size < w1.heap.size := by
  refine ⟨((Below.refl _ _).alloc (Nat.le_refl _) _).trans (hb.mono (by simp)), ?_, ?_⟩
  · rw [hb.block _ (by simp)]; exact heap_alloc_new w _
  · have := hb.size; simp at this; omega

theorem PoolAt.lt {w : World} {B bp : Nat} {v : Value} {ms : List Msg} (h : PoolAt w B bp v ms) : bp < w.heap.size := (Array.getElem?_eq_some_iff.1 h.box).1

theorem ownsRow_below {w w1 : World} {base : Nat} {e : TypeId} {size : Nat} {v : Value} {n : Nat} {xs : List Value} (h : w.ownsRow base e size v n xs) (hb : Below w.heap.size w w1) : w1.ownsRow base e size v n xs :=
  h.kept (row := none) ⟨hb.os, hb.tape, hb.output, hb.size, fun k hk _ => hb.block k hk⟩ (by cases hv : v.ownBlock <;> simp)

theorem PoolAt.below {w w1 : World} {B bp : Nat} {v : Value} {ms : List Msg} (h : PoolAt w B bp v ms) (hb : Below w.heap.size w w1) : PoolAt w1 B bp v ms :=
  ⟨(hb.block _ h.lt).trans h.box, ownsRow_below h.own hb, h.le⟩

theorem own_form {w : World} {B : Nat} {v : Value} {n : Nat} {xs : List Value} (h : w.ownsRow B 23 3 v n xs) : ∃ ao cap, v = .slice ao n cap ∧ n ≤ cap ∧ (∀ a, ao = some a → a.block < w.heap.size) := by
  rcases h.2 with ⟨h0, h1⟩ | ⟨g, cap, cur, hv, hb, hg, hn, _⟩
  · subst h1; exact ⟨none, 0, h0, Nat.le_refl _, by intro a h; cases h⟩
  · exact ⟨_, cap, hv, hn, by intro a h; cases h; exact (Array.getElem?_eq_some_iff.1 hg).1⟩

theorem send_full (B bp : Nat) (v : Value) (ms : List Msg) (m : Msg) (w : World) (hp : PoolAt w B bp v ms) (hm : okMsg m = true) (hl : ms.length = 256) :
    Calls Try.prog 10 #[.pointer (some ⟨bp, 0, none⟩), m.agg] w fun e w' => e = .returned (.int .i64 3) ∧ Below w.heap.size w w' := by
  obtain ⟨f, t, b⟩ := m
  obtain ⟨ao, cap, rfl, _⟩ := own_form hp.own
  unfold Msg.agg
  have hbx := hp.box
  have hlt := hp.lt
  rw [hl] at hbx
  clear hp hl
  go_enter Try.func10, Try.ntmps10
  go_wp2_with (go_at_call 23; refine (right_any ⟨f, t, b⟩ _).mono ?_; rintro e w1 ⟨rfl, hb1⟩; have hc := cell_of_block ((hb1.block bp (by simp; omega)).trans ((Below.heap_alloc _ _ _ hlt).trans hbx)) 0; replace hb1 := boxed hb1; clear hbx)
  go_ret
  exact ⟨rfl, hb1.1⟩

def Sent (w w' : World) (B bp : Nat) (v : Value) (ms : List Msg) : Prop := ∃ v', PoolAt w' B bp v' ms ∧ Newer w v v' ∧ Only bp v.ownBlock w w'

theorem own_apart {w : World} {B bp n : Nat} {v u : Value} {xs : List Value} (h : w.ownsRow B 23 3 v n xs) (hb : w.heap[bp]? = some (.cells #[u] 56 (0, 0))) : v.ownBlock ≠ some bp := by
  intro e
  rcases h.2 with ⟨rfl, _⟩ | ⟨g, cap, cur, rfl, _, hg, _⟩
  · simp [Value.ownBlock] at e
  · simp [Value.ownBlock] at e
    subst e
    have := hb.symm.trans hg
    simp at this

theorem PoolAt.apart {w : World} {B bp : Nat} {v : Value} {ms : List Msg} (h : PoolAt w B bp v ms) : v.ownBlock ≠ some bp := own_apart h.own h.box

theorem length_cells (ms : List Msg) : (cells ms).length = ms.length * 3 := by
  unfold cells
  induction ms with
  | nil => rfl
  | cons m r ih => simp [List.flatMap_cons, Msg.vals, ih]; omega

theorem cells_append (a b : List Msg) : cells (a ++ b) = cells a ++ cells b := by simp [cells]

theorem apart_new {w : World} {B bp : Nat} {v : Value} {ms : List Msg} (h : PoolAt w B bp v ms) : v.ownBlock ≠ some w.heap.size := by
  intro e
  have := h.own.lt _ e
  omega

theorem PoolAt.only {w : World} {B bp : Nat} {v : Value} {ms : List Msg} (_h : PoolAt w B bp v ms) {w1 w2 : World} (hB : Below w.heap.size w w1) (hg : Only bp v.ownBlock w1 w2) : Only bp v.ownBlock w w2 :=
  ⟨hg.os.trans hB.os, hg.tape.trans hB.tape, hg.output.trans hB.output, Nat.le_trans hB.size hg.size, fun k hk h1 h2 => (hg.block k (Nat.lt_of_lt_of_le hk hB.size) h1 h2).trans (hB.block k hk)⟩

theorem sent_done {w w1 w2 : World} {o : Obj} {B bp gg cap' : Nat} {v : Value} {ms : List Msg} {m : Msg} (hp : PoolAt w B bp v ms) (hB : Below w.heap.size w w1)
    (hown2 : w2.ownsRow B 23 3 (.slice (some ⟨gg, 0, none⟩) (ms.length + 1) cap') (ms.length + 1) (cells ms ++ m.vals)) (hgrow : (w1.alloc o).drew.grownBy w2 v.ownBlock)
    (hat : v.ownBlock = some gg ∨ gg = w1.heap.size + 1) (hb2 : w2.heap[bp]? = some (.cells #[v] 56 (0, 0))) :
    Sent w (w2.setCell ⟨bp, 0, none⟩ (.slice (some ⟨gg, 0, none⟩) (ms.length + 1) cap')) B bp v (ms ++ [m]) := by
  have hne : gg ≠ bp := by
    rintro rfl
    exact own_apart hown2 hb2 rfl
  refine ⟨_, ⟨one_setCell hb2, ?_, hp.le⟩, ?_, ?_⟩
  · have e : cells (ms ++ [m]) = cells ms ++ m.vals := by simp [cells]
    rw [e, List.length_append]
    exact ownsRow_setCell_other hown2 (by simp [Value.ownBlock]; exact hne) _
  · rcases hat with h | h
    · exact .inl (by rw [h]; rfl)
    · right
      intro k hk
      have e : gg = k := by simpa [Value.ownBlock] using hk
      have := hB.size
      omega
  · refine hp.only hB ⟨hgrow.os, hgrow.tape, hgrow.output, by have := hgrow.size; simp at this ⊢; omega, fun k hk h1 h2 => ?_⟩
    rw [Below.heap_setCell _ _ _ _ h1, hgrow.block k (by simp; omega) h2]
    exact Below.heap_alloc w1 o k hk

set_option maxHeartbeats 400000 in
theorem send_ok (B bp : Nat) (v : Value) (ms : List Msg) (m : Msg) (w : World) (hp : PoolAt w B bp v ms) (hm : okMsg m = true) (hl : ms.length < 256) :
    Calls Try.prog 10 #[.pointer (some ⟨bp, 0, none⟩), m.agg] w fun e w' => e = .returned (.int .i64 0) ∧ Sent w w' B bp v (ms ++ [m]) := by
  obtain ⟨i0, hi, hz0, hz1, hz2⟩ := info_parts Try.info23
  obtain ⟨f, t, b⟩ := m
  obtain ⟨ao, cap, hv, hle, _⟩ := own_form hp.own
  unfold Msg.agg
  have hlt := hp.lt
  have hBl := hp.le
  have HP := Lib.hid hp
  have HV := Lib.hid hv
  have hne : ms.length ≠ 256 := by omega
  clear hp
  subst hv
  clear HV
  go_enter Try.func10, Try.ntmps10
  go_wp2_with (go_at_call 23; refine (right_any ⟨f, t, b⟩ _).mono ?_; rintro e w1 ⟨rfl, hb1⟩; obtain ⟨hB, hm, hs⟩ := boxed hb1; clear hb1; have HP1 := Lib.hid (HP.out.below hB); have hc := cell_of_block HP1.out.box 0; have hf := frozen_of_block HP1.out.box 0; have hm0 := cell_of_block hm 0; have hm1 := cell_of_block hm 1; have hm2 := cell_of_block hm 2; clear hm)
  have ag := HP1.out.apart
  have am := apart_new HP.out
  have hlt1 : bp < w1.heap.size := by omega
  go_region_law ((refine step_append_lies _ (by rfl) _ _ _ (by rfl) B 23 i0 _ 3 32 Try.underlying41 hi hz0 hz1 hz2 rfl (by omega) _ _ _ (by rfl) ((HP1.out.own.alloc _).drew) ⟨w1.heap.size, 0, none⟩ 1 1 [.int .i64 f, .int .i64 t, .string b] (by rfl) (by rfl) (World.news_of_block (cs := #[.int .i64 f, .int .i64 t, .string b]) (t := 23) (fr := (0, 0)) (heap_alloc_new w1 _)) (by simp [Value.oneCell']) (by omega) (by unfold maxLen; omega) (by omega) (by simp; omega) (w1.heap.size + 1) (by simp) ?_; intro gg cap' w2 hown2 hgrow hat hlt2; have HB2 := Lib.hid ((hgrow.block bp (by simp; omega) (Ne.symm ag)).trans ((Below.heap_alloc w1 _ bp hlt1).trans HP1.out.box)); have hf2 := frozen_of_block HB2.out 0; have hc2 := cell_of_block HB2.out 0))
  all_goals
    have H := Lib.hid (sent_done (m := ⟨f, t, b⟩) HP.out hB hown2 hgrow hat HB2.out)
    clear hown2 hgrow hat HP HP1 HB2 hB hm0 hm1 hm2 hc hf hc2 hf2
    go_wp2
    go_ret
    exact ⟨rfl, H.out⟩

/-- Send at a pool that is there. -/
theorem send_any (B bp : Nat) (v : Value) (ms : List Msg) (m : Msg) (w : World) (hp : PoolAt w B bp v ms) (hl : ms.length ≤ 256) :
    Calls Try.prog 10 #[.pointer (some ⟨bp, 0, none⟩), m.agg] w fun e w' => e = .returned (.int .i64 (sendE ms m)) ∧ Sent w w' B bp v (sendL ms m) := by
  have keep : ∀ w' : World, Below w.heap.size w w' → Sent w w' B bp v ms := fun w' hb => ⟨v, hp.below hb, .inl rfl, ⟨hb.os, hb.tape, hb.output, hb.size, fun k hk _ _ => hb.block k hk⟩⟩
  unfold sendE sendL
  cases hm : okMsg m with
  | false =>
    obtain ⟨ao, cap, rfl, _⟩ := own_form hp.own
    refine (send_bad bp m w hm).mono fun e w' ⟨he, hb⟩ => ⟨by simpa using he, by simpa using keep w' hb⟩
  | true =>
    by_cases h : ms.length = 256
    · refine (send_full B bp v ms m w hp hm h).mono fun e w' ⟨he, hb⟩ => ⟨by simpa [h] using he, by simpa [h] using keep w' hb⟩
    · refine (send_ok B bp v ms m w hp hm (by omega)).mono fun e w' ⟨he, hb⟩ => ⟨by simpa [show ¬ 256 ≤ ms.length from by omega] using he, by simpa [show ¬ 256 ≤ ms.length from by omega] using hb⟩

end Go.Proofs.Ytmgjjedhlnlmpaa
