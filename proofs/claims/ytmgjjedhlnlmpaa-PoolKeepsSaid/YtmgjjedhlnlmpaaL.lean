/- step: one call of a pool beside the reference's: they tell the same, and hold the same behind it. -/
import Derived.Test.YtmgjjedhlnlmpaaK
namespace Go.Proofs.Ytmgjjedhlnlmpaa
open Go.RowKit

def Apart (u v : Value) : Prop := ∀ k, u.ownBlock = some k → v.ownBlock ≠ some k

/-- A pool, and a list beside it. -/
structure Two (w : World) (B bp : Nat) (v u : Value) (ms ns : List Msg) : Prop where
  pool : PoolAt w B bp v ms
  list : w.ownsRow B 23 3 u ns.length (cells ns)
  apart : Apart u v

theorem Two.below {w w1 : World} {B bp : Nat} {v u : Value} {ms ns : List Msg} (h : Two w B bp v u ms ns) (hb : Below w.heap.size w w1) : Two w1 B bp v u ms ns :=
  ⟨h.pool.below hb, ownsRow_below h.list hb, h.apart⟩

theorem Two.ref {w w1 : World} {B bp : Nat} {v u u' : Value} {ms ns ns' : List Msg} (h : Two w B bp v u ms ns) (ho : w1.ownsRow B 23 3 u' ns'.length (cells ns')) (hn : Newer w u u') (hb : Below w.heap.size w w1) : Two w1 B bp v u' ms ns' := by
  refine ⟨h.pool.below hb, ho, fun k hk => ?_⟩
  rcases hn with hn | hn
  · exact h.apart k (by rw [← hn]; exact hk)
  · intro e
    have := (h.pool.own.lt k e).2
    have := hn k hk
    omega

theorem Two.sent {w w1 : World} {B bp : Nat} {v u : Value} {ms ms' ns : List Msg} (h : Two w B bp v u ms ns) (hB : B ≤ w.heap.size) (hs : Sent w w1 B bp v ms') : (∃ v', Two w1 B bp v' u ms' ns) ∧ Below B w w1 := by
  refine ⟨?_, hs.below h.pool hB⟩
  obtain ⟨v', h1, h2, h3⟩ := hs
  refine ⟨v', h1, ?_, fun k hk => ?_⟩
  · refine ⟨h.list.1, ?_⟩
    rcases h.list.2 with k | ⟨g, cap, cur, rfl, hg, hh, r⟩
    · exact .inl k
    · refine .inr ⟨g, cap, cur, rfl, hg, ?_, r⟩
      have hlt : g < w.heap.size := (Array.getElem?_eq_some_iff.1 hh).1
      rw [h3.block g hlt ?_ ?_]
      · exact hh
      · rintro rfl
        have := h.pool.box.symm.trans hh
        simp at this
      · intro e
        exact h.apart g rfl e.symm
  · have hlt := (h.list.lt k hk).2
    rcases h2 with h2 | h2
    · rw [h2]; exact h.apart k hk
    · intro e
      have := h2 k e
      omega

/-- What one call may do to a list of messages. -/
def Near (kind : Int) (ms ms' : List Msg) : Prop :=
  ms'.length ≤ 256 ∧ ∀ s, countB s ms' ≤ countB s ms + 1 ∧ countB s ms ≤ countB s ms' + 1 ∧ (kind = 0 → countB s ms ≤ countB s ms')

theorem Near.refl (kind : Int) {ms : List Msg} (h : ms.length ≤ 256) : Near kind ms ms := ⟨h, fun s => ⟨by omega, by omega, fun _ => Nat.le_refl _⟩⟩

theorem countB_append (s : ByteArray) (a b : List Msg) : countB s (a ++ b) = countB s a + countB s b := by unfold countB; exact List.countP_append

theorem countB_one (s : ByteArray) (m : Msg) : countB s [m] ≤ 1 := by unfold countB; exact List.countP_le_length

theorem Near.send (kind : Int) {ms : List Msg} (m : Msg) (h : ms.length ≤ 256) : Near kind ms (sendL ms m) := by
  unfold sendL
  split
  · split
    · exact Near.refl kind h
    · refine ⟨by simp; omega, fun s => ?_⟩
      have := countB_one s m
      rw [countB_append]
      omega
  · exact Near.refl kind h

theorem Near.take {kind : Int} (hk : kind ≠ 0) {a b : List Msg} {m : Msg} (h : (a ++ m :: b).length ≤ 256) : Near kind (a ++ m :: b) (a ++ b) := by
  refine ⟨by simp at h ⊢; omega, fun s => ?_⟩
  have := countB_one s m
  have e : countB s (a ++ m :: b) = countB s a + (countB s [m] + countB s b) := by
    rw [show a ++ m :: b = a ++ ([m] ++ b) from rfl, countB_append, countB_append]
  rw [e, countB_append]
  refine ⟨by omega, by omega, fun h0 => absurd h0 hk⟩

theorem split_at {ms : List Msg} {i : Int} (h : ¬ (i < 0 ∨ (ms.length : Int) ≤ i)) : ∃ a m b, ms = a ++ m :: b ∧ i = (a.length : Int) := by
  have hk : i.toNat < ms.length := by omega
  refine ⟨ms.take i.toNat, ms[i.toNat], ms.drop (i.toNat + 1), ?_, ?_⟩
  · rw [← List.drop_eq_getElem_cons hk, List.take_append_drop]
  · rw [List.length_take]; omega

theorem Sent.keeps {w w' : World} {B bp : Nat} {v : Value} {ms : List Msg} (h : Sent w w' B bp v ms) {k : Nat} {o : Obj} (hk : w.heap[k]? = some o) (h1 : k ≠ bp) (h2 : v.ownBlock ≠ some k) : w'.heap[k]? = some o := by
  obtain ⟨v', _, _, h3⟩ := h
  exact (h3.block k (Array.getElem?_eq_some_iff.1 hk).1 h1 (Ne.symm h2)).trans hk

/-- What step hands back. -/
def Stepped (w w' : World) (e : Ending) (B bp : Nat) (kind : Int) (ms : List Msg) : Prop :=
  ∃ ms' u' v', e = .returned (.tuple #[u', .bool true]) ∧ Two w' B bp v' u' ms' ms' ∧ Below B w w' ∧ Near kind ms ms'

def actV (kind n : Int) (m : Msg) : Value := .agg #[.int .i64 kind, .int .i64 n, .int .i64 m.f, .int .i64 m.t, .string m.b]

theorem step_send (B bp : Nat) (v u : Value) (ms : List Msg) (n : Int) (m : Msg) (w : World) (h : Two w B bp v u ms ms) (hB : B ≤ w.heap.size) (hl : ms.length ≤ 256) :
    Calls Try.prog 18 #[.pointer (some ⟨bp, 0, none⟩), u, actV 0 n m] w fun e w' => Stepped w w' e B bp 0 ms := by
  have H := Lib.hid h
  have HL := Lib.hid hl
  clear h hl
  obtain ⟨f, t, b⟩ := m
  unfold actV
  go_enter Try.func18, Try.ntmps18
  go_wp2_with fail
  refine (rsend_any B _ ms ⟨f, t, b⟩ _ (H.out.below (below_alloc _ _)).list (by simp; omega) HL.out).mono ?_
  rintro e w1 ⟨u', rfl, ho, hn, hb⟩
  have K1 := Lib.hid ((H.out.below (below_alloc _ _)).ref ho hn hb)
  obtain ⟨hb1, hbx, hlt⟩ := boxed hb
  have c2 := cell_of_block hbx 2
  have c3 := cell_of_block hbx 3
  have c4 := cell_of_block hbx 4
  clear ho hn hb hbx
  go_wp2_with fail
  refine (send_any B bp v ms ⟨f, t, b⟩ _ K1.out.pool HL.out).mono ?_
  rintro e w2 ⟨rfl, hs⟩
  have K2 := Lib.hid (K1.out.sent (by omega) hs)
  clear hs c2 c3 c4
  go_wp2
  go_ret2
  obtain ⟨⟨v', k2⟩, hb2⟩ := K2.out
  exact ⟨sendL ms ⟨f, t, b⟩, u', v', rfl, k2, (hb1.mono hB).trans hb2, Near.send 0 _ HL.out⟩

theorem step_take_bad (B bp : Nat) (v u : Value) (ms : List Msg) (n : Int) (m : Msg) (w : World) (h : Two w B bp v u ms ms) (hB : B ≤ w.heap.size) (hl : ms.length ≤ 256) (hn : n < 0 ∨ (ms.length : Int) ≤ n) :
    Calls Try.prog 18 #[.pointer (some ⟨bp, 0, none⟩), u, actV 1 n m] w fun e w' => Stepped w w' e B bp 1 ms := by
  have H := Lib.hid h
  have HL := Lib.hid hl
  have HN := Lib.hid hn
  clear h hl hn
  obtain ⟨f, t, b⟩ := m
  unfold actV
  have hq := eqlMsg
  have hg := guardMsg
  go_enter Try.func18, Try.ntmps18
  go_wp2_with fail
  refine (rtake_bad B _ ms _ _ (H.out.below (below_alloc _ _)).list HN.out).mono ?_
  rintro e w1 ⟨u', rfl, ho, hn, hb⟩
  have K1 := Lib.hid ((H.out.below (below_alloc _ _)).ref ho hn hb)
  obtain ⟨hb1, hbx, hlt⟩ := boxed hb
  have c1 := cell_of_block hbx 1
  clear ho hn hb hbx
  unfold Msg.agg Msg.zero
  go_wp2_with fail
  refine (take_bad B bp v ms _ _ (K1.out.pool.below (below_alloc _ _)) HN.out).mono ?_
  rintro e w2 ⟨rfl, hb⟩
  obtain ⟨hb2, hbx, hlt2⟩ := boxed hb
  have K2 := Lib.hid (K1.out.below hb2)
  have d0 := cell_of_block hbx 0
  have d1 := cell_of_block hbx 1
  have d2 := cell_of_block hbx 2
  clear hbx hb c1
  have hr := beqMsg_refl ⟨0, 0, ⟨#[]⟩⟩
  unfold Msg.agg Msg.zero
  go_wp2
  go_ret2
  exact ⟨ms, u', v, rfl, K2.out.below (below_alloc _ _), ((hb1.trans (hb2.mono hb1.size)).trans ((below_alloc _ _).mono (by have := hb1.size; have := hb2.size; omega))).mono hB, Near.refl 1 HL.out⟩

theorem step_take_ok (B bp : Nat) (v u : Value) (x y : List Msg) (q : Msg) (m : Msg) (w : World) (h : Two w B bp v u (x ++ q :: y) (x ++ q :: y)) (hB : B ≤ w.heap.size) (hl : (x ++ q :: y).length ≤ 256) :
    Calls Try.prog 18 #[.pointer (some ⟨bp, 0, none⟩), u, actV 1 x.length m] w fun e w' => Stepped w w' e B bp 1 (x ++ q :: y) := by
  have H := Lib.hid h
  have HL := Lib.hid hl
  have HL2 := Lib.hid (show (x ++ q :: y).length ≤ 1000 by omega)
  clear h hl
  obtain ⟨f, t, b⟩ := m
  unfold actV
  have hq := eqlMsg
  have hg := guardMsg
  go_enter Try.func18, Try.ntmps18
  go_wp2_with fail
  refine (rtake_ok B _ x y q _ (H.out.below (below_alloc _ _)).list (by simp; omega) HL2.out).mono ?_
  rintro e w1 ⟨u', rfl, ho, hn, hb⟩
  have K1 := Lib.hid ((H.out.below (below_alloc _ _)).ref ho hn hb)
  obtain ⟨hb1, hbx, hlt⟩ := boxed hb
  have c1 := cell_of_block hbx 1
  clear ho hn hb hbx
  unfold Msg.agg
  go_wp2_with fail
  refine (take_ok B bp v x y q _ (K1.out.pool.below (below_alloc _ _))).mono ?_
  rintro e w2 ⟨rfl, hs⟩
  have K2 := Lib.hid ((K1.out.below (below_alloc _ _)).sent (by have := hb1.size; simp; omega) hs)
  have hbx := hs.keeps (heap_alloc_new w1 _) (by have := K1.out.pool.lt; omega) (apart_new K1.out.pool)
  have d0 := cell_of_block hbx 0
  have d1 := cell_of_block hbx 1
  have d2 := cell_of_block hbx 2
  have hs2 : w1.heap.size < w2.heap.size := by
    have := K2.out.2.size
    simp at this
    omega
  clear hbx hs c1
  have hr := beqMsg_refl ⟨q.f, q.t, q.b⟩
  unfold Msg.agg
  go_wp2
  go_ret2
  obtain ⟨⟨v', k2⟩, hb2⟩ := K2.out
  exact ⟨x ++ y, u', v', rfl, k2.below (below_alloc _ _), (((hb1.mono hB).trans (((below_alloc w1 _).mono (by have := hb1.size; omega)).trans hb2)).trans ((below_alloc _ _).mono (by have := hb1.size; omega))), Near.take (by decide) HL.out⟩

theorem step_drop_bad (B bp : Nat) (v u : Value) (ms : List Msg) (n : Int) (m : Msg) (w : World) (h : Two w B bp v u ms ms) (hB : B ≤ w.heap.size) (hl : ms.length ≤ 256) (hn : n < 0 ∨ (ms.length : Int) ≤ n) :
    Calls Try.prog 18 #[.pointer (some ⟨bp, 0, none⟩), u, actV 2 n m] w fun e w' => Stepped w w' e B bp 2 ms := by
  have H := Lib.hid h
  have HL := Lib.hid hl
  have HN := Lib.hid hn
  clear h hl hn
  obtain ⟨f, t, b⟩ := m
  unfold actV
  go_enter Try.func18, Try.ntmps18
  go_wp2_with fail
  refine (rtake_bad B _ ms _ _ (H.out.below (below_alloc _ _)).list HN.out).mono ?_
  rintro e w1 ⟨u', rfl, ho, hn, hb⟩
  have K1 := Lib.hid ((H.out.below (below_alloc _ _)).ref ho hn hb)
  obtain ⟨hb1, hbx, hlt⟩ := boxed hb
  have c1 := cell_of_block hbx 1
  clear ho hn hb hbx
  unfold Msg.agg Msg.zero
  go_wp2_with fail
  refine (drop_bad B bp v ms _ _ (K1.out.pool.below (below_alloc _ _)) HN.out).mono ?_
  rintro e w2 ⟨rfl, hb⟩
  obtain ⟨hb2, hbx, hlt2⟩ := boxed hb
  have K2 := Lib.hid (K1.out.below hb2)
  clear hbx hb c1
  go_wp2
  go_ret2
  exact ⟨ms, u', v, rfl, K2.out, (hb1.trans (hb2.mono hb1.size)).mono hB, Near.refl 2 HL.out⟩

theorem step_drop_ok (B bp : Nat) (v u : Value) (x y : List Msg) (q : Msg) (m : Msg) (w : World) (h : Two w B bp v u (x ++ q :: y) (x ++ q :: y)) (hB : B ≤ w.heap.size) (hl : (x ++ q :: y).length ≤ 256) :
    Calls Try.prog 18 #[.pointer (some ⟨bp, 0, none⟩), u, actV 2 x.length m] w fun e w' => Stepped w w' e B bp 2 (x ++ q :: y) := by
  have H := Lib.hid h
  have HL := Lib.hid hl
  have HL2 := Lib.hid (show (x ++ q :: y).length ≤ 1000 by omega)
  clear h hl
  obtain ⟨f, t, b⟩ := m
  unfold actV
  go_enter Try.func18, Try.ntmps18
  go_wp2_with fail
  refine (rtake_ok B _ x y q _ (H.out.below (below_alloc _ _)).list (by simp; omega) HL2.out).mono ?_
  rintro e w1 ⟨u', rfl, ho, hn, hb⟩
  have K1 := Lib.hid ((H.out.below (below_alloc _ _)).ref ho hn hb)
  obtain ⟨hb1, hbx, hlt⟩ := boxed hb
  have c1 := cell_of_block hbx 1
  clear ho hn hb hbx
  unfold Msg.agg
  go_wp2_with fail
  refine (drop_ok B bp v x y q _ (K1.out.pool.below (below_alloc _ _))).mono ?_
  rintro e w2 ⟨rfl, hs⟩
  have K2 := Lib.hid ((K1.out.below (below_alloc _ _)).sent (by have := hb1.size; simp; omega) hs)
  clear hs c1
  go_wp2
  go_ret2
  obtain ⟨⟨v', k2⟩, hb2⟩ := K2.out
  exact ⟨x ++ y, u', v', rfl, k2, (hb1.mono hB).trans (((below_alloc w1 _).mono (by have := hb1.size; omega)).trans hb2), Near.take (by decide) HL.out⟩

theorem step_double_bad (B bp : Nat) (v u : Value) (ms : List Msg) (kind n : Int) (m : Msg) (w : World) (h : Two w B bp v u ms ms) (hB : B ≤ w.heap.size) (hl : ms.length ≤ 256) (hn : n < 0 ∨ (ms.length : Int) ≤ n)
    (k0 : (kind == 0) = false) (k1 : (kind == 1) = false) (k2 : (kind == 2) = false) :
    Calls Try.prog 18 #[.pointer (some ⟨bp, 0, none⟩), u, actV kind n m] w fun e w' => Stepped w w' e B bp kind ms := by
  have H := Lib.hid h
  have HL := Lib.hid hl
  have HN := Lib.hid hn
  clear h hl hn
  obtain ⟨f, t, b⟩ := m
  unfold actV
  go_enter Try.func18, Try.ntmps18
  go_wp2_with fail
  refine (rdouble_bad B _ ms _ _ (H.out.below (below_alloc _ _)).list HN.out).mono ?_
  rintro e w1 ⟨u', rfl, ho, hn, hb⟩
  have K1 := Lib.hid ((H.out.below (below_alloc _ _)).ref ho hn hb)
  obtain ⟨hb1, hbx, hlt⟩ := boxed hb
  have c1 := cell_of_block hbx 1
  clear ho hn hb hbx
  go_wp2_with fail
  refine (double_bad B bp v ms _ _ K1.out.pool HN.out).mono ?_
  rintro e w2 ⟨rfl, rfl⟩
  go_wp2
  go_ret2
  exact ⟨ms, u', v, rfl, K1.out, hb1.mono hB, Near.refl kind HL.out⟩

theorem step_double_ok (B bp : Nat) (v u : Value) (x y : List Msg) (q : Msg) (kind : Int) (m : Msg) (w : World) (h : Two w B bp v u (x ++ q :: y) (x ++ q :: y)) (hB : B ≤ w.heap.size) (hl : (x ++ q :: y).length ≤ 256)
    (k0 : (kind == 0) = false) (k1 : (kind == 1) = false) (k2 : (kind == 2) = false) :
    Calls Try.prog 18 #[.pointer (some ⟨bp, 0, none⟩), u, actV kind x.length m] w fun e w' => Stepped w w' e B bp kind (x ++ q :: y) := by
  have H := Lib.hid h
  have HL := Lib.hid hl
  clear h hl
  obtain ⟨f, t, b⟩ := m
  unfold actV
  go_enter Try.func18, Try.ntmps18
  go_wp2_with fail
  refine (rdouble_ok B _ x y q _ (H.out.below (below_alloc _ _)).list (by simp; omega) HL.out).mono ?_
  rintro e w1 ⟨u', rfl, ho, hn, hb⟩
  have K1 := Lib.hid ((H.out.below (below_alloc _ _)).ref ho hn hb)
  obtain ⟨hb1, hbx, hlt⟩ := boxed hb
  have c1 := cell_of_block hbx 1
  clear ho hn hb hbx
  go_wp2_with fail
  refine (double_ok B bp v x y q _ K1.out.pool HL.out).mono ?_
  rintro e w2 ⟨rfl, hs⟩
  have K2 := Lib.hid (K1.out.sent (by have := hb1.size; omega) hs)
  clear hs c1
  go_wp2
  go_ret2
  obtain ⟨⟨v', k2⟩, hb2⟩ := K2.out
  exact ⟨sendL (x ++ q :: y) q, u', v', rfl, k2, (hb1.mono hB).trans hb2, Near.send kind _ HL.out⟩

theorem step_any (B bp : Nat) (v u : Value) (ms : List Msg) (kind n : Int) (m : Msg) (w : World) (h : Two w B bp v u ms ms) (hB : B ≤ w.heap.size) (hl : ms.length ≤ 256) :
    Calls Try.prog 18 #[.pointer (some ⟨bp, 0, none⟩), u, actV kind n m] w fun e w' => Stepped w w' e B bp kind ms := by
  by_cases k0 : kind = 0
  · subst k0
    exact step_send B bp v u ms n m w h hB hl
  by_cases hn : n < 0 ∨ (ms.length : Int) ≤ n
  · by_cases k1 : kind = 1
    · subst k1
      exact step_take_bad B bp v u ms n m w h hB hl hn
    by_cases k2 : kind = 2
    · subst k2
      exact step_drop_bad B bp v u ms n m w h hB hl hn
    exact step_double_bad B bp v u ms kind n m w h hB hl hn (by simpa using k0) (by simpa using k1) (by simpa using k2)
  · obtain ⟨x, q, y, rfl, rfl⟩ := split_at hn
    by_cases k1 : kind = 1
    · subst k1
      exact step_take_ok B bp v u x y q m w h hB hl
    by_cases k2 : kind = 2
    · subst k2
      exact step_drop_ok B bp v u x y q m w h hB hl
    exact step_double_ok B bp v u x y q kind m w h hB hl (by simpa using k0) (by simpa using k1) (by simpa using k2)

end Go.Proofs.Ytmgjjedhlnlmpaa
