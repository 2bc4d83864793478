/- The reference's calls on a list of messages: Send, Take, Double. -/
import Derived.Test.YtmgjjedhlnlmpaaH
import Derived.Laws.AppendOwnNone
namespace Go.Proofs.Ytmgjjedhlnlmpaa
open Go.RowKit

/-- What a call of the reference hands back: a list, and an error's number. -/
def Ref (w w' : World) (e : Ending) (B : Nat) (u : Value) (ms : List Msg) (c : Int) : Prop :=
  ∃ u', e = .returned (.tuple #[u', .int .i64 c]) ∧ w'.ownsRow B 23 3 u' ms.length (cells ms) ∧ Newer w u u' ∧ Below w.heap.size w w'

theorem ownsRow_le {w : World} {b b' : Nat} {e : TypeId} {size : Nat} {v : Value} {n : Nat} {xs : List Value} (h : w.ownsRow b e size v n xs) (hb : b' ≤ b) : w.ownsRow b' e size v n xs := by
  refine ⟨h.1, ?_⟩
  rcases h.2 with h2 | ⟨g, cap, cur, hv, hg, r⟩
  · exact .inl h2
  · exact .inr ⟨g, cap, cur, hv, Nat.le_trans hb hg, r⟩

theorem rsend_bad (B : Nat) (u : Value) (ms : List Msg) (m : Msg) (w : World) (hown : w.ownsRow B 23 3 u ms.length (cells ms)) (hm : okMsg m = false) :
    Calls Try.prog 27 #[u, m.agg] w fun e w' => Ref w w' e B u ms 2 := by
  obtain ⟨f, t, b⟩ := m
  have HO := Lib.hid hown
  obtain ⟨ao, cap, rfl, _⟩ := own_form hown
  clear hown
  unfold Msg.agg
  go_enter Try.func27, Try.ntmps27
  go_wp2_with (go_at_call 9; refine (Right_any ⟨f, t, b⟩ _).mono ?_; rintro e w1 ⟨rfl, hb1⟩; replace hb1 := boxed hb1)
  go_ret2
  exact ⟨_, rfl, ownsRow_below HO.out hb1.1, .inl rfl, hb1.1⟩

set_option maxRecDepth 100000 in
theorem rsend_full (B : Nat) (u : Value) (ms : List Msg) (m : Msg) (w : World) (hown : w.ownsRow B 23 3 u ms.length (cells ms)) (hm : okMsg m = true) (hl : 256 ≤ ms.length) :
    Calls Try.prog 27 #[u, m.agg] w fun e w' => Ref w w' e B u ms 3 := by
  obtain ⟨f, t, b⟩ := m
  have HO := Lib.hid hown
  obtain ⟨ao, cap, rfl, _⟩ := own_form hown
  clear hown
  unfold Msg.agg
  go_enter Try.func27, Try.ntmps27
  go_wp2_with (go_at_call 9; refine (Right_any ⟨f, t, b⟩ _).mono ?_; rintro e w1 ⟨rfl, hb1⟩; replace hb1 := boxed hb1)
  go_ret2
  exact ⟨_, rfl, ownsRow_below HO.out hb1.1, .inl rfl, hb1.1⟩

/-- What two appends onto a new list leave. -/
theorem ref_done {w w1 w2 w3 : World} {o o' : Obj} {B n : Nat} {u v2 v3 : Value} {xs : List Value} {ms : List Msg} {row : Option Nat} {e : Ending} {c : Int} (hB : B ≤ w.heap.size) (hb : Below w.heap.size w w1)
    (hrow : row = some w1.heap.size) (hg2 : (w1.alloc o).grownBy w2 row) (h2 : w2.ownsRow w1.heap.size 23 3 v2 n xs) (hg3 : (w2.alloc o').grownBy w3 v2.ownBlock)
    (h3 : w3.ownsRow w1.heap.size 23 3 v3 ms.length (cells ms)) (h0 : 0 < ms.length) (he : e = .returned (.tuple #[v3, .int .i64 c])) : Ref w w3 e B u ms c := by
  have hs := hb.size
  refine ⟨v3, he, ownsRow_le h3 (by omega), ?_, ?_⟩
  · obtain ⟨g, cap, rfl, hg, _⟩ := h3.form h0
    right
    intro k hk
    have e : g = k := by simpa [Value.ownBlock] using hk
    omega
  · have k2 : Below w.heap.size w w2 := (hb.alloc hs o).grown hg2 (by simp; omega) (fun k hk => by rw [hrow] at hk; cases hk; exact hs)
    exact (k2.alloc k2.size o').grown hg3 (by have := k2.size; simp; omega) (fun k hk => by have := (h2.lt k hk).1; omega)

set_option maxRecDepth 100000 in
theorem rsend_ok (B g cap : Nat) (ms : List Msg) (m : Msg) (w : World) (hown : w.ownsRow B 23 3 (.slice (some ⟨g, 0, none⟩) ms.length cap) ms.length (cells ms)) (hB : B ≤ w.heap.size) (hm : okMsg m = true) (hl : ms.length < 256) :
    Calls Try.prog 27 #[.slice (some ⟨g, 0, none⟩) ms.length cap, m.agg] w fun e w' => Ref w w' e B (.slice (some ⟨g, 0, none⟩) ms.length cap) (ms ++ [m]) 0 := by
  obtain ⟨i0, hi, hz0, hz1, hz2⟩ := info_parts Try.info23
  obtain ⟨f, t, b⟩ := m
  have HO := Lib.hid hown
  have HL := Lib.hid (length_cells ms)
  have h1c := Lib.hid (cells_oneCell ms)
  clear hown
  unfold Msg.agg
  go_enter Try.func27, Try.ntmps27
  go_wp2_with (first
    | (go_at_call 9; refine (Right_any ⟨f, t, b⟩ _).mono ?_; rintro e w1 ⟨rfl, hb1⟩; obtain ⟨hb, hbx, hlt⟩ := boxed hb1; clear hb1; have m0 := cell_of_block hbx 0; have m1 := cell_of_block hbx 1; have m2 := cell_of_block hbx 2; have HX := Lib.hid hbx; clear hbx; have HO1 := Lib.hid (ownsRow_below HO.out hb))
    | (at_builtin; refine wpList_append_own _ rfl (.tmp 15) (.tmp 16) 41 rfl w1.heap.size 23 i0 _ 3 32 Try.underlying41 hi hz0 hz1 hz2 rfl (by decide) _ 0 [] rfl (World.ownsRow_made w1 #[] 0 (Nat.le_refl _) (by decide) (by decide)) ⟨g, 0, none⟩ ms.length cap (cells ms) rfl HL.out ((HO1.out.alloc _).cells (g := g) rfl) h1c.out (by unfold maxLen; omega) (by omega) (by simp) ?_; intro v' w2 hown2 hgrow2 _; simp only [Nat.zero_add, List.nil_append] at hown2; have HO2 := Lib.hid hown2; have HG2 := Lib.hid hgrow2; have hbx2 := (hgrow2.block w.heap.size (by simp; omega) (by simp [Act.eval, Value.ownBlock]; omega)).trans ((Below.heap_alloc w1 _ _ hlt).trans HX.out); have n0 := cell_of_block hbx2 0; have n1 := cell_of_block hbx2 1; have n2 := cell_of_block hbx2 2; clear hbx2 hown2 hgrow2 m0 m1 m2)
    | (at_builtin; refine wpList_append_own _ rfl (.tmp 18) (.tmp 20) 41 rfl w1.heap.size 23 i0 _ 3 32 Try.underlying41 hi hz0 hz1 hz2 rfl (by decide) v' ms.length (cells ms) rfl (HO2.out.alloc _) ⟨w2.heap.size, 0, none⟩ 1 1 [.int .i64 f, .int .i64 t, .string b] rfl rfl (World.news_of_block (cs := #[.int .i64 f, .int .i64 t, .string b]) (t := 23) (fr := (0, 0)) (heap_alloc_new w2 _)) (by simp [Value.oneCell']) (by unfold maxLen; omega) (by omega) (by have := HG2.out.size; simp at this ⊢; omega) ?_; intro v3 w3 hown3 hgrow3 _; have HO3 := Lib.hid hown3; have HG3 := Lib.hid hgrow3; clear hown3 hgrow3))
  go_ret2
  exact ref_done (ms := ms ++ [⟨f, t, b⟩]) hB hb rfl HG2.out HO2.out HG3.out (by have h := HO3.out; rw [cells_append, List.length_append]; simpa [cells, Msg.vals] using h) (by simp) rfl

set_option maxRecDepth 100000 in
theorem rsend_ok_nil (B : Nat) (m : Msg) (w : World) (hB : B ≤ w.heap.size) (hm : okMsg m = true) :
    Calls Try.prog 27 #[.slice none 0 0, m.agg] w fun e w' => Ref w w' e B (.slice none 0 0) [m] 0 := by
  obtain ⟨i0, hi, hz0, hz1, hz2⟩ := info_parts Try.info23
  obtain ⟨f, t, b⟩ := m
  unfold Msg.agg
  go_enter Try.func27, Try.ntmps27
  go_wp2_with (first
    | (go_at_call 9; refine (Right_any ⟨f, t, b⟩ _).mono ?_; rintro e w1 ⟨rfl, hb1⟩; obtain ⟨hb, hbx, hlt⟩ := boxed hb1; clear hb1; have m0 := cell_of_block hbx 0; have m1 := cell_of_block hbx 1; have m2 := cell_of_block hbx 2; clear hbx)
    | (at_builtin; refine wpList_append_own_none rfl (.tmp 15) (.tmp 16) 41 rfl w1.heap.size 23 i0 3 Try.underlying41 hi _ 0 [] rfl (World.ownsRow_made w1 #[] 0 (Nat.le_refl _) (by decide) (by decide)) rfl ?_)
    | (at_builtin; refine wpList_append_own _ rfl (.tmp 18) (.tmp 20) 41 rfl w1.heap.size 23 i0 _ 3 32 Try.underlying41 hi hz0 hz1 hz2 rfl (by decide) _ 0 [] rfl ((World.ownsRow_made w1 #[] 0 (Nat.le_refl _) (by decide) (by decide)).alloc _) ⟨w1.heap.size + 1, 0, none⟩ 1 1 [.int .i64 f, .int .i64 t, .string b] rfl rfl (World.news_of_block (cs := #[.int .i64 f, .int .i64 t, .string b]) (t := 23) (fr := (0, 0)) (by simpa using heap_alloc_new (w1.alloc (.cells #[] 23)) _)) (by simp [Value.oneCell']) (by unfold maxLen; omega) (by omega) (by simp; omega) ?_; intro v3 w3 hown3 hgrow3 _; have HO3 := Lib.hid hown3; have HG3 := Lib.hid hgrow3; clear hown3 hgrow3))
  go_ret2
  exact ref_done (ms := [⟨f, t, b⟩]) (o := .cells #[] 23) (row := some w1.heap.size) (w2 := w1.alloc (.cells #[] 23)) (v2 := .slice (some ⟨w1.heap.size, 0, none⟩) 0 0) (n := 0) (xs := []) hB hb rfl (World.grownBy.refl _ _) (World.ownsRow_made w1 #[] 0 (Nat.le_refl _) (by decide) (by decide)) HG3.out (by simpa [cells, Msg.vals] using HO3.out) (by simp) rfl

theorem rsend_any (B : Nat) (u : Value) (ms : List Msg) (m : Msg) (w : World) (hown : w.ownsRow B 23 3 u ms.length (cells ms)) (hB : B ≤ w.heap.size) (hl : ms.length ≤ 256) :
    Calls Try.prog 27 #[u, m.agg] w fun e w' => Ref w w' e B u (sendL ms m) (sendE ms m) := by
  unfold sendE sendL
  cases hm : okMsg m with
  | false => simpa using rsend_bad B u ms m w hown hm
  | true =>
    by_cases h : ms.length = 256
    · simpa [h] using rsend_full B u ms m w hown hm (by omega)
    · have h' : ¬ 256 ≤ ms.length := by omega
      simp only [if_true, ge_iff_le, if_neg h']
      rcases id hown.2 with ⟨rfl, h0⟩ | ⟨g, cap, cur, rfl, _⟩
      · obtain rfl : ms = [] := List.eq_nil_of_length_eq_zero h0
        exact rsend_ok_nil B m w hB hm
      · exact rsend_ok B g cap ms m w hown hB hm (by omega)

end Go.Proofs.Ytmgjjedhlnlmpaa
