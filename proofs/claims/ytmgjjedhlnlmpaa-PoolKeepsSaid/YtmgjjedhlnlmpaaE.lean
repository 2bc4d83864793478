/- All and Count of the pool; the reference's Same, Count; the law's count. -/
import Derived.Test.YtmgjjedhlnlmpaaD
import Derived.Deep.QuietTactic
import Derived.BigQuiet
namespace Go.Proofs.Ytmgjjedhlnlmpaa
open Go.RowKit

theorem eqNil (w : World) (a : Option Addr) (n c n' c' : Nat) : (binOp .eql 41 (.slice a n c) (.slice none n' c')).run Try.prog w = .ok (.bool a.isNone) w := Lib.run_eql_slice_nil w _ _ a n c n' c' Try.underlying41

theorem clone_nil (w : World) : Calls Try.prog 26 #[.slice none 0 0] w fun e w' => e = .returned (.slice none 0 0) ∧ w = w' := by
  have q := eqNil
  go_enter Try.func26, Try.ntmps26
  go_wp2
  go_ret
  exact ⟨rfl, rfl⟩

/-- A slice that holds xs in memory made since w0. -/
def New (w w' : World) (e : Ending) (n : Nat) (xs : List Value) : Prop := ∃ v, e = .returned v ∧ w'.ownsRow w.heap.size 23 3 v n xs ∧ Below w.heap.size w w'

theorem clone_some (B g n cap : Nat) (ms : List Msg) (w : World) (hown : w.ownsRow B 23 3 (.slice (some ⟨g, 0, none⟩) n cap) n (cells ms)) (hn : n ≤ 1000) :
    Calls Try.prog 26 #[.slice (some ⟨g, 0, none⟩) n cap] w fun e w' => New w w' e n (cells ms) := by
  obtain ⟨i0, hi, hz0, hz1, hz2⟩ := info_parts Try.info23
  have hc := fun j u => (hown.alloc (.cells #[] 23)).cells (g := g) rfl j u
  have hl := hown.1
  have HC := Lib.hid hc
  have HL := Lib.hid hl
  have h1c := Lib.hid (cells_oneCell ms)
  clear hc hl hown
  have q := eqNil
  go_enter Try.func26, Try.ntmps26
  go_wp2_with (at_builtin; refine wpList_append_own _ rfl (.tmp 5) (.tmp 6) 41 rfl w.heap.size 23 i0 _ 3 32 Try.underlying41 hi hz0 hz1 hz2 rfl (by decide) _ 0 [] rfl (World.ownsRow_made w #[] 0 (Nat.le_refl _) (by decide) (by decide)) ⟨g, 0, none⟩ n cap (cells ms) rfl HL.out HC.out h1c.out (by unfold maxLen; omega) (by omega) (by simp) ?_; intro v' w1 hown1 hgrow _)
  go_ret
  exact ⟨v', rfl, by simpa using hown1, (below_alloc w _).grown hgrow (by simp) (fun k h => by
    have : w.heap.size = k := by simpa [Act.eval, Value.ownBlock] using h
    omega)⟩

theorem clone_any (B n : Nat) (v : Value) (ms : List Msg) (w : World) (hown : w.ownsRow B 23 3 v n (cells ms)) (hn : n ≤ 1000) :
    Calls Try.prog 26 #[v] w fun e w' => New w w' e n (cells ms) := by
  rcases id hown.2 with ⟨rfl, rfl⟩ | ⟨g, cap, cur, rfl, _⟩
  · refine (clone_nil w).mono fun e w' ⟨he, hw⟩ => ?_
    subst hw
    have h0 : cells ms = [] := List.eq_nil_of_length_eq_zero (by simpa using hown.1)
    exact ⟨_, he, by rw [h0]; exact World.ownsRow_nil _ _ _ _, Below.refl _ _⟩
  · exact clone_some B g n cap ms w hown hn

theorem all_nil (w : World) : Calls Try.prog 17 #[.pointer none] w fun e w' => e = .returned (.slice none 0 0) ∧ w = w' := by
  go_enter Try.func17, Try.ntmps17
  go_wp2
  go_ret
  exact ⟨rfl, rfl⟩

theorem all_any (B bp : Nat) (v : Value) (ms : List Msg) (w : World) (hp : PoolAt w B bp v ms) (hl : ms.length ≤ 256) :
    Calls Try.prog 17 #[.pointer (some ⟨bp, 0, none⟩)] w fun e w' => New w w' e ms.length (cells ms) := by
  have hc := cell_of_block hp.box 0
  have HO := Lib.hid hp.own
  obtain ⟨ao, cap, rfl, _⟩ := own_form hp.own
  clear hp
  go_enter Try.func17, Try.ntmps17
  go_wp2_with (go_at_call 26; refine (clone_any B _ _ ms _ HO.out (by omega)).mono ?_; rintro e w1 ⟨u, rfl, ho, hb⟩; have HO1 := Lib.hid ho; clear ho)
  go_ret
  exact ⟨u, rfl, HO1.out, hb⟩

end Go.Proofs.Ytmgjjedhlnlmpaa
