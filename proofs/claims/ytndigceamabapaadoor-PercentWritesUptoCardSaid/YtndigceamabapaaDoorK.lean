/-
  Walks: the reference's pair of a text, and its reading of pairs. Condition: at most 2^20 bytes.
-/
import Derived.Test.YtndigceamabapaaDoorG
import Derived.Test.YtndigceamabapaaDoorH
namespace Go.Proofs.YtndigceamabapaaDoor
open Go.RowKit

/-- Both halves, or nothing. -/
def pair2 (a b : Option (List UInt8)) : Option (List UInt8 × List UInt8) := match a, b with | some x, some y => some (x, y) | _, _ => none

theorem pair_at (p : List UInt8) (k : Nat) (hno : ∀ j, j < k → p[j]? ≠ some 61) (he : p[k]? = some 61) :
    pairOf p = pair2 (dec (p.take k)) (dec (p.drop (k + 1))) := by
  obtain ⟨h, he⟩ := List.getElem?_eq_some_iff.1 he
  have e : p = p.take k ++ 61 :: p.drop (k + 1) := by
    rw [← he, ← List.drop_eq_getElem_cons h, List.take_append_drop]
  have hn : ∀ x ∈ p.take k, x ≠ 61 := by
    intro x hx
    obtain ⟨j, hj, rfl⟩ := List.getElem_of_mem hx
    rw [List.length_take] at hj
    rw [List.getElem_take]
    intro e
    exact hno j (by omega) (by rw [List.getElem?_eq_getElem (by omega), e])
  have hc : Lib.cut p [61] = (p.take k, p.drop (k + 1), true) := by
    have := cut_at 61 (p.take k) (p.drop (k + 1)) hn
    rw [← e] at this
    exact this
  unfold pairOf
  rw [hc]
  rfl
theorem pair_not (p : List UInt8) (n : Nat) (hn : p.length = n) (hno : ∀ j, j < n → p[j]? ≠ some 61) : pairOf p = none := by
  have hn : ∀ x ∈ p, x ≠ 61 := by
    intro x hx
    obtain ⟨j, hj, rfl⟩ := List.getElem_of_mem hx
    intro e
    exact hno j (by omega) (by rw [List.getElem?_eq_getElem hj, e])
  unfold pairOf
  rw [cut_none 61 p hn]
  rfl

theorem refdecode_list (l : List UInt8) (h : l.length ≤ 1048576) (w : World) : Calls Tryd.prog 12 #[.string ⟨l.toArray⟩] w fun e w' => e = .returned (rdecV (dec l)) ∧ Below w.heap.size w w' :=
  refdecode_calls ⟨l.toArray⟩ (by show l.toArray.size ≤ _; simp; omega) w

theorem cell_of_block {w : World} {g : Nat} {cur : Array Value} {t : TypeId} {fr : Nat × Nat} (h : w.heap[g]? = some (.cells cur t fr)) (o : Nat) : w.cell? ⟨g, o, none⟩ = cur[o]? := by
  rw [cell_of_row w g o cur t fr h]
theorem frozen_of_block {w : World} {g : Nat} {cur : Array Value} {t : TypeId} (h : w.heap[g]? = some (.cells cur t (0, 0))) (o : Nat) : w.frozen? ⟨g, o, none⟩ = false := by
  simp [World.frozen?, h]
theorem mk_toList' (s : ByteArray) : (⟨s.data.toList.toArray⟩ : ByteArray) = s := by simp
theorem ba_eq {a b : ByteArray} (h : a.data.toList = b.data.toList) : a = b := by
  rw [← mk_toList' a, ← mk_toList' b, h]

theorem box2_cell0 {w : World} {g : Nat} {a b : Value} (h0 : w.cell? ⟨g, 0, none⟩ = some a) (h1 : w.cell? ⟨g, 1, none⟩ = some b) (u0 u1 : Value) : ((w.setCell ⟨g, 0, none⟩ u0).setCell ⟨g, 1, none⟩ u1).cell? ⟨g, 0, none⟩ = some u0 := by
  have _ := h1
  exact (World.cell?_setCell_other _ _ _ _ (by simp)).trans (World.cell?_setCell_same _ _ _ h0)
theorem box2_cell1 {w : World} {g : Nat} {a b : Value} (h0 : w.cell? ⟨g, 0, none⟩ = some a) (h1 : w.cell? ⟨g, 1, none⟩ = some b) (u0 u1 : Value) : ((w.setCell ⟨g, 0, none⟩ u0).setCell ⟨g, 1, none⟩ u1).cell? ⟨g, 1, none⟩ = some u1 := by
  have _ := h0
  exact World.cell?_setCell_same _ _ _ ((World.cell?_setCell_other _ _ _ _ (by simp)).trans h1)
theorem _root_.Go.RowKit.Below.trans_to {w w1 w2 : World} (h : Below w.heap.size w w1) (k : Below w1.heap.size w1 w2) : Below w.heap.size w w2 := below_both h k

/-- Two cells of a box that the call itself has laid, stored. -/
theorem below_box2 {w w1 : World} (h : Below w.heap.size w w1) (u0 u1 : Value) : Below w.heap.size w ((w1.setCell ⟨w.heap.size, 0, none⟩ u0).setCell ⟨w.heap.size, 1, none⟩ u1) :=
  (h.setCell (Nat.le_refl _) u0).setCell (Nat.le_refl _) u1

/-- What 'one' hands back. -/
def oneV (x y : ByteArray) (b : Bool) : Value := .tuple #[.agg #[.string x, .string y], .bool b]

theorem refdecode_none {l : List UInt8} (hd : dec l = none) (h : l.length ≤ 1048576) (w : World) : Calls Tryd.prog 12 #[.string ⟨l.toArray⟩] w fun e w' => e = .returned (.tuple #[.string ⟨#[]⟩, .bool false]) ∧ Below w.heap.size w w' := by
  have := refdecode_list l h w
  rwa [hd] at this
theorem refdecode_some {l t : List UInt8} (hd : dec l = some t) (h : l.length ≤ 1048576) (w : World) : Calls Tryd.prog 12 #[.string ⟨l.toArray⟩] w fun e w' => e = .returned (.tuple #[.string ⟨t.toArray⟩, .bool true]) ∧ Below w.heap.size w w' := by
  have := refdecode_list l h w
  rwa [hd] at this

/-- The decoding of a half, in one form. -/
theorem refdecode_half (l : List UInt8) (h : l.length ≤ 1048576) : ∃ (x : ByteArray) (b : Bool), (b = (dec l).isSome) ∧ (∀ z, dec l = some z → x = ⟨z.toArray⟩) ∧
    ∀ w : World, Calls Tryd.prog 12 #[.string ⟨l.toArray⟩] w fun e w' => e = .returned (.tuple #[.string x, .bool b]) ∧ Below w.heap.size w w' := by
  cases hd : dec l with
  | none => exact ⟨⟨#[]⟩, false, rfl, (fun z hz => nomatch hz), refdecode_none hd h⟩
  | some t => exact ⟨⟨t.toArray⟩, true, rfl, (fun z hz => by rw [Option.some.inj hz]), refdecode_some hd h⟩

theorem half_some {a b : Option (List UInt8)} {r : Option (List UInt8 × List UInt8)} {by' : Bool} (ha : a.isSome = true) (hr : r = pair2 a b) (hb : by' = b.isSome) : r.isSome = by' := by
  subst hr hb
  cases a with
  | none => cases ha
  | some _ => cases b <;> rfl
theorem half_none {a b : Option (List UInt8)} {r : Option (List UInt8 × List UInt8)} (ha : ¬ a.isSome = true) (hr : r = pair2 a b) : r.isSome = false := by
  subst hr
  cases a with
  | none => rfl
  | some _ => exact absurd rfl ha
theorem half_val {a b : Option (List UInt8)} {r : Option (List UInt8 × List UInt8)} {x y : ByteArray} (hx : ∀ z, a = some z → x = ⟨z.toArray⟩) (hy : ∀ z, b = some z → y = ⟨z.toArray⟩) (hr : r = pair2 a b) :
    ∀ z, r = some z → x = ⟨z.1.toArray⟩ ∧ y = ⟨z.2.toArray⟩ := by
  subst hr
  intro z hz
  cases a with
  | none => cases hz
  | some u => cases b with
    | none => cases hz
    | some v => obtain rfl := Option.some.inj hz; exact ⟨hx _ rfl, hy _ rfl⟩

set_option maxHeartbeats 1000000 in
theorem one_calls (s : ByteArray) (hp : s.size ≤ 1048576) (w : World) : Calls Tryd.prog 27 #[.string s] w fun e w' =>
    ∃ x y, e = .returned (oneV x y (pairOf s.data.toList).isSome) ∧ (∀ z, pairOf s.data.toList = some z → x = ⟨z.1.toArray⟩ ∧ y = ⟨z.2.toArray⟩) ∧ Below w.heap.size w w' := by
  have HSZ := Lib.hid (show s.data.toList.length = s.size by simp)
  have HAT := Lib.hid (show ∀ (k : Nat) (h : k < s.size), s.data.toList[k]? = some s[k] from fun k h => by rw [List.getElem?_eq_getElem (by simpa using h), Array.getElem_toList]; rfl)
  have HX1 := Lib.hid (show ∀ k : Nat, s.extract 0 k = ⟨(s.data.toList.take k).toArray⟩ from fun k => by apply ba_eq; rw [Lib.extract_data]; simp)
  have HX2 := Lib.hid (show ∀ k : Nat, s.extract k s.size = ⟨(s.data.toList.drop k).toArray⟩ from fun k => by
    apply ba_eq; rw [Lib.extract_data, List.take_of_length_le (by simp)])
  generalize s.data.toList = p at *
  go_enter Tryd.func27, Tryd.ntmps27
  go_wp2_with fail
  have hbx := Lib.hid (heap_alloc_new w (.cells #[.string ⟨#[]⟩, .string ⟨#[]⟩] 45))
  have hW := Lib.hid ((Below.refl w.heap.size w).alloc (Nat.le_refl _) (.cells #[.string ⟨#[]⟩, .string ⟨#[]⟩] 45))
  have hWs : (w.alloc (.cells #[.string ⟨#[]⟩, .string ⟨#[]⟩] 45)).heap.size = w.heap.size + 1 := by simp
  generalize w.alloc (.cells #[.string ⟨#[]⟩, .string ⟨#[]⟩] 45) = W at *
  go_loopw [4] (fun i wr => ∃ k : Nat, k ≤ s.size ∧ i = .int .i64 k ∧ wr = W ∧ ∀ j, j < k → p[j]? ≠ some 61)
    (fun i _ => s.size - (intOf i).toNat)
  case atStart => exact ⟨0, Nat.zero_le _, rfl, rfl, fun j hj => absurd hj (Nat.not_lt_zero _)⟩
  case round =>
    obtain ⟨k, hk, rfl, rfl, hno⟩ := hrel
    have HNO := Lib.hid hno
    clear hno
    by_cases hkl : k < s.size
    · have hat := HAT.out k hkl
      generalize hb : s[k] = b at *
      have HB := Lib.hid hat
      clear hat
      by_cases h61 : b = 61
      · have hbn : ((b.toNat : Int) == 61) = true := by rw [h61]; rfl
        have hpr := pair_at p k HNO.out (by rw [HB.out, h61])
        have HPR := Lib.hid hpr
        clear h61 hpr
        obtain ⟨x, bx, hbx1, hx, h1⟩ := refdecode_half (p.take k) (by have := HSZ.out; simp; omega)
        obtain ⟨y, by', hby1, hy, h2⟩ := refdecode_half (p.drop (k + 1)) (by have := HSZ.out; simp; omega)
        have HB1 := Lib.hid hbx1
        have HB2 := Lib.hid hby1
        have HX := Lib.hid hx
        have HY := Lib.hid hy
        have H1 := Lib.hid h1
        have H2 := Lib.hid h2
        clear hbx1 hby1 hx hy h1 h2
        have e1 := HX1.out k
        have e2 := HX2.out (k + 1)
        have hn1 : ((k : Int) + 1).toNat = k + 1 := by omega
        have hp1 : 0 ≤ (k : Int) + 1 ∧ (k : Int) + 1 ≤ s.size := by omega
        go_wp2_with (first
          | (go_at_call_of 12 (p.take k); refine (H1.out _).mono ?_; rintro e w1 ⟨rfl, hb1⟩; have hx1 := Lib.hid ((hb1.block w.heap.size (by omega)).trans hbx.out); have hz1 := Lib.hid hb1; clear hb1))
        refine (H2.out _).mono ?_
        rintro e w2 ⟨rfl, hb2⟩
        have hx2 := (hb2.block w.heap.size (by have := hz1.out.size; omega)).trans hx1.out
        have hz2 := Lib.hid hb2
        have c0 := cell_of_block hx2 0
        have c1 := cell_of_block hx2 1
        have f0 := frozen_of_block hx2 0
        have f1 := frozen_of_block hx2 1
        clear hb2 hx2
        go_wp2_with fail
        all_goals
          have hf0 := box2_cell0 c0 c1 (.string x) (.string y)
          have hf1 := box2_cell1 c0 c1 (.string x) (.string y)
          have HBF := Lib.hid (below_box2 (below_both hW.out (Below.trans_to hz1.out hz2.out)) (.string x) (.string y))
        all_goals
          first
            | (have hbx : bx = true := by assumption
               refine bodyPost_ret (v := oneV x y by') (by simp [results, Tryd.results27, go_sem, oneV, hf0, hf1]) rfl ⟨x, y, ?_, ?_, HBF.out⟩
               · rw [half_some (by rw [← HB1.out]; exact hbx) HPR.out HB2.out]
               · exact half_val HX.out HY.out HPR.out)
            | (have hbx : ¬ bx = true := by assumption
               refine bodyPost_ret (v := oneV x y false) (by simp [results, Tryd.results27, go_sem, oneV, hf0, hf1]) rfl ⟨x, y, ?_, ?_, HBF.out⟩
               · rw [half_none (by rw [← HB1.out]; exact hbx) HPR.out]
               · exact half_val HX.out HY.out HPR.out)
      · have hbn : ((b.toNat : Int) == 61) = false := by
          rw [beq_eq_false_iff_ne]; intro e; exact h61 (UInt8.toNat_inj.1 (by simpa using (by omega : b.toNat = 61)))
        have H61 := Lib.hid h61
        clear h61
        go_wp2_with fail
        refine ⟨⟨k + 1, by omega, by simp, trivial, fun j hj => ?_⟩, by simp [intOf]; omega⟩
        rcases (by omega : j < k ∨ j = k) with h | rfl
        · exact HNO.out j h
        · rw [HB.out]; intro e; exact H61.out (Option.some.inj e)
    · have hnp := Lib.hid (pair_not p s.size HSZ.out fun j hj => HNO.out j (by omega))
      have c0 := cell_of_block hbx.out 0
      have c1 := cell_of_block hbx.out 1
      have f0 := frozen_of_block hbx.out 0
      have f1 := frozen_of_block hbx.out 1
      go_wp2_with fail
      have hf0 := box2_cell0 c0 c1 (.string ⟨#[]⟩) (.string ⟨#[]⟩)
      have hf1 := box2_cell1 c0 c1 (.string ⟨#[]⟩) (.string ⟨#[]⟩)
      refine bodyPost_ret (v := oneV ⟨#[]⟩ ⟨#[]⟩ false) (by simp [results, Tryd.results27, go_sem, oneV, hf0, hf1]) rfl ⟨⟨#[]⟩, ⟨#[]⟩, ?_, ?_, below_box2 hW.out _ _⟩
      · rw [hnp.out]; rfl
      · intro z hz; rw [hnp.out] at hz; cases hz
end Go.Proofs.YtndigceamabapaaDoor
