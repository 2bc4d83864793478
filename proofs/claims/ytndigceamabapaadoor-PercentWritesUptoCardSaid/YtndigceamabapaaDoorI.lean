/-
  Walks: does the program answer at all; the laws of encoding, decoding and joining. Conditions: at most 2^20 bytes; the library's own number lies in its place.
-/
import Derived.Test.YtndigceamabapaaDoorG
import Derived.Test.YtndigceamabapaaDoorH
namespace Go.Proofs.YtndigceamabapaaDoor
open Go.RowKit

def awakeS : ByteArray := ⟨#[105, 100, 61, 49, 38, 113, 61, 97, 37, 50, 48, 98]⟩
def awakeL : List (List UInt8 × List UInt8) := [([105, 100], [49]), ([113], [97, 32, 98])]
theorem awake_read : readL awakeS.data.toList = some awakeL := by
  have : decide (readL awakeS.data.toList = some awakeL) = true := by kernel_rfl
  exact of_decide_eq_true this
theorem awake_enc : (⟨(enc (⟨#[97, 32, 98, 63]⟩ : ByteArray).data.toList).toArray⟩ : ByteArray) = ⟨#[97, 37, 50, 48, 98, 37, 51, 70]⟩ := by
  have : decide (enc (⟨#[97, 32, 98, 63]⟩ : ByteArray).data.toList = [97, 37, 50, 48, 98, 37, 51, 70]) = true := by kernel_rfl
  rw [of_decide_eq_true this]

theorem awake_calls (m : Int) (w : World) (hm : w.cell? ⟨0, 0, none⟩ = some (.int .i64 m)) : Calls Tryd.prog 11 #[] w fun e w' => e = .returned (.bool true) ∧ Below w.heap.size w w' := by
  have hr : Calls Tryd.prog 13 #[.string awakeS] w fun e w' => ∃ g cap, e = .returned (.tuple #[.slice (some ⟨g, 0, none⟩) 2 cap, .int .i64 0]) ∧ w'.cell? ⟨g, 3, none⟩ = some (.string ⟨#[97, 32, 98]⟩) ∧ Below w.heap.size w w' ∧ g < w'.heap.size := by
    refine (read_calls awakeS (by decide) m w hm).mono ?_
    rintro e w' ⟨v, he, ho⟩
    rw [readE_good awake_read (by decide)] at he
    rw [readV_good awake_read (by decide)] at ho
    rcases ho.own.2 with ⟨_, h⟩ | ⟨g, cap, cur, rfl, _⟩
    · exact absurd h (by decide)
    · refine ⟨g, cap, he, ?_, ho.below, (ho.own.lt _ rfl).2⟩
      have := ho.own.cells rfl 3 (.string ⟨#[97, 32, 98]⟩) rfl
      simpa [Addr.add] using this
  have henc : ∀ w1 : World, Calls Tryd.prog 8 #[.string ⟨#[97, 32, 98, 63]⟩] w1 fun e w' => e = .returned (.string ⟨#[97, 37, 50, 48, 98, 37, 51, 70]⟩) ∧ Below w1.heap.size w1 w' := by
    intro w1
    have h := encode_calls ⟨#[97, 32, 98, 63]⟩ (by decide) w1
    rw [awake_enc] at h
    exact h
  have HR := Lib.hid hr
  have HE := Lib.hid henc
  clear hr henc
  go_enter Tryd.func11, Tryd.ntmps11
  go_wp2_with (first
    | (go_at_call 13; refine (HR.out).mono ?_; rintro e w1 ⟨g, cap, rfl, hc, hb1, hg⟩; have HB1 := Lib.hid hb1; clear hb1)
    | (go_at_call 8; refine (HE.out _).mono ?_; rintro e w2 ⟨rfl, hb2⟩; have HB2 := Lib.hid hb2; clear hb2))
  go_ret
  exact ⟨rfl, below_both HB1.out HB2.out⟩

/-- The library's own number stays in its place. -/
theorem keepM {w w' : World} {m : Int} (hm : w.cell? ⟨0, 0, none⟩ = some (.int .i64 m)) (h : Below w.heap.size w w') : w'.cell? ⟨0, 0, none⟩ = some (.int .i64 m) :=
  (World.cell?_of_block (h.block 0 (World.block_lt_of_cell? w ⟨0, 0, none⟩ hm))).trans hm

theorem mk_toList (s : ByteArray) : (⟨s.data.toList.toArray⟩ : ByteArray) = s := by simp
theorem decenc_calls (s : ByteArray) (hs : s.size ≤ 1048576) (w : World) : Calls Tryd.prog 9 #[.string ⟨(enc s.data.toList).toArray⟩] w fun e w' => e = .returned (.tuple #[.string s, .int .i64 0]) ∧ Below w.heap.size w w' := by
  have hl := enc_length s.data.toList
  have hsl : s.data.toList.length = s.size := by simp
  have h := decode_some (dec_enc s.data.toList) (by omega) w
  rw [mk_toList] at h
  exact h

theorem encodes_calls (s : ByteArray) (hs : s.size ≤ 1048576) (m : Int) (w : World) (hm : w.cell? ⟨0, 0, none⟩ = some (.int .i64 m)) : Calls Tryd.prog 3 #[.string s] w fun e w' => e = .returned (.bool true) ∧ Below w.heap.size w w' := by
  have HM := Lib.hid hm
  have H1 := Lib.hid (fun w1 => encode_calls s (by omega) w1)
  have H2 := Lib.hid (fun w1 => decenc_calls s hs w1)
  have H3 := Lib.hid (fun w1 => refencode_calls s (by omega) w1)
  clear hm hs
  generalize hl : enc s.data.toList = l at *
  clear hl
  go_enter Tryd.func3, Tryd.ntmps3
  go_wp2_with (first
    | (go_at_call 8; refine (H1.out _).mono ?_; rintro e w1 ⟨rfl, hb1⟩; have HB1 := Lib.hid hb1; clear hb1)
    | (go_at_call 9; refine (H2.out _).mono ?_; rintro e w2 ⟨rfl, hb2⟩; have HB2 := Lib.hid (below_both HB1.out hb2); clear hb2)
    | (go_at_call 10; refine (H3.out _).mono ?_; rintro e w3 ⟨rfl, hb3⟩; have HB3 := Lib.hid (below_both HB2.out hb3); clear hb3)
    | (go_at_call 11; refine (awake_calls m _ (keepM HM.out HB3.out)).mono ?_; rintro e w4 ⟨rfl, hb4⟩; have HB4 := Lib.hid (below_both HB3.out hb4); clear hb4))
  go_ret
  exact ⟨rfl, HB4.out⟩

theorem decodes_calls (s : ByteArray) (hs : s.size ≤ 1048576) (m : Int) (w : World) (hm : w.cell? ⟨0, 0, none⟩ = some (.int .i64 m)) : Calls Tryd.prog 4 #[.string s] w fun e w' => e = .returned (.bool true) ∧ Below w.heap.size w w' := by
  have HM := Lib.hid hm
  have hsl : s.data.toList.length = s.size := by simp
  cases hd : dec s.data.toList with
  | none =>
    have H1 := Lib.hid (fun w1 => decode_none hd (by omega) w1)
    have H2 := Lib.hid (fun w1 => refdecode_calls s (by omega) w1)
    rw [hd] at H2
    unfold rdecV at H2
    rw [mk_toList] at H1
    clear hm hs hsl hd
    go_enter Tryd.func4, Tryd.ntmps4
    go_wp2_with (first
      | (go_at_call 9; refine (H1.out _).mono ?_; rintro e w1 ⟨rfl, hb1⟩; have HB1 := Lib.hid hb1; clear hb1)
      | (go_at_call 12; refine (H2.out _).mono ?_; rintro e w2 ⟨rfl, hb2⟩; have HB2 := Lib.hid (below_both HB1.out hb2); clear hb2)
      | (go_at_call 11; refine (awake_calls m _ (keepM HM.out HB2.out)).mono ?_; rintro e w4 ⟨rfl, hb4⟩; have HB4 := Lib.hid (below_both HB2.out hb4); clear hb4))
    go_ret
    exact ⟨rfl, HB4.out⟩
  | some t =>
    have hs2 := Lib.hid (enc_dec _ s.data.toList (Nat.le_refl _) t hd).1
    have hlt := dec_length _ _ hd
    have H1 := Lib.hid (fun w1 => decode_some hd (by omega) w1)
    have H2 := Lib.hid (fun w1 => refdecode_calls s (by omega) w1)
    have H3 := Lib.hid (fun w1 => encode_calls ⟨t.toArray⟩ (by show t.toArray.size ≤ _; simp; omega) w1)
    rw [hd] at H2
    unfold rdecV at H2
    rw [mk_toList] at H1
    rw [show (⟨t.toArray⟩ : ByteArray).data.toList = t from rfl, hs2.out, mk_toList] at H3
    clear hm hs hsl hd hlt hs2
    go_enter Tryd.func4, Tryd.ntmps4
    go_wp2_with (first
      | (go_at_call 9; refine (H1.out _).mono ?_; rintro e w1 ⟨rfl, hb1⟩; have HB1 := Lib.hid hb1; clear hb1)
      | (go_at_call 12; refine (H2.out _).mono ?_; rintro e w2 ⟨rfl, hb2⟩; have HB2 := Lib.hid (below_both HB1.out hb2); clear hb2)
      | (go_at_call 8; refine (H3.out _).mono ?_; rintro e w3 ⟨rfl, hb3⟩; have HB3 := Lib.hid (below_both HB2.out hb3); clear hb3)
      | (go_at_call 11; refine (awake_calls m _ (keepM HM.out HB3.out)).mono ?_; rintro e w4 ⟨rfl, hb4⟩; have HB4 := Lib.hid (below_both HB3.out hb4); clear hb4))
    go_ret
    exact ⟨rfl, HB4.out⟩

theorem joins_calls (a b : ByteArray) (hs : a.size + b.size ≤ 1048576) (m : Int) (w : World) (hm : w.cell? ⟨0, 0, none⟩ = some (.int .i64 m)) : Calls Tryd.prog 5 #[.string a, .string b] w fun e w' => e = .returned (.bool true) ∧ Below w.heap.size w w' := by
  have HM := Lib.hid hm
  have H1 := Lib.hid (fun w1 => encode_calls (a ++ b) (by rw [ByteArray.size_append]; omega) w1)
  have H2 := Lib.hid (fun w1 => encode_calls a (by omega) w1)
  have H3 := Lib.hid (fun w1 => encode_calls b (by omega) w1)
  have e : (⟨(enc (a ++ b).data.toList).toArray⟩ : ByteArray) = ⟨(enc a.data.toList).toArray⟩ ++ ⟨(enc b.data.toList).toArray⟩ := by
    have : (a ++ b).data.toList = a.data.toList ++ b.data.toList := by simp
    rw [this, enc_append]
    apply ByteArray.ext
    simp
  rw [e] at H1
  have hsz : a.size + b.size ≤ 9223372036854775807 := by omega
  have hxy : (⟨(enc a.data.toList).toArray⟩ : ByteArray).size + (⟨(enc b.data.toList).toArray⟩ : ByteArray).size ≤ 9223372036854775807 := by
    have h1 := enc_length a.data.toList
    have h2 := enc_length b.data.toList
    have e1 : (⟨(enc a.data.toList).toArray⟩ : ByteArray).size = (enc a.data.toList).length := by show (enc a.data.toList).toArray.size = _; simp
    have e2 : (⟨(enc b.data.toList).toArray⟩ : ByteArray).size = (enc b.data.toList).length := by show (enc b.data.toList).toArray.size = _; simp
    have l1 : a.data.toList.length = a.size := by simp
    have l2 : b.data.toList.length = b.size := by simp
    omega
  clear hm hs e
  generalize (⟨(enc a.data.toList).toArray⟩ : ByteArray) = x at *
  generalize (⟨(enc b.data.toList).toArray⟩ : ByteArray) = y at *
  go_enter Tryd.func5, Tryd.ntmps5
  go_wp2_with (first
    | (go_at_call_of 8 (a ++ b); refine (H1.out _).mono ?_; rintro e w1 ⟨rfl, hb1⟩; have HB1 := Lib.hid hb1; clear hb1)
    | (go_at_call_of 8 a; refine (H2.out _).mono ?_; rintro e w2 ⟨rfl, hb2⟩; have HB2 := Lib.hid (below_both HB1.out hb2); clear hb2)
    | (go_at_call_of 8 b; refine (H3.out _).mono ?_; rintro e w3 ⟨rfl, hb3⟩; have HB3 := Lib.hid (below_both HB2.out hb3); clear hb3)
    | (go_at_call 11; refine (awake_calls m _ (keepM HM.out HB3.out)).mono ?_; rintro e w4 ⟨rfl, hb4⟩; have HB4 := Lib.hid (below_both HB3.out hb4); clear hb4))
  go_ret
  exact ⟨rfl, HB4.out⟩

end Go.Proofs.YtndigceamabapaaDoor
