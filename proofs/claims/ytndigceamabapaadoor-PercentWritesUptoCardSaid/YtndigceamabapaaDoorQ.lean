/-
  Walk: the reference's writing of pairs. Condition: at most 64 pairs, each text of at most 2^20 bytes.
-/
import Derived.Test.YtndigceamabapaaDoorO
import Derived.Deep.RegionHeld3
namespace Go.Proofs.YtndigceamabapaaDoor
open Go.RowKit

theorem join_take (l : Pairs) (k : Nat) (x : List UInt8 × List UInt8) (h : l[k]? = some x) (hk : 0 < k) : Lib.join ((l.take (k + 1)).map piece) [38] = Lib.join ((l.take k).map piece) [38] ++ [38] ++ piece x := by
  obtain ⟨hkl, he⟩ := List.getElem?_eq_some_iff.1 h
  rw [List.take_succ_eq_append_getElem hkl, he, List.map_append]
  exact join_snoc [38] (piece x) _ (by
    intro e
    have := congrArg List.length e
    simp at this
    rcases this with h | h
    · omega
    · rw [h] at hkl; exact absurd hkl (by simp))
theorem join_first (l : Pairs) (x : List UInt8 × List UInt8) (h : l[0]? = some x) : Lib.join ((l.take 1).map piece) [38] = piece x := by
  cases l with
  | nil => simp at h
  | cons y l => simp at h; subst h; exact join_one _ _

theorem cat_first (l : Pairs) (k : Nat) (x : List UInt8 × List UInt8) (h : l[k]? = some x) (hk : k = 0) {O EK EV : ByteArray} (hO : (⟨(Lib.join ((l.take k).map piece) [38]).toArray⟩ : ByteArray) = O) (hK : (⟨(enc x.1).toArray⟩ : ByteArray) = EK) (hV : (⟨(enc x.2).toArray⟩ : ByteArray) = EV) :
    O ++ EK ++ ⟨#[61]⟩ ++ EV = ⟨(Lib.join ((l.take (k + 1)).map piece) [38]).toArray⟩ := by
  subst hk
  rw [Nat.zero_add, join_first l x h, ← hO, ← hK, ← hV]
  apply ba_eq
  simp [piece, Lib.join, List.intercalate]
theorem cat_next (l : Pairs) (k : Nat) (x : List UInt8 × List UInt8) (h : l[k]? = some x) (hk : 0 < k) {O EK EV : ByteArray} (hO : (⟨(Lib.join ((l.take k).map piece) [38]).toArray⟩ : ByteArray) = O) (hK : (⟨(enc x.1).toArray⟩ : ByteArray) = EK) (hV : (⟨(enc x.2).toArray⟩ : ByteArray) = EV) :
    O ++ ⟨#[38]⟩ ++ EK ++ ⟨#[61]⟩ ++ EV = ⟨(Lib.join ((l.take (k + 1)).map piece) [38]).toArray⟩ := by
  rw [join_take l k x h hk, ← hO, ← hK, ← hV]
  apply ba_eq
  simp [piece]

set_option maxHeartbeats 1000000 in
theorem refwrite_calls (l : Pairs) (a : Option Addr) (c : Nat) (w : World) (hrow : PRow w a l) (hl : l.length ≤ 64) (hx : ∀ x ∈ l, x.1.length ≤ 1048576 ∧ x.2.length ≤ 1048576) : Calls Tryd.prog 19 #[.slice a l.length c] w fun e w' =>
    e = .returned (.string ⟨(writeL l).toArray⟩) ∧ Below w.heap.size w w' := by
  have HR := Lib.hid hrow
  have HX := Lib.hid hx
  clear hrow hx
  generalize hn : l.length = n at *
  have HN := Lib.hid hn
  clear hn
  go_enter Tryd.func19, Tryd.ntmps19
  go_wp2_with fail
  go_loopw [3, 4] (fun v i wr => ∃ k : Nat, k ≤ n ∧ i = .int .i64 k ∧ v = .string ⟨(Lib.join ((l.take k).map piece) [38]).toArray⟩ ∧ Below w.heap.size w wr)
    (fun _ i _ => n - (intOf i).toNat)
  case atStart => exact ⟨0, Nat.zero_le _, rfl, rfl, Below.refl _ _⟩
  case round =>
    obtain ⟨k, hk, rfl, rfl, hb⟩ := hrel
    have HB := Lib.hid hb
    clear hb
    by_cases hkl : k < n
    · obtain ⟨x, hx⟩ : ∃ x, l[k]? = some x := ⟨l[k]'(by have := HN.out; omega), List.getElem?_eq_getElem _⟩
      obtain ⟨g, off, rfl⟩ := HR.out.isSome k (by have := HN.out; omega)
      have HR1 := Lib.hid (HR.out.on HB.out)
      have c0 := HR1.out.cell0 g off rfl k x hx
      have c1 := HR1.out.cell1 g off rfl k x hx
      have hgw := HR1.out.lt (by have := HN.out; omega) g off none rfl
      have HXK := Lib.hid hx
      have hxl := HX.out x (List.mem_of_getElem? hx)
      have H1 := Lib.hid (fun w1 => refencode_list x.1 hxl.1 w1)
      have H2 := Lib.hid (fun w1 => refencode_list x.2 hxl.2 w1)
      have s1 := enc_size x.1 hxl.1
      have s2 := enc_size x.2 hxl.2
      have s3 : (⟨(Lib.join ((l.take k).map piece) [38]).toArray⟩ : ByteArray).size ≤ 402653312 := by
        have h1 := join_length ((l.take k).map piece) 6291457 (piece_small fun y hy => HX.out y (List.mem_of_mem_take hy))
        have h2 : ((l.take k).map piece).length * (6291457 + 1) ≤ 64 * 6291458 := Nat.mul_le_mul (by simp; omega) (Nat.le_refl _)
        show (Lib.join ((l.take k).map piece) [38]).toArray.size ≤ _
        simp only [List.size_toArray]
        omega
      clear hx hxl
      generalize hO : (⟨(Lib.join ((l.take k).map piece) [38]).toArray⟩ : ByteArray) = O at *
      generalize hEK : (⟨(enc x.1).toArray⟩ : ByteArray) = EK at *
      generalize hEV : (⟨(enc x.2).toArray⟩ : ByteArray) = EV at *
      generalize (⟨x.1.toArray⟩ : ByteArray) = K at *
      generalize (⟨x.2.toArray⟩ : ByteArray) = V at *
      have HO := Lib.hid hO
      have HEK := Lib.hid hEK
      have HEV := Lib.hid hEV
      clear hO hEK hEV
      have b0 : (0 : Int) ≤ (k : Int) := by omega
      have b1 : (k : Int) < (n : Int) := by omega
      by_cases hk0 : k = 0
      · have hk1 : (k : Int) ≤ 0 := by omega
        have hz1 : ¬ 9223372036854775807 < O.size + EK.size := by omega
        have hz2 : ¬ 9223372036854775807 < O.size + EK.size + 1 := by omega
        have hz3 : ¬ 9223372036854775807 < O.size + EK.size + 1 + EV.size := by omega
        have HK0 := Lib.hid hk0
        clear hk0
        go_wp2_with fail
        go_region_held3 (fun w' => w'.cell? ⟨g, off + k * 2, none⟩ = some (.string K) ∧ w'.cell? ⟨g, off + k * 2 + 1, none⟩ = some (.string V))
          (first | go_keep | exact ⟨d0, d1⟩ | exact ⟨e0, e1⟩)
          (first
            | (go_at_call_of 10 K; refine (H1.out _).mono ?_; rintro e w2 ⟨rfl, hb2⟩; have HB2 := Lib.hid (below_both HB.out.drew hb2); have d0 := (hb2.cell (p := ⟨g, off + k * 2, none⟩) hgw).trans c0; have d1 := (hb2.cell (p := ⟨g, off + k * 2 + 1, none⟩) hgw).trans c1; have hgw2 : g < w2.heap.size := Nat.lt_of_lt_of_le hgw hb2.size; clear hb2)
            | (go_at_call_of 10 V; refine (H2.out _).mono ?_; rintro e w3 ⟨rfl, hb3⟩; have HB3 := Lib.hid (below_both HB2.out hb3); have e0 := (hb3.cell (p := ⟨g, off + k * 2, none⟩) hgw2).trans d0; have e1 := (hb3.cell (p := ⟨g, off + k * 2 + 1, none⟩) hgw2).trans d1; clear hb3))
        all_goals
          go_wp2_with fail
          refine ⟨⟨k + 1, by omega, by simp, ?_, HB3.out⟩, by simp [intOf]; omega⟩
          rw [cat_first l k x HXK.out HK0.out HO.out HEK.out HEV.out]
      · have hkp : 0 < k := by omega
        have HKP := Lib.hid hkp
        have hz0 : O.size + 1 ≤ 402653313 := by omega
        clear hk0
        go_wp2_with fail
        generalize hO2 : O ++ (⟨#[38]⟩ : ByteArray) = O2 at *
        have hs2 : O2.size ≤ 402653313 := by rw [← hO2, ByteArray.size_append]; exact hz0
        have HO2 := Lib.hid hO2
        clear hO2
        have hz1 : ¬ 9223372036854775807 < O2.size + EK.size := by omega
        have hz2 : ¬ 9223372036854775807 < O2.size + EK.size + 1 := by omega
        have hz3 : ¬ 9223372036854775807 < O2.size + EK.size + 1 + EV.size := by omega
        go_region_held3 (fun w' => w'.cell? ⟨g, off + k * 2, none⟩ = some (.string K) ∧ w'.cell? ⟨g, off + k * 2 + 1, none⟩ = some (.string V))
          (first | go_keep | exact ⟨d0, d1⟩ | exact ⟨e0, e1⟩)
          (first
            | (go_at_call_of 10 K; refine (H1.out _).mono ?_; rintro e w2 ⟨rfl, hb2⟩; have HB2 := Lib.hid (below_both HB.out.drew hb2); have d0 := (hb2.cell (p := ⟨g, off + k * 2, none⟩) hgw).trans c0; have d1 := (hb2.cell (p := ⟨g, off + k * 2 + 1, none⟩) hgw).trans c1; have hgw2 : g < w2.heap.size := Nat.lt_of_lt_of_le hgw hb2.size; clear hb2)
            | (go_at_call_of 10 V; refine (H2.out _).mono ?_; rintro e w3 ⟨rfl, hb3⟩; have HB3 := Lib.hid (below_both HB2.out hb3); have e0 := (hb3.cell (p := ⟨g, off + k * 2, none⟩) hgw2).trans d0; have e1 := (hb3.cell (p := ⟨g, off + k * 2 + 1, none⟩) hgw2).trans d1; clear hb3))
        all_goals
          go_wp2_with fail
          refine ⟨⟨k + 1, by omega, by simp, ?_, HB3.out⟩, by simp [intOf]; omega⟩
          rw [← HO2.out, cat_next l k x HXK.out HKP.out HO.out HEK.out HEV.out]
    · have hks : k = n := by omega
      subst hks
      have htk : l.take k = l := List.take_of_length_le (by have := HN.out; omega)
      rw [htk]
      clear htk
      go_wp2_with fail
      go_ret
      exact ⟨rfl, HB.out⟩
end Go.Proofs.YtndigceamabapaaDoor
