/-
  Walks: the value of a key in a list of pairs, in the program and in the reference; two lists that are the same. Condition: at most 2^21 pairs.
-/
import Derived.Test.YtndigceamabapaaDoorK
namespace Go.Proofs.YtndigceamabapaaDoor
open Go.RowKit

abbrev Pairs := List (List UInt8 × List UInt8)

/-- A list of pairs, as it lies in memory. -/
structure PRow (w : World) (a : Option Addr) (l : Pairs) : Prop where
  isSome : ∀ j, j < l.length → ∃ g off, a = some ⟨g, off, none⟩
  lt : 0 < l.length → ∀ g off s, a = some ⟨g, off, s⟩ → g < w.heap.size
  cell0 : ∀ g off, a = some ⟨g, off, none⟩ → ∀ j x, l[j]? = some x → w.cell? ⟨g, off + j * 2, none⟩ = some (.string ⟨x.1.toArray⟩)
  cell1 : ∀ g off, a = some ⟨g, off, none⟩ → ∀ j x, l[j]? = some x → w.cell? ⟨g, off + j * 2 + 1, none⟩ = some (.string ⟨x.2.toArray⟩)

theorem PRow.on {w w' : World} {a : Option Addr} {l : Pairs} (h : PRow w a l) (hb : Below w.heap.size w w') : PRow w' a l :=
  ⟨h.isSome, fun hl g off s e => Nat.lt_of_lt_of_le (h.lt hl g off s e) hb.size,
    fun g off e j x hx => (World.cell?_of_block (hb.block g (h.lt (by have := (List.getElem?_eq_some_iff.1 hx).1; omega) g off _ e))).trans (h.cell0 g off e j x hx),
    fun g off e j x hx => (World.cell?_of_block (hb.block g (h.lt (by have := (List.getElem?_eq_some_iff.1 hx).1; omega) g off _ e))).trans (h.cell1 g off e j x hx)⟩

theorem pcells_at (l : Pairs) (j : Nat) (x : List UInt8 × List UInt8) (h : l[j]? = some x) : (pcells l)[j * 2]? = some (.string ⟨x.1.toArray⟩) ∧ (pcells l)[j * 2 + 1]? = some (.string ⟨x.2.toArray⟩) := by
  induction l generalizing j with
  | nil => simp at h
  | cons y l ih =>
    cases j with
    | zero => simp at h; subst h; exact ⟨rfl, rfl⟩
    | succ j =>
      have := ih j (by simpa using h)
      rw [show (j + 1) * 2 = j * 2 + 2 by omega]
      exact this

theorem OwnR.row {B : Nat} {v : Value} {l : Pairs} {W0 w : World} (h : OwnR B 45 2 v l.length (pcells l) W0 w) : ∃ a c, v = .slice a l.length c ∧ PRow w a l := by
  rcases h.own.2 with ⟨rfl, hn⟩ | ⟨g, cap, cur, rfl, hBg, hg, _⟩
  · refine ⟨none, 0, by rw [hn], ⟨(fun j hj => by omega), (fun _ g off s e => nomatch e), (fun g off e => nomatch e), (fun g off e => nomatch e)⟩⟩
  · have hc := h.own.cells rfl
    refine ⟨_, cap, rfl, ⟨fun j _ => ⟨g, 0, rfl⟩, fun _ g' off s e => by cases e; exact (Array.getElem?_eq_some_iff.1 hg).1, fun g' off e j x hx => ?_, fun g' off e j x hx => ?_⟩⟩
    · cases e
      have := hc _ _ (pcells_at l j x hx).1
      rwa [Addr.add_lit] at this
    · cases e
      have := hc _ _ (pcells_at l j x hx).2
      rwa [Addr.add_lit] at this

theorem getN_take (l : Pairs) (key : List UInt8) (k : Nat) (x : List UInt8 × List UInt8) (h : l[k]? = some x) : getN (l.take (k + 1)) key = getN (l.take k) key + (if x.1 == key then 1 else 0) := by
  obtain ⟨hk, he⟩ := List.getElem?_eq_some_iff.1 h
  rw [List.take_succ_eq_append_getElem hk, he]
  unfold getN
  rw [List.filter_append, List.length_append]
  cases hx : x.1 == key <;> simp [hx]
theorem getV_take (l : Pairs) (key : List UInt8) (k : Nat) (x : List UInt8 × List UInt8) (h : l[k]? = some x) : getV (l.take (k + 1)) key = if x.1 == key then x.2 else getV (l.take k) key := by
  obtain ⟨hk, he⟩ := List.getElem?_eq_some_iff.1 h
  rw [List.take_succ_eq_append_getElem hk, he]
  unfold getV
  rw [List.filter_append]
  cases hx : x.1 == key <;> simp [hx]
theorem getN_le (l : Pairs) (key : List UInt8) : getN l key ≤ l.length := List.length_filter_le _ _

/-- What looking up hands back. -/
def getT (l : Pairs) (key : List UInt8) : ByteArray := if getN l key = 1 then ⟨(getV l key).toArray⟩ else ⟨#[]⟩
def getE (l : Pairs) (key : List UInt8) : Int := if getN l key = 1 then 0 else 2

set_option maxHeartbeats 1000000 in
theorem get_calls (l : Pairs) (key : ByteArray) (a : Option Addr) (c : Nat) (w : World) (hrow : PRow w a l) (hl : l.length ≤ 2097152) : Calls Tryd.prog 15 #[.slice a l.length c, .string key] w fun e w' =>
    e = .returned (.tuple #[.string (getT l key.data.toList), .int .i64 (getE l key.data.toList)]) ∧ Below w.heap.size w w' := by
  have HR := Lib.hid hrow
  clear hrow
  generalize hn : l.length = n at *
  have HN := Lib.hid hn
  clear hn
  go_enter Tryd.func15, Tryd.ntmps15
  go_wp2_with fail
  go_loopw [6, 7, 12] (fun m v i wr => ∃ k : Nat, k ≤ n ∧ i = .int .i64 k ∧ m = .int .i64 (getN (l.take k) key.data.toList : Nat) ∧ v = .string ⟨(getV (l.take k) key.data.toList).toArray⟩ ∧ Below w.heap.size w wr)
    (fun _ _ i _ => n - (intOf i).toNat)
  case atStart => exact ⟨0, Nat.zero_le _, rfl, rfl, rfl, Below.refl _ _⟩
  case round =>
    obtain ⟨k, hk, rfl, rfl, rfl, hb⟩ := hrel
    have HB := Lib.hid hb
    clear hb
    by_cases hkl : k < n
    · obtain ⟨x, hx⟩ : ∃ x, l[k]? = some x := ⟨l[k]'(by have := HN.out; omega), List.getElem?_eq_getElem _⟩
      obtain ⟨g, off, rfl⟩ := HR.out.isSome k (by have := HN.out; omega)
      have c0 := ((HR.out.on HB.out).cell0 g off rfl k x hx)
      have c1 := ((HR.out.on HB.out).cell1 g off rfl k x hx)
      have hgw := (HR.out.on HB.out).lt (by have := HN.out; omega) g off none rfl
      have HX := Lib.hid hx
      have hle := getN_le (l.take k) key.data.toList
      have hlt : getN (l.take k) key.data.toList ≤ 2097152 := by simp at hle; omega
      clear hx hle
      have HB1 := Lib.hid (below_both HB.out ((Below.refl wr.heap.size wr).alloc (Nat.le_refl _) (.cells #[.string ⟨x.1.toArray⟩, .string ⟨x.2.toArray⟩] 45)))
      go_wp2_with fail
      · have hk : (x.1 == key.toList) = true := by assumption
        rw [ByteArray.toList_eq] at hk
        refine ⟨⟨k + 1, by omega, by simp, ?_, ?_, HB1.out⟩, by simp [intOf]; omega⟩
        · rw [getN_take l _ k x HX.out, if_pos hk]; push_cast; rfl
        · rw [getV_take l _ k x HX.out, if_pos hk]
      · have hk : (x.1 == key.toList) = false := by assumption
        rw [ByteArray.toList_eq] at hk
        refine ⟨⟨k + 1, by omega, by simp, ?_, ?_, HB1.out⟩, by simp [intOf]; omega⟩
        · rw [getN_take l _ k x HX.out, if_neg (by rw [hk]; decide)]; rfl
        · rw [getV_take l _ k x HX.out, if_neg (by rw [hk]; decide)]
    · have htk : l.take k = l := List.take_of_length_le (by have := HN.out; omega)
      rw [htk]
      by_cases h1 : getN l key.data.toList = 1
      · have E1 := Lib.hid (show getT l key.data.toList = ⟨(getV l key.data.toList).toArray⟩ from if_pos h1)
        have E2 := Lib.hid (show getE l key.data.toList = 0 from if_pos h1)
        have hbn : (((getN l key.data.toList : Nat) : Int) == 1) = true := by rw [beq_iff_eq]; omega
        have hbn2 : (((getN l key.data.toList : Nat) : Int) != 1) = false := by rw [h1]; rfl
        clear htk h1
        go_wp2_with fail
        exact bodyPost_ret (v := .tuple #[.string ⟨(getV l key.data.toList).toArray⟩, .int .i64 0]) (by simp [results, Tryd.results15, go_sem]) rfl ⟨by rw [E1.out, E2.out], HB.out⟩
      · have E1 := Lib.hid (show getT l key.data.toList = ⟨#[]⟩ from if_neg h1)
        have E2 := Lib.hid (show getE l key.data.toList = 2 from if_neg h1)
        have hbn : (((getN l key.data.toList : Nat) : Int) == 1) = false := by rw [beq_eq_false_iff_ne]; omega
        have hbn2 : (((getN l key.data.toList : Nat) : Int) != 1) = true := by rw [bne_iff_ne]; omega
        clear htk h1
        go_wp2_with fail
        exact bodyPost_ret (v := .tuple #[.string ⟨#[]⟩, .int .i64 2]) (by simp [results, Tryd.results15, go_sem]) rfl ⟨by rw [E1.out, E2.out], HB.out⟩

set_option maxHeartbeats 1000000 in
theorem refget_calls (l : Pairs) (key : ByteArray) (a : Option Addr) (c : Nat) (w : World) (hrow : PRow w a l) (hl : l.length ≤ 2097152) : Calls Tryd.prog 16 #[.slice a l.length c, .string key] w fun e w' =>
    e = .returned (.tuple #[.string (getT l key.data.toList), .int .i64 (getE l key.data.toList)]) ∧ Below w.heap.size w w' := by
  have HR := Lib.hid hrow
  clear hrow
  generalize hn : l.length = n at *
  have HN := Lib.hid hn
  clear hn
  go_enter Tryd.func16, Tryd.ntmps16
  go_wp2_with fail
  go_loopw [6, 7, 8] (fun v m i wr => ∃ k : Nat, k ≤ n ∧ i = .int .i64 k ∧ m = .int .i64 (getN (l.take k) key.data.toList : Nat) ∧ v = .string ⟨(getV (l.take k) key.data.toList).toArray⟩ ∧ wr = w)
    (fun _ _ i _ => n - (intOf i).toNat)
  case atStart => exact ⟨0, Nat.zero_le _, rfl, rfl, rfl, rfl⟩
  case round =>
    obtain ⟨k, hk, rfl, rfl, rfl, rfl⟩ := hrel
    have HB := Lib.hid (Below.refl wr.heap.size wr)
    by_cases hkl : k < n
    · obtain ⟨x, hx⟩ : ∃ x, l[k]? = some x := ⟨l[k]'(by have := HN.out; omega), List.getElem?_eq_getElem _⟩
      obtain ⟨g, off, rfl⟩ := HR.out.isSome k (by have := HN.out; omega)
      have c0 := (HR.out.cell0 g off rfl k x hx)
      have c1 := (HR.out.cell1 g off rfl k x hx)
      have hgw := HR.out.lt (by have := HN.out; omega) g off none rfl
      have HX := Lib.hid hx
      have hle := getN_le (l.take k) key.data.toList
      have hlt : getN (l.take k) key.data.toList ≤ 2097152 := by simp at hle; omega
      clear hx hle
      go_wp2_with fail
      · have hk : (x.1 == key.toList) = true := by assumption
        rw [ByteArray.toList_eq] at hk
        refine ⟨⟨k + 1, by omega, by simp, ?_, ?_, trivial⟩, by simp [intOf]; omega⟩
        · rw [getN_take l _ k x HX.out, if_pos hk]; push_cast; rfl
        · rw [getV_take l _ k x HX.out, if_pos hk]
      · have hk : (x.1 == key.toList) = false := by assumption
        rw [ByteArray.toList_eq] at hk
        refine ⟨⟨k + 1, by omega, by simp, ?_, ?_, trivial⟩, by simp [intOf]; omega⟩
        · rw [getN_take l _ k x HX.out, if_neg (by rw [hk]; decide)]; rfl
        · rw [getV_take l _ k x HX.out, if_neg (by rw [hk]; decide)]
    · have htk : l.take k = l := List.take_of_length_le (by have := HN.out; omega)
      rw [htk]
      by_cases h1 : getN l key.data.toList = 1
      · have E1 := Lib.hid (show getT l key.data.toList = ⟨(getV l key.data.toList).toArray⟩ from if_pos h1)
        have E2 := Lib.hid (show getE l key.data.toList = 0 from if_pos h1)
        have hbn : (((getN l key.data.toList : Nat) : Int) == 1) = true := by rw [beq_iff_eq]; omega
        have hbn2 : (((getN l key.data.toList : Nat) : Int) != 1) = false := by rw [h1]; rfl
        clear htk h1
        go_wp2_with fail
        exact bodyPost_ret (v := .tuple #[.string ⟨(getV l key.data.toList).toArray⟩, .int .i64 0]) (by simp [results, Tryd.results16, go_sem]) rfl ⟨by rw [E1.out, E2.out], HB.out⟩
      · have E1 := Lib.hid (show getT l key.data.toList = ⟨#[]⟩ from if_neg h1)
        have E2 := Lib.hid (show getE l key.data.toList = 2 from if_neg h1)
        have hbn : (((getN l key.data.toList : Nat) : Int) == 1) = false := by rw [beq_eq_false_iff_ne]; omega
        have hbn2 : (((getN l key.data.toList : Nat) : Int) != 1) = true := by rw [bne_iff_ne]; omega
        clear htk h1
        go_wp2_with fail
        exact bodyPost_ret (v := .tuple #[.string ⟨#[]⟩, .int .i64 2]) (by simp [results, Tryd.results16, go_sem]) rfl ⟨by rw [E1.out, E2.out], HB.out⟩

end Go.Proofs.YtndigceamabapaaDoor
