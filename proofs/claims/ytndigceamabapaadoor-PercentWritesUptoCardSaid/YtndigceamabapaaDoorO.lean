/-
  Walks: writing pairs, in the program and in the reference. Condition: at most 64 pairs, each text of at most 2^20 bytes.
-/
import Derived.Test.YtndigceamabapaaDoorI
import Derived.Test.YtndigceamabapaaDoorM
namespace Go.Proofs.YtndigceamabapaaDoor
open Go.RowKit

theorem Tryd.info9' : (Tryd.prog.info? 9).map (fun i => (i.zero, i.size, i.bytes)) = some (some (.string ⟨#[]⟩), 1, 16) := by kernel_rfl

theorem encode_list (l : List UInt8) (h : l.length ≤ 1048576) (w : World) : Calls Tryd.prog 8 #[.string ⟨l.toArray⟩] w fun e w' => e = .returned (.string ⟨(enc l).toArray⟩) ∧ Below w.heap.size w w' :=
  encode_calls ⟨l.toArray⟩ (by show l.toArray.size ≤ _; simp; omega) w
theorem refencode_list (l : List UInt8) (h : l.length ≤ 1048576) (w : World) : Calls Tryd.prog 10 #[.string ⟨l.toArray⟩] w fun e w' => e = .returned (.string ⟨(enc l).toArray⟩) ∧ Below w.heap.size w w' :=
  refencode_calls ⟨l.toArray⟩ (by show l.toArray.size ≤ _; simp; omega) w
theorem enc_size (l : List UInt8) (h : l.length ≤ 1048576) : (⟨(enc l).toArray⟩ : ByteArray).size ≤ 3145728 := by
  have := enc_length l
  show (enc l).toArray.size ≤ _
  simp; omega
theorem piece_cat (x : List UInt8 × List UInt8) : (⟨(enc x.1).toArray⟩ ++ ⟨#[61]⟩ : ByteArray) ++ ⟨(enc x.2).toArray⟩ = ⟨(piece x).toArray⟩ := by
  apply ba_eq
  simp [piece]

theorem take_piece (l : Pairs) (k : Nat) (x : List UInt8 × List UInt8) (h : l[k]? = some x) : ((l.take (k + 1)).map piece).map sv = ((l.take k).map piece).map sv ++ [sv (piece x)] := by
  obtain ⟨hk, he⟩ := List.getElem?_eq_some_iff.1 h
  rw [List.take_succ_eq_append_getElem hk, he]; simp
theorem piece_small {l : Pairs} (h : ∀ x ∈ l, x.1.length ≤ 1048576 ∧ x.2.length ≤ 1048576) : ∀ p ∈ l.map piece, p.length ≤ 6291457 := by
  intro p hp
  obtain ⟨x, hx, rfl⟩ := List.mem_map.1 hp
  have h1 := enc_length x.1
  have h2 := enc_length x.2
  have := h x hx
  simp [piece]; omega
theorem join_length (ps : List (List UInt8)) (M : Nat) (h : ∀ p ∈ ps, p.length ≤ M) : (Lib.join ps [38]).length ≤ ps.length * (M + 1) := by
  induction ps with
  | nil => simp [Lib.join, List.intercalate]
  | cons p ps ih =>
    have h1 := h p (List.mem_cons_self ..)
    have ih := ih fun q hq => h q (List.mem_cons_of_mem _ hq)
    cases ps with
    | nil => rw [join_one]; simp; omega
    | cons q r =>
      rw [join_cons]
      simp only [List.length_append, List.length_cons, List.length_nil] at ih ⊢
      rw [Nat.add_mul (r.length + 1) 1]
      omega

theorem join_calls (B : Nat) (a : Option Addr) (c n : Nat) (ps : List (List UInt8)) {W0 w : World} (h : OwnR B 9 1 (.slice a n c) n (ps.map sv) W0 w) (hn : ps.length = n) (hp : ∀ p ∈ ps, p.length ≤ 6291457) (hl : n ≤ 64) :
    Calls Tryd.prog 28 #[.slice a n c, .string ⟨#[38]⟩] w fun e w' => e = .returned (.string ⟨(Lib.join ps [38]).toArray⟩) ∧ Below w.heap.size w w' := by
  rcases h.own.2 with ⟨hv, h0⟩ | ⟨g, cap, cur, hv, hBg, hg, hnc, _⟩
  · subst h0
    have : ps = [] := List.eq_nil_of_length_eq_zero hn
    subst this
    refine (Tryd.strings_Join_none a c ⟨#[38]⟩ w).mono ?_
    rintro e w' ⟨rfl, rfl⟩
    exact ⟨rfl, Below.refl _ _⟩
  · cases hv
    have hc := h.own.cells rfl
    have hj := join_length ps 6291457 hp
    have e1 : (ps.map fun p => (⟨p.toArray⟩ : ByteArray)).map (·.data.toList) = ps := by rw [List.map_map]; simp [Function.comp_def]
    have hmul : ps.length * (6291457 + 1) ≤ 64 * 6291458 := Nat.mul_le_mul (by omega) (Nat.le_refl _)
    have := Tryd.strings_Join g 0 c (ps.map fun p => (⟨p.toArray⟩ : ByteArray)) ⟨#[38]⟩ w (by
      intro j x hx
      rw [List.getElem?_map] at hx
      obtain ⟨p, hp, rfl⟩ := Option.map_eq_some_iff.1 hx
      have := hc j (sv p) (by rw [List.getElem?_map, hp]; rfl)
      rwa [Addr.add_lit] at this) (Array.getElem?_eq_some_iff.1 hg).1 (by simp; omega) (by simp; omega) (by rw [e1]; show (Lib.join ps [38]).length ≤ _; omega)
    rw [e1, List.length_map, hn] at this
    exact this

set_option maxHeartbeats 1000000 in
theorem write_calls (l : Pairs) (a : Option Addr) (c : Nat) (w : World) (hrow : PRow w a l) (hl : l.length ≤ 64) (hx : ∀ x ∈ l, x.1.length ≤ 1048576 ∧ x.2.length ≤ 1048576) : Calls Tryd.prog 18 #[.slice a l.length c] w fun e w' =>
    e = .returned (.tuple #[.string ⟨(writeL l).toArray⟩, .int .i64 0]) ∧ Below w.heap.size w w' := by
  have HR := Lib.hid hrow
  have HX := Lib.hid hx
  clear hrow hx
  generalize hn : l.length = n at *
  have HN := Lib.hid hn
  clear hn
  go_enter Tryd.func18, Tryd.ntmps18
  go_wp2_with fail
  go_loopw [4, 12] (fun v i wr => ∃ k : Nat, k ≤ n ∧ i = .int .i64 k ∧ OwnR w.heap.size 9 1 v k (((l.take k).map piece).map sv) w wr)
    (fun _ i _ => n - (intOf i).toNat)
  case atStart => exact ⟨0, Nat.zero_le _, rfl, OwnR.nil w 9 1⟩
  case round =>
    obtain ⟨k, hk, rfl, hown⟩ := hrel
    have HO := Lib.hid hown
    obtain ⟨ao, co, hv⟩ : ∃ a c, u4 = .slice a k c := by
      rcases hown.own.2 with ⟨rfl, h⟩ | ⟨g, cap, cur, rfl, _⟩
      · exact ⟨_, _, by rw [h]⟩
      · exact ⟨_, _, rfl⟩
    subst hv
    clear hown
    by_cases hkl : k < n
    · obtain ⟨x, hx⟩ : ∃ x, l[k]? = some x := ⟨l[k]'(by have := HN.out; omega), List.getElem?_eq_getElem _⟩
      obtain ⟨g, off, rfl⟩ := HR.out.isSome k (by have := HN.out; omega)
      have HR1 := Lib.hid (HR.out.on HO.out.below)
      have c0 := HR1.out.cell0 g off rfl k x hx
      have c1 := HR1.out.cell1 g off rfl k x hx
      have hgw := HR1.out.lt (by have := HN.out; omega) g off none rfl
      have HXK := Lib.hid hx
      have hxl := HX.out x (List.mem_of_getElem? hx)
      have H1 := Lib.hid (fun w1 => encode_list x.1 hxl.1 w1)
      have H2 := Lib.hid (fun w1 => encode_list x.2 hxl.2 w1)
      have s1 := enc_size x.1 hxl.1
      have s2 := enc_size x.2 hxl.2
      have hcat := piece_cat x
      have hz1 : ¬ 9223372036854775807 < (⟨(enc x.1).toArray⟩ : ByteArray).size + 1 := by omega
      have hz2 : ¬ 9223372036854775807 < (⟨(enc x.1).toArray⟩ : ByteArray).size + 1 + (⟨(enc x.2).toArray⟩ : ByteArray).size := by omega
      clear hx hxl
      generalize (⟨x.1.toArray⟩ : ByteArray) = K at *
      generalize (⟨x.2.toArray⟩ : ByteArray) = V at *
      generalize (⟨(enc x.1).toArray⟩ : ByteArray) = EK at *
      generalize (⟨(enc x.2).toArray⟩ : ByteArray) = EV at *
      generalize hpc : (⟨(piece x).toArray⟩ : ByteArray) = PC at *
      have HPC := Lib.hid hpc
      clear hpc
      have HBX := Lib.hid (heap_alloc_new wr (.cells #[.string K, .string V] 45))
      go_wp2_with fail
      go_region_law (first
        | (refine step_append_new (by rfl) (.tmp 16) (.tmp 25) 47 (by rfl) w.heap.size 9 (.string ⟨#[]⟩) 1 16 Tryd.underlying47 Tryd.info9' rfl (by decide) (.slice ao k co) _ _ (by simp [Act.eval]) w (HO3.out.alloc _) _ 1 [.string PC] (0, 0) (by simp [Act.eval]) (heap_alloc_new _ _) rfl (by simp; rfl) (by omega) ?_; intro v5 w5 hown5; have HO5 := Lib.hid hown5; clear hown5)
        | (go_simp; go_at_call_of 8 K; refine (H1.out _).mono ?_; rintro e w2 ⟨rfl, hb2⟩; have HO2 := Lib.hid ((HO.out.alloc (.cells #[.string K, .string V] 45)).drew.on hb2); have hx2 := (hb2.block wr.heap.size (by simp)).trans HBX.out; have k0 := cell_of_block hx2 0; have k1 := cell_of_block hx2 1; clear hb2 hx2)
        | (go_simp; go_at_call_of 8 V; refine (H2.out _).mono ?_; rintro e w3 ⟨rfl, hb3⟩; have HO3 := Lib.hid (HO2.out.on hb3); clear hb3))
      all_goals
        go_wp2_with fail
        refine ⟨⟨k + 1, by omega, by simp, ?_⟩, by simp [intOf]; omega⟩
        rw [take_piece l k x HXK.out, sv, HPC.out]
        exact HO5.out
    · have hks : k = n := by omega
      subst hks
      have htk : l.take k = l := List.take_of_length_le (by have := HN.out; omega)
      rw [htk] at HO
      have HJ := Lib.hid (join_calls _ ao co k _ HO.out (by simp; have := HN.out; omega) (piece_small HX.out) (by omega))
      have HBB := Lib.hid HO.out.below
      clear htk
      go_wp2_with (go_at_call 28; refine (HJ.out).mono ?_; rintro e w2 ⟨rfl, hb2⟩; have HB2 := Lib.hid (below_both HBB.out hb2); clear hb2)
      exact bodyPost_ret (v := .tuple #[.string ⟨(Lib.join (l.map piece) [38]).toArray⟩, .int .i64 0]) (by simp [results, Tryd.results18, go_sem]) rfl ⟨rfl, HB2.out⟩

theorem write_long (n : Nat) (a : Option Addr) (c : Nat) (w : World) (hl : 64 < n) : Calls Tryd.prog 18 #[.slice a n c] w fun e w' => e = .returned (.tuple #[.string ⟨#[]⟩, .int .i64 3]) ∧ Below w.heap.size w w' := by
  go_enter Tryd.func18, Tryd.ntmps18
  go_wp2_with fail
  exact bodyPost_ret (v := .tuple #[.string ⟨#[]⟩, .int .i64 3]) (by simp [results, Tryd.results18, go_sem]) rfl ⟨rfl, Below.refl _ _⟩
end Go.Proofs.YtndigceamabapaaDoor
