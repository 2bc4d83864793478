/-
  Walk: the program's reading of pairs. Condition: at most 2^20 bytes; the library's own number lies in its place.
-/
import Derived.Test.YtndigceamabapaaDoorF
namespace Go.Proofs.YtndigceamabapaaDoor
open Go.RowKit

theorem Tryd.info45' : (Tryd.prog.info? 45).map (fun i => (i.zero, i.size, i.bytes)) = some (some (.agg #[.string ⟨#[]⟩, .string ⟨#[]⟩]), 2, 32) := by kernel_rfl

/-- A pair's two cells. -/
def pv (x : List UInt8 × List UInt8) : List Value := [.string ⟨x.1.toArray⟩, .string ⟨x.2.toArray⟩]
def pcells (l : List (List UInt8 × List UInt8)) : List Value := l.flatMap pv
theorem pcells_snoc (l : List (List UInt8 × List UInt8)) (x : List UInt8 × List UInt8) : pcells (l ++ [x]) = pcells l ++ pv x := by simp [pcells]

/-- What reading hands back: the pairs, and the error's number. -/
def readV (s : List UInt8) : List (List UInt8 × List UInt8) := match readL s with
  | some l => if 64 < l.length then [] else l
  | none => []
def readE (s : List UInt8) : Int := match readL s with
  | some l => if 64 < l.length then 3 else 0
  | none => 2

def sv (l : List UInt8) : Value := .string ⟨l.toArray⟩

theorem splitB_parts (s : ByteArray) : (Lib.splitB ⟨#[38]⟩ 0 (Lib.countB s ⟨#[38]⟩) s).map Value.string = (parts 38 s.data.toList).map sv := by
  have h := Lib.splitB_data ⟨#[38]⟩ 0 (Lib.countB s ⟨#[38]⟩) s
  have h2 : Lib.splitK (⟨#[38]⟩ : ByteArray).data.toList 0 (Lib.countB s ⟨#[38]⟩) s.data.toList = parts 38 s.data.toList := split_parts 38 s.data.toList
  rw [h2] at h
  rw [← h, List.map_map]
  rfl

theorem split_calls (s : ByteArray) (hs : s.size ≤ 1048576) (m : Int) (w : World) (hm : w.cell? ⟨0, 0, none⟩ = some (.int .i64 m)) : Calls Tryd.prog 25 #[.string s, .string ⟨#[38]⟩] w fun e w' =>
    e = .returned (.slice (some ⟨w.heap.size, 0, none⟩) (parts 38 s.data.toList).length (parts 38 s.data.toList).length) ∧ w' = w.alloc (.cells ((parts 38 s.data.toList).map sv).toArray 9) := by
  have h := Tryd.strings_Split s ⟨#[38]⟩ m w (by omega) hm (by decide)
  have e := splitB_parts s
  have l := congrArg List.length e
  rw [List.length_map, List.length_map, Lib.splitB_all ⟨#[38]⟩ (by decide) 0 _ s rfl] at l
  rw [e, l] at h
  exact h

theorem cut_calls (p : List UInt8) (hp : p.length ≤ 1048576) (m : Int) (w : World) (hm : w.cell? ⟨0, 0, none⟩ = some (.int .i64 m)) : Calls Tryd.prog 26 #[.string ⟨p.toArray⟩, .string ⟨#[61]⟩] w fun e w' =>
    e = .returned (.tuple #[.string ⟨(Lib.cut p [61]).1.toArray⟩, .string ⟨(Lib.cut p [61]).2.1.toArray⟩, .bool (Lib.cut p [61]).2.2]) ∧ Below w.heap.size w w' := by
  have h := Tryd.strings_Cut ⟨p.toArray⟩ ⟨#[61]⟩ m w (by show p.toArray.size < _; simp; omega) hm
  refine h.mono ?_
  rintro e w' ⟨he, n, hw⟩
  refine ⟨by simpa using he, ?_⟩
  rw [hw]; exact below_drewN w n

theorem cut_length (p : List UInt8) : (Lib.cut p [61]).1.length ≤ p.length ∧ (Lib.cut p [61]).2.1.length ≤ p.length := by
  unfold Lib.cut
  split
  · simp; omega
  · simp

theorem decode_none {l : List UInt8} (hd : dec l = none) (h : l.length ≤ 16777216) (w : World) : Calls Tryd.prog 9 #[.string ⟨l.toArray⟩] w fun e w' => e = .returned (.tuple #[.string ⟨#[]⟩, .int .i64 2]) ∧ Below w.heap.size w w' := by
  have h := decode_calls ⟨l.toArray⟩ (by show l.toArray.size ≤ _; simpa using h) w
  refine h.mono ?_
  rintro e w' ⟨he, hb⟩
  exact ⟨by rw [he]; simp only [hd, decV], hb⟩
theorem decode_some {l t : List UInt8} (hd : dec l = some t) (h : l.length ≤ 16777216) (w : World) : Calls Tryd.prog 9 #[.string ⟨l.toArray⟩] w fun e w' => e = .returned (.tuple #[.string ⟨t.toArray⟩, .int .i64 0]) ∧ Below w.heap.size w w' := by
  have h := decode_calls ⟨l.toArray⟩ (by show l.toArray.size ≤ _; simpa using h) w
  refine h.mono ?_
  rintro e w' ⟨he, hb⟩
  exact ⟨by rw [he]; simp only [hd, decV], hb⟩

theorem OwnR.lower {B B' : Nat} {e : TypeId} {sz : Nat} {v : Value} {n : Nat} {xs : List Value} {W0 W1 w : World} (h : OwnR B e sz v n xs W1 w) (hB : B' ≤ B) (hw : Below B' W0 W1) : OwnR B' e sz v n xs W0 w := by
  refine ⟨⟨h.own.1, ?_⟩, ?_, Nat.le_trans hB h.le⟩
  · rcases h.own.2 with hn | ⟨g, cap, cur, rfl, hBg, rest⟩
    · exact .inl hn
    · exact .inr ⟨g, cap, cur, rfl, Nat.le_trans hB hBg, rest⟩
  · exact ⟨h.below.os.trans hw.os, h.below.tape.trans hw.tape, h.below.output.trans hw.output, Nat.le_trans hw.size h.below.size, fun i hi => (h.below.block i (Nat.lt_of_lt_of_le hi hB)).trans (hw.block i hi)⟩

theorem pairsOf_drop (L : List (List UInt8)) (k : Nat) (h : k < L.length) : pairsOf (L.drop k) = match pairOf L[k] with | some x => (pairsOf (L.drop (k + 1))).map (x :: ·) | none => none := by
  rw [List.drop_eq_getElem_cons h]; rfl

theorem parts_length (c : UInt8) : ∀ l : List UInt8, (parts c l).length ≤ l.length + 1 ∧ ∀ p ∈ parts c l, p.length ≤ l.length
  | [] => by simp [parts]
  | b :: l => by
    obtain ⟨h1, h2⟩ := parts_length c l
    unfold parts
    split
    · refine ⟨by simp; omega, ?_⟩
      intro p hp
      rw [List.mem_cons] at hp
      rcases hp with rfl | hp
      · simp
      · have := h2 p hp; simp; omega
    · split
      · next p ps he =>
        rw [he] at h1 h2
        refine ⟨by simp at h1 ⊢; omega, ?_⟩
        intro q hq
        rw [List.mem_cons] at hq
        rcases hq with rfl | hq
        · have := h2 p (List.mem_cons_self ..); simp; omega
        · have := h2 q (List.mem_cons_of_mem _ hq); simp; omega
      · next he => exact absurd he (parts_ne c l)

theorem readE_none {s : List UInt8} (h : readL s = none) : readE s = 2 := by unfold readE; rw [h]
theorem readV_none {s : List UInt8} (h : readL s = none) : readV s = [] := by unfold readV; rw [h]
theorem readE_long {s : List UInt8} {l : List (List UInt8 × List UInt8)} (h : readL s = some l) (hl : 64 < l.length) : readE s = 3 := by unfold readE; rw [h]; exact if_pos hl
theorem readV_long {s : List UInt8} {l : List (List UInt8 × List UInt8)} (h : readL s = some l) (hl : 64 < l.length) : readV s = [] := by unfold readV; rw [h]; exact if_pos hl
theorem readE_good {s : List UInt8} {l : List (List UInt8 × List UInt8)} (h : readL s = some l) (hl : ¬ 64 < l.length) : readE s = 0 := by unfold readE; rw [h]; exact if_neg hl
theorem readV_good {s : List UInt8} {l : List (List UInt8 × List UInt8)} (h : readL s = some l) (hl : ¬ 64 < l.length) : readV s = l := by unfold readV; rw [h]; exact if_neg hl
theorem none_of {s : List UInt8} {L : List (List UInt8)} {k : Nat} {acc : List (List UInt8 × List UInt8)} (hR : readL s = pairsOf L) (hP : pairsOf L = (pairsOf (L.drop k)).map (acc ++ ·)) (hd : pairsOf (L.drop k) = none) : readL s = none := by
  rw [hR, hP, hd]; rfl
theorem some_of {L : List (List UInt8)} {k : Nat} {acc : List (List UInt8 × List UInt8)} {x : List UInt8 × List UInt8} (hP : pairsOf L = (pairsOf (L.drop k)).map (acc ++ ·)) (hd : pairsOf (L.drop k) = (pairsOf (L.drop (k + 1))).map (x :: ·)) :
    pairsOf L = (pairsOf (L.drop (k + 1))).map ((acc ++ [x]) ++ ·) := by
  rw [hP, hd, Option.map_map]
  congr 1
  funext y
  simp
theorem all_of {L : List (List UInt8)} {k : Nat} {acc : List (List UInt8 × List UInt8)} (hP : pairsOf L = (pairsOf (L.drop k)).map (acc ++ ·)) (hk : L.length ≤ k) : pairsOf L = some acc := by
  rw [hP, List.drop_eq_nil_of_le hk]; simp [pairsOf]

/-- What reading hands back of a text that is not empty. -/
theorem read_of (s : List UInt8) (h : s ≠ []) : readL s = pairsOf (parts 38 s) := by unfold readL; rw [if_neg h]

set_option maxHeartbeats 1000000 in
theorem read_calls (s : ByteArray) (hs : s.size ≤ 1048576) (m : Int) (w : World) (hm : w.cell? ⟨0, 0, none⟩ = some (.int .i64 m)) : Calls Tryd.prog 13 #[.string s] w fun e w' =>
    ∃ v, e = .returned (.tuple #[v, .int .i64 (readE s.data.toList)]) ∧ OwnR w.heap.size 45 2 v (readV s.data.toList).length (pcells (readV s.data.toList)) w w' := by
  have h00 : 0 < w.heap.size := World.block_lt_of_cell? w ⟨0, 0, none⟩ hm
  by_cases h0 : s.data.toList = []
  · have hem : s.toList.isEmpty = true := by rw [ByteArray.toList_eq, h0]; rfl
    have e1 : readE s.data.toList = 0 := by rw [h0]; rfl
    have e2 : readV s.data.toList = [] := by rw [h0]; rfl
    rw [e1, e2]
    clear h0 e1 e2
    go_enter Tryd.func13, Tryd.ntmps13
    go_wp2_with fail
    refine bodyPost_ret (v := .tuple #[.slice none 0 0, .int .i64 0]) (by simp [results, Tryd.results13, go_sem]) rfl ⟨_, rfl, OwnR.nil _ _ _⟩
  · have hem : s.toList.isEmpty = false := by rw [ByteArray.toList_eq]; cases h : s.data.toList with | nil => exact absurd h h0 | cons _ _ => rfl
    have hR := Lib.hid (read_of _ h0)
    have hlen := parts_length 38 s.data.toList
    have hsl : s.data.toList.length = s.size := by simp
    have hsz := Lib.hid hs
    have HM := Lib.hid hm
    have hpl := Lib.hid hlen.2
    have hL : (parts 38 s.data.toList).length ≤ 1048577 := by omega
    have hsp := Lib.hid (split_calls s hs m w hm)
    generalize hLL : parts 38 s.data.toList = L at *
    have HL := Lib.hid hLL
    have HSL := Lib.hid hsl
    clear h0 hlen hsl hs hLL hm
    go_enter Tryd.func13, Tryd.ntmps13
    go_wp2_with (go_at_call 25; refine (hsp.out).mono ?_; rintro e w1 ⟨rfl, rfl⟩)
    have hc := Lib.hid (heap_alloc_new w (.cells (L.map sv).toArray 9))
    have hw := Lib.hid ((Below.refl w.heap.size w).alloc (Nat.le_refl _) (.cells (L.map sv).toArray 9))
    have hws : (w.alloc (.cells (L.map sv).toArray 9)).heap.size = w.heap.size + 1 := by simp
    generalize hW : w.alloc (.cells (L.map sv).toArray 9) = W at *
    clear hW hsp
    go_loopw [4, 19] (fun v i wr => ∃ (k : Nat) (acc : List (List UInt8 × List UInt8)), k ≤ L.length ∧ i = .int .i64 k ∧ OwnR (w.heap.size + 1) 45 2 v acc.length (pcells acc) W wr ∧ acc.length = k ∧ pairsOf L = (pairsOf (L.drop k)).map (acc ++ ·))
      (fun _ i _ => L.length - (intOf i).toNat)
    case atStart => exact ⟨0, [], Nat.zero_le _, rfl, by rw [← hws]; exact OwnR.nil _ _ _, rfl, by simp⟩
    case round =>
      obtain ⟨k, acc, hk, rfl, hown, hacc, hpairs⟩ := hrel
      have HO := Lib.hid hown
      have HA := Lib.hid hacc
      have HP := Lib.hid hpairs
      clear hpairs hacc
      by_cases hkl : k < L.length
      · have hcell : wr.cell? ⟨w.heap.size, k, none⟩ = some (sv L[k]) := by
          have hb := hown.below.block w.heap.size (by omega)
          rw [hc.out] at hb
          rw [cell_of_row wr w.heap.size k _ 9 (0, 0) hb]
          simp [hkl]
        have hmr : wr.cell? ⟨0, 0, none⟩ = some (.int .i64 m) := by
          have hb := hown.below.block 0 (by omega)
          have hb2 := hw.out.block 0 h00
          rw [World.cell?_of_block (w := w) (hb.trans hb2)]; exact HM.out
        have hpl1 : L[k].length ≤ 1048576 := by
          have := hpl.out L[k] (List.getElem_mem hkl)
          have := HSL.out; have := hsz.out; omega
        have hdrop := Lib.hid (pairsOf_drop L k hkl)
        generalize L[k] = p at *
        have hcl := cut_length p
        have hc1 := Lib.hid hcl.1
        have hc2 := Lib.hid hcl.2
        have HPL := Lib.hid hpl1
        have HMR := Lib.hid hmr
        unfold sv at hcell
        obtain ⟨ao, no, co, rfl⟩ : ∃ a n c, u4 = .slice a n c := by
          rcases hown.own.2 with ⟨rfl, _⟩ | ⟨g, cap, cur, rfl, _⟩ <;> exact ⟨_, _, _, rfl⟩
        clear hcl hmr hown hpl1
        have hpo : pairOf p = if (Lib.cut p [61]).2.2 then (match dec (Lib.cut p [61]).1, dec (Lib.cut p [61]).2.1 with | some k, some v => some (k, v) | _, _ => none) else none := rfl
        have HPO := Lib.hid hpo
        have hcut := Lib.hid (cut_calls p HPL.out m wr HMR.out)
        clear hpo
        generalize (Lib.cut p [61]).1 = c1 at *
        generalize (Lib.cut p [61]).2.1 = c2 at *
        generalize (Lib.cut p [61]).2.2 = c3 at *
        cases h1 : dec c1 with
        | none =>
          replace h1 := Lib.hid h1
          cases h2 : dec c2 with
          | none =>
            replace h2 := Lib.hid h2
            have hnone := Lib.hid (none_of hR.out HP.out (hdrop.out.trans (by rw [HPO.out]; simp [h1.out])))
            go_wp2_with (first
              | (go_at_call 26; refine (hcut.out).mono ?_; rintro e w2 ⟨rfl, hb2⟩; have HO2 := Lib.hid (HO.out.on hb2); clear hb2)
              | (go_at_call_of 9 c1; refine (decode_none h1.out (by have := hc1.out; have := HPL.out; omega) _).mono ?_; rintro e w3 ⟨rfl, hb3⟩; have HO3 := Lib.hid (HO2.out.on hb3); clear hb3)
              | (go_at_call_of 9 c2; refine (decode_none h2.out (by have := hc2.out; have := HPL.out; omega) _).mono ?_; rintro e w4 ⟨rfl, hb4⟩; have HO4 := Lib.hid (HO3.out.on hb4); clear hb4))
            all_goals
              refine bodyPost_ret (v := .tuple #[.slice none 0 0, .int .i64 2]) (by simp [results, Tryd.results13, go_sem]) rfl ⟨.slice none 0 0, ?_, ?_⟩
              · rw [readE_none hnone.out]
              · rw [readV_none hnone.out]; exact ⟨World.ownsRow_nil _ _ _ _, (HO4.out.lower (B' := w.heap.size) (by omega) hw.out).below, (HO4.out.lower (B' := w.heap.size) (by omega) hw.out).le⟩
          | some t2 =>
            replace h2 := Lib.hid h2
            have hnone := Lib.hid (none_of hR.out HP.out (hdrop.out.trans (by rw [HPO.out]; simp [h1.out])))
            go_wp2_with (first
              | (go_at_call 26; refine (hcut.out).mono ?_; rintro e w2 ⟨rfl, hb2⟩; have HO2 := Lib.hid (HO.out.on hb2); clear hb2)
              | (go_at_call_of 9 c1; refine (decode_none h1.out (by have := hc1.out; have := HPL.out; omega) _).mono ?_; rintro e w3 ⟨rfl, hb3⟩; have HO3 := Lib.hid (HO2.out.on hb3); clear hb3)
              | (go_at_call_of 9 c2; refine (decode_some h2.out (by have := hc2.out; have := HPL.out; omega) _).mono ?_; rintro e w4 ⟨rfl, hb4⟩; have HO4 := Lib.hid (HO3.out.on hb4); clear hb4))
            all_goals
              refine bodyPost_ret (v := .tuple #[.slice none 0 0, .int .i64 2]) (by simp [results, Tryd.results13, go_sem]) rfl ⟨.slice none 0 0, ?_, ?_⟩
              · rw [readE_none hnone.out]
              · rw [readV_none hnone.out]; exact ⟨World.ownsRow_nil _ _ _ _, (HO4.out.lower (B' := w.heap.size) (by omega) hw.out).below, (HO4.out.lower (B' := w.heap.size) (by omega) hw.out).le⟩
        | some t1 =>
          replace h1 := Lib.hid h1
          cases h2 : dec c2 with
          | none =>
            replace h2 := Lib.hid h2
            have hnone := Lib.hid (none_of hR.out HP.out (hdrop.out.trans (by rw [HPO.out]; simp [h2.out])))
            go_wp2_with (first
              | (go_at_call 26; refine (hcut.out).mono ?_; rintro e w2 ⟨rfl, hb2⟩; have HO2 := Lib.hid (HO.out.on hb2); clear hb2)
              | (go_at_call_of 9 c1; refine (decode_some h1.out (by have := hc1.out; have := HPL.out; omega) _).mono ?_; rintro e w3 ⟨rfl, hb3⟩; have HO3 := Lib.hid (HO2.out.on hb3); clear hb3)
              | (go_at_call_of 9 c2; refine (decode_none h2.out (by have := hc2.out; have := HPL.out; omega) _).mono ?_; rintro e w4 ⟨rfl, hb4⟩; have HO4 := Lib.hid (HO3.out.on hb4); clear hb4))
            all_goals
              refine bodyPost_ret (v := .tuple #[.slice none 0 0, .int .i64 2]) (by simp [results, Tryd.results13, go_sem]) rfl ⟨.slice none 0 0, ?_, ?_⟩
              · rw [readE_none hnone.out]
              · rw [readV_none hnone.out]; exact ⟨World.ownsRow_nil _ _ _ _, (HO4.out.lower (B' := w.heap.size) (by omega) hw.out).below, (HO4.out.lower (B' := w.heap.size) (by omega) hw.out).le⟩
          | some t2 =>
            replace h2 := Lib.hid h2
            cases c3 with
            | false =>
              have hnone := Lib.hid (none_of hR.out HP.out (hdrop.out.trans (by rw [HPO.out]; simp)))
              go_wp2_with (first
                | (go_at_call 26; refine (hcut.out).mono ?_; rintro e w2 ⟨rfl, hb2⟩; have HO2 := Lib.hid (HO.out.on hb2); clear hb2)
                | (go_at_call_of 9 c1; refine (decode_some h1.out (by have := hc1.out; have := HPL.out; omega) _).mono ?_; rintro e w3 ⟨rfl, hb3⟩; have HO3 := Lib.hid (HO2.out.on hb3); clear hb3)
                | (go_at_call_of 9 c2; refine (decode_some h2.out (by have := hc2.out; have := HPL.out; omega) _).mono ?_; rintro e w4 ⟨rfl, hb4⟩; have HO4 := Lib.hid (HO3.out.on hb4); clear hb4))
              all_goals
                refine bodyPost_ret (v := .tuple #[.slice none 0 0, .int .i64 2]) (by simp [results, Tryd.results13, go_sem]) rfl ⟨.slice none 0 0, ?_, ?_⟩
                · rw [readE_none hnone.out]
                · rw [readV_none hnone.out]; exact ⟨World.ownsRow_nil _ _ _ _, (HO4.out.lower (B' := w.heap.size) (by omega) hw.out).below, (HO4.out.lower (B' := w.heap.size) (by omega) hw.out).le⟩
            | true =>
              have hgood := Lib.hid (some_of HP.out (hdrop.out.trans (by rw [HPO.out]; simp [h1.out, h2.out]; rfl)))
              go_wp2_with (first
                | (go_at_call 26; refine (hcut.out).mono ?_; rintro e w2 ⟨rfl, hb2⟩; have HO2 := Lib.hid (HO.out.on hb2); clear hb2)
                | (go_at_call_of 9 c1; refine (decode_some h1.out (by have := hc1.out; have := HPL.out; omega) _).mono ?_; rintro e w3 ⟨rfl, hb3⟩; have HO3 := Lib.hid (HO2.out.on hb3); clear hb3)
                | (go_at_call_of 9 c2; refine (decode_some h2.out (by have := hc2.out; have := HPL.out; omega) _).mono ?_; rintro e w4 ⟨rfl, hb4⟩; have HO4 := Lib.hid (HO3.out.on hb4); clear hb4)
                | (at_builtin; refine wpList_append_new rfl (.tmp 49) (.tmp 53) 31 rfl (w.heap.size + 1) 45 (.agg #[.string ⟨#[]⟩, .string ⟨#[]⟩]) 2 32 Tryd.underlying31 Tryd.info45' rfl (by decide) _ _ _ rfl W (HO4.out.alloc _) _ 1 (pv (t1, t2)) (0, 0) rfl (heap_alloc_new _ _) rfl (by simp [pv]; exact ⟨rfl, rfl⟩) (by have := HA.out; omega) ?_; intro v5 w5 hown5; have HO5 := Lib.hid hown5; clear hown5))
              refine ⟨⟨k + 1, acc ++ [(t1, t2)], by omega, by simp, ?_, by have := HA.out; simp; omega, hgood.out⟩, by simp [intOf]; omega⟩
              rw [pcells_snoc, List.length_append]
              exact HO5.out
      · have hks : k = L.length := by omega
        have hall := Lib.hid (all_of HP.out (by omega))
        have HOL := Lib.hid (hown.lower (B' := w.heap.size) (by omega) hw.out)
        obtain ⟨ao, no, co, hv⟩ : ∃ a n c, u4 = .slice a n c := by
          rcases hown.own.2 with ⟨rfl, _⟩ | ⟨g, cap, cur, rfl, _⟩ <;> exact ⟨_, _, _, rfl⟩
        have hno : no = acc.length := by
          rcases hown.own.2 with ⟨e, e2⟩ | ⟨g, cap, cur, e, _⟩ <;> (rw [e] at hv; cases hv)
          · omega
          · rfl
        subst hv
        subst hno
        clear hown
        have HR := Lib.hid (hR.out.trans hall.out)
        by_cases h64 : 64 < acc.length
        · go_wp2_with fail
          refine bodyPost_ret (v := .tuple #[.slice none 0 0, .int .i64 3]) (by simp [results, Tryd.results13, go_sem]) rfl ⟨.slice none 0 0, ?_, ?_⟩
          · rw [readE_long HR.out h64]
          · rw [readV_long HR.out h64]; exact ⟨World.ownsRow_nil _ _ _ _, HOL.out.below, HOL.out.le⟩
        · go_wp2_with fail
          refine bodyPost_ret (v := .tuple #[.slice ao acc.length co, .int .i64 0]) (by simp [results, Tryd.results13, go_sem]) rfl ⟨.slice ao acc.length co, ?_, ?_⟩
          · rw [readE_good HR.out h64]
          · rw [readV_good HR.out h64]; exact HOL.out
end Go.Proofs.YtndigceamabapaaDoor
