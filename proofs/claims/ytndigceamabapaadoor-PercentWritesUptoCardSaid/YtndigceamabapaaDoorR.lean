/-
  Walk: the program's reading of pairs, again, of at most 2^22 bytes; the law of writing. Condition: at most 2^22 bytes written; the library's own number lies in its place.
-/
import Derived.Test.YtndigceamabapaaDoorN
import Derived.Test.YtndigceamabapaaDoorQ
namespace Go.Proofs.YtndigceamabapaaDoor
open Go.RowKit

theorem split_calls4 (s : ByteArray) (hs : s.size ≤ 4194304) (m : Int) (w : World) (hm : w.cell? ⟨0, 0, none⟩ = some (.int .i64 m)) : Calls Tryd.prog 25 #[.string s, .string ⟨#[38]⟩] w fun e w' =>
    e = .returned (.slice (some ⟨w.heap.size, 0, none⟩) (parts 38 s.data.toList).length (parts 38 s.data.toList).length) ∧ w' = w.alloc (.cells ((parts 38 s.data.toList).map sv).toArray 9) := by
  have h := Tryd.strings_Split s ⟨#[38]⟩ m w (by omega) hm (by decide)
  have e := splitB_parts s
  have l := congrArg List.length e
  rw [List.length_map, List.length_map, Lib.splitB_all ⟨#[38]⟩ (by decide) 0 _ s rfl] at l
  rw [e, l] at h
  exact h

theorem cut_calls4 (p : List UInt8) (hp : p.length ≤ 4194304) (m : Int) (w : World) (hm : w.cell? ⟨0, 0, none⟩ = some (.int .i64 m)) : Calls Tryd.prog 26 #[.string ⟨p.toArray⟩, .string ⟨#[61]⟩] w fun e w' =>
    e = .returned (.tuple #[.string ⟨(Lib.cut p [61]).1.toArray⟩, .string ⟨(Lib.cut p [61]).2.1.toArray⟩, .bool (Lib.cut p [61]).2.2]) ∧ Below w.heap.size w w' := by
  have h := Tryd.strings_Cut ⟨p.toArray⟩ ⟨#[61]⟩ m w (by show p.toArray.size < _; simp; omega) hm
  refine h.mono ?_
  rintro e w' ⟨he, n, hw⟩
  refine ⟨by simpa using he, ?_⟩
  rw [hw]; exact below_drewN w n

set_option maxHeartbeats 1000000 in
theorem read_calls4 (s : ByteArray) (hs : s.size ≤ 4194304) (m : Int) (w : World) (hm : w.cell? ⟨0, 0, none⟩ = some (.int .i64 m)) : Calls Tryd.prog 13 #[.string s] w fun e w' =>
    ∃ v, e = .returned (.tuple #[v, .int .i64 (readE s.data.toList)]) ∧ OwnR w.heap.size 45 2 v (readV s.data.toList).length (pcells (readV s.data.toList)) w w' := by
  have h00 : 0 < w.heap.size := World.block_lt_of_cell? w ⟨0, 0, none⟩ hm
  by_cases h0 : s.data.toList = []
  · have hem : s.toList.isEmpty = true := by rw [ByteArray.toList_eq, h0]; rfl
    have e1 : readE s.data.toList = 0 := by rw [h0]; rfl
    have e2 : readV s.data.toList = [] := by rw [h0]; rfl
    rw [e1, e2]
    clear h0 e1 e2
    go_enter Tryd.func13, Tryd.ntmps13
    go_wp2_with fail
    refine bodyPost_ret (v := .tuple #[.slice none 0 0, .int .i64 0]) (by simp [results, Tryd.results13, go_sem]) rfl ⟨_, rfl, OwnR.nil _ _ _⟩
  · have hem : s.toList.isEmpty = false := by rw [ByteArray.toList_eq]; cases h : s.data.toList with | nil => exact absurd h h0 | cons _ _ => rfl
    have hR := Lib.hid (read_of _ h0)
    have hlen := parts_length 38 s.data.toList
    have hsl : s.data.toList.length = s.size := by simp
    have hsz := Lib.hid hs
    have HM := Lib.hid hm
    have hpl := Lib.hid hlen.2
    have hL : (parts 38 s.data.toList).length ≤ 4194305 := by omega
    have hsp := Lib.hid (split_calls4 s hs m w hm)
    generalize hLL : parts 38 s.data.toList = L at *
    have HL := Lib.hid hLL
    have HSL := Lib.hid hsl
    clear h0 hlen hsl hs hLL hm
    go_enter Tryd.func13, Tryd.ntmps13
    go_wp2_with (go_at_call 25; refine (hsp.out).mono ?_; rintro e w1 ⟨rfl, rfl⟩)
    have hc := Lib.hid (heap_alloc_new w (.cells (L.map sv).toArray 9))
    have hw := Lib.hid ((Below.refl w.heap.size w).alloc (Nat.le_refl _) (.cells (L.map sv).toArray 9))
    have hws : (w.alloc (.cells (L.map sv).toArray 9)).heap.size = w.heap.size + 1 := by simp
    generalize hW : w.alloc (.cells (L.map sv).toArray 9) = W at *
    clear hW hsp
    go_loopw [4, 19] (fun v i wr => ∃ (k : Nat) (acc : List (List UInt8 × List UInt8)), k ≤ L.length ∧ i = .int .i64 k ∧ OwnR (w.heap.size + 1) 45 2 v acc.length (pcells acc) W wr ∧ acc.length = k ∧ pairsOf L = (pairsOf (L.drop k)).map (acc ++ ·))
      (fun _ i _ => L.length - (intOf i).toNat)
    case atStart => exact ⟨0, [], Nat.zero_le _, rfl, by rw [← hws]; exact OwnR.nil _ _ _, rfl, by simp⟩
    case round =>
      obtain ⟨k, acc, hk, rfl, hown, hacc, hpairs⟩ := hrel
      have HO := Lib.hid hown
      have HA := Lib.hid hacc
      have HP := Lib.hid hpairs
      clear hpairs hacc
      by_cases hkl : k < L.length
      · have hcell : wr.cell? ⟨w.heap.size, k, none⟩ = some (sv L[k]) := by
          have hb := hown.below.block w.heap.size (by omega)
          rw [hc.out] at hb
          rw [cell_of_row wr w.heap.size k _ 9 (0, 0) hb]
          simp [hkl]
        have hmr : wr.cell? ⟨0, 0, none⟩ = some (.int .i64 m) := by
          have hb := hown.below.block 0 (by omega)
          have hb2 := hw.out.block 0 h00
          rw [World.cell?_of_block (w := w) (hb.trans hb2)]; exact HM.out
        have hpl1 : L[k].length ≤ 4194304 := by
          have := hpl.out L[k] (List.getElem_mem hkl)
          have := HSL.out; have := hsz.out; omega
        have hdrop := Lib.hid (pairsOf_drop L k hkl)
        generalize L[k] = p at *
        have hcl := cut_length p
        have hc1 := Lib.hid hcl.1
        have hc2 := Lib.hid hcl.2
        have HPL := Lib.hid hpl1
        have HMR := Lib.hid hmr
        unfold sv at hcell
        obtain ⟨ao, no, co, rfl⟩ : ∃ a n c, u4 = .slice a n c := by
          rcases hown.own.2 with ⟨rfl, _⟩ | ⟨g, cap, cur, rfl, _⟩ <;> exact ⟨_, _, _, rfl⟩
        clear hcl hmr hown hpl1
        have hpo : pairOf p = if (Lib.cut p [61]).2.2 then (match dec (Lib.cut p [61]).1, dec (Lib.cut p [61]).2.1 with | some k, some v => some (k, v) | _, _ => none) else none := rfl
        have HPO := Lib.hid hpo
        have hcut := Lib.hid (cut_calls4 p HPL.out m wr HMR.out)
        clear hpo
        generalize (Lib.cut p [61]).1 = c1 at *
        generalize (Lib.cut p [61]).2.1 = c2 at *
        generalize (Lib.cut p [61]).2.2 = c3 at *
        cases h1 : dec c1 with
        | none =>
          replace h1 := Lib.hid h1
          cases h2 : dec c2 with
          | none =>
            replace h2 := Lib.hid h2
            have hnone := Lib.hid (none_of hR.out HP.out (hdrop.out.trans (by rw [HPO.out]; simp [h1.out])))
            go_wp2_with (first
              | (go_at_call 26; refine (hcut.out).mono ?_; rintro e w2 ⟨rfl, hb2⟩; have HO2 := Lib.hid (HO.out.on hb2); clear hb2)
              | (go_at_call_of 9 c1; refine (decode_none h1.out (by have := hc1.out; have := HPL.out; omega) _).mono ?_; rintro e w3 ⟨rfl, hb3⟩; have HO3 := Lib.hid (HO2.out.on hb3); clear hb3)
              | (go_at_call_of 9 c2; refine (decode_none h2.out (by have := hc2.out; have := HPL.out; omega) _).mono ?_; rintro e w4 ⟨rfl, hb4⟩; have HO4 := Lib.hid (HO3.out.on hb4); clear hb4))
            all_goals
              refine bodyPost_ret (v := .tuple #[.slice none 0 0, .int .i64 2]) (by simp [results, Tryd.results13, go_sem]) rfl ⟨.slice none 0 0, ?_, ?_⟩
              · rw [readE_none hnone.out]
              · rw [readV_none hnone.out]; exact ⟨World.ownsRow_nil _ _ _ _, (HO4.out.lower (B' := w.heap.size) (by omega) hw.out).below, (HO4.out.lower (B' := w.heap.size) (by omega) hw.out).le⟩
          | some t2 =>
            replace h2 := Lib.hid h2
            have hnone := Lib.hid (none_of hR.out HP.out (hdrop.out.trans (by rw [HPO.out]; simp [h1.out])))
            go_wp2_with (first
              | (go_at_call 26; refine (hcut.out).mono ?_; rintro e w2 ⟨rfl, hb2⟩; have HO2 := Lib.hid (HO.out.on hb2); clear hb2)
              | (go_at_call_of 9 c1; refine (decode_none h1.out (by have := hc1.out; have := HPL.out; omega) _).mono ?_; rintro e w3 ⟨rfl, hb3⟩; have HO3 := Lib.hid (HO2.out.on hb3); clear hb3)
              | (go_at_call_of 9 c2; refine (decode_some h2.out (by have := hc2.out; have := HPL.out; omega) _).mono ?_; rintro e w4 ⟨rfl, hb4⟩; have HO4 := Lib.hid (HO3.out.on hb4); clear hb4))
            all_goals
              refine bodyPost_ret (v := .tuple #[.slice none 0 0, .int .i64 2]) (by simp [results, Tryd.results13, go_sem]) rfl ⟨.slice none 0 0, ?_, ?_⟩
              · rw [readE_none hnone.out]
              · rw [readV_none hnone.out]; exact ⟨World.ownsRow_nil _ _ _ _, (HO4.out.lower (B' := w.heap.size) (by omega) hw.out).below, (HO4.out.lower (B' := w.heap.size) (by omega) hw.out).le⟩
        | some t1 =>
          replace h1 := Lib.hid h1
          cases h2 : dec c2 with
          | none =>
            replace h2 := Lib.hid h2
            have hnone := Lib.hid (none_of hR.out HP.out (hdrop.out.trans (by rw [HPO.out]; simp [h2.out])))
            go_wp2_with (first
              | (go_at_call 26; refine (hcut.out).mono ?_; rintro e w2 ⟨rfl, hb2⟩; have HO2 := Lib.hid (HO.out.on hb2); clear hb2)
              | (go_at_call_of 9 c1; refine (decode_some h1.out (by have := hc1.out; have := HPL.out; omega) _).mono ?_; rintro e w3 ⟨rfl, hb3⟩; have HO3 := Lib.hid (HO2.out.on hb3); clear hb3)
              | (go_at_call_of 9 c2; refine (decode_none h2.out (by have := hc2.out; have := HPL.out; omega) _).mono ?_; rintro e w4 ⟨rfl, hb4⟩; have HO4 := Lib.hid (HO3.out.on hb4); clear hb4))
            all_goals
              refine bodyPost_ret (v := .tuple #[.slice none 0 0, .int .i64 2]) (by simp [results, Tryd.results13, go_sem]) rfl ⟨.slice none 0 0, ?_, ?_⟩
              · rw [readE_none hnone.out]
              · rw [readV_none hnone.out]; exact ⟨World.ownsRow_nil _ _ _ _, (HO4.out.lower (B' := w.heap.size) (by omega) hw.out).below, (HO4.out.lower (B' := w.heap.size) (by omega) hw.out).le⟩
          | some t2 =>
            replace h2 := Lib.hid h2
            cases c3 with
            | false =>
              have hnone := Lib.hid (none_of hR.out HP.out (hdrop.out.trans (by rw [HPO.out]; simp)))
              go_wp2_with (first
                | (go_at_call 26; refine (hcut.out).mono ?_; rintro e w2 ⟨rfl, hb2⟩; have HO2 := Lib.hid (HO.out.on hb2); clear hb2)
                | (go_at_call_of 9 c1; refine (decode_some h1.out (by have := hc1.out; have := HPL.out; omega) _).mono ?_; rintro e w3 ⟨rfl, hb3⟩; have HO3 := Lib.hid (HO2.out.on hb3); clear hb3)
                | (go_at_call_of 9 c2; refine (decode_some h2.out (by have := hc2.out; have := HPL.out; omega) _).mono ?_; rintro e w4 ⟨rfl, hb4⟩; have HO4 := Lib.hid (HO3.out.on hb4); clear hb4))
              all_goals
                refine bodyPost_ret (v := .tuple #[.slice none 0 0, .int .i64 2]) (by simp [results, Tryd.results13, go_sem]) rfl ⟨.slice none 0 0, ?_, ?_⟩
                · rw [readE_none hnone.out]
                · rw [readV_none hnone.out]; exact ⟨World.ownsRow_nil _ _ _ _, (HO4.out.lower (B' := w.heap.size) (by omega) hw.out).below, (HO4.out.lower (B' := w.heap.size) (by omega) hw.out).le⟩
            | true =>
              have hgood := Lib.hid (some_of HP.out (hdrop.out.trans (by rw [HPO.out]; simp [h1.out, h2.out]; rfl)))
              go_wp2_with (first
                | (go_at_call 26; refine (hcut.out).mono ?_; rintro e w2 ⟨rfl, hb2⟩; have HO2 := Lib.hid (HO.out.on hb2); clear hb2)
                | (go_at_call_of 9 c1; refine (decode_some h1.out (by have := hc1.out; have := HPL.out; omega) _).mono ?_; rintro e w3 ⟨rfl, hb3⟩; have HO3 := Lib.hid (HO2.out.on hb3); clear hb3)
                | (go_at_call_of 9 c2; refine (decode_some h2.out (by have := hc2.out; have := HPL.out; omega) _).mono ?_; rintro e w4 ⟨rfl, hb4⟩; have HO4 := Lib.hid (HO3.out.on hb4); clear hb4)
                | (at_builtin; refine wpList_append_new rfl (.tmp 49) (.tmp 53) 31 rfl (w.heap.size + 1) 45 (.agg #[.string ⟨#[]⟩, .string ⟨#[]⟩]) 2 32 Tryd.underlying31 Tryd.info45' rfl (by decide) _ _ _ rfl W (HO4.out.alloc _) _ 1 (pv (t1, t2)) (0, 0) rfl (heap_alloc_new _ _) rfl (by simp [pv]; exact ⟨rfl, rfl⟩) (by have := HA.out; omega) ?_; intro v5 w5 hown5; have HO5 := Lib.hid hown5; clear hown5))
              refine ⟨⟨k + 1, acc ++ [(t1, t2)], by omega, by simp, ?_, by have := HA.out; simp; omega, hgood.out⟩, by simp [intOf]; omega⟩
              rw [pcells_snoc, List.length_append]
              exact HO5.out
      · have hks : k = L.length := by omega
        have hall := Lib.hid (all_of HP.out (by omega))
        have HOL := Lib.hid (hown.lower (B' := w.heap.size) (by omega) hw.out)
        obtain ⟨ao, no, co, hv⟩ : ∃ a n c, u4 = .slice a n c := by
          rcases hown.own.2 with ⟨rfl, _⟩ | ⟨g, cap, cur, rfl, _⟩ <;> exact ⟨_, _, _, rfl⟩
        have hno : no = acc.length := by
          rcases hown.own.2 with ⟨e, e2⟩ | ⟨g, cap, cur, e, _⟩ <;> (rw [e] at hv; cases hv)
          · omega
          · rfl
        subst hv
        subst hno
        clear hown
        have HR := Lib.hid (hR.out.trans hall.out)
        by_cases h64 : 64 < acc.length
        · go_wp2_with fail
          refine bodyPost_ret (v := .tuple #[.slice none 0 0, .int .i64 3]) (by simp [results, Tryd.results13, go_sem]) rfl ⟨.slice none 0 0, ?_, ?_⟩
          · rw [readE_long HR.out h64]
          · rw [readV_long HR.out h64]; exact ⟨World.ownsRow_nil _ _ _ _, HOL.out.below, HOL.out.le⟩
        · go_wp2_with fail
          refine bodyPost_ret (v := .tuple #[.slice ao acc.length co, .int .i64 0]) (by simp [results, Tryd.results13, go_sem]) rfl ⟨.slice ao acc.length co, ?_, ?_⟩
          · rw [readE_good HR.out h64]
          · rw [readV_good HR.out h64]; exact HOL.out
theorem write_short (l : Pairs) (hl : l.length ≤ 64) : readE (writeL l) = 0 ∧ readV (writeL l) = l := by
  have h := read_write l
  exact ⟨readE_good h (by omega), readV_good h (by omega)⟩

set_option maxHeartbeats 1000000 in
theorem writes_short (l : Pairs) (a : Option Addr) (c : Nat) (hl : l.length ≤ 64) (hx : ∀ x ∈ l, x.1.length ≤ 1048576 ∧ x.2.length ≤ 1048576) (hw : (writeL l).length ≤ 4194304) (m : Int) (w : World) (hrow : PRow w a l) (hm : w.cell? ⟨0, 0, none⟩ = some (.int .i64 m)) :
    Calls Tryd.prog 7 #[.slice a l.length c] w fun e w' => e = .returned (.bool true) ∧ Below w.heap.size w w' := by
  have HM := Lib.hid hm
  have HR := Lib.hid hrow
  have H1 := Lib.hid (fun (w1 : World) h => write_calls l a c w1 h hl hx)
  have H2 := Lib.hid (fun (w1 : World) h => refwrite_calls l a c w1 h hl hx)
  have H3 := Lib.hid (fun (w1 : World) h => read_calls4 ⟨(writeL l).toArray⟩ (by show (writeL l).toArray.size ≤ _; simpa using hw) m w1 h)
  rw [show (⟨(writeL l).toArray⟩ : ByteArray).data.toList = writeL l from rfl, (write_short l hl).1, (write_short l hl).2] at H3
  clear hm hrow hx hw
  generalize (⟨(writeL l).toArray⟩ : ByteArray) = S at *
  have hl2 : l.length ≤ 2097152 := by omega
  have HS := Lib.hid (fun a2 c2 (w1 : World) h1 h2 => same_calls l a2 a c2 c w1 h1 h2 hl2)
  clear hl2
  have HRow := Lib.hid (fun v (w1 w2 : World) (h : OwnR w1.heap.size 45 2 v l.length (pcells l) w1 w2) => h.row)
  generalize l.length = n at *
  go_enter Tryd.func7, Tryd.ntmps7
  go_wp2_with (first
    | (go_at_call 18; refine (H1.out _ HR.out).mono ?_; rintro e w1 ⟨rfl, hb1⟩; have HB1 := Lib.hid hb1; clear hb1)
    | (go_at_call 19; refine (H2.out _ (HR.out.on HB1.out)).mono ?_; rintro e w2 ⟨rfl, hb2⟩; have HB2 := Lib.hid (below_both HB1.out hb2); clear hb2)
    | (go_at_call 13; refine (H3.out _ (keepM HM.out HB2.out)).mono ?_; rintro e w3 ⟨v3, rfl, ho3⟩; have HB3 := Lib.hid (below_both HB2.out ho3.below); obtain ⟨a3, c3, rfl, hr3⟩ := HRow.out _ _ _ ho3; have HR3 := Lib.hid hr3; clear ho3 hr3)
    | (go_at_call 17; refine (HS.out a3 c3 _ HR3.out (HR.out.on HB3.out)).mono ?_; rintro e w4 ⟨rfl, hb4⟩; have HB4 := Lib.hid (below_both HB3.out hb4); clear hb4)
    | (go_at_call 11; refine (awake_calls m _ (keepM HM.out HB4.out)).mono ?_; rintro e w5 ⟨rfl, hb5⟩; have HB5 := Lib.hid (below_both HB4.out hb5); clear hb5))
  go_ret
  exact ⟨rfl, HB5.out⟩

theorem writes_long (n : Nat) (a : Option Addr) (c : Nat) (hl : 64 < n) (m : Int) (w : World) (hm : w.cell? ⟨0, 0, none⟩ = some (.int .i64 m)) :
    Calls Tryd.prog 7 #[.slice a n c] w fun e w' => e = .returned (.bool true) ∧ Below w.heap.size w w' := by
  have HM := Lib.hid hm
  have H1 := Lib.hid (fun (w1 : World) => write_long n a c w1 hl)
  clear hm
  go_enter Tryd.func7, Tryd.ntmps7
  go_wp2_with (first
    | (go_at_call 18; refine (H1.out _).mono ?_; rintro e w1 ⟨rfl, hb1⟩; have HB1 := Lib.hid hb1; clear hb1)
    | (go_at_call 11; refine (awake_calls m _ (keepM HM.out HB1.out)).mono ?_; rintro e w5 ⟨rfl, hb5⟩; have HB5 := Lib.hid (below_both HB1.out hb5); clear hb5))
  go_ret
  exact ⟨rfl, HB5.out⟩

end Go.Proofs.YtndigceamabapaaDoor
