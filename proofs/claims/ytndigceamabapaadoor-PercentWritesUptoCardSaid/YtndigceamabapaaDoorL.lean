/-
  Walk: the reference's reading of pairs. Condition: at most 2^20 bytes.
-/
import Derived.Test.YtndigceamabapaaDoorK
namespace Go.Proofs.YtndigceamabapaaDoor
open Go.RowKit

theorem mem_piece {p : List UInt8} {f k : Nat} (hno : ∀ j, f ≤ j → j < k → p[j]? ≠ some 38) : ∀ x ∈ (p.drop f).take (k - f), x ≠ 38 := by
  intro x hx
  obtain ⟨j, hj, rfl⟩ := List.getElem_of_mem hx
  rw [List.length_take, List.length_drop] at hj
  intro e
  rw [List.getElem_take, List.getElem_drop] at e
  exact hno (f + j) (by omega) (by omega) (by rw [List.getElem?_eq_getElem (by omega), e])
theorem parts_from_hit {p : List UInt8} {f k : Nat} (hf : f ≤ k) (hk : p[k]? = some 38) (hno : ∀ j, f ≤ j → j < k → p[j]? ≠ some 38) :
    parts 38 (p.drop f) = ((p.drop f).take (k - f)) :: parts 38 (p.drop (k + 1)) := by
  obtain ⟨h, he⟩ := List.getElem?_eq_some_iff.1 hk
  have e : p.drop f = (p.drop f).take (k - f) ++ 38 :: p.drop (k + 1) := by
    rw [← he, ← List.drop_eq_getElem_cons h]
    have : p.drop k = (p.drop f).drop (k - f) := by rw [List.drop_drop]; congr 1; omega
    rw [this, List.take_append_drop]
  have := parts_hit 38 (p.drop (k + 1)) _ (mem_piece hno)
  rw [← e] at this
  exact this
theorem parts_from_end {p : List UInt8} {f n : Nat} (hn : p.length = n) (hno : ∀ j, f ≤ j → j < n → p[j]? ≠ some 38) :
    parts 38 (p.drop f) = [(p.drop f).take (n - f)] := by
  have e : p.drop f = (p.drop f).take (n - f) := by rw [List.take_of_length_le (by simp; omega)]
  have := parts_none 38 _ (mem_piece hno)
  rw [← e] at this
  rw [← e]
  exact this

theorem heap_alloc_new2 (w : World) (o o' : Obj) : ((w.alloc o).alloc o').heap[w.heap.size + 1]? = some o' := by
  have := heap_alloc_new (w.alloc o) o'
  simpa using this

set_option maxHeartbeats 1000000 in
theorem refread_calls (s : ByteArray) (hs : s.size ≤ 1048576) (w : World) : Calls Tryd.prog 14 #[.string s] w fun e w' =>
    ∃ v, e = .returned (.tuple #[v, .int .i64 (readE s.data.toList)]) ∧ OwnR w.heap.size 45 2 v (readV s.data.toList).length (pcells (readV s.data.toList)) w w' := by
  by_cases h0 : s.data.toList = []
  · have hem : s.toList.isEmpty = true := by rw [ByteArray.toList_eq, h0]; rfl
    have e1 : readE s.data.toList = 0 := by rw [h0]; rfl
    have e2 : readV s.data.toList = [] := by rw [h0]; rfl
    rw [e1, e2]
    clear h0 e1 e2
    go_enter Tryd.func14, Tryd.ntmps14
    go_wp2_with fail
    refine bodyPost_ret (v := .tuple #[.slice (some ⟨w.heap.size, 0, none⟩) 0 0, .int .i64 0]) (by simp [results, Tryd.results14, go_sem]) rfl ⟨_, rfl, OwnR.made _ _ _⟩
  · have hem : s.toList.isEmpty = false := by rw [ByteArray.toList_eq]; cases h : s.data.toList with | nil => exact absurd h h0 | cons _ _ => rfl
    have hR := Lib.hid (read_of _ h0)
    have HSZ := Lib.hid (show s.data.toList.length = s.size by simp)
    have HAT := Lib.hid (show ∀ (k : Nat) (h : k < s.size), s.data.toList[k]? = some s[k] from fun k h => by rw [List.getElem?_eq_getElem (by simpa using h), Array.getElem_toList]; rfl)
    have HX := Lib.hid (show ∀ f k : Nat, (s.extract f k).data.toList = (s.data.toList.drop f).take (k - f) from fun f k => Lib.extract_data s f k)
    have HXS := Lib.hid (show ∀ f k : Nat, k ≤ s.size → (s.extract f k).size ≤ 1048576 from fun f k h => by rw [ByteArray.size_extract]; omega)
    clear h0
    generalize s.data.toList = p at *
    go_enter Tryd.func14, Tryd.ntmps14
    go_wp2_with fail
    have hstart := Lib.hid (OwnR.made w 45 2)
    generalize w.alloc (.cells #[] 45) = W at *
    go_loopw [4, 5, 6] (fun v f i wr => ∃ (k from' : Nat) (acc : List (List UInt8 × List UInt8)), k ≤ s.size + 1 ∧ f = .int .i64 from' ∧ i = .int .i64 k ∧ from' ≤ k ∧ acc.length ≤ k ∧ OwnR w.heap.size 45 2 v acc.length (pcells acc) w wr ∧
        (k ≤ s.size → pairsOf (parts 38 p) = (pairsOf (parts 38 (p.drop from'))).map (acc ++ ·) ∧ ∀ j, from' ≤ j → j < k → p[j]? ≠ some 38) ∧ (k = s.size + 1 → pairsOf (parts 38 p) = some acc))
      (fun _ _ i _ => s.size + 1 - (intOf i).toNat)
    case atStart => exact ⟨0, 0, [], Nat.zero_le _, rfl, rfl, Nat.le_refl _, Nat.le_refl _, hstart.out, fun _ => ⟨by simp, fun j _ hj => absurd hj (Nat.not_lt_zero _)⟩, fun h => absurd h (by omega)⟩
    case round =>
      obtain ⟨k, f, acc, hk, rfl, rfl, hfk, hacc, hown, hmid, hend⟩ := hrel
      have HO := Lib.hid hown
      have HM := Lib.hid hmid
      have HE := Lib.hid hend
      obtain ⟨ao, no, co, hv⟩ : ∃ a n c, u4 = .slice a n c := by
        rcases hown.own.2 with ⟨rfl, _⟩ | ⟨g, cap, cur, rfl, _⟩ <;> exact ⟨_, _, _, rfl⟩
      have hno : no = acc.length := by
        rcases hown.own.2 with ⟨e, e2⟩ | ⟨g, cap, cur, e, _⟩ <;> (rw [e] at hv; cases hv)
        · omega
        · rfl
      subst hv
      subst hno
      clear hown hmid hend
      by_cases hks : k ≤ s.size
      · by_cases hstop : k < s.size ∧ ∃ h : k < s.size, s[k] ≠ 38
        · obtain ⟨hkl, _, h38⟩ := hstop
          have hat := HAT.out k hkl
          generalize hb : s[k] = b at *
          have hbn : ((b.toNat : Int) != 38) = true := by
            rw [bne_iff_ne]; intro e; exact h38 (UInt8.toNat_inj.1 (by simpa using (by omega : b.toNat = 38)))
          have H38 := Lib.hid h38
          have HB := Lib.hid hat
          clear h38 hat
          go_wp2_with fail
          refine ⟨⟨k + 1, f, acc, by omega, rfl, by simp, by omega, by omega, HO.out, fun h => ⟨(HM.out hks).1, fun j h1 h2 => ?_⟩, fun h => absurd h (by omega)⟩, by simp [intOf]; omega⟩
          rcases (by omega : j < k ∨ j = k) with h | rfl
          · exact (HM.out hks).2 j h1 h
          · rw [HB.out]; intro e; exact H38.out (Option.some.inj e)
        · obtain ⟨rest, hparts, hrest, hrest0⟩ : ∃ rest, parts 38 (p.drop f) = ((p.drop f).take (k - f)) :: rest ∧ (k < s.size → rest = parts 38 (p.drop (k + 1))) ∧ (k = s.size → rest = []) := by
            by_cases hkl : k < s.size
            · have h38 : s[k] = 38 := Classical.byContradiction fun h => hstop ⟨hkl, hkl, h⟩
              exact ⟨_, parts_from_hit hfk (by rw [HAT.out k hkl, h38]) (HM.out hks).2, fun _ => rfl, fun h => absurd h (by omega)⟩
            · have e : k = s.size := by omega
              refine ⟨[], ?_, fun h => absurd h hkl, fun _ => rfl⟩
              have := parts_from_end (f := f) HSZ.out (fun j h1 h2 => (HM.out hks).2 j h1 (by omega))
              rw [this, e]
          have hone := one_calls (s.extract f k) (HXS.out f k hks)
          rw [HX.out f k] at hone
          generalize (p.drop f).take (k - f) = q at *
          have hsl : 0 ≤ (f : Int) ∧ (f : Int) ≤ (k : Int) ∧ (k : Int) ≤ (s.size : Int) := by omega
          have hch : (decide ((k : Int) < (s.size : Int)) = false) ∨ (k < s.size ∧ ∃ h : k < s.size, s[k] = 38) := by
            by_cases hkl : k < s.size
            · exact .inr ⟨hkl, hkl, Classical.byContradiction fun h => hstop ⟨hkl, hkl, h⟩⟩
            · exact .inl (by simp; omega)
          clear hstop
          cases hz : pairOf q with
          | none =>
            have hnone := Lib.hid (show readL p = none by rw [hR.out, (HM.out hks).1, hparts, pairsOf, hz]; rfl)
            rw [hz] at hone
            have HONE := Lib.hid hone
            clear hone hparts hrest hrest0 hz
            rcases hch with hd | ⟨hkl, _, h38⟩
            · have hkl : ¬ k < s.size := by simpa using hd
              go_wp2_with (go_at_call 27; refine (HONE.out _).mono ?_; rintro e w1 ⟨x, y, rfl, hxy, hb1⟩; have HO1 := Lib.hid (HO.out.on hb1); clear hb1 hxy; unfold oneV)
              refine bodyPost_ret (v := .tuple #[.slice none 0 0, .int .i64 2]) (by simp [results, Tryd.results14, go_sem]) rfl ⟨.slice none 0 0, ?_, ?_⟩
              · rw [readE_none hnone.out]
              · rw [readV_none hnone.out]; exact ⟨World.ownsRow_nil _ _ _ _, (HO1.out.alloc _).below, (HO1.out.alloc _).le⟩
            · have hat := Lib.hid (HAT.out k hkl)
              have hbn : ((s[k].toNat : Int) != 38) = false := by rw [h38]; rfl
              clear h38
              go_wp2_with (go_at_call 27; refine (HONE.out _).mono ?_; rintro e w1 ⟨x, y, rfl, hxy, hb1⟩; have HO1 := Lib.hid (HO.out.on hb1); clear hb1 hxy; unfold oneV)
              refine bodyPost_ret (v := .tuple #[.slice none 0 0, .int .i64 2]) (by simp [results, Tryd.results14, go_sem]) rfl ⟨.slice none 0 0, ?_, ?_⟩
              · rw [readE_none hnone.out]
              · rw [readV_none hnone.out]; exact ⟨World.ownsRow_nil _ _ _ _, (HO1.out.alloc _).below, (HO1.out.alloc _).le⟩
          | some z =>
            have HP := Lib.hid (show pairsOf (parts 38 p) = ((pairsOf rest).map (z :: ·)).map (acc ++ ·) by rw [(HM.out hks).1, hparts, pairsOf, hz])
            rw [hz] at hone
            have HONE := Lib.hid hone
            have HR1 := Lib.hid hrest
            have HR0 := Lib.hid hrest0
            clear hone hparts hrest hrest0 hz
            rcases hch with hd | ⟨hkl, _, h38⟩
            · have hkl : ¬ k < s.size := by simpa using hd
              go_wp2_with (first
                | (go_at_call 27; refine (HONE.out _).mono ?_; rintro e w1 ⟨x, y, rfl, hxy, hb1⟩; obtain ⟨rfl, rfl⟩ := hxy z rfl; have HO1 := Lib.hid (HO.out.on hb1); clear hb1 hxy; unfold oneV)
                | (at_builtin; refine wpList_append_new rfl (.tmp 39) (.tmp 41) 31 rfl w.heap.size 45 (.agg #[.string ⟨#[]⟩, .string ⟨#[]⟩]) 2 32 Tryd.underlying31 Tryd.info45' rfl (by decide) _ _ _ rfl w ((HO1.out.alloc _).alloc _) (w1.heap.size + 1) 1 (pv z) (0, 0) rfl (heap_alloc_new2 _ _ _) rfl (by simp [pv]; exact ⟨rfl, rfl⟩) (by omega) ?_; intro v5 w5 hown5; have HO5 := Lib.hid hown5; clear hown5))
              refine ⟨⟨k + 1, k + 1, acc ++ [z], by omega, by simp, by simp, Nat.le_refl _, by simp; omega, ?_, fun h => ⟨?_, fun j h1 h2 => absurd h2 (by omega)⟩, fun h => ?_⟩, by simp [intOf]; omega⟩
              · rw [pcells_snoc, List.length_append]; exact HO5.out
              · rw [HP.out, HR1.out (by omega)]
                simp [Function.comp_def]
              · rw [HP.out, HR0.out (by omega)]
                simp [pairsOf]
            · have hat := Lib.hid (HAT.out k hkl)
              have hbn : ((s[k].toNat : Int) != 38) = false := by rw [h38]; rfl
              clear h38
              go_wp2_with (first
                | (go_at_call 27; refine (HONE.out _).mono ?_; rintro e w1 ⟨x, y, rfl, hxy, hb1⟩; obtain ⟨rfl, rfl⟩ := hxy z rfl; have HO1 := Lib.hid (HO.out.on hb1); clear hb1 hxy; unfold oneV)
                | (at_builtin; refine wpList_append_new rfl (.tmp 39) (.tmp 41) 31 rfl w.heap.size 45 (.agg #[.string ⟨#[]⟩, .string ⟨#[]⟩]) 2 32 Tryd.underlying31 Tryd.info45' rfl (by decide) _ _ _ rfl w ((HO1.out.alloc _).alloc _) (w1.heap.size + 1) 1 (pv z) (0, 0) rfl (heap_alloc_new2 _ _ _) rfl (by simp [pv]; exact ⟨rfl, rfl⟩) (by omega) ?_; intro v5 w5 hown5; have HO5 := Lib.hid hown5; clear hown5))
              refine ⟨⟨k + 1, k + 1, acc ++ [z], by omega, by simp, by simp, Nat.le_refl _, by simp; omega, ?_, fun h => ⟨?_, fun j h1 h2 => absurd h2 (by omega)⟩, fun h => ?_⟩, by simp [intOf]; omega⟩
              · rw [pcells_snoc, List.length_append]; exact HO5.out
              · rw [HP.out, HR1.out (by omega)]
                simp [Function.comp_def]
              · rw [HP.out, HR0.out (by omega)]
                simp [pairsOf]
      · have hall := Lib.hid (HE.out (by omega))
        have HR := Lib.hid (hR.out.trans hall.out)
        by_cases h64 : 64 < acc.length
        · go_wp2_with fail
          refine bodyPost_ret (v := .tuple #[.slice none 0 0, .int .i64 3]) (by simp [results, Tryd.results14, go_sem]) rfl ⟨.slice none 0 0, ?_, ?_⟩
          · rw [readE_long HR.out h64]
          · rw [readV_long HR.out h64]; exact ⟨World.ownsRow_nil _ _ _ _, HO.out.below, HO.out.le⟩
        · go_wp2_with fail
          refine bodyPost_ret (v := .tuple #[.slice ao acc.length co, .int .i64 0]) (by simp [results, Tryd.results14, go_sem]) rfl ⟨.slice ao acc.length co, ?_, ?_⟩
          · rw [readE_good HR.out h64]
          · rw [readV_good HR.out h64]; exact HO.out
end Go.Proofs.YtndigceamabapaaDoor
