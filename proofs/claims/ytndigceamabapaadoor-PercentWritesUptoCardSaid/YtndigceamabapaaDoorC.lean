/-
  A row that a call owns and appends to; the reference's test on a byte. No condition.
-/
import Derived.Test.YtndigceamabapaaDoorB
import Derived.Laws.IdiomStrings
import Derived.Laws.BytesArg
namespace Go.Proofs.YtndigceamabapaaDoor
open Go.RowKit

theorem Tryd.info5' : (Tryd.prog.info? 5).map (fun i => (i.zero, i.size, i.bytes)) = some (some (.int .u8 0), 1, 1) := by kernel_rfl

def u8v (b : UInt8) : Value := .int .u8 b.toNat

theorem contains_dots (b : UInt8) : ((⟨#[45, 46, 126]⟩ : ByteArray).data.toList.contains b) = decide (b.toNat = 45 ∨ b.toNat = 46 ∨ b.toNat = 126) := by
  have := all_bytes (fun b => ((⟨#[45, 46, 126]⟩ : ByteArray).data.toList.contains b) == decide (b.toNat = 45 ∨ b.toNat = 46 ∨ b.toNat = 126)) (fun n => by revert n; exact of_decide_eq_true (by kernel_rfl)) b
  exact beq_iff_eq.1 this

theorem refplain_calls (b : UInt8) (w : World) : Calls Tryd.prog 22 #[.int .u8 b.toNat] w fun e w' => e = .returned (.bool (plainB b)) ∧ Below w.heap.size w w' := by
  have hcv : (convert 39 9 (.slice (some ⟨w.heap.size, 0, none⟩) 1 1)).run Tryd.prog (w.alloc (.cells #[.int .u8 b.toNat] 5)) = .ok (.string ⟨#[b]⟩) (w.alloc (.cells #[.int .u8 b.toNat] 5)) :=
    run_convert_bytes_back _ 39 9 5 ⟨w.heap.size, 0, none⟩ 1 [b] Tryd.underlying39 Tryd.underlying5 Tryd.underlying9 (by
      intro j hj
      have : j = 0 := by simp at hj; omega
      subst this
      simp [Addr.add])
  have hd := contains_dots b
  go_enter Tryd.func22, Tryd.ntmps22
  go_wp2_with (first
    | (go_at_call 30; refine (all_calls b _).mono ?_; rintro e w1 ⟨rfl, rfl⟩)
    | (go_at_call 31; refine (is_calls b _ (by decide) _).mono ?_; rintro e w1 ⟨rfl, rfl⟩; rw [contains_dots]))
  all_goals
    go_ret
    refine ⟨ret_bool ?_, (Below.refl _ _).alloc (Nat.le_refl _) _⟩
    rw [Bool.eq_iff_iff]
    simp [plainB]
    try omega

/-- A row of n elements that a call owns, from block B on; of what lay below B in W0 nothing has turned. -/
structure OwnR (B : Nat) (e : TypeId) (sz : Nat) (v : Value) (n : Nat) (xs : List Value) (W0 w : World) : Prop where
  own : w.ownsRow B e sz v n xs
  below : Below B W0 w
  le : B ≤ w.heap.size

theorem OwnR.nil (w : World) (e : TypeId) (sz : Nat) : OwnR w.heap.size e sz (.slice none 0 0) 0 [] w w := ⟨World.ownsRow_nil _ _ _ _, Below.refl _ _, Nat.le_refl _⟩
theorem OwnR.made (w : World) (e : TypeId) (sz : Nat) : OwnR w.heap.size e sz (.slice (some ⟨w.heap.size, 0, none⟩) 0 0) 0 [] w (w.alloc (.cells #[] e)) :=
  ⟨World.ownsRow_made w #[] 0 (Nat.le_refl _) (by decide) (by simp), (Below.refl _ _).alloc (Nat.le_refl _) _, by simp⟩

section
variable {B : Nat} {e : TypeId} {sz : Nat} {v : Value} {n : Nat} {xs : List Value} {W0 w : World}

theorem OwnR.grown {v' : Value} {n' : Nat} {xs' : List Value} {w' : World} (h : OwnR B e sz v n xs W0 w) (ho : w'.ownsRow B e sz v' n' xs') (hg : w.grownBy w' v.ownBlock) : OwnR B e sz v' n' xs' W0 w' :=
  ⟨ho, h.below.grown hg h.le (fun k hk => (h.own.lt k hk).1), Nat.le_trans h.le hg.size⟩
theorem OwnR.alloc (h : OwnR B e sz v n xs W0 w) (o : Obj) : OwnR B e sz v n xs W0 (w.alloc o) :=
  ⟨h.own.alloc o, h.below.alloc h.le o, Nat.le_trans h.le (by simp)⟩
theorem OwnR.drew (h : OwnR B e sz v n xs W0 w) : OwnR B e sz v n xs W0 w.drew :=
  ⟨h.own.drew, ⟨h.below.os, h.below.tape, h.below.output, h.below.size, h.below.block⟩, h.le⟩
theorem OwnR.on {w' : World} (h : OwnR B e sz v n xs W0 w) (hb : Below w.heap.size w w') : OwnR B e sz v n xs W0 w' := by
  refine ⟨⟨h.own.1, ?_⟩, ?_, Nat.le_trans h.le hb.size⟩
  · rcases h.own.2 with hn | ⟨g, cap, cur, rfl, hBg, hg, rest⟩
    · exact .inl hn
    · exact .inr ⟨g, cap, cur, rfl, hBg, (hb.block g (Array.getElem?_eq_some_iff.1 hg).1).trans hg, rest⟩
  · exact ⟨hb.os.trans h.below.os, hb.tape.trans h.below.tape, hb.output.trans h.below.output, Nat.le_trans h.below.size hb.size, fun i hi => (hb.block i (Nat.lt_of_lt_of_le hi h.le)).trans (h.below.block i hi)⟩
end

/-- 'out = append(out, ..)' where the new cells are all of a block. -/
theorem wpList_append_new {P : Program} {w : World} {ops : Array Oper} {rest : List Oper} {o : Oper} {a : Act} {Q : Exit → Act → World → Prop} (hgd : o.guard = none) (s x : Operand) (t : TypeId)
    (ho : o.op = .call { callee := .builtin .append, args := #[s, x], argTypes := #[t, t] })
    (B : Nat) (e : TypeId) (z : Value) (sz bytes : Nat) (ht : P.underlying t = some (.slice e)) (hinfo : (P.info? e).map (fun i => (i.zero, i.size, i.bytes)) = some (some z, sz, bytes)) (hzs : z.cells.size = sz) (hsz : 0 < sz)
    (v : Value) (n : Nat) (xs : List Value) (hs : a.eval s = v) (W0 : World) (hb : OwnR B e sz v n xs W0 w)
    (g m : Nat) (news : List Value) (fr : Nat × Nat) (hx : a.eval x = .slice (some ⟨g, 0, none⟩) m m) (hg : w.heap[g]? = some (.cells news.toArray e fr)) (hl : news.length = m * sz) (h1 : ∀ u ∈ news, u.oneCell' = true)
    (hlen : (n + m) * (bytes + 1) ≤ 140737488355328)
    (h : ∀ v' w', OwnR B e sz v' (n + m) (xs ++ news) W0 w' → wpList P ops Q rest (a.put o.dst v') w') : wpList P ops Q (o :: rest) a w := by
  obtain ⟨i0, hi, hz0, hz1, hz2⟩ := info_parts hinfo
  have hm : (n + m) * (bytes + 1) = (n + m) * bytes + (n + m) := by rw [Nat.mul_add, Nat.mul_one]
  refine wpList_append_own _ hgd s x t ho B e i0 z sz bytes ht hi hz0 hz1 hz2 hzs hsz v n xs hs hb.own ⟨g, 0, none⟩ m m news hx hl ?_ h1 (by unfold maxLen; omega) (by omega) hb.le fun v' w' ho' hg' _ => h v' w' (hb.grown ho' hg')
  intro j u hj
  rw [Addr.add_lit, Nat.zero_add, cell_of_row w g j _ e fr hg]
  simpa using hj

/-- The same, in a region that draws its order. -/
theorem step_append_new {P : Program} {w : World} {ops : Array Oper} {o : Oper} {a : Act} {K : Act → World → Prop} {Q : Exit → Act → World → Prop} {E : Prop} (hgd : o.guard = none) (s x : Operand) (t : TypeId)
    (ho : o.op = .call { callee := .builtin .append, args := #[s, x], argTypes := #[t, t] })
    (B : Nat) (e : TypeId) (z : Value) (sz bytes : Nat) (ht : P.underlying t = some (.slice e)) (hinfo : (P.info? e).map (fun i => (i.zero, i.size, i.bytes)) = some (some z, sz, bytes)) (hzs : z.cells.size = sz) (hsz : 0 < sz)
    (v : Value) (n : Nat) (xs : List Value) (hs : a.eval s = v) (W0 : World) (hb : OwnR B e sz v n xs W0 w)
    (g m : Nat) (news : List Value) (fr : Nat × Nat) (hx : a.eval x = .slice (some ⟨g, 0, none⟩) m m) (hg : w.heap[g]? = some (.cells news.toArray e fr)) (hl : news.length = m * sz) (h1 : ∀ u ∈ news, u.oneCell' = true)
    (hlen : (n + m) * (bytes + 1) ≤ 140737488355328)
    (h : ∀ v' w', OwnR B e sz v' (n + m) (xs ++ news) W0 w' → K (a.put o.dst v') w') :
    if Region.wanted o (yielded ops a.tmps) = true then Oper.wp P o a w K Q else E := by
  obtain ⟨i0, hi, hz0, hz1, hz2⟩ := info_parts hinfo
  have hw : Region.wanted o (yielded ops a.tmps) = true := by simp [Region.wanted, hgd]
  have hm : (n + m) * (bytes + 1) = (n + m) * bytes + (n + m) := by rw [Nat.mul_add, Nat.mul_one]
  rw [if_pos hw]
  refine wp_append_own w s x t ho B e i0 z sz bytes ht hi hz0 hz1 hz2 hzs hsz v n xs hs hb.own ⟨g, 0, none⟩ m m news hx hl ?_ h1 (by unfold maxLen; omega) (by omega) hb.le fun v' w' ho' hg' _ => h v' w' (hb.grown ho' hg')
  intro j u hj
  rw [Addr.add_lit, Nat.zero_add, cell_of_row w g j _ e fr hg]
  simpa using hj

/-- Bytes: the row, and the text that it is. -/
def OwnB (B : Nat) (v : Value) (l : List UInt8) (W0 w : World) : Prop := OwnR B 5 1 v l.length (l.map u8v) W0 w

theorem OwnB.next {B : Nat} {v : Value} {l m : List UInt8} {n : Nat} {W0 w : World} (hm : m.length = n) (h : OwnR B 5 1 v (l.length + n) (l.map u8v ++ m.map u8v) W0 w) : OwnB B v (l ++ m) W0 w := by
  unfold OwnB
  rw [List.length_append, List.map_append, hm]
  exact h

theorem own_convert {B : Nat} {v : Value} {l : List UInt8} {W0 w : World} (h : OwnB B v l W0 w) :
    (convert 39 9 v).run Tryd.prog w = .ok (.string ⟨l.toArray⟩) w := by
  rcases h.own.2 with ⟨rfl, hn⟩ | ⟨g, cap, cur, rfl, _⟩
  · have : l = [] := List.eq_nil_of_length_eq_zero hn
    subst this
    exact run_convert_bytes_nil w 39 5 Tryd.underlying39 Tryd.underlying5 0 0 9 Tryd.underlying9
  · refine run_convert_bytes_back w 39 9 5 ⟨g, 0, none⟩ cap l Tryd.underlying39 Tryd.underlying5 Tryd.underlying9 fun j hj => ?_
    exact h.own.cells rfl j _ (by rw [List.getElem?_map, List.getElem?_eq_getElem hj]; rfl)

theorem OwnB.slice {B : Nat} {v : Value} {l : List UInt8} {W0 w : World} (h : OwnB B v l W0 w) : ∃ a n c, v = .slice a n c := by
  rcases h.own.2 with ⟨rfl, _⟩ | ⟨g, cap, cur, rfl, _⟩
  · exact ⟨_, _, _, rfl⟩
  · exact ⟨_, _, _, rfl⟩
end Go.Proofs.YtndigceamabapaaDoor
