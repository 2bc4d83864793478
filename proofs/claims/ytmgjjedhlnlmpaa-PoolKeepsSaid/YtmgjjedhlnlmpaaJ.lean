/- The reference's Take and Double. -/
import Derived.Test.YtmgjjedhlnlmpaaI
namespace Go.Proofs.Ytmgjjedhlnlmpaa
open Go.RowKit

/-- What Take of the reference hands back: a list, a message and an error's number. -/
def RefT (w w' : World) (e : Ending) (B : Nat) (u : Value) (ms : List Msg) (m : Msg) (c : Int) : Prop :=
  ∃ u', e = .returned (.tuple #[u', m.agg, .int .i64 c]) ∧ w'.ownsRow B 23 3 u' ms.length (cells ms) ∧ Newer w u u' ∧ Below w.heap.size w w'

theorem rtake_bad (B : Nat) (u : Value) (ms : List Msg) (i : Int) (w : World) (hown : w.ownsRow B 23 3 u ms.length (cells ms)) (hi : i < 0 ∨ (ms.length : Int) ≤ i) :
    Calls Try.prog 28 #[u, .int .i64 i] w fun e w' => RefT w w' e B u ms Msg.zero 4 := by
  have HO := Lib.hid hown
  obtain ⟨ao, cap, rfl, _⟩ := own_form hown
  clear hown
  have H0 := Lib.hid hi
  by_cases h : i < 0
  · clear hi
    go_enter Try.func28, Try.ntmps28
    go_wp2
    exact bodyPost_ret (v := .tuple #[.slice ao ms.length cap, .agg #[.int .i64 0, .int .i64 0, .string ⟨#[]⟩], .int .i64 4]) (by simp [results, Try.results28, go_sem]) rfl ⟨_, rfl, ownsRow_below HO.out (below_alloc _ _), .inl rfl, below_alloc _ _⟩
  · have h2 : (ms.length : Int) ≤ i := by omega
    clear hi
    go_enter Try.func28, Try.ntmps28
    go_wp2
    exact bodyPost_ret (v := .tuple #[.slice ao ms.length cap, .agg #[.int .i64 0, .int .i64 0, .string ⟨#[]⟩], .int .i64 4]) (by simp [results, Try.results28, go_sem]) rfl ⟨_, rfl, ownsRow_below HO.out (below_alloc _ _), .inl rfl, below_alloc _ _⟩

theorem step_append_own {P : Program} {w : World} {ops : Array Oper} {o : Oper} {a : Act} {K : Act → World → Prop} {Q : Exit → Act → World → Prop} {E : Prop} (hgd : o.guard = none) (s x : Operand) (t : TypeId)
    (ho : o.op = .call { callee := .builtin .append, args := #[s, x], argTypes := #[t, t] })
    (base : Nat) (e : TypeId) (i : TypeInfo) (z : Value) (size bytes : Nat) (ht : P.underlying t = some (.slice e)) (hi : P.info? e = some i) (hz : i.zero = some z)
    (hsize : i.size = size) (hby : i.bytes = bytes) (hzs : z.cells.size = size) (hsz : 0 < size)
    (v : Value) (n : Nat) (xs : List Value) (hs : a.eval s = v) (hown : w.ownsRow base e size v n xs)
    (ad : Addr) (m c : Nat) (news : List Value) (hx : a.eval x = .slice (some ad) m c) (hl : news.length = m * size) (hnews : ∀ j u, news[j]? = some u → w.cell? (ad.add j) = some u) (h1 : ∀ u ∈ news, u.oneCell' = true)
    (h63 : n + m ≤ maxLen) (hbytes : (n + m) * bytes ≤ 140737488355328) (hbase : base ≤ w.heap.size)
    (h : ∀ v' w', w'.ownsRow base e size v' (n + m) (xs ++ news) → w.grownBy w' v.ownBlock → K (a.put o.dst v') w') :
    if Region.wanted o (yielded ops a.tmps) = true then Oper.wp P o a w K Q else E := by
  have hw : Region.wanted o (yielded ops a.tmps) = true := by simp [Region.wanted, hgd]
  rw [if_pos hw]
  exact wp_append_own w s x t ho base e i z size bytes ht hi hz hsize hby hzs hsz v n xs hs hown ad m c news hx hl hnews h1 h63 hbytes hbase fun v' w' h2 h3 _ => h v' w' h2 h3

/-- The cells ahead of the message, and behind it. -/
theorem cells_ahead {w : World} {B n cap g : Nat} {a b : List Msg} {m : Msg} (h : w.ownsRow B 23 3 (.slice (some ⟨g, 0, none⟩) n cap) n (cells (a ++ m :: b))) :
    (∀ j u, (cells a)[j]? = some u → w.cell? ((⟨g, 0, none⟩ : Addr).add j) = some u) ∧ (∀ j u, (cells b)[j]? = some u → w.cell? ((⟨g, (a.length + 1) * 3, none⟩ : Addr).add j) = some u) := by
  have hc := h.cells (g := g) rfl
  have e : cells (a ++ m :: b) = (cells a ++ m.vals) ++ cells b := by simp [cells]
  have hl : (cells a).length = a.length * 3 := length_cells a
  have hl2 : (cells a ++ m.vals).length = (a.length + 1) * 3 := by rw [List.length_append, hl]; simp [Msg.vals]; omega
  refine ⟨fun j u hu => hc j u ?_, fun j u hu => ?_⟩
  · have hj := (List.getElem?_eq_some_iff.1 hu).1
    rw [e, List.append_assoc, List.getElem?_append_left hj]; exact hu
  · have := hc ((a.length + 1) * 3 + j) u (by rw [e, List.getElem?_append_right (by omega), hl2, show (a.length + 1) * 3 + j - (a.length + 1) * 3 = j by omega]; exact hu)
    rw [Addr.add_lit] at this ⊢
    rwa [Nat.zero_add] at this

theorem ownedNew (w : World) (o : Obj) : ((w.alloc o).alloc (.cells #[] 23)).ownsRow (w.heap.size + 1) 23 3 (.slice (some ⟨w.heap.size + 1, 0, none⟩) 0 0) 0 [] := by
  have := World.ownsRow_made (base := w.heap.size + 1) (size := 3) (e := 23) (w.alloc o) #[] 0 (by simp) (by decide) (by decide)
  simpa using this

theorem far2 {w : World} {o1 o2 : Obj} {g off : Nat} (hg : g < w.heap.size) {xs : List Value} (h : ∀ j u, xs[j]? = some u → w.cell? ((⟨g, off, none⟩ : Addr).add j) = some u) :
    ∀ j u, xs[j]? = some u → ((w.alloc o1).alloc o2).cell? ((⟨g, off, none⟩ : Addr).add j) = some u := by
  intro j u hu
  have := h j u hu
  rw [Addr.add_lit] at this ⊢
  have hb : Below w.heap.size w ((w.alloc o1).alloc o2) := (below_alloc w o1).trans ((below_alloc _ o2).mono (by simp))
  rw [hb.cell (p := ⟨g, off + j, none⟩) hg]
  exact this

/-- The blocks that the call reads later, behind one more append. -/
structure Mid (w wx : World) (g i : Nat) (m : Msg) : Prop where
  size : w.heap.size + 1 ≤ wx.heap.size
  c0 : wx.cell? ⟨g, i * 3, none⟩ = some (.int .i64 m.f)
  c1 : wx.cell? ⟨g, i * 3 + 1, none⟩ = some (.int .i64 m.t)
  c2 : wx.cell? ⟨g, i * 3 + 2, none⟩ = some (.string m.b)
  z : wx.heap[w.heap.size]? = some (.cells #[.int .i64 0, .int .i64 0, .string ⟨#[]⟩] 23 (0, 0))

theorem Mid.grown {w wx wy : World} {g i : Nat} {m : Msg} {row : Option Nat} (h : Mid w wx g i m) (hg : g < w.heap.size) (k : wx.grownBy wy row) (hr : ∀ b, row = some b → w.heap.size + 1 ≤ b) : Mid w wy g i m := by
  have hs := h.size
  have ng : some g ≠ row := fun e => by have := hr _ e.symm; omega
  have nz : some w.heap.size ≠ row := fun e => by have := hr _ e.symm; omega
  exact ⟨by have := k.size; omega, k.cell h.c0 ng, k.cell h.c1 ng, k.cell h.c2 ng, (k.block _ (by omega) nz).trans h.z⟩

theorem Mid.drew {w wx : World} {g i : Nat} {m : Msg} (h : Mid w wx g i m) : Mid w wx.drew g i m := ⟨h.size, h.c0, h.c1, h.c2, h.z⟩

theorem Mid.start {w : World} {g i : Nat} {m : Msg} (hg : g < w.heap.size) (k0 : w.cell? ⟨g, i * 3, none⟩ = some (.int .i64 m.f)) (k1 : w.cell? ⟨g, i * 3 + 1, none⟩ = some (.int .i64 m.t))
    (k2 : w.cell? ⟨g, i * 3 + 2, none⟩ = some (.string m.b)) (o : Obj) : Mid w ((w.alloc (.cells #[.int .i64 0, .int .i64 0, .string ⟨#[]⟩] 23)).alloc o) g i m := by
  have hb : Below w.heap.size w ((w.alloc (.cells #[.int .i64 0, .int .i64 0, .string ⟨#[]⟩] 23)).alloc o) := (below_alloc w _).trans ((below_alloc _ o).mono (by simp))
  refine ⟨by simp, (hb.cell (p := ⟨g, i * 3, none⟩) hg).trans k0, (hb.cell (p := ⟨g, i * 3 + 1, none⟩) hg).trans k1, (hb.cell (p := ⟨g, i * 3 + 2, none⟩) hg).trans k2, ?_⟩
  rw [Below.heap_alloc _ _ _ (by simp)]
  exact heap_alloc_new w _

theorem far3 {w w2 : World} {g off : Nat} {o : Obj} {row : Option Nat} (hg : g < w.heap.size) (k : ((w.alloc o).alloc (.cells #[] 23)).grownBy w2 row) (hr : ∀ b, row = some b → w.heap.size + 1 ≤ b) {xs : List Value}
    (h : ∀ j u, xs[j]? = some u → w.cell? ((⟨g, off, none⟩ : Addr).add j) = some u) : ∀ j u, xs[j]? = some u → w2.cell? ((⟨g, off, none⟩ : Addr).add j) = some u := by
  intro j u hu
  have := far2 (o1 := o) (o2 := .cells #[] 23) hg h j u hu
  rw [Addr.add_lit] at this ⊢
  exact k.cell this (fun e => by have := hr _ e.symm; simp at this; omega)

theorem grown_below {w w2 w3 : World} {row : Option Nat} (h : w2.drew.grownBy w3 row) (hr : ∀ b, row = some b → w.heap.size ≤ b) (hs : w.heap.size ≤ w2.heap.size) : Below w.heap.size w2 w3 :=
  (Below.refl w.heap.size w2).drew.grown h hs hr

theorem two_new (w w2 : World) (o1 o2 : Obj) (h : ((w.alloc o1).alloc o2).grownBy w2 (some (w.heap.size + 1))) : Below w.heap.size w w2 :=
  ((below_alloc w o1).trans ((below_alloc _ o2).mono (by simp))).grown h (by simp; omega) (fun k hk => by cases hk; omega)

theorem rtake_done {w w3 : World} {B g n cap : Nat} {v3 : Value} {a b : List Msg} {m : Msg} {k : Nat} {e : Ending} (hB : B ≤ w.heap.size) (h3 : w3.ownsRow (w.heap.size + 1) 23 3 v3 k (cells a ++ cells b)) (hb : Below w.heap.size w w3) (u0 u1 u2 : Value)
    (he : e = .returned (.tuple #[v3, m.agg, .int .i64 0])) :
    RefT w (((w3.setCell ⟨w.heap.size, 0, none⟩ u0).setCell ⟨w.heap.size, 1, none⟩ u1).setCell ⟨w.heap.size, 2, none⟩ u2) e B (.slice (some ⟨g, 0, none⟩) n cap) (a ++ b) m 0 := by
  have hv : v3.ownBlock ≠ some w.heap.size := by
    intro e
    have := (h3.lt _ e).1
    omega
  have h3' : w3.ownsRow (w.heap.size + 1) 23 3 v3 (a ++ b).length (cells (a ++ b)) := by
    rw [← cells_append] at h3
    rwa [← len_of_own h3]
  refine ⟨v3, he, ownsRow_setCell_other (ownsRow_setCell_other (ownsRow_setCell_other (ownsRow_le h3' (by omega)) hv _) hv _) hv _, ?_, ((hb.setCell (Nat.le_refl _) _).setCell (Nat.le_refl _) _).setCell (Nat.le_refl _) _⟩
  right
  intro k hk
  have := (h3.lt _ hk).1
  omega

set_option maxRecDepth 100000 in
theorem rtake_ok (B : Nat) (u : Value) (a b : List Msg) (m : Msg) (w : World) (hown : w.ownsRow B 23 3 u (a ++ m :: b).length (cells (a ++ m :: b))) (hB : B ≤ w.heap.size) (hl : (a ++ m :: b).length ≤ 1000) :
    Calls Try.prog 28 #[u, .int .i64 a.length] w fun e w' => RefT w w' e B u (a ++ b) m 0 := by
  obtain ⟨i0, hi, hz0, hz1, hz2⟩ := info_parts Try.info23
  obtain ⟨n, hn⟩ : ∃ n, n = (a ++ m :: b).length := ⟨_, rfl⟩
  rw [← hn] at hown hl
  obtain ⟨g, cap, rfl, hBg, hg⟩ := hown.form (by rw [hn]; simp; omega)
  obtain ⟨k0, k1, k2⟩ := cells_mid hown
  obtain ⟨ca, cb⟩ := cells_ahead hown
  have hcap : n ≤ cap ∧ cap ≤ 9223372036854775807 := by
    rcases hown.2 with ⟨h, _⟩ | ⟨_, _, _, hv, _, _, h1, h2, _⟩
    · cases h
    · cases hv; exact ⟨h1, h2⟩
  obtain ⟨hle, hcm⟩ := hcap
  have hk : n = a.length + 1 + b.length := by rw [hn]; simp; omega
  have HA := Lib.hid (length_cells a)
  have HCa := Lib.hid ca
  have HCb := Lib.hid cb
  have HB := Lib.hid (length_cells b)
  have h1a := Lib.hid (cells_oneCell a)
  have h1b := Lib.hid (cells_oneCell b)
  clear hown ca cb hn
  generalize hi : a.length = i at *
  have HI := Lib.hid hi
  clear hi
  have h1 : (0 : Int) ≤ (i : Int) := by omega
  have h2 : (i : Int) < (n : Int) := by omega
  have h2' : (i : Int) ≤ (n : Int) := by omega
  have h3 : (i : Int) + 1 ≤ (n : Int) := by omega
  have h4 : cap ≠ i := by omega
  have h5 : (0 : Int) ≤ (i : Int) + 1 := by omega
  have h6 : IntKind.i64.wrap ((i : Int) + 1) = (i : Int) + 1 := IntWalk.i64_in _ (by omega)
  have h7 : ((i : Int) + 1).toNat = i + 1 := by omega
  have HK := Lib.hid hk
  clear hk
  have e0 := ownedNew w (.cells #[.int .i64 0, .int .i64 0, .string ⟨#[]⟩] 23)
  have E0 := Lib.hid e0
  clear e0
  by_cases h8 : cap = i + 1
  · subst h8
    go_enter Try.func28, Try.ntmps28
    go_wp2_with (at_builtin; refine wpList_append_own _ rfl (.tmp 18) (.tmp 21) 41 rfl (w.heap.size + 1) 23 i0 _ 3 32 Try.underlying41 hi hz0 hz1 hz2 rfl (by decide) (.slice (some ⟨w.heap.size + 1, 0, none⟩) 0 0) 0 [] rfl E0.out ⟨g, 0, none⟩ i (i + 1) (cells a) rfl HA.out (far2 hg HCa.out) h1a.out (by unfold maxLen; omega) (by omega) (by simp) ?_; intro v2 w2 hown2 hgrow2 _; simp only [Nat.zero_add, List.nil_append, Value.ownBlock] at hown2 hgrow2; have HO2 := Lib.hid hown2; have HG2 := Lib.hid hgrow2; have hs2 := hgrow2.size; simp only [World.size_alloc] at hs2; clear hown2 hgrow2)
    have hr1 : ∀ b, some (w.heap.size + 1) = some b → w.heap.size + 1 ≤ b := fun b h => by cases h; exact Nat.le_refl _
    have M2 := Lib.hid ((Mid.start (i := i) hg k0 k1 k2 _).grown hg HG2.out hr1)
    have N2 := Lib.hid (far3 hg HG2.out hr1 HCb.out)
    have c0 := M2.out.c0
    have c1 := M2.out.c1
    have c2 := M2.out.c2
    clear k0 k1 k2 hr1
    go_region_law ((refine step_append_own (by rfl) (.tmp 23) (.tmp 27) 41 (by rfl) (w.heap.size + 1) 23 i0 _ 3 32 Try.underlying41 hi hz0 hz1 hz2 rfl (by decide) v2 i (cells a) (by simp [Act.eval, Act.put]) HO2.out.drew ⟨g, 0, none⟩ 0 0 (cells b) (by simp [Act.eval, Act.put]) (by have := HB.out; have := HK.out; omega) (fun j u hu => by rw [List.eq_nil_of_length_eq_zero (by have := HB.out; have := HK.out; omega : (cells b).length = 0)] at hu; simp at hu) h1b.out (by unfold maxLen; omega) (by omega) (by simp; omega) ?_; intro v3 w3 hown3 hgrow3; have HO3 := Lib.hid hown3; have HG3 := Lib.hid hgrow3; have M3 := Lib.hid (M2.out.drew.grown hg hgrow3 (fun b hb => (HO2.out.lt b hb).1)); have d0 := M3.out.c0; have d1 := M3.out.c1; have d2 := M3.out.c2; have z0 := cell_of_block M3.out.z 0; have z1 := cell_of_block M3.out.z 1; have z2 := cell_of_block M3.out.z 2; have f0 := frozen_of_block M3.out.z 0; have f1 := frozen_of_block M3.out.z 1; have f2 := frozen_of_block M3.out.z 2; clear hown3 hgrow3))
    all_goals
      have HB3 := Lib.hid ((two_new w w2 _ _ HG2.out).trans (grown_below HG3.out (fun b hb => by have := (HO2.out.lt b hb).1; omega) (by omega)))
      have HF := Lib.hid (rtake_done (g := g) (n := n) (cap := i + 1) (m := m) hB HO3.out HB3.out (.int .i64 m.f) (.int .i64 m.t) (.string m.b) rfl)
      go_wp2
      exact bodyPost_ret (v := .tuple #[v3, .agg #[.int .i64 m.f, .int .i64 m.t, .string m.b], .int .i64 0]) (by simp [results, Try.results28, go_sem, Act.put, z0, z1, z2]) rfl HF.out
  · go_enter Try.func28, Try.ntmps28
    go_wp2_with (at_builtin; refine wpList_append_own _ rfl (.tmp 18) (.tmp 21) 41 rfl (w.heap.size + 1) 23 i0 _ 3 32 Try.underlying41 hi hz0 hz1 hz2 rfl (by decide) (.slice (some ⟨w.heap.size + 1, 0, none⟩) 0 0) 0 [] rfl E0.out ⟨g, 0, none⟩ i cap (cells a) rfl HA.out (far2 hg HCa.out) h1a.out (by unfold maxLen; omega) (by omega) (by simp) ?_; intro v2 w2 hown2 hgrow2 _; simp only [Nat.zero_add, List.nil_append, Value.ownBlock] at hown2 hgrow2; have HO2 := Lib.hid hown2; have HG2 := Lib.hid hgrow2; have hs2 := hgrow2.size; simp only [World.size_alloc] at hs2; clear hown2 hgrow2)
    have hr1 : ∀ b, some (w.heap.size + 1) = some b → w.heap.size + 1 ≤ b := fun b h => by cases h; exact Nat.le_refl _
    have M2 := Lib.hid ((Mid.start (i := i) hg k0 k1 k2 _).grown hg HG2.out hr1)
    have N2 := Lib.hid (far3 hg HG2.out hr1 HCb.out)
    have c0 := M2.out.c0
    have c1 := M2.out.c1
    have c2 := M2.out.c2
    clear k0 k1 k2 hr1
    go_region_law ((refine step_append_own (by rfl) (.tmp 23) (.tmp 27) 41 (by rfl) (w.heap.size + 1) 23 i0 _ 3 32 Try.underlying41 hi hz0 hz1 hz2 rfl (by decide) v2 i (cells a) (by simp [Act.eval, Act.put]) HO2.out.drew ⟨g, (i + 1) * 3, none⟩ (n - (i + 1)) (cap - (i + 1)) (cells b) (by simp [Act.eval, Act.put]) (by have := HB.out; have := HK.out; omega) N2.out h1b.out (by unfold maxLen; omega) (by omega) (by simp; omega) ?_; intro v3 w3 hown3 hgrow3; have HO3 := Lib.hid hown3; have HG3 := Lib.hid hgrow3; have M3 := Lib.hid (M2.out.drew.grown hg hgrow3 (fun b hb => (HO2.out.lt b hb).1)); have d0 := M3.out.c0; have d1 := M3.out.c1; have d2 := M3.out.c2; have z0 := cell_of_block M3.out.z 0; have z1 := cell_of_block M3.out.z 1; have z2 := cell_of_block M3.out.z 2; have f0 := frozen_of_block M3.out.z 0; have f1 := frozen_of_block M3.out.z 1; have f2 := frozen_of_block M3.out.z 2; clear hown3 hgrow3))
    all_goals
      have HB3 := Lib.hid ((two_new w w2 _ _ HG2.out).trans (grown_below HG3.out (fun b hb => by have := (HO2.out.lt b hb).1; omega) (by omega)))
      have HF := Lib.hid (rtake_done (g := g) (n := n) (cap := cap) (m := m) hB HO3.out HB3.out (.int .i64 m.f) (.int .i64 m.t) (.string m.b) rfl)
      go_wp2
      exact bodyPost_ret (v := .tuple #[v3, .agg #[.int .i64 m.f, .int .i64 m.t, .string m.b], .int .i64 0]) (by simp [results, Try.results28, go_sem, Act.put, z0, z1, z2]) rfl HF.out

theorem rdouble_bad (B : Nat) (u : Value) (ms : List Msg) (i : Int) (w : World) (hown : w.ownsRow B 23 3 u ms.length (cells ms)) (hi : i < 0 ∨ (ms.length : Int) ≤ i) :
    Calls Try.prog 29 #[u, .int .i64 i] w fun e w' => Ref w w' e B u ms 4 := by
  have HO := Lib.hid hown
  obtain ⟨ao, cap, rfl, _⟩ := own_form hown
  clear hown
  have H0 := Lib.hid hi
  by_cases h : i < 0
  · clear hi
    go_enter Try.func29, Try.ntmps29
    go_wp2
    go_ret2
    exact ⟨_, rfl, HO.out, .inl rfl, Below.refl _ _⟩
  · have h2 : (ms.length : Int) ≤ i := by omega
    clear hi
    go_enter Try.func29, Try.ntmps29
    go_wp2
    go_ret2
    exact ⟨_, rfl, HO.out, .inl rfl, Below.refl _ _⟩

theorem rdouble_ok (B : Nat) (u : Value) (a b : List Msg) (m : Msg) (w : World) (hown : w.ownsRow B 23 3 u (a ++ m :: b).length (cells (a ++ m :: b))) (hB : B ≤ w.heap.size) (hl : (a ++ m :: b).length ≤ 256) :
    Calls Try.prog 29 #[u, .int .i64 a.length] w fun e w' => Ref w w' e B u (sendL (a ++ m :: b) m) (sendE (a ++ m :: b) m) := by
  have HO := Lib.hid hown
  have HL := Lib.hid hl
  obtain ⟨n, hn⟩ : ∃ n, n = (a ++ m :: b).length := ⟨_, rfl⟩
  rw [← hn] at hown hl
  obtain ⟨g, cap, rfl, hBg, hg⟩ := hown.form (by rw [hn]; simp; omega)
  obtain ⟨k0, k1, k2⟩ := cells_mid hown
  have hk : n = a.length + 1 + b.length := by rw [hn]; simp; omega
  have b1 : (0 : Int) ≤ (a.length : Int) := by omega
  have b2 : (a.length : Int) < (n : Int) := by omega
  have HN := Lib.hid hn
  clear hn hown hk
  go_enter Try.func29, Try.ntmps29
  go_wp2_with (go_at_call 27; refine (rsend_any B _ (a ++ m :: b) m _ HO.out hB HL.out).mono ?_; rintro e w1 ⟨u', rfl, ho, hn, hb⟩; have HO1 := Lib.hid ho; have HNW := Lib.hid hn; clear ho hn)
  go_ret2
  exact ⟨u', rfl, HO1.out, HNW.out, hb⟩

end Go.Proofs.Ytmgjjedhlnlmpaa
