/- The pool's other calls. -/
import Derived.Test.YtmgjjedhlnlmpaaB
namespace Go.Proofs.Ytmgjjedhlnlmpaa
open Go.RowKit

def atE (n : Nat) (i : Int) : Int := if i < 0 ∨ (n : Int) ≤ i then 4 else 0

theorem ret_i64 {a b : Int} (h : a = b) : Ending.returned (.int .i64 a) = .returned (.int .i64 b) := by rw [h]

theorem at_nil (i : Int) (w : World) : Calls Try.prog 24 #[.pointer none, .int .i64 i] w fun e w' => e = .returned (.int .i64 7) ∧ w = w' := by
  go_enter Try.func24, Try.ntmps24
  go_wp2
  go_ret
  exact ⟨rfl, rfl⟩

theorem at_any (B bp : Nat) (v : Value) (ms : List Msg) (i : Int) (w : World) (hp : PoolAt w B bp v ms) :
    Calls Try.prog 24 #[.pointer (some ⟨bp, 0, none⟩), .int .i64 i] w fun e w' => e = .returned (.int .i64 (atE ms.length i)) ∧ w = w' := by
  have hc := cell_of_block hp.box 0
  obtain ⟨ao, cap, rfl, _⟩ := own_form hp.own
  clear hp
  unfold atE
  go_enter Try.func24, Try.ntmps24
  go_wp2
  all_goals
    go_ret
    first | exact ⟨rfl, rfl⟩ | (exfalso; omega)

theorem run_copy_wide {P : Program} (w : World) (dT sT ty elem : TypeId) (size g o dLen dCap : Nat) (a : Addr) (sLen sCap : Nat) (cur : Array Value) (t : TypeId) (cs : List Value)
    (hu : P.underlying dT = some (.slice elem)) (hs : (P.info? elem).map (·.size) = some size)
    (hg : w.heap[g]? = some (.cells cur t (0, 0))) (hn : cs.length = Nat.min sLen dLen * size)
    (hsrc : ∀ j v, cs[j]? = some v → w.cell? (a.add j) = some v) (hfit : o + cs.length ≤ cur.size) (h1 : ∀ v ∈ cs, v.oneCell' = true) :
    (Builtin.copy_ #[dT, sT] ty #[.slice (some ⟨g, o, none⟩) dLen dCap, .slice (some a) sLen sCap]).run P w =
      .ok (goInt (Nat.min sLen dLen)) (w.setRow g (cur.toList.take o ++ cs ++ cur.toList.drop (o + cs.length)).toArray) := by
  have hl := run_loadCells_list (P := P) w a cs hsrc
  have hst := run_storeCells_at P g o t cs 0 cur w hg (by simpa using hfit) h1
  cases hq : P.info? elem with
  | none => simp [hq] at hs
  | some i =>
    have hi : i.size = size := by simpa [hq] using hs
    simp [Builtin.copy_, run_underlying hu, Builtin.lenOf, Builtin.firstCells, sizeOf, typeInfo, hq, hi, ← hn, hl, hst]

theorem step_copy_at {P : Program} {ops : Array Oper} {o : Oper} {a : Act} {w : World} {K : Act → World → Prop} {Q : Exit → Act → World → Prop} {E : Prop}
    (hg : o.guard = none) (d x : Operand) (dT sT : TypeId) (hop : o.op = Op.call { callee := Callee.builtin Builtin.copy, args := #[d, x], argTypes := #[dT, sT] })
    (v u : Value) (hd : a.eval d = v) (hx : a.eval x = u) {v' : Value} {w' : World} (hr : (Builtin.copy_ #[dT, sT] o.type #[v, u]).run P w = .ok v' w') (hK : K (a.put o.dst v') w') :
    if Region.wanted o (yielded ops a.tmps) = true then Oper.wp P o a w K Q else E := by
  have hw : Region.wanted o (yielded ops a.tmps) = true := by simp [Region.wanted, hg]
  rw [if_pos hw]
  unfold Oper.wp
  simp [execOp, hop, resolve, invoke, builtin, hd, hx, hr, Result.andThen]
  exact hK

/-- The copy onto itself, one place to the left: what it yields, and the row behind it. -/
theorem cut_row {w wx : World} {B g i k n cap : Nat} {xs : List Value} (hown : w.ownsRow B 23 3 (.slice (some ⟨g, 0, none⟩) n cap) n xs) (h1c : ∀ u ∈ xs, u.oneCell' = true) (hk : n = i + 1 + k) (hx : wx = w.drew)
    (ao : Addr) (c1 c2 dl sl : Nat) (hdl : dl = n - i) (hsl : sl = n - (i + 1)) (hao : 0 < k → ao = ⟨g, (i + 1) * 3, none⟩) :
    ∃ w', (Builtin.copy_ #[41, 41] 3 #[.slice (some ⟨g, i * 3, none⟩) dl c1, .slice (some ao) sl c2]).run Try.prog wx = .ok (.int .i64 k) w' ∧
      Hid (w'.ownsRow B 23 3 (.slice (some ⟨g, 0, none⟩) (i + k) cap) (i + k) (xs.take (i * 3) ++ xs.drop ((i + 1) * 3)) ∧ w.grownBy w' (some g)) := by
  subst hx hdl hsl
  obtain ⟨hxl, hrow⟩ := hown
  rcases hrow with ⟨h, _⟩ | ⟨g', cap', cur, hv, hB, hg, hnc, hcm, hcs, htake⟩
  · cases h
  cases hv
  have hl : (xs.drop ((i + 1) * 3)).length = k * 3 := by rw [List.length_drop, hxl]; omega
  have hmin : Nat.min (n - (i + 1)) (n - i) = k := by show min _ _ = _; omega
  have hsrc : ∀ j v, (xs.drop ((i + 1) * 3))[j]? = some v → w.drew.cell? (ao.add j) = some v := by
    intro j v hj
    have hjl : j < k * 3 := by rw [← hl]; exact (List.getElem?_eq_some_iff.1 hj).1
    rw [hao (by omega), Addr.add_lit]
    have hg' : w.drew.heap[g]? = some (.cells cur 23 (0, 0)) := hg
    rw [cell_of_block hg']
    rw [List.getElem?_drop, ← htake, List.getElem?_take] at hj
    split at hj
    · simpa using hj
    · cases hj
  have hr := run_copy_wide (P := Try.prog) w.drew 41 41 3 23 3 g (i * 3) (n - i) c1 ao (n - (i + 1)) c2 cur 23 (xs.drop ((i + 1) * 3)) Try.underlying41 (by kernel_rfl) hg (by rw [hl, hmin]) hsrc (by omega)
    (fun v hv => h1c v (List.mem_of_mem_drop hv))
  rw [hmin] at hr
  refine ⟨_, hr, ⟨?_, .inr ⟨g, cap, _, rfl, hB, setRow_heap w.drew g cur _ 23 _ hg, by omega, hcm, ?_, ?_⟩⟩, ⟨rfl, rfl, rfl, by simp, fun k' _ hk' => setRow_other w.drew g k' _ (fun e => hk' (by simp [e]))⟩⟩
  · rw [List.length_append, List.length_take, hl, hxl]; omega
  · simp only [List.size_toArray, List.length_append, List.length_take, List.length_drop, Array.length_toList, hxl]
    omega
  · have e1 : cur.toList.take (i * 3) = xs.take (i * 3) := by rw [← htake, List.take_take, Nat.min_eq_left (by omega)]
    rw [e1]
    apply List.take_left'
    rw [List.length_append, List.length_take, hl, hxl]; omega

theorem without_any (B g i n k cap : Nat) (xs : List Value) (w : World) (hown : w.ownsRow B 23 3 (.slice (some ⟨g, 0, none⟩) n cap) n xs) (h1c : ∀ u ∈ xs, u.oneCell' = true) (hk : n = i + 1 + k) :
    Calls Try.prog 31 #[.slice (some ⟨g, 0, none⟩) n cap, .int .i64 i] w fun e w' => e = .returned (.slice (some ⟨g, 0, none⟩) (i + k) cap) ∧
      Hid (w'.ownsRow B 23 3 (.slice (some ⟨g, 0, none⟩) (i + k) cap) (i + k) (xs.take (i * 3) ++ xs.drop ((i + 1) * 3)) ∧ w.grownBy w' (some g)) := by
  have hcm : cap ≤ 9223372036854775807 ∧ n ≤ cap := by
    rcases hown.2 with ⟨h, _⟩ | ⟨_, _, _, hv, _, _, h1, h2, _⟩
    · cases h
    · cases hv; exact ⟨h2, h1⟩
  obtain ⟨hcm, hle⟩ := hcm
  have h1 : (0 : Int) ≤ (i : Int) := by omega
  have h2 : (i : Int) ≤ (n : Int) := by omega
  have h3 : (i : Int) + 1 ≤ (n : Int) := by omega
  have h4 : cap ≠ i := by omega
  have h5 : (0 : Int) ≤ (i : Int) + 1 := by omega
  have h9 : (i : Int) + (k : Int) ≤ (cap : Int) := by omega
  have h6 : IntKind.i64.wrap ((i : Int) + 1) = (i : Int) + 1 := IntWalk.i64_in _ (by omega)
  have h7 : ((i : Int) + 1).toNat = i + 1 := by omega
  have HR := fun ao c1 c2 dl sl hdl hsl hao => cut_row (k := k) (ao := ao) (c1 := c1) (c2 := c2) (dl := dl) (sl := sl) hown h1c hk rfl hdl hsl hao
  have HR' := Lib.hid HR
  have HK := Lib.hid hk
  clear HR hown h1c hk
  by_cases h8 : cap = i + 1
  · obtain ⟨w2, hr, H2⟩ := HR'.out ⟨g, 0, none⟩ 1 0 (n - i) 0 rfl (by omega) (by have := HK.out; omega)
    subst h8
    have HR2 := Lib.hid hr
    clear hr HR'
    go_enter Try.func31, Try.ntmps31
    go_wp2
    go_region_law (refine step_copy_at (by rfl) (.tmp 8) (.tmp 12) 41 41 (by rfl) _ _ (by simp [Act.eval, Act.put]) (by simp [Act.eval, Act.put]) HR2.out ?_)
    go_wp2
    go_ret
    exact ⟨rfl, H2⟩
  · obtain ⟨w2, hr, H2⟩ := HR'.out ⟨g, (i + 1) * 3, none⟩ (cap - i) (cap - (i + 1)) (n - i) (n - (i + 1)) rfl rfl (fun _ => rfl)
    have HR2 := Lib.hid hr
    clear hr HR'
    go_enter Try.func31, Try.ntmps31
    go_wp2
    go_region_law (refine step_copy_at (by rfl) (.tmp 8) (.tmp 12) 41 41 (by rfl) _ _ (by simp [Act.eval, Act.put]) (by simp [Act.eval, Act.put]) HR2.out ?_)
    go_wp2
    go_ret
    exact ⟨rfl, H2⟩

theorem cells_split (a b : List Msg) (m : Msg) : (cells (a ++ m :: b)).take (a.length * 3) ++ (cells (a ++ m :: b)).drop ((a.length + 1) * 3) = cells (a ++ b) := by
  have e : cells (a ++ m :: b) = cells a ++ (m.vals ++ cells b) := by simp [cells]
  have hl : (cells a).length = a.length * 3 := length_cells a
  rw [e, cells_append, List.take_left' hl]
  congr 1
  rw [← List.append_assoc, List.drop_left' (by rw [List.length_append, hl]; simp [Msg.vals]; omega)]

theorem cells_oneCell (ms : List Msg) : ∀ u ∈ cells ms, u.oneCell' = true := by
  intro u hu
  simp only [cells, List.mem_flatMap, Msg.vals] at hu
  obtain ⟨m, _, hm⟩ := hu
  simp at hm
  rcases hm with rfl | rfl | rfl <;> rfl

/-- The three cells of the message in the midst. -/
theorem cells_mid {w : World} {B n cap g : Nat} {a b : List Msg} {m : Msg} (h : w.ownsRow B 23 3 (.slice (some ⟨g, 0, none⟩) n cap) n (cells (a ++ m :: b))) :
    w.cell? ⟨g, a.length * 3, none⟩ = some (.int .i64 m.f) ∧ w.cell? ⟨g, a.length * 3 + 1, none⟩ = some (.int .i64 m.t) ∧ w.cell? ⟨g, a.length * 3 + 2, none⟩ = some (.string m.b) := by
  have hc := h.cells (g := g) rfl
  have e : cells (a ++ m :: b) = cells a ++ (m.vals ++ cells b) := by simp [cells]
  have hl : (cells a).length = a.length * 3 := length_cells a
  have k : ∀ j u, m.vals[j]? = some u → w.cell? ⟨g, a.length * 3 + j, none⟩ = some u := by
    intro j u hu
    have hj := (List.getElem?_eq_some_iff.1 hu).1
    have := hc (a.length * 3 + j) u (by rw [e, List.getElem?_append_right (by omega), hl, show a.length * 3 + j - a.length * 3 = j by omega, List.getElem?_append_left hj]; exact hu)
    rwa [Addr.add_lit, Nat.zero_add] at this
  exact ⟨k 0 _ rfl, k 1 _ rfl, k 2 _ rfl⟩

theorem Only.refl (bp : Nat) (ro : Option Nat) (w : World) : Only bp ro w w := ⟨rfl, rfl, rfl, Nat.le_refl _, fun _ _ _ _ => rfl⟩
theorem Only.trans {bp : Nat} {ro : Option Nat} {w w1 w2 : World} (h : Only bp ro w w1) (k : Only bp ro w1 w2) : Only bp ro w w2 :=
  ⟨k.os.trans h.os, k.tape.trans h.tape, k.output.trans h.output, Nat.le_trans h.size k.size, fun i hi a b => (k.block i (Nat.lt_of_lt_of_le hi h.size) a b).trans (h.block i hi a b)⟩
theorem Only.alloc {bp : Nat} {ro : Option Nat} {w w1 : World} (h : Only bp ro w w1) (o : Obj) : Only bp ro w (w1.alloc o) :=
  h.trans ⟨rfl, rfl, rfl, by simp, fun k hk _ _ => Below.heap_alloc w1 o k hk⟩
theorem Only.drew {bp : Nat} {ro : Option Nat} {w w1 : World} (h : Only bp ro w w1) : Only bp ro w w1.drew := ⟨h.os, h.tape, h.output, h.size, h.block⟩
theorem Only.grown {bp : Nat} {ro : Option Nat} {w w1 w2 : World} (h : Only bp ro w w1) (k : w1.grownBy w2 ro) : Only bp ro w w2 :=
  h.trans ⟨k.os, k.tape, k.output, k.size, fun i hi _ b => k.block i hi b⟩
theorem Only.setCell {bp : Nat} {ro : Option Nat} {w w1 : World} (h : Only bp ro w w1) {a : Addr} (ha : a.block = bp ∨ w.heap.size ≤ a.block) (u : Value) : Only bp ro w (w1.setCell a u) := by
  refine ⟨h.os, h.tape, h.output, by simpa using h.size, fun k hk h1 h2 => ?_⟩
  rw [Below.heap_setCell _ _ _ _ (by rcases ha with e | e <;> omega)]
  exact h.block k hk h1 h2
theorem Only.of_below {bp : Nat} {ro : Option Nat} {w w1 : World} (h : Below w.heap.size w w1) : Only bp ro w w1 := ⟨h.os, h.tape, h.output, h.size, fun k hk _ _ => h.block k hk⟩

theorem out_done {w w1 : World} {o1 o2 : Obj} {B bp n cap g i : Nat} {a b : List Msg} {m : Msg} (hp : PoolAt w B bp (.slice (some ⟨g, 0, none⟩) n cap) (a ++ m :: b)) (hi : a.length = i) (hne : g ≠ bp) (hg : g < w.heap.size)
    (H1 : w1.ownsRow B 23 3 (.slice (some ⟨g, 0, none⟩) (i + b.length) cap) (i + b.length) ((cells (a ++ m :: b)).take (i * 3) ++ (cells (a ++ m :: b)).drop ((i + 1) * 3)) ∧ ((w.alloc o1).alloc o2).grownBy w1 (some g))
    (hb : w1.heap[bp]? = some (.cells #[.slice (some ⟨g, 0, none⟩) n cap] 56 (0, 0))) (u0 u1 u2 : Value) :
    Sent w ((((w1.setCell ⟨bp, 0, none⟩ (.slice (some ⟨g, 0, none⟩) (i + b.length) cap)).setCell ⟨w.heap.size, 0, none⟩ u0).setCell ⟨w.heap.size, 1, none⟩ u1).setCell ⟨w.heap.size, 2, none⟩ u2) B bp (.slice (some ⟨g, 0, none⟩) n cap) (a ++ b) := by
  have hlt := hp.lt
  obtain ⟨h1, h2⟩ := H1
  subst hi
  rw [cells_split] at h1
  refine ⟨.slice (some ⟨g, 0, none⟩) (a.length + b.length) cap, ⟨?_, ?_, hp.le⟩, .inl rfl, ?_⟩
  · rw [Below.heap_setCell _ _ _ _ (by simp; omega), Below.heap_setCell _ _ _ _ (by simp; omega), Below.heap_setCell _ _ _ _ (by simp; omega)]
    exact one_setCell hb
  · rw [List.length_append]
    exact ownsRow_setCell_other (ownsRow_setCell_other (ownsRow_setCell_other (ownsRow_setCell_other h1 (by simp [Value.ownBlock]; omega) _) (by simp [Value.ownBlock]; omega) _) (by simp [Value.ownBlock]; omega) _) (by simp [Value.ownBlock]; omega) _
  · exact ((((((((Only.refl bp (some g) w).alloc o1).alloc o2).grown h2).setCell (.inl rfl) _).setCell (.inr (Nat.le_refl _)) _).setCell (.inr (Nat.le_refl _)) _).setCell (.inr (Nat.le_refl _)) _)

set_option maxHeartbeats 400000 in
theorem out_any (B bp : Nat) (v : Value) (a b : List Msg) (m : Msg) (w : World) (hp : PoolAt w B bp v (a ++ m :: b)) :
    Calls Try.prog 25 #[.pointer (some ⟨bp, 0, none⟩), .int .i64 a.length] w fun e w' => e = .returned m.agg ∧ Sent w w' B bp v (a ++ b) := by
  obtain ⟨n, hn⟩ : ∃ n, n = (a ++ m :: b).length := ⟨_, rfl⟩
  have hown := hp.own
  rw [← hn] at hown
  obtain ⟨g, cap, rfl, hBg, hg⟩ := hown.form (by rw [hn]; simp; omega)
  obtain ⟨k0, k1, k2⟩ := cells_mid hown
  have hk : n = a.length + 1 + b.length := by rw [hn]; simp; omega
  have hc := cell_of_block hp.box 0
  have hf := frozen_of_block hp.box 0
  have hlt := hp.lt
  have hap := hp.apart
  have HP := Lib.hid hp
  have HO := Lib.hid hown
  have b1 : (0 : Int) ≤ (a.length : Int) := by omega
  have b2 : (a.length : Int) < (n : Int) := by omega
  have HK := Lib.hid hk
  have HN := Lib.hid hn
  clear hn hp hown hk
  generalize hi : a.length = i at *
  have HI := Lib.hid hi
  clear hi
  unfold Msg.agg
  go_enter Try.func25, Try.ntmps25
  go_wp2_with fail
  refine (without_any B g i n b.length cap _ _ ((HO.out.alloc _).alloc _) (cells_oneCell _) HK.out).mono ?_
  rintro e w1 ⟨rfl, H1⟩
  have hne : g ≠ bp := fun e => hap (by rw [e]; rfl)
  have hb := (H1.out.2.block bp (by simp; omega) (by simpa using Ne.symm hne)).trans ((Below.heap_alloc _ _ bp (by simp; omega)).trans ((Below.heap_alloc w _ bp hlt).trans HP.out.box))
  have hz := (H1.out.2.block w.heap.size (by simp; omega) (by simp; omega)).trans ((Below.heap_alloc _ _ _ (by simp)).trans (heap_alloc_new w _))
  have hm := (H1.out.2.block (w.heap.size + 1) (by simp) (by simp; omega)).trans ((congrArg (fun k => ((w.alloc _).alloc _).heap[k]?) (World.size_alloc w _).symm).trans (heap_alloc_new _ _))
  have hs := H1.out.2.size
  simp only [World.size_alloc] at hs
  have hc1 := cell_of_block hb 0
  have hf1 := frozen_of_block hb 0
  have z0 := cell_of_block hz 0
  have z1 := cell_of_block hz 1
  have z2 := cell_of_block hz 2
  have zf0 := frozen_of_block hz 0
  have zf1 := frozen_of_block hz 1
  have zf2 := frozen_of_block hz 2
  have m0 := cell_of_block hm 0
  have m1 := cell_of_block hm 1
  have m2 := cell_of_block hm 2
  have hb1 : bp ≠ w.heap.size := by omega
  have hb2 : bp ≠ w.heap.size + 1 := by omega
  have HB := Lib.hid hb
  clear hb hz hm k0 k1 k2 hc hf
  have HD := Lib.hid (out_done HP.out HI.out hne hg H1.out HB.out (.int .i64 m.f) (.int .i64 m.t) (.string m.b))
  go_wp2
  exact bodyPost_ret (v := .agg #[.int .i64 m.f, .int .i64 m.t, .string m.b]) (by simp [results, Try.results25, go_sem, z0, z1, z2]) rfl ⟨rfl, HD.out⟩
end Go.Proofs.Ytmgjjedhlnlmpaa
