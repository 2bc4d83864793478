/-
  The plain law of percent-encoding over lists of bytes, with no program in sight: encode, decode, the reference's decode, pairs read and written. No condition.
-/
import Derived.Lib.SplitLaws
import Derived.Lib.Join
import Derived.Lib.Bytealg
import Derived.KernelRfl
namespace Go.Proofs.YtndigceamabapaaDoor

/-- A byte that stands as it is. -/
def plainB (b : UInt8) : Bool := decide (b.toNat = 45 ∨ b.toNat = 95 ∨ b.toNat = 46 ∨ b.toNat = 126 ∨ (97 ≤ b.toNat ∧ b.toNat ≤ 122) ∨ (65 ≤ b.toNat ∧ b.toNat ≤ 90) ∨ (48 ≤ b.toNat ∧ b.toNat ≤ 57))
/-- A digit of base 16. -/
def hexB (n : Nat) : UInt8 := if n < 10 then UInt8.ofNat (48 + n) else UInt8.ofNat (55 + n)
/-- The digits of base 16, in order. -/
def digitsL : List UInt8 := [48, 49, 50, 51, 52, 53, 54, 55, 56, 57, 65, 66, 67, 68, 69, 70]
/-- A digit's value; -1: it is none. -/
def valB (b : UInt8) : Int := Lib.indexByte digitsL b
/-- The byte of two digits. -/
def byteOf (x y : UInt8) : UInt8 := UInt8.ofNat (16 * (valB x).toNat + (valB y).toNat)
/-- One byte, encoded. -/
def enc1 (b : UInt8) : List UInt8 := if plainB b then [b] else [37, hexB (b.toNat / 16), hexB (b.toNat % 16)]
def enc : List UInt8 → List UInt8
  | [] => []
  | b :: l => enc1 b ++ enc l

/-- The program's decoding. -/
def dec : List UInt8 → Option (List UInt8)
  | [] => some []
  | b :: r =>
    if plainB b then (dec r).map (b :: ·)
    else match r with
      | x :: y :: r' => if b = 37 ∧ 0 ≤ valB x ∧ 0 ≤ valB y ∧ plainB (byteOf x y) = false then (dec r').map (byteOf x y :: ·) else none
      | _ => none
/-- The reference's decoding, ahead of its test. -/
def rdec : List UInt8 → Option (List UInt8)
  | [] => some []
  | b :: r =>
    if b ≠ 37 then (rdec r).map (b :: ·)
    else match r with
      | x :: y :: r' => if 0 ≤ valB x ∧ 0 ≤ valB y then (rdec r').map (byteOf x y :: ·) else none
      | _ => none

theorem enc_append (a b : List UInt8) : enc (a ++ b) = enc a ++ enc b := by
  induction a with
  | nil => rfl
  | cons x a ih => simp [enc, ih]

theorem enc_length (l : List UInt8) : (enc l).length ≤ 3 * l.length := by
  induction l with
  | nil => simp [enc]
  | cons b l ih =>
    have : (enc1 b).length ≤ 3 := by unfold enc1; split <;> simp
    simp [enc]; omega

theorem enc_take (l : List UInt8) (k : Nat) (h : k < l.length) : enc (l.take (k + 1)) = enc (l.take k) ++ enc1 l[k] := by
  rw [List.take_succ_eq_append_getElem h, enc_append]; simp [enc]

/-- What holds of every byte is tried at 256 places. -/
theorem all_bytes (p : UInt8 → Bool) (h : ∀ n : Fin 256, p (UInt8.ofNat n.val) = true) (b : UInt8) : p b = true := by
  have := h ⟨b.toNat, b.toNat_lt⟩
  simpa using this

theorem plain_37 : plainB 37 = false := by decide
theorem plain_38 : plainB 38 = false := by decide
theorem plain_61 : plainB 61 = false := by decide

theorem val_hex (n : Nat) (h : n < 16) : valB (hexB n) = n := by
  have : ∀ k : Fin 16, valB (hexB k.val) = k.val := by decide
  exact this ⟨n, h⟩
theorem hex_val (b : UInt8) (h : 0 ≤ valB b) : (valB b).toNat < 16 ∧ hexB (valB b).toNat = b := by
  have := all_bytes (fun b => decide (0 ≤ valB b → (valB b).toNat < 16 ∧ hexB (valB b).toNat = b)) (fun n => by revert n; exact of_decide_eq_true (by kernel_rfl)) b
  exact of_decide_eq_true this h

theorem byteOf_hex (b : UInt8) : byteOf (hexB (b.toNat / 16)) (hexB (b.toNat % 16)) = b := by
  have := all_bytes (fun b => decide (byteOf (hexB (b.toNat / 16)) (hexB (b.toNat % 16)) = b)) (fun n => by revert n; exact of_decide_eq_true (by kernel_rfl)) b
  exact of_decide_eq_true this
theorem hex_plain (n : Nat) (h : n < 16) : plainB (hexB n) = true := by
  have : ∀ k : Fin 16, plainB (hexB k.val) = true := by decide
  exact this ⟨n, h⟩

theorem byteOf_toNat (x y : UInt8) (hx : 0 ≤ valB x) (hy : 0 ≤ valB y) : (byteOf x y).toNat = 16 * (valB x).toNat + (valB y).toNat := by
  have h1 := (hex_val x hx).1
  have h2 := (hex_val y hy).1
  unfold byteOf
  rw [UInt8.toNat_ofNat']
  omega

theorem enc1_byteOf (x y : UInt8) (hx : 0 ≤ valB x) (hy : 0 ≤ valB y) (hp : plainB (byteOf x y) = false) : enc1 (byteOf x y) = [37, x, y] := by
  have h1 := hex_val x hx
  have h2 := hex_val y hy
  unfold enc1
  rw [hp, byteOf_toNat x y hx hy]
  have e1 : (16 * (valB x).toNat + (valB y).toNat) / 16 = (valB x).toNat := by omega
  have e2 : (16 * (valB x).toNat + (valB y).toNat) % 16 = (valB y).toNat := by omega
  rw [e1, e2, h1.2, h2.2]
  rfl

theorem dec_enc : ∀ l : List UInt8, dec (enc l) = some l
  | [] => rfl
  | b :: l => by
    have ih := dec_enc l
    by_cases hp : plainB b = true
    · have : enc (b :: l) = b :: enc l := by simp [enc, enc1, hp]
      rw [this]; unfold dec; rw [if_pos hp, ih]; rfl
    · have hp' : plainB b = false := by simpa using hp
      have e : enc (b :: l) = 37 :: hexB (b.toNat / 16) :: hexB (b.toNat % 16) :: enc l := by simp [enc, enc1, hp']
      have hb := b.toNat_lt
      have h1 : valB (hexB (b.toNat / 16)) = ((b.toNat / 16 : Nat) : Int) := val_hex _ (by omega)
      have h2 : valB (hexB (b.toNat % 16)) = ((b.toNat % 16 : Nat) : Int) := val_hex _ (by omega)
      rw [e]; unfold dec
      rw [if_neg (by rw [plain_37]; decide)]
      show (if _ then _ else _) = _
      rw [if_pos ⟨rfl, by omega, by omega, by rw [byteOf_hex]; exact hp'⟩, byteOf_hex, ih]
      rfl

theorem enc_dec : ∀ (n : Nat) (s : List UInt8), s.length ≤ n → ∀ t, dec s = some t → enc t = s ∧ rdec s = some t
  | _, [], _, t, h => by
    have : t = [] := by simpa [dec] using h.symm
    subst this; exact ⟨rfl, rfl⟩
  | 0, _ :: _, hn, _, _ => by simp at hn
  | n + 1, b :: r, hn, t, h => by
    unfold dec at h
    by_cases hp : plainB b = true
    · rw [if_pos hp] at h
      obtain ⟨t', ht, rfl⟩ := Option.map_eq_some_iff.1 h
      have ih := enc_dec n r (by simpa using hn) t' ht
      have hb : b ≠ 37 := fun e => by rw [e, plain_37] at hp; cases hp
      refine ⟨by simp [enc, enc1, hp, ih.1], ?_⟩
      unfold rdec; rw [if_pos hb, ih.2]; rfl
    · rw [if_neg hp] at h
      match r, hn, h with
      | [], _, h => simp at h
      | [_], _, h => simp at h
      | x :: y :: r', hn, h =>
        simp only at h
        by_cases hc : b = 37 ∧ 0 ≤ valB x ∧ 0 ≤ valB y ∧ plainB (byteOf x y) = false
        · rw [if_pos hc] at h
          obtain ⟨t', ht, rfl⟩ := Option.map_eq_some_iff.1 h
          have ih := enc_dec n r' (by simp at hn; omega) t' ht
          obtain ⟨rfl, hx, hy, hq⟩ := hc
          refine ⟨by simp [enc, enc1_byteOf x y hx hy hq, ih.1], ?_⟩
          unfold rdec
          rw [if_neg (by simp)]
          show (if _ then _ else _) = _
          rw [if_pos ⟨hx, hy⟩, ih.2]; rfl
        · rw [if_neg hc] at h; cases h

/-- The reference's decoding. -/
def refDec (s : List UInt8) : Option (List UInt8) := (rdec s).bind fun t => if enc t = s then some t else none

theorem refDec_eq (s : List UInt8) : refDec s = dec s := by
  unfold refDec
  cases hd : dec s with
  | some t =>
    have h := enc_dec s.length s (Nat.le_refl _) t hd
    rw [h.2]; simp [h.1]
  | none =>
    cases hr : rdec s with
    | none => rfl
    | some t =>
      show (if enc t = s then some t else none) = none
      by_cases he : enc t = s
      · rw [← he, dec_enc] at hd; cases hd
      · rw [if_neg he]

/- By places. -/
theorem dec_stop (l : List UInt8) (k : Nat) (h : l.length ≤ k) : dec (l.drop k) = some [] := by rw [List.drop_eq_nil_of_le h]; rfl
theorem dec_plain (l : List UInt8) (k : Nat) (h : k < l.length) (hp : plainB l[k] = true) : dec (l.drop k) = (dec (l.drop (k + 1))).map (l[k] :: ·) := by
  rw [List.drop_eq_getElem_cons h, dec.eq_def]; simp only [hp, if_true]
theorem dec_other (l : List UInt8) (k : Nat) (h : k < l.length) (hp : plainB l[k] = false) (h37 : l[k] ≠ 37) : dec (l.drop k) = none := by
  rw [List.drop_eq_getElem_cons h]; unfold dec; rw [if_neg (by rw [hp]; decide)]
  match l.drop (k + 1) with
  | [] => rfl
  | [_] => rfl
  | x :: y :: r => simp [h37]
theorem dec_short (l : List UInt8) (k : Nat) (h : k < l.length) (hp : plainB l[k] = false) (hs : l.length ≤ k + 2) : dec (l.drop k) = none := by
  rw [List.drop_eq_getElem_cons h]; unfold dec; rw [if_neg (by rw [hp]; decide)]
  have hl : (l.drop (k + 1)).length ≤ 1 := by simp; omega
  match l.drop (k + 1), hl with
  | [], _ => rfl
  | [_], _ => rfl
  | x :: y :: r, hl => simp at hl
theorem drop_three (l : List UInt8) (k : Nat) (h : k + 2 < l.length) : l.drop k = l[k] :: l[k + 1] :: l[k + 2] :: l.drop (k + 3) := by
  rw [List.drop_eq_getElem_cons (by omega : k < l.length), List.drop_eq_getElem_cons (by omega : k + 1 < l.length), List.drop_eq_getElem_cons h]
theorem dec_bad (l : List UInt8) (k : Nat) (h : k + 2 < l.length) (hp : plainB l[k] = false) (hb : valB l[k + 1] < 0 ∨ valB l[k + 2] < 0 ∨ plainB (byteOf l[k + 1] l[k + 2]) = true) : dec (l.drop k) = none := by
  rw [drop_three l k h]; unfold dec; rw [if_neg (by rw [hp]; decide)]
  show (if _ then _ else _) = _
  rw [if_neg (by rintro ⟨_, h1, h2, h3⟩; rcases hb with hb | hb | hb
                 · omega
                 · omega
                 · rw [h3] at hb; cases hb)]
theorem dec_three (l : List UInt8) (k : Nat) (h : k + 2 < l.length) (h37 : l[k] = 37) (hx : 0 ≤ valB l[k + 1]) (hy : 0 ≤ valB l[k + 2]) (hq : plainB (byteOf l[k + 1] l[k + 2]) = false) :
    dec (l.drop k) = (dec (l.drop (k + 3))).map (byteOf l[k + 1] l[k + 2] :: ·) := by
  rw [drop_three l k h, h37]
  generalize l[k + 1] = x at *
  generalize l[k + 2] = y at *
  rw [dec.eq_def]; simp only [plain_37, hx, hy, hq, and_self, if_true, Bool.false_eq_true, if_false]

theorem rdec_stop (l : List UInt8) (k : Nat) (h : l.length ≤ k) : rdec (l.drop k) = some [] := by rw [List.drop_eq_nil_of_le h]; rfl
theorem rdec_plain (l : List UInt8) (k : Nat) (h : k < l.length) (hp : l[k] ≠ 37) : rdec (l.drop k) = (rdec (l.drop (k + 1))).map (l[k] :: ·) := by
  rw [List.drop_eq_getElem_cons h]; rw [rdec.eq_def]; simp only [ne_eq, hp, not_false_eq_true, if_true]
theorem rdec_short (l : List UInt8) (k : Nat) (h : k < l.length) (hp : l[k] = 37) (hs : l.length ≤ k + 2) : rdec (l.drop k) = none := by
  rw [List.drop_eq_getElem_cons h, hp]; unfold rdec; rw [if_neg (by simp)]
  have hl : (l.drop (k + 1)).length ≤ 1 := by simp; omega
  match l.drop (k + 1), hl with
  | [], _ => rfl
  | [_], _ => rfl
  | x :: y :: r, hl => simp at hl
theorem rdec_bad (l : List UInt8) (k : Nat) (h : k + 2 < l.length) (hp : l[k] = 37) (hb : valB l[k + 1] < 0 ∨ valB l[k + 2] < 0) : rdec (l.drop k) = none := by
  rw [drop_three l k h, hp]; unfold rdec; rw [if_neg (by simp)]
  show (if _ then _ else _) = _
  rw [if_neg (by rintro ⟨h1, h2⟩; omega)]
theorem rdec_three (l : List UInt8) (k : Nat) (h : k + 2 < l.length) (h37 : l[k] = 37) (hx : 0 ≤ valB l[k + 1]) (hy : 0 ≤ valB l[k + 2]) :
    rdec (l.drop k) = (rdec (l.drop (k + 3))).map (byteOf l[k + 1] l[k + 2] :: ·) := by
  rw [drop_three l k h, h37]
  generalize l[k + 1] = x at *
  generalize l[k + 2] = y at *
  rw [rdec.eq_def]; simp only [hx, hy, and_self, if_true, ne_eq, not_true_eq_false, if_false]

theorem dec_length (s t : List UInt8) (h : dec s = some t) : t.length ≤ s.length := by
  have e := (enc_dec s.length s (Nat.le_refl _) t h).1
  rw [← e]
  clear h e
  induction t with
  | nil => simp
  | cons b t ih =>
    have : 1 ≤ (enc1 b).length := by unfold enc1; split <;> simp
    simp [enc]; omega

/- PAIRS. -/
def parts (c : UInt8) : List UInt8 → List (List UInt8)
  | [] => [[]]
  | b :: l => if b = c then [] :: parts c l else match parts c l with
    | p :: ps => (b :: p) :: ps
    | [] => [[b]]

theorem parts_ne (c : UInt8) : ∀ l, parts c l ≠ []
  | [] => by simp [parts]
  | b :: l => by
    unfold parts; split
    · simp
    · split <;> simp

theorem parts_none (c : UInt8) : ∀ a : List UInt8, (∀ x ∈ a, x ≠ c) → parts c a = [a]
  | [], _ => rfl
  | b :: a, h => by
    have ih := parts_none c a (fun x hx => h x (List.mem_cons_of_mem _ hx))
    unfold parts; rw [if_neg (h b (List.mem_cons_self ..)), ih]

theorem parts_hit (c : UInt8) (l : List UInt8) : ∀ a : List UInt8, (∀ x ∈ a, x ≠ c) → parts c (a ++ c :: l) = a :: parts c l
  | [], _ => by simp [parts]
  | b :: a, h => by
    have ih := parts_hit c l a (fun x hx => h x (List.mem_cons_of_mem _ hx))
    show parts c (b :: (a ++ c :: l)) = _
    rw [parts, if_neg (h b (List.mem_cons_self ..)), ih]

theorem split_parts (c : UInt8) : ∀ s : List UInt8, Lib.splitK [c] 0 (Lib.count s [c]) s = parts c s
  | [] => by rw [Lib.count_miss (by simp [Lib.index])]; rfl
  | b :: l => by
    have ih := split_parts c l
    by_cases h : b = c
    · subst h
      have hix : Lib.index (b :: l) [b] = 0 := by rw [Lib.index]; simp [List.isPrefixOf]
      rw [Lib.count_cons_eq, Nat.add_comm, Lib.splitK, hix]
      simp only [parts, if_true]
      rw [if_neg (by decide)]
      simp [ih]
    · have hp : ([c] : List UInt8).isPrefixOf (b :: l) = false := by simp [List.isPrefixOf, Ne.symm h]
      have hix : Lib.index (b :: l) [c] = if Lib.index l [c] == -1 then -1 else Lib.index l [c] + 1 := by rw [Lib.index, hp]; simp
      rw [Lib.count_cons_ne b c l h]
      unfold parts
      rw [if_neg h, ← ih]
      by_cases hm : Lib.index l [c] = -1
      · rw [Lib.count_miss hm]; rfl
      · have hge := Lib.index_ge l [c]
        obtain ⟨j, hj⟩ : ∃ j : Nat, Lib.index l [c] = j := ⟨(Lib.index l [c]).toNat, by omega⟩
        have hix' : Lib.index (b :: l) [c] = ((j + 1 : Nat) : Int) := by rw [hix, if_neg (fun e => hm (beq_iff_eq.1 e)), hj]; omega
        rw [Lib.count_hit (by simp) hj, Nat.add_comm, Lib.splitK, Lib.splitK, hj, hix']
        rw [if_neg (by simp; omega), if_neg (by simp)]
        simp

/-- One part: a key and a value, if it is one. -/
def pairOf (p : List UInt8) : Option (List UInt8 × List UInt8) :=
  if (Lib.cut p [61]).2.2 then
    match dec (Lib.cut p [61]).1, dec (Lib.cut p [61]).2.1 with
    | some k, some v => some (k, v)
    | _, _ => none
  else none
def pairsOf : List (List UInt8) → Option (List (List UInt8 × List UInt8))
  | [] => some []
  | p :: ps => match pairOf p with
    | some x => (pairsOf ps).map (x :: ·)
    | none => none
/-- All pairs of a text. -/
def readL (s : List UInt8) : Option (List (List UInt8 × List UInt8)) := if s = [] then some [] else pairsOf (parts 38 s)

def piece (x : List UInt8 × List UInt8) : List UInt8 := enc x.1 ++ 61 :: enc x.2
def writeL (l : List (List UInt8 × List UInt8)) : List UInt8 := Lib.join (l.map piece) [38]

theorem enc_no (c : UInt8) (hc : plainB c = false) (h37 : c ≠ 37) : ∀ (l : List UInt8), ∀ x ∈ enc l, x ≠ c
  | [], x, hx => by simp [enc] at hx
  | b :: l, x, hx => by
    rw [enc, List.mem_append] at hx
    rcases hx with hx | hx
    · unfold enc1 at hx
      have hb := b.toNat_lt
      split at hx
      · next hp => simp at hx; subst hx; intro e; rw [e, hc] at hp; cases hp
      · simp at hx
        rcases hx with rfl | rfl | rfl
        · exact fun e => h37 e.symm
        · intro e; have := hex_plain (b.toNat / 16) (by omega); rw [e, hc] at this; cases this
        · intro e; have := hex_plain (b.toNat % 16) (by omega); rw [e, hc] at this; cases this
    · exact enc_no c hc h37 l x hx

theorem index_at (c : UInt8) (l : List UInt8) : ∀ a : List UInt8, (∀ x ∈ a, x ≠ c) → Lib.index (a ++ c :: l) [c] = (a.length : Int)
  | [], _ => by simp [Lib.index, List.isPrefixOf]
  | b :: a, h => by
    have ih := index_at c l a (fun x hx => h x (List.mem_cons_of_mem _ hx))
    show Lib.index (b :: (a ++ c :: l)) [c] = _
    have hb : ¬ c = b := fun e => h b (List.mem_cons_self ..) e.symm
    have hp : ([c] : List UInt8).isPrefixOf (b :: (a ++ c :: l)) = false := by simp [List.isPrefixOf, hb]
    rw [Lib.index, hp, ih, if_neg (by decide), if_neg (by simp)]
    simp

theorem index_none (c : UInt8) : ∀ a : List UInt8, (∀ x ∈ a, x ≠ c) → Lib.index a [c] = -1
  | [], _ => by simp [Lib.index]
  | b :: a, h => by
    have ih := index_none c a (fun x hx => h x (List.mem_cons_of_mem _ hx))
    have hb : ¬ c = b := fun e => h b (List.mem_cons_self ..) e.symm
    have hp : ([c] : List UInt8).isPrefixOf (b :: a) = false := by simp [List.isPrefixOf, hb]
    rw [Lib.index, hp, ih]; rfl

theorem cut_at (c : UInt8) (a l : List UInt8) (h : ∀ x ∈ a, x ≠ c) : Lib.cut (a ++ c :: l) [c] = (a, l, true) := by
  unfold Lib.cut
  rw [index_at c l a h, if_pos (by omega)]
  simp
theorem cut_none (c : UInt8) (a : List UInt8) (h : ∀ x ∈ a, x ≠ c) : Lib.cut a [c] = (a, [], false) := by
  unfold Lib.cut
  rw [index_none c a h, if_neg (by decide)]

theorem pair_piece (x : List UInt8 × List UInt8) : pairOf (piece x) = some x := by
  have hc : Lib.cut (piece x) [61] = (enc x.1, enc x.2, true) := cut_at 61 _ _ (enc_no 61 plain_61 (by decide) x.1)
  unfold pairOf
  rw [hc]
  simp [dec_enc]

theorem piece_no (x : List UInt8 × List UInt8) : ∀ b ∈ piece x, b ≠ 38 := by
  intro b hb
  rw [piece, List.mem_append, List.mem_cons] at hb
  rcases hb with hb | rfl | hb
  · exact enc_no 38 plain_38 (by decide) _ b hb
  · decide
  · exact enc_no 38 plain_38 (by decide) _ b hb

theorem join_one (x sep : List UInt8) : Lib.join [x] sep = x := by simp [Lib.join, List.intercalate]
theorem join_cons (x y sep : List UInt8) (r : List (List UInt8)) : Lib.join (x :: y :: r) sep = x ++ sep ++ Lib.join (y :: r) sep := by
  simp [Lib.join, List.intercalate, List.intersperse]
theorem join_snoc (sep x : List UInt8) : ∀ xs : List (List UInt8), xs ≠ [] → Lib.join (xs ++ [x]) sep = Lib.join xs sep ++ sep ++ x
  | [], h => absurd rfl h
  | [y], _ => by show Lib.join (y :: x :: []) sep = _; rw [join_cons, join_one, join_one]
  | y :: z :: r, _ => by
    show Lib.join (y :: z :: (r ++ [x])) sep = _
    rw [join_cons, join_cons]
    have := join_snoc sep x (z :: r) (by simp)
    rw [show z :: (r ++ [x]) = (z :: r) ++ [x] from rfl, this]
    simp

theorem parts_write : ∀ (x : List UInt8 × List UInt8) (l : List (List UInt8 × List UInt8)), parts 38 (writeL (x :: l)) = (x :: l).map piece
  | x, [] => by
    show parts 38 (Lib.join [piece x] [38]) = _
    rw [join_one, parts_none 38 _ (piece_no x)]; rfl
  | x, y :: l => by
    show parts 38 (Lib.join (piece x :: piece y :: l.map piece) [38]) = _
    rw [join_cons]
    have := parts_write y l
    rw [List.append_assoc, List.singleton_append, parts_hit 38 _ _ (piece_no x)]
    show piece x :: parts 38 (writeL (y :: l)) = _
    rw [this]; rfl

theorem pairs_map : ∀ l : List (List UInt8 × List UInt8), pairsOf (l.map piece) = some l
  | [] => rfl
  | x :: l => by rw [List.map_cons, pairsOf, pair_piece, pairs_map l]; rfl

theorem write_ne (x : List UInt8 × List UInt8) (l : List (List UInt8 × List UInt8)) : writeL (x :: l) ≠ [] := by
  intro e
  have h := parts_write x l
  rw [e] at h
  simp [parts] at h
  have := h.1
  simp [piece] at this

theorem read_write (l : List (List UInt8 × List UInt8)) : readL (writeL l) = some l := by
  cases l with
  | nil => rfl
  | cons x l => rw [readL, if_neg (write_ne x l), parts_write, pairs_map]

/-- The pairs of a key: how many, and the last one's value. -/
def getN (l : List (List UInt8 × List UInt8)) (key : List UInt8) : Nat := (l.filter (fun x => x.1 == key)).length
def getV (l : List (List UInt8 × List UInt8)) (key : List UInt8) : List UInt8 := (((l.filter (fun x => x.1 == key)).getLast?).map (·.2)).getD []
end Go.Proofs.YtndigceamabapaaDoor
