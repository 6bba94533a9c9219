/-
  HiA: histories in plain words: calls can be done one behind the other; the order of texts; bits of a number. Own work.
-/
import Derived.Test.YtkbhnofclgibfaaHxP
import Derived.Laws.Strings
namespace Go.Proofs.Ytkbhnofclgibfaa
open Go.Hx

/-! ### the order of texts -/
theorem bl_irr : ∀ x : List UInt8, Op.bytesLess x x = false
  | [] => rfl
  | a :: x => by
    have h : ¬ a < a := by rw [UInt8.lt_iff_toNat_lt]; omega
    simp [Op.bytesLess, h, bl_irr x]
theorem bl_trans : ∀ {x y z : List UInt8}, Op.bytesLess x y = true → Op.bytesLess y z = true → Op.bytesLess x z = true
  | x, [], z, h, _ => by cases x <;> simp [Op.bytesLess] at h
  | x, _ :: _, [], _, h => by simp [Op.bytesLess] at h
  | [], _ :: _, _ :: _, _, _ => by simp [Op.bytesLess]
  | a :: x, b :: y, c :: z, h1, h2 => by
    simp only [Op.bytesLess, Bool.or_eq_true, decide_eq_true_eq, Bool.and_eq_true, beq_iff_eq] at h1 h2 ⊢
    rcases h1 with h1 | ⟨rfl, h1⟩
    · rcases h2 with h2 | ⟨rfl, h2⟩
      · left; rw [UInt8.lt_iff_toNat_lt] at *; omega
      · exact .inl h1
    · rcases h2 with h2 | ⟨rfl, h2⟩
      · exact .inl h2
      · exact .inr ⟨rfl, bl_trans h1 h2⟩
theorem bl_tri : ∀ {x y : List UInt8}, Op.bytesLess x y = false → x ≠ y → Op.bytesLess y x = true
  | [], [], _, h => absurd rfl h
  | [], _ :: _, h, _ => by simp [Op.bytesLess] at h
  | _ :: _, [], _, _ => by simp [Op.bytesLess]
  | a :: x, b :: y, h, hn => by
    simp only [Op.bytesLess, Bool.or_eq_false_iff, decide_eq_false_iff_not, Bool.and_eq_false_iff, beq_eq_false_iff_ne] at h
    simp only [Op.bytesLess, Bool.or_eq_true, decide_eq_true_eq, Bool.and_eq_true, beq_iff_eq]
    by_cases e : a = b
    · subst e
      right
      refine ⟨rfl, bl_tri ?_ fun e => hn (by rw [e])⟩
      rcases h.2 with h | h
      · exact absurd rfl h
      · exact h
    · left
      have h1 := h.1
      have : a.toNat ≠ b.toNat := fun h => e (UInt8.toNat.inj h)
      rw [UInt8.lt_iff_toNat_lt] at *
      omega
theorem by_toList (x : List UInt8) : (ByteArray.mk x.toArray).toList = x := by rw [ByteArray.toList_eq]
theorem sLt_bl (x y : List UInt8) : sLt x y = Op.bytesLess x y := by unfold sLt; rw [by_toList, by_toList]
theorem sEq_eq (x y : List UInt8) : sEq x y = (x == y) := by unfold sEq; rw [by_toList, by_toList]
theorem sLt_irr (x : List UInt8) : sLt x x = false := by rw [sLt_bl, bl_irr]
theorem sLt_trans {x y z : List UInt8} (h1 : sLt x y = true) (h2 : sLt y z = true) : sLt x z = true := by
  rw [sLt_bl] at *; exact bl_trans h1 h2
theorem sLt_tri {x y : List UInt8} (h : sLt x y = false) (hn : x ≠ y) : sLt y x = true := by
  rw [sLt_bl] at *; exact bl_tri h hn
theorem sLt_ne {x y : List UInt8} (h : sLt x y = true) : x ≠ y := fun e => by subst e; rw [sLt_irr] at h; cases h
theorem sLt_asym {x y : List UInt8} (h : sLt x y = true) : sLt y x = false := by
  cases e : sLt y x
  · rfl
  · have := sLt_trans h e; rw [sLt_irr] at this; cases this

/-! ### bits -/
theorem h_bv_or (w a b : Nat) : (BitVec.ofInt w (a : Int) ||| BitVec.ofInt w (b : Int)).toNat = (a ||| b) % 2 ^ w := by
  rw [BitVec.ofInt_natCast, BitVec.ofInt_natCast, BitVec.toNat_or, BitVec.toNat_ofNat, BitVec.toNat_ofNat, Nat.or_mod_two_pow]
theorem h_bv_and (w a b : Nat) : (BitVec.ofInt w (a : Int) &&& BitVec.ofInt w (b : Int)).toNat = (a &&& b) % 2 ^ w := by
  rw [BitVec.ofInt_natCast, BitVec.ofInt_natCast, BitVec.toNat_and, BitVec.toNat_ofNat, BitVec.toNat_ofNat, Nat.and_mod_two_pow]
theorem h_shR32 (v n : Nat) (h : n ≤ 32) : shR .u32 (v : Int) (n : Int) = ((v / 2 ^ n : Nat) : Int) := by
  unfold shR
  rw [Int.toNat_natCast, Nat.min_eq_left (show n ≤ IntKind.u32.bits from h), show ((2 : Int) ^ n) = ((2 ^ n : Nat) : Int) by push_cast; rfl, Int.ofNat_fdiv]
theorem h_shR64 (v n : Nat) (h : n ≤ 64) : shR .u64 (v : Int) (n : Int) = ((v / 2 ^ n : Nat) : Int) := by
  unfold shR
  rw [Int.toNat_natCast, Nat.min_eq_left (show n ≤ IntKind.u64.bits from h), show ((2 : Int) ^ n) = ((2 ^ n : Nat) : Int) by push_cast; rfl, Int.ofNat_fdiv]
theorem bit_and (d i : Nat) (hi : i ≤ 32) : bAnd .u32 (shR .u32 (d : Int) (i : Int)) 1 = if d.testBit i then 1 else 0 := by
  rw [h_shR32 _ _ hi]
  unfold bAnd
  rw [show (1 : Int) = ((1 : Nat) : Int) from rfl, h_bv_and, Nat.and_one_is_mod, Nat.testBit_eq_decide_div_mod_eq]
  have h2 : d / 2 ^ i % 2 < 2 := Nat.mod_lt _ (by omega)
  show IntKind.u32.wrap _ = _
  by_cases h : d / 2 ^ i % 2 = 1
  · rw [h]; simp; rfl
  · have : d / 2 ^ i % 2 = 0 := by omega
    rw [this]; simp; rfl
theorem bit_or (d i : Nat) (hd : d < 2 ^ 32) (hi : i < 32) : bOr .u32 (d : Int) (shL .u32 1 (i : Int)) = ((d ||| 2 ^ i : Nat) : Int) := by
  have hp : 2 ^ i < 2 ^ 32 := Nat.pow_lt_pow_right (by omega) hi
  have h1 : shL .u32 1 (i : Int) = ((2 ^ i : Nat) : Int) := by
    unfold shL
    rw [Int.toNat_natCast, Nat.min_eq_left (show i ≤ IntKind.u32.bits from by show i ≤ 32; omega), Int.one_mul, show ((2 : Int) ^ i) = ((2 ^ i : Nat) : Int) by push_cast; rfl]
    show ((2 ^ i : Nat) : Int) % 4294967296 = _
    generalize 2 ^ i = q at hp ⊢
    omega
  rw [h1]
  unfold bOr
  rw [show IntKind.u32.bits = 32 from rfl, h_bv_or]
  have := Nat.or_lt_two_pow hd hp
  rw [Nat.mod_eq_of_lt this]
  show ((d ||| 2 ^ i : Nat) : Int) % 4294967296 = _
  generalize (d ||| 2 ^ i) = q at this ⊢
  omega
theorem or_lt {d i : Nat} (hd : d < 2 ^ 32) (hi : i < 32) : d ||| 2 ^ i < 2 ^ 32 := Nat.or_lt_two_pow hd (Nat.pow_lt_pow_right (by omega) hi)
theorem tb_or (d i j : Nat) : (d ||| 2 ^ i).testBit j = (d.testBit j || decide (i = j)) := by rw [Nat.testBit_or, Nat.testBit_two_pow]

/-! ### what is left of a list -/
section
variable {O : Type}
/-- the calls whose bit isn't set -/
def rem : List O → Nat → Nat → List O
  | [], _, _ => []
  | o :: l, i, d => if d.testBit i then rem l (i + 1) d else o :: rem l (i + 1) d
theorem rem_mem : ∀ (l : List O) (i d : Nat) (p : O), p ∈ rem l i d ↔ ∃ j, l[j]? = some p ∧ d.testBit (i + j) = false
  | [], i, d, p => by simp [rem]
  | o :: l, i, d, p => by
    have ih := rem_mem l (i + 1) d p
    have key : (∃ j, (o :: l)[j]? = some p ∧ d.testBit (i + j) = false) ↔ (o = p ∧ d.testBit i = false) ∨ ∃ j, l[j]? = some p ∧ d.testBit (i + 1 + j) = false := by
      constructor
      · rintro ⟨j, h1, h2⟩
        cases j with
        | zero => left; exact ⟨by simpa using h1, by simpa using h2⟩
        | succ j => right; exact ⟨j, by simpa using h1, by rw [show i + 1 + j = i + (j + 1) by omega]; exact h2⟩
      · rintro (⟨h1, h2⟩ | ⟨j, h1, h2⟩)
        · exact ⟨0, by simpa using h1, by simpa using h2⟩
        · exact ⟨j + 1, by simpa using h1, by rw [show i + (j + 1) = i + 1 + j by omega]; exact h2⟩
    rw [key, rem]
    by_cases h : d.testBit i = true
    · rw [if_pos h, ih]; simp [h]
    · rw [if_neg h, List.mem_cons, ih]
      have : d.testBit i = false := by simpa using h
      constructor
      · rintro (e | e)
        · exact .inl ⟨e.symm, this⟩
        · exact .inr e
      · rintro (e | e)
        · exact .inl e.1.symm
        · exact .inr e
theorem rem_skip (l : List O) : ∀ (i d j : Nat), j < i → rem l i (d ||| 2 ^ j) = rem l i d := by
  induction l with
  | nil => intros; rfl
  | cons o l ih =>
    intro i d j hj
    rw [rem, rem, ih (i + 1) d j (by omega), tb_or]
    rw [show decide (j = i) = false by simp; omega, Bool.or_false]
theorem rem_take : ∀ (l : List O) (i d j : Nat) (o : O), l[j]? = some o → d.testBit (i + j) = false → (rem l i d).Perm (o :: rem l i (d ||| 2 ^ (i + j)))
  | [], _, _, _, _, h, _ => by simp at h
  | x :: l, i, d, 0, o, h, hb => by
    simp only [List.getElem?_cons_zero, Option.some.injEq] at h
    subst h
    rw [Nat.add_zero] at hb
    rw [Nat.add_zero, rem, hb, rem, tb_or, rem_skip l (i + 1) d i (by omega)]
    simp
  | x :: l, i, d, j + 1, o, h, hb => by
    have ih := rem_take l (i + 1) d j o (by simpa using h) (by rw [show i + 1 + j = i + (j + 1) by omega]; exact hb)
    rw [show i + 1 + j = i + (j + 1) by omega] at ih
    rw [rem, rem, tb_or, show decide (i + (j + 1) = i) = false by simp, Bool.or_false]
    by_cases hx : d.testBit i = true
    · rw [if_pos hx, if_pos hx]; exact ih
    · rw [if_neg hx, if_neg hx]; exact (ih.cons x).trans (.swap o x _)
theorem rem_zero : ∀ (l : List O) (i : Nat), rem l i 0 = l
  | [], _ => rfl
  | o :: l, i => by rw [rem, Nat.zero_testBit, rem_zero l (i + 1)]; simp
theorem rem_len (l : List O) (i d j : Nat) (o : O) (h : l[j]? = some o) (hb : d.testBit (i + j) = false) : (rem l i d).length = (rem l i (d ||| 2 ^ (i + j))).length + 1 := by
  rw [(rem_take l i d j o h hb).length_eq]; rfl
end

theorem perm_cases {O : Type} {o r : O} {s l' : List O} (h : (o :: s).Perm (r :: l')) : (o = r ∧ s.Perm l') ∨ ∃ z, s.Perm (r :: z) ∧ l'.Perm (o :: z) := by
  have hm : r ∈ o :: s := h.mem_iff.2 (List.mem_cons_self ..)
  rcases List.mem_cons.1 hm with rfl | hm
  · exact .inl ⟨rfl, h.cons_inv⟩
  · obtain ⟨a, b, rfl⟩ := List.append_of_mem hm
    have h1 : (a ++ r :: b).Perm (r :: (a ++ b)) := List.perm_middle
    refine .inr ⟨a ++ b, h1, ?_⟩
    have h2 : (o :: (a ++ r :: b)).Perm (r :: o :: (a ++ b)) := (h1.cons o).trans (.swap r o _)
    exact (h.symm.trans h2).cons_inv

/-! ### one behind the other -/
section
variable {O W : Type} (step : O → W → W × Bool) (en st : O → Int)
inductive Lin : List O → W → Prop
  | over {l : List O} {w : W} (h : ∀ o ∈ l, en o < 0) : Lin l w
  | next {l : List O} {w : W} (o : O) (s : List O) (hp : l.Perm (o :: s)) (hb : ∀ p ∈ s, en p < 0 ∨ st o ≤ en p) (ht : (step o w).2 = true) (hn : Lin s (step o w).1) : Lin l w
variable {step en st}
theorem Lin.perm {l l' : List O} {w : W} (h : Lin step en st l w) (hp : l.Perm l') : Lin step en st l' w := by
  cases h with
  | over h => exact .over fun o ho => h o (hp.mem_iff.2 ho)
  | next o s h1 hb ht hn => exact .next o s (hp.symm.trans h1) hb ht hn
theorem Lin.drop {l : List O} {w : W} (h : Lin step en st l w) : ∀ {r l'}, l.Perm (r :: l') → (∀ w, (step r w).1 = w) → Lin step en st l' w := by
  induction h with
  | over h => intro r l' hp _; exact .over fun o ho => h o (hp.mem_iff.2 (List.mem_cons_of_mem _ ho))
  | next o s h1 hb ht hn ih =>
    intro r l' hp hr
    rcases perm_cases (h1.symm.trans hp) with ⟨rfl, h2⟩ | ⟨z, h2, h3⟩
    · rw [hr] at hn; exact hn.perm h2
    · exact .next o z h3 (fun p hp => hb p (h2.mem_iff.2 (List.mem_cons_of_mem _ hp))) ht (ih h2 hr)
theorem Lin.wide {l : List O} {w : W} (h : Lin step en st l w) : ∀ {r r' l'}, l.Perm (r :: l') → (∀ w, step r' w = step r w) → (en r < 0 ↔ en r' < 0) → en r ≤ en r' → st r' ≤ st r → Lin step en st (r' :: l') w := by
  induction h with
  | over h =>
    intro r r' l' hp _ he _ _
    refine .over fun o ho => ?_
    rcases List.mem_cons.1 ho with rfl | ho
    · exact he.1 (h r (hp.mem_iff.2 (List.mem_cons_self ..)))
    · exact h o (hp.mem_iff.2 (List.mem_cons_of_mem _ ho))
  | next o s h1 hb ht hn ih =>
    intro r r' l' hp hr he hle hst
    rcases perm_cases (h1.symm.trans hp) with ⟨rfl, h2⟩ | ⟨z, h2, h3⟩
    · refine .next r' l' (.refl _) (fun p hp => ?_) (by rw [hr]; exact ht) (by rw [hr]; exact hn.perm h2)
      have := hb p (h2.mem_iff.2 hp)
      omega
    · refine .next o (r' :: z) ((h3.cons r').trans (.swap o r' _)) (fun p hp => ?_) ht (ih h2 hr he hle hst)
      rcases List.mem_cons.1 hp with rfl | hp
      · have := hb r (h2.mem_iff.2 (List.mem_cons_self ..))
        omega
      · exact hb p (h2.mem_iff.2 (List.mem_cons_of_mem _ hp))
/-- done as they stand in the list -/
def Seq (step : O → W → W × Bool) (en st : O → Int) : List O → W → Prop
  | [], _ => True
  | o :: s, w => (∀ p ∈ s, en p < 0 ∨ st o ≤ en p) ∧ (step o w).2 = true ∧ Seq step en st s (step o w).1
theorem Seq.lin : ∀ {l : List O} {w : W}, Seq step en st l w → Lin step en st l w
  | [], _, _ => .over fun _ h => by cases h
  | o :: s, _, ⟨h1, h2, h3⟩ => .next o s (.refl _) h1 h2 h3.lin
theorem Lin.rem_iff {l : List O} {d : Nat} {w : W} : Lin step en st (rem l 0 d) w ↔
    (∀ o ∈ rem l 0 d, en o < 0) ∨ ∃ j o, l[j]? = some o ∧ d.testBit j = false ∧ (∀ p ∈ rem l 0 (d ||| 2 ^ j), en p < 0 ∨ st o ≤ en p) ∧ (step o w).2 = true ∧ Lin step en st (rem l 0 (d ||| 2 ^ j)) (step o w).1 := by
  constructor
  · intro h
    cases h with
    | over h => exact .inl h
    | next o s hp hb ht hn =>
      obtain ⟨j, h1, h2⟩ := (rem_mem l 0 d o).1 (hp.mem_iff.2 (List.mem_cons_self ..))
      rw [Nat.zero_add] at h2
      have h3 := rem_take l 0 d j o h1 (by rw [Nat.zero_add]; exact h2)
      rw [Nat.zero_add] at h3
      have h4 := (h3.symm.trans hp).cons_inv
      exact .inr ⟨j, o, h1, h2, fun p hp => hb p (h4.mem_iff.1 hp), ht, hn.perm h4.symm⟩
  · rintro (h | ⟨j, o, h1, h2, hb, ht, hn⟩)
    · exact .over h
    · have h3 := rem_take l 0 d j o h1 (by rw [Nat.zero_add]; exact h2)
      rw [Nat.zero_add] at h3
      exact .next o _ h3 hb ht hn
end
end Go.Proofs.Ytkbhnofclgibfaa
