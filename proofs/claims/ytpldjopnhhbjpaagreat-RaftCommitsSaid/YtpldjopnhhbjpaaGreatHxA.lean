/-
  HxA: frames as lists, the rules of the code, regions (in their order, and in any order). Own work.
-/
import Derived.OrdersHeld
import Derived.Tactics
import Derived.KernelRfl
namespace Go.Hx

/-! ### Frames -/

def lk (b : Nat → Value) : List (Nat × Value) → Nat → Value
  | [], t => b t
  | (d, v) :: l, t => bif Nat.beq t d then v else lk b l t

def mkF (n : Nat) (b : Nat → Value) (l : List (Nat × Value)) : Act := ⟨(Array.range n).map (lk b l), []⟩

def evl (n : Nat) (b : Nat → Value) (l : List (Nat × Value)) : Operand → Value
  | .tmp t => bif Nat.blt t n then lk b l t else undef
  | .const v => v
  | .global g => .pointer (some ⟨g, 0, none⟩)
  | .func f => .func (.func f) #[] #[]

theorem tmps_getD (n : Nat) (b : Nat → Value) (l : List (Nat × Value)) (t : Nat) (d : Value) :
    (mkF n b l).tmps.getD t d = if t < n then lk b l t else d := by
  unfold mkF
  by_cases h : t < n
  · simp [h]
  · simp [h]

theorem blt_true {t n : Nat} (h : Nat.blt t n = true) : t < n := Nat.le_of_ble_eq_true h

theorem eval_mkF (n : Nat) (b : Nat → Value) (l : List (Nat × Value)) (x : Operand) : (mkF n b l).eval x = evl n b l x := by
  cases x with
  | tmp t =>
    simp only [Act.eval, evl, tmps_getD]
    by_cases h : t < n
    · have : Nat.blt t n = true := by simpa [Nat.blt_eq] using h
      simp [h, this]
    · have : Nat.blt t n = false := by
        cases hb : Nat.blt t n with
        | false => rfl
        | true => exact absurd (blt_true hb) h
      simp [h, this]
  | _ => rfl

theorem eval_mkF' (n : Nat) (b : Nat → Value) (l : List (Nat × Value)) : (mkF n b l).eval = evl n b l := funext (eval_mkF n b l)

theorem put_mkF {n d : Nat} {b : Nat → Value} {l : List (Nat × Value)} {v : Value} (h : Nat.blt d n = true) :
    (mkF n b l).put (some d) v = mkF n b ((d, v) :: l) := by
  have hd := blt_true h
  simp only [Act.put, mkF, Act.mk.injEq, and_true]
  apply Array.ext
  · simp
  · intro i h1 h2
    simp only [Array.size_setIfInBounds, Array.size_map, Array.size_range] at h1
    by_cases e : i = d
    · subst e
      simp [lk]
    · have hb : Nat.beq i d = false := by
        cases hb : Nat.beq i d with
        | false => rfl
        | true => exact absurd (Nat.eq_of_beq_eq_true hb) e
      rw [Array.getElem_setIfInBounds_ne (by simpa using h1) (fun h => e h.symm)]
      simp [lk, hb]

theorem put_none (a : Act) (v : Value) : a.put none v = a := rfl

/-- the same frame told otherwise -/
theorem mkF_congr {n : Nat} {b b' : Nat → Value} {l l' : List (Nat × Value)} (h : ∀ t, lk b l t = lk b' l' t) : mkF n b l = mkF n b' l' := by
  unfold mkF
  rw [funext h]

theorem mkF_base (n : Nat) (b : Nat → Value) (l : List (Nat × Value)) : mkF n b l = mkF n (lk b l) [] := mkF_congr fun _ => rfl

theorem lk_app (b : Nat → Value) (l l' : List (Nat × Value)) (t : Nat) : lk b (l ++ l') t = lk (lk b l') l t := by
  induction l with
  | nil => rfl
  | cons x l ih => obtain ⟨d, v⟩ := x; simp only [List.cons_append, lk, ih]

/-- a list of slots whose values are those that the base has already may stand ahead -/
theorem lk_same (b : Nat → Value) (l : List (Nat × Value)) (h : ∀ p ∈ l, b p.1 = p.2) (t : Nat) : lk b l t = b t := by
  induction l with
  | nil => rfl
  | cons x l ih =>
    obtain ⟨d, v⟩ := x
    simp only [lk]
    cases hb : Nat.beq t d with
    | true =>
      have := Nat.eq_of_beq_eq_true hb
      subst this
      simp only [cond_true]
      exact (h (t, v) (by simp)).symm
    | false => exact ih fun p hp => h p (by simp [hp])

/-- FORGET all slots but those of l' -/
theorem mkF_keep {n : Nat} {b : Nat → Value} {l : List (Nat × Value)} (l' : List (Nat × Value)) (h : l'.map (fun p => lk b l p.1) = l'.map (fun p => p.2)) :
    mkF n b l = mkF n (lk b l) l' := by
  rw [mkF_base n b l]
  refine mkF_congr fun t => ?_
  refine (lk_same (lk b l) l' (fun p hp => ?_) t).symm
  have := List.map_inj_left.1 h p hp
  exact this

/-! ### The rules of the code -/
section
variable {P : Program} {Q : Exit → Act → World → Prop} {a : Act} {w : World}

/-- any loop, by a count of rounds that the invariant bears -/
theorem wp_loop_fuel {c : Code} (I : Nat → Act → World → Prop) {k : Nat} (h0 : I k a w) (hz : ∀ a w, ¬ I 0 a w)
    (round : ∀ k a w, I (k + 1) a w → c.wp P (Exit.then (fun a w => I k a w) Q) a w) : (Code.loop c).wp P Q a w := by
  classical
  have ex : ∀ a w, (∃ k, I k a w) → ∃ k, I k a w ∧ ∀ j, I j a w → k ≤ j := by
    intro a w ⟨k, hk⟩
    induction k using Nat.strongRecOn with
    | _ k ih =>
      by_cases hm : ∃ j, j < k ∧ I j a w
      · obtain ⟨j, hj, hI⟩ := hm
        exact ih j hj hI
      · refine ⟨k, hk, fun j hj => ?_⟩
        rcases Nat.lt_or_ge j k with h | h
        · exact absurd ⟨j, h, hj⟩ hm
        · exact h
  refine wp_loop (fun a w => ∃ k, I k a w) (fun a w => if h : ∃ k, I k a w then Classical.choose (ex a w h) else 0) ⟨k, h0⟩ ?_
  intro a w h
  have hs := Classical.choose_spec (ex a w h)
  generalize hm : Classical.choose (ex a w h) = m at hs
  cases m with
  | zero => exact absurd hs.1 (hz a w)
  | succ m =>
    refine wp_mono (round m a w hs.1) ?_
    intro e a' w' hq
    cases e <;> first | exact hq | skip
    simp only [Exit.then] at hq ⊢
    refine ⟨⟨m, hq⟩, ?_⟩
    have h' : ∃ k, I k a' w' := ⟨m, hq⟩
    rw [dif_pos h', dif_pos h, hm]
    have := (Classical.choose_spec (ex a' w' h')).2 m hq
    omega

/-- at a place where ways meet: what holds there is said once -/
theorem wp_seq_cut {x y : Code} (J : Act → World → Prop) (hj : ∀ a w, J a w → y.wp P Q a w) (hx : x.wp P (Exit.then J Q) a w) :
    (Code.seq x y).wp P Q a w :=
  wp_seq (wp_mono hx fun e a w h => by cases e <;> first | exact h | exact hj _ _ h)

theorem wp_cut {x : Code} (J : Act → World → Prop) (hj : ∀ a w, J a w → Q .normal a w) (hx : x.wp P (Exit.then J Q) a w) : x.wp P Q a w :=
  wp_mono hx fun e a w h => by cases e <;> first | exact h | exact hj _ _ h

theorem wp_cond_mkF {n : Nat} {b : Nat → Value} {l : List (Nat × Value)} {c : Operand} {x y : Code} {t : Bool} (hc : evl n b l c = .bool t)
    (ht : t = true → x.wp P Q (mkF n b l) w) (hf : t = false → y.wp P Q (mkF n b l) w) : (Code.cond c x y).wp P Q (mkF n b l) w :=
  wp_cond_split (t := t) (by rw [eval_mkF]; exact hc) ht hf

theorem wp_block_exit {id : Nat} (h : Q .normal a w) : Exit.inBlock id Q (.exit id) a w := by simp [Exit.inBlock, h]

end

/-! ### Regions: the operations one by one -/

/-- a region's operations from some place on -/
def wpL (P : Program) (ops : Array Oper) (Q : Exit → Act → World → Prop) : List Oper → Act → World → Prop
  | [], a, w => Q .normal a w
  | o :: rest, a, w =>
    if Region.wanted o (yielded ops a.tmps) then o.wp P a w (wpL P ops Q rest) Q else wpL P ops Q rest (a.put o.dst undef) w

theorem wpOps_of_wpL {P : Program} {ops : Array Oper} {Q : Exit → Act → World → Prop} : ∀ (l : List Nat) (os : List Oper) (a : Act) (w : World),
    l.map (fun i => ops[i]?) = os.map some → wpL P ops Q os a w → wpOps P ops Q l a w
  | [], [], a, w, _, h => h
  | [], _ :: _, _, _, he, _ => by simp at he
  | _ :: _, [], _, _, he, _ => by simp at he
  | i :: l, o :: os, a, w, he, h => by
    simp only [List.map_cons, List.cons.injEq] at he
    simp only [wpOps, he.1]
    simp only [wpL] at h
    split
    · rename_i hw
      rw [if_pos hw] at h
      refine .inl (Oper.wp_mono (fun a w h' => wpOps_of_wpL l os a w he.2 h') h)
    · rename_i hw
      rw [if_neg hw] at h
      exact wpOps_of_wpL l os _ w he.2 h

theorem range_map_getElem? (ops : Array Oper) : (List.range ops.size).map (fun i => ops[i]?) = ops.toList.map some := by
  apply List.ext_getElem
  · simp
  · intro i h1 h2
    simp at h1 h2 ⊢

/-- a region in its own order -/
theorem wp_reg {P : Program} {id : Nat} {os : List Oper} {Q : Exit → Act → World → Prop} {a : Act} {w : World}
    (h : wpL P os.toArray Q os a w) : (Code.region id os.toArray false).wp P Q a w :=
  wp_region (wpOps_of_wpL _ _ _ _ (by rw [range_map_getElem?]) h)

/-- whatever the order: S speaks of the world as long as some operations have not come up -/
def wpG (P : Program) (ops : Array Oper) (Q : Exit → Act → World → Prop) (S : Array Bool → World → Prop) : Nat → Array Bool → Act → World → Prop
  | 0, listed, a, w => Region.ready .any ops listed = [] ∧ Q .normal a w
  | fuel + 1, listed, a, w =>
    (Region.ready .any ops listed = [] → Q .normal a w) ∧
    ∀ i ∈ Region.ready .any ops listed, wpOp P ops Q i (fun a' w' => S (listed.setIfInBounds i true) w' ∧ wpG P ops Q S fuel (listed.setIfInBounds i true) a' w') a w

section
variable {P : Program} {ops : Array Oper} {Q : Exit → Act → World → Prop} {S : Array Bool → World → Prop}

theorem wpAny_of_wpG : ∀ (fuel : Nat) (listed : Array Bool) (a : Act) (w : World), wpG P ops Q S fuel listed a w → wpAny P .any ops Q fuel listed a w
  | 0, _, _, _, h => h
  | fuel + 1, _, _, _, h => ⟨h.1, fun i hi => wpOp_mono (fun a' w' h' => wpAny_of_wpG fuel _ a' w' h'.2) (h.2 i hi)⟩

/-- whoever has come up came behind those that it waits for -/
def Closed (ops : Array Oper) (l : Array Bool) : Prop := ∀ j oj, ops[j]? = some oj → l.getD j false = true → ∀ e ∈ oj.after, Region.binds .any e = true → l.getD e.on false = true

def waitsOn (ops : Array Oper) (j i : Nat) : Bool := match ops[j]? with | some oj => oj.after.any (fun e => Region.binds .any e && Nat.beq e.on i) | none => false

theorem Closed.step {l : Array Bool} (h : Closed ops l) {j i : Nat} (hj : l.getD j false = true) (he : waitsOn ops j i = true) : l.getD i false = true := by
  unfold waitsOn at he
  cases hoj : ops[j]? with
  | none => simp [hoj] at he
  | some oj =>
    simp only [hoj, Array.any_eq_true'] at he
    obtain ⟨e, hm, hb⟩ := he
    simp only [Bool.and_eq_true] at hb
    have := h j oj hoj hj e hm hb.1
    rwa [Nat.eq_of_beq_eq_true hb.2] at this

theorem Closed.none (n : Nat) : Closed ops (Array.replicate n false) := by
  intro j oj _ hj
  simp [Array.getD_eq_getD_getElem?] at hj
  by_cases h : j < n
  · simp [h] at hj
  · simp [h] at hj

theorem getD_tt {l : Array Bool} {i : Nat} (h : l.getD i true = false) : l.getD i false = false := by
  rcases Nat.lt_or_ge i l.size with h' | h'
  · simp [h'] at h ⊢; exact h
  · simp [Array.getElem?_eq_none h'] at h

theorem Closed.set {l : Array Bool} {i : Nat} (h : Closed ops l) (hi : i ∈ Region.ready .any ops l) : Closed ops (l.setIfInBounds i true) := by
  intro j oj hj hl e he hb
  obtain ⟨hun, oi, hoi, hall⟩ := mem_ready.1 hi
  by_cases hji : j = i
  · subst hji
    rw [hj] at hoi; cases hoi
    exact getD_set_true (hall e he hb)
  · rw [getD_set_ne false (Ne.symm hji)] at hl
    exact getD_set_true (h j oj hj hl e he hb)

/-- one that may come up now, and that yields v in whatever world it can meet until it comes up, may be taken first -/
theorem wpG_first {i : Nat} {oi : Oper} {v : Value} (hi : ops[i]? = some oi) (hsel : ∀ (j : Nat) (o : Oper) cs b, ops[j]? = some o → o.op ≠ .select cs b)
    (hQ : ∀ c a w, Q (.panic c) (a.put oi.dst v) w → Q (.panic c) a w)
    (hmono : ∀ l w, S (l.setIfInBounds i true) w → S l w) :
    ∀ (fuel : Nat) (listed : Array Bool) (a : Act) (w : World), Closed ops listed →
      (∀ j oj, ops[j]? = some oj → j ≠ i → listed.getD j true = false → (∀ e ∈ oj.after, Region.binds .any e = true → e.on ≠ i) → oi.apart ops oj = true) →
      i ∈ Region.ready .any ops listed → YieldsIf P ops (fun w => ∃ l, l.getD i true = false ∧ Closed ops l ∧ S l w) oi v a → S (listed.setIfInBounds i true) w →
      wpG P ops Q S fuel (listed.setIfInBounds i true) (a.put oi.dst v) w → wpG P ops Q S (fuel + 1) listed a w := by
  intro fuel
  induction fuel with
  | zero =>
    intro listed a w hcl _ hr hy hS H
    refine ⟨fun h => (by rw [h] at hr; cases hr), fun j hj => ?_⟩
    by_cases hji : j = i
    · subst hji; exact hy.wpOp hi ⟨listed, (mem_ready.1 hr).1, hcl, hmono _ _ hS⟩ ⟨hS, H⟩
    · have := ready_mono hj hji
      rw [H.1] at this
      cases this
  | succ fuel ih =>
    intro listed a w hcl hfree hr hy hS H
    refine ⟨fun h => (by rw [h] at hr; cases hr), fun j hj => ?_⟩
    by_cases hji : j = i
    · subst hji; exact hy.wpOp hi ⟨listed, (mem_ready.1 hr).1, hcl, hmono _ _ hS⟩ ⟨hS, H⟩
    · have h1 := H.2 j (ready_mono hj hji)
      obtain ⟨hjun, oj, hoj, hall⟩ := mem_ready.1 hj
      have hnot : ∀ e ∈ oj.after, Region.binds .any e = true → e.on ≠ i := fun e he hb heq => by
        have h1 := hall e he hb
        have h0 := (mem_ready.1 hr).1
        rw [heq] at h1
        rcases Nat.lt_or_ge i listed.size with h' | h'
        · simp [h'] at h0 h1; rw [h0] at h1; cases h1
        · simp [Array.getElem?_eq_none h'] at h1
      have h2 := wpOp_putIf hoj (hfree j oj hoj hji hjun hnot) (fun cs b => hsel i oi cs b hi) (fun cs b => hsel j oj cs b hoj) hQ hy h1
      have hfree' : ∀ k ok, ops[k]? = some ok → k ≠ i → (listed.setIfInBounds j true).getD k true = false →
          (∀ e ∈ ok.after, Region.binds .any e = true → e.on ≠ i) → oi.apart ops ok = true := fun k ok hk hki hun hno => by
        refine hfree k ok hk hki ?_ hno
        by_cases hjk : j = k
        · subst hjk; exact hjun
        · rw [getD_set_ne true hjk] at hun; exact hun
      refine wpOp_mono (fun a' w' h3 => ?_) h2
      have hc : (listed.setIfInBounds i true).setIfInBounds j true = (listed.setIfInBounds j true).setIfInBounds i true := Array.setIfInBounds_comm _ _ (Ne.symm hji)
      rw [hc] at h3
      refine ⟨hmono _ _ h3.2.1, ih (listed.setIfInBounds j true) a' w' (hcl.set hj) hfree' (ready_mono hr (Ne.symm hji)) h3.1 h3.2.1 h3.2.2⟩

/-- the same, with the closedness at hand -/
def wpC (P : Program) (ops : Array Oper) (Q : Exit → Act → World → Prop) (S : Array Bool → World → Prop) (fuel : Nat) (l : Array Bool) (a : Act) (w : World) : Prop :=
  Closed ops l → wpG P ops Q S fuel l a w

theorem wpG_take {i : Nat} {oi : Oper} {v : Value} {fuel : Nat} {listed : Array Bool} {a : Act} {w : World} (hi : ops[i]? = some oi)
    (hs : (Region.noSelect ops && Region.free .any ops listed i && (Region.ready .any ops listed).contains i) = true)
    (hQ : ∀ c a w, Q (.panic c) (a.put oi.dst v) w → Q (.panic c) a w)
    (hmono : ∀ l w, S (l.setIfInBounds i true) w → S l w)
    (hy : YieldsIf P ops (fun w => ∃ l, l.getD i true = false ∧ Closed ops l ∧ S l w) oi v a) (hS : S (listed.setIfInBounds i true) w)
    (h : wpC P ops Q S fuel (listed.setIfInBounds i true) (a.put oi.dst v) w) : wpC P ops Q S (fuel + 1) listed a w := by
  simp only [Bool.and_eq_true] at hs
  intro hcl
  have hr : i ∈ Region.ready .any ops listed := by simpa using hs.2
  exact wpG_first hi (Region.noSelect_spec hs.1.1) hQ hmono fuel listed a w hcl (Region.free_spec hi hs.1.2) hr hy hS (h (hcl.set hr))

theorem wpG_one {i : Nat} {oi : Oper} {fuel : Nat} {listed : Array Bool} {a : Act} {w : World} (hr : Region.ready .any ops listed = [i]) (hi : ops[i]? = some oi)
    (hw : Region.wanted oi (yielded ops a.tmps) = true)
    (h : oi.wp P a w (fun a' w' => S (listed.setIfInBounds i true) w' ∧ wpC P ops Q S fuel (listed.setIfInBounds i true) a' w') Q) : wpC P ops Q S (fuel + 1) listed a w := by
  intro hcl
  refine ⟨fun h0 => (by rw [hr] at h0; cases h0), fun j hj => ?_⟩
  have hcl' : Closed ops (listed.setIfInBounds i true) := hcl.set (by rw [hr]; simp)
  rw [hr] at hj
  simp only [List.mem_singleton] at hj
  subst hj
  unfold wpOp
  simp only [hi, hw, if_true]
  exact .inl (Oper.wp_mono (fun a' w' h' => ⟨h'.1, h'.2 hcl'⟩) h)

theorem wpG_done {listed : Array Bool} {a : Act} {w : World} (hr : Region.ready .any ops listed = []) (h : Q .normal a w) : ∀ fuel, wpC P ops Q S fuel listed a w
  | 0 => fun _ => ⟨hr, h⟩
  | _ + 1 => fun _ => ⟨fun _ => h, by rw [hr]; simp⟩

theorem wp_regG {id : Nat} {os : List Oper} {a : Act} {w : World} (S : Array Bool → World → Prop) (hm : P.follows .mixedOrders = true)
    (h : wpC P os.toArray Q S os.length (Array.replicate os.length false) a { w with drawn := w.drawn + 1 }) : (Code.region id os.toArray true).wp P Q a w :=
  wp_region_any hm (wpAny_of_wpG _ _ _ _ (by simpa using h (Closed.none _)))
end
end Go.Hx
