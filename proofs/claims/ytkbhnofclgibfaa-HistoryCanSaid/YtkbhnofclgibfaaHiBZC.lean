/-
  HiB: the history's functions over plain lists: find, with, without, names, do. Own work.
-/
import Derived.Test.YtkbhnofclgibfaaZC
import Derived.Test.YtkbhnofclgibfaaHiA
namespace Go.Proofs.Ytkbhnofclgibfaa
open Go.Hx

abbrev Wd := List T_history_entry
def Srt (w : Wd) : Prop := w.Pairwise fun a b => sLt a.name b.name = true
def Ent (e : T_history_entry) : Prop := e.name.length ≤ 32 ∧ 0 ≤ e.v ∧ e.v < 18446744073709551616
def lk (n : List UInt8) : Wd → Option Int
  | [] => none
  | e :: w => if e.name = n then some e.v else lk n w
def wth (n : List UInt8) (v : Int) (w : Wd) : Wd := w.filter (fun e => sLt e.name n) ++ ⟨n, v⟩ :: w.filter (fun e => sLt n e.name)
def wout (n : List UInt8) (w : Wd) : Wd := w.filter fun e => decide (e.name ≠ n)
def Cut (n : List UInt8) (w a b : Wd) : Prop := w = a ++ b ∧ (∀ e ∈ a, sLt e.name n = true) ∧ (∀ e ∈ b, sLt e.name n = false)

theorem lk_skip {n : List UInt8} (b : Wd) : ∀ {a : Wd}, (∀ e ∈ a, e.name ≠ n) → lk n (a ++ b) = lk n b
  | [], _ => rfl
  | e :: a, h => by
    rw [List.cons_append, lk, if_neg (h e (List.mem_cons_self ..))]
    exact lk_skip b fun x hx => h x (List.mem_cons_of_mem _ hx)
theorem lk_none {n : List UInt8} {w : Wd} (h : ∀ e ∈ w, e.name ≠ n) : lk n w = none := by
  have := lk_skip (n := n) [] h
  rw [List.append_nil] at this
  exact this

theorem cut_cases {n : List UInt8} {w a b : Wd} (hs : Srt w) (h : Cut n w a b) :
    (∃ e b', b = e :: b' ∧ e.name = n ∧ (∀ v, wth n v w = a ++ ⟨n, v⟩ :: b') ∧ wout n w = a ++ b' ∧ lk n w = some e.v) ∨
    ((∀ e ∈ b, e.name ≠ n) ∧ (∀ v, wth n v w = a ++ ⟨n, v⟩ :: b) ∧ wout n w = w ∧ lk n w = none) := by
  obtain ⟨rfl, ha, hb⟩ := h
  have hs2 : Srt b := (List.pairwise_append.1 hs).2.1
  have han : ∀ e ∈ a, e.name ≠ n := fun e he => sLt_ne (ha e he)
  have f1 : a.filter (fun e => sLt e.name n) = a := List.filter_eq_self.2 ha
  have f2 : b.filter (fun e => sLt e.name n) = [] := List.filter_eq_nil_iff.2 fun e he => by rw [hb e he]; simp
  have f3 : a.filter (fun e => sLt n e.name) = [] := List.filter_eq_nil_iff.2 fun e he => by rw [sLt_asym (ha e he)]; simp
  have f4 : a.filter (fun e => decide (e.name ≠ n)) = a := List.filter_eq_self.2 fun e he => by simpa using han e he
  have key : (∃ e b', b = e :: b' ∧ e.name = n ∧ ∀ x ∈ b', sLt n x.name = true) ∨ ∀ e ∈ b, sLt n e.name = true := by
    cases b with
    | nil => right; intro e he; cases he
    | cons e b' =>
      have h1 := List.pairwise_cons.1 hs2
      by_cases hn : e.name = n
      · left; exact ⟨e, b', rfl, hn, fun x hx => by rw [← hn]; exact h1.1 x hx⟩
      · right
        have h2 := sLt_tri (hb e (List.mem_cons_self ..)) hn
        intro x hx
        rcases List.mem_cons.1 hx with rfl | hx
        · exact h2
        · exact sLt_trans h2 (h1.1 x hx)
  rcases key with ⟨e, b', rfl, hn, hx⟩ | hx
  · left
    refine ⟨e, b', rfl, hn, fun v => ?_, ?_, ?_⟩
    · have : b'.filter (fun e => sLt n e.name) = b' := List.filter_eq_self.2 hx
      unfold wth
      rw [List.filter_append, List.filter_append, f1, f2, f3, List.filter_cons_of_neg (by rw [hn, sLt_irr]; simp), this, List.append_nil, List.nil_append]
    · have : b'.filter (fun e => decide (e.name ≠ n)) = b' := List.filter_eq_self.2 fun x hx' => by simpa using (sLt_ne (hx x hx')).symm
      unfold wout
      rw [List.filter_append, f4, List.filter_cons_of_neg (by simp [hn]), this]
    · rw [lk_skip _ han, lk, if_pos hn]
  · right
    have hbn : ∀ e ∈ b, e.name ≠ n := fun e he => (sLt_ne (hx e he)).symm
    refine ⟨hbn, fun v => ?_, ?_, ?_⟩
    · have : b.filter (fun e => sLt n e.name) = b := List.filter_eq_self.2 hx
      unfold wth
      rw [List.filter_append, List.filter_append, f1, f2, f3, this, List.append_nil, List.nil_append]
    · have : b.filter (fun e => decide (e.name ≠ n)) = b := List.filter_eq_self.2 fun x hx' => by simpa using hbn x hx'
      unfold wout
      rw [List.filter_append, f4, this]
    · rw [lk_skip _ han, lk_none hbn]

theorem h_mid (lo hi : Nat) (h : lo + hi < 2000000) : IntKind.i64.wrap (shR .u64 (IntKind.u64.wrap (IntKind.i64.wrap ((lo : Int) + (hi : Int)))) 1) = (((lo + hi) / 2 : Nat) : Int) := by
  have e : IntKind.u64.wrap (((lo + hi : Nat)) : Int) = ((lo + hi : Nat) : Int) := by
    show (((lo + hi : Nat)) : Int) % 18446744073709551616 = _
    omega
  rw [wr (n := (lo : Int) + hi) (by omega), show (lo : Int) + hi = ((lo + hi : Nat) : Int) by push_cast; rfl, e, show (1 : Int) = ((1 : Nat) : Int) from rfl, h_shR64 _ _ (by omega), Nat.pow_one, wr (by omega)]
theorem cmp_eq (k : Nat) (e : T_history_entry) (n : List UInt8) : history_world_find_1 k e n = some (if sLt e.name n = true then -1 else if e.name = n then 0 else 1) := by
  unfold history_world_find_1
  by_cases h : sLt e.name n = true
  · rw [if_pos h, if_pos h]
  · rw [if_neg h, if_neg h, sEq_eq]
    have h' : sLt e.name n = false := by simpa using h
    by_cases hn : e.name = n
    · rw [if_neg (by simp [hn]), if_pos hn]
    · rw [if_pos (by simp [hn, h']), if_neg hn]

theorem bs_loop (k : Nat) (w : Wd) (n : List UInt8) (hs : Srt w) (hl : w.length < 1000000) : ∀ (j lo hi : Nat), lo ≤ hi → hi ≤ w.length → hi - lo < j → (∀ a (h : a < w.length), a < lo → sLt w[a].name n = true) → (∀ a (h : a < w.length), hi ≤ a → sLt w[a].name n = false) →
    ∃ b, b ≤ w.length ∧ slices_BinarySearchFunc_l1 k w n j (lo : Int) (hi : Int) = some (b : Int) ∧ (∀ a (h : a < w.length), a < b → sLt w[a].name n = true) ∧ (∀ a (h : a < w.length), b ≤ a → sLt w[a].name n = false)
  | 0, lo, hi, _, _, hj, _, _ => by omega
  | j + 1, lo, hi, h1, h2, hj, hlo, hhi => by
    rw [slices_BinarySearchFunc_l1]
    by_cases h : lo < hi
    · have hm : (lo + hi) / 2 < w.length := by omega
      have hp := List.pairwise_iff_getElem.1 hs
      rw [if_pos (by simpa using h), h_mid lo hi (by omega), gtL hm]
      simp only [bind_some, cmp_eq]
      by_cases hc : sLt (w[(lo + hi) / 2]).name n = true
      · rw [if_pos hc, if_pos (by decide), wrN _ (by omega)]
        refine bs_loop k w n hs hl j _ hi (by omega) h2 (by omega) (fun a ha hal => ?_) hhi
        by_cases e : a = (lo + hi) / 2
        · subst e; exact hc
        · exact sLt_trans (hp a ((lo + hi) / 2) ha hm (by omega)) hc
      · have hc' : sLt (w[(lo + hi) / 2]).name n = false := by simpa using hc
        rw [if_neg hc, if_neg (by split <;> decide)]
        refine bs_loop k w n hs hl j lo _ (by omega) (by omega) (by omega) hlo (fun a ha hal => ?_)
        by_cases e : a = (lo + hi) / 2
        · subst e; exact hc'
        · cases hh : sLt (w[a]).name n
          · rfl
          · have := sLt_trans (hp ((lo + hi) / 2) a hm ha (by omega)) hh
            rw [this] at hc'; cases hc'
    · have : lo = hi := by omega
      subst this
      exact ⟨lo, h2, by rw [if_neg (by simp)], hlo, hhi⟩

theorem find_spec (k : Nat) (w : Wd) (n : List UInt8) (hs : Srt w) (hl : w.length < 1000000) (hk : w.length < k) :
    ∃ a b th, Cut n w a b ∧ history_world_find k w n = some ((a.length : Int), th) ∧ th = (lk n w).isSome := by
  obtain ⟨i, hi, h, h1, h2⟩ := bs_loop k w n hs hl k 0 w.length (by omega) (by omega) (by omega) (fun a _ h => by omega) (fun a h h' => by omega)
  have hc : Cut n w (w.take i) (w.drop i) := ⟨(List.take_append_drop i w).symm, fun e he => by
    obtain ⟨j, hj, rfl⟩ := List.mem_iff_getElem.1 he
    rw [List.length_take] at hj
    rw [List.getElem_take]
    exact h1 j (by omega) (by omega), fun e he => by
    obtain ⟨j, hj, rfl⟩ := List.mem_iff_getElem.1 he
    rw [List.length_drop] at hj
    rw [List.getElem_drop]
    exact h2 (i + j) (by omega) (by omega)⟩
  have hlen : (w.take i).length = i := by rw [List.length_take]; omega
  refine ⟨w.take i, w.drop i, (lk n w).isSome, hc, ?_, rfl⟩
  unfold history_world_find slices_BinarySearchFunc
  rw [show (0 : Int) = ((0 : Nat) : Int) from rfl, h]
  simp only [bind_some, cmp_eq]
  rw [hlen]
  by_cases hlt : i < w.length
  · rw [if_pos (by simpa using hlt), gtL hlt]
    simp only [bind_some]
    rcases cut_cases hs hc with ⟨e, b', h3, h4, -, -, h5⟩ | ⟨h3, -, -, h5⟩
    · have : w[i] = e := by
        have := List.drop_eq_getElem_cons hlt
        rw [this] at h3
        exact (List.cons.inj h3).1
      rw [this, h5, h4, sLt_irr]
      simp
    · have hm : w[i] ∈ w.drop i := by rw [List.drop_eq_getElem_cons hlt]; exact List.mem_cons_self ..
      rw [h5, hc.2.2 _ hm, if_neg (h3 _ hm)]
      simp
  · rw [if_neg (by simpa using hlt)]
    simp only [bind_some]
    rcases cut_cases hs hc with ⟨e, b', h3, -⟩ | ⟨-, -, -, h5⟩
    · rw [List.drop_eq_nil_of_le (by omega)] at h3; cases h3
    · rw [h5]; rfl

theorem with_spec (k : Nat) (w : Wd) (n : List UInt8) (v : Int) (hs : Srt w) (hl : w.length < 1000) (hk : w.length < k) : history_world_with k w n v = some (wth n v w) := by
  obtain ⟨a, b, th, hc, h, hth⟩ := find_spec k w n hs (by omega) hk
  unfold history_world_with slices_Clone
  rw [h, if_pos (room_of (by simp; omega) (by omega))]
  simp only [bind_some]
  obtain ⟨hw, -, -⟩ := id hc
  have hlen : w.length = a.length + b.length := by rw [hw, List.length_append]
  rcases cut_cases hs hc with ⟨e, b', rfl, h4, h5, -, h6⟩ | ⟨h3, h5, -, h6⟩
  · have hg : gt w (a.length : Int) = some e := by rw [gtN, hw]; simp
    rw [hth, h6, if_pos (by simp), hg]
    simp only [bind_some, Int.toNat_natCast]
    rw [h5 v, h4]
    congr 1
    rw [hw]
    simp
  · rw [hth, h6, if_neg (by simp)]
    unfold slices_Insert ins
    rw [if_pos ⟨⟨by simp, by omega, by omega⟩, room_of (by simp; omega) (by omega)⟩, h5 v, Int.toNat_natCast]
    simp only [bind_some]
    congr 1
    rw [hw]
    simp

theorem without_spec (k : Nat) (w : Wd) (n : List UInt8) (hs : Srt w) (hl : w.length < 1000) (hk : w.length < k) : history_world_without k w n = some (wout n w) := by
  obtain ⟨a, b, th, hc, h, hth⟩ := find_spec k w n hs (by omega) hk
  unfold history_world_without slices_Clone
  rw [h]
  simp only [bind_some]
  obtain ⟨hw, -, -⟩ := id hc
  have hlen : w.length = a.length + b.length := by rw [hw, List.length_append]
  rcases cut_cases hs hc with ⟨e, b', rfl, h4, -, h5, h6⟩ | ⟨h3, -, h5, h6⟩
  · rw [hth, h6, if_neg (by simp), if_pos (room_of (by simp; omega) (by omega))]
    rw [List.length_cons] at hlen
    unfold slices_Delete
    rw [wrN _ (by omega)]
    simp only [bind_some]
    rw [delN _ _ (by omega), h5]
    simp only [bind_some]
    congr 1
    rw [hw, List.eraseIdx_append_of_length_le (Nat.le_refl _), Nat.sub_self]
    rfl
  · rw [hth, h6, if_pos (by simp), h5]

theorem names_loop (k : Nat) (w : Wd) (hl : w.length < 1000) : ∀ (j i : Nat) (acc : List (List UInt8)), i ≤ w.length → w.length - i < j → acc.length = i →
    history_world_names_l1 k w j acc (i : Int) = some (acc ++ (w.drop i).map (·.name))
  | 0, _, _, _, hj, _ => by omega
  | j + 1, i, acc, hi, hj, ha => by
    rw [history_world_names_l1]
    by_cases h : i < w.length
    · rw [if_pos (by simpa using h), gtL h]
      simp only [bind_some]
      rw [if_pos (room_of (by simp; omega) (by omega)), wrN _ (by omega), names_loop k w hl j (i + 1) _ (by omega) (by omega) (by simp; omega), List.drop_eq_getElem_cons h, List.append_assoc]
      rfl
    · rw [if_neg (by simpa using h), List.drop_eq_nil_of_le (by omega)]
      simp
theorem names_spec (k : Nat) (w : Wd) (hl : w.length < 1000) (hk : w.length < k) : history_world_names k w = some (w.map (·.name)) := by
  unfold history_world_names
  rw [show (0 : Int) = ((0 : Nat) : Int) from rfl, names_loop k w hl k 0 [] (by omega) (by omega) rfl]
  rfl
theorem equal_loop (k : Nat) (x y : List (List UInt8)) (hxy : x.length = y.length) (hl : x.length < 1000) : ∀ (j i : Nat), i ≤ x.length → x.length - i < j → x.take i = y.take i →
    slices_Equal_l1 k x y j (i : Int) = some (if x = y then Flow.go () else Flow.ret false)
  | 0, _, _, hj, _ => by omega
  | j + 1, i, hi, hj, ht => by
    rw [slices_Equal_l1]
    by_cases h : i < x.length
    · have hy : i < y.length := by omega
      rw [if_pos (by simpa using h), gtL h, gtL hy]
      simp only [bind_some]
      rw [sEq_eq]
      by_cases he : x[i] = y[i]
      · rw [if_neg (by simp [he]), wrN _ (by omega)]
        exact equal_loop k x y hxy hl j (i + 1) (by omega) (by omega) (by rw [List.take_succ_eq_append_getElem h, List.take_succ_eq_append_getElem hy, ht, he])
      · rw [if_pos (by simp [he]), if_neg (fun e => he (by subst e; rfl))]
    · rw [if_neg (by simpa using h), if_pos]
      rw [List.take_of_length_le (by omega), List.take_of_length_le (by omega)] at ht
      exact ht
theorem equal_spec (k : Nat) (x y : List (List UInt8)) (hl : y.length < 1000) (hk : y.length < k) : slices_Equal k x y = some (decide (x = y)) := by
  unfold slices_Equal
  by_cases h : x.length = y.length
  · rw [if_neg (by simp [h]), show (0 : Int) = ((0 : Nat) : Int) from rfl, equal_loop k x y h (by omega) k 0 (by omega) (by omega) (by simp)]
    simp only [bind_some]
    by_cases e : x = y
    · rw [if_pos e]; simp [e]
    · rw [if_neg e]; simp [e]
  · rw [if_pos (by simp; omega)]
    have : x ≠ y := fun e => h (by rw [e])
    simp [this]

/-- a call at once -/
def step (o : T_history_Op) (w : Wd) : Wd × Bool :=
  if o.Kind = 1 then (wth o.Name o.Value w, decide (o.End < 0) || (o.Err == 0))
  else if o.Kind = 3 then (wout o.Name w, decide (o.End < 0) || (o.Err == if (lk o.Name w).isSome then 0 else 5))
  else if o.Kind = 4 then (w, decide (o.End < 0) || ((o.Err == 0) && decide (o.Names = w.map (·.name))))
  else match lk o.Name w with
    | none => (w, decide (o.End < 0) || (o.Err == 5))
    | some v => (w, decide (o.End < 0) || ((o.Err == 0) && (o.Got == v)))

theorem do_spec (k : Nat) (o : T_history_Op) (w : Wd) (hs : Srt w) (hl : w.length < 1000) (hk : w.length < k) : history_Op_do k o w = some (step o w) := by
  obtain ⟨a, b, th, hc, h, hth⟩ := find_spec k w o.Name hs (by omega) hk
  unfold history_Op_do step
  rw [h]
  simp only [bind_some]
  by_cases k1 : o.Kind = 1
  · rw [if_pos (by simp [k1]), if_pos k1, with_spec k w _ _ hs hl hk]
    simp only [bind_some]
    by_cases e : o.End < 0
    · rw [if_pos (by simpa using e)]; simp [e]
    · rw [if_neg (by simpa using e)]; simp [e]
  rw [if_neg (by simp [k1]), if_neg k1]
  by_cases k3 : o.Kind = 3
  · rw [if_pos (by simp [k3]), if_pos k3, without_spec k w _ hs hl hk]
    simp only [bind_some]
    rw [← hth]
    cases th <;> by_cases e : o.End < 0 <;> simp [e]
  rw [if_neg (by simp [k3]), if_neg k3]
  by_cases k4 : o.Kind = 4
  · rw [if_pos (by simp [k4]), if_pos k4, names_spec k w hl hk]
    simp only [bind_some, equal_spec k o.Names (w.map (·.name)) (by simpa using hl) (by simpa using hk)]
    by_cases e : o.End < 0
    · rw [if_pos (by simpa using e)]; simp [e]
    · rw [if_neg (by simpa using e)]
      by_cases e2 : o.Err = 0 <;> simp [e, e2]
  rw [if_neg (by simp [k4]), if_neg k4]
  rcases cut_cases hs hc with ⟨e, b', rfl, h4, -, -, h6⟩ | ⟨h3, -, -, h6⟩
  · have hg : gt w (a.length : Int) = some e := by rw [gtN, hc.1]; simp
    rw [hth, h6, if_neg (by simp), hg]
    simp only [bind_some]
    by_cases e1 : o.End < 0
    · rw [if_pos (by simpa using e1)]; simp [e1]
    · rw [if_neg (by simpa using e1)]
      by_cases e2 : o.Err = 0 <;> simp [e1, e2]
  · rw [hth, h6, if_pos (by simp)]
    by_cases e1 : o.End < 0
    · rw [if_pos (by simpa using e1)]; simp [e1]
    · rw [if_neg (by simpa using e1)]; simp [e1]

/-! ### worlds that can be -/
def Good (m : Nat) (w : Wd) : Prop := Srt w ∧ (∀ e ∈ w, Ent e) ∧ w.length ≤ m
def OkOp (o : T_history_Op) : Prop := o.Name.length ≤ 32 ∧ 0 ≤ o.Value ∧ o.Value < 18446744073709551616
theorem Good.nil (m : Nat) : Good m [] := ⟨List.Pairwise.nil, fun _ h => (by cases h), by simp⟩
theorem Good.mono {m m' : Nat} {w : Wd} (h : Good m w) (hm : m ≤ m') : Good m' w := ⟨h.1, h.2.1, Nat.le_trans h.2.2 hm⟩
theorem Good.wth {m : Nat} {w : Wd} (h : Good m w) (n : List UInt8) (v : Int) (he : Ent ⟨n, v⟩) : Good (m + 1) (wth n v w) := by
  refine ⟨?_, ?_, ?_⟩
  · refine List.pairwise_append.2 ⟨h.1.filter _, List.pairwise_cons.2 ⟨fun x hx => (List.mem_filter.1 hx).2, h.1.filter _⟩, fun x hx y hy => ?_⟩
    have h1 := (List.mem_filter.1 hx).2
    rcases List.mem_cons.1 hy with rfl | hy
    · exact h1
    · exact sLt_trans h1 (List.mem_filter.1 hy).2
  · intro x hx
    rcases List.mem_append.1 hx with hx | hx
    · exact h.2.1 x (List.mem_filter.1 hx).1
    · rcases List.mem_cons.1 hx with rfl | hx
      · exact he
      · exact h.2.1 x (List.mem_filter.1 hx).1
  · have : ∀ w : Wd, (w.filter (fun e => sLt e.name n)).length + (w.filter (fun e => sLt n e.name)).length ≤ w.length := by
      intro w
      induction w with
      | nil => simp
      | cons e w ih =>
        rw [List.filter_cons, List.filter_cons, List.length_cons]
        by_cases h1 : sLt e.name n = true
        · rw [if_pos h1, if_neg (by rw [sLt_asym h1]; simp), List.length_cons]; omega
        · rw [if_neg h1]
          split
          · rw [List.length_cons]; omega
          · omega
    have h2 := this w
    have h3 := h.2.2
    unfold Proofs.Ytkbhnofclgibfaa.wth
    rw [List.length_append, List.length_cons]
    omega
theorem Good.wout {m : Nat} {w : Wd} (h : Good m w) (n : List UInt8) : Good m (wout n w) :=
  ⟨h.1.filter _, fun e he => h.2.1 e (List.mem_filter.1 he).1, Nat.le_trans (List.length_filter_le ..) h.2.2⟩
theorem Good.step {m : Nat} {w : Wd} (h : Good m w) (o : T_history_Op) (ho : OkOp o) : Good (m + 1) (step o w).1 := by
  unfold Proofs.Ytkbhnofclgibfaa.step
  split
  · exact h.wth _ _ ⟨ho.1, ho.2.1, ho.2.2⟩
  split
  · exact (h.wout _).mono (by omega)
  split
  · exact h.mono (by omega)
  split <;> exact h.mono (by omega)
/-- what only looks -/
theorem step_look (o : T_history_Op) (h1 : o.Kind ≠ 1) (h3 : o.Kind ≠ 3) (w : Wd) : (step o w).1 = w := by
  unfold step
  rw [if_neg h1, if_neg h3]
  split
  · rfl
  split <;> rfl
end Go.Proofs.Ytkbhnofclgibfaa
