/-
  HiG: the document's answers over plain lists (Find, Put, Do), and calls that are done one behind the other. Own work.
-/
import Derived.Test.YtkbhnofclgibfaaHiFZC
namespace Go.Proofs.Ytkbhnofclgibfaa
open Go.Hx

abbrev REnt := T_glacierref18_Entry
def tr (e : T_history_entry) : REnt := ⟨e.name, e.v⟩

theorem ref_find_loop (k : Nat) (w : Wd) (n : List UInt8) (hl : w.length < 1000000) : ∀ (j i : Nat), i ≤ w.length → w.length - i < j →
    glacierref18_Find_l1 k (w.map tr) n j (i : Int) = some (match lk n (w.drop i) with | some v => Flow.ret (v, true) | none => Flow.go ())
  | 0, _, _, hj => by omega
  | j + 1, i, hi, hj => by
    rw [glacierref18_Find_l1]
    by_cases h : i < w.length
    · have hm : i < (w.map tr).length := by simpa using h
      rw [if_pos (by simpa using h), gtL hm]
      simp only [bind_some, List.getElem_map]
      rw [sEq_eq, List.drop_eq_getElem_cons h, lk]
      by_cases e : w[i].name = n
      · rw [if_pos (by simp [tr, e]), if_pos e]; rfl
      · rw [if_neg (by simp [tr, e]), if_neg e, wrN _ (by omega)]
        exact ref_find_loop k w n hl j (i + 1) (by omega) (by omega)
    · rw [if_neg (by simpa using h), List.drop_eq_nil_of_le (by omega)]
      rfl
theorem ref_find (k : Nat) (w : Wd) (n : List UInt8) (hl : w.length < 1000000) (hk : w.length < k) : glacierref18_Find k (w.map tr) n = some ((lk n w).getD 0, (lk n w).isSome) := by
  unfold glacierref18_Find
  rw [show (0 : Int) = ((0 : Nat) : Int) from rfl, ref_find_loop k w n hl k 0 (by omega) (by omega), List.drop_zero]
  cases lk n w <;> rfl

def rp (x : REnt) : Bool → List REnt → List REnt × Bool
  | d, [] => ([], d)
  | d, e :: l => if d = false ∧ sLt e.Name x.Name = false then (x :: ((if e.Name = x.Name then [] else [e]) ++ (rp x true l).1), (rp x true l).2)
      else ((if e.Name = x.Name then [] else [e]) ++ (rp x d l).1, (rp x d l).2)
theorem put_loop (k : Nat) (l : List REnt) (x : REnt) (hl : l.length < 1000) : ∀ (j i : Nat) (acc : List REnt) (d : Bool), i ≤ l.length → l.length - i < j → acc.length ≤ 2 * i →
    glacierref18_Put_l1 k l x j acc d (i : Int) = some (acc ++ (rp x d (l.drop i)).1, (rp x d (l.drop i)).2)
  | 0, _, _, _, _, hj, _ => by omega
  | j + 1, i, acc, d, hi, hj, ha => by
    rw [glacierref18_Put_l1]
    by_cases h : i < l.length
    · rw [if_pos (by simpa using h), gtL h, List.drop_eq_getElem_cons h, rp]
      simp only [bind_some, sEq_eq]
      have r1 : room (acc.length + ([x] : List REnt).length) 24 = true := room_of (by simp; omega) (by omega)
      have r2 : room ((acc ++ [x]).length + ([l[i]] : List REnt).length) 24 = true := room_of (by simp; omega) (by omega)
      have r3 : room (acc.length + ([l[i]] : List REnt).length) 24 = true := room_of (by simp; omega) (by omega)
      have go := fun acc' d' h' => put_loop k l x hl j (i + 1) acc' d' (by omega) (by omega) h'
      have hb : ∀ y : List UInt8, (y == x.Name) = decide (y = x.Name) := fun y => by
        by_cases hy : y = x.Name
        · rw [decide_eq_true hy, hy, beq_self_eq_true]
        · rw [decide_eq_false hy]; simpa using hy
      have fin : ∀ (acc' : List REnt) (d' : Bool), acc'.length ≤ 2 * i + 1 → room (acc'.length + ([l[i]] : List REnt).length) 24 = true →
          Option.bind (if (!decide ((l[i]).Name = x.Name)) = true then (if room (acc'.length + ([l[i]] : List REnt).length) 24 = true then some (acc' ++ [l[i]], d') else none) else some (acc', d'))
            (fun y7 => glacierref18_Put_l1 k l x j y7.1 y7.2 (IntKind.i64.wrap ((i : Int) + 1))) =
          some (acc' ++ ((if (l[i]).Name = x.Name then [] else [l[i]]) ++ (rp x d' (l.drop (i + 1))).1), (rp x d' (l.drop (i + 1))).2) := by
        intro acc' d' hlen hroom
        rw [wrN i (by omega)]
        by_cases he : (l[i]).Name = x.Name
        · rw [if_neg (by simp [he]), if_pos he]
          simp only [bind_some]
          rw [go _ _ (by omega), List.nil_append]
        · rw [if_pos (by simp [he]), if_pos hroom, if_neg he]
          simp only [bind_some]
          rw [go _ _ (by simp; omega), List.append_assoc]
      rw [hb]
      cases d with
      | true =>
        simp only [Bool.not_true, Bool.false_eq_true, if_false, bind_some, false_and, reduceCtorEq]
        exact fin acc true (by omega) r3
      | false =>
        cases hlt : sLt (l[i]).Name x.Name with
        | true =>
          simp only [Bool.not_true, Bool.not_false, if_true, Bool.false_eq_true, if_false, bind_some, and_false, reduceCtorEq]
          exact fin acc false (by omega) r3
        | false =>
          simp only [Bool.not_false, if_true, bind_some, and_self, r1]
          have := fin (acc ++ [x]) true (by simp; omega) r2
          rw [this, List.append_assoc]
          rfl
    · rw [if_neg (by simpa using h), List.drop_eq_nil_of_le (by omega)]
      simp [rp]
theorem rp_true (x : REnt) : ∀ l : List REnt, rp x true l = (l.filter (fun e => decide (e.Name ≠ x.Name)), true)
  | [] => rfl
  | e :: l => by
    rw [rp, if_neg (by simp), rp_true x l, List.filter_cons]
    by_cases h : e.Name = x.Name <;> simp [h]
theorem rp_skip (x : REnt) : ∀ (a b : List REnt), (∀ e ∈ a, sLt e.Name x.Name = true) → rp x false (a ++ b) = (a ++ (rp x false b).1, (rp x false b).2)
  | [], b, _ => rfl
  | e :: a, b, h => by
    have he := h e (List.mem_cons_self ..)
    rw [List.cons_append, rp, if_neg (by rw [he]; simp), rp_skip x a b fun p hp => h p (List.mem_cons_of_mem _ hp), if_neg (sLt_ne he)]
    rfl
theorem ref_put (k : Nat) (w : Wd) (n : List UInt8) (v : Int) (hs : Srt w) (hl : w.length < 900) (hk : 2000 < k) : glacierref18_Put k (w.map tr) ⟨n, v⟩ true = some ((wth n v w).map tr) := by
  unfold glacierref18_Put
  obtain ⟨a, b, th, hc, -, -⟩ := find_spec (w.length + 1) w n hs (by omega) (by omega)
  rw [show (0 : Int) = ((0 : Nat) : Int) from rfl, put_loop k _ _ (by simpa using (show w.length < 1000 by omega)) k 0 [] _ (by omega) (by simp; omega) (by simp)]
  simp only [bind_some, List.nil_append, List.drop_zero, Bool.not_true]
  have hlen : w.length = a.length + b.length := by rw [hc.1, List.length_append]
  have e1 : rp ⟨n, v⟩ false (w.map tr) = (a.map tr ++ (rp ⟨n, v⟩ false (b.map tr)).1, (rp ⟨n, v⟩ false (b.map tr)).2) := by
    conv => lhs; rw [hc.1, List.map_append]
    refine rp_skip _ _ _ fun e he => ?_
    obtain ⟨p, hp, rfl⟩ := List.mem_map.1 he
    exact hc.2.1 p hp
  rw [e1]
  rcases cut_cases hs hc with ⟨e, b', rfl, h4, h5, h6, -⟩ | ⟨h3, h5, -, -⟩
  · have hb := hc.2.2 e (List.mem_cons_self ..)
    have h7 : (b'.map tr).filter (fun e => decide (e.Name ≠ n)) = b'.map tr := by
      refine List.filter_eq_self.2 fun x hx => ?_
      obtain ⟨p, hp, rfl⟩ := List.mem_map.1 hx
      have h8 := (List.pairwise_append.1 (show Srt (a ++ e :: b') from hc.1 ▸ hs)).2.1
      have h9 := (List.pairwise_cons.1 h8).1 p hp
      rw [h4] at h9
      exact decide_eq_true fun (h : p.name = n) => sLt_ne h9 h.symm
    have e2 : rp ⟨n, v⟩ false ((e :: b').map tr) = (⟨n, v⟩ :: b'.map tr, true) := by
      rw [List.map_cons, rp, if_pos ⟨rfl, hb⟩, rp_true, h7, if_pos (show (tr e).Name = n from h4)]
      rfl
    rw [e2, h5 v]
    simp [tr]
  · cases b with
    | nil =>
      rw [List.map_nil, rp, h5 v]
      simp only [Bool.not_false, if_true]
      rw [if_pos (room_of (by simp; simp at hlen; omega) (by omega))]
      simp [tr]
    | cons e b' =>
      have hb := hc.2.2 e (List.mem_cons_self ..)
      have hn := h3 e (List.mem_cons_self ..)
      have h7 : (b'.map tr).filter (fun e => decide (e.Name ≠ n)) = b'.map tr := by
        refine List.filter_eq_self.2 fun x hx => ?_
        obtain ⟨p, hp, rfl⟩ := List.mem_map.1 hx
        exact decide_eq_true (h3 p (List.mem_cons_of_mem _ hp))
      have e2 : rp ⟨n, v⟩ false ((e :: b').map tr) = (⟨n, v⟩ :: tr e :: b'.map tr, true) := by
        rw [List.map_cons, rp, if_pos ⟨rfl, hb⟩, rp_true, h7, if_neg (show ¬ (tr e).Name = n from hn)]
        rfl
      rw [e2, h5 v]
      simp [tr]
theorem ref_drop (k : Nat) (w : Wd) (n : List UInt8) (v : Int) (hl : w.length < 900) (hk : 2000 < k) : glacierref18_Put k (w.map tr) ⟨n, v⟩ false = some ((wout n w).map tr) := by
  unfold glacierref18_Put
  rw [show (0 : Int) = ((0 : Nat) : Int) from rfl, put_loop k _ _ (by simpa using (show w.length < 1000 by omega)) k 0 [] _ (by omega) (by simp; omega) (by simp)]
  simp only [bind_some, List.nil_append, List.drop_zero, Bool.not_false, rp_true, Bool.not_true, Bool.false_eq_true, if_false]
  unfold wout
  rw [List.filter_map]
  rfl
end Go.Proofs.Ytkbhnofclgibfaa
