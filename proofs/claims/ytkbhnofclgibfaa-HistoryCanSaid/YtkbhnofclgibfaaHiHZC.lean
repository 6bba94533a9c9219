/-
  HiH: calls that are done one behind the other: what done makes of any calls. Own work.
-/
import Derived.Test.YtkbhnofclgibfaaHiGZC
namespace Go.Proofs.Ytkbhnofclgibfaa
open Go.Hx

def err (o : T_history_Op) (w : Wd) : Int := if o.Kind = 2 ∨ o.Kind = 5 ∨ o.Kind = 3 then (if (lk o.Name w).isSome then 0 else 5) else 0
def got (o : T_history_Op) (w : Wd) : Int := if o.Kind = 2 ∨ o.Kind = 5 then (lk o.Name w).getD 0 else 0
def nms (o : T_history_Op) (w : Wd) : List (List UInt8) := if o.Kind = 4 then w.map (·.name) else []
def nxt (o : T_history_Op) (w : Wd) : Wd := if o.Kind = 1 then wth o.Name o.Value w else if o.Kind = 3 then wout o.Name w else w
def mk (ah be : Int) (f : Bool) (i : Nat) (o : T_history_Op) (w : Wd) : T_history_Op :=
  ⟨o.Kind, o.Name, o.Value, mx2 (10 * (i : Int) + 5 - ah) 0, if f then -1 else 10 * (i : Int) + 5 + be, err o w, got o w, nms o w⟩
theorem step_mk1 (ah be : Int) (f : Bool) (i : Nat) (o : T_history_Op) (w : Wd) : (step (mk ah be f i o w) w).1 = nxt o w := by
  unfold step nxt
  by_cases k1 : o.Kind = 1
  · rw [if_pos (show (mk ah be f i o w).Kind = 1 from k1), if_pos k1]; rfl
  rw [if_neg (show ¬ (mk ah be f i o w).Kind = 1 from k1), if_neg k1]
  by_cases k3 : o.Kind = 3
  · rw [if_pos (show (mk ah be f i o w).Kind = 3 from k3), if_pos k3]; rfl
  rw [if_neg (show ¬ (mk ah be f i o w).Kind = 3 from k3), if_neg k3]
  split
  · rfl
  split <;> rfl
theorem step_mk2 (ah be : Int) (f : Bool) (i : Nat) (o : T_history_Op) (w : Wd) (hk : 1 ≤ o.Kind ∧ o.Kind ≤ 5) : (step (mk ah be f i o w) w).2 = true := by
  unfold step
  have e1 : (mk ah be f i o w).Kind = o.Kind := rfl
  have e2 : (mk ah be f i o w).Name = o.Name := rfl
  have e3 : (mk ah be f i o w).Err = err o w := rfl
  have e4 : (mk ah be f i o w).Got = got o w := rfl
  have e5 : (mk ah be f i o w).Names = nms o w := rfl
  rw [e1, e2, e3, e4, e5]
  by_cases k1 : o.Kind = 1
  · rw [if_pos k1]; simp [err, k1]
  rw [if_neg k1]
  by_cases k3 : o.Kind = 3
  · rw [if_pos k3]; simp [err, k3]
  rw [if_neg k3]
  by_cases k4 : o.Kind = 4
  · rw [if_pos k4]; simp [err, nms, k4]
  rw [if_neg k4]
  have k25 : o.Kind = 2 ∨ o.Kind = 5 := by omega
  have k253 : o.Kind = 2 ∨ o.Kind = 5 ∨ o.Kind = 3 := by omega
  cases h : lk o.Name w <;> simp [err, got, k25, k253, h]

/-- calls, each as it is told at its place; which are open -/
def dn (ah be : Int) (f : Nat → Bool) : Nat → List T_history_Op → Wd → List T_history_Op
  | _, [], _ => []
  | i, o :: l, w => mk ah be (f i) i o w :: dn ah be f (i + 1) l (nxt o w)
theorem dn_len (ah be : Int) (f : Nat → Bool) : ∀ (i : Nat) (l : List T_history_Op) (w : Wd), (dn ah be f i l w).length = l.length
  | _, [], _ => rfl
  | i, o :: l, w => by rw [dn, List.length_cons, dn_len ah be f (i + 1) l _, List.length_cons]
theorem dn_mem (ah be : Int) (hb : 0 ≤ be) (ha : 0 ≤ ah) (f : Nat → Bool) : ∀ (i : Nat) (l : List T_history_Op) (w : Wd) (p : T_history_Op), p ∈ dn ah be f i l w →
    (p.End < 0 ∨ p.Start ≤ p.End) ∧ (p.End < 0 ∨ 10 * (i : Int) + 5 + be ≤ p.End) ∧ ∃ o ∈ l, p.Kind = o.Kind ∧ p.Name = o.Name ∧ p.Value = o.Value
  | _, [], _, _, h => by cases h
  | i, o :: l, w, p, h => by
    rcases List.mem_cons.1 h with rfl | h
    · refine ⟨?_, ?_, o, List.mem_cons_self .., rfl, rfl, rfl⟩
      · unfold mk mx2
        cases f i
        · right; simp only [Bool.false_eq_true, if_false]; split <;> omega
        · left; simp only [if_true]; omega
      · unfold mk
        cases f i
        · right; simp only [Bool.false_eq_true, if_false]; omega
        · left; simp only [if_true]; omega
    · obtain ⟨h1, h2, q, hq, h3⟩ := dn_mem ah be hb ha f (i + 1) l _ p h
      exact ⟨h1, by omega, q, List.mem_cons_of_mem _ hq, h3⟩
theorem dn_seq (ah be : Int) (hb : 0 ≤ be) (ha : 0 ≤ ah) (f : Nat → Bool) : ∀ (i : Nat) (l : List T_history_Op) (w : Wd), (∀ o ∈ l, 1 ≤ o.Kind ∧ o.Kind ≤ 5) →
    Seq step T_history_Op.End T_history_Op.Start (dn ah be f i l w) w
  | _, [], _, _ => trivial
  | i, o :: l, w, h => by
    refine ⟨fun p hp => ?_, step_mk2 _ _ _ _ _ _ (h o (List.mem_cons_self ..)), ?_⟩
    · have := (dn_mem ah be hb ha f (i + 1) l _ p hp).2.1
      have h2 : (mk ah be (f i) i o w).Start ≤ 10 * (i : Int) + 5 := by unfold mk mx2; simp only; split <;> omega
      omega
    · rw [step_mk1]
      exact dn_seq ah be hb ha f (i + 1) l _ fun q hq => h q (List.mem_cons_of_mem _ hq)
theorem dn_can (ah be : Int) (hb : 0 ≤ be) (ha : 0 ≤ ah) (f : Nat → Bool) (l : List T_history_Op) (hl : l.length ≤ 20) (h : ∀ o ∈ l, Few o) : Fine (dn ah be f 0 l []) ∧ Can (dn ah be f 0 l []) [] := by
  refine ⟨⟨by rw [dn_len]; exact hl, fun p hp => ?_⟩, (dn_seq ah be hb ha f 0 l [] fun o ho => (h o ho).1).lin⟩
  obtain ⟨h1, -, o, ho, e1, e2, e3⟩ := dn_mem ah be hb ha f 0 l [] p hp
  have := (h o ho).ok
  exact ⟨by rw [e1]; exact this.1, by rw [e1]; exact this.2.1, h1, by unfold OkOp; rw [e2, e3]; exact this.2.2.2⟩
/-- some are open -/
def cl (f : Nat → Bool) : Nat → List T_history_Op → List T_history_Op
  | _, [] => []
  | i, o :: l => ⟨o.Kind, o.Name, o.Value, o.Start, if f i then -1 else o.End, o.Err, o.Got, o.Names⟩ :: cl f (i + 1) l
theorem cl_dn (ah be : Int) (f : Nat → Bool) : ∀ (i : Nat) (l : List T_history_Op) (w : Wd), cl f i (dn ah be (fun _ => false) i l w) = dn ah be f i l w
  | _, [], _ => rfl
  | i, o :: l, w => by rw [dn, cl, dn, cl_dn ah be f (i + 1) l _]; rfl

/-! ### the document's Do -/
theorem do_loop (k : Nat) (w : Wd) (o : T_glacierref18_Op) (hn : o.Names = w.map (·.name)) (hl : w.length < 1000000) : ∀ (j i : Nat), i ≤ w.length → w.length - i < j → glacierref18_Do_l1 k (w.map tr) o j true (i : Int) = some true
  | 0, _, _, hj => by omega
  | j + 1, i, hi, hj => by
    rw [glacierref18_Do_l1]
    by_cases h : i < w.length
    · have h1 : i < (w.map tr).length := by simpa using h
      have h2 : i < o.Names.length := by rw [hn]; simpa using h
      rw [if_pos (by simpa using h), if_pos rfl, gtL h1, gtL h2]
      simp only [bind_some]
      have : sEq o.Names[i] ((w.map tr)[i]).Name = true := by
        rw [sEq_eq, beq_iff_eq]
        simp [hn, tr]
      rw [this, wrN _ (by omega)]
      exact do_loop k w o hn hl j (i + 1) (by omega) (by omega)
    · rw [if_neg (by simpa using h)]
theorem ref_do (k : Nat) (w : Wd) (o : T_history_Op) (s e : Int) (hs : Srt w) (hl : w.length < 900) (hk : 2000 < k) (h5 : 1 ≤ o.Kind ∧ o.Kind ≤ 5) :
    ∃ b, glacierref18_Do k (w.map tr) ⟨o.Kind, o.Name, o.Value, s, e, err o w, got o w, nms o w⟩ = some ((nxt o w).map tr, b) := by
  have fin : ∀ (r : Option (List REnt × Bool)) (y : List REnt), (∃ b, r = some (y, b)) → ∃ b, (Option.bind r fun y10 => Option.bind (if y10.2 = true then some true else some (decide (e < 0))) fun y16 => some (y10.1, y16)) = some (y, b) := by
    rintro r y ⟨b, rfl⟩
    cases b
    · exact ⟨decide (e < 0), rfl⟩
    · exact ⟨true, rfl⟩
  unfold glacierref18_Do
  rw [ref_find k w _ (by omega) (by omega)]
  simp only [bind_some]
  refine fin _ _ ?_
  unfold nxt
  by_cases k1 : o.Kind = 1
  · rw [if_pos (by simp [k1]), if_pos k1, ref_put k w _ _ hs hl hk]
    exact ⟨_, rfl⟩
  rw [if_neg (by simp [k1]), if_neg k1]
  by_cases k3 : o.Kind = 3
  · rw [if_neg (by simp [k3]), if_pos k3]
    simp only [bind_some]
    rw [if_neg (by simp [k3]), if_pos (by simp [k3]), ref_drop k w _ _ hl hk]
    simp only [bind_some]
    split
    · split
      · exact ⟨_, rfl⟩
      · split <;> exact ⟨_, rfl⟩
    · split <;> exact ⟨_, rfl⟩
  rw [if_neg k3]
  by_cases k4 : o.Kind = 4
  · rw [if_neg (by simp [k4])]
    simp only [bind_some]
    rw [if_neg (by simp [k4]), if_neg (by simp [k4]), if_pos (by simp [k4]), if_pos (by simp [err, k4])]
    simp only [bind_some]
    have hn : nms o w = w.map (·.name) := by simp [nms, k4]
    rw [show (((nms o w).length : Int) == ((w.map tr).length : Int)) = true by simp [hn], show (0 : Int) = ((0 : Nat) : Int) from rfl, do_loop k w _ hn (by omega) k 0 (by omega) (by omega)]
    exact ⟨_, rfl⟩
  have k25 : (if (o.Kind == 2) = true then some (o.Kind == 2) else some (o.Kind == 5)) = some true := by
    by_cases k2 : o.Kind = 2
    · simp [k2]
    · have : o.Kind = 5 := by omega
      simp [this]
  rw [k25]
  simp only [bind_some, if_true]
  split
  · split
    · split
      · exact ⟨_, rfl⟩
      · split <;> exact ⟨_, rfl⟩
    · split <;> exact ⟨_, rfl⟩
  · split <;> exact ⟨_, rfl⟩

theorem told_one (k : Nat) (hk : 2000 < k) (o : T_history_Op) : glacierlaw18_told k [o] = some [⟨o.Kind, o.Name, o.Value, o.Start, o.End, o.Err, o.Got, o.Names⟩] := by
  obtain ⟨k', rfl⟩ : ∃ k', k = k' + 2 := ⟨k - 2, by omega⟩
  rfl
theorem done_names (k : Nat) (w : Wd) (hl : w.length < 1000) : ∀ (j i : Nat) (acc : List (List UInt8)), i ≤ w.length → w.length - i < j → acc.length = i →
    glacierlaw18_done_l2 k (w.map tr) j (i : Int) acc = some (acc ++ (w.drop i).map (·.name))
  | 0, _, _, _, hj, _ => by omega
  | j + 1, i, acc, hi, hj, ha => by
    rw [glacierlaw18_done_l2]
    by_cases h : i < w.length
    · have h1 : i < (w.map tr).length := by simpa using h
      rw [if_pos (by simpa using h), gtL h1]
      simp only [bind_some]
      rw [if_pos (room_of (by simp; omega) (by omega)), wrN _ (by omega), done_names k w hl j (i + 1) _ (by omega) (by omega) (by simp; omega), List.drop_eq_getElem_cons h, List.append_assoc, List.getElem_map]
      rfl
    · rw [if_neg (by simpa using h), List.drop_eq_nil_of_le (by omega)]
      simp
theorem nxt_good {m : Nat} {w : Wd} (h : Good m w) (o : T_history_Op) (ho : OkOp o) : Good (m + 1) (nxt o w) := by
  unfold nxt
  split
  · exact h.wth _ _ ⟨ho.1, ho.2.1, ho.2.2⟩
  split
  · exact (h.wout _).mono (by omega)
  · exact h.mono (by omega)
theorem done_loop (k : Nat) (hk : 2000 < k) (x2 x3 : Int) (y : List T_history_Op) (hy : y.length ≤ 20) (hf : ∀ o ∈ y, Few o) : ∀ (j i : Nat) (w : Wd) (acc : List T_history_Op), i ≤ y.length → y.length - i < j → Good i w → acc.length = i →
    glacierlaw18_done_l1 k x2 x3 y j (w.map tr) acc (i : Int) = some (acc ++ dn (mn2 (mx2 x2 0) 20) (mn2 (mx2 x3 0) 20) (fun _ => false) i (y.drop i) w)
  | 0, _, _, _, _, hj, _, _ => by omega
  | j + 1, i, w, acc, hi, hj, hw, ha => by
    rw [glacierlaw18_done_l1]
    by_cases h : i < y.length
    · have hfo := hf _ (List.getElem_mem h)
      have hwl := hw.2.2
      rw [if_pos (by simpa using h), gtL h, List.drop_eq_getElem_cons h, dn]
      generalize y[i] = o at hfo ⊢
      simp only [bind_some]
      rw [ref_find k w _ (by omega) (by omega)]
      simp only [bind_some]
      have h12 : (Option.bind (if (o.Kind == 2) = true then some (o.Kind == 2) else some (o.Kind == 5)) fun y13 =>
          if y13 = true then (if (!(lk o.Name w).isSome) = true then some ((5 : Int), (lk o.Name w).getD 0, ([] : List (List UInt8))) else some ((0 : Int), (lk o.Name w).getD 0, []))
          else (if (o.Kind == 3) = true then (if (!(lk o.Name w).isSome) = true then some ((5 : Int), (0 : Int), []) else some ((0 : Int), (0 : Int), []))
            else (if (o.Kind == 4) = true then (Option.bind (glacierlaw18_done_l2 k (w.map tr) k (0 : Int) ([])) fun y14 => some ((0 : Int), (0 : Int), y14)) else some ((0 : Int), (0 : Int), [])))) =
          some (err o w, got o w, nms o w) := by
        rw [show (0 : Int) = ((0 : Nat) : Int) from rfl, done_names k w (by omega) k 0 [] (by omega) (by omega) rfl]
        unfold err got nms
        by_cases k2 : o.Kind = 2
        · cases lk o.Name w <;> simp [k2]
        by_cases k5 : o.Kind = 5
        · cases lk o.Name w <;> simp [k5]
        by_cases k3 : o.Kind = 3
        · cases lk o.Name w <;> simp [k3]
        by_cases k4 : o.Kind = 4
        · simp [k4]
        · simp [k2, k3, k4, k5]
      rw [h12]
      simp only [bind_some]
      rw [told_one k hk]
      simp only [bind_some]
      rw [gt0]
      simp only [List.getElem?_cons_zero, bind_some]
      obtain ⟨b, hb⟩ := ref_do k w o o.Start o.End hw.1 (by omega) hk hfo.1
      rw [hb]
      have a1 := st1_ok x2
      have m1 : 0 ≤ mn2 (mx2 x2 0) 20 ∧ mn2 (mx2 x2 0) 20 ≤ 20 := by unfold mn2 mx2; split <;> split <;> omega
      have m2 : 0 ≤ mn2 (mx2 x3 0) 20 ∧ mn2 (mx2 x3 0) 20 ≤ 20 := by unfold mn2 mx2; split <;> split <;> omega
      simp only [bind_some]
      rw [wr (n := 10 * (i : Int)) (by omega), wr (n := 10 * (i : Int) + 5) (by omega), wr (n := 10 * (i : Int) + 5 - mn2 (mx2 x2 0) 20) (by omega), wr (n := 10 * (i : Int) + 5 + mn2 (mx2 x3 0) 20) (by omega)]
      rw [if_pos (room_of (by simp; omega) (by omega)), wrN _ (by omega), done_loop k hk x2 x3 y hy hf j (i + 1) _ _ (by omega) (by omega) (nxt_good hw o hfo.ok.2.2.2) (by simp; omega), List.append_assoc]
      rfl
    · rw [if_neg (by simpa using h), List.drop_eq_nil_of_le (by omega)]
      simp [dn]
theorem done_ex (k : Nat) (hk : 2000 < k) (l : List T_history_Op) (x2 x3 : Int) (h : ∀ o ∈ l, okI .u64 o.Value) : ∃ y : List T_history_Op, y.length ≤ 10 ∧ (∀ o ∈ y, Few o) ∧
    glacierlaw18_done k l x2 x3 = some (dn (mn2 (mx2 x2 0) 20) (mn2 (mx2 x3 0) 20) (fun _ => false) 0 y []) := by
  obtain ⟨y, h1, h2, h3⟩ := few_ex k l 10 (by omega) hk h
  refine ⟨y, h2, h3, ?_⟩
  unfold glacierlaw18_done
  rw [show (10 : Int) = ((10 : Nat) : Int) from rfl, h1]
  simp only [bind_some]
  rw [show (0 : Int) = ((0 : Nat) : Int) from rfl, show ([] : List REnt) = ([] : Wd).map tr from rfl, done_loop k hk x2 x3 y (by omega) h3 k 0 [] [] (by omega) (by omega) (Good.nil 0) rfl]
  rfl
end Go.Proofs.Ytkbhnofclgibfaa
