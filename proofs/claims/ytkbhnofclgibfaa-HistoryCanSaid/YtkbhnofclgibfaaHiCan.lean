/-
  HistoryCan: calls that were done one behind the other can have been, some of them open, and each beginning of them: for any calls. Own work.
-/
import Derived.Test.YtkbhnofclgibfaaHiHZC
import Derived.Test.YtkbhnofclgibfaaZCR
namespace Go.Proofs.Ytkbhnofclgibfaa
open Go.Hx

theorem can_loop (k : Nat) (x5 : List Bool) (y : List T_history_Op) (hy : y.length ≤ 20) : ∀ (j i : Nat) (acc : List T_history_Op), i ≤ y.length → y.length - i < j → acc.length = i →
    glacierlaw18_HistoryCan_l1 k x5 y j acc (i : Int) = some (acc ++ cl (fun a => (x5[a]?).getD false) i (y.drop i))
  | 0, _, _, _, hj, _ => by omega
  | j + 1, i, acc, hi, hj, ha => by
    rw [glacierlaw18_HistoryCan_l1]
    by_cases h : i < y.length
    · rw [if_pos (by simpa using h), gtL h, List.drop_eq_getElem_cons h, cl]
      simp only [bind_some]
      have e : (Option.bind (Option.bind (if decide ((i : Int) < (x5.length : Int)) = true then (Option.bind (gt x5 (i : Int)) fun x10 => some x10) else some false) fun y20 => (if y20 = true then some ((-1 : Int)) else some y[i].End)) fun y19 =>
          (if room (acc.length + ([(T_history_Op.mk y[i].Kind y[i].Name y[i].Value y[i].Start y19 y[i].Err y[i].Got y[i].Names)]).length) 88 = true then (glacierlaw18_HistoryCan_l1 k x5 y j (acc ++ ([(T_history_Op.mk y[i].Kind y[i].Name y[i].Value y[i].Start y19 y[i].Err y[i].Got y[i].Names)])) (IntKind.i64.wrap ((i : Int) + 1))) else none)) =
          glacierlaw18_HistoryCan_l1 k x5 y j (acc ++ [T_history_Op.mk y[i].Kind y[i].Name y[i].Value y[i].Start (if (x5[i]?).getD false = true then -1 else y[i].End) y[i].Err y[i].Got y[i].Names]) ((i + 1 : Nat) : Int) := by
        have e2 : (Option.bind (if decide ((i : Int) < (x5.length : Int)) = true then (Option.bind (gt x5 (i : Int)) fun x10 => some x10) else some false) fun y20 => (if y20 = true then some ((-1 : Int)) else some y[i].End)) = some (if (x5[i]?).getD false = true then -1 else y[i].End) := by
          by_cases hx : i < x5.length
          · rw [if_pos (by simpa using hx), gtL hx]
            simp only [bind_some, List.getElem?_eq_getElem hx, Option.getD_some]
            split <;> rfl
          · rw [if_neg (by simpa using hx)]
            simp [List.getElem?_eq_none (show x5.length ≤ i by omega)]
        rw [e2]
        simp only [bind_some]
        rw [if_pos (room_of (by simp; omega) (by omega)), wrN _ (by omega)]
      rw [e, can_loop k x5 y hy j (i + 1) _ (by omega) (by omega) (by simp; omega), List.append_assoc]
      rfl
    · rw [if_neg (by simpa using h), List.drop_eq_nil_of_le (by omega)]
      simp [cl]

theorem can_plain (k : Nat) (hk : 2000 < k) (l : List T_history_Op) (a b n : Int) (x5 : List Bool) (hl : ∀ o ∈ l, okI .u64 o.Value) : glacierlaw18_HistoryCan k l a b n x5 = some true := by
  unfold glacierlaw18_HistoryCan
  have m1 : 0 ≤ mn2 (mx2 a 0) 20 ∧ mn2 (mx2 a 0) 20 ≤ 20 := by unfold mn2 mx2; split <;> split <;> omega
  have m2 : 0 ≤ mn2 (mx2 b 0) 20 ∧ mn2 (mx2 b 0) 20 ≤ 20 := by unfold mn2 mx2; split <;> split <;> omega
  obtain ⟨y, hy1, hy2, e⟩ := done_ex k hk l a b hl
  obtain ⟨f1, c1⟩ := dn_can (mn2 (mx2 a 0) 20) (mn2 (mx2 b 0) 20) m2.1 m1.1 (fun _ => false) y (by omega) hy2
  obtain ⟨f2, c2⟩ := dn_can (mn2 (mx2 a 0) 20) (mn2 (mx2 b 0) 20) m2.1 m1.1 (fun i => (x5[i]?).getD false) y (by omega) hy2
  obtain ⟨b1, e1, d1⟩ := check_spec k _ f1 hk
  obtain ⟨b2, e2, d2⟩ := check_spec k _ f2 hk
  have hb1 := d1.2 c1
  have hb2 := d2.2 c2
  subst hb1 hb2
  rw [e]
  simp only [bind_some, e1, awake_true k hk, Bool.not_true, Bool.false_eq_true, if_false]
  rw [if_neg (by simp)]
  simp only [bind_some, Bool.false_eq_true, if_false]
  have hcl : glacierlaw18_HistoryCan_l1 k x5 (dn (mn2 (mx2 a 0) 20) (mn2 (mx2 b 0) 20) (fun _ => false) 0 y []) k [] 0 = some (dn (mn2 (mx2 a 0) 20) (mn2 (mx2 b 0) 20) (fun i => (x5[i]?).getD false) 0 y []) := by
    have := can_loop k x5 (dn (mn2 (mx2 a 0) 20) (mn2 (mx2 b 0) 20) (fun _ => false) 0 y []) (by rw [dn_len]; omega) k 0 [] (by omega) (by rw [dn_len]; omega) rfl
    rw [List.drop_zero, List.nil_append, cl_dn] at this
    exact this
  rw [hcl]
  simp only [bind_some, e2, Bool.not_true, Bool.false_eq_true, if_false]
  rw [if_neg (by simp)]
  by_cases h0 : n < 0
  · rw [if_pos (by simpa using h0)]; rfl
  rw [if_neg (by simpa using h0)]
  by_cases h1 : n > ((dn (mn2 (mx2 a 0) 20) (mn2 (mx2 b 0) 20) (fun _ => false) 0 y []).length : Int)
  · rw [show decide (n > ((dn (mn2 (mx2 a 0) 20) (mn2 (mx2 b 0) 20) (fun _ => false) 0 y []).length : Int)) = true by simpa using h1]; rfl
  rw [show decide (n > ((dn (mn2 (mx2 a 0) 20) (mn2 (mx2 b 0) 20) (fun _ => false) 0 y []).length : Int)) = false by simpa using h1]
  simp only [bind_some, Bool.false_eq_true, if_false]
  have hs : ∃ m : Nat, mn2 n (l.length : Int) = (m : Int) ∧ m ≤ l.length := by
    refine ⟨(mn2 n (l.length : Int)).toNat, ?_, ?_⟩ <;> unfold mn2 <;> split <;> omega
  obtain ⟨m, hm, hml⟩ := hs
  have s1 : sl l 0 (m : Int) = some (l.take m) := by unfold sl; rw [if_pos (by omega)]; simp
  rw [hm, s1]
  simp only [bind_some]
  obtain ⟨z, hz1, hz2, e3⟩ := done_ex k hk (l.take m) a b fun o ho => hl o (List.mem_of_mem_take ho)
  obtain ⟨f3, c3⟩ := dn_can (mn2 (mx2 a 0) 20) (mn2 (mx2 b 0) 20) m2.1 m1.1 (fun _ => false) z (by omega) hz2
  obtain ⟨b3, e4, d3⟩ := check_spec k _ f3 hk
  have hb3 := d3.2 c3
  subst hb3
  rw [e3]
  simp only [bind_some, e4]
  rfl

theorem historyCan_holds : Rows.HistoryCanSaid := historyCan_row fun l a b n x5 h _ _ _ _ => ⟨2001, can_plain 2001 (by omega) l a b n x5 fun o ho => (h.2 o ho).2.2.1⟩
end Go.Proofs.Ytkbhnofclgibfaa
