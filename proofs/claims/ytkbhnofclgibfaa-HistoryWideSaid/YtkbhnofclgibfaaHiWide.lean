/-
  HistoryWide: a history that can be can be when a call began earlier or was answered later: for any calls, any place and any times. Own work.
-/
import Derived.Test.YtkbhnofclgibfaaHiFZW
import Derived.Test.YtkbhnofclgibfaaZWR
namespace Go.Proofs.Ytkbhnofclgibfaa
open Go.Hx

theorem wide_step {o o' : T_history_Op} (h1 : o'.Kind = o.Kind) (h2 : o'.Name = o.Name) (h3 : o'.Value = o.Value) (h4 : o'.Err = o.Err) (h5 : o'.Got = o.Got) (h6 : o'.Names = o.Names) (h7 : o.End < 0 ↔ o'.End < 0) (w : Wd) : step o' w = step o w := by
  unfold step
  rw [h1, h2, h3, h4, h5, h6, show decide (o'.End < 0) = decide (o.End < 0) by simp [h7]]
theorem wide_ans (k : Nat) (hk : 2000 < k) (y : List T_history_Op) (i : Nat) (hi : i < y.length) (o' : T_history_Op) (hy1 : y.length ≤ 7) (hy2 : ∀ o ∈ y, Few o) (hc : Can y [])
    (h1 : o'.Kind = y[i].Kind) (h2 : o'.Name = y[i].Name) (h3 : o'.Value = y[i].Value) (h4 : o'.Err = y[i].Err) (h5 : o'.Got = y[i].Got) (h6 : o'.Names = y[i].Names) (h7 : y[i].End < 0 ↔ o'.End < 0)
    (h8 : y[i].End ≤ o'.End) (h9 : o'.Start ≤ y[i].Start) (h10 : o'.End < 0 ∨ o'.Start ≤ o'.End) : history_Check k (y.set i o') = some (true, 0) := by
  have hp : y.Perm (y[i] :: (y.take i ++ y.drop (i + 1))) := by
    have := List.perm_middle (a := y[i]) (l₁ := y.take i) (l₂ := y.drop (i + 1))
    rwa [← List.drop_eq_getElem_cons hi, List.take_append_drop] at this
  have hp2 : (y.set i o').Perm (o' :: (y.take i ++ y.drop (i + 1))) := by
    rw [List.set_eq_take_append_cons_drop, if_pos hi]
    exact List.perm_middle
  have hyi := hy2 _ (List.getElem_mem hi)
  obtain ⟨b, e, c⟩ := check_spec k (y.set i o') ⟨by simp; omega, fun o ho => by
    rcases List.mem_cons.1 (hp2.mem_iff.1 ho) with rfl | ho
    · have := hyi.ok
      exact ⟨by rw [h1]; exact this.1, by rw [h1]; exact this.2.1, h10, by unfold OkOp; rw [h2, h3]; exact this.2.2.2⟩
    · exact (hy2 o (hp.mem_iff.2 (List.mem_cons_of_mem _ ho))).ok⟩ hk
  rw [e, c.2 ((hc.wide hp (wide_step h1 h2 h3 h4 h5 h6 h7) h7 h8 h9).perm hp2.symm)]
theorem mm_ok (z : Int) : 0 ≤ mn2 (mx2 z 0) 1000 ∧ mn2 (mx2 z 0) 1000 ≤ 1000 := st1_ok z

theorem wide_plain (k : Nat) (hk : 2000 < k) (l : List T_history_Op) (n a b : Int) (hl : ∀ o ∈ l, okI .u64 o.Value) : glacierlaw18_HistoryWide k l n a b = some true := by
  unfold glacierlaw18_HistoryWide
  obtain ⟨y, hy, hy1, hy2⟩ := few_ex k l 7 (by omega) hk hl
  rw [show (7 : Int) = ((7 : Nat) : Int) from rfl, hy]
  obtain ⟨b1, e1, c1⟩ := check_spec k y (fine_of (by omega) hy2) hk
  simp only [bind_some, awake_true k hk, Bool.not_true, Bool.false_eq_true, if_false, e1]
  rw [if_neg (by simp)]
  cases b1 with
  | false => simp
  | true =>
    simp only [Bool.not_true, Bool.false_eq_true, if_false]
    by_cases h0 : n < 0
    · rw [if_pos (by simpa using h0)]; rfl
    rw [if_neg (by simpa using h0)]
    by_cases h1 : n ≥ (y.length : Int)
    · rw [show decide (n ≥ (y.length : Int)) = true by simpa using h1]; rfl
    rw [show decide (n ≥ (y.length : Int)) = false by simpa using h1]
    simp only [bind_some, Bool.false_eq_true, if_false]
    obtain ⟨i, rfl⟩ := Int.eq_ofNat_of_zero_le (show 0 ≤ n by omega)
    have hi : i < y.length := by omega
    have hf := hy2 _ (List.getElem_mem hi)
    obtain ⟨-, hs, he, -⟩ := id hf
    have ha := mm_ok a
    have hb := mm_ok b
    have hm : ∀ z : Int, 0 ≤ mx2 z 0 ∧ (mx2 z 0 = z ∨ mx2 z 0 = 0) := fun z => by unfold mx2; split <;> omega
    have hst := hm (y[i].Start - mn2 (mx2 a 0) 1000)
    simp only [gtL hi, bind_some, Int.toNat_natCast]
    rw [wr (n := y[i].Start - mn2 (mx2 a 0) 1000) (by omega)]
    simp only [gtN, List.getElem?_set_self hi, bind_some]
    by_cases h : y[i].End ≥ 0
    · rw [if_pos (by simpa using h), wr (n := y[i].End + mn2 (mx2 b 0) 1000) (by omega)]
      simp only [bind_some, List.set_set]
      rw [wide_ans k hk y i hi (T_history_Op.mk y[i].Kind y[i].Name y[i].Value (mx2 (y[i].Start - mn2 (mx2 a 0) 1000) 0) (y[i].End + mn2 (mx2 b 0) 1000) y[i].Err y[i].Got y[i].Names) hy1 hy2 (c1.1 rfl) rfl rfl rfl rfl rfl rfl (by constructor <;> intro <;> simp only at * <;> omega) (by simp only; omega) (by simp only; omega) (by simp only; omega)]
      rfl
    · rw [if_neg (by simpa using h)]
      simp only [bind_some]
      rw [wide_ans k hk y i hi (T_history_Op.mk y[i].Kind y[i].Name y[i].Value (mx2 (y[i].Start - mn2 (mx2 a 0) 1000) 0) y[i].End y[i].Err y[i].Got y[i].Names) hy1 hy2 (c1.1 rfl) rfl rfl rfl rfl rfl rfl Iff.rfl (by simp only; omega) (by simp only; omega) (by simp only; omega)]
      rfl

theorem historyWide_holds : Rows.HistoryWideSaid := historyWide_row fun l n a b h _ _ _ => ⟨2001, wide_plain 2001 (by omega) l n a b fun o ho => (h.2 o ho).2.2.1⟩
end Go.Proofs.Ytkbhnofclgibfaa
