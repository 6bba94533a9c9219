/-
  HiF: few: calls that may be checked, out of any. Own work.
-/
import Derived.Test.YtkbhnofclgibfaaHiDZC
import Derived.Test.YtkbhnofclgibfaaHxR
namespace Go.Proofs.Ytkbhnofclgibfaa
open Go.Hx

theorem tm5 (z : Int) : -5 < z.tmod 5 ∧ z.tmod 5 < 5 := by
  constructor
  · have h1 := Int.tmod_lt_of_pos (-z) (show (0 : Int) < 5 by omega)
    rw [Int.neg_tmod] at h1
    omega
  · exact Int.tmod_lt_of_pos z (by omega)
def kd (z : Int) : Int := 1 + (z.tmod 5 + 5).tmod 5
theorem kd_ok (z : Int) : 1 ≤ kd z ∧ kd z ≤ 5 := by
  have h1 := tm5 z
  unfold kd
  rw [Int.tmod_eq_emod_of_nonneg (by omega)]
  omega
theorem kd_eq (z : Int) : IntKind.i64.wrap (1 + ((IntKind.i64.wrap ((z.tmod 5) + 5)).tmod 5)) = kd z := by
  have h1 := tm5 z
  have h2 := tm5 (z.tmod 5 + 5)
  rw [wr (n := z.tmod 5 + 5) (by omega), wr (by omega)]
  rfl
def st1 (z : Int) : Int := mn2 (mx2 z 0) 1000
def en1 (s e : Int) : Int := if e ≥ 0 then mx2 (mn2 e 2000) s else e
theorem st1_ok (z : Int) : 0 ≤ st1 z ∧ st1 z ≤ 1000 := by unfold st1 mn2 mx2; split <;> split <;> omega
theorem en1_ok (s e : Int) (hs : 0 ≤ s ∧ s ≤ 1000) : (en1 s e < 0 ∨ s ≤ en1 s e) ∧ en1 s e ≤ 2000 := by
  unfold en1
  split
  · unfold mn2 mx2; split <;> split <;> omega
  · omega
def fw (o : T_history_Op) : T_history_Op := ⟨kd o.Kind, o.Name.take 2, o.Value, st1 o.Start, en1 (st1 o.Start) o.End, o.Err, o.Got, o.Names.take 4⟩
theorem cut_eq (k : Nat) (s : List UInt8) : glacierlaw01_Cut k s 2 = some (s.take 2) := by
  unfold glacierlaw01_Cut
  by_cases h : (s.length : Int) > 2
  · rw [if_pos (by simpa using h)]
    unfold sl
    rw [if_pos (by omega)]
    simp
  · rw [if_neg (by simpa using h), List.take_of_length_le (by omega)]
theorem few_loop (k : Nat) (l : List T_history_Op) (n : Nat) (hn : n ≤ 20) : ∀ (j i : Nat) (acc : List T_history_Op), i ≤ n → i ≤ l.length → n - i < j → acc.length = i →
    glacierlaw18_few_l1 k l (n : Int) j acc (i : Int) = some (acc ++ ((l.take n).drop i).map fw)
  | 0, _, _, _, _, hj, _ => by omega
  | j + 1, i, acc, hi, hil, hj, ha => by
    rw [glacierlaw18_few_l1]
    by_cases h : i < l.length
    · by_cases h2 : i < n
      · rw [if_pos (by simpa using h)]
        simp only [bind_some]
        rw [if_pos (by simpa using h2), gtL h]
        simp only [bind_some]
        rw [cut_eq]
        simp only [bind_some]
        have h3 : (if decide (l[i].End ≥ 0) = true then some (mx2 (mn2 l[i].End 2000) (mn2 (mx2 l[i].Start 0) 1000)) else some l[i].End) = some (en1 (st1 l[i].Start) l[i].End) := by
          unfold en1 st1
          by_cases e : l[i].End ≥ 0
          · rw [if_pos (by simpa using e), if_pos e]
          · rw [if_neg (by simpa using e), if_neg e]
        rw [h3]
        simp only [bind_some]
        have h4 : sl l[i].Names 0 (mn2 (l[i].Names.length : Int) 4) = some (l[i].Names.take 4) := by
          unfold sl mn2
          by_cases e : (4 : Int) < (l[i].Names.length : Int)
          · rw [if_pos e, if_pos (by omega)]; simp
          · rw [if_neg e, if_pos (by omega), List.take_of_length_le (l := l[i].Names) (i := 4) (by omega)]
            simp
        rw [h4]
        simp only [bind_some]
        rw [if_pos (room_of (by simp; omega) (by omega)), if_pos (room_of (by simp; omega) (by omega)), kd_eq, wrN _ (by omega), few_loop k l n hn j (i + 1) _ (by omega) (by omega) (by omega) (by simp; omega)]
        have h5 : i < (l.take n).length := by simp; omega
        rw [List.drop_eq_getElem_cons h5]
        simp [fw, st1]
      · rw [if_pos (by simpa using h)]
        simp only [bind_some]
        rw [if_neg (by simpa using h2), List.drop_eq_nil_of_le (by simp; omega)]
        simp
    · rw [if_neg (by simpa using h)]
      simp only [bind_some, Bool.false_eq_true, if_false]
      rw [List.drop_eq_nil_of_le (by simp; omega)]
      simp
theorem few_spec (k : Nat) (l : List T_history_Op) (n : Nat) (hn : n ≤ 20) (hk : 2000 < k) : glacierlaw18_few k l (n : Int) = some ((l.take n).map fw) := by
  unfold glacierlaw18_few
  rw [show (0 : Int) = ((0 : Nat) : Int) from rfl, few_loop k l n hn k 0 [] (by omega) (by omega) (by omega) rfl]
  rfl
theorem u64_ok {x : Int} (h : okI .u64 x) : 0 ≤ x ∧ x < 18446744073709551616 := by
  obtain ⟨a, b⟩ := h
  change (0 : Int) ≤ x at a
  change x ≤ 18446744073709551615 at b
  omega
def Few (o : T_history_Op) : Prop := (1 ≤ o.Kind ∧ o.Kind ≤ 5) ∧ (0 ≤ o.Start ∧ o.Start ≤ 1000) ∧ ((o.End < 0 ∨ o.Start ≤ o.End) ∧ o.End ≤ 2000) ∧ o.Name.length ≤ 2 ∧ 0 ≤ o.Value ∧ o.Value < 18446744073709551616 ∧ o.Names.length ≤ 4
theorem fw_few (o : T_history_Op) (h : okI .u64 o.Value) : Few (fw o) :=
  ⟨kd_ok _, st1_ok _, en1_ok _ _ (st1_ok _), by simp [fw]; omega, (u64_ok h).1, (u64_ok h).2, by simp [fw]; omega⟩
theorem Few.ok {o : T_history_Op} (h : Few o) : 1 ≤ o.Kind ∧ o.Kind ≤ 5 ∧ (o.End < 0 ∨ o.Start ≤ o.End) ∧ OkOp o := by
  obtain ⟨h1, h2, h3, h4, h5, h6, h7⟩ := h
  exact ⟨h1.1, h1.2, h3.1, by omega, h5, h6⟩
theorem fine_of {l : List T_history_Op} (h : l.length ≤ 20) (hf : ∀ o ∈ l, Few o) : Fine l := ⟨h, fun o ho => (hf o ho).ok⟩
/-- out of any calls: at most n fine ones -/
theorem few_ex (k : Nat) (l : List T_history_Op) (n : Nat) (hn : n ≤ 20) (hk : 2000 < k) (h : ∀ o ∈ l, okI .u64 o.Value) : ∃ y, glacierlaw18_few k l (n : Int) = some y ∧ y.length ≤ n ∧ ∀ o ∈ y, Few o := by
  refine ⟨_, few_spec k l n hn hk, by simp; omega, fun o ho => ?_⟩
  obtain ⟨p, hp, rfl⟩ := List.mem_map.1 ho
  exact fw_few p (h p (List.mem_of_mem_take hp))
end Go.Proofs.Ytkbhnofclgibfaa
