/-
  HistoryTurned: a history's answer does not hang on the order of its list: for any calls and any place. Own work.
-/
import Derived.Test.YtkbhnofclgibfaaHiFZT
import Derived.Test.YtkbhnofclgibfaaZTR
namespace Go.Proofs.Ytkbhnofclgibfaa
open Go.Hx

theorem turned_plain (k : Nat) (hk : 2000 < k) (l : List T_history_Op) (n : Int) (hl : ∀ o ∈ l, okI .u64 o.Value) : glacierlaw18_HistoryTurned k l n = some true := by
  unfold glacierlaw18_HistoryTurned
  obtain ⟨y, hy, hy1, hy2⟩ := few_ex k l 7 (by omega) hk hl
  rw [show (7 : Int) = ((7 : Nat) : Int) from rfl, hy]
  simp only [bind_some, awake_true k hk, Bool.not_true, Bool.false_eq_true, if_false]
  by_cases h0 : n < 0
  · rw [if_pos (by simpa using h0)]; rfl
  rw [if_neg (by simpa using h0)]
  by_cases h1 : n > (y.length : Int)
  · rw [show decide (n > (y.length : Int)) = true by simpa using h1]; rfl
  rw [show decide (n > (y.length : Int)) = false by simpa using h1]
  simp only [bind_some, Bool.false_eq_true, if_false]
  obtain ⟨i, rfl⟩ := Int.eq_ofNat_of_zero_le (show 0 ≤ n by omega)
  have hi : i ≤ y.length := by omega
  have s1 : sl y (i : Int) (y.length : Int) = some (y.drop i) := by unfold sl; rw [if_pos (by omega)]; simp
  have s2 : sl y 0 (i : Int) = some (y.take i) := by unfold sl; rw [if_pos (by omega)]; simp
  rw [s1, s2]
  simp only [bind_some]
  rw [if_pos (room_of (by simp; omega) (by omega)), if_pos (room_of (by simp; omega) (by omega))]
  simp only [bind_some, List.nil_append]
  have hp : (y.drop i ++ y.take i).Perm y := by
    have := List.perm_append_comm (l₁ := y.drop i) (l₂ := y.take i)
    rwa [List.take_append_drop] at this
  obtain ⟨b1, e1, c1⟩ := check_spec k y (fine_of (by omega) hy2) hk
  obtain ⟨b2, e2, c2⟩ := check_spec k (y.drop i ++ y.take i) (fine_of (by rw [hp.length_eq]; omega) fun o ho => hy2 o (hp.mem_iff.1 ho)) hk
  rw [e1, e2]
  simp only [bind_some]
  have : b1 = b2 := by
    rw [Bool.eq_iff_iff, c1, c2]
    exact ⟨fun h => h.perm hp.symm, fun h => h.perm hp⟩
  subst this
  simp

theorem historyTurned_holds : Rows.HistoryTurnedSaid := historyTurned_row fun l n h _ => ⟨2001, turned_plain 2001 (by omega) l n fun o ho => (h.2 o ho).2.2.1⟩
end Go.Proofs.Ytkbhnofclgibfaa
