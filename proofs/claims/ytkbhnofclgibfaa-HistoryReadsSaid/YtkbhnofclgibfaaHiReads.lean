/-
  HistoryReads: a history that can be can be without one of its Gets, Lists or Stats: for any calls and any place. Own work.
-/
import Derived.Test.YtkbhnofclgibfaaHiFZR
import Derived.Test.YtkbhnofclgibfaaZRR
namespace Go.Proofs.Ytkbhnofclgibfaa
open Go.Hx

theorem reads_plain (k : Nat) (hk : 2000 < k) (l : List T_history_Op) (n : Int) (hl : ∀ o ∈ l, okI .u64 o.Value) : glacierlaw18_HistoryReads k l n = some true := by
  unfold glacierlaw18_HistoryReads
  obtain ⟨y, hy, hy1, hy2⟩ := few_ex k l 7 (by omega) hk hl
  rw [show (7 : Int) = ((7 : Nat) : Int) from rfl, hy]
  obtain ⟨b1, e1, c1⟩ := check_spec k y (fine_of (by omega) hy2) hk
  simp only [bind_some, awake_true k hk, Bool.not_true, Bool.false_eq_true, if_false, e1]
  rw [if_neg (by simp)]
  cases b1 with
  | false => simp
  | true =>
    simp only [Bool.not_true, Bool.false_eq_true, if_false]
    by_cases h0 : n < 0
    · rw [if_pos (by simpa using h0)]; rfl
    rw [if_neg (by simpa using h0)]
    by_cases h1 : n ≥ (y.length : Int)
    · rw [if_pos (by simpa using h1)]; rfl
    rw [if_neg (by simpa using h1)]
    obtain ⟨i, rfl⟩ := Int.eq_ofNat_of_zero_le (show 0 ≤ n by omega)
    have hi : i < y.length := by omega
    rw [gtL hi]
    simp only [bind_some]
    by_cases k1 : y[i].Kind = 1
    · rw [if_pos (by simpa using k1)]; rfl
    rw [if_neg (by simpa using k1)]
    by_cases k3 : y[i].Kind = 3
    · rw [show (y[i].Kind == 3) = true by simpa using k3]; rfl
    rw [show (y[i].Kind == 3) = false by simpa using k3]
    simp only [bind_some, Bool.false_eq_true, if_false]
    have s1 : sl y ((i + 1 : Nat) : Int) (y.length : Int) = some (y.drop (i + 1)) := by unfold sl; rw [if_pos (by omega)]; simp
    have s2 : sl y 0 (i : Int) = some (y.take i) := by unfold sl; rw [if_pos (by omega)]; simp
    rw [wrN _ (by omega), s1, s2]
    simp only [bind_some]
    rw [if_pos (room_of (by simp; omega) (by omega)), if_pos (room_of (by simp; omega) (by omega))]
    simp only [List.nil_append]
    have hp : y.Perm (y[i] :: (y.take i ++ y.drop (i + 1))) := by
      have := List.perm_middle (a := y[i]) (l₁ := y.take i) (l₂ := y.drop (i + 1))
      rwa [← List.drop_eq_getElem_cons hi, List.take_append_drop] at this
    have hlen := hp.length_eq
    rw [List.length_cons] at hlen
    obtain ⟨b2, e2, c2⟩ := check_spec k (y.take i ++ y.drop (i + 1)) (fine_of (by omega) fun o ho => hy2 o (hp.mem_iff.2 (List.mem_cons_of_mem _ ho))) hk
    rw [e2]
    have : b2 = true := c2.2 ((c1.1 rfl).drop hp (step_look _ k1 k3))
    subst this
    rfl

theorem historyReads_holds : Rows.HistoryReadsSaid := historyReads_row fun l n h _ => ⟨2001, reads_plain 2001 (by omega) l n fun o ho => (h.2 o ho).2.2.1⟩
end Go.Proofs.Ytkbhnofclgibfaa
