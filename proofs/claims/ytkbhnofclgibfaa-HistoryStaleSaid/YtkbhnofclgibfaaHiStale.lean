/-
  HistoryStale: a Get behind a Put's answer is told what that Put put, or it can't be: for any two values and any gap. Own work.
-/
import Derived.Test.YtkbhnofclgibfaaHiDZS
import Derived.Test.YtkbhnofclgibfaaZSR
namespace Go.Proofs.Ytkbhnofclgibfaa
open Go.Hx

theorem stale_plain (k : Nat) (hk : 2000 < k) (x1 x2 x3 : Int) (h1 : okI .u64 x1) (h2 : okI .u64 x2) : glacierlaw18_HistoryStale k x1 x2 x3 = some true := by
  have u1 : 0 ≤ x1 ∧ x1 < 18446744073709551616 := by obtain ⟨a, b⟩ := h1; change (0 : Int) ≤ x1 at a; change x1 ≤ 18446744073709551615 at b; omega
  have u2 : 0 ≤ x2 ∧ x2 < 18446744073709551616 := by obtain ⟨a, b⟩ := h2; change (0 : Int) ≤ x2 at a; change x2 ≤ 18446744073709551615 at b; omega
  unfold glacierlaw18_HistoryStale
  rw [awake_true k hk]
  simp only [bind_some, Bool.not_true, Bool.false_eq_true, if_false]
  by_cases he : x1 = x2
  · rw [if_pos (by simpa using he)]; rfl
  rw [if_neg (by simpa using he)]
  by_cases hg : x3 < 0
  · rw [if_pos (by simpa using hg)]; rfl
  rw [if_neg (by simpa using hg)]
  by_cases hg2 : x3 > 1000
  · rw [show decide (x3 > 1000) = true by simpa using hg2]; rfl
  rw [show decide (x3 > 1000) = false by simpa using hg2]
  simp only [bind_some, Bool.false_eq_true, if_false]
  rw [wr (n := 3 + x3) (by omega), wr (n := 4 + x3) (by omega)]
  obtain ⟨b, e, h⟩ := check_spec k ([(T_history_Op.mk 1 ([97]) x1 0 1 0 0 ([])), (T_history_Op.mk 1 ([97]) x2 2 3 0 0 ([])), (T_history_Op.mk 2 ([97]) 0 (3 + x3) (4 + x3) 0 x1 ([]))])
    ⟨by simp, by simp [OkOp]; omega⟩ hk
  rw [e]
  simp only [bind_some]
  rw [if_pos (by simp)]
  simp only [bind_some]
  by_cases hz : x3 = 0
  · have hb : b = true := by
      refine h.2 (.next _ _ (.refl _) (by simp; omega) rfl ?_)
      refine .next (T_history_Op.mk 2 ([97]) 0 (3 + x3) (4 + x3) 0 x1 ([])) [T_history_Op.mk 1 ([97]) x2 2 3 0 0 ([])] (.swap ..) (by simp; omega) (by simp [step, wthA, lkA]) ?_
      exact Seq.lin ⟨by simp, rfl, trivial⟩
    subst hb hz
    rfl
  · have hb : b = false := by
      cases b with
      | false => rfl
      | true =>
        rcases (h.1 rfl).inv3 with ⟨h, -⟩ | ⟨-, -, -, h⟩ | ⟨h, -⟩ | ⟨h, -⟩
        · simp at h
        · rcases h.inv2 with ⟨h, -⟩ | ⟨-, -, h⟩ | ⟨h, -⟩
          · simp at h
          · rcases h.inv1 with h | h
            · simp at h; omega
            · simp [step, wthA, wthA2, lkA] at h
              omega
          · simp at h; omega
        · simp at h
        · simp at h; omega
    subst hb
    rw [show (x3 == 0) = false by simpa using hz]
    rfl

theorem historyStale_holds : Rows.HistoryStaleSaid := historyStale_row fun x1 x2 x3 h1 h2 _ => ⟨2001, stale_plain 2001 (by omega) x1 x2 x3 h1 h2⟩
end Go.Proofs.Ytkbhnofclgibfaa
