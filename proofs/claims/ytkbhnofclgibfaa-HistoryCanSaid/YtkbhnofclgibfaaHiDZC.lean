/-
  HiD: histories of two and of three calls; awake. Own work.
-/
import Derived.Test.YtkbhnofclgibfaaHiCZC
namespace Go.Proofs.Ytkbhnofclgibfaa
open Go.Hx

section
variable {O W : Type} {step : O → W → W × Bool} {en st : O → Int}
theorem Lin.inv1 {a : O} {w : W} (h : Lin step en st [a] w) : en a < 0 ∨ (step a w).2 = true := by
  cases h with
  | over h => exact .inl (h a (by simp))
  | next o s hp hb ht hn =>
    have : o = a := by have := hp.mem_iff.2 (List.mem_cons_self (a := o) (l := s)); simpa using this
    subst this
    exact .inr ht
theorem Lin.inv2 {a b : O} {w : W} (h : Lin step en st [a, b] w) : (en a < 0 ∧ en b < 0) ∨
    ((en b < 0 ∨ st a ≤ en b) ∧ (step a w).2 = true ∧ Lin step en st [b] (step a w).1) ∨ ((en a < 0 ∨ st b ≤ en a) ∧ (step b w).2 = true ∧ Lin step en st [a] (step b w).1) := by
  cases h with
  | over h => exact .inl ⟨h a (by simp), h b (by simp)⟩
  | next o s hp hb ht hn =>
    rcases perm_cases hp.symm with ⟨rfl, h1⟩ | ⟨z, h1, h2⟩
    · exact .inr (.inl ⟨hb b (h1.mem_iff.2 (by simp)), ht, hn.perm h1⟩)
    · rcases perm_cases h2.symm with ⟨rfl, h3⟩ | ⟨z', h3, h4⟩
      · have h5 : s.Perm [a] := h1.trans (h3.cons a)
        exact .inr (.inr ⟨hb a (h5.mem_iff.2 (by simp)), ht, hn.perm h5⟩)
      · have := h4.length_eq; simp at this
theorem Lin.inv3 {a b c : O} {w : W} (h : Lin step en st [a, b, c] w) : (en a < 0 ∧ en b < 0 ∧ en c < 0) ∨
    ((en b < 0 ∨ st a ≤ en b) ∧ (en c < 0 ∨ st a ≤ en c) ∧ (step a w).2 = true ∧ Lin step en st [b, c] (step a w).1) ∨
    ((en a < 0 ∨ st b ≤ en a) ∧ (en c < 0 ∨ st b ≤ en c) ∧ (step b w).2 = true ∧ Lin step en st [a, c] (step b w).1) ∨
    ((en a < 0 ∨ st c ≤ en a) ∧ (en b < 0 ∨ st c ≤ en b) ∧ (step c w).2 = true ∧ Lin step en st [a, b] (step c w).1) := by
  cases h with
  | over h => exact .inl ⟨h a (by simp), h b (by simp), h c (by simp)⟩
  | next o s hp hb ht hn =>
    rcases perm_cases hp.symm with ⟨rfl, h1⟩ | ⟨z, h1, h2⟩
    · exact .inr (.inl ⟨hb b (h1.mem_iff.2 (by simp)), hb c (h1.mem_iff.2 (by simp)), ht, hn.perm h1⟩)
    · rcases perm_cases h2.symm with ⟨rfl, h3⟩ | ⟨z', h3, h4⟩
      · have h5 : s.Perm [a, c] := h1.trans (h3.cons a)
        exact .inr (.inr (.inl ⟨hb a (h5.mem_iff.2 (by simp)), hb c (h5.mem_iff.2 (by simp)), ht, hn.perm h5⟩))
      · rcases perm_cases h4.symm with ⟨rfl, h6⟩ | ⟨z2, h6, h7⟩
        · have h5 : s.Perm [a, b] := h1.trans ((h3.trans (h6.cons b)).cons a)
          exact .inr (.inr (.inr ⟨hb a (h5.mem_iff.2 (by simp)), hb b (h5.mem_iff.2 (by simp)), ht, hn.perm h5⟩))
        · have := h7.length_eq; simp at this
end

abbrev nA : List UInt8 := [97]
theorem wthA (v : Int) : wth nA v [] = [⟨nA, v⟩] := rfl
theorem wthA2 (v v' : Int) : wth nA v [⟨nA, v'⟩] = [⟨nA, v⟩] := by simp [wth, sLt_irr]
theorem lkA (v : Int) : lk nA [⟨nA, v⟩] = some v := by simp [lk]

theorem awake_true (k : Nat) (hk : 2000 < k) : glacierlaw18_awake k = some true := by
  obtain ⟨b1, e1, h1⟩ := check_spec k ([(T_history_Op.mk 1 ([97]) 1 0 3 0 0 ([])), (T_history_Op.mk 2 ([97]) 0 1 2 0 1 ([]))]) ⟨by simp, by simp [OkOp]⟩ hk
  obtain ⟨b2, e2, h2⟩ := check_spec k ([(T_history_Op.mk 1 ([97]) 1 0 3 0 0 ([])), (T_history_Op.mk 2 ([97]) 0 1 2 5 0 ([]))]) ⟨by simp, by simp [OkOp]⟩ hk
  obtain ⟨b3, e3, h3⟩ := check_spec k ([(T_history_Op.mk 1 ([97]) 1 0 3 0 0 ([])), (T_history_Op.mk 2 ([97]) 0 4 5 5 0 ([]))]) ⟨by simp, by simp [OkOp]⟩ hk
  have r1 : b1 = true := h1.2 (Seq.lin ⟨by simp, rfl, by simp, by simp [step, wthA, lkA], trivial⟩)
  have r2 : b2 = true := by
    refine h2.2 (.next (T_history_Op.mk 2 ([97]) 0 1 2 5 0 ([])) [T_history_Op.mk 1 ([97]) 1 0 3 0 0 ([])] (.swap ..) (by simp) rfl ?_)
    exact Seq.lin ⟨by simp, rfl, trivial⟩
  have r3 : b3 = false := by
    cases b3 with
    | false => rfl
    | true =>
      rcases (h3.1 rfl).inv2 with ⟨h, -⟩ | ⟨-, -, h⟩ | ⟨h, -⟩
      · simp at h
      · rcases h.inv1 with h | h
        · simp at h
        · simp [step, wthA, lkA] at h
      · simp at h
  subst r1 r2 r3
  unfold glacierlaw18_awake
  rw [e1, e2, e3]
  rfl
end Go.Proofs.Ytkbhnofclgibfaa
