/- For every input the law QueueSweep returns true, and the input reads as it did before: requests of one volume are taken in one sweep. Conditions: none beyond the given statement. Own work. -/
import Derived.Test.YtpmbfngmdhkpaaaQuB
import Derived.Test.YtpmbfngmdhkpaaaT4R
namespace Go.Proofs.Ytpmbfngmdhkpaaa
open Go.Hx

/-- of one volume, none passed over more often than m times, all numbers below n -/
def Fit (l : List T_queue_waiting) (m : Int) : Prop := ∀ w ∈ l, w.Req.Vol = 3 ∧ 0 ≤ w.passed ∧ w.passed ≤ m

theorem sweep_fill (x : List T_queue_Req) : ∀ (j i : Nat) (l : List T_queue_waiting), (i : Int) ≤ mn2 (x.length : Int) 8 → 8 - i < j → l.length = i → Fit l 0 → (∀ a (h : a < l.length), l[a].Req.ID = (a : Int)) →
    ∃ l', glacierlaw16_QueueSweep_l1 20 x j (i : Int) l = some l' ∧ (l'.length : Int) = mn2 (x.length : Int) 8 ∧ Fit l' 0
  | 0, i, l, _, hj, _, _, _ => by omega
  | j + 1, i, l, hi, hj, hl, hf, hid => by
    have h8 : mn2 (x.length : Int) 8 ≤ 8 ∧ mn2 (x.length : Int) 8 ≤ x.length := by unfold mn2; split <;> omega
    rw [glacierlaw16_QueueSweep_l1]
    by_cases h : (i : Int) < mn2 (x.length : Int) 8
    · rw [if_pos (by simpa using h), gtL (show i < x.length by omega), wrN i (by omega)]
      simp only [bind_some, glacierlaw16_small]
      rw [add_new 20 l _ (by omega) (by omega) (fun a ha => by rw [hid a ha]; show (a : Int) ≠ (i : Int); omega)]
      simp only [bind_some]
      refine sweep_fill x j (i + 1) _ (by omega) (by omega) (by simp [hl]) ?_ ?_
      · intro w hw
        simp only [List.mem_append, List.mem_singleton] at hw
        rcases hw with hw | rfl
        · exact hf w hw
        · exact ⟨rfl, Int.le_refl _, Int.le_refl _⟩
      · intro a ha
        by_cases haa : a < l.length
        · rw [List.getElem_append_left haa]; exact hid a haa
        · rw [List.getElem_append_right (by omega)]
          simp at ha
          simp
          omega
    · rw [if_neg (by simpa using h)]
      exact ⟨l, rfl, by omega, hf⟩

theorem sweep_take (x : List T_queue_Req) : ∀ (j i : Nat) (f t : Int) (l : List T_queue_waiting), (i : Int) + l.length = mn2 (x.length : Int) 8 → 8 - i < j → Fit l i → (f = 0 ∨ (f = 1 ∧ ∀ w ∈ l, t ≤ w.Req.At)) →
    ∃ f', glacierlaw16_QueueSweep_l2 20 x j f t (i : Int) l = some (Flow.go (f', [])) ∧ f' ≤ 1
  | 0, i, _, _, l, _, hj, _, _ => by omega
  | j + 1, i, f, t, l, hi, hj, hf, hft => by
    have h8 : mn2 (x.length : Int) 8 ≤ 8 ∧ mn2 (x.length : Int) 8 ≤ x.length := by unfold mn2; split <;> omega
    rw [glacierlaw16_QueueSweep_l2]
    by_cases h : (i : Int) < mn2 (x.length : Int) 8
    · rw [if_pos (by simpa using h), wrN i (by omega)]
      have h0 : 0 < l.length := by omega
      obtain ⟨b, hb, e, hb', hc⟩ := next_spec 20 l 3 t (by omega) (by omega) h0
      rw [e]
      simp only [bind_some]
      rw [if_neg (by simp)]
      have hb0 : l[0].passed < 8 := by have := (hf l[0] (by simp)).2.2; omega
      have hmin : ∀ a (h' : a < l.length), ah l[a].Req.At l[b].Req.At t = false := by
        rcases hc with ⟨hc, _⟩ | ⟨_, hv, hc⟩ | ⟨_, hv, _⟩
        · omega
        · exact fun a ha => (hc a ha (hf l[a] (by simp)).1).1
        · exact absurd (hf l[0] (by simp)).1 (hv 0 h0)
      have hrest : Fit (rest l b) ((i + 1 : Nat) : Int) := by
        intro w hw
        obtain ⟨a, ha, _, e1, e2⟩ := rest_mem hw
        obtain ⟨f1, f2, f3⟩ := hf l[a] (by simp)
        rw [e1]
        refine ⟨f1, ?_⟩
        rcases e2 with rfl | rfl
        · omega
        · simp only [up]; rw [wr (by omega)]; omega
      have key : ∀ (f2 : Int), (f2 = 0 ∨ (f2 = 1 ∧ ∀ w ∈ rest l b, l[b].Req.At ≤ w.Req.At)) → ∃ f', glacierlaw16_QueueSweep_l2 20 x j f2 l[b].Req.At ((i + 1 : Nat) : Int) (rest l b) = some (Flow.go (f', [])) ∧ f' ≤ 1 :=
        fun f2 hf2 => sweep_take x j (i + 1) f2 l[b].Req.At (rest l b) (by rw [rest_length hb]; omega) (by omega) hrest hf2
      by_cases hd : l[b].Req.At < t
      · rw [if_pos (by simpa using hd)]
        simp only [bind_some]
        rcases hft with rfl | ⟨_, hft⟩
        · rw [wr (by omega)]
          refine key _ (.inr ⟨rfl, fun w hw => ?_⟩)
          obtain ⟨a, ha, _, e1, _⟩ := rest_mem hw
          have := hmin a ha
          rw [Bool.eq_false_iff, Ne, ah_iff] at this
          rw [e1]; omega
        · have := hft l[b] (by simp); omega
      · rw [if_neg (by simpa using hd)]
        simp only [bind_some]
        refine key _ ?_
        rcases hft with rfl | ⟨rfl, hft⟩
        · exact .inl rfl
        · refine .inr ⟨rfl, fun w hw => ?_⟩
          obtain ⟨a, ha, _, e1, _⟩ := rest_mem hw
          have := hmin a ha
          have h2 := hft l[a] (by simp)
          rw [Bool.eq_false_iff, Ne, ah_iff] at this
          rw [e1]; omega
    · rw [if_neg (by simpa using h)]
      have : l = [] := List.eq_nil_of_length_eq_zero (by omega)
      subst this
      refine ⟨f, rfl, ?_⟩
      rcases hft with h | h <;> omega

theorem awake20 : glacierlaw16_awake 20 = some true := by decide +kernel

theorem queueSweep_plain (x0 : List T_queue_Req) (x1 : Int) : ∃ k, glacierlaw16_QueueSweep k x0 x1 = some true := by
  refine ⟨20, ?_⟩
  unfold glacierlaw16_QueueSweep
  rw [awake20]
  simp only [bind_some]
  rw [if_neg (by simp)]
  simp only [bind_some]
  by_cases hx : x1 < 0
  · rw [if_pos (by simpa using hx)]
  · rw [if_neg (by simpa using hx)]
    have h8 : mn2 (x0.length : Int) 8 ≤ 8 ∧ 0 ≤ mn2 (x0.length : Int) 8 := by unfold mn2; split <;> omega
    obtain ⟨l, e, hl, hf⟩ := sweep_fill x0 20 0 [] (by omega) (by omega) rfl (fun w h => by cases h) (fun a h => by simp at h)
    rw [show ((0 : Nat) : Int) = 0 from rfl] at e
    rw [e]
    simp only [bind_some]
    obtain ⟨f, e2, hf2⟩ := sweep_take x0 20 0 0 x1 l (by omega) (by omega) hf (.inl rfl)
    rw [show ((0 : Nat) : Int) = 0 from rfl] at e2
    rw [e2]
    simp only [bind_some]
    rw [if_pos (by simpa using hf2)]
    rfl

theorem queueSweep_holds : Rows.QueueSweepSaid := queueSweep_row fun x0 x1 _ _ => queueSweep_plain x0 x1

end Go.Proofs.Ytpmbfngmdhkpaaa
