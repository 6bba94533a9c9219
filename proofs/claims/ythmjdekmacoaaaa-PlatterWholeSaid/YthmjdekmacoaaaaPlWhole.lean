/- PlatterWhole: a file that was written anew has behind a crash just that, or what it had. Conditions: none (every input). Own work. -/
import Derived.Test.YthmjdekmacoaaaaPlDPW
import Derived.Test.YthmjdekmacoaaaaPWR
namespace Go.Proofs.Ythmjdekmacoaaaa
open Go.Hx

theorem new2 (k : Nat) : platter_New k 1000 = some (1000, 0, false, 0, []) := rfl

theorem whole_end (old w s : List UInt8) 
    (h : s = old ∨ s = w ∨ (old.length ≤ s.length ∧ s.length ≤ w.length ∧ old.length ≤ w.length ∧ w.take old.length = old)) (hq : ∀ _ : w.take old.length = old, old.length ≤ w.length → old.length ≤ s.length ∧ s.length ≤ w.length) :
    (Option.bind (if decide ((w.length : Int) ≥ (old.length : Int)) = true then (Option.bind (sl w 0 (old.length : Int)) fun x5 => some ((sEq x5 old))) else some (false)) fun y24 => (if y24 = true then (Option.bind (if (((0 : Int) == 0) = true) then (if decide ((s.length : Int) ≥ (old.length : Int)) = true then some (decide ((s.length : Int) ≤ (w.length : Int))) else some (false)) else some (false)) fun y25 => some (y25)) else (Option.bind (if (((0 : Int) == 0) = true) then (if (sEq s w) = true then some (true) else some ((sEq s old))) else some (false)) fun y26 => some (y26)))) = some true := by
  have two : ¬ (old.length ≤ w.length ∧ w.take old.length = old) → (Option.bind (if (((0 : Int) == 0) = true) then (if (sEq s w) = true then some (true) else some ((sEq s old))) else some (false)) fun y26 => some (y26)) = some true := fun hn => by
    rw [if_pos (by simp)]
    by_cases h1 : s = w
    · rw [if_pos (sEq_iff.2 h1)]; rfl
    · rw [sEq_ne h1, if_neg (by simp)]
      rcases h with h | h | ⟨_, _, h3, h4⟩
      · rw [sEq_iff.2 h]; rfl
      · exact absurd h h1
      · exact absurd ⟨h3, h4⟩ hn
  by_cases hl : old.length ≤ w.length
  · rw [if_pos (by simpa using hl), sl0 _ _ hl]
    simp only [bind_some]
    by_cases hp : w.take old.length = old
    · rw [if_pos (sEq_iff.2 hp), if_pos (by simp)]
      obtain ⟨q1, q2⟩ := hq hp hl
      rw [if_pos (by simpa using q1)]
      simp only [bind_some]
      congr 1
      simpa using q2
    · rw [if_neg (fun h => hp (sEq_iff.1 h))]
      exact two fun h => hp h.2
  · rw [if_neg (by simpa using hl)]
    simp only [bind_some]
    rw [if_neg (by simp)]
    exact two fun h => hl h.1

theorem whole_main (k : Nat) (hk : 20 < k) (hak : glacierlaw04_awake k = some true) (x1 x2 : List UInt8) (c : Int) : glacierlaw04_PlatterWhole k x1 x2 c = some true := by
  unfold glacierlaw04_PlatterWhole
  obtain ⟨old, h1, l1⟩ := cut_at k x1 60
  obtain ⟨w, h2, l2⟩ := cut_at k x2 60
  rw [show (60 : Int) = ((60 : Nat) : Int) from rfl, h1]
  simp only [bind_some]
  rw [h2]
  simp only [bind_some, new2, hak]
  have ha : ([97] : List UInt8) ≠ [] := by simp
  rw [if_neg (by simp), write0 k 1000 ha (by omega) (by omega)]
  simp only [bind_some]
  have w1 : wt ⟨⟨true, old⟩, ⟨false, []⟩⟩ = old.length := by simp [wt]
  have w2 : wt ⟨⟨true, old⟩, ⟨true, old⟩⟩ = old.length := by simp [wt]
  have w3 : wt ⟨⟨true, w⟩, ⟨true, old⟩⟩ = max w.length old.length := rfl
  rw [if_neg (by simp), sync_one k 1000 _ (by omega) (.inr rfl) (by simp) (by rw [w1]; omega) (by omega), w1]
  simp only [bind_some]
  rw [if_neg (by simp), show lone [97] ⟨true, old⟩ = [([97], some ⟨⟨true, old⟩, ⟨true, old⟩⟩)] from rfl, show (old.length : Int) - ((old.length : Int) - (old.length : Int)) = ((wt ⟨⟨true, old⟩, ⟨true, old⟩⟩ : Nat) : Int) from by rw [w2]; omega,
    write_one k 1000 ha (by omega) (by rw [w2]; omega) (by rw [w3]; omega), w3]
  simp only [bind_some]
  rw [if_neg (by simp)]
  by_cases hne : (⟨true, w⟩ : T_platter_text) = ⟨true, old⟩
  · have he : w = old := congrArg (fun t : T_platter_text => t.s) hne
    subst he
    rw [crash_same k 1000 _ (by omega) 0 [c] (by simp) rfl (by rw [w2]; omega)]
    simp only [bind_some]
    rw [read_at k 1000 _ (f := 0) (by omega) (som1 _ _), at1]
    simp only [bind_some, if_true]
    exact whole_end w w w (.inl rfl) (fun _ _ => ⟨Nat.le_refl _, Nat.le_refl _⟩)
  · have hs : ∃ s, platter_file_left k (some ⟨⟨true, w⟩, ⟨true, old⟩⟩) c = some ⟨true, s⟩ ∧ s.length ≤ max w.length old.length ∧ (s = old ∨ s = w ∨ (old.length ≤ s.length ∧ s.length ≤ w.length ∧ old.length ≤ w.length ∧ w.take old.length = old)) ∧ (w.take old.length = old → old.length ≤ w.length → old.length ≤ s.length ∧ s.length ≤ w.length) := by
      by_cases hb : begins ⟨⟨true, w⟩, ⟨true, old⟩⟩
      · have hleft := left_begins k hne hb (by simp only []; omega) c
        obtain ⟨b1, b2, b3⟩ := hb
        simp only at b2 b3
        have p1 := Int.emod_nonneg c (show (w.length : Int) - old.length + 1 ≠ 0 by omega)
        have p2 := Int.emod_lt_of_pos c (show 0 < (w.length : Int) - old.length + 1 by omega)
        by_cases h0 : c % ((w.length : Int) - old.length + 1) = 0
        · rw [if_pos h0] at hleft
          exact ⟨old, hleft, by omega, .inl rfl, fun _ _ => ⟨by omega, by omega⟩⟩
        · rw [if_neg h0] at hleft
          refine ⟨_, hleft, ?_, .inr (.inr ⟨?_, ?_, by omega, b3⟩), fun _ _ => ⟨?_, ?_⟩⟩ <;> (simp only [List.length_take]; omega)
      · have hleft := left_other k hne hb c
        by_cases h0 : c % 2 = 0
        · rw [if_pos h0] at hleft
          exact ⟨old, hleft, by omega, .inl rfl, fun _ _ => ⟨by omega, by omega⟩⟩
        · rw [if_neg h0] at hleft
          exact ⟨w, hleft, by omega, .inr (.inl rfl), fun _ _ => ⟨by omega, by omega⟩⟩
    obtain ⟨s, hs1, hs2, hs3, hs4⟩ := hs
    rw [crash_one k 1000 _ (by omega) 0 [c] (by simp) hne (c := c) rfl hs1 (by rw [w3]; exact hs2) (by rw [w3]; omega) (by omega), show lone [97] ⟨true, s⟩ = [([97], some ⟨⟨true, s⟩, ⟨true, s⟩⟩)] from rfl]
    simp only [bind_some]
    rw [read_at k 1000 _ (f := 0) (by omega) (som1 _ _), at1]
    simp only [bind_some, if_true]
    exact whole_end old w s hs3 hs4

theorem whole_plain (x1 x2 : List UInt8) (c : Int) : ∃ k, glacierlaw04_PlatterWhole k x1 x2 c = some true := ⟨100, whole_main 100 (by omega) awake_ok x1 x2 c⟩
theorem platterWhole_holds : Rows.PlatterWholeSaid := platterWhole_row fun x0 x1 x2 _ _ _ => whole_plain x0 x1 x2
end Go.Proofs.Ythmjdekmacoaaaa
