/- PlatterTorn: behind a crash a file has what it had, and of what was appended since a beginning, as long as the choice says. Conditions: none (every input). Own work. -/
import Derived.Test.YthmjdekmacoaaaaPlDPT
import Derived.Test.YthmjdekmacoaaaaPTR
namespace Go.Proofs.Ythmjdekmacoaaaa
open Go.Hx

theorem new2 (k : Nat) : platter_New k 1000 = some (1000, 0, false, 0, []) := rfl

theorem torn_end (old more s : List UInt8) (c : Int) (ho : old.length ≤ 60) (hm : more.length ≤ 60) (hs : s = (old ++ more).take (old.length + (c % (more.length + 1)).toNat)) :
    (Option.bind (cat old more) fun x6 => (Option.bind (if (((0 : Int) != 0) = true) then some (true) else (if decide ((s.length : Int) < (old.length : Int)) = true then some (true) else (if decide ((s.length : Int) > (x6.length : Int)) = true then some (true) else (Option.bind (sl x6 0 (s.length : Int)) fun x7 => some ((!sEq x7 s)))))) fun y23 => (if y23 = true then some (false) else (Option.bind (if decide (c < 0) = true then some (true) else (if decide (c > (more.length : Int)) = true then some (true) else some (((s.length : Int) == (IntKind.i64.wrap ((old.length : Int) + c)))))) fun y24 => some (y24))))) = some true := by
  have p1 := Int.emod_nonneg c (show (more.length : Int) + 1 ≠ 0 by omega)
  have p2 := Int.emod_lt_of_pos c (show 0 < (more.length : Int) + 1 by omega)
  have hl : s.length = old.length + (c % (more.length + 1)).toNat := by rw [hs]; simp only [List.length_take, List.length_append]; omega
  have hpre : (old ++ more).take s.length = s := by rw [hl]; exact hs.symm
  rw [cat_of (by omega)]
  simp only [bind_some]
  rw [if_neg (by simp), if_neg (by simp; omega), if_neg (by simp; omega), sl0 _ _ (by simp only [List.length_append]; omega), hpre]
  simp only [bind_some, sEq_self, Bool.not_true]
  rw [if_neg (by simp)]
  by_cases h0 : c < 0
  · rw [if_pos (by simpa using h0)]; rfl
  · rw [if_neg (by simpa using h0)]
    by_cases h1 : c > (more.length : Int)
    · rw [if_pos (by simpa using h1)]; rfl
    · rw [if_neg (by simpa using h1)]
      have : c % ((more.length : Int) + 1) = c := Int.emod_eq_of_lt (by omega) (by omega)
      rw [this] at hl
      rw [wr (by omega)]
      simp only [bind_some]
      congr 1
      rw [beq_iff_eq]
      omega

theorem torn_main (k : Nat) (hk : 20 < k) (hak : glacierlaw04_awake k = some true) (x1 x2 : List UInt8) (c : Int) : glacierlaw04_PlatterTorn k x1 x2 c = some true := by
  unfold glacierlaw04_PlatterTorn
  obtain ⟨old, h1, l1⟩ := cut_at k x1 60
  obtain ⟨more, h2, l2⟩ := cut_at k x2 60
  rw [show (60 : Int) = ((60 : Nat) : Int) from rfl, h1]
  simp only [bind_some]
  rw [h2]
  simp only [bind_some, new2, hak]
  have ha : ([97] : List UInt8) ≠ [] := by simp
  rw [if_neg (by simp), write0 k 1000 ha (by omega) (by omega)]
  simp only [bind_some]
  have w1 : wt ⟨⟨true, old⟩, ⟨false, []⟩⟩ = old.length := by simp [wt]
  have w2 : wt ⟨⟨true, old⟩, ⟨true, old⟩⟩ = old.length := by simp [wt]
  have w3 : wt ⟨⟨true, old ++ more⟩, ⟨true, old⟩⟩ = old.length + more.length := by simp only [wt, List.length_append]; omega
  rw [if_neg (by simp), sync_one k 1000 _ (by omega) (.inl rfl) (by simp) (by rw [w1]; omega) (by omega), w1]
  simp only [bind_some]
  rw [if_neg (by simp), show lone [97] ⟨true, old⟩ = [([97], some ⟨⟨true, old⟩, ⟨true, old⟩⟩)] from rfl, show (old.length : Int) - ((old.length : Int) - (old.length : Int)) = ((wt ⟨⟨true, old⟩, ⟨true, old⟩⟩ : Nat) : Int) from by rw [w2]; omega,
    append_one k 1000 ha (by simp only []; omega) (by omega) (by rw [w2]; omega) (by rw [w3]; omega), w3]
  simp only [bind_some]
  rw [if_neg (by simp)]
  by_cases hmo : more = []
  · subst hmo
    rw [List.append_nil] at *
    rw [crash_same k 1000 _ (by omega) 0 [c] (by simp) rfl (by rw [w2]; omega)]
    simp only [bind_some]
    rw [read_at k 1000 _ (f := 0) (by omega) (som1 _ _), at1]
    simp only [bind_some, if_true]
    have := torn_end old [] old c l1 (by simp) (by simp)
    exact this
  · have hpos : 0 < more.length := List.length_pos_iff.2 hmo
    have hne : (⟨true, old ++ more⟩ : T_platter_text) ≠ ⟨true, old⟩ := fun h => by
      have h2 := congrArg (fun t : T_platter_text => t.s.length) h
      simp only [List.length_append] at h2
      omega
    have hb : begins ⟨⟨true, old ++ more⟩, ⟨true, old⟩⟩ := ⟨rfl, by simp only [List.length_append]; omega, by simp⟩
    have hleft := left_begins k hne hb (by simp only [List.length_append]; omega) c
    simp only [List.length_append] at hleft
    rw [show ((old.length + more.length : Nat) : Int) - (old.length : Int) + 1 = (more.length : Int) + 1 by omega] at hleft
    have p1 := Int.emod_nonneg c (show (more.length : Int) + 1 ≠ 0 by omega)
    have p2 := Int.emod_lt_of_pos c (show 0 < (more.length : Int) + 1 by omega)
    have hs : ∃ s, platter_file_left k (some ⟨⟨true, old ++ more⟩, ⟨true, old⟩⟩) c = some ⟨true, s⟩ ∧ s = (old ++ more).take (old.length + (c % (more.length + 1)).toNat) := by
      by_cases h0 : c % ((more.length : Int) + 1) = 0
      · rw [if_pos h0] at hleft
        refine ⟨old, hleft, ?_⟩
        rw [h0]; simp
      · rw [if_neg h0] at hleft
        exact ⟨_, hleft, rfl⟩
    obtain ⟨s, hs1, hs2⟩ := hs
    have hsl : s.length ≤ old.length + more.length := by rw [hs2]; simp only [List.length_take, List.length_append]; omega
    rw [crash_one k 1000 _ (by omega) 0 [c] (by simp) hne (c := c) rfl hs1 (by rw [w3]; exact hsl) (by rw [w3]; omega) (by omega), show lone [97] ⟨true, s⟩ = [([97], some ⟨⟨true, s⟩, ⟨true, s⟩⟩)] from rfl]
    simp only [bind_some]
    rw [read_at k 1000 _ (f := 0) (by omega) (som1 _ _), at1]
    simp only [bind_some, if_true]
    exact torn_end old more s c l1 l2 hs2

theorem torn_plain (x1 x2 : List UInt8) (c : Int) : ∃ k, glacierlaw04_PlatterTorn k x1 x2 c = some true := ⟨100, torn_main 100 (by omega) awake_ok x1 x2 c⟩
theorem platterTorn_holds : Rows.PlatterTornSaid := platterTorn_row fun x0 x1 x2 _ _ _ => torn_plain x0 x1 x2
end Go.Proofs.Ythmjdekmacoaaaa
