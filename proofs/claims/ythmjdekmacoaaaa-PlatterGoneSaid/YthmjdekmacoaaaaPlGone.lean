/- PlatterGone: a file that was removed and synced is gone for good; one that was not synced is there again, or gone. Conditions: none (every input). Own work. -/
import Derived.Test.YthmjdekmacoaaaaPlDPG
import Derived.Test.YthmjdekmacoaaaaPGR
namespace Go.Proofs.Ythmjdekmacoaaaa
open Go.Hx

theorem new2 (k : Nat) : platter_New k 1000 = some (1000, 0, false, 0, []) := rfl

theorem remove_one (k : Nat) (hk : 2 < k) (room : Int) {a : List UInt8} {f : T_platter_file} (hth : f.now.there = true) (hr : room ≤ 1000000) (h1 : (wt f : Int) ≤ room) :
    platter_Disk_Remove k room (wt f : Int) false 0 [(a, some f)] [a] = some (0, (wt ⟨⟨false, []⟩, f.safe⟩ : Int), 0, [(a, some ⟨⟨false, []⟩, f.safe⟩)]) := by
  obtain ⟨j, hj⟩ : ∃ j, k = j + 1 + 1 := ⟨k - 2, by omega⟩
  have l1 : platter_Disk_Remove_l1 k room (wt f : Int) false [(a, some f)] [a] (0, 0) k 0 = some (Flow.go ()) := by
    have e : platter_Disk_Remove_l1 k room (wt f : Int) false [(a, some f)] [a] (0, 0) (j + 1 + 1) 0 = some (Flow.go ()) := by
      rw [platter_Disk_Remove_l1, if_pos (by simp), show gt [a] (0 : Int) = some a from rfl]
      simp only [bind_some]
      rw [get_at k room _ false 0 (som1 a f), at1]
      simp only [bind_some]
      rw [if_neg (by simp [hth]), platter_Disk_Remove_l1, if_neg (by rw [wr (by omega)]; simp)]
    rw [← hj] at e
    exact e
  have l2 : platter_Disk_Remove_l2 k room false [a] (0, 0) k 0 (wt f : Int) [(a, some f)] = some (Flow.go ((wt ⟨⟨false, []⟩, f.safe⟩ : Int), [(a, some ⟨⟨false, []⟩, f.safe⟩)])) := by
    have e : platter_Disk_Remove_l2 k room false [a] (0, 0) (j + 1 + 1) 0 (wt f : Int) [(a, some f)] = some (Flow.go ((wt ⟨⟨false, []⟩, f.safe⟩ : Int), [(a, some ⟨⟨false, []⟩, f.safe⟩)])) := by
      rw [platter_Disk_Remove_l2, if_pos (by simp), show gt [a] (0 : Int) = some a from rfl]
      simp only [bind_some]
      rw [put_one k room 0 hr h1 (by unfold wt at h1 ⊢; simp only [List.length_nil]; omega)]
      simp only [bind_some]
      rw [if_neg (by simp), platter_Disk_Remove_l2, if_neg (by rw [wr (by omega)]; simp)]
    rw [← hj] at e
    exact e
  unfold platter_Disk_Remove
  rw [try0 k room _ (by omega)]
  simp only [bind_some]
  rw [if_neg (by simp), l1]
  simp only [bind_some]
  rw [l2]
  rfl

theorem gone_main (k : Nat) (hk : 20 < k) (hak : glacierlaw04_awake k = some true) (x1 : List UInt8) (sy : Bool) (ch : List Int) : glacierlaw04_PlatterGone k x1 sy ch = some true := by
  unfold glacierlaw04_PlatterGone
  obtain ⟨s, h1, l1⟩ := cut_at k x1 60
  rw [show (60 : Int) = ((60 : Nat) : Int) from rfl, h1]
  simp only [bind_some, new2, hak]
  have ha : ([97] : List UInt8) ≠ [] := by simp
  rw [if_neg (by simp), write0 k 1000 ha (by omega) (by omega)]
  simp only [bind_some]
  have w1 : wt ⟨⟨true, s⟩, ⟨false, []⟩⟩ = s.length := by simp [wt]
  have w2 : wt ⟨⟨true, s⟩, ⟨true, s⟩⟩ = s.length := by simp [wt]
  have w3 : wt ⟨⟨false, []⟩, ⟨true, s⟩⟩ = s.length := by simp [wt]
  rw [if_neg (by simp), sync_one k 1000 _ (by omega) (.inl rfl) (by simp) (by rw [w1]; omega) (by omega), w1]
  simp only [bind_some]
  rw [if_neg (by simp), show lone [97] ⟨true, s⟩ = [([97], some ⟨⟨true, s⟩, ⟨true, s⟩⟩)] from rfl, show (s.length : Int) - ((s.length : Int) - (s.length : Int)) = ((wt ⟨⟨true, s⟩, ⟨true, s⟩⟩ : Nat) : Int) from by rw [w2]; omega,
    remove_one k (by omega) 1000 rfl (by omega) (by rw [w2]; omega), w3]
  simp only [bind_some]
  rw [if_neg (by simp)]
  have hempty : ∀ (u : Int), platter_Disk_Crash k 1000 u false 0 [] ch = some (u, []) := fun u => by
    obtain ⟨u', M, e1, _, _, _, e5⟩ := crash_at k 1000 u 0 ch (by omega) (WF.nil 0) (by omega) (by omega)
    obtain ⟨h1, h2⟩ := e5 fun n f hf => by cases hf
    rw [e1, h1, h2]
  have hread0 : ∀ (u : Int), platter_Disk_Read k 1000 u false 0 [] [97] = some ([], 5, 0) := fun u => by
    rw [read_at k 1000 u (f := 0) (by omega) Som.nil, fileAt_none rfl]; rfl
  cases sy with
  | true =>
    rw [if_pos rfl, sync_one k 1000 _ (by omega) (.inr rfl) (by simp) (by rw [w3]; simp) (by omega), w3]
    simp only [bind_some]
    rw [if_neg (by simp), show lone [97] ⟨false, []⟩ = [] from rfl, hempty]
    simp only [bind_some]
    rw [hread0]
    simp only [bind_some]
    rw [if_pos trivial, if_pos (by simp)]
    simp only [meter_Meter_Used, bind_some]
    congr 1
    simp
  | false =>
    rw [if_neg (by simp)]
    simp only [bind_some]
    rw [if_neg (by simp)]
    have hne : (⟨false, []⟩ : T_platter_text) ≠ ⟨true, s⟩ := fun h => by
      have := congrArg (fun t : T_platter_text => t.there) h
      cases this
    have hb : ¬ begins ⟨⟨false, []⟩, ⟨true, s⟩⟩ := fun h => by cases h.1
    have hleft := left_other k hne hb ((ch[0]?).getD 0)
    by_cases h0 : (ch[0]?).getD 0 % 2 = 0
    · rw [if_pos h0] at hleft
      rw [crash_one k 1000 _ (by omega) 0 ch (by simp) hne rfl hleft (by rw [w3]; exact Nat.le_refl _) (by rw [w3]; simp) (by omega), show lone [97] ⟨true, s⟩ = [([97], some ⟨⟨true, s⟩, ⟨true, s⟩⟩)] from rfl]
      simp only [bind_some]
      rw [read_at k 1000 _ (f := 0) (by omega) (som1 _ _), at1]
      simp only [bind_some, if_true]
      rw [if_neg (by simp), if_neg (by simp), if_pos (by simp), sEq_self]
      rfl
    · rw [if_neg h0] at hleft
      rw [crash_one k 1000 _ (by omega) 0 ch (by simp) hne rfl hleft (by simp) (by rw [w3]; simp) (by omega), show lone [97] ⟨false, []⟩ = [] from rfl, w3]
      simp only [bind_some]
      rw [hread0]
      simp only [bind_some]
      rw [if_neg (by simp), if_pos (by simp)]
      simp only [meter_Meter_Used, bind_some]
      rw [if_pos (by simp)]
      rfl

theorem gone_plain (x1 : List UInt8) (sy : Bool) (ch : List Int) : ∃ k, glacierlaw04_PlatterGone k x1 sy ch = some true := ⟨100, gone_main 100 (by omega) awake_ok x1 sy ch⟩
theorem platterGone_holds : Rows.PlatterGoneSaid := platterGone_row fun x0 x1 x2 _ _ _ => gone_plain x0 x1 x2
end Go.Proofs.Ythmjdekmacoaaaa
