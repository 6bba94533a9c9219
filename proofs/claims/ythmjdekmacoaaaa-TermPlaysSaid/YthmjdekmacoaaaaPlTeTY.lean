/-
  PlTe: what the laws on terms share: clamps, the disk that is new. Own work.
-/
import Derived.Test.YthmjdekmacoaaaaTeBTY
namespace Go.Proofs.Ythmjdekmacoaaaa
open Go.Hx

theorem awake9 : glacierlaw09_awake 3000 = some true := by decide +kernel
theorem newK (k : Nat) (n : Nat) : platter_New k (n : Int) = some ((n : Int), 0, false, 0, []) := by
  unfold platter_New meter_Made
  simp only [bind_some]
  rw [show mx2 (n : Int) 0 = (n : Int) from by unfold mx2; rw [if_neg (by omega)]]
theorem clamp (x : Int) (hi : Nat) : ∃ n : Nat, n ≤ hi ∧ mn2 (mx2 x 0) (hi : Int) = (n : Int) := by
  refine ⟨(mn2 (mx2 x 0) (hi : Int)).toNat, ?_, ?_⟩
  · unfold mn2 mx2; split <;> split <;> omega
  · unfold mn2 mx2; split <;> split <;> omega
theorem cut_at (k : Nat) (s : List UInt8) (n : Nat) : ∃ t, glacierlaw01_Cut k s (n : Int) = some t ∧ t.length ≤ n := by
  unfold glacierlaw01_Cut
  by_cases h : n < s.length
  · rw [if_pos (by simpa using h), sl0 _ _ (by omega)]
    exact ⟨_, rfl, by simp only [List.length_take]; omega⟩
  · rw [if_neg (by simpa using h)]
    exact ⟨_, rfl, by omega⟩
end Go.Proofs.Ythmjdekmacoaaaa
