/-
  HxP: plain laws: how elements are read, how numbers are kept in their width. Own work.
-/
import Derived.Test.YtpldjopnhhbjpaaGreatHxH
import Derived.IntWalk
namespace Go.Hx

theorem wr {n : Int} (h : -9223372036854775808 ≤ n ∧ n ≤ 9223372036854775807) : IntKind.i64.wrap n = n := by rw [IntKind.wrap_i64]; omega
theorem wrN (n : Nat) (h : n < 9223372036854775807) : IntKind.i64.wrap ((n : Int) + 1) = ((n + 1 : Nat) : Int) := by rw [wr (by omega)]; omega
theorem gtN {α : Type} (xs : List α) (i : Nat) : gt xs (i : Int) = xs[i]? := by simp [gt]
theorem gt0 {α : Type} (xs : List α) : gt xs 0 = xs[0]? := by simp [gt]
theorem gtL {α : Type} {xs : List α} {i : Nat} (h : i < xs.length) : gt xs (i : Int) = some xs[i] := by rw [gtN]; simp [h]
theorem room_of {k b : Nat} (hk : k ≤ 1000000) (hb : b ≤ 1000000) : room k b = true := by
  have : k * b ≤ 1000000 * 1000000 := Nat.mul_le_mul hk hb
  simp only [room, Bool.and_eq_true]
  exact ⟨Nat.ble_eq_true_of_le (by omega), Nat.ble_eq_true_of_le (by omega)⟩
theorem delN {α : Type} (xs : List α) (i : Nat) (h : i < xs.length) : del xs (i : Int) (((i + 1 : Nat)) : Int) = some (xs.eraseIdx i) := by
  unfold del
  rw [if_pos (by omega)]
  simp only [Int.toNat_natCast]
  rw [List.eraseIdx_eq_take_drop_succ]
theorem bind_some {α β : Type} (a : α) (f : α → Option β) : Option.bind (some a) f = f a := rfl
end Go.Hx
