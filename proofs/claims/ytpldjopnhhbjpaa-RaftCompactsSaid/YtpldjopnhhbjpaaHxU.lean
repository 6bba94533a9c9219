/-
  HxU: structs that are compared. Own work.
-/
import Derived.Test.YtpldjopnhhbjpaaHxM
import Derived.Laws.StructEq
namespace Go.Hx
section
variable {P : Program} {n : Nat} {b : Nat → Value} {l : List (Nat × Value)} {w : World}

theorem R_seq {t t2 ty : TypeId} {x y : Operand} {d : Nat} {pos : String} {af : Array Edge} {gd : Option (Nat × Bool)} {xs ys : Array Value} {r : Bool}
    (hx : evl n b l x = .agg xs) (hy : evl n b l y = .agg ys) (hg : P.eqGuardType P.depth t = false) (he : (Op.equalIn 10000 t (.agg xs) (.agg ys)).run P w = .ok r w) :
    (execOp (evl n b l) ({ dst := some d, op := .binOp .eql t x y t2, type := ty, pos := pos, after := af, guard := gd } : Oper)).run P w = .ok (.value (.bool r)) w := by
  simp [execOp, hx, hy, run_eqGuard_agg w .eql t x y xs ys hg, run_eql_struct, he, Result.andThen]

theorem R_sne {t t2 ty : TypeId} {x y : Operand} {d : Nat} {pos : String} {af : Array Edge} {gd : Option (Nat × Bool)} {xs ys : Array Value} {r : Bool}
    (hx : evl n b l x = .agg xs) (hy : evl n b l y = .agg ys) (hg : P.eqGuardType P.depth t = false) (he : (Op.equalIn 10000 t (.agg xs) (.agg ys)).run P w = .ok r w) :
    (execOp (evl n b l) ({ dst := some d, op := .binOp .neq t x y t2, type := ty, pos := pos, after := af, guard := gd } : Oper)).run P w = .ok (.value (.bool (!r))) w := by
  simp [execOp, hx, hy, run_eqGuard_agg w .neq t x y xs ys hg, run_neq_struct, he, Result.andThen]
end
end Go.Hx
