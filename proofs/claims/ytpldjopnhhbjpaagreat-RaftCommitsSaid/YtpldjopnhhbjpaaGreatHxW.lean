/-
  HxW: three results. Own work.
-/
import Derived.Test.YtpldjopnhhbjpaaGreatHxM
namespace Go.Hx
variable {P : Program} {w : World} {R : Ending → World → Prop}

theorem ret3 {fn : Func} {n : Nat} {b : Nat → Value} {l : List (Nat × Value)} {t u s : Nat} {v x y : Value} (hr : fn.results = #[.tmp t, .tmp u, .tmp s]) (hv : evl n b l (.tmp t) = v) (hx : evl n b l (.tmp u) = x) (hy : evl n b l (.tmp s) = y)
    (h : R (.returned (.tuple #[v, x, y])) w) : bodyPost P fn R .ret (mkF n b l) w := by
  refine bodyPost_ret (v := .tuple #[v, x, y]) ?_ rfl h
  have h1 := eval_mkF n b l (.tmp t)
  have h2 := eval_mkF n b l (.tmp u)
  have h3 := eval_mkF n b l (.tmp s)
  simp only [Act.eval, Array.getD_eq_getD_getElem?] at h1 h2 h3
  simp [results, hr, h1, h2, h3, hv, hx, hy]

theorem R_ieq {t t2 ty : TypeId} {u v : Operand} {n : Nat} {b : Nat → Value} {l : List (Nat × Value)} {d : Nat} {pos : String} {af : Array Edge} {gd : Option (Nat × Bool)} {k : IntKind} {x y : Int}
    (hu : evl n b l u = .int k x) (hv : evl n b l v = .int k y) :
    (execOp (evl n b l) ({ dst := some d, op := .binOp .eql t u v t2, type := ty, pos := pos, after := af, guard := gd } : Oper)).run P w = .ok (.value (.bool (x == y))) w := by
  simp only [execOp, hu, hv, eqGuard, binOp, Op.intCmp, Sem.run_bind]
  simp [pure]

theorem R_ine {t t2 ty : TypeId} {u v : Operand} {n : Nat} {b : Nat → Value} {l : List (Nat × Value)} {d : Nat} {pos : String} {af : Array Edge} {gd : Option (Nat × Bool)} {k : IntKind} {x y : Int}
    (hu : evl n b l u = .int k x) (hv : evl n b l v = .int k y) :
    (execOp (evl n b l) ({ dst := some d, op := .binOp .neq t u v t2, type := ty, pos := pos, after := af, guard := gd } : Oper)).run P w = .ok (.value (.bool (x != y))) w := by
  simp only [execOp, hu, hv, eqGuard, binOp, Op.intCmp, Sem.run_bind]
  simp [pure]
end Go.Hx
