/-
  HxW: three results. Own work.
-/
import Derived.Test.YthmjdekmacoaaaaHxM
namespace Go.Hx
variable {P : Program} {w : World} {R : Ending → World → Prop}

theorem ret3 {fn : Func} {n : Nat} {b : Nat → Value} {l : List (Nat × Value)} {t u s : Nat} {v x y : Value} (hr : fn.results = #[.tmp t, .tmp u, .tmp s]) (hv : evl n b l (.tmp t) = v) (hx : evl n b l (.tmp u) = x) (hy : evl n b l (.tmp s) = y)
    (h : R (.returned (.tuple #[v, x, y])) w) : bodyPost P fn R .ret (mkF n b l) w := by
  refine bodyPost_ret (v := .tuple #[v, x, y]) ?_ rfl h
  have h1 := eval_mkF n b l (.tmp t)
  have h2 := eval_mkF n b l (.tmp u)
  have h3 := eval_mkF n b l (.tmp s)
  simp only [Act.eval, Array.getD_eq_getD_getElem?] at h1 h2 h3
  simp [results, hr, h1, h2, h3, hv, hx, hy]
end Go.Hx
