/-
  HxI: slices.Insert: what is copied within rows and from row to row. Own work.
-/
import Derived.Test.YtkbhnofclgibfaaHxH
import Derived.Lib.Overlaps
import Derived.Lib.AppendZerosOnto
namespace Go.Hx
open Go.RowKit

/-- one element is put ahead of the i-th -/
def ins {α : Type} (xs : List α) (i : Int) (vs : List α) (bytes : Nat) : Option (List α) :=
  if (vs.length = 1 ∧ 0 ≤ i ∧ i ≤ (xs.length : Int)) ∧ room (xs.length + vs.length) bytes = true then some (xs.take i.toNat ++ vs ++ xs.drop i.toNat) else none

theorem St.apart {G w : World} {g g' : Nat} {o o' : Obj} {L : List HP} (h : St G w (blk g o :: blk g' o' :: L)) : g ≠ g' := by
  obtain ⟨h1, h2, h3, h4, m, f, hG, hm, hf, hd, f1, f2, k1, k2, k3, k4, g1, g2, j1, j2, j3, j4, j5⟩ := h
  rintro rfl
  have e2 := j2 _ _ j4
  rcases k1 g with h | h
  · have : f1 g = some o := k4
    rw [this] at h; cases h
  · rw [e2] at h; cases h

section
variable {P : Program} {Q : Exit → Act → World → Prop} {n : Nat} {b : Nat → Value} {l : List (Nat × Value)} {w G : World} {L : List HP} {K : Act → World → Prop} {T T' : TypeId}

theorem run_copy_gen {dT sT ty el : TypeId} {inf : TypeInfo} {g o dLen dCap k sLen sCap : Nat} {q : Option Addr} {cur : Array Value} {t : TypeId} {cs : List Value}
    (hu : P.underlying dT = some (.slice el)) (hi : P.info? el = some inf) (hg : w.heap[g]? = some (.cells cur t (0, 0))) (hk : k = Nat.min sLen dLen)
    (hc : (Builtin.firstCells inf.size k (.slice q sLen sCap)).run P w = .ok cs.toArray w) (hfit : o + cs.length ≤ cur.size) (h1 : ∀ v ∈ cs, v.oneCell' = true) :
    (Builtin.copy_ #[dT, sT] ty #[.slice (some ⟨g, o, none⟩) dLen dCap, .slice q sLen sCap]).run P w = .ok (goInt k) (w.setRow g (cur.toList.take o ++ cs ++ cur.toList.drop (o + cs.length)).toArray) := by
  have hst := run_storeCells_at P g o t cs 0 cur w hg (by simpa using hfit) h1
  simp [Builtin.copy_, run_underlying hu, Builtin.lenOf, sizeOf, typeInfo, hi, ← hk, hc, hst]

theorem O_app_o2 {α : Type} {e : Rp α} {a : Option Addr} {cap : Nat} {xs : List α} {t t2 ty : TypeId} {u v : Operand} {d bytes : Nat} {pos : String} {af : Array Edge} {gd : Option (Nat × Bool)} {ys : List α} {a2 : Option Addr} {cap2 : Nat}
    (hL : Lst P t T e.sz bytes) (ht2 : ∃ el, P.underlying t2 = some (.slice el)) (hst : St G w (osl e T a cap xs :: osl e T a2 cap2 ys :: L)) (hu : evl n b l u = .slice a xs.length cap) (hv : evl n b l v = .slice a2 ys.length cap2)
    (hb : room (xs.length + ys.length) bytes = true) (hn : Nat.blt d n = true)
    (h : ∀ a' cap' w', St G w' (osl e T a' cap' (xs ++ ys) :: osl e T a2 cap2 ys :: L) → K (mkF n b ((d, .slice a' (xs ++ ys).length cap') :: l)) w') :
    ({ dst := some d, op := .call { callee := .builtin .append, args := #[u, v], argTypes := #[t, t2] }, type := ty, pos := pos, after := af, guard := gd } : Oper).wp P (mkF n b l) w K Q := by
  obtain ⟨ecs, hs, hst⟩ := osl_src (t2 := t2) ht2 (hst.pull 1)
  exact O_app_gen hL hu hv hs hb ((hst.pull 2).conv fun _ _ h => h) hn fun a' cap' w' h' => h a' cap' w' (by exact h')

/-- copy into an own row -/
theorem O_copy {dT sT ty : TypeId} {u v : Operand} {d g o dLen dCap k sLen sCap sz bytes : Nat} {pos : String} {af : Array Edge} {gd : Option (Nat × Bool)} {q : Option Addr} {cur : Array Value} {cs : List Value}
    (hL : Lst P dT T sz bytes) (hst : St G w (blk g (.cells cur T' (0, 0)) :: L)) (hu : evl n b l u = .slice (some ⟨g, o, none⟩) dLen dCap) (hv : evl n b l v = .slice q sLen sCap) (hk : k = Nat.min sLen dLen)
    (hc : (Builtin.firstCells sz k (.slice q sLen sCap)).run P w = .ok cs.toArray w) (hfit : o + cs.length ≤ cur.size) (h1 : cs.all Value.oneCell' = true) (hn : Nat.blt d n = true)
    (h : ∀ w', St G w' (blk g (.cells (cur.toList.take o ++ cs ++ cur.toList.drop (o + cs.length)).toArray T' (0, 0)) :: L) → K (mkF n b ((d, I k) :: l)) w') :
    ({ dst := some d, op := .call { callee := .builtin .copy, args := #[u, v], argTypes := #[dT, sT] }, type := ty, pos := pos, after := af, guard := gd } : Oper).wp P (mkF n b l) w K Q := by
  obtain ⟨inf, z, hi, hz, hsz, hzs, hby⟩ := hL.hi
  have hgw := hst.get
  subst hsz
  have hr := run_copy_gen (sT := sT) (ty := ty) (dCap := dCap) hL.ht hi hgw hk hc hfit (List.all_eq_true.1 h1)
  have hgr : w.grownBy (w.setRow g (cur.toList.take o ++ cs ++ cur.toList.drop (o + cs.length)).toArray) (some g) :=
    ⟨rfl, rfl, rfl, by simp, fun k _ hk => setRow_other w g k _ (fun e => hk (by rw [e]))⟩
  refine O_run (v := I k) ?_ rfl hn (h _ (hst.turn hgr (setRow_heap w g cur _ T' _ hgw)))
  simp only [execOp, resolve, Sem.run_bind, Sem.run_pure, Result.andThen_ok, invoke, builtin, List.map_toArray, List.map_cons, List.map_nil, hu, hv, hr]
  rfl

/-- a part of a row, as the cells of a copy -/
theorem cells_part {sz k off sLen sCap g : Nat} {cur : Array Value} {T : TypeId} {fz : Nat × Nat} {cs : List Value} (hg : w.heap[g]? = some (.cells cur T fz)) (hl : cs.length = k * sz) (h : ∀ j v, cs[j]? = some v → cur[off + j]? = some v) :
    (Builtin.firstCells sz k (.slice (some ⟨g, off, none⟩) sLen sCap)).run P w = .ok cs.toArray w := by
  refine run_firstCells_some (P := P) w sz k ⟨g, off, none⟩ sLen sCap cs hl ?_
  intro j v hj
  rw [add_pt]
  have := h j v hj
  simpa [World.cell?, hg] using this

/-- append(s[:i], make(.., k)...) where there is no room -/
theorem O_app_make {t tn ty : TypeId} {u v : Operand} {d g i c k sz bytes : Nat} {pos : String} {af : Array Edge} {gd : Option (Nat × Bool)} {cur : Array Value} {olds : List Value} {kk : IntKind} {z : Int}
    (hL : Lst P t T sz bytes) (htn : P.underlying tn = some (.int kk)) (hst : St G w (blk g (.cells cur T' (0, 0)) :: L)) (hu : evl n b l u = .slice (some ⟨g, 0, none⟩) i c) (hv : evl n b l v = .int .i64 z) (hz0 : z = (k : Int))
    (hol : olds.length = i * sz) (hold : olds = cur.toList.take (i * sz)) (hfo : i * sz ≤ cur.size) (hk : 0 < k) (hsz0 : 0 < sz) (hg : c < i + k) (hb : (i + k) * bytes ≤ 140737488355328) (hm : i + k ≤ maxLen) (hn : Nat.blt d n = true)
    (h : ∀ g' G' cur' w', i + k ≤ G' → G' ≤ maxLen → cur'.size = G' * sz → cur'.toList.take (i * sz) = olds → St G w' (blk g' (.cells cur' T (0, 0)) :: blk g (.cells cur T' (0, 0)) :: L) → K (mkF n b ((d, .slice (some ⟨g', 0, none⟩) (i + k) G') :: l)) w') :
    ({ dst := some d, op := .call { callee := .builtin .append, args := #[u, v], argTypes := #[t, tn] }, type := ty, pos := pos, after := af, guard := gd } : Oper).wp P (mkF n b l) w K Q := by
  obtain ⟨inf, zv, hi, hz, hsz, hzs, hby⟩ := hL.hi
  subst hsz hby hz0
  have hgw := hst.get
  have hf : (Builtin.firstCells inf.size i (.slice (some ⟨g, 0, none⟩) i c)).run P w.drew = .ok olds.toArray w.drew := by
    refine cells_part (w := w.drew) (g := g) (cur := cur) (T := T') (fz := (0, 0)) hgw hol fun j v hj => ?_
    rw [hold] at hj
    have hlt := (List.getElem?_eq_some_iff.1 hj).1
    simp only [List.length_take] at hlt
    rw [List.getElem?_take_of_lt (by omega)] at hj
    simpa using hj
  have h48 : k * inf.bytes ≤ 281474976710656 := by
    have : k * inf.bytes ≤ (i + k) * inf.bytes := Nat.mul_le_mul_right _ (by omega)
    omega
  have hr := Go.Lib.run_append_grow_zeros w t tn ty T inf zv .i64 kk hL.ht htn hi hz (some ⟨g, 0, none⟩) i c olds hf k hk hsz0 hg (by unfold maxLen at hm; omega) h48 (growslice_fits hg hb)
  have hge := grownCap_ge w (i + k) c T
  have hcm := grownCap_le_maxLen w (i + k) c T hm
  refine O_run (v := .slice (some ⟨w.heap.size, 0, none⟩) (i + k) (grownCap w (i + k) c T)) ?_ rfl hn (h w.heap.size (grownCap w (i + k) c T) (olds.toArray ++ Builtin.zeroCells zv.cells k ++ Builtin.zeroCells zv.cells (grownCap w (i + k) c T - (i + k))) _ hge hcm ?_ ?_ ((hst.drawn (w' := w.drew) rfl rfl rfl rfl).alloc _))
  · simp only [execOp, resolve, Sem.run_bind, Sem.run_pure, Result.andThen_ok, invoke, builtin, List.map_toArray, List.map_cons, List.map_nil, hu, hv, hr]
  · simp only [Array.size_append, List.size_toArray, size_zeroCells, hzs, hol, ← Nat.add_mul]
    congr 1
    omega
  · simp only [Array.toList_append, List.append_assoc]
    rw [List.take_append_of_le_length (by simp [hol]), List.take_of_length_le (by simp [hol])]

/-- a call of what the model answers itself -/
theorem R_ext {f : FuncId} {ty : TypeId} {xs : Array Operand} {ts : Array TypeId} {d : Nat} {pos : String} {af : Array Edge} {gd : Option (Nat × Bool)} {vs : Array Value} {v : Value}
    (hf : (callFunc f vs).run P w = .ok (.value v) w) (hx : xs.map (evl n b l) = vs) :
    (execOp (evl n b l) ({ dst := some d, op := .call { callee := .value (.func f), args := xs, argTypes := ts }, type := ty, pos := pos, after := af, guard := gd } : Oper)).run P w = .ok (.value v) w := by
  simp only [execOp, resolve, evl, Deferred.ofValue, Sem.run_bind, Sem.run_pure, Result.andThen_ok, invoke, hx, Array.empty_append, Array.append_empty, hf]

theorem shape_blk {g : Nat} {cur : Array Value} {fz : Nat × Nat} (h : w.heap[g]? = some (.cells cur T fz)) : w.shape? g = some (T, cur.size) := by
  simp [World.shape?, h]
theorem frozen_blk {g : Nat} {cur : Array Value} (h : w.heap[g]? = some (.cells cur T (0, 0))) (o : Nat) : w.frozen? ⟨g, o, none⟩ = false := by
  simp [World.frozen?, h]

theorem cutAt_some {g cap i sz : Nat} (h : i < cap) : cutAt (some ⟨g, 0, none⟩) cap i sz = some ⟨g, i * sz, none⟩ := by
  unfold cutAt
  rw [if_neg (by omega)]
  simp only [Option.map_some, add_pt, Nat.zero_add]
end
end Go.Hx
