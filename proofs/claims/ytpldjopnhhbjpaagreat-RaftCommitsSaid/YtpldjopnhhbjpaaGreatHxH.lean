/-
  HxH: for the library's texts on lists: parts of an own row, appends within it, what is cleared. Own work.
-/
import Derived.Test.YtpldjopnhhbjpaaGreatHxG
namespace Go.Hx
open Go.RowKit

/-- elements from i up to j go -/
def del {α : Type} (xs : List α) (i j : Int) : Option (List α) := if 0 ≤ i ∧ i ≤ j ∧ j ≤ (xs.length : Int) then some (xs.take i.toNat ++ xs.drop j.toNat) else none

section
variable {α : Type} {e : Rp α} {P : Program} {Q : Exit → Act → World → Prop} {n : Nat} {b : Nat → Value} {l : List (Nat × Value)} {w G : World} {L : List HP} {K : Act → World → Prop}
  {T : TypeId} {a : Option Addr} {cap : Nat} {xs ys : List α} {i : Int} {x : α}

/-- the address of a part of a slice -/
def cutAt (a : Option Addr) (m lo sz : Nat) : Option Addr := if m = lo then a else a.map (·.add (lo * sz))

theorem R_cut {t ty : TypeId} {u : Operand} {lo hi : Option Operand} {d len bytes : Nat} {pos : String} {af : Array Edge} {gd : Option (Nat × Bool)} {zl zh : Int} {sz : Nat}
    (hL : Lst P t T sz bytes) (hu : evl n b l u = .slice a len cap) (hlo : bnd? n b l lo 0 zl) (hhi : bnd? n b l hi len zh) (h0 : 0 ≤ zl) (h1 : zl ≤ zh) (h2 : zh ≤ cap) :
    (execOp (evl n b l) ({ dst := some d, op := .slice t u lo hi none, type := ty, pos := pos, after := af, guard := gd } : Oper)).run P w = .ok (.value (.slice (cutAt a cap zl.toNat sz) (zh.toNat - zl.toNat) (cap - zl.toNat))) w := by
  obtain ⟨inf, z, hi', hz, hsz, hzs, hby⟩ := hL.hi
  have hb := run_bounds (P := P) (w := w) (isSlice := true) (len := len) (cap := cap) hlo hhi h0 h1 h2
  simp only [execOp, hu, Instr.sliceAt, Sem.run_bind, run_underlying hL.ht, Result.andThen_ok, Instr.slice, Option.map_none, hb, sizeOf, typeInfo, run_program, Sem.run_pure, hi', hsz, cutAt]

theorem R_cut3 {t ty : TypeId} {u lo hi mx : Operand} {d len bytes : Nat} {pos : String} {af : Array Edge} {gd : Option (Nat × Bool)} {zl zh zm : Int} {sz : Nat}
    (hL : Lst P t T sz bytes) (hu : evl n b l u = .slice a len cap) (hlo : evl n b l lo = .int .i64 zl) (hhi : evl n b l hi = .int .i64 zh) (hmx : evl n b l mx = .int .i64 zm) (h0 : 0 ≤ zl) (h1 : zl ≤ zh) (h2 : zh ≤ zm) (h3 : zm ≤ cap) :
    (execOp (evl n b l) ({ dst := some d, op := .slice t u (some lo) (some hi) (some mx), type := ty, pos := pos, after := af, guard := gd } : Oper)).run P w = .ok (.value (.slice (cutAt a zm.toNat zl.toNat sz) (zh.toNat - zl.toNat) (zm.toNat - zl.toNat))) w := by
  obtain ⟨inf, z, hi', hz, hsz, hzs, hby⟩ := hL.hi
  have e1 : (0 : Int) ≤ zm := by omega
  have e2 : (0 : Int) ≤ zh := by omega
  have e3 : zh ≤ ((zm.toNat : Nat) : Int) := by omega
  have e4 : zl ≤ ((zh.toNat : Nat) : Int) := by omega
  have hb : (Instr.sliceBounds true len cap (some (.int .i64 zl)) (some (.int .i64 zh)) (some (.int .i64 zm))).run P w = .ok (zl.toNat, zh.toNat, zm.toNat) w := by
    simp only [Instr.sliceBounds, Instr.sliceBound, asIntOf, Sem.run_bind, Sem.run_pure, Result.andThen_ok, e1, h3, and_self, if_true, e2, e3, h0, e4]
  simp only [execOp, hu, hlo, hhi, hmx, Option.map_some, Instr.sliceAt, Sem.run_bind, run_underlying hL.ht, Result.andThen_ok, Instr.slice, hb, sizeOf, typeInfo, run_program, Sem.run_pure, hi', hsz, cutAt]

theorem size_zeroCells' (z : Array Value) (k : Nat) : (Builtin.zeroCells z k).toList.length = k * z.size := by simp [Builtin.zeroCells]

theorem one_zeroCells (z : Array Value) (hz : z.toList.all Value.oneCell' = true) (k : Nat) : (Builtin.zeroCells z k).toList.all Value.oneCell' = true := by
  by_cases h0 : z.size = 0
  · have : (Builtin.zeroCells z k).toList.length = 0 := by rw [size_zeroCells', h0]; simp
    rw [List.eq_nil_of_length_eq_zero this]; rfl
  · simp only [Builtin.zeroCells, Array.toList_map, List.all_map, List.all_eq_true]
    intro j _
    have hj : j % z.size < z.size := Nat.mod_lt _ (by omega)
    simp only [Function.comp]
    rw [getElem!_pos z (j % z.size) hj]
    exact List.all_eq_true.1 hz _ (by simp)

/-- what lies behind the elements of an own row is cleared -/
theorem O_clear {t ty : TypeId} {u : Operand} {g off k c : Nat} {pos : String} {af : Array Edge} {gd : Option (Nat × Bool)} {cur : Array Value} {z : Value} {inf : TypeInfo}
    (hL : P.underlying t = some (.slice T)) (hi : P.info? T = some inf) (hz : inf.zero = some z) (hone : z.cells.toList.all Value.oneCell' = true)
    (hst : St G w (blk g (.cells cur T (0, 0)) :: L)) (hu : evl n b l u = .slice (some ⟨g, off, none⟩) k c) (hfit : off + k * z.cells.size ≤ cur.size)
    (h : ∀ w' cur', cur'.size = cur.size → cur'.toList.take off = cur.toList.take off → St G w' (blk g (.cells cur' T (0, 0)) :: L) → K (mkF n b l) w') :
    ({ dst := none, op := .call { callee := .builtin .clear, args := #[u], argTypes := #[t] }, type := ty, pos := pos, after := af, guard := gd } : Oper).wp P (mkF n b l) w K Q := by
  have hg := hst.get
  have hcl : Obj.cells cur T (0, 0) = cl cur.toList T := by simp [cl]
  rw [hcl] at hg
  obtain ⟨w', h1, h2, h3⟩ := run_storeCells' (P := P) (p := g) (Builtin.zeroCells z.cells k).toList 0 off cur.toList w hg (by rw [size_zeroCells']; simpa using hfit) (one_zeroCells _ hone k)
  by_cases hk : k = 0
  · subst hk
    refine O_run0 (v := .tuple #[]) (w' := w) ?_ rfl (h w cur rfl rfl hst)
    simp [execOp, resolve, invoke, builtin, hu, Builtin.clear_, run_underlying hL]
  · refine O_run0 (v := .tuple #[]) (w' := w') ?_ rfl (h w' (setCells cur.toList (off + 0) (Builtin.zeroCells z.cells k).toList).toArray ?_ ?_ (hst.turn h2 h3))
    · simp only [execOp, resolve, Sem.run_bind, Sem.run_pure, Result.andThen_ok, invoke, builtin, List.map_toArray, List.map_cons, List.map_nil, hu]
      have hr : (Builtin.clear_ #[t] ty #[.slice (some ⟨g, off, none⟩) k c]).run P w = .ok (.tuple #[]) w' := by
        obtain ⟨k', rfl⟩ : ∃ k', k = k' + 1 := ⟨k - 1, by omega⟩
        simp [Builtin.clear_, run_underlying hL, zeroValue, typeInfo, hi, hz, h1]
      simp [hr]
    · rw [setCells_spec _ _ _ (by rw [size_zeroCells']; simpa using hfit)]
      have hzs : (Builtin.zeroCells z.cells k).size = k * z.cells.size := size_zeroCells _ _
      simp only [List.size_toArray, List.length_append, List.length_take, List.length_drop, Array.length_toList]
      omega
    · rw [setCells_spec _ _ _ (by rw [size_zeroCells']; simpa using hfit)]
      simp only [Nat.add_zero, List.append_assoc]
      rw [List.take_append_of_le_length (by simp; omega), List.take_take, Nat.min_self]

/-- an append, within an own row, of a later part of it -/
theorem O_app_self {t ty : TypeId} {u v : Operand} {d g i j c len : Nat} {pos : String} {af : Array Edge} {gd : Option (Nat × Bool)} {cur : Array Value} {ecs : List (List Value)} {bytes : Nat} {q : Option Addr}
    (hL : Lst P t T e.sz bytes) (hst : St G w (al e ecs xs :: blk g (.cells cur T (0, 0)) :: L)) (hcs : cur.size = cap * e.sz) (htk : cur.toList.take (xs.length * e.sz) = ecs.flatten) (hlen : len = xs.length - j)
    (hij : i ≤ j) (hj : j ≤ xs.length) (hcap : xs.length ≤ cap) (hu : evl n b l u = .slice (some ⟨g, 0, none⟩) i cap) (hv : evl n b l v = .slice q len c) (hq : len ≠ 0 → q = some ⟨g, j * e.sz, none⟩) (hn : Nat.blt d n = true)
    (h : ∀ w' cur', cur'.size = cur.size → cur'.toList.take ((xs.take i ++ xs.drop j).length * e.sz) = (ecs.take i ++ ecs.drop j).flatten → St G w' (al e (ecs.take i ++ ecs.drop j) (xs.take i ++ xs.drop j) :: blk g (.cells cur' T (0, 0)) :: L) →
      K (mkF n b ((d, .slice (some ⟨g, 0, none⟩) (xs.take i ++ xs.drop j).length cap) :: l)) w') :
    ({ dst := some d, op := .call { callee := .builtin .append, args := #[u, v], argTypes := #[t, t] }, type := ty, pos := pos, after := af, guard := gd } : Oper).wp P (mkF n b l) w K Q := by
  subst hlen
  obtain ⟨inf, z, hi, hz, hsz, hzs, hby⟩ := hL.hi
  obtain ⟨hl1, hl2, hl3⟩ := al_len hst
  have hgw : w.heap[g]? = some (.cells cur T (0, 0)) := (hst.pull 1).get
  have hlen : (xs.take i ++ xs.drop j).length = i + (xs.length - j) := by simp; omega
  have hall := hst.pure (φ := ((ecs.drop j).flatten.length = (xs.drop j).length * e.sz ∧ (ecs.drop j).flatten.all Value.oneCell' = true ∧ (ecs.take i).flatten.length = (xs.take i).length * e.sz) ∧
      (ecs.drop j).flatten = ecs.flatten.drop (j * e.sz) ∧ (ecs.take i).flatten = ecs.flatten.take (i * e.sz))
    (fun m f (hA : All2 (e.rep m) ecs xs) => ⟨⟨flat_length (hA.drop j), flat_one (hA.drop j), flat_length (hA.take i)⟩, flat_drop hA j, flat_take hA i⟩)
  obtain ⟨⟨hd1, hd2, hd3⟩, hd4, hd5⟩ := hall
  have hsrc : Src P t inf.size (.slice q (xs.length - j) c) (xs.length - j) (ecs.drop j).flatten w := by
    refine ⟨.inl ⟨T, hL.ht⟩, rfl, ?_, by rw [hd1, hsz]; simp, hd2⟩
    by_cases h0 : xs.length - j = 0
    · have h1 : (ecs.drop j).flatten = [] := List.eq_nil_of_length_eq_zero (by rw [hd1]; simp [h0])
      intro w' _
      rw [h1, h0]
      cases q <;> simp [Builtin.firstCells, loadCells, loadCellsFrom]
    · rw [hq h0, hsz]
      refine firstCells_at (by rw [hd1]; simp) fun k v hk => ?_
      rw [hd4, List.getElem?_drop, ← htk] at hk
      have hlt := (List.getElem?_eq_some_iff.1 hk).1
      simp only [List.length_take] at hlt
      rw [List.getElem?_take_of_lt (by omega)] at hk
      simp only [World.cell?, hgw]
      simpa using hk
  have hfit : i * inf.size + (ecs.drop j).flatten.length ≤ cur.size := by
    rw [hd1, hcs, hsz, ← Nat.add_mul]
    exact Nat.mul_le_mul_right _ (by simp; omega)
  have hr := run_app_room (w := w) (ty := ty) hL.ht hi hsrc g i cap cur hgw (by omega) hfit
  have hgr : w.grownBy (w.setRow g (cur.toList.take (i * inf.size) ++ (ecs.drop j).flatten ++ cur.toList.drop (i * inf.size + (ecs.drop j).flatten.length)).toArray) (some g) :=
    ⟨rfl, rfl, rfl, by simp, fun k _ hk => setRow_other w g k _ (fun e => hk (by rw [e]))⟩
  have hturn := (hst.pull 1).turn hgr (setRow_heap w g cur _ T _ hgw)
  refine O_run (v := .slice (some ⟨g, 0, none⟩) (xs.take i ++ xs.drop j).length cap) ?_ rfl hn (h _ _ ?_ ?_ ((hturn.pull 1).conv (B := al e (ecs.take i ++ ecs.drop j) (xs.take i ++ xs.drop j)) fun m f (hA : All2 (e.rep m) ecs xs) => All2.app (hA.take i) (hA.drop j)))
  · simp only [execOp, resolve, Sem.run_bind, Sem.run_pure, Result.andThen_ok, invoke, builtin, List.map_toArray, List.map_cons, List.map_nil, hu, hv, hr, hlen]
  · simp only [List.size_toArray, List.length_append, List.length_take, List.length_drop, Array.length_toList]
    omega
  · have htake : cur.toList.take (i * inf.size) = (ecs.take i).flatten := by
      rw [hd5, ← htk, List.take_take, hsz, Nat.min_eq_left (Nat.mul_le_mul_right _ (by omega))]
    simp only [htake, List.flatten_append, hlen, Nat.add_mul, List.append_assoc]
    rw [← List.append_assoc, List.take_append_of_le_length (by simp only [List.length_append, hd1, hd3, List.length_take, List.length_drop]; rw [Nat.min_eq_left (by omega)]; omega),
      List.take_of_length_le (by simp only [List.length_append, hd1, hd3, List.length_take, List.length_drop]; rw [Nat.min_eq_left (by omega)]; omega)]
end
end Go.Hx
