/-
  HxY: arrays that lie in a block, parts of owned lists, make, characters as texts. Own work.
-/
import Derived.Test.YtpldjopnhhbjpaaGreatHxG
import Derived.Laws.MakeOwn
namespace Go.Hx
open Go.RowKit

@[reducible] def upd {α : Type} (f : Nat → α) (i : Nat) (v : α) : Nat → α := fun j => if j = i then v else f j
@[reducible] def ofl {α : Type} (z : α) (l : List α) : Nat → α := fun j => l.getD j z
theorem in5 {i : Int} (h : 0 ≤ i ∧ i < 5) : i = 0 ∨ i = 1 ∨ i = 2 ∨ i = 3 ∨ i = 4 := by omega

/-- what an array's type says -/
structure ArrT (P : Program) (t T : TypeId) (n : Nat) : Prop where
  ht : P.underlying t = some (.array n T)
  hi : ∃ inf, P.info? T = some inf ∧ inf.size = 1
def cutA (a : Option Addr) (cap k sz : Nat) : Option Addr := if cap = k then a else a.map (·.add (k * sz))

theorem calls_vs {P : Program} {f : Nat} {vs vs' : Array Value} {w : World} {R : Ending → World → Prop} (h : vs = vs') (hc : Calls P f vs' w R) : Calls P f vs w R := h ▸ hc

section
variable {α : Type} {e : Rp α} {P : Program} {Q : Exit → Act → World → Prop} {n : Nat} {b : Nat → Value} {l : List (Nat × Value)} {w G : World} {L : List HP} {K : Act → World → Prop}
  {T : TypeId} {a : Option Addr} {cap : Nat} {xs : List α} {i : Int} {x : α}

/-- the address of an array's element -/
theorem R_iaA {t ty : TypeId} {u v : Operand} {d p off m : Nat} {pos : String} {af : Array Edge} {gd : Option (Nat × Bool)} {k : IntKind} (hA : ArrT P t T m) (hu : evl n b l u = pt p off) (hv : evl n b l v = .int k i) (h : 0 ≤ i ∧ i < (m : Int)) :
    (execOp (evl n b l) ({ dst := some d, op := .indexAddr t u v, type := ty, pos := pos, after := af, guard := gd } : Oper)).run P w = .ok (.value (pt p (off + i.toNat))) w := by
  obtain ⟨ht, inf, hi, hsz⟩ := hA
  obtain ⟨h0, h1⟩ := h
  simp only [execOp, hu, hv, Instr.indexAt, Instr.sureAddr, pt, asIntOf, Sem.run_bind, Sem.run_pure, Result.andThen_ok, run_underlying ht]
  simp only [h0, h1, and_self, if_true, sizeOf, typeInfo, Sem.run_bind, Sem.run_pure, run_program, hi, Result.andThen_ok, hsz, Nat.mul_one, add_pt]

/-- a beginning of an array -/
theorem R_sliceA {t ty : TypeId} {u : Operand} {hi : Option Operand} {d p off m : Nat} {pos : String} {af : Array Edge} {gd : Option (Nat × Bool)} {zh : Int} (hA : ArrT P t T m) (hu : evl n b l u = pt p off) (hhi : bnd? n b l hi m zh) (h : 0 ≤ zh ∧ zh ≤ (m : Int)) :
    (execOp (evl n b l) ({ dst := some d, op := .slice t u none hi none, type := ty, pos := pos, after := af, guard := gd } : Oper)).run P w = .ok (.value (.slice (some ⟨p, off, none⟩) zh.toNat m)) w := by
  obtain ⟨ht, inf, hif, hsz⟩ := hA
  obtain ⟨h0, h1⟩ := h
  have hb := run_bounds (P := P) (w := w) (isSlice := false) (len := m) (cap := m) (lo := none) (zl := 0) (n := n) (b := b) (l := l) rfl hhi (Int.le_refl _) h0 h1
  simp only [Option.map_none] at hb
  simp only [execOp, hu, Instr.sliceAt, Instr.sureAddr, pt, Sem.run_bind, Sem.run_pure, Result.andThen_ok, run_underlying ht, Option.map_none, hb, sizeOf, typeInfo, run_program, hif, Int.toNat_zero, Nat.zero_mul, add_pt, Nat.add_zero, Nat.sub_zero, ite_self]

/-- an element of a beginning of an array -/
theorem R_iaS {t ty : TypeId} {u v : Operand} {d p off len : Nat} {pos : String} {af : Array Edge} {gd : Option (Nat × Bool)} {k : IntKind} {bytes : Nat} (hL : Lst P t T 1 bytes) (hu : evl n b l u = .slice (some ⟨p, off, none⟩) len cap) (hv : evl n b l v = .int k i) (h : 0 ≤ i ∧ i < (len : Int)) :
    (execOp (evl n b l) ({ dst := some d, op := .indexAddr t u v, type := ty, pos := pos, after := af, guard := gd } : Oper)).run P w = .ok (.value (pt p (off + i.toNat))) w := by
  have := R_ia (P := P) (w := w) (ty := ty) (d := d) (pos := pos) (af := af) (gd := gd) hL hu hv rfl h.1 h.2
  rw [Nat.mul_one] at this
  exact this

/-! parts of owned lists, to be read -/
theorem osl_le (h : St G w (osl e T a cap xs :: L)) : xs.length ≤ cap := h.pure fun m f hA => by
  rcases hA with ⟨_, hc, hx⟩ | ⟨g, cur, ecs, _, _, h3, _⟩
  · rw [hx, hc]; exact Nat.le_refl _
  · exact h3
theorem R_slice_v {t ty : TypeId} {u : Operand} {lo hi : Option Operand} {d bytes : Nat} {pos : String} {af : Array Edge} {gd : Option (Nat × Bool)} {zl zh : Int} {ys : List α}
    (hL : Lst P t T e.sz bytes) (hle : xs.length ≤ cap) (hu : evl n b l u = .slice a xs.length cap) (hlo : bnd? n b l lo 0 zl) (hhi : bnd? n b l hi xs.length zh) (hy : sl xs zl zh = some ys) :
    (execOp (evl n b l) ({ dst := some d, op := .slice t u lo hi none, type := ty, pos := pos, after := af, guard := gd } : Oper)).run P w = .ok (.value (.slice (cutA a cap zl.toNat e.sz) ys.length (cap - zl.toNat))) w := by
  obtain ⟨inf, z, hi', hz, hsz, hzs, hby⟩ := hL.hi
  obtain ⟨h0, h1, h2, rfl⟩ := sl_some hy
  have hlen : ((xs.take zh.toNat).drop zl.toNat).length = zh.toNat - zl.toNat := by simp; omega
  have hb := run_bounds (P := P) (w := w) (isSlice := true) (len := xs.length) (cap := cap) hlo hhi h0 h1 (by omega)
  simp only [execOp, hu, Instr.sliceAt, Sem.run_bind, run_underlying hL.ht, Result.andThen_ok, Instr.slice, Option.map_none, hb, sizeOf, typeInfo, run_program, Sem.run_pure, hi', hsz, hlen, cutA]

theorem All2.part {α β : Type} {R : α → β → Prop} {us : List α} {vs : List β} (h : All2 R us vs) (i j : Nat) : All2 R ((us.take j).drop i) ((vs.take j).drop i) := (h.take j).drop i

theorem osl_src_part {t2 : TypeId} {zl zh : Int} {ys : List α} (ht : ∃ el, P.underlying t2 = some (.slice el)) (h : St G w (osl e T a cap xs :: L)) (hy : sl xs zl zh = some ys) :
    ∃ ecs, Src P t2 e.sz (.slice (cutA a cap zl.toNat e.sz) ys.length (cap - zl.toNat)) ys.length ecs.flatten w ∧ St G w (al e ecs ys :: osl e T a cap xs :: L) := by
  obtain ⟨h0, h1, h2, rfl⟩ := sl_some hy
  obtain ⟨g1, g2, g3, g4, m, f, hG, hm, hf, hd, f1, f2, k1, k2, k3, k4, k5⟩ := h
  rcases id k4 with ⟨rfl, rfl, rfl⟩ | ⟨g, cur, ecs, rfl, q2, q3, q4, q5, q6, q7⟩
  · refine ⟨[], ⟨.inl ht, by simp; rfl, fun w' _ => by simp [Builtin.firstCells, cutA], by simp, rfl⟩, g1, g2, g3, g4, m, f, hG, hm, hf, hd, fun _ => none, f, fun _ => .inl rfl, (fun _ _ h => by cases h), Mem.le_refl _, by simp; trivial, f1, f2, k1, k2, k3, k4, k5⟩
  · have q8 := All2.part q6 zl.toNat zh.toNat
    refine ⟨(ecs.take zh.toNat).drop zl.toNat, ⟨.inl ht, rfl, ?_, flat_length q8, flat_one q8⟩, g1, g2, g3, g4, m, f, hG, hm, hf, hd, fun _ => none, f, fun _ => .inl rfl, (fun _ _ h => by cases h), Mem.le_refl _, q8, f1, f2, k1, k2, k3, k4, k5⟩
    have hel := q6.length
    have hpre : (ecs.take zl.toNat).flatten.length = zl.toNat * e.sz := by
      rw [flat_length (q6.take zl.toNat)]; congr 1; simp; omega
    have hcell : ∀ j v, ((ecs.take zh.toNat).drop zl.toNat).flatten[j]? = some v → w.cell? ⟨g, zl.toNat * e.sz + j, none⟩ = some v := by
      intro j v hj
      have hlt := (List.getElem?_eq_some_iff.1 hj).1
      have hsplit : (ecs.take zh.toNat).flatten = (ecs.take zl.toNat).flatten ++ ((ecs.take zh.toNat).drop zl.toNat).flatten := by
        conv => lhs; rw [← List.take_append_drop zl.toNat (ecs.take zh.toNat)]
        rw [List.flatten_append, List.take_take, Nat.min_eq_left (by omega)]
      have h3 : (ecs.take zh.toNat).flatten[zl.toNat * e.sz + j]? = some v := by
        rw [hsplit, List.getElem?_append_right (by omega), hpre, Nat.add_sub_cancel_left]; exact hj
      have h4 : ecs.flatten[zl.toNat * e.sz + j]? = some v := by
        have h5 : ecs.flatten = (ecs.take zh.toNat).flatten ++ (ecs.drop zh.toNat).flatten := by
          conv => lhs; rw [← List.take_append_drop zh.toNat ecs]
          rw [List.flatten_append]
        rw [h5, List.getElem?_append_left (List.getElem?_eq_some_iff.1 h3).1]
        exact h3
      rw [← q7] at h4
      have hlt2 := (List.getElem?_eq_some_iff.1 h4).1
      simp only [List.length_take] at hlt2
      rw [List.getElem?_take_of_lt (by omega)] at h4
      simp only [World.cell?, hf _ _ (k2 _ _ q2)]
      simpa using h4
    unfold cutA
    by_cases hc : cap = zl.toNat
    · have hnil : ((ecs.take zh.toNat).drop zl.toNat).flatten = [] := by
        have : (ecs.take zh.toNat).drop zl.toNat = [] := List.drop_eq_nil_of_le (by simp; omega)
        rw [this]; rfl
      have hyl : ((xs.take zh.toNat).drop zl.toNat).length = 0 := by simp; omega
      rw [if_pos hc, hnil, hyl]
      intro w' _
      simp [Builtin.firstCells, loadCells, loadCellsFrom]
    · rw [if_neg hc]
      simp only [Option.map_some, add_pt, Nat.zero_add]
      exact firstCells_at (flat_length q8) hcell

theorem O_app_v {t ty : TypeId} {u v : Operand} {d bytes : Nat} {pos : String} {af : Array Edge} {gd : Option (Nat × Bool)} {ys zs : List α} {a2 : Option Addr} {cap2 : Nat} {zl zh : Int}
    (hL : Lst P t T e.sz bytes) (hst : St G w (osl e T a cap xs :: osl e T a2 cap2 ys :: L)) (hu : evl n b l u = .slice a xs.length cap) (hy : sl ys zl zh = some zs) (hv : evl n b l v = .slice (cutA a2 cap2 zl.toNat e.sz) zs.length (cap2 - zl.toNat))
    (hb : room (xs.length + zs.length) bytes = true) (hn : Nat.blt d n = true)
    (h : ∀ a' cap' w', St G w' (osl e T a' cap' (xs ++ zs) :: osl e T a2 cap2 ys :: L) → K (mkF n b ((d, .slice a' (xs ++ zs).length cap') :: l)) w') :
    ({ dst := some d, op := .call { callee := .builtin .append, args := #[u, v], argTypes := #[t, t] }, type := ty, pos := pos, after := af, guard := gd } : Oper).wp P (mkF n b l) w K Q := by
  obtain ⟨ecs, hs, hst1⟩ := osl_src_part (t2 := t) ⟨T, hL.ht⟩ (hst.pull 1) hy
  exact O_app_gen hL hu hv hs hb (hst1.pull 2) hn h

/-! make -/
theorem O_make {t ty : TypeId} {u v : Operand} {d bytes : Nat} {pos : String} {af : Array Edge} {gd : Option (Nat × Bool)} {z : Int} {ku kv : IntKind} {v0 : Value} {z0 : α}
    (hL : Lst P t T e.sz bytes) (h1 : Nat.beq e.sz 1 = true) (hz : (P.info? T).bind (fun i => i.zero) = some v0) (hv0 : v0.cells = #[v0]) (hrep : ∀ m, e.rep m [v0] z0) (hb : Nat.ble bytes 1000000 = true) (hst : St G w L)
    (hu : evl n b l u = .int ku z) (hv : evl n b l v = .int kv z) (hr : 0 ≤ z ∧ z ≤ 1000000) (hn : Nat.blt d n = true)
    (h : ∀ a' cap' w', St G w' (osl e T a' cap' (List.replicate z.toNat z0) :: L) → K (mkF n b ((d, .slice a' (List.replicate z.toNat z0).length cap') :: l)) w') :
    ({ dst := some d, op := .makeSlice t u v, type := ty, pos := pos, after := af, guard := gd } : Oper).wp P (mkF n b l) w K Q := by
  obtain ⟨inf, z1, hi, hz1, hsz, hzs, hby⟩ := hL.hi
  have h1 := Nat.eq_of_beq_eq_true h1
  have hb := Nat.le_of_ble_eq_true hb
  have : z1 = v0 := by rw [hi] at hz; simp [hz1] at hz; exact hz
  subst this
  have hm : (inf.bytes : Int) * z ≤ 281474976710656 := by
    have h2 : (inf.bytes : Int) * z ≤ 1000000 * 1000000 := Int.mul_le_mul (by omega) hr.2 hr.1 (by omega)
    omega
  have hrun := run_make (P := P) w t T inf z1 hL.ht hi hz1 ku kv z z hr.1 (Int.le_refl _) hm (by omega)
  have hc : madeCells z1.cells (z.toNat * inf.size) = (List.replicate z.toNat [z1]).flatten.toArray := by
    rw [hv0, hsz, h1, Nat.mul_one]
    unfold madeCells
    apply Array.ext'
    rw [Array.toList_map, Array.toList_range]
    have : (List.replicate z.toNat [z1]).flatten = List.replicate z.toNat z1 := by
      rw [List.flatten_replicate_singleton]
    simp only [this]
    apply List.ext_getElem
    · simp
    · intro j h3 h4
      simp [Nat.mod_one]
  rw [hc] at hrun
  have hlen : (List.replicate z.toNat z0).length = z.toNat := by simp
  refine O_run (v := .slice (some ⟨w.heap.size, 0, none⟩) (List.replicate z.toNat z0).length (List.replicate z.toNat z0).length) ?_ rfl hn (h _ _ _ (osl_of_blk0 (ecs := List.replicate z.toNat [z1]) e (List.replicate z.toNat z0) rfl (fun m => ?_) (Nat.ble_eq_true_of_le (by simp; omega)) (hst.alloc (.cells (List.replicate z.toNat [z1]).flatten.toArray T))))
  · simp only [execOp, hu, hv, hrun, Sem.run_bind, Result.andThen_ok, hlen]
    rfl
  · have : ∀ k : Nat, All2 (e.rep m) (List.replicate k [z1]) (List.replicate k z0) := by
      intro k
      induction k with
      | zero => trivial
      | succ k ih => exact ⟨hrep m, ih⟩
    exact this _

/-- a small number as a character -/
theorem R_i2s {t1 t2 ty : TypeId} {u : Operand} {d : Nat} {pos : String} {af : Array Edge} {gd : Option (Nat × Bool)} {k k' : IntKind} (h1 : P.underlying t1 = some (.int k)) (h2 : P.underlying t2 = some .string) (hu : evl n b l u = .int k' i) (h : 0 ≤ i ∧ i < 128) :
    (execOp (evl n b l) ({ dst := some d, op := .convert t1 t2 u, type := ty, pos := pos, after := af, guard := gd } : Oper)).run P w = .ok (.value (S [UInt8.ofNat i.toNat])) w := by
  have he : Utf8.encode i = ByteArray.mk #[UInt8.ofNat i.toNat] := by
    have hv : Utf8.valid i = true := by
      unfold Utf8.valid
      simp
      omega
    unfold Utf8.encode
    simp only [hv, if_true]
    rw [if_pos (by omega)]
  simp only [execOp, hu, convert, Sem.run_bind, Sem.run_pure, run_underlying h1, run_underlying h2, Result.andThen_ok, Conv.intToString, he]
end
end Go.Hx
