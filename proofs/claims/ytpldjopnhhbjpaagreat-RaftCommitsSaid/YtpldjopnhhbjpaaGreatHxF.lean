/-
  HxF: appends as operations, elements written, slices of lists, strings, results in memory. Own work.
-/
import Derived.Test.YtpldjopnhhbjpaaGreatHxE
namespace Go.Hx
open Go.RowKit

section
variable {α : Type} {e : Rp α} {P : Program} {Q : Exit → Act → World → Prop} {n : Nat} {b : Nat → Value} {l : List (Nat × Value)} {w G : World} {L : List HP} {K : Act → World → Prop}
  {T : TypeId} {a : Option Addr} {cap : Nat} {xs : List α} {i : Int} {x : α}

theorem add_pt (p off j : Nat) : (⟨p, off, none⟩ : Addr).add j = ⟨p, off + j, none⟩ := by
  unfold Addr.add
  by_cases h : j = 0
  · simp [h]
  · simp [h]

theorem firstCells_at {p off k sz : Nat} {c : Nat} {news : List Value} (hl : news.length = k * sz) (h : ∀ j v, news[j]? = some v → w.cell? ⟨p, off + j, none⟩ = some v) :
    ∀ w' : World, w'.heap = w.heap → (Builtin.firstCells sz k (.slice (some ⟨p, off, none⟩) k c)).run P w' = .ok news.toArray w' := by
  intro w' hw
  refine run_firstCells_some (P := P) w' sz k ⟨p, off, none⟩ k c news hl ?_
  intro j v hj
  rw [add_pt]
  have := h j v hj
  simpa [World.cell?, hw] using this

theorem dsl_src {t2 : TypeId} (ht : ∃ el, P.underlying t2 = some (.slice el)) (h : St G w (dsl e a cap xs :: L)) :
    ∃ ecs, Src P t2 e.sz (.slice a xs.length cap) xs.length ecs.flatten w ∧ St G w (al e ecs xs :: dsl e a cap xs :: L) := by
  obtain ⟨g1, g2, g3, g4, m, f, hG, hm, hf, hd, f1, f2, k1, k2, k3, k4, k5⟩ := h
  obtain ⟨q1, q2, ecs, q3, q4⟩ := (id k4 : dslP e a cap xs m)
  refine ⟨ecs, ⟨.inl ht, rfl, ?_, flat_length q3, flat_one q3⟩, g1, g2, g3, g4, m, f, hG, hm, hf, hd, fun _ => none, f, fun _ => .inl rfl, (fun _ _ h => by cases h), Mem.le_refl _, q3, f1, f2, k1, k2, k3, k4, k5⟩
  rcases q4 with rfl | ⟨p, off, cur, T, fz, rfl, r2, r3⟩
  · have h0 : ecs.flatten = [] := List.eq_nil_of_length_eq_zero (by rw [flat_length q3]; simp)
    intro w' _
    rw [h0]
    cases a <;> simp [Builtin.firstCells, loadCells, loadCellsFrom]
  · refine firstCells_at (flat_length q3) fun j v hj => ?_
    have h3 := r3 j v hj
    simp only [World.cell?, hm _ _ r2]
    simpa using h3

theorem osl_src {t2 : TypeId} (ht : ∃ el, P.underlying t2 = some (.slice el)) (h : St G w (osl e T a cap xs :: L)) :
    ∃ ecs, Src P t2 e.sz (.slice a xs.length cap) xs.length ecs.flatten w ∧ St G w (al e ecs xs :: osl e T a cap xs :: L) := by
  obtain ⟨g1, g2, g3, g4, m, f, hG, hm, hf, hd, f1, f2, k1, k2, k3, k4, k5⟩ := h
  rcases id k4 with ⟨rfl, rfl, rfl⟩ | ⟨g, cur, ecs, rfl, q2, q3, q4, q5, q6, q7⟩
  · refine ⟨[], ⟨.inl ht, rfl, fun w' _ => by simp [Builtin.firstCells], by simp, rfl⟩, g1, g2, g3, g4, m, f, hG, hm, hf, hd, fun _ => none, f, fun _ => .inl rfl, (fun _ _ h => by cases h), Mem.le_refl _, trivial, f1, f2, k1, k2, k3, k4, k5⟩
  · refine ⟨ecs, ⟨.inl ht, rfl, ?_, flat_length q6, flat_one q6⟩, g1, g2, g3, g4, m, f, hG, hm, hf, hd, fun _ => none, f, fun _ => .inl rfl, (fun _ _ h => by cases h), Mem.le_refl _, q6, f1, f2, k1, k2, k3, k4, k5⟩
    refine firstCells_at (flat_length q6) fun j v hj => ?_
    rw [← q7] at hj
    have hlt := (List.getElem?_eq_some_iff.1 hj).1
    simp only [List.length_take] at hlt
    rw [List.getElem?_take_of_lt (by omega)] at hj
    simp only [World.cell?, hf _ _ (k2 _ _ q2), Nat.zero_add]
    simpa using hj

/-- room for so many elements -/
def room (k bytes : Nat) : Bool := Nat.ble (k * bytes) 140737488355328 && Nat.ble k 140737488351232

theorem room_spec {k bytes : Nat} (h : room k bytes = true) : k * bytes ≤ 140737488355328 ∧ k ≤ maxLen := by
  simp only [room, Bool.and_eq_true] at h
  exact ⟨Nat.le_of_ble_eq_true h.1, Nat.le_trans (Nat.le_of_ble_eq_true h.2) (by unfold maxLen; omega)⟩

theorem O_app_gen {t t2 ty : TypeId} {u v : Operand} {d bytes : Nat} {pos : String} {af : Array Edge} {gd : Option (Nat × Bool)} {ys : List α} {y : Value} {ecs' : List (List Value)}
    (hL : Lst P t T e.sz bytes) (hu : evl n b l u = .slice a xs.length cap) (hv : evl n b l v = y) (hs : Src P t2 e.sz y ys.length ecs'.flatten w) (hb : room (xs.length + ys.length) bytes = true)
    (hst : St G w (osl e T a cap xs :: al e ecs' ys :: L)) (hn : Nat.blt d n = true)
    (h : ∀ a' cap' w', St G w' (osl e T a' cap' (xs ++ ys) :: L) → K (mkF n b ((d, .slice a' (xs ++ ys).length cap') :: l)) w') :
    ({ dst := some d, op := .call { callee := .builtin .append, args := #[u, v], argTypes := #[t, t2] }, type := ty, pos := pos, after := af, guard := gd } : Oper).wp P (mkF n b l) w K Q := by
  obtain ⟨inf, z, hi, hz, hsz, hzs, hby⟩ := hL.hi
  obtain ⟨hb1, hb2⟩ := room_spec hb
  obtain ⟨a', cap', w', hr, hst'⟩ := osl_app (ty := ty) hL.ht hi hz hsz hzs hby hs hb1 hb2 hst
  refine O_run (v := .slice a' (xs ++ ys).length cap') (w' := w') ?_ rfl hn (h a' cap' w' hst')
  simp only [execOp, resolve, Sem.run_bind, Sem.run_pure, Result.andThen_ok, invoke, builtin, List.map_toArray, List.map_cons, List.map_nil, hu, hv, hr]

theorem O_app_d {t ty : TypeId} {u v : Operand} {d bytes : Nat} {pos : String} {af : Array Edge} {gd : Option (Nat × Bool)} {ys : List α} {a2 : Option Addr} {cap2 : Nat}
    (hL : Lst P t T e.sz bytes) (hst : St G w (osl e T a cap xs :: dsl e a2 cap2 ys :: L)) (hu : evl n b l u = .slice a xs.length cap) (hv : evl n b l v = .slice a2 ys.length cap2)
    (hb : room (xs.length + ys.length) bytes = true) (hn : Nat.blt d n = true)
    (h : ∀ a' cap' w', St G w' (osl e T a' cap' (xs ++ ys) :: dsl e a2 cap2 ys :: L) → K (mkF n b ((d, .slice a' (xs ++ ys).length cap') :: l)) w') :
    ({ dst := some d, op := .call { callee := .builtin .append, args := #[u, v], argTypes := #[t, t] }, type := ty, pos := pos, after := af, guard := gd } : Oper).wp P (mkF n b l) w K Q := by
  obtain ⟨ecs, hs, hst1⟩ := dsl_src (t2 := t) ⟨T, hL.ht⟩ (hst.pull 1)
  exact O_app_gen hL hu hv hs hb (hst1.pull 2) hn h

theorem O_app_o {t ty : TypeId} {u v : Operand} {d bytes : Nat} {pos : String} {af : Array Edge} {gd : Option (Nat × Bool)} {ys : List α} {a2 : Option Addr} {cap2 : Nat}
    (hL : Lst P t T e.sz bytes) (hst : St G w (osl e T a cap xs :: osl e T a2 cap2 ys :: L)) (hu : evl n b l u = .slice a xs.length cap) (hv : evl n b l v = .slice a2 ys.length cap2)
    (hb : room (xs.length + ys.length) bytes = true) (hn : Nat.blt d n = true)
    (h : ∀ a' cap' w', St G w' (osl e T a' cap' (xs ++ ys) :: osl e T a2 cap2 ys :: L) → K (mkF n b ((d, .slice a' (xs ++ ys).length cap') :: l)) w') :
    ({ dst := some d, op := .call { callee := .builtin .append, args := #[u, v], argTypes := #[t, t] }, type := ty, pos := pos, after := af, guard := gd } : Oper).wp P (mkF n b l) w K Q := by
  obtain ⟨ecs, hs, hst1⟩ := osl_src (t2 := t) ⟨T, hL.ht⟩ (hst.pull 1)
  exact O_app_gen hL hu hv hs hb (hst1.pull 2) hn h

/-! elements written -/
theorem setCells_spec : ∀ (vs : List Value) (cs : List Value) (off : Nat), off + vs.length ≤ cs.length → setCells cs off vs = cs.take off ++ vs ++ cs.drop (off + vs.length)
  | [], cs, off, _ => by simp [setCells]
  | v :: vs, cs, off, h => by
    simp only [List.length_cons] at h
    have ih := setCells_spec vs (cs.set off v) (off + 1) (by simp; omega)
    simp only [setCells, ih]
    have h1 : (cs.set off v).take (off + 1) = cs.take off ++ [v] := by
      rw [List.take_succ_eq_append_getElem (by simp; omega), List.take_set_of_le (Nat.le_refl _)]
      simp
    have h2 : (cs.set off v).drop (off + 1 + vs.length) = cs.drop (off + (v :: vs).length) := by
      rw [List.drop_set_of_lt (by omega)]
      simp only [List.length_cons]
      congr 1; omega
    rw [h1, h2]
    simp

theorem setCells_shift (us cs vs zs : List Value) (off k : Nat) (hk : k = us.length) (h : off + vs.length ≤ cs.length) : setCells (us ++ cs ++ zs) (k + off) vs = us ++ setCells cs off vs ++ zs := by
  subst hk
  rw [setCells_spec _ _ _ (by simp; omega), setCells_spec _ _ _ h]
  have e1 : (us ++ cs ++ zs).take (us.length + off) = us ++ cs.take off := by
    rw [List.append_assoc, List.take_length_add_append, List.take_append_of_le_length (by omega)]
  have e2 : (us ++ cs ++ zs).drop (us.length + off + vs.length) = cs.drop (off + vs.length) ++ zs := by
    rw [List.append_assoc, Nat.add_assoc, List.drop_length_add_append, List.drop_append_of_le_length h]
  rw [e1, e2]
  simp

/-- a store into an element -/
theorem O_store_osl {t ty : TypeId} {u v : Operand} {j : Nat} {pos : String} {af : Array Edge} {gd : Option (Nat × Bool)} {y : α} {val : Value} {φ : Mem → Prop} {hφ : ∀ m m', m.le m' → φ m → φ m'}
    (hst : St G w (fct φ hφ :: osl e T a cap xs :: L)) (hx : gt xs i = some x) (hu : evl n b l u = pt (ab a) (ao a + i.toNat * e.sz + j)) (hv : evl n b l v = val)
    (hset : ∀ m cs, φ m → e.rep m cs x → ∃ cs', stv P t cs j val = some cs' ∧ e.rep m cs' y)
    (h : ∀ w', St G w' (osl e T a cap (xs.set i.toNat y) :: L) → K (mkF n b l) w') :
    ({ dst := none, op := .store t u v, type := ty, pos := pos, after := af, guard := gd } : Oper).wp P (mkF n b l) w K Q := by
  obtain ⟨h0, h1, h2⟩ := gt_some hx
  rcases osl_open (hst.pull 1) with ⟨rfl, rfl, rfl, hst1⟩ | ⟨g, cur, ecs, rfl, q3, q4, q5, q7, hst1⟩
  · simp at h1; omega
  · have hmk : ∃ c cs', ecs[i.toNat]? = some c ∧ stv P t c j val = some cs' ∧ St G w (al e (ecs.set i.toNat cs') (xs.set i.toNat y) :: blk g (.cells cur T (0, 0)) :: L) ∧ c.length = e.sz := by
      have h3 : St G w (al e ecs xs :: fct φ hφ :: blk g (.cells cur T (0, 0)) :: L) := (hst1.pull 2).pull 1
      have h4 := h3.and
      obtain ⟨c, hc, hrep⟩ := h4.pure (φ := ∃ c, ecs[i.toNat]? = some c ∧ ∃ cs', stv P t c j val = some cs' ∧ c.length = e.sz) (fun m f hA => by
        obtain ⟨k1, k2⟩ := (hA : All2 (e.rep m) ecs xs ∧ φ m)
        obtain ⟨c, hc, hr⟩ := k1.get _ _ h2
        obtain ⟨cs', hs, _⟩ := hset m c k2 hr
        exact ⟨c, hc, cs', hs, e.len _ _ _ hr⟩)
      obtain ⟨cs', hs, hl⟩ := hrep
      refine ⟨c, cs', hc, hs, h4.conv (fun m f hA => ?_), hl⟩
      obtain ⟨k1, k2⟩ := (hA : All2 (e.rep m) ecs xs ∧ φ m)
      obtain ⟨c', hc', hr⟩ := k1.get _ _ h2
      rw [hc] at hc'; cases hc'
      obtain ⟨cs2, hs2, hr2⟩ := hset m c k2 hr
      rw [hs] at hs2; cases hs2
      exact All2.set hr2 k1 _
    obtain ⟨c, cs', hc, hs, hst2, hl⟩ := hmk
    have hal := al_len hst1
    have hilt : i.toNat < ecs.length := by rw [hal.2.2]; omega
    -- the row, around the element
    have hdec : ecs = ecs.take i.toNat ++ c :: ecs.drop (i.toNat + 1) := by
      have := List.getElem?_eq_some_iff.1 hc
      obtain ⟨_, hce⟩ := this
      rw [← hce]; simp
    have hfl : ecs.flatten = (ecs.take i.toNat).flatten ++ c ++ (ecs.drop (i.toNat + 1)).flatten := by
      conv => lhs; rw [hdec]
      simp
    have hpre : (ecs.take i.toNat).flatten.length = i.toNat * e.sz := by
      have h5 := hst1.pure (φ := (ecs.take i.toNat).flatten.length = (xs.take i.toNat).length * e.sz) (fun m f (hA : All2 (e.rep m) ecs xs) => flat_length (hA.take _))
      rw [h5]; congr 1; simp; omega
    have hsp : ∃ inf, P.info? t = some inf ∧ Nat.beq val.cells.size inf.size = true ∧ j + inf.size ≤ c.length ∧ val.cells.toList.all Value.oneCell' = true ∧ cs' = setCells c j val.cells.toList := by
      unfold stv at hs
      cases hi : P.info? t with
      | none => simp [hi] at hs
      | some inf =>
        simp only [hi] at hs
        cases hcnd : (Nat.beq val.cells.size inf.size && Nat.ble (j + inf.size) c.length && val.cells.toList.all Value.oneCell') with
        | false => simp only [hcnd, cond_false] at hs; cases hs
        | true =>
          simp only [hcnd, cond_true, Option.some.injEq] at hs
          simp only [Bool.and_eq_true] at hcnd
          exact ⟨inf, rfl, hcnd.1.1, Nat.le_of_ble_eq_true hcnd.1.2, hcnd.2, hs.symm⟩
    obtain ⟨inf, hi, hsz, hle, hone, rfl⟩ := hsp
    have hvs : val.cells.toList.length = inf.size := by simpa using Nat.eq_of_beq_eq_true hsz
    have hcur : cur.toList = (ecs.take i.toNat).flatten ++ c ++ ((ecs.drop (i.toNat + 1)).flatten ++ cur.toList.drop (xs.length * e.sz)) := by
      conv => lhs; rw [← List.take_append_drop (xs.length * e.sz) cur.toList, q7, hfl]
      simp
    have hcurl : cur.toList.length = cap * e.sz := by simp [q5]
    have hfit : i.toNat * e.sz + j + inf.size ≤ cur.toList.length := by
      rw [hcur]; simp only [List.length_append, hpre, hl]; rw [hl] at hle; omega
    have hst3 : St G w (blk g (cl cur.toList T) :: al e (ecs.set i.toNat (setCells c j val.cells.toList)) (xs.set i.toNat y) :: L) := by
      have ecl : cl cur.toList T = .cells cur T (0, 0) := by simp [cl]
      rw [ecl]; exact hst2.pull 1
    have hstv : stv P t cur.toList (i.toNat * e.sz + j) val = some (setCells cur.toList (i.toNat * e.sz + j) val.cells.toList) := by
      unfold stv
      simp only [hi, hsz, hone, Bool.true_and, Bool.and_true]
      rw [show Nat.ble (i.toNat * e.sz + j + inf.size) cur.toList.length = true from Nat.ble_eq_true_of_le hfit]
      rfl
    refine O_store _ hst3 (off := i.toNat * e.sz + j) (by rw [hu]; simp [ab, ao]) hv hstv (fun w' hst4 => h w' ?_)
    have hnew : setCells cur.toList (i.toNat * e.sz + j) val.cells.toList = (ecs.take i.toNat).flatten ++ setCells c j val.cells.toList ++ ((ecs.drop (i.toNat + 1)).flatten ++ cur.toList.drop (xs.length * e.sz)) := by
      conv => lhs; rw [hcur]
      exact setCells_shift _ _ _ _ _ _ hpre.symm (by rw [hvs]; exact hle)
    have hsetl : (setCells c j val.cells.toList).length = c.length := by
      rw [setCells_spec _ _ _ (by rw [hvs]; exact hle)]; simp [hvs]; omega
    have hfl2 : (ecs.set i.toNat (setCells c j val.cells.toList)).flatten = (ecs.take i.toNat).flatten ++ setCells c j val.cells.toList ++ (ecs.drop (i.toNat + 1)).flatten := by
      rw [List.set_eq_take_append_cons_drop]
      simp [hilt]
    refine osl_shut (by simpa using q3) q4 ?_ ?_ (hst4.pull 1)
    · rw [← q5]
      have : (setCells cur.toList (i.toNat * e.sz + j) val.cells.toList).length = cur.toList.length := by
        rw [hnew]
        conv => rhs; rw [hcur]
        simp [hsetl]
      simpa using this
    · simp only [List.length_set]
      rw [hnew, hfl2]
      have hlen2 : ((ecs.take i.toNat).flatten ++ setCells c j val.cells.toList ++ (ecs.drop (i.toNat + 1)).flatten).length = xs.length * e.sz := by
        rw [← hal.1, hfl]
        simp [hsetl]
      rw [← List.append_assoc, List.take_append_of_le_length (by omega), List.take_of_length_le (by omega)]
end
end Go.Hx
