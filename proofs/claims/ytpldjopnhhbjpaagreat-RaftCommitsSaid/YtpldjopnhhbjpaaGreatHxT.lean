/-
  HxT: a pointer to what is read only, as data; maps that hold such pointers. Own work.
-/
import Derived.Test.YtpldjopnhhbjpaaGreatHxM
namespace Go.Hx
open Go.RowKit Go.MapKept

theorem All2.getL {α β : Type} {R : α → β → Prop} : ∀ {as : List α} {bs : List β}, All2 R as bs → ∀ (i : Nat) (a : α), as[i]? = some a → ∃ b, R a b
  | _ :: _, _ :: _, ⟨h1, _⟩, 0, _, hb => by simp at hb; subst hb; exact ⟨_, h1⟩
  | _ :: _, _ :: _, ⟨_, h2⟩, i + 1, b, hb => by simp at hb; exact All2.getL h2 i b hb
  | [], [], _, i, b, hb => by simp at hb
  | [], _ :: _, h, _, _, _ => h.elim
  | _ :: _, [], h, _, _, _ => h.elim

/-- a pointer that may be nil, to what is never written again -/
def rPt {α : Type} (e : Rp α) : Rp (Option α) :=
  ⟨Option Addr, 1, fun _ a => [.pointer a], fun x a m => match x with | none => a = none | some y => dslP e a 1 [y] m,
    fun x a m m' hm h => by cases x with | none => exact h | some y => exact dslP_mono e a 1 [y] m m' hm h, fun _ _ => rfl, fun _ _ => rfl⟩

def dpt {α : Type} (e : Rp α) (a : Option Addr) (x : Option α) : HP := fct ((rPt e).phi x a) ((rPt e).pmono x a)

section
variable {α β : Type} {e : Rp α} {P : Program} {Q : Exit → Act → World → Prop} {n : Nat} {b : Nat → Value} {l : List (Nat × Value)} {w G : World} {L : List HP} {K : Act → World → Prop} {a : Option Addr} {y : α}

theorem dpt_some (h : St G w (dpt e a (some y) :: L)) : St G w (dsl e a 1 [y] :: L) := h
theorem dpt_pick {x : Option α} (hx : x = some y) (h : St G w (dpt e a x :: L)) : St G w (dsl e a 1 [y] :: dpt e a x :: L) := by subst hx; exact h.dup
theorem dpt_of (h : St G w (dsl e a 1 [y] :: L)) : St G w (dpt e a (some y) :: L) := h
theorem dpt_nil (e : Rp α) (h : St G w L) : St G w (dpt e none none :: L) := h.triv fun _ => rfl

theorem dpt_addr (h : St G w (dsl e a 1 [y] :: L)) : Value.pointer a = pt (ab a) (ao a) := by
  have := h.pure (φ := ∃ p off, a = some ⟨p, off, none⟩) fun m _ hA => by
    obtain ⟨_, _, _, _, h5⟩ := (hA : dslP e a 1 [y] m)
    rcases h5 with h | ⟨p, off, _, _, _, h, _⟩
    · cases h
    · exact ⟨p, off, h⟩
  obtain ⟨p, off, rfl⟩ := this
  rfl

variable [DecidableEq β]

/-- an owned map whose values are told by e -/
def mpr (fk : β → Value) (e : Rp α) (b : Nat) (m : List (β × α)) : HP :=
  ⟨fun mm f => ∃ es c, f b = some (.map es c) ∧ Stamped es c ∧ All2 (fun (en : MapEntry) p => en.key = fk p.1 ∧ e.rep mm [en.val] p.2) es.toList m,
    fun _ _ _ hm h => by obtain ⟨es, c, h1, hs, h2⟩ := h; exact ⟨es, c, h1, hs, h2.mono fun _ _ h => ⟨h.1, e.mono _ _ _ _ hm h.2⟩⟩⟩

variable {fk : β → Value} {m : List (β × α)} {bl : Nat}

def EnR (fk : β → Value) (e : Rp α) (mm : Mem) (en : MapEntry) (p : β × α) : Prop := en.key = fk p.1 ∧ e.rep mm [en.val] p.2

theorem findR {d : TypeDesc} (hs : ∀ a b, Instr.sameNow d (fk a) (fk b) = some (decide (a = b))) (k : β) {mm : Mem} : ∀ (m : List (β × α)) (es : List MapEntry) (i : Nat), All2 (EnR fk e mm) es m →
    (∃ j v val, mget m k = some v ∧ e.rep mm [val] v ∧ Instr.findNow d (fk k) es i = some (some (i + j, val)) ∧ (∀ v' val', e.rep mm [val'] v' → All2 (EnR fk e mm) (es.modify j fun en => { en with key := fk k, val := val' }) (mput m k v')) ∧
      All2 (EnR fk e mm) (es.eraseIdx j) (mdel m k) ∧ j < es.length ∧ (es[j]?.map (·.key)) = some (fk k)) ∨
    (mget m k = none ∧ Instr.findNow d (fk k) es i = some none ∧ (∀ v' val' c, e.rep mm [val'] v' → All2 (EnR fk e mm) (es ++ [{ key := fk k, val := val', born := c }]) (mput m k v')) ∧ mdel m k = m)
  | [], [], i, _ => .inr ⟨rfl, rfl, fun v' val' c h => ⟨⟨rfl, h⟩, trivial⟩, rfl⟩
  | [], _ :: _, _, h => h.elim
  | _ :: _, [], _, h => h.elim
  | (a, v) :: m, en :: es, i, ⟨⟨h1, h2⟩, h3⟩ => by
    by_cases hk : k = a
    · subst hk
      left
      refine ⟨0, v, en.val, by simp [mget], h2, ?_, fun v' val' hv => ?_, ?_, by simp, by simp [h1]⟩
      · simp only [Instr.findNow, h1, hs, decide_true, Nat.add_zero]
      · simp only [mput, if_true, List.modify_zero_cons]
        exact ⟨⟨rfl, hv⟩, h3⟩
      · simp only [mdel, if_true, List.eraseIdx_zero, List.tail_cons]; exact h3
    · rcases findR hs k m es (i + 1) h3 with ⟨j, v', val, g1, g2, g3, g4, g5, g6, g7⟩ | ⟨g1, g2, g3, g4⟩
      · left
        refine ⟨j + 1, v', val, by simp [mget, hk, g1], g2, ?_, fun v2 val2 hv => ?_, ?_, by simp; omega, by simpa using g7⟩
        · simp only [Instr.findNow, h1, hs, hk, decide_false, g3]
          rw [show i + 1 + j = i + (j + 1) from by omega]
        · simp only [mput, hk, if_false, List.modify_succ_cons]
          exact ⟨⟨h1, h2⟩, g4 v2 val2 hv⟩
        · simp only [mdel, hk, if_false, List.eraseIdx_cons_succ]
          exact ⟨⟨h1, h2⟩, g5⟩
      · right
        refine ⟨by simp [mget, hk, g1], ?_, fun v' val' c hv => ?_, by simp [mdel, hk, g4]⟩
        · simp only [Instr.findNow, h1, hs, hk, decide_false, g2]
        · simp only [mput, hk, if_false, List.cons_append]
          exact ⟨⟨h1, h2⟩, g3 v' val' c hv⟩

/-- a map's type; z: what is there when nothing is -/
structure MapR (P : Program) (t kt et : TypeId) (fk : β → Value) (e : Rp α) (z : α) (zv : Value) : Prop where
  ht : P.underlying t = some (.map kt et)
  hk : Keys P kt fk
  hz : ∃ inf, P.info? et = some inf ∧ inf.zero = some zv
  hr : ∀ m : Mem, e.rep m [zv] z


variable {t kt et : TypeId} {bs : Nat → Value}

omit [DecidableEq β] in
theorem enR_mono {es : List MapEntry} {m : List (β × α)} : ∀ mm mm' : Mem, mm.le mm' → All2 (EnR fk e mm) es m → All2 (EnR fk e mm') es m := fun _ _ hm h => h.mono fun _ _ h => ⟨h.1, e.mono _ _ _ _ hm h.2⟩

omit [DecidableEq β] in
theorem mpr_open (h : St G w (mpr fk e bl m :: L)) : ∃ es c, Stamped es c ∧ St G w (fct (fun mm => All2 (EnR fk e mm) es.toList m) enR_mono :: blk bl (.map es c) :: L) := by
  obtain ⟨g1, g2, g3, g4, mm, f, hG, hm, hf, hd, f1, f2, k1, k2, k3, ⟨es, c, q1, qs, q2⟩, k5⟩ := h
  exact ⟨es, c, qs, g1, g2, g3, g4, mm, f, hG, hm, hf, hd, fun _ => none, f, fun _ => .inl rfl, (fun _ _ h => by cases h), Mem.le_refl _, q2, f1, f2, k1, k2, k3, q1, k5⟩

omit [DecidableEq β] in
theorem mpr_shut {es : Array MapEntry} {c : Nat} {hφ} (hs : Stamped es c) (h : St G w (fct (fun mm => All2 (EnR fk e mm) es.toList m) hφ :: blk bl (.map es c) :: L)) : St G w (mpr fk e bl m :: L) := by
  obtain ⟨g1, g2, g3, g4, mm, f, hG, hm, hf, hd, f1, f2, k1, k2, k3, k4, f3, f4, j1, j2, j3, j4, j5⟩ := h
  exact ⟨g1, g2, g3, g4, mm, f, hG, hm, hf, hd, f3, f4, j1, Mem.le_trans j2 k3, Mem.le_trans j3 k3, ⟨es, c, j4, hs, k4⟩, j5⟩

theorem mpr_look {z : α} {zv : Value} (hM : MapR P t kt et fk e z zv) (hst : St G w (mpr fk e bl m :: L)) (k : β) :
    ∃ val y, [val] = e.cells ((mget m k).getD z) y ∧ St G w (fct (e.phi ((mget m k).getD z) y) (e.pmono _ y) :: mpr fk e bl m :: L) ∧
      ∀ ok, (Instr.lookup t (.map (some bl)) (fk k) ok).run P w = .ok (if ok then .tuple #[val, .bool (mget m k).isSome] else val) w := by
  obtain ⟨d', hd', hi, hs⟩ := hM.hk.now
  obtain ⟨inf, h2, h3⟩ := hM.hz
  obtain ⟨g1, g2, g3, g4, mm, f, hG, hm, hf, hd, f1, f2, k1, k2, k3, ⟨es, c, q1, qs, q2⟩, k5⟩ := hst
  have hb : w.heap[bl]? = some (.map es c) := hf _ _ (k2 _ _ q1)
  rcases findR hs k m es.toList 0 q2 with ⟨j, v, val, p1, ⟨y, p2, p3⟩, p4, _⟩ | ⟨p1, p4, _⟩
  · refine ⟨val, y, by rw [p1]; exact p2, ⟨g1, g2, g3, g4, mm, f, hG, hm, hf, hd, fun _ => none, f, fun _ => .inl rfl, (fun _ _ h => by cases h), Mem.le_refl _, by rw [p1]; exact p3, f1, f2, k1, k2, k3, ⟨es, c, q1, qs, q2⟩, k5⟩, fun ok => ?_⟩
    cases ok <;> simp [Instr.lookup, run_underlying hM.ht, MapKept.run_getObj_map hb, run_checkKey hd' (hi k), run_findKey hd' p4, p1, Result.andThen]
  · obtain ⟨y, p2, p3⟩ := hM.hr mm
    refine ⟨zv, y, by rw [p1]; exact p2, ⟨g1, g2, g3, g4, mm, f, hG, hm, hf, hd, fun _ => none, f, fun _ => .inl rfl, (fun _ _ h => by cases h), Mem.le_refl _, by rw [p1]; exact p3, f1, f2, k1, k2, k3, ⟨es, c, q1, qs, q2⟩, k5⟩, fun ok => ?_⟩
    cases ok <;> simp [Instr.lookup, run_underlying hM.ht, MapKept.run_getObj_map hb, run_checkKey hd' (hi k), run_findKey hd' p4, p1, Result.andThen, zeroValue, typeInfo, h2, h3]

theorem O_lookP (hM : MapR P t kt et fk (rPt e) none (.pointer none)) {ty : TypeId} {x y : Operand} {d : Nat} {pos : String} {af : Array Edge} {gd : Option (Nat × Bool)} {m : List (β × Option α)} (k : β)
    (hst : St G w (mpr fk (rPt e) bl m :: L)) (hx : evl n bs l x = .map (some bl)) (hy : evl n bs l y = fk k) (hn : Nat.blt d n = true)
    (h : ∀ a, St G w (dpt e a ((mget m k).getD none) :: mpr fk (rPt e) bl m :: L) → K (mkF n bs ((d, .pointer a) :: l)) w) :
    ({ dst := some d, op := .lookup t x y false, type := ty, pos := pos, after := af, guard := gd } : Oper).wp P (mkF n bs l) w K Q := by
  obtain ⟨val, a, h1, h2, h3⟩ := mpr_look hM hst k
  obtain rfl : val = .pointer a := (List.cons.inj h1).1
  refine O_run (v := .pointer a) (w' := w) ?_ rfl hn (h a h2)
  have := h3 false
  simp only [Bool.false_eq_true, if_false] at this
  simp only [execOp, hx, hy, Sem.run_bind, this]
  rfl

theorem O_lookP2 (hM : MapR P t kt et fk (rPt e) none (.pointer none)) {ty : TypeId} {x y : Operand} {d : Nat} {pos : String} {af : Array Edge} {gd : Option (Nat × Bool)} {m : List (β × Option α)} (k : β)
    (hst : St G w (mpr fk (rPt e) bl m :: L)) (hx : evl n bs l x = .map (some bl)) (hy : evl n bs l y = fk k) (hn : Nat.blt d n = true)
    (h : ∀ a, St G w (dpt e a ((mget m k).getD none) :: mpr fk (rPt e) bl m :: L) → K (mkF n bs ((d, .tuple #[.pointer a, .bool (mget m k).isSome]) :: l)) w) :
    ({ dst := some d, op := .lookup t x y true, type := ty, pos := pos, after := af, guard := gd } : Oper).wp P (mkF n bs l) w K Q := by
  obtain ⟨val, a, h1, h2, h3⟩ := mpr_look hM hst k
  obtain rfl : val = .pointer a := (List.cons.inj h1).1
  refine O_run (v := .tuple #[.pointer a, .bool (mget m k).isSome]) (w' := w) ?_ rfl hn (h a h2)
  have := h3 true
  simp only [if_true] at this
  simp only [execOp, hx, hy, Sem.run_bind, this]
  rfl


theorem mpr_now (hk : Keys P kt fk) (k : β) (hst : St G w (mpr fk e bl m :: L)) :
    ∃ d', P.underlying kt = some d' ∧ (∀ a, IsKey d' (fk a)) ∧ ∃ es c, Stamped es c ∧ St G w (fct (fun mm => All2 (EnR fk e mm) es.toList m) enR_mono :: blk bl (.map es c) :: L) ∧
    ((∃ j val, j < es.size ∧ Instr.findNow d' (fk k) es.toList 0 = some (some (j, val)) ∧ (es[j]?.map (·.key)) = some (fk k) ∧
        (∀ mm v' val', All2 (EnR fk e mm) es.toList m → e.rep mm [val'] v' → All2 (EnR fk e mm) (es.toList.modify j fun en => { en with key := fk k, val := val' }) (mput m k v')) ∧
        (∀ mm, All2 (EnR fk e mm) es.toList m → All2 (EnR fk e mm) (es.toList.eraseIdx j) (mdel m k))) ∨
     (Instr.findNow d' (fk k) es.toList 0 = some none ∧ (∀ x ∈ es.toList, x.key ≠ fk k) ∧
        (∀ mm v' val' c', All2 (EnR fk e mm) es.toList m → e.rep mm [val'] v' → All2 (EnR fk e mm) (es.toList ++ [{ key := fk k, val := val', born := c' }]) (mput m k v')) ∧ mdel m k = m)) := by
  obtain ⟨d', hd', hi, hs⟩ := hk.now
  obtain ⟨es, c, hst1, h1⟩ := mpr_open hst
  refine ⟨d', hd', hi, es, c, hst1, h1, ?_⟩
  obtain ⟨mm, hmm⟩ : ∃ mm, All2 (EnR fk e mm) es.toList m := h1.pure fun mm _ h => ⟨mm, h⟩
  rcases findR hs k m es.toList 0 hmm with ⟨j, v, val, p1, _, p4, _, _, p7, p8⟩ | ⟨p1, p4, _, p6⟩
  · left
    rw [Nat.zero_add] at p4
    refine ⟨j, val, by simpa using p7, p4, by simpa using p8, fun mm' v' val' ha hv => ?_, fun mm' ha => ?_⟩
    · rcases findR hs k m es.toList 0 ha with ⟨j', _, _, _, _, q4, q5, _⟩ | ⟨_, q4, _⟩
      · rw [Nat.zero_add, p4] at q4
        simp only [Option.some.injEq, Prod.mk.injEq] at q4
        obtain ⟨rfl, _⟩ := q4
        exact q5 v' val' hv
      · rw [p4] at q4; simp at q4
    · rcases findR hs k m es.toList 0 ha with ⟨j', _, _, _, _, q4, _, q6, _⟩ | ⟨_, q4, _⟩
      · rw [Nat.zero_add, p4] at q4
        simp only [Option.some.injEq, Prod.mk.injEq] at q4
        obtain ⟨rfl, _⟩ := q4
        exact q6
      · rw [p4] at q4; simp at q4
  · right
    have hkn : ∀ x ∈ es.toList, x.key ≠ fk k := by
      have hik : ∀ x ∈ es.toList, IsKey d' x.key := fun x hx => by
        obtain ⟨i, hi2⟩ := List.getElem?_of_mem hx
        obtain ⟨p, hp⟩ := All2.getL hmm i x hi2
        rw [hp.1]; exact hi _
      rcases findNow_spec (hi k) es.toList 0 hik with ⟨_, h⟩ | ⟨j, e', h, _⟩
      · exact h
      · rw [p4] at h; simp at h
    refine ⟨p4, hkn, fun mm' v' val' c' ha hv => ?_, p6⟩
    rcases findR hs k m es.toList 0 ha with ⟨j', _, _, _, _, q4, _⟩ | ⟨_, _, q5, _⟩
    · rw [p4] at q4; simp at q4
    · exact q5 v' val' c' hv

theorem O_updP {z : Option α} {zv : Value} (hM : MapR P t kt et fk (rPt e) z zv) {ty : TypeId} {x y u : Operand} {pos : String} {af : Array Edge} {gd : Option (Nat × Bool)} {m : List (β × Option α)} (k : β) {x0 : Option α}
    (hst : St G w (mpr fk (rPt e) bl m :: dpt e a x0 :: L)) (hx : evl n bs l x = .map (some bl)) (hy : evl n bs l y = fk k) (hu : evl n bs l u = .pointer a)
    (h : ∀ w', St G w' (mpr fk (rPt e) bl (mput m k x0) :: dpt e a x0 :: L) → K (mkF n bs l) w') :
    ({ dst := none, op := .mapUpdate t x y u, type := ty, pos := pos, after := af, guard := gd } : Oper).wp P (mkF n bs l) w K Q := by
  obtain ⟨d', hd', hi, es, c, hsd, h1, hf⟩ := mpr_now hM.hk k hst
  have hb := (h1.pull 1).get
  have hset : ∀ o, w.grownBy { w with heap := w.heap.setIfInBounds bl o } (some bl) := fun o =>
    ⟨rfl, rfl, rfl, by simp, fun r hr hne => (heap_set hb).2 r (fun e => hne (by rw [e]))⟩
  have fin : ∀ (o : Obj) (es' : Array MapEntry) (c' : Nat), o = .map es' c' → Stamped es' c' → (∀ mm, All2 (EnR fk (rPt e) mm) es.toList m → (rPt e).phi x0 a mm → All2 (EnR fk (rPt e) mm) es'.toList (mput m k x0)) →
      St G { w with heap := w.heap.setIfInBounds bl o } (mpr fk (rPt e) bl (mput m k x0) :: dpt e a x0 :: L) := by
    rintro _ es' c' rfl hsd' hall
    have h2 := (h1.pull 1).turn (hset (.map es' c')) (heap_set hb).1
    -- the fact on the entries, and the one on what is written
    have h3 := ((h2.pull 2).dup.pull 3).and
    exact mpr_shut (es := es') (c := c') (hφ := enR_mono) hsd' ((h3.conv (B := fct (fun mm => All2 (EnR fk (rPt e) mm) es'.toList (mput m k x0)) enR_mono) (fun mm _ hA => hall mm (And.left hA) (And.right hA))).pull 2 |>.pull 1)
  rcases hf with ⟨j, val, g1, g2, g3, g4, _⟩ | ⟨g2, gk, g4, _⟩
  · have hj2 : ((es[j]?.map (·.key)).getD (fk k)) = fk k := by rw [g3]; rfl
    refine O_skip (w' := { w with heap := w.heap.setIfInBounds bl (.map (es.modify j fun en => { en with key := fk k, val := .pointer a }) c) }) ?_ rfl (h _ (fin _ _ _ rfl (stamped_modify hsd j _ (fun _ _ => rfl) (fun en _ hen => by rw [hen] at g3; exact (Option.some.inj g3).symm)) fun mm ha hp => ?_))
    · simp [execOp, hx, hy, hu, Instr.mapUpdate, run_underlying hM.ht, MapKept.run_getObj_map hb, run_checkKey hd' (hi k), run_findKey hd' g2, run_setObj_map _ hb, Result.andThen, hj2, run_keyThatStays (hi k)]
    · simpa using g4 mm x0 (.pointer a) ha ⟨a, rfl, hp⟩
  · refine O_skip (w' := { w with heap := w.heap.setIfInBounds bl (.map (es.push { key := fk k, val := .pointer a, born := c }) (c + 1)) }) ?_ rfl (h _ (fin _ _ _ rfl (stamped_push hsd gk) fun mm ha hp => ?_))
    · simp [execOp, hx, hy, hu, Instr.mapUpdate, run_underlying hM.ht, MapKept.run_getObj_map hb, run_checkKey hd' (hi k), run_findKey hd' g2, run_setObj_map _ hb, Result.andThen]
    · simpa using g4 mm x0 (.pointer a) c ha ⟨a, rfl, hp⟩

theorem O_delP {z : α} {zv : Value} (hM : MapR P t kt et fk e z zv) {ty kt' : TypeId} {x y : Operand} {pos : String} {af : Array Edge} {gd : Option (Nat × Bool)} (k : β)
    (hst : St G w (mpr fk e bl m :: L)) (hx : evl n bs l x = .map (some bl)) (hy : evl n bs l y = fk k)
    (h : ∀ w', St G w' (mpr fk e bl (mdel m k) :: L) → K (mkF n bs l) w') :
    ({ dst := none, op := .call { callee := .builtin .delete, args := #[x, y], argTypes := #[t, kt'] }, type := ty, pos := pos, after := af, guard := gd } : Oper).wp P (mkF n bs l) w K Q := by
  obtain ⟨d', hd', hi, es, c, hsd, h1, hf⟩ := mpr_now hM.hk k hst
  have hb := (h1.pull 1).get
  have hset : ∀ o, w.grownBy { w with heap := w.heap.setIfInBounds bl o } (some bl) := fun o =>
    ⟨rfl, rfl, rfl, by simp, fun r hr hne => (heap_set hb).2 r (fun e => hne (by rw [e]))⟩
  have fin : ∀ (o : Obj) (es' : Array MapEntry), o = .map es' c → Stamped es' c → (∀ mm, All2 (EnR fk e mm) es.toList m → All2 (EnR fk e mm) es'.toList (mdel m k)) →
      St G { w with heap := w.heap.setIfInBounds bl o } (mpr fk e bl (mdel m k) :: L) := by
    rintro _ es' rfl hsd' hall
    have h2 := (h1.pull 1).turn (hset (.map es' c)) (heap_set hb).1
    exact mpr_shut (es := es') (c := c) (hφ := enR_mono) hsd' ((h2.pull 1).conv (B := fct (fun mm => All2 (EnR fk e mm) es'.toList (mdel m k)) enR_mono) fun mm _ hA => hall mm hA)
  rcases hf with ⟨j, val, g1, g2, _, _, g5⟩ | ⟨g2, _, _, g5⟩
  · refine O_run0 (v := .tuple #[]) (w' := { w with heap := w.heap.setIfInBounds bl (.map (es.eraseIdxIfInBounds j) c) }) ?_ rfl (h _ (fin _ _ rfl (stamped_erase hsd j) fun mm ha => ?_))
    · simp [execOp, resolve, invoke, builtin, hx, hy, Builtin.delete_, run_underlying hM.ht, MapKept.run_getObj_map hb, run_checkKey hd' (hi k), run_findKey hd' g2, run_setObj_map _ hb, Result.andThen]
    · rw [Array.toList_eraseIdxIfInBounds]; exact g5 mm ha
  · refine O_run0 (v := .tuple #[]) (w' := { w with heap := w.heap.setIfInBounds bl (.map es c) }) ?_ rfl (h _ (fin _ _ rfl hsd fun mm ha => ?_))
    · simp [execOp, resolve, invoke, builtin, hx, hy, Builtin.delete_, run_underlying hM.ht, MapKept.run_getObj_map hb, run_checkKey hd' (hi k), run_findKey hd' g2, run_setObj_map _ hb, Result.andThen]
    · rw [g5]; exact ha

omit [DecidableEq β] in
theorem R_maplenR {ty : TypeId} {x : Operand} {d : Nat} {pos : String} {af : Array Edge} {gd : Option (Nat × Bool)} (ht : P.underlying t = some (.map kt et))
    (hst : St G w (mpr fk e bl m :: L)) (hx : evl n bs l x = .map (some bl)) :
    (execOp (evl n bs l) ({ dst := some d, op := .call { callee := .builtin .len, args := #[x], argTypes := #[t] }, type := ty, pos := pos, after := af, guard := gd } : Oper)).run P w = .ok (.value (I m.length)) w := by
  obtain ⟨es, c, _, h1⟩ := mpr_open hst
  have hb := (h1.pull 1).get
  have hl : es.size = m.length := h1.pure fun mm _ h => by have := All2.length h; simpa using this
  simp [execOp, resolve, invoke, builtin, hx, Builtin.len_, run_underlying ht, MapKept.run_getObj_map hb, Result.andThen, goInt, hl]

omit [DecidableEq β] in
theorem O_makeMapR {ty : TypeId} {d : Nat} {pos : String} {af : Array Edge} {gd : Option (Nat × Bool)} (fk : β → Value) (e : Rp α)
    (hst : St G w L) (hn : Nat.blt d n = true)
    (h : ∀ p w', St G w' (mpr fk e p ([] : List (β × α)) :: L) → K (mkF n bs ((d, .map (some p)) :: l)) w') : ({ dst := some d, op := .makeMap t none, type := ty, pos := pos, after := af, guard := gd } : Oper).wp P (mkF n bs l) w K Q := by
  refine O_run (v := .map (some w.heap.size)) (w' := w.alloc (.map #[] 0)) ?_ rfl hn (h _ _ ?_)
  · simp [execOp, Instr.makeMap, Result.andThen]
  · exact mpr_shut (es := #[]) (c := 0) (hφ := enR_mono) (stamped_empty 0) ((hst.alloc (.map #[] 0)).triv fun _ => trivial)

/-- a pointer is looked at: it is not nil -/
theorem R_nilc {ty : TypeId} {x : Operand} {d : Nat} {pos : String} {af : Array Edge} {gd : Option (Nat × Bool)} {y : α} (hst : St G w (dsl e a 1 [y] :: L)) (hx : evl n bs l x = .pointer a) :
    (execOp (evl n bs l) ({ dst := some d, op := .nilCheck x, type := ty, pos := pos, after := af, guard := gd } : Oper)).run P w = .ok (.value (pt (ab a) (ao a))) w := by
  have h1 := dpt_addr hst
  have h2 : ∃ q, a = some q := by cases a with | none => cases h1 | some q => exact ⟨q, rfl⟩
  obtain ⟨q, rfl⟩ := h2
  rw [← h1]
  simp [execOp, hx]

end
end Go.Hx
