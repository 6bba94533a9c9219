/-
  HxM: maps that a call owns: their entries as a list of pairs, in the order in which they came. Own work.
-/
import Derived.Test.YtpldjopnhhbjpaaGreatHxH
import Derived.MapKept
namespace Go.Hx
open Go.RowKit Go.MapKept

def mget {α β : Type} [DecidableEq α] (m : List (α × β)) (k : α) : Option β := match m with
  | [] => none
  | e :: m => if k = e.1 then some e.2 else mget m k
def mput {α β : Type} [DecidableEq α] (m : List (α × β)) (k : α) (v : β) : List (α × β) := match m with
  | [] => [(k, v)]
  | e :: m => if k = e.1 then (k, v) :: m else e :: mput m k v
def mdel {α β : Type} [DecidableEq α] (m : List (α × β)) (k : α) : List (α × β) := match m with
  | [] => []
  | e :: m => if k = e.1 then m else e :: mdel m k

section
variable {α β : Type} [DecidableEq α] {fk : α → Value} {fv : β → Value} {P : Program} {w G : World} {L : List HP} {b : Nat} {m : List (α × β)}

def ents (fk : α → Value) (fv : β → Value) (m : List (α × β)) (es : List MapEntry) : Prop := es.map (fun e => (e.key, e.val)) = m.map (fun p => (fk p.1, fv p.2))

/-- an owned map -/
def mpo (fk : α → Value) (fv : β → Value) (b : Nat) (m : List (α × β)) : HP :=
  ⟨fun _ f => ∃ es c, f b = some (.map es c) ∧ ents fk fv m es.toList, fun _ _ _ _ h => h⟩

/-- keys of a kind that is told apart at once -/
structure Keys (P : Program) (t : TypeId) (fk : α → Value) : Prop where
  kind : ∃ d, P.underlying t = some d ∧ ∀ a, IsKey d (fk a)
  inj : ∀ a b, fk a = fk b → a = b

theorem keys_int {t : TypeId} {k : IntKind} (h : P.underlying t = some (.int k)) : Keys P t (fun n => .int k n) :=
  ⟨⟨_, h, fun _ => rfl⟩, fun a b h => by injection h⟩

theorem keys_str {t : TypeId} (h : P.underlying t = some .string) : Keys P t S :=
  ⟨⟨_, h, fun _ => trivial⟩, fun a b h => by injection h with h; injection h with h; simpa using h⟩

theorem Keys.now {t : TypeId} (hk : Keys P t fk) : ∃ d, P.underlying t = some d ∧ (∀ a, IsKey d (fk a)) ∧ ∀ a b, Instr.sameNow d (fk a) (fk b) = some (decide (a = b)) := by
  obtain ⟨⟨d, hd, hi⟩, inj⟩ := hk
  refine ⟨d, hd, hi, fun a b => ?_⟩
  obtain ⟨r, h1, h2⟩ := sameNow_of_keys (hi a) (hi b)
  rw [h1]
  congr 1
  rw [Bool.eq_iff_iff, h2, decide_eq_true_eq]
  exact ⟨inj a b, fun h => by rw [h]⟩

omit [DecidableEq α] in
theorem ents_cons {a : α} {v : β} {m : List (α × β)} {es : List MapEntry} (h : ents fk fv ((a, v) :: m) es) : ∃ e es', es = e :: es' ∧ e.key = fk a ∧ e.val = fv v ∧ ents fk fv m es' := by
  cases es with
  | nil => simp [ents] at h
  | cons e es' =>
    simp only [ents, List.map_cons, List.cons.injEq, Prod.mk.injEq] at h
    exact ⟨e, es', rfl, h.1.1, h.1.2, h.2⟩

theorem find_ents {d : TypeDesc} (hs : ∀ a b, Instr.sameNow d (fk a) (fk b) = some (decide (a = b))) (k : α) : ∀ (m : List (α × β)) (es : List MapEntry) (i : Nat), ents fk fv m es →
    (∃ j v, mget m k = some v ∧ Instr.findNow d (fk k) es i = some (some (i + j, fv v)) ∧ (∀ e', ents fk fv (mput m k e') (es.modify j fun e => { e with key := fk k, val := fv e' })) ∧ ents fk fv (mdel m k) (es.eraseIdx j) ∧ j < es.length ∧ (es[j]?.map (·.key)) = some (fk k)) ∨
    (mget m k = none ∧ Instr.findNow d (fk k) es i = some none ∧ (∀ e' c, ents fk fv (mput m k e') (es ++ [{ key := fk k, val := fv e', born := c }])) ∧ mdel m k = m)
  | [], es, i, h => by
    have : es = [] := by cases es <;> simp [ents] at h ⊢
    subst this
    exact .inr ⟨rfl, rfl, fun e' c => rfl, rfl⟩
  | (a, v) :: m, es, i, h => by
    obtain ⟨e, es', rfl, h1, h2, h3⟩ := ents_cons h
    by_cases hk : k = a
    · subst hk
      left
      refine ⟨0, v, by simp [mget], ?_, fun e' => ?_, ?_, by simp, by simp [h1]⟩
      · simp only [Instr.findNow, h1, hs, decide_true, h2, Nat.add_zero]
      · simp only [mput, if_true, List.modify_zero_cons]
        simp only [ents, List.map_cons, List.cons.injEq, true_and]
        exact h3
      · simp only [mdel, if_true, List.eraseIdx_zero, List.tail_cons]; exact h3
    · rcases find_ents hs k m es' (i + 1) h3 with ⟨j, v', g1, g2, g3, g4, g5, g6⟩ | ⟨g1, g2, g3, g4⟩
      · left
        refine ⟨j + 1, v', by simp [mget, hk, g1], ?_, fun e' => ?_, ?_, by simp; omega, by simpa using g6⟩
        · simp only [Instr.findNow, h1, hs, hk, decide_false, g2]
          rw [show i + 1 + j = i + (j + 1) from by omega]
        · simp only [mput, hk, if_false, List.modify_succ_cons]
          simp only [ents, List.map_cons, List.cons.injEq, h1, h2, true_and]
          exact g3 e'
        · simp only [mdel, hk, if_false, List.eraseIdx_cons_succ]
          simp only [ents, List.map_cons, List.cons.injEq, h1, h2, true_and]
          exact g4
      · right
        refine ⟨by simp [mget, hk, g1], ?_, fun e' c => ?_, by simp [mdel, hk, g4]⟩
        · simp only [Instr.findNow, h1, hs, hk, decide_false, g2]
        · simp only [mput, hk, if_false, List.cons_append]
          simp only [ents, List.map_cons, List.cons.injEq, h1, h2, true_and]
          exact g3 e' c

omit [DecidableEq α] in
theorem mpo_open (h : St G w (mpo fk fv b m :: L)) : ∃ es c, ents fk fv m es.toList ∧ St G w (blk b (.map es c) :: L) := by
  obtain ⟨⟨es, c⟩, h1⟩ := St.ex (α := Array MapEntry × Nat) (B := fun p => (⟨fun _ f => f b = some (.map p.1 p.2) ∧ ents fk fv m p.1.toList, fun _ _ _ _ h => h⟩ : HP)) (fun _ _ h => by obtain ⟨es, c, h1, h2⟩ := h; exact ⟨(es, c), h1, h2⟩) h
  exact ⟨es, c, St.pure (fun _ _ h => And.right h) h1, St.conv (fun _ _ h => And.left h) h1⟩

omit [DecidableEq α] in
theorem mpo_shut {es : Array MapEntry} {c : Nat} (he : ents fk fv m es.toList) (h : St G w (blk b (.map es c) :: L)) : St G w (mpo fk fv b m :: L) := h.conv fun _ _ h => ⟨es, c, h, he⟩

variable {Q : Exit → Act → World → Prop} {n : Nat} {bs : Nat → Value} {l : List (Nat × Value)} {K : Act → World → Prop}

/-- a map's type: keys, elements, and the element's zero -/
structure MapT (P : Program) (t kt et : TypeId) (fk : α → Value) (fv : β → Value) (z : β) : Prop where
  ht : P.underlying t = some (.map kt et)
  hk : Keys P kt fk
  hz : ∃ inf, P.info? et = some inf ∧ inf.zero = some (fv z)

variable {t kt et : TypeId} {z : β}

theorem R_lookup (hM : MapT P t kt et fk fv z) {ty : TypeId} {x y : Operand} {d : Nat} {pos : String} {af : Array Edge} {gd : Option (Nat × Bool)} {k : α} (ok : Bool)
    (hst : St G w (mpo fk fv b m :: L)) (hx : evl n bs l x = .map (some b)) (hy : evl n bs l y = fk k) :
    (execOp (evl n bs l) ({ dst := some d, op := .lookup t x y ok, type := ty, pos := pos, after := af, guard := gd } : Oper)).run P w = .ok (.value (if ok then .tuple #[fv ((mget m k).getD z), .bool (mget m k).isSome] else fv ((mget m k).getD z))) w := by
  obtain ⟨es, c, he, h1⟩ := mpo_open hst
  obtain ⟨d', hd', hi, hs⟩ := hM.hk.now
  obtain ⟨inf, h2, h3⟩ := hM.hz
  have hb := h1.get
  rcases find_ents hs k m es.toList 0 he with ⟨j, v, g1, g2, _⟩ | ⟨g1, g2, _⟩
  · cases ok <;> simp [execOp, hx, hy, Instr.lookup, run_underlying hM.ht, MapKept.run_getObj_map hb, run_checkKey hd' (hi k), run_findKey hd' g2, g1, Result.andThen]
  · cases ok <;> simp [execOp, hx, hy, Instr.lookup, run_underlying hM.ht, MapKept.run_getObj_map hb, run_checkKey hd' (hi k), run_findKey hd' g2, g1, Result.andThen, zeroValue, typeInfo, h2, h3]

omit [DecidableEq α] in
theorem R_maplen {ty : TypeId} {x : Operand} {d : Nat} {pos : String} {af : Array Edge} {gd : Option (Nat × Bool)} (ht : P.underlying t = some (.map kt et))
    (hst : St G w (mpo fk fv b m :: L)) (hx : evl n bs l x = .map (some b)) :
    (execOp (evl n bs l) ({ dst := some d, op := .call { callee := .builtin .len, args := #[x], argTypes := #[t] }, type := ty, pos := pos, after := af, guard := gd } : Oper)).run P w = .ok (.value (I m.length)) w := by
  obtain ⟨es, c, he, h1⟩ := mpo_open hst
  have hb := h1.get
  have hl : es.size = m.length := by have := congrArg List.length he; simpa using this
  simp [execOp, resolve, invoke, builtin, hx, Builtin.len_, run_underlying ht, MapKept.run_getObj_map hb, Result.andThen, goInt, hl]

omit [DecidableEq α] in
theorem O_makeMap {ty : TypeId} {d : Nat} {pos : String} {af : Array Edge} {gd : Option (Nat × Bool)} (fk : α → Value) (fv : β → Value)
    (hst : St G w L) (hn : Nat.blt d n = true)
    (h : ∀ p w', St G w' (mpo fk fv p ([] : List (α × β)) :: L) → K (mkF n bs ((d, .map (some p)) :: l)) w') : ({ dst := some d, op := .makeMap t none, type := ty, pos := pos, after := af, guard := gd } : Oper).wp P (mkF n bs l) w K Q := by
  refine O_run (v := .map (some w.heap.size)) (w' := w.alloc (.map #[] 0)) ?_ rfl hn (h _ _ ?_)
  · simp [execOp, Instr.makeMap, Result.andThen]
  · exact mpo_shut (es := #[]) (c := 0) rfl (hst.alloc _)

theorem O_mapUpdate (hM : MapT P t kt et fk fv z) {ty : TypeId} {x y u : Operand} {pos : String} {af : Array Edge} {gd : Option (Nat × Bool)} {k : α} {v : β}
    (hst : St G w (mpo fk fv b m :: L)) (hx : evl n bs l x = .map (some b)) (hy : evl n bs l y = fk k) (hu : evl n bs l u = fv v)
    (h : ∀ w', St G w' (mpo fk fv b (mput m k v) :: L) → K (mkF n bs l) w') : ({ dst := none, op := .mapUpdate t x y u, type := ty, pos := pos, after := af, guard := gd } : Oper).wp P (mkF n bs l) w K Q := by
  obtain ⟨es, c, he, h1⟩ := mpo_open hst
  obtain ⟨d', hd', hi, hs⟩ := hM.hk.now
  have hb := h1.get
  have hset : ∀ o, w.grownBy { w with heap := w.heap.setIfInBounds b o } (some b) := fun o =>
    ⟨rfl, rfl, rfl, by simp, fun r hr hne => (heap_set hb).2 r (fun e => hne (by rw [e]))⟩
  rcases find_ents hs k m es.toList 0 he with ⟨j, v', g1, g2, g3, _, g5, g6⟩ | ⟨g1, g2, g3, _⟩
  · have hj : es[j]?.map (·.key) = some (fk k) := by simpa using g6
    have hj2 : ((es[j]?.map (·.key)).getD (fk k)) = fk k := by rw [hj]; rfl
    refine O_skip (w' := { w with heap := w.heap.setIfInBounds b (.map (es.modify j fun e => { e with key := fk k, val := fv v }) c) }) ?_ rfl (h _ ?_)
    · simp [execOp, hx, hy, hu, Instr.mapUpdate, run_underlying hM.ht, MapKept.run_getObj_map hb, run_checkKey hd' (hi k), run_findKey hd' g2, run_setObj_map _ hb, Result.andThen, hj2, run_keyThatStays (hi k)]
    · exact mpo_shut (by simpa using g3 v) (h1.turn (hset _) (heap_set hb).1)
  · refine O_skip (w' := { w with heap := w.heap.setIfInBounds b (.map (es.push { key := fk k, val := fv v, born := c }) (c + 1)) }) ?_ rfl (h _ ?_)
    · simp [execOp, hx, hy, hu, Instr.mapUpdate, run_underlying hM.ht, MapKept.run_getObj_map hb, run_checkKey hd' (hi k), run_findKey hd' g2, run_setObj_map _ hb, Result.andThen]
    · exact mpo_shut (by simpa using g3 v c) (h1.turn (hset _) (heap_set hb).1)

theorem O_delete (hM : MapT P t kt et fk fv z) {ty kt' : TypeId} {x y : Operand} {pos : String} {af : Array Edge} {gd : Option (Nat × Bool)} {k : α}
    (hst : St G w (mpo fk fv b m :: L)) (hx : evl n bs l x = .map (some b)) (hy : evl n bs l y = fk k)
    (h : ∀ w', St G w' (mpo fk fv b (mdel m k) :: L) → K (mkF n bs l) w') :
    ({ dst := none, op := .call { callee := .builtin .delete, args := #[x, y], argTypes := #[t, kt'] }, type := ty, pos := pos, after := af, guard := gd } : Oper).wp P (mkF n bs l) w K Q := by
  obtain ⟨es, c, he, h1⟩ := mpo_open hst
  obtain ⟨d', hd', hi, hs⟩ := hM.hk.now
  have hb := h1.get
  have hset : ∀ o, w.grownBy { w with heap := w.heap.setIfInBounds b o } (some b) := fun o =>
    ⟨rfl, rfl, rfl, by simp, fun r hr hne => (heap_set hb).2 r (fun e => hne (by rw [e]))⟩
  rcases find_ents hs k m es.toList 0 he with ⟨j, v', g1, g2, _, g4, g5, _⟩ | ⟨g1, g2, _, g4⟩
  · refine O_run0 (v := .tuple #[]) (w' := { w with heap := w.heap.setIfInBounds b (.map (es.eraseIdxIfInBounds j) c) }) ?_ rfl (h _ ?_)
    · simp [execOp, resolve, invoke, builtin, hx, hy, Builtin.delete_, run_underlying hM.ht, MapKept.run_getObj_map hb, run_checkKey hd' (hi k), run_findKey hd' g2, run_setObj_map _ hb, Result.andThen]
    · exact mpo_shut (by rw [Array.toList_eraseIdxIfInBounds]; exact g4) (h1.turn (hset _) (heap_set hb).1)
  · refine O_run0 (v := .tuple #[]) (w' := { w with heap := w.heap.setIfInBounds b (.map es c) }) ?_ rfl (h _ ?_)
    · simp [execOp, resolve, invoke, builtin, hx, hy, Builtin.delete_, run_underlying hM.ht, MapKept.run_getObj_map hb, run_checkKey hd' (hi k), run_findKey hd' g2, run_setObj_map _ hb, Result.andThen]
    · rw [g4]
      exact mpo_shut he (h1.turn (hset _) (heap_set hb).1)

end
end Go.Hx
