/-
  HxN: maps whose keys are structs: they are found by ==. Own work.
-/
import Derived.Test.YtkbhnofclgibfaaHxU
import Derived.Tactics
namespace Go.Hx
open Go.RowKit Go.MapKept
section
variable {α β : Type} [DecidableEq α] {fk : α → Value} {fv : β → Value} {P : Program} {w G : World} {L : List HP} {b : Nat} {m : List (α × β)}

/-- keys that are told apart by == -/
structure KeysG (P : Program) (t : TypeId) (fk : α → Value) : Prop where
  slow : ∃ d, P.underlying t = some d ∧ ∀ a b, Instr.sameNow d (fk a) (fk b) = none
  chk : ∀ e a w, (Instr.checkKey e 10000 t (fk a)).run P w = .ok () w
  eq : ∀ a b w, (Op.equal t (fk a) (fk b)).run P w = .ok (decide (a = b)) w
  stay : ∀ a w, (Instr.keyThatStays (fk a) (fk a)).run P w = .ok (fk a) w

theorem findA_ents {t : TypeId} (hk : KeysG P t fk) (k : α) (w : World) : ∀ (m : List (α × β)) (es : List MapEntry) (i : Nat), ents fk fv m es →
    (∃ j v, mget m k = some v ∧ (Instr.findAsking t (fk k) es i).run P w = .ok (some (i + j, fv v)) w ∧ (∀ e', ents fk fv (mput m k e') (es.modify j fun e => { e with key := fk k, val := fv e' })) ∧ j < es.length ∧ (es[j]?.map (·.key)) = some (fk k)) ∨
    (mget m k = none ∧ (Instr.findAsking t (fk k) es i).run P w = .ok none w ∧ (∀ e' c, ents fk fv (mput m k e') (es ++ [{ key := fk k, val := fv e', born := c }])))
  | [], es, i, h => by
    have : es = [] := by cases es <;> simp [ents] at h ⊢
    subst this
    exact .inr ⟨rfl, rfl, fun e' c => rfl⟩
  | (a, v) :: m, es, i, h => by
    obtain ⟨e, es', rfl, h1, h2, h3⟩ := ents_cons h
    by_cases hka : k = a
    · subst hka
      left
      refine ⟨0, v, by simp [mget], ?_, fun e' => ?_, by simp, by simp [h1]⟩
      · simp [Instr.findAsking, h1, hk.eq, h2]
      · simp only [mput, if_true, List.modify_zero_cons]
        simp only [ents, List.map_cons, List.cons.injEq, true_and]
        exact h3
    · rcases findA_ents hk k w m es' (i + 1) h3 with ⟨j, v', g1, g2, g3, g5, g6⟩ | ⟨g1, g2, g3⟩
      · left
        refine ⟨j + 1, v', by simp [mget, hka, g1], ?_, fun e' => ?_, by simp; omega, by simpa using g6⟩
        · simp [Instr.findAsking, h1, hk.eq, hka, g2]
          omega
        · simp only [mput, hka, if_false, List.modify_succ_cons]
          simp only [ents, List.map_cons, List.cons.injEq, h1, h2, true_and]
          exact g3 e'
      · right
        refine ⟨by simp [mget, hka, g1], ?_, fun e' c => ?_⟩
        · simp [Instr.findAsking, h1, hk.eq, hka, g2]
        · simp only [mput, hka, if_false, List.cons_append]
          simp only [ents, List.map_cons, List.cons.injEq, h1, h2, true_and]
          exact g3 e' c

theorem findKey_slow {t : TypeId} (hk : KeysG P t fk) (k : α) (w : World) (m : List (α × β)) (es : List MapEntry) (h : ents fk fv m es) :
    (Instr.findKey t (fk k) es).run P w = (Instr.findAsking t (fk k) es).run P w := by
  obtain ⟨d, hd, hs⟩ := hk.slow
  cases es with
  | nil => simp [Instr.findKey, run_underlying hd, Instr.findNow, Instr.findAsking]
  | cons e es =>
    cases m with
    | nil => simp [ents] at h
    | cons p m =>
      obtain ⟨e', es', he, h1, _, _⟩ := ents_cons (a := p.1) (v := p.2) h
      obtain ⟨rfl, rfl⟩ := List.cons.inj he
      simp [Instr.findKey, run_underlying hd, Instr.findNow, h1, hs]

variable {Q : Exit → Act → World → Prop} {n : Nat} {bs : Nat → Value} {l : List (Nat × Value)} {K : Act → World → Prop}

/-- a map's type, keys that are structs -/
structure MapG (P : Program) (t kt et : TypeId) (fk : α → Value) (fv : β → Value) (z : β) : Prop where
  ht : P.underlying t = some (.map kt et)
  hk : KeysG P kt fk
  hz : ∃ inf, P.info? et = some inf ∧ inf.zero = some (fv z)

variable {t kt et : TypeId} {z : β}

theorem R_lookupG (hM : MapG P t kt et fk fv z) {ty : TypeId} {x y : Operand} {d : Nat} {pos : String} {af : Array Edge} {gd : Option (Nat × Bool)} {k : α} (ok : Bool)
    (hst : St G w (mpo fk fv b m :: L)) (hx : evl n bs l x = .map (some b)) (hy : evl n bs l y = fk k) :
    (execOp (evl n bs l) ({ dst := some d, op := .lookup t x y ok, type := ty, pos := pos, after := af, guard := gd } : Oper)).run P w = .ok (.value (if ok then .tuple #[fv ((mget m k).getD z), .bool (mget m k).isSome] else fv ((mget m k).getD z))) w := by
  obtain ⟨es, c, he, h1⟩ := mpo_open hst
  obtain ⟨inf, h2, h3⟩ := hM.hz
  have hb := h1.get
  have hf := findKey_slow hM.hk k w m es.toList he
  rcases findA_ents hM.hk k w m es.toList 0 he with ⟨j, v, g1, g2, _⟩ | ⟨g1, g2, _⟩
  · rw [g2] at hf
    cases ok <;> simp [execOp, hx, hy, Instr.lookup, run_underlying hM.ht, MapKept.run_getObj_map hb, hM.hk.chk, hf, g1, Result.andThen]
  · rw [g2] at hf
    cases ok <;> simp [execOp, hx, hy, Instr.lookup, run_underlying hM.ht, MapKept.run_getObj_map hb, hM.hk.chk, hf, g1, Result.andThen, zeroValue, typeInfo, h2, h3]

theorem O_mapUpdateG (hM : MapG P t kt et fk fv z) {ty : TypeId} {x y u : Operand} {pos : String} {af : Array Edge} {gd : Option (Nat × Bool)} {k : α} {v : β}
    (hst : St G w (mpo fk fv b m :: L)) (hx : evl n bs l x = .map (some b)) (hy : evl n bs l y = fk k) (hu : evl n bs l u = fv v)
    (h : ∀ w', St G w' (mpo fk fv b (mput m k v) :: L) → K (mkF n bs l) w') : ({ dst := none, op := .mapUpdate t x y u, type := ty, pos := pos, after := af, guard := gd } : Oper).wp P (mkF n bs l) w K Q := by
  obtain ⟨es, c, he, h1⟩ := mpo_open hst
  have hb := h1.get
  have hf := findKey_slow hM.hk k w m es.toList he
  have hset : ∀ o, w.grownBy { w with heap := w.heap.setIfInBounds b o } (some b) := fun o =>
    ⟨rfl, rfl, rfl, by simp, fun r hr hne => (heap_set hb).2 r (fun e => hne (by rw [e]))⟩
  rcases findA_ents hM.hk k w m es.toList 0 he with ⟨j, v', g1, g2, g3, g5, g6⟩ | ⟨g1, g2, g3⟩
  · rw [g2] at hf
    have hj : es[j]?.map (·.key) = some (fk k) := by simpa using g6
    have hj2 : ((es[j]?.map (·.key)).getD (fk k)) = fk k := by rw [hj]; rfl
    refine O_skip (w' := { w with heap := w.heap.setIfInBounds b (.map (es.modify j fun e => { e with key := fk k, val := fv v }) c) }) ?_ rfl (h _ ?_)
    · simp [execOp, hx, hy, hu, Instr.mapUpdate, run_underlying hM.ht, MapKept.run_getObj_map hb, hM.hk.chk, hf, run_setObj_map _ hb, Result.andThen, hj2, hM.hk.stay]
    · exact mpo_shut (by simpa using g3 v) (h1.turn (hset _) (heap_set hb).1)
  · rw [g2] at hf
    refine O_skip (w' := { w with heap := w.heap.setIfInBounds b (.map (es.push { key := fk k, val := fv v, born := c }) (c + 1)) }) ?_ rfl (h _ ?_)
    · simp [execOp, hx, hy, hu, Instr.mapUpdate, run_underlying hM.ht, MapKept.run_getObj_map hb, hM.hk.chk, hf, run_setObj_map _ hb, Result.andThen]
    · exact mpo_shut (by simpa using g3 v c) (h1.turn (hset _) (heap_set hb).1)
end
end Go.Hx
