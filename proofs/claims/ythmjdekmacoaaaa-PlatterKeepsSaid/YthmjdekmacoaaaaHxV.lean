/-
  HxV: a range over an owned map, in whatever order. Own work.
-/
import Derived.Test.YthmjdekmacoaaaaHxT
import Derived.Maps.RangeRun
namespace Go.Hx
open Go.RowKit Go.MapKept

def okM {α β : Type} (f : α → Bool) (p : β × Option α) : Bool := match p.2 with | some y => f y | none => true

def allM {α β : Type} (f : α → Bool) (m : List (β × Option α)) : Option Bool :=
  if (m.all fun p => p.2.isSome) = true then some (m.all (okM f)) else none

section
variable {α β : Type} {e : Rp α} {P : Program} {Q : Exit → Act → World → Prop} {n : Nat} {bs : Nat → Value} {l : List (Nat × Value)} {w G : World} {L : List HP} {K : Act → World → Prop}
variable {fk : β → Value} {m : List (β × α)} {bl it : Nat} {es : Array MapEntry} {c : Nat} {seen : Array Nat}

abbrev ents2 (fk : β → Value) (e : Rp α) (es : Array MapEntry) (m : List (β × α)) : HP := fct (fun mm => All2 (EnR fk e mm) es.toList m) enR_mono

theorem O_range {t kt et ty : TypeId} {x : Operand} {d : Nat} {pos : String} {af : Array Edge} {gd : Option (Nat × Bool)} (ht : P.underlying t = some (.map kt et))
    (hst : St G w (ents2 fk e es m :: blk bl (.map es c) :: L)) (hx : evl n bs l x = .map (some bl)) (hn : Nat.blt d n = true)
    (h : ∀ it w', St G w' (blk it (.mapIter (some bl) c #[] c) :: ents2 fk e es m :: blk bl (.map es c) :: L) → K (mkF n bs ((d, pt it 0) :: l)) w') :
    ({ dst := some d, op := .range t x, type := ty, pos := pos, after := af, guard := gd } : Oper).wp P (mkF n bs l) w K Q := by
  have hb := (hst.pull 1).get
  refine O_run (v := pt w.heap.size 0) (w' := w.alloc (.mapIter (some bl) c #[] c)) ?_ rfl hn (h _ _ (hst.alloc _))
  simp only [execOp, hx, Sem.run_bind, run_range_map w t kt et bl es c ht hb]
  rfl

theorem O_next {ty : TypeId} {x : Operand} {d : Nat} {pos : String} {af : Array Edge} {gd : Option (Nat × Bool)} (hsd : Stamped es c)
    (hst : St G w (blk it (.mapIter (some bl) c seen c) :: ents2 fk e es m :: blk bl (.map es c) :: L)) (hx : evl n bs l x = pt it 0) (hn : Nat.blt d n = true)
    (h0 : (leftOf es seen).size = 0 → K (mkF n bs ((d, .tuple #[.bool false]) :: l)) w)
    (h1 : ∀ en w', en ∈ (leftOf es seen).toList → St G w' (blk it (.mapIter (some bl) c (seen.push en.born) c) :: ents2 fk e es m :: blk bl (.map es c) :: L) → K (mkF n bs ((d, .tuple #[.bool true, en.key, en.val]) :: l)) w') :
    ({ dst := some d, op := .next x false, type := ty, pos := pos, after := af, guard := gd } : Oper).wp P (mkF n bs l) w K Q := by
  have hr := hst.get
  have hb := (hst.pull 2).get
  rcases run_next_at (P := P) w ty it bl c c seen es c hr hb hsd.1 (Nat.le_refl _) with ⟨g0, g1⟩ | ⟨en, he, w1, hw1, g1⟩
  · refine O_run (v := .tuple #[.bool false]) (w' := w) ?_ rfl hn (h0 g0)
    simp only [execOp, hx, Sem.run_bind, g1]
    rfl
  · refine O_run (v := .tuple #[.bool true, en.key, en.val]) (w' := Go.ChangeMaps.setBlock w1 it (.mapIter (some bl) c (seen.push en.born) c)) ?_ rfl hn (h1 en _ he ?_)
    · simp only [execOp, hx, Sem.run_bind, g1]
      rfl
    · have hh : w1.heap = w.heap := by rcases hw1 with rfl | rfl <;> rfl
      have h2 : St G w1 (blk it (.mapIter (some bl) c seen c) :: ents2 fk e es m :: blk bl (.map es c) :: L) := by
        rcases hw1 with rfl | rfl
        · exact hst
        · exact hst.drawn rfl rfl rfl rfl
      have hr1 : w1.heap[it]? = some (.mapIter (some bl) c seen c) := by rw [hh]; exact hr
      exact h2.turn ⟨rfl, rfl, rfl, by simp [Go.ChangeMaps.setBlock], fun k hk hne => (heap_set hr1).2 k (fun h => hne (by rw [h]))⟩ (heap_set hr1).1

theorem R_entry {ty : TypeId} {x : Operand} {d : Nat} {pos : String} {af : Array Edge} {gd : Option (Nat × Bool)} {en : MapEntry} (hsd : Stamped es c) (hen : en ∈ es.toList)
    (hst : St G w (blk it (.mapIter (some bl) c (seen.push en.born) c) :: ents2 fk e es m :: blk bl (.map es c) :: L)) (hx : evl n bs l x = pt it 0) :
    (execOp (evl n bs l) ({ dst := some d, op := .entry x, type := ty, pos := pos, after := af, guard := gd } : Oper)).run P w = .ok (.value (.tuple #[en.key, en.val])) w := by
  have h := run_entry_at (P := P) w it bl c seen es c en hst.get (hst.pull 2).get hen hsd.2.1
  simp only [execOp, hx, Sem.run_bind, h]
  rfl

theorem All2.at {γ δ : Type} {R : γ → δ → Prop} : ∀ {as : List γ} {bs : List δ}, All2 R as bs → ∀ (i : Nat) (a : γ), as[i]? = some a → ∃ b, bs[i]? = some b ∧ R a b
  | _ :: _, _ :: _, ⟨h1, _⟩, 0, _, hb => by simp at hb; subst hb; exact ⟨_, rfl, h1⟩
  | _ :: _, _ :: _, ⟨_, h2⟩, i + 1, b, hb => by simp at hb ⊢; exact All2.at h2 i b hb
  | [], [], _, i, b, hb => by simp at hb
  | [], _ :: _, h, _, _, _ => h.elim
  | _ :: _, [], h, _, _, _ => h.elim

/-- the entry that came: its place, its pointer, what it points to -/
theorem ents_at {m : List (β × Option α)} {en : MapEntry} (hen : en ∈ es.toList) (hst : St G w (ents2 fk (rPt e) es m :: L)) :
    ∃ (i : Nat) (p : β × Option α) (a : Option Addr), es.toList[i]? = some en ∧ m[i]? = some p ∧ en.val = .pointer a ∧ St G w (dpt e a p.2 :: ents2 fk (rPt e) es m :: L) := by
  obtain ⟨i, hi⟩ := List.getElem?_of_mem hen
  obtain ⟨p, a, hp, ha⟩ : ∃ (p : β × Option α) (a : Option Addr), m[i]? = some p ∧ en.val = .pointer a := hst.pure fun mm _ h => by
    obtain ⟨p, hp, _, a, h2, _⟩ := All2.at (show All2 (EnR fk (rPt e) mm) es.toList m from h) i en hi
    exact ⟨p, a, hp, (List.cons.inj h2).1⟩
  refine ⟨i, p, a, hi, hp, ha, hst.add (φ := (rPt e).phi p.2 a) fun mm _ h => ?_⟩
  obtain ⟨p', hp', _, a', h2, h3⟩ := All2.at (show All2 (EnR fk (rPt e) mm) es.toList m from h) i en hi
  rw [hp] at hp'
  obtain rfl := Option.some.inj hp'
  have h4 := (List.cons.inj h2).1
  rw [ha] at h4
  injection h4 with h4
  subst h4
  exact h3

theorem ents_len {e : Rp α} (hst : St G w (ents2 fk e es m :: L)) : es.toList.length = m.length := hst.pure fun mm _ h => All2.length (show All2 (EnR fk e mm) es.toList m from h)
end
end Go.Hx
