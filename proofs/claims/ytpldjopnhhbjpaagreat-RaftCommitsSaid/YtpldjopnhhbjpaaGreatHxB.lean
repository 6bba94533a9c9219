/-
  HxB: what a call owns of memory, and what is read only. Own work.
-/
import Derived.Test.YtpldjopnhhbjpaaGreatHxA
import Derived.Below
import Derived.Laws.AppendOwn
namespace Go.Hx
open Go.RowKit

abbrev Mem := Nat → Option Obj

def Mem.le (m m' : Mem) : Prop := ∀ b o, m b = some o → m' b = some o

theorem Mem.le_refl (m : Mem) : m.le m := fun _ _ h => h
theorem Mem.le_trans {m m' m'' : Mem} (h : m.le m') (h' : m'.le m'') : m.le m'' := fun b o k => h' b o (h b o k)

/-- a statement on the read-only memory and on what is owned; more read-only memory does no harm -/
structure HP where
  h : Mem → Mem → Prop
  mono : ∀ m m' f, m.le m' → h m f → h m' f

def stars : List HP → Mem → Mem → Prop
  | [], _, _ => True
  | A :: L, m, f => ∃ f1 f2 : Mem, (∀ b, f1 b = none ∨ f2 b = none) ∧ f1.le f ∧ f2.le f ∧ A.h m f1 ∧ stars L m f2

theorem stars_mono : ∀ (L : List HP) {m m' f : Mem}, m.le m' → stars L m f → stars L m' f
  | [], _, _, _, _, _ => trivial
  | A :: L, _, _, _, hm, ⟨f1, f2, h1, h2, h3, h4, h5⟩ => ⟨f1, f2, h1, h2, h3, A.mono _ _ _ hm h4, stars_mono L hm h5⟩

theorem stars_up : ∀ (L : List HP) {m f f' : Mem}, f.le f' → stars L m f → stars L m f'
  | [], _, _, _, _, _ => trivial
  | _ :: _, _, _, _, hf, ⟨f1, f2, h1, h2, h3, h4, h5⟩ => ⟨f1, f2, h1, Mem.le_trans h2 hf, Mem.le_trans h3 hf, h4, h5⟩

/-- The world at hand: what was there when the ground was taken is as it was; L is owned. -/
def St (G w : World) (L : List HP) : Prop :=
  w.os = G.os ∧ w.tape = G.tape ∧ w.output = G.output ∧ G.heap.size ≤ w.heap.size ∧
  ∃ m f : Mem, (∀ b, b < G.heap.size → m b = G.heap[b]?) ∧ (∀ b o, m b = some o → w.heap[b]? = some o) ∧ (∀ b o, f b = some o → w.heap[b]? = some o) ∧
    (∀ b, m b = none ∨ f b = none) ∧ stars L m f

theorem St.below {G w : World} {L : List HP} (h : St G w L) : Below G.heap.size G w := by
  obtain ⟨h1, h2, h3, h4, m, f, hG, hm, hf, hd, hs⟩ := h
  refine ⟨h1, h2, h3, h4, fun k hk => ?_⟩
  have h5 := hG k hk
  rw [← h5]
  cases hv : m k with
  | none => rw [h5] at hv; simp at hv; omega
  | some o => rw [hm k o hv]

/-! ### order -/
theorem stars_swap {A B : HP} {L : List HP} {m f : Mem} (h : stars (A :: B :: L) m f) : stars (B :: A :: L) m f := by
  obtain ⟨f1, f2, h1, h2, h3, h4, g1, g2, k1, k2, k3, k4, k5⟩ := h
  refine ⟨g1, fun b => match f1 b with | some o => some o | none => g2 b, ?_, Mem.le_trans k2 h3, ?_, k4, f1, g2, ?_, ?_, ?_, h4, k5⟩
  · intro b
    rcases k1 b with h | h
    · exact .inl h
    · rcases h1 b with h' | h'
      · simp only [h', h]; exact .inr trivial
      · cases hg : g1 b with
        | none => exact .inl rfl
        | some o => have := k2 b o hg; rw [h'] at this; cases this
  · intro b o hb
    cases hf1 : f1 b with
    | some o' => simp only [hf1] at hb; exact h2 b o (hf1.trans hb)
    | none => simp only [hf1] at hb; exact h3 b o (k3 b o hb)
  · intro b
    rcases h1 b with h | h
    · exact .inl h
    · right
      cases hg : g2 b with
      | none => rfl
      | some o => have := k3 b o hg; rw [h] at this; cases this
  · intro b o hb; simp only [hb]
  · intro b o hb
    cases hf1 : f1 b with
    | none => show (match f1 b with | some o => some o | none => g2 b) = some o; rw [hf1]; exact hb
    | some o' =>
      rcases h1 b with h | h
      · rw [hf1] at h; cases h
      · have := k3 b o hb; rw [h] at this; cases this

theorem stars_cons {A : HP} {L L' : List HP} (h : ∀ m f, stars L m f → stars L' m f) {m f : Mem} (hs : stars (A :: L) m f) : stars (A :: L') m f := by
  obtain ⟨f1, f2, h1, h2, h3, h4, h5⟩ := hs
  exact ⟨f1, f2, h1, h2, h3, h4, h _ _ h5⟩

def at' : Nat → List HP → List HP
  | _, [] => []
  | 0, L => L
  | i + 1, A :: L => match at' i L with
    | [] => A :: L
    | B :: L' => B :: A :: L'

theorem stars_at : ∀ (i : Nat) (L : List HP) {m f : Mem}, stars L m f → stars (at' i L) m f
  | 0, [], _, _, h => h
  | _ + 1, [], _, _, h => h
  | 0, _ :: _, _, _, h => h
  | i + 1, A :: L, m, f, h => by
    have h1 : stars (A :: at' i L) m f := stars_cons (fun _ _ h => stars_at i L h) h
    unfold at'
    cases hL : at' i L with
    | nil => exact h
    | cons B L' => rw [hL] at h1; exact stars_swap h1

/-- the i-th comes ahead -/
theorem St.pull {G w : World} {L : List HP} (i : Nat) (h : St G w L) : St G w (at' i L) := by
  obtain ⟨h1, h2, h3, h4, m, f, hG, hm, hf, hd, hs⟩ := h
  exact ⟨h1, h2, h3, h4, m, f, hG, hm, hf, hd, stars_at i L hs⟩

theorem St.drop {G w : World} {A : HP} {L : List HP} (h : St G w (A :: L)) : St G w L := by
  obtain ⟨h1, h2, h3, h4, m, f, hG, hm, hf, hd, f1, f2, k1, k2, k3, k4, k5⟩ := h
  exact ⟨h1, h2, h3, h4, m, f, hG, hm, hf, hd, stars_up _ k3 k5⟩

theorem stars_cut : ∀ (k j : Nat) (L : List HP) {m f : Mem}, stars L m f → stars (L.take k ++ L.drop (k + j)) m f
  | 0, 0, L, _, _, h => by simpa using h
  | 0, j + 1, [], _, _, _ => by simp [stars]
  | 0, j + 1, A :: L, m, f, ⟨f1, f2, h1, h2, h3, h4, h5⟩ => by
    have := stars_cut 0 j L (stars_up _ h3 h5)
    simpa using this
  | k + 1, j, [], _, _, _ => by simp [stars]
  | k + 1, j, A :: L, m, f, h => by
    have h1 : stars (A :: (L.take k ++ L.drop (k + j))) m f := stars_cons (fun _ _ h => stars_cut k j L h) h
    have e : k + 1 + j = (k + j) + 1 := by omega
    rw [e]
    exact h1

/-- j of them behind the first k go -/
theorem St.cut {G w : World} {L : List HP} (k j : Nat) (h : St G w L) : St G w (L.take k ++ L.drop (k + j)) := by
  obtain ⟨h1, h2, h3, h4, m, f, hG, hm, hf, hd, hs⟩ := h
  exact ⟨h1, h2, h3, h4, m, f, hG, hm, hf, hd, stars_cut k j L hs⟩

/-- what follows of the first one -/
theorem St.conv {G w : World} {A B : HP} {L : List HP} (hAB : ∀ m f, A.h m f → B.h m f) (h : St G w (A :: L)) : St G w (B :: L) := by
  obtain ⟨h1, h2, h3, h4, m, f, hG, hm, hf, hd, f1, f2, k1, k2, k3, k4, k5⟩ := h
  exact ⟨h1, h2, h3, h4, m, f, hG, hm, hf, hd, f1, f2, k1, k2, k3, hAB _ _ k4, k5⟩

theorem St.ex {G w : World} {α : Type} {A : HP} {B : α → HP} {L : List HP} (hAB : ∀ m f, A.h m f → ∃ x, (B x).h m f) (h : St G w (A :: L)) : ∃ x, St G w (B x :: L) := by
  obtain ⟨h1, h2, h3, h4, m, f, hG, hm, hf, hd, f1, f2, k1, k2, k3, k4, k5⟩ := h
  obtain ⟨x, hx⟩ := hAB _ _ k4
  exact ⟨x, h1, h2, h3, h4, m, f, hG, hm, hf, hd, f1, f2, k1, k2, k3, hx, k5⟩

theorem St.pure {G w : World} {φ : Prop} {A : HP} {L : List HP} (hA : ∀ m f, A.h m f → φ) (h : St G w (A :: L)) : φ := by
  obtain ⟨h1, h2, h3, h4, m, f, hG, hm, hf, hd, f1, f2, k1, k2, k3, k4, k5⟩ := h
  exact hA _ _ k4

/-! ### what the world does -/
theorem St.drawn {G w w' : World} {L : List HP} (hh : w'.heap = w.heap) (ho : w'.os = w.os) (ht : w'.tape = w.tape) (hp : w'.output = w.output) (h : St G w L) : St G w' L := by
  obtain ⟨h1, h2, h3, h4, m, f, hG, hm, hf, hd, hs⟩ := h
  exact ⟨ho.trans h1, ht.trans h2, hp.trans h3, by rw [hh]; exact h4, m, f, hG, by rw [hh]; exact hm, by rw [hh]; exact hf, hd, hs⟩

theorem St.draw {G w : World} {L : List HP} {n : Nat} (h : St G w L) : St G { w with drawn := n } L := h.drawn rfl rfl rfl rfl

/-- an owned block -/
def blk (b : Nat) (o : Obj) : HP := ⟨fun _ f => f b = some o, fun _ _ _ _ h => h⟩

theorem St.get {G w : World} {b : Nat} {o : Obj} {L : List HP} (h : St G w (blk b o :: L)) : w.heap[b]? = some o := by
  obtain ⟨h1, h2, h3, h4, m, f, hG, hm, hf, hd, f1, f2, k1, k2, k3, k4, k5⟩ := h
  exact hf _ _ (k2 _ _ k4)

theorem St.size_le {G w : World} {L : List HP} (h : St G w L) : G.heap.size ≤ w.heap.size := h.2.2.2.1

theorem St.base_le {G w : World} {b : Nat} {o : Obj} {L : List HP} (h : St G w (blk b o :: L)) : G.heap.size ≤ b := by
  obtain ⟨h1, h2, h3, h4, m, f, hG, hm, hf, hd, f1, f2, k1, k2, k3, k4, k5⟩ := h
  rcases Nat.lt_or_ge b G.heap.size with hlt | hge
  · have hb := hf _ _ (k2 _ _ k4)
    rcases hd b with h | h
    · rw [hG b hlt] at h; simp at h; omega
    · have := k2 _ _ k4; rw [h] at this; cases this
  · exact hge

/-- an owned block turns; nothing else does -/
theorem St.turn {G w w' : World} {b : Nat} {o o' : Obj} {L : List HP} (h : St G w (blk b o :: L)) (hg : w.grownBy w' (some b)) (hb : w'.heap[b]? = some o') :
    St G w' (blk b o' :: L) := by
  have hbase := h.base_le
  obtain ⟨h1, h2, h3, h4, m, f, hG, hm, hf, hd, f1, f2, k1, k2, k3, k4, k5⟩ := h
  have hlt : ∀ k o, w.heap[k]? = some o → k < w.heap.size := fun k o h => (Array.getElem?_eq_some_iff.1 h).1
  have hne : f2 b = none := by
    rcases k1 b with h | h
    · have h0 : f1 b = some o := k4
      rw [h0] at h; cases h
    · exact h
  refine ⟨hg.os.trans h1, hg.tape.trans h2, hg.output.trans h3, Nat.le_trans h4 hg.size, m, fun k => if k = b then some o' else f2 k, hG, ?_, ?_, ?_,
    (fun k => if k = b then some o' else none), f2, ?_, ?_, ?_, ?_, k5⟩
  · intro k x hk
    rw [hg.block k (hlt _ _ (hm k x hk)) ?_]
    · exact hm k x hk
    · intro he
      simp only [Option.some.injEq] at he
      subst he
      rcases hd k with h | h
      · rw [h] at hk; cases hk
      · have := k2 _ _ k4; rw [h] at this; cases this
  · intro k x hk
    by_cases e : k = b
    · subst e; simp at hk; subst hk; exact hb
    · simp only [e, if_false] at hk
      have := hf _ _ (k3 _ _ hk)
      rw [hg.block k (hlt _ _ this) (by simp [e])]
      exact this
  · intro k
    by_cases e : k = b
    · subst e
      rcases hd k with h | h
      · exact .inl h
      · have := k2 _ _ k4; rw [h] at this; cases this
    · simp only [e, if_false]
      rcases hd k with h | h
      · exact .inl h
      · right
        cases hv : f2 k with
        | none => rfl
        | some x => have := k3 _ _ hv; rw [h] at this; cases this
  · intro k
    by_cases e : k = b
    · subst e; exact .inr hne
    · simp [e]
  · intro k x hk
    by_cases e : k = b
    · simpa [e] using hk
    · simp [e] at hk
  · intro k x hk
    by_cases e : k = b
    · subst e; rw [hne] at hk; cases hk
    · simpa [e] using hk
  · simp [blk]

/-- nothing that was there turns; what is new is nobody's -/
theorem St.grown {G w w' : World} {L : List HP} (h : St G w L) (hg : w.grownBy w' none) : St G w' L := by
  obtain ⟨h1, h2, h3, h4, m, f, hG, hm, hf, hd, hs⟩ := h
  have hlt : ∀ k o, w.heap[k]? = some o → k < w.heap.size := fun k o h => (Array.getElem?_eq_some_iff.1 h).1
  refine ⟨hg.os.trans h1, hg.tape.trans h2, hg.output.trans h3, Nat.le_trans h4 hg.size, m, f, hG, ?_, ?_, hd, hs⟩
  · intro k x hk; rw [hg.block k (hlt _ _ (hm k x hk)) (by simp)]; exact hm k x hk
  · intro k x hk; rw [hg.block k (hlt _ _ (hf k x hk)) (by simp)]; exact hf k x hk

/-- nothing that was there turns; a new block is owned -/
theorem St.new {G w w' : World} {L : List HP} {b : Nat} {o : Obj} (h : St G w L) (hg : w.grownBy w' none) (hb : w.heap.size ≤ b) (ho : w'.heap[b]? = some o) : St G w' (blk b o :: L) := by
  have hs' := h.size_le
  obtain ⟨h1, h2, h3, h4, m, f, hG, hm, hf, hd, hs⟩ := h.grown hg
  have hlt : ∀ k o, w.heap[k]? = some o → k < w.heap.size := fun k o h => (Array.getElem?_eq_some_iff.1 h).1
  obtain ⟨g1, g2, g3, g4, m0, f0, hG0, hm0, hf0, hd0, hs0⟩ := h
  have hmb : m0 b = none := by
    cases hv : m0 b with
    | none => rfl
    | some x => have := hlt _ _ (hm0 b x hv); omega
  have hfb : f0 b = none := by
    cases hv : f0 b with
    | none => rfl
    | some x => have := hlt _ _ (hf0 b x hv); omega
  refine ⟨h1, h2, h3, h4, m0, fun k => if k = b then some o else f0 k, hG0, ?_, ?_, ?_, (fun k => if k = b then some o else none), f0, ?_, ?_, ?_, ?_, hs0⟩
  · intro k x hk; rw [hg.block k (hlt _ _ (hm0 k x hk)) (by simp)]; exact hm0 k x hk
  · intro k x hk
    by_cases e : k = b
    · subst e; simp at hk; subst hk; exact ho
    · simp only [e, if_false] at hk
      rw [hg.block k (hlt _ _ (hf0 k x hk)) (by simp)]; exact hf0 k x hk
  · intro k
    by_cases e : k = b
    · subst e; exact .inl hmb
    · simp only [e, if_false]; exact hd0 k
  · intro k
    by_cases e : k = b
    · subst e; exact .inr hfb
    · simp [e]
  · intro k x hk
    by_cases e : k = b
    · simpa [e] using hk
    · simp [e] at hk
  · intro k x hk
    by_cases e : k = b
    · subst e; rw [hfb] at hk; cases hk
    · simpa [e] using hk
  · simp [blk]

theorem grownBy_refl (w : World) (r : Option Nat) : w.grownBy w r := ⟨rfl, rfl, rfl, Nat.le_refl _, fun _ _ _ => rfl⟩

theorem St.alloc {G w : World} {L : List HP} (o : Obj) (h : St G w L) : St G (w.alloc o) (blk w.heap.size o :: L) :=
  h.new (World.grownBy_alloc w o none) (Nat.le_refl _) (heap_alloc_new w o)

/-- a statement on the read-only memory alone -/
def fct (φ : Mem → Prop) (hφ : ∀ m m', m.le m' → φ m → φ m') : HP := ⟨fun m _ => φ m, fun m m' _ hm h => hφ m m' hm h⟩

theorem St.dup {G w : World} {φ : Mem → Prop} {hφ : ∀ m m', m.le m' → φ m → φ m'} {L : List HP} (h : St G w (fct φ hφ :: L)) : St G w (fct φ hφ :: fct φ hφ :: L) := by
  obtain ⟨h1, h2, h3, h4, m, f, hG, hm, hf, hd, f1, f2, k1, k2, k3, k4, k5⟩ := h
  exact ⟨h1, h2, h3, h4, m, f, hG, hm, hf, hd, f1, f2, k1, k2, k3, k4, fun _ => none, f2, fun _ => .inl rfl, (fun _ _ h => by cases h), Mem.le_refl _, k4, k5⟩

/-- a new fact, out of the first one -/
theorem St.add {G w : World} {A : HP} {φ : Mem → Prop} {hφ : ∀ m m', m.le m' → φ m → φ m'} {L : List HP} (hA : ∀ m f, A.h m f → φ m) (h : St G w (A :: L)) : St G w (fct φ hφ :: A :: L) := by
  obtain ⟨h1, h2, h3, h4, m, f, hG, hm, hf, hd, f1, f2, k1, k2, k3, k4, k5⟩ := h
  exact ⟨h1, h2, h3, h4, m, f, hG, hm, hf, hd, fun _ => none, f, fun _ => .inl rfl, (fun _ _ h => by cases h), Mem.le_refl _, hA _ _ k4, f1, f2, k1, k2, k3, k4, k5⟩

/-- a fact that holds in whatever memory -/
theorem St.triv {G w : World} {φ : Mem → Prop} {hφ : ∀ m m', m.le m' → φ m → φ m'} {L : List HP} (hA : ∀ m, φ m) (h : St G w L) : St G w (fct φ hφ :: L) := by
  obtain ⟨h1, h2, h3, h4, m, f, hG, hm, hf, hd, hs⟩ := h
  exact ⟨h1, h2, h3, h4, m, f, hG, hm, hf, hd, fun _ => none, f, fun _ => .inl rfl, (fun _ _ h => by cases h), Mem.le_refl _, hA _, hs⟩

/-- what is owned becomes read-only -/
theorem St.freeze {G w : World} {A : HP} {φ : Mem → Prop} {hφ : ∀ m m', m.le m' → φ m → φ m'} {L : List HP}
    (hA : ∀ m f (m' : Mem), m.le m' → f.le m' → A.h m f → φ m') (h : St G w (A :: L)) : St G w (fct φ hφ :: L) := by
  have hsz := h.size_le
  obtain ⟨h1, h2, h3, h4, m, f, hG, hm, hf, hd, f1, f2, k1, k2, k3, k4, k5⟩ := h
  have hmf : ∀ b o, f1 b = some o → m b = none := fun b o hb => by
    rcases hd b with h | h
    · exact h
    · have := k2 _ _ hb; rw [h] at this; cases this
  have hle : m.le (fun b => match m b with | some o => some o | none => f1 b) := fun b o hb => by simp only [hb]
  have hle1 : f1.le (fun b => match m b with | some o => some o | none => f1 b) := fun b o hb => by simp only [hmf b o hb, hb]
  refine ⟨h1, h2, h3, h4, (fun b => match m b with | some o => some o | none => f1 b), f2, ?_, ?_, ?_, ?_, ?_⟩
  · intro b hb
    have := hG b hb
    cases hv : m b with
    | some o => simp only [hv]; rw [← hv]; exact this
    | none => rw [hv] at this; simp at this; omega
  · intro b o hb
    cases hv : m b with
    | some x => simp only [hv] at hb; exact hm b o (hv.trans hb)
    | none => simp only [hv] at hb; exact hf _ _ (k2 _ _ hb)
  · intro b o hb; exact hf _ _ (k3 _ _ hb)
  · intro b
    cases hv : f2 b with
    | none => exact .inr rfl
    | some x =>
      left
      have h1 : m b = none := by
        rcases hd b with h | h
        · exact h
        · have := k3 _ _ hv; rw [h] at this; cases this
      have h2 : f1 b = none := by
        rcases k1 b with h | h
        · exact h
        · rw [h] at hv; cases hv
      simp only [h1, h2]
  · exact ⟨fun _ => none, f2, fun _ => .inl rfl, (fun _ _ h => by cases h), Mem.le_refl _, hA m f1 _ hle hle1 k4, stars_mono _ hle k5⟩

end Go.Hx
