/-
  HxD: lists in memory: owned rows, rows that are read only. Own work.
-/
import Derived.Test.YtpldjopnhhbjpaaGreatHxC
namespace Go.Hx
open Go.RowKit

/-- how a kind of values lies in cells: y is what the value does not say (where lists lie, their room) -/
structure Rp (α : Type) where
  β : Type
  sz : Nat
  cells : α → β → List Value
  phi : α → β → Mem → Prop
  pmono : ∀ x y m m', m.le m' → phi x y m → phi x y m'
  clen : ∀ x y, (cells x y).length = sz
  cone : ∀ x y, (cells x y).all Value.oneCell' = true

def Rp.rep {α : Type} (e : Rp α) (m : Mem) (cs : List Value) (x : α) : Prop := ∃ y, cs = e.cells x y ∧ e.phi x y m
theorem Rp.mono {α : Type} (e : Rp α) (m m' : Mem) (cs : List Value) (x : α) (hm : m.le m') (h : e.rep m cs x) : e.rep m' cs x := let ⟨y, h1, h2⟩ := h; ⟨y, h1, e.pmono _ _ _ _ hm h2⟩
theorem Rp.len {α : Type} (e : Rp α) (m : Mem) (cs : List Value) (x : α) (h : e.rep m cs x) : cs.length = e.sz := let ⟨y, h1, _⟩ := h; h1 ▸ e.clen x y
theorem Rp.one {α : Type} (e : Rp α) (m : Mem) (cs : List Value) (x : α) (h : e.rep m cs x) : cs.all Value.oneCell' = true := let ⟨y, h1, _⟩ := h; h1 ▸ e.cone x y

def All2 {α β : Type} (R : α → β → Prop) : List α → List β → Prop
  | [], [] => True
  | a :: as, b :: bs => R a b ∧ All2 R as bs
  | _, _ => False

theorem All2.mono {α β : Type} {R R' : α → β → Prop} (h : ∀ a b, R a b → R' a b) : ∀ {as : List α} {bs : List β}, All2 R as bs → All2 R' as bs
  | [], [], _ => trivial
  | _ :: _, _ :: _, ⟨h1, h2⟩ => ⟨h _ _ h1, All2.mono h h2⟩
  | [], _ :: _, h => h.elim
  | _ :: _, [], h => h.elim

theorem All2.app {α β : Type} {R : α → β → Prop} : ∀ {as : List α} {bs : List β} {cs : List α} {ds : List β}, All2 R as bs → All2 R cs ds → All2 R (as ++ cs) (bs ++ ds)
  | [], [], _, _, _, h => h
  | _ :: _, _ :: _, _, _, ⟨h1, h2⟩, h => ⟨h1, All2.app h2 h⟩
  | [], _ :: _, _, _, h, _ => h.elim
  | _ :: _, [], _, _, h, _ => h.elim

theorem All2.length {α β : Type} {R : α → β → Prop} : ∀ {as : List α} {bs : List β}, All2 R as bs → as.length = bs.length
  | [], [], _ => rfl
  | _ :: _, _ :: _, ⟨_, h2⟩ => by simp [All2.length h2]
  | [], _ :: _, h => h.elim
  | _ :: _, [], h => h.elim

theorem All2.get {α β : Type} {R : α → β → Prop} : ∀ {as : List α} {bs : List β}, All2 R as bs → ∀ (i : Nat) (b : β), bs[i]? = some b → ∃ a, as[i]? = some a ∧ R a b
  | _ :: _, _ :: _, ⟨h1, _⟩, 0, _, hb => by simp at hb; subst hb; exact ⟨_, by simp, h1⟩
  | _ :: _, _ :: _, ⟨_, h2⟩, i + 1, b, hb => by simp at hb ⊢; exact All2.get h2 i b hb
  | [], [], _, i, b, hb => by simp at hb
  | [], _ :: _, h, _, _, _ => h.elim
  | _ :: _, [], h, _, _, _ => h.elim

theorem All2.take {α β : Type} {R : α → β → Prop} : ∀ {as : List α} {bs : List β}, All2 R as bs → ∀ k : Nat, All2 R (as.take k) (bs.take k)
  | _, _, _, 0 => by simp [All2]
  | _ :: _, _ :: _, ⟨h1, h2⟩, k + 1 => ⟨h1, All2.take h2 k⟩
  | [], [], _, _ + 1 => trivial
  | [], _ :: _, h, _ => h.elim
  | _ :: _, [], h, _ => h.elim

theorem All2.drop {α β : Type} {R : α → β → Prop} : ∀ {as : List α} {bs : List β}, All2 R as bs → ∀ k : Nat, All2 R (as.drop k) (bs.drop k)
  | _, _, h, 0 => by simpa using h
  | _ :: _, _ :: _, ⟨_, h2⟩, k + 1 => by simpa using All2.drop h2 k
  | [], [], _, _ + 1 => trivial
  | [], _ :: _, h, _ => h.elim
  | _ :: _, [], h, _ => h.elim

theorem All2.set {α β : Type} {R : α → β → Prop} {a : α} {b : β} (hab : R a b) : ∀ {as : List α} {bs : List β}, All2 R as bs → ∀ k : Nat, All2 R (as.set k a) (bs.set k b)
  | _ :: _, _ :: _, ⟨_, h2⟩, 0 => ⟨hab, h2⟩
  | _ :: _, _ :: _, ⟨h1, h2⟩, k + 1 => ⟨h1, All2.set hab h2 k⟩
  | [], [], _, _ => trivial
  | [], _ :: _, h, _ => h.elim
  | _ :: _, [], h, _ => h.elim

section
variable {α : Type} {e : Rp α} {m : Mem}

theorem flat_length : ∀ {ecs : List (List Value)} {xs : List α}, All2 (e.rep m) ecs xs → ecs.flatten.length = xs.length * e.sz
  | [], [], _ => by simp
  | a :: as, b :: bs, ⟨h1, h2⟩ => by
    simp only [List.flatten_cons, List.length_append, e.len _ _ _ h1, flat_length h2, List.length_cons, Nat.add_mul]
    omega
  | [], _ :: _, h => h.elim
  | _ :: _, [], h => h.elim

theorem flat_one : ∀ {ecs : List (List Value)} {xs : List α}, All2 (e.rep m) ecs xs → ecs.flatten.all Value.oneCell' = true
  | [], [], _ => by simp
  | a :: as, b :: bs, ⟨h1, h2⟩ => by
    simp only [List.flatten_cons, List.all_append, e.one _ _ _ h1, flat_one h2, Bool.and_self]
  | [], _ :: _, h => h.elim
  | _ :: _, [], h => h.elim

/-- the cells of the i-th element -/
theorem flat_get : ∀ {ecs : List (List Value)} {xs : List α}, All2 (e.rep m) ecs xs → ∀ (i : Nat) (c : List Value), ecs[i]? = some c → ∀ j v, c[j]? = some v → ecs.flatten[i * e.sz + j]? = some v
  | a :: as, b :: bs, ⟨h1, h2⟩, 0, c, hc, j, v, hj => by
    simp at hc; subst hc
    have hlt := (List.getElem?_eq_some_iff.1 hj).1
    simp [List.getElem?_append_left hlt, hj]
  | a :: as, b :: bs, ⟨h1, h2⟩, i + 1, c, hc, j, v, hj => by
    simp at hc
    have hl := e.len _ _ _ h1
    have ih := flat_get h2 i c hc j v hj
    simp only [List.flatten_cons]
    rw [List.getElem?_append_right (by rw [hl, Nat.add_mul]; omega), hl]
    rw [show (i + 1) * e.sz + j - e.sz = i * e.sz + j from by rw [Nat.add_mul]; omega]
    exact ih
  | [], [], _, _, _, hc, _, _, _ => by simp at hc
  | [], _ :: _, h, _, _, _, _, _, _ => h.elim
  | _ :: _, [], h, _, _, _, _, _, _ => h.elim

theorem flat_drop : ∀ {ecs : List (List Value)} {xs : List α}, All2 (e.rep m) ecs xs → ∀ (k : Nat), (ecs.drop k).flatten = ecs.flatten.drop (k * e.sz)
  | _, _, _, 0 => by simp
  | a :: as, b :: bs, ⟨h1, h2⟩, k + 1 => by
    have hl := e.len _ _ _ h1
    simp only [List.drop_succ_cons, List.flatten_cons, flat_drop h2 k]
    rw [List.drop_append, hl, show (k + 1) * e.sz - e.sz = k * e.sz from by rw [Nat.add_mul]; omega, List.drop_eq_nil_of_le (as := a) (by rw [hl, Nat.add_mul]; omega)]
    simp
  | [], [], _, _ + 1 => by simp
  | [], _ :: _, h, _ => h.elim
  | _ :: _, [], h, _ => h.elim

theorem flat_take : ∀ {ecs : List (List Value)} {xs : List α}, All2 (e.rep m) ecs xs → ∀ (k : Nat), (ecs.take k).flatten = ecs.flatten.take (k * e.sz)
  | _, _, _, 0 => by simp
  | a :: as, b :: bs, ⟨h1, h2⟩, k + 1 => by
    have hl := e.len _ _ _ h1
    simp only [List.take_succ_cons, List.flatten_cons, flat_take h2 k]
    rw [List.take_append, hl, show (k + 1) * e.sz - e.sz = k * e.sz from by rw [Nat.add_mul]; omega, List.take_of_length_le (l := a) (by rw [hl, Nat.add_mul]; omega)]
  | [], [], _, _ + 1 => by simp
  | [], _ :: _, h, _ => h.elim
  | _ :: _, [], h, _ => h.elim
end

/-! ### rows -/
def dslP {α : Type} (e : Rp α) (a : Option Addr) (cap : Nat) (xs : List α) (m : Mem) : Prop :=
  xs.length ≤ cap ∧ cap ≤ maxLen ∧ ∃ ecs, All2 (e.rep m) ecs xs ∧
    (xs = [] ∨ ∃ p off cur T fz, a = some ⟨p, off, none⟩ ∧ m p = some (.cells cur T fz) ∧ ∀ (j : Nat) v, ecs.flatten[j]? = some v → cur[off + j]? = some v)

theorem dslP_mono {α : Type} (e : Rp α) (a : Option Addr) (cap : Nat) (xs : List α) : ∀ m m' : Mem, m.le m' → dslP e a cap xs m → dslP e a cap xs m' :=
  fun _ _ hm ⟨h1, h2, ecs, h3, h4⟩ => ⟨h1, h2, ecs, h3.mono (fun _ _ h => e.mono _ _ _ _ hm h), h4.imp id (fun ⟨p, off, cur, T, fz, k1, k2, k3⟩ => ⟨p, off, cur, T, fz, k1, hm _ _ k2, k3⟩)⟩

/-- a list that is read only -/
def dsl {α : Type} (e : Rp α) (a : Option Addr) (cap : Nat) (xs : List α) : HP := fct (dslP e a cap xs) (dslP_mono e a cap xs)

/-- a list that is owned, with the room behind it -/
def osl {α : Type} (e : Rp α) (T : TypeId) (a : Option Addr) (cap : Nat) (xs : List α) : HP :=
  ⟨fun m f => (a = none ∧ cap = 0 ∧ xs = []) ∨ ∃ g cur ecs, a = some ⟨g, 0, none⟩ ∧ f g = some (.cells cur T (0, 0)) ∧ xs.length ≤ cap ∧ cap ≤ maxLen ∧ cur.size = cap * e.sz ∧
      All2 (e.rep m) ecs xs ∧ cur.toList.take (xs.length * e.sz) = ecs.flatten,
    fun _ _ _ hm h => h.imp id (fun ⟨g, cur, ecs, h1, h2, h3, h4, h5, h6, h7⟩ => ⟨g, cur, ecs, h1, h2, h3, h4, h5, h6.mono (fun _ _ h => e.mono _ _ _ _ hm h), h7⟩)⟩

section
variable {α : Type} {e : Rp α} {G w : World} {L : List HP} {T : TypeId} {a : Option Addr} {cap : Nat} {xs : List α}

theorem osl_nil (e : Rp α) (T : TypeId) (h : St G w L) : St G w (osl e T none 0 [] :: L) := by
  obtain ⟨h1, h2, h3, h4, m, f, hG, hm, hf, hd, hs⟩ := h
  exact ⟨h1, h2, h3, h4, m, f, hG, hm, hf, hd, fun _ => none, f, fun _ => .inl rfl, (fun _ _ h => by cases h), Mem.le_refl _, .inl ⟨rfl, rfl, rfl⟩, hs⟩

theorem dsl_nil (e : Rp α) (h : St G w L) : St G w (dsl e none 0 [] :: L) :=
  h.triv fun _ => ⟨Nat.le_refl _, Nat.zero_le _, [], trivial, .inl rfl⟩

theorem osl_freeze (h : St G w (osl e T a cap xs :: L)) : St G w (dsl e a cap xs :: L) := by
  refine h.freeze ?_
  rintro m f m' hm hf (⟨rfl, rfl, rfl⟩ | ⟨g, cur, ecs, h1, h2, h3, h4, h5, h6, h7⟩)
  · exact ⟨Nat.le_refl _, Nat.zero_le _, [], trivial, .inl rfl⟩
  · refine ⟨h3, h4, ecs, h6.mono (fun _ _ h => e.mono _ _ _ _ hm h), .inr ⟨g, 0, cur, T, (0, 0), h1, hf _ _ h2, fun j v hj => ?_⟩⟩
    rw [← h7] at hj
    have hlt := (List.getElem?_eq_some_iff.1 hj).1
    simp only [List.length_take] at hlt
    rw [List.getElem?_take_of_lt (by omega)] at hj
    simpa using hj

theorem dsl_len (h : St G w (dsl e a cap xs :: L)) : xs.length ≤ maxLen :=
  h.pure fun m _ hA => by obtain ⟨h1, h2, _⟩ := (hA : dslP e a cap xs m); exact Nat.le_trans h1 h2

theorem osl_len (h : St G w (osl e T a cap xs :: L)) : xs.length ≤ cap ∧ cap ≤ maxLen :=
  h.pure fun _ _ h => by
    rcases h with ⟨_, rfl, rfl⟩ | ⟨g, cur, ecs, h1, h2, h3, h4, _⟩
    · exact ⟨Nat.le_refl _, Nat.zero_le _⟩
    · exact ⟨h3, h4⟩

theorem dsl_len' (h : St G w (dsl e a cap xs :: L)) : xs.length ≤ cap ∧ cap ≤ maxLen :=
  h.pure fun m _ hA => by obtain ⟨h1, h2, _⟩ := (hA : dslP e a cap xs m); exact ⟨h1, h2⟩

/-- a part of a list that is read only -/
theorem dsl_part (lo hi : Nat) (hlo : lo ≤ hi) (hhi : hi ≤ xs.length) (h : St G w (dsl e a cap xs :: L)) :
    St G w (dsl e (if cap = lo then a else a.map (·.add (lo * e.sz))) (cap - lo) ((xs.take hi).drop lo) :: dsl e a cap xs :: L) := by
  refine h.add fun m f hA => ?_
  obtain ⟨h1, h2, ecs, h3, h4⟩ := (hA : dslP e a cap xs m)
  have hl : ((xs.take hi).drop lo).length = hi - lo := by simp; omega
  refine ⟨by rw [hl]; omega, by omega, (ecs.take hi).drop lo, (h3.take hi).drop lo, ?_⟩
  by_cases he : hi = lo
  · left
    apply List.eq_nil_of_length_eq_zero
    omega
  · rcases h4 with rfl | ⟨p, off, cur, T, fz, rfl, k2, k3⟩
    · simp at hhi; omega
    · right
      have hne : ¬ cap = lo := by omega
      refine ⟨p, off + lo * e.sz, cur, T, fz, ?_, k2, fun j v hj => ?_⟩
      · simp only [hne, if_false, Option.map_some, Option.some.injEq, Addr.add]
        by_cases hz : lo * e.sz = 0
        · simp [hz]
        · simp [hz]
      · rw [flat_drop (h3.take hi), flat_take h3, List.getElem?_drop] at hj
        have hlt := (List.getElem?_eq_some_iff.1 hj).1
        simp only [List.length_take] at hlt
        rw [List.getElem?_take_of_lt (by omega)] at hj
        rw [Nat.add_assoc]
        exact k3 _ v hj
end

/-- an element, if it is there -/
def gt {α : Type} (xs : List α) (i : Int) : Option α := if 0 ≤ i then xs[i.toNat]? else none

theorem gt_some {α : Type} {xs : List α} {i : Int} {x : α} (h : gt xs i = some x) : 0 ≤ i ∧ i < xs.length ∧ xs[i.toNat]? = some x := by
  unfold gt at h
  split at h
  · rename_i h0
    have := (List.getElem?_eq_some_iff.1 h).1
    exact ⟨h0, by omega, h⟩
  · cases h

def ab (a : Option Addr) : Nat := match a with | some p => p.block | none => 0
def ao (a : Option Addr) : Nat := match a with | some p => p.off | none => 0

section
variable {α : Type} {e : Rp α} {P : Program} {Q : Exit → Act → World → Prop} {n : Nat} {b : Nat → Value} {l : List (Nat × Value)} {w G : World} {L : List HP} {K : Act → World → Prop}
  {T : TypeId} {a : Option Addr} {cap : Nat} {xs : List α} {i : Int} {x : α}

theorem dsl_addr (h : St G w (dsl e a cap xs :: L)) (hx : gt xs i = some x) : a = some ⟨ab a, ao a, none⟩ := by
  obtain ⟨h0, h1, h2⟩ := gt_some hx
  refine h.pure fun m f hA => ?_
  obtain ⟨k1, k2, ecs, k3, k4⟩ := (hA : dslP e a cap xs m)
  rcases k4 with rfl | ⟨p, off, cur, T, fz, rfl, _⟩
  · simp at h1; omega
  · rfl

theorem osl_addr (h : St G w (osl e T a cap xs :: L)) (hx : gt xs i = some x) : a = some ⟨ab a, ao a, none⟩ := by
  obtain ⟨h0, h1, h2⟩ := gt_some hx
  refine h.pure fun m f hA => ?_
  rcases hA with ⟨_, _, rfl⟩ | ⟨g, cur, ecs, rfl, _⟩
  · simp at h1; omega
  · rfl

/-- what a list's type says of its elements, in one place -/
structure Lst (P : Program) (t T : TypeId) (sz bytes : Nat) : Prop where
  ht : P.underlying t = some (.slice T)
  hi : ∃ inf z, P.info? T = some inf ∧ inf.zero = some z ∧ inf.size = sz ∧ z.cells.size = sz ∧ inf.bytes = bytes

/-- the address of an element -/
theorem R_ia {t ty : TypeId} {u v : Operand} {d len : Nat} {pos : String} {af : Array Edge} {gd : Option (Nat × Bool)} {k : IntKind} {sz bytes : Nat} (hL : Lst P t T sz bytes) (hu : evl n b l u = .slice a len cap) (hv : evl n b l v = .int k i) (ha : a = some ⟨ab a, ao a, none⟩) (h0 : 0 ≤ i) (h1 : i < len) : (execOp (evl n b l) ({ dst := some d, op := .indexAddr t u v, type := ty, pos := pos, after := af, guard := gd } : Oper)).run P w = .ok (.value (pt (ab a) (ao a + i.toNat * sz))) w := by
  obtain ⟨ht, inf, _, hi, _, hsz, _⟩ := hL
  have hadd : (⟨ab a, ao a, none⟩ : Addr).add (i.toNat * sz) = ⟨ab a, ao a + i.toNat * sz, none⟩ := by
    unfold Addr.add
    by_cases hz : i.toNat * sz = 0
    · simp [hz]
    · simp [hz]
  simp only [execOp, hu, hv, Instr.indexAt, asIntOf, Sem.run_bind, Sem.run_pure, Result.andThen_ok, run_underlying ht]
  rw [ha]
  simp only [h0, h1, and_self, if_true, sizeOf, typeInfo, Sem.run_bind, Sem.run_pure, run_program, hi, Result.andThen_ok, hsz]
  have e1 : ab (some ⟨ab a, ao a, none⟩) = ab a := rfl
  have e2 : ao (some ⟨ab a, ao a, none⟩) = ao a := rfl
  simp [e1, e2, hadd]

/-- what an element of a list that is read only has in its cells -/
theorem dsl_cells (h : St G w (dsl e a cap xs :: L)) (hx : gt xs i = some x) :
    ∃ y, (∀ j v, (e.cells x y)[j]? = some v → w.cell? ⟨ab a, ao a + i.toNat * e.sz + j, none⟩ = some v) ∧ St G w (fct (e.phi x y) (e.pmono x y) :: dsl e a cap xs :: L) := by
  obtain ⟨h0, h1, h2⟩ := gt_some hx
  obtain ⟨g1, g2, g3, g4, m, f, hG, hm, hf, hd, f1, f2, k1, k2, k3, k4, k5⟩ := h
  obtain ⟨q1, q2, ecs, q3, q4⟩ := (id k4 : dslP e a cap xs m)
  rcases q4 with rfl | ⟨p, off, cur, T, fz, rfl, r2, r3⟩
  · simp at h1; omega
  · obtain ⟨c, hc, hr⟩ := q3.get _ _ h2
    obtain ⟨y, rfl, hy⟩ := hr
    refine ⟨y, fun j v hj => ?_, g1, g2, g3, g4, m, f, hG, hm, hf, hd, fun _ => none, f, fun _ => .inl rfl, (fun _ _ h => by cases h), Mem.le_refl _, hy, f1, f2, k1, k2, k3, k4, k5⟩
    have h3 := r3 _ v (flat_get q3 _ _ hc j v hj)
    simp only [World.cell?, ab, ao, hm _ _ r2]
    rw [← Nat.add_assoc] at h3
    simpa using h3

/-- what an element of an owned list has in its cells -/
theorem osl_cells (h : St G w (osl e T a cap xs :: L)) (hx : gt xs i = some x) :
    ∃ y, (∀ j v, (e.cells x y)[j]? = some v → w.cell? ⟨ab a, ao a + i.toNat * e.sz + j, none⟩ = some v) ∧ St G w (fct (e.phi x y) (e.pmono x y) :: osl e T a cap xs :: L) := by
  obtain ⟨h0, h1, h2⟩ := gt_some hx
  obtain ⟨g1, g2, g3, g4, m, f, hG, hm, hf, hd, f1, f2, k1, k2, k3, k4, k5⟩ := h
  rcases id k4 with ⟨_, _, rfl⟩ | ⟨g, cur, ecs, rfl, q2, q3, q4, q5, q6, q7⟩
  · simp at h1; omega
  · obtain ⟨c, hc, hr⟩ := q6.get _ _ h2
    obtain ⟨y, rfl, hy⟩ := hr
    refine ⟨y, fun j v hj => ?_, g1, g2, g3, g4, m, f, hG, hm, hf, hd, fun _ => none, f, fun _ => .inl rfl, (fun _ _ h => by cases h), Mem.le_refl _, hy, f1, f2, k1, k2, k3, k4, k5⟩
    have h3 := flat_get q6 _ _ hc j v hj
    rw [← q7] at h3
    have hlt := (List.getElem?_eq_some_iff.1 h3).1
    simp only [List.length_take] at hlt
    rw [List.getElem?_take_of_lt (by omega)] at h3
    simp only [World.cell?, ab, ao, hf _ _ (k2 _ _ q2), Nat.zero_add]
    simpa using h3

/-- a load of a part of an element, whose cells are known -/
theorem R_loadAt {t ty : TypeId} {u : Operand} {d p off j : Nat} {pos : String} {af : Array Edge} {gd : Option (Nat × Bool)} {cs : List Value} {v : Value}
    (hc : ∀ k v, cs[k]? = some v → w.cell? ⟨p, off + k, none⟩ = some v) (hx : evl n b l u = pt p (off + j)) (hv : ldv P t cs j = some v) : (execOp (evl n b l) ({ dst := some d, op := .load t u, type := ty, pos := pos, after := af, guard := gd } : Oper)).run P w = .ok (.value (v)) w := by
  have key : (Instr.loadAt t (pt p (off + j))).run P w = .ok v w := by
    have hc' : ∀ k v, (List.replicate off undef ++ cs)[k]? = some v → off ≤ k → w.cell? ⟨p, k, none⟩ = some v := by
      intro k v hk hle
      rw [List.getElem?_append_right (by simpa using hle)] at hk
      have := hc _ v hk
      simp only [List.length_replicate] at this
      rwa [show off + (k - off) = k from by omega] at this
    have h2 := run_loadAt_from (P := P) (t := t) (p := p) (lo := off) (off := off + j) (cs := List.replicate off undef ++ cs) (v := v) (w := w) (fun k v hk hle => hc' k v hk hle) (by omega) ?_
    · exact h2
    · unfold ldv at hv ⊢
      have hd : ∀ k, (List.replicate off undef ++ cs).drop (off + k) = cs.drop k := by
        intro k; rw [List.drop_append]; simp
      have hle : ∀ k, Nat.ble (off + j + k) (List.replicate off undef ++ cs).length = Nat.ble (j + k) cs.length := by
        intro k
        rw [Bool.eq_iff_iff]
        simp
        omega
      have hg : (List.replicate off undef ++ cs)[off + j]? = cs[j]? := by
        rw [List.getElem?_append_right (by simp)]; simp
      simp only [hd, hle, hg]
      exact hv
  simp only [execOp, hx, Sem.run_bind, key]
  rfl
end
end Go.Hx
