/-
  HxR: what a call is handed, read as plain data; from a contract to a row. Own work.
-/
import Derived.Test.YtpldjopnhhbjpaaGreatHxH
import Derived.ProofKit
import Derived.Below
namespace Go.Hx
open Go.RowKit Go.WideShapes Go.ChangeShapes

theorem mapM_some {α β : Type} {f : α → Option β} : ∀ {l : List α} {r : List β}, l.mapM f = some r → All2 (fun a b => f a = some b) l r
  | [], r, h => by simp at h; subst h; trivial
  | a :: l, r, h => by
    simp only [List.mapM_cons, Option.bind_eq_bind, Option.bind_eq_some_iff, Option.pure_def, Option.some.injEq] at h
    obtain ⟨b, hb, r', hr, rfl⟩ := h
    exact ⟨hb, mapM_some hr⟩

theorem flat_cells {sz off : Nat} {cur : Array Value} : ∀ (ecs : List (List Value)) (k0 : Nat), (∀ i c, ecs[i]? = some c → c.length = sz ∧ ∀ j v, c[j]? = some v → cur[off + (k0 + i) * sz + j]? = some v) →
    ∀ j v, ecs.flatten[j]? = some v → cur[off + k0 * sz + j]? = some v
  | [], _, _, j, v, h => by simp at h
  | c :: ecs, k0, H, j, v, h => by
    obtain ⟨hl, hc⟩ := H 0 c rfl
    simp only [List.flatten_cons] at h
    by_cases hj : j < c.length
    · rw [List.getElem?_append_left hj] at h
      simpa using hc j v h
    · rw [List.getElem?_append_right (by omega), hl] at h
      have := flat_cells ecs (k0 + 1) (fun i c' hi => by
        have := H (i + 1) c' (by simpa using hi)
        rw [show k0 + (i + 1) = k0 + 1 + i from by omega] at this
        exact this) _ v h
      rw [← this]
      congr 1
      rw [Nat.add_mul]; omega

/-- the values of a type t, read of memory, are those of e, within ok -/
def Rd {α : Type} (P : Program) (t : TypeId) (e : Rp α) (ok : α → Prop) : Prop :=
  ∀ {H : Type} (enc : TypeId × Value → H) (W : World) (base : Nat) (spare : Nat → Bool) (held : Bool) (fuel : Nat) (cs : List Value) (d : DataW H) (ps : List MemPlace),
    DataW.trod enc P W base spare held fuel t cs = some (d, ps) → ∃ x y, cs = e.cells x y ∧ e.phi x y (fun b => W.heap[b]?) ∧ ok x

def okI (k : IntKind) (n : Int) : Prop := k.min ≤ n ∧ n ≤ k.max
def okS (s : List UInt8) : Prop := s.length ≤ maxLen
def okSl {α : Type} (ok : α → Prop) (xs : List α) : Prop := xs.length ≤ maxLen ∧ ∀ x ∈ xs, ok x

theorem rd_I {P : Program} {t : TypeId} {k : IntKind} (ht : P.underlying t = some (.int k)) : Rd P t (rI k) (okI k) := by
  intro H enc W base spare held fuel cs d ps h
  cases fuel with
  | zero => simp [DataW.trod] at h
  | succ fuel =>
    unfold DataW.trod at h
    simp only [ht] at h
    split at h <;> try (simp at h; done)
    all_goals first | (rename_i heq; cases heq; done) | skip
    rename_i k1 k2 n heq
    cases heq
    split at h
    · rename_i hk
      obtain ⟨rfl, hw⟩ := hk
      simp only [Lit.wf, Bool.and_eq_true, decide_eq_true_eq] at hw
      exact ⟨n, (), rfl, trivial, hw⟩
    · cases h
theorem rd_B {P : Program} {t : TypeId} (ht : P.underlying t = some .bool) : Rd P t rB (fun _ => True) := by
  intro H enc W base spare held fuel cs d ps h
  cases fuel with
  | zero => simp [DataW.trod] at h
  | succ fuel =>
    unfold DataW.trod at h
    simp only [ht] at h
    split at h <;> try (simp at h; done)
    all_goals first | (rename_i heq; cases heq; done) | skip
    rename_i x heq
    exact ⟨x, (), rfl, trivial, trivial⟩

theorem rd_S {P : Program} {t : TypeId} (ht : P.underlying t = some .string) : Rd P t rS okS := by
  intro H enc W base spare held fuel cs d ps h
  cases fuel with
  | zero => simp [DataW.trod] at h
  | succ fuel =>
    unfold DataW.trod at h
    simp only [ht] at h
    split at h <;> try (simp at h; done)
    all_goals first | (rename_i heq; cases heq; done) | skip
    rename_i x heq
    split at h
    · rename_i hs
      refine ⟨x.data.toList, (), ?_, trivial, ?_⟩
      · show [Value.string x] = [Value.string ⟨x.data.toList.toArray⟩]
        simp
      · have hl : x.data.toList.length = x.size := Array.length_toList
        show x.data.toList.length ≤ maxLen
        rw [hl]; exact hs
    · cases h

theorem cellsOf_of {P : Program} {t T : TypeId} {sz bytes : Nat} (hL : Lst P t T sz bytes) : P.cellsOf T = sz := by
  obtain ⟨_, inf, _, hi, _, hsz, _⟩ := hL
  simp [Program.cellsOf, hi, hsz]

theorem cells?_some {W : World} {base k : Nat} {a : Addr} {cs : List Value} (h : W.cells? base a k = some cs) : cs.length = k ∧ ∀ j v, cs[j]? = some v → W.cell? (a.add j) = some v := by
  unfold World.cells? at h
  split at h
  · have hm := mapM_some h
    have hl := hm.length
    simp only [List.length_range] at hl
    refine ⟨hl.symm, fun j v hj => ?_⟩
    obtain ⟨i, hi, hr⟩ := hm.get j v hj
    obtain ⟨hlt, hi⟩ := List.getElem?_eq_some_iff.1 hi
    simp only [List.getElem_range] at hi
    subst hi
    exact hr
  · cases h

theorem add_add_block (a : Addr) (i j : Nat) : ((a.add i).add j).block = a.block ∧ ((a.add i).add j).off = a.off + i + j ∧ (((a.add i).add j).spot = none ∨ ((a.add i).add j).spot = a.spot) := by
  unfold Addr.add
  by_cases hi : i = 0 <;> by_cases hj : j = 0 <;> simp [hi, hj]

theorem cell?_in {W : World} {a : Addr} {v : Value} (h : W.cell? a = some v) : a.spot = none ∧ ∃ cur T fz, W.heap[a.block]? = some (.cells cur T fz) ∧ cur[a.off]? = some v := by
  unfold World.cell? at h
  split at h
  · rename_i c T fz hb
    split at h
    · cases h
    · rename_i hs
      refine ⟨by simpa using hs, c, T, fz, hb, h⟩
  · cases h

theorem rd_Sl {α : Type} {P : Program} {t T : TypeId} {sz bytes : Nat} {e : Rp α} {ok : α → Prop} (hL : Lst P t T sz bytes) (_hsz : e.sz = sz) (hpos : 0 < sz) (hr : Rd P T e ok) :
    Rd P t (rSl e) (okSl ok) := by
  intro H enc W base spare held fuel cs d ps h
  cases fuel with
  | zero => simp [DataW.trod] at h
  | succ fuel =>
    unfold DataW.trod at h
    simp only [hL.ht] at h
    split at h <;> try (simp at h; done)
    all_goals first | (rename_i heq; cases heq; done) | skip
    · exact ⟨[], (none, 0), rfl, ⟨Nat.le_refl _, Nat.zero_le _, [], trivial, .inl rfl⟩, by simp [maxLen], by simp⟩
    · rename_i e' a len cap heq
      cases heq
      rw [cellsOf_of hL] at h
      split at h
      · rename_i hb
        obtain ⟨hb1, hb2, hb3⟩ := hb
        simp only [Option.bind_eq_some_iff] at h
        obtain ⟨elems, hel, _⟩ := h
        have hm := mapM_some hel
        have hlen : elems.length = len := by simpa using hm.length.symm
        -- each element
        have hone : ∀ i, i < len → ∃ c x, W.cells? base (a.add (i * sz)) sz = some c ∧ e.rep (fun b => W.heap[b]?) c x ∧ ok x := by
          intro i hi
          obtain ⟨i', hi', hf⟩ := hm.get i (elems[i]'(by omega)) (by simp)
          obtain ⟨hlt, hi'⟩ := List.getElem?_eq_some_iff.1 hi'
          simp only [List.getElem_range] at hi'
          subst hi'
          simp only [Option.bind_eq_some_iff] at hf
          obtain ⟨c, hc, ht⟩ := hf
          obtain ⟨x, y, h1, h2, h3⟩ := hr enc W base spare held fuel c _ _ ht
          exact ⟨c, x, hc, ⟨y, h1, h2⟩, h3⟩
        have hbuild : ∀ k, k ≤ len → ∃ (ecs : List (List Value)) (xs : List α), xs.length = k ∧ All2 (e.rep (fun b => W.heap[b]?)) ecs xs ∧ (∀ x ∈ xs, ok x) ∧ ∀ i c, ecs[i]? = some c → W.cells? base (a.add (i * sz)) sz = some c := by
          intro k
          induction k with
          | zero => exact fun _ => ⟨[], [], rfl, trivial, by simp, by simp⟩
          | succ k ih =>
            intro hk
            obtain ⟨ecs, xs, h1, h2, h3, h4⟩ := ih (by omega)
            obtain ⟨c, x, g1, g2, g3⟩ := hone k (by omega)
            refine ⟨ecs ++ [c], xs ++ [x], by simp [h1], h2.app ⟨g2, trivial⟩, ?_, ?_⟩
            · intro z hz
              simp only [List.mem_append, List.mem_singleton] at hz
              rcases hz with hz | rfl
              · exact h3 z hz
              · exact g3
            · intro i c' hi
              have hel2 : ecs.length = k := by rw [h2.length, h1]
              by_cases hik : i < k
              · rw [List.getElem?_append_left (by omega)] at hi
                exact h4 i c' hi
              · rw [List.getElem?_append_right (by omega), hel2] at hi
                have h0 : i - k = 0 := by have := (List.getElem?_eq_some_iff.1 hi).1; simp at this; omega
                rw [h0] at hi
                simp at hi
                subst hi
                have : i = k := by omega
                rw [this]; exact g1
        obtain ⟨ecs, xs, h1, h2, h3, h4⟩ := hbuild len (Nat.le_refl _)
        refine ⟨xs, (some a, cap), by rw [← h1]; rfl, ⟨by rw [h1]; exact hb2, hb3, ecs, h2, ?_⟩, by rw [h1]; exact Nat.le_trans hb2 hb3, h3⟩
        by_cases hx : xs = []
        · exact .inl hx
        · right
          have hl0 : 0 < ecs.length := by
            rw [h2.length]
            exact List.length_pos_iff.2 hx
          have hc0 := h4 0 ecs[0] (by simp)
          obtain ⟨c1, c2⟩ := cells?_some hc0
          simp only [Nat.zero_mul] at c2
          have hv0 := c2 0 (ecs[0][0]'(by omega)) (by simp)
          have haa : (a.add 0).add 0 = a := rfl
          rw [haa] at hv0
          obtain ⟨hs, cur, T', fz, hblk, hcell⟩ := cell?_in hv0
          refine ⟨a.block, a.off, cur, T', fz, by cases a; simp at hs; simp [hs], hblk, ?_⟩
          have := flat_cells (sz := sz) (off := a.off) (cur := cur) ecs 0 (fun i c hi => ?_)
          · simpa using this
          · obtain ⟨d1, d2⟩ := cells?_some (h4 i c hi)
            refine ⟨d1, fun j v hj => ?_⟩
            obtain ⟨b1, b2, b3⟩ := add_add_block a (i * sz) j
            obtain ⟨_, cur2, T2, fz2, hblk2, hcell2⟩ := cell?_in (d2 j v hj)
            rw [b1, hblk] at hblk2
            cases hblk2
            rw [b2] at hcell2
            simpa using hcell2
      · cases h

/-- fields read one by one -/
theorem mapM_cons_some {α β : Type} {f : α → Option β} {a : α} {l : List α} {r : List β} (h : (a :: l).mapM f = some r) : ∃ b r', f a = some b ∧ l.mapM f = some r' ∧ r = b :: r' := by
  simp only [List.mapM_cons, Option.bind_eq_bind, Option.bind_eq_some_iff, Option.pure_def, Option.some.injEq] at h
  obtain ⟨b, hb, r', hr, rfl⟩ := h
  exact ⟨b, r', hb, hr, rfl⟩

theorem rd_struct {H : Type} {enc : TypeId × Value → H} {P : Program} {W : World} {base : Nat} {spare : Nat → Bool} {held : Bool} {fuel : Nat} {t : TypeId} {fs : Array Field} {cs : List Value} {d : DataW H} {ps : List MemPlace}
    (ht : P.underlying t = some (.struct fs)) (h : DataW.trod enc P W base spare held fuel t cs = some (d, ps)) :
    ∃ k xs, fuel = k + 1 ∧ cs.length = P.cellsOf t ∧ fs.toList.mapM (fun f => DataW.trod enc P W base spare held k f.type ((cs.drop f.offset).take (P.cellsOf f.type))) = some xs := by
  cases fuel with
  | zero => simp [DataW.trod] at h
  | succ fuel =>
    unfold DataW.trod at h
    simp only [ht] at h
    split at h <;> try (simp at h; done)
    all_goals first | (rename_i heq; cases heq; done) | skip
    rename_i hl
    simp only [Option.map_eq_some_iff] at h
    obtain ⟨xs, hx, _⟩ := h
    exact ⟨fuel, xs, rfl, hl, hx⟩

/-- the world at hand when a call begins -/
theorem st_ground (W : World) : St W W [] := ⟨rfl, rfl, rfl, Nat.le_refl _, fun b => W.heap[b]?, fun _ => none, fun _ _ => rfl, fun _ _ h => h, (fun _ _ h => by cases h), fun _ => .inr rfl, trivial⟩

theorem st_ground_fct {W : World} {L : List HP} {φ : Mem → Prop} {hφ : ∀ m m', m.le m' → φ m → φ m'} (hp : φ (fun b => W.heap[b]?)) (h : St W W L) : St W W (fct φ hφ :: L) := by
  obtain ⟨h1, h2, h3, h4, m, f, hG, hm, hf, hd, hs⟩ := h
  refine ⟨h1, h2, h3, h4, m, f, hG, hm, hf, hd, fun _ => none, f, fun _ => .inl rfl, (fun _ _ h => by cases h), Mem.le_refl _, hφ _ _ ?_ hp, hs⟩
  intro b o hb
  have hlt := (Array.getElem?_eq_some_iff.1 hb).1
  rw [hG b hlt]; exact hb

section
variable {H : Type} {enc : TypeId × Value → H} {P : Program}
theorem post_under {f : Func} {s : ChangeSpec} {apart fresh handsOn again : Bool} {W W' : World} {args : Array Value} {v : Value} {ds gs : List (DataW H)} {before pa pv : List MemPlace}
    (hW : DataW.Whole enc P f.params.toList s.vars apart W args.toList ds gs before)
    (hres : ∀ (b : Nat) (sp : Nat → Bool) (hd : Bool), DataW.TrodAll enc P W' b sp hd f.resultTypes.toList (v.resultList f.resultTypes.size) (s.fn H (ds ++ gs)).results [])
    (hargs : ∀ sp : Nat → Bool, (∀ p ∈ before, sp p.block = true) → DataW.TrodAll enc P W' 0 sp true f.params.toList args.toList (s.fn H (ds ++ gs)).args pa)
    (hvars : ∀ sp : Nat → Bool, (∀ p ∈ before, sp p.block = true) → DataW.TrodVars enc P W' sp s.vars (s.fn H (ds ++ gs)).vars pv)
    (hps : before = pa ++ pv) (hb : Below W.heap.size W W')
    (hok : ∀ (j : Nat) (t : TypeId) (r : Value), f.resultTypes[j]? = some t → (v.resultList f.resultTypes.size)[j]? = some r → Value.okWide P W' .any 0 t r) :
    s.post enc P f apart fresh handsOn again W args v W' := by
  have hlt : ∀ p ∈ before, p.block < W.heap.size := fun p hp => hW.lt p hp
  have hold : ∀ p ∈ before, (fun b => decide (b < W.heap.size)) p.block = true := fun p hp => by simpa using hlt p hp
  refine ⟨ds, gs, before, [], pa, pv, hW, hres _ _ _, hargs _ hold, hvars _ hold, World.keptBut_mono (fun p hp => ⟨hp, ?_⟩) (hb.frame (· ∈ before)), fun _ => ?_⟩
  · rw [hps, List.mem_append] at hp
    exact Or.inr hp
  · obtain ⟨_, _, _, _, _, hz, hn⟩ := hW
    refine ⟨hok, _, _, ([] ++ pa) ++ pv, ⟨[] ++ pa, pv, trodAll_append (hargs _ (fun _ _ => rfl)) (hres _ _ _), hvars _ (fun _ _ => rfl), rfl, ?_, ?_⟩, ?_⟩
    · intro b off hp
      have hin : MemPlace.cell b off ∈ before := by rw [hps]; simpa using hp
      rw [hb.frozen (hlt _ hin)]
      exact hz b off hin
    · intro ha
      have := hn ha
      rw [hps] at this
      simpa using this
    · intro p hp _
      rw [hps]
      simpa using hp
end

theorem tc_mk {H : Type} {enc : TypeId × Value → H} {P : Program} {w : World} {base : Nat} {spare : Nat → Bool} {held : Bool} {t : TypeId} {ts : List TypeId} {v : Value} {vs : List Value} {d : DataW H} {ds : List (DataW H)} {p p' : List MemPlace}
    (h : DataW.Trod enc P w base spare held t v d p) (hs : DataW.TrodAll enc P w base spare held ts vs ds p') : DataW.TrodAll enc P w base spare held (t :: ts) (v :: vs) (d :: ds) (p ++ p') := ⟨p, p', h, hs, rfl⟩

/-- a struct's cells, field by field -/
theorem seg (cs : List Value) (o s : Nat) : cs.drop o = (cs.drop o).take s ++ cs.drop (o + s) := by
  rw [← List.drop_drop, List.take_append_drop]

def cutAll : Nat → List Nat → List Value → List (List Value)
  | _, [], _ => []
  | o, s :: ss, cs => (cs.drop o).take s :: cutAll (o + s) ss cs

theorem cutAll_flat : ∀ (ss : List Nat) (o : Nat) (cs : List Value), (cutAll o ss cs).flatten = (cs.drop o).take ss.sum
  | [], o, cs => by simp [cutAll]
  | s :: ss, o, cs => by
    simp only [cutAll, List.flatten_cons, cutAll_flat ss (o + s) cs, List.sum_cons]
    rw [← List.drop_drop, List.take_add]

theorem cut_all (ss : List Nat) (cs : List Value) (h : cs.length = ss.sum) : cs = (cutAll 0 ss cs).flatten := by
  rw [cutAll_flat, ← h]; simp

/-- the value of a variable that is no struct and no array is one cell -/
theorem one_of_wide {P : Program} {W : World} {base : Nat} {t : TypeId} {v : Value} {d : TypeDesc} (ht : P.underlying t = some d) (hd : (match d with | .int _ | .bool | .string | .slice _ => true | _ => false) = true)
    (h : Value.okWide P W .any base t v) : v.cells.toList = [v] := by
  cases v with
  | agg cs => cases d <;> simp_all [Value.okWide, Cell.okWide, Cell.ok]
  | _ => rfl

theorem agg_of_wide {P : Program} {W : World} {base : Nat} {t : TypeId} {v : Value} {fs : Array Field} (ht : P.underlying t = some (.struct fs)) (h : Value.okWide P W .any base t v) : ∃ cs, v = .agg cs := by
  unfold Value.okWide at h
  rw [ht] at h
  obtain ⟨cs, rfl, _⟩ := h
  exact ⟨cs, rfl⟩

end Go.Hx
