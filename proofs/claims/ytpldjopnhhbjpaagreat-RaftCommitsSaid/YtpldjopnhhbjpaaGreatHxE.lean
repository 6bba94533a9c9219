/-
  HxE: lists that are made, appended to, written; strings; results that lie in memory. Own work.
-/
import Derived.Test.YtpldjopnhhbjpaaGreatHxD
namespace Go.Hx
open Go.RowKit

/-- two facts as one -/
theorem St.and {G w : World} {φ ψ : Mem → Prop} {hφ : ∀ m m', m.le m' → φ m → φ m'} {hψ : ∀ m m', m.le m' → ψ m → ψ m'} {L : List HP} (h : St G w (fct φ hφ :: fct ψ hψ :: L)) :
    St G w (fct (fun m => φ m ∧ ψ m) (fun m m' hm h => ⟨hφ m m' hm h.1, hψ m m' hm h.2⟩) :: L) := by
  obtain ⟨h1, h2, h3, h4, m, f, hG, hm, hf, hd, f1, f2, k1, k2, k3, k4, g1, g2, j1, j2, j3, j4, j5⟩ := h
  exact ⟨h1, h2, h3, h4, m, f, hG, hm, hf, hd, f1, g2, (fun b => by
    rcases k1 b with h | h
    · exact .inl h
    · right
      cases hv : g2 b with
      | none => rfl
      | some o => have := j3 b o hv; rw [h] at this; cases this), k2, Mem.le_trans j3 k3, ⟨k4, j4⟩, j5⟩

section
variable {α : Type} {e : Rp α} {P : Program} {Q : Exit → Act → World → Prop} {n : Nat} {b : Nat → Value} {l : List (Nat × Value)} {w G : World} {L : List HP} {K : Act → World → Prop}
  {T : TypeId} {a : Option Addr} {cap : Nat} {xs : List α} {i : Int} {x : α}

/-- an owned block of elements is an owned list -/
theorem osl_of_blk {p : Nat} {ecs : List (List Value)} {φ : Mem → Prop} {hφ : ∀ m m', m.le m' → φ m → φ m'} {cs : List Value} (e : Rp α) (xs : List α) (hcs : cs = ecs.flatten)
    (hall : ∀ m, φ m → All2 (e.rep m) ecs xs) (hmx : Nat.ble xs.length 16777216 = true) (h : St G w (fct φ hφ :: blk p (cl cs T) :: L)) : St G w (osl e T (some ⟨p, 0, none⟩) xs.length xs :: L) := by
  subst hcs
  obtain ⟨h1, h2, h3, h4, m, f, hG, hm, hf, hd, f1, f2, k1, k2, k3, k4, g1, g2, j1, j2, j3, j4, j5⟩ := h
  have ha := hall m k4
  have hfl := flat_length ha
  refine ⟨h1, h2, h3, h4, m, f, hG, hm, hf, hd, g1, g2, j1, Mem.le_trans j2 k3, Mem.le_trans j3 k3, .inr ⟨p, _, ecs, rfl, j4, Nat.le_refl _, ?_, ?_, ha, ?_⟩, j5⟩
  · exact Nat.le_trans (Nat.le_of_ble_eq_true hmx) (by unfold maxLen; omega)
  · simp [hfl]
  · show List.take _ ecs.flatten = _
    exact List.take_of_length_le (by omega)

theorem osl_of_blk0 {p : Nat} {ecs : List (List Value)} {cs : List Value} (e : Rp α) (xs : List α) (hcs : cs = ecs.flatten)
    (hall : ∀ m, All2 (e.rep m) ecs xs) (hmx : Nat.ble xs.length 16777216 = true) (h : St G w (blk p (cl cs T) :: L)) : St G w (osl e T (some ⟨p, 0, none⟩) xs.length xs :: L) :=
  osl_of_blk (φ := fun _ => True) (hφ := fun _ _ _ h => h) e xs hcs (fun m _ => hall m) hmx (h.triv fun _ => trivial)

/-- the cells of a slice that is written out -/
def bsv (P : Program) (t : TypeId) (len : Nat) (parts : Array (Nat × Value)) : Option (TypeId × List Value) :=
  match P.underlying t with
  | some (.slice elem) => match P.info? elem with
    | some i => match i.zero with
      | some z => bif Nat.ble (len * i.size) 16777216 then
          match Instr.fill (fun k => some (k * i.size, i.size)) ((Array.range (len * i.size)).map ((bif Nat.beq (len * i.size) 0 then #[] else z.cells)[· % (bif Nat.beq (len * i.size) 0 then #[] else z.cells).size]!)) parts.toList with
          | some cs => some (elem, cs.toList)
          | none => none
        else none
      | none => none
    | none => none
  | _ => none

theorem O_bs {t ty : TypeId} {len : Nat} {ps : Array (Nat × Operand)} {d : Nat} {pos : String} {af : Array Edge} {gd : Option (Nat × Bool)} (cs : List Value) (vs : Array (Nat × Value))
    (hst : St G w L) (hps : ps.map (fun (p : Nat × Operand) => (p.1, evl n b l p.2)) = vs) (hv : bsv P t len vs = some (T, cs)) (hn : Nat.blt d n = true)
    (h : ∀ p w', St G w' (blk p (cl cs T) :: L) → K (mkF n b ((d, .slice (some ⟨p, 0, none⟩) len len) :: l)) w') :
    ({ dst := some d, op := .buildSlice t len ps, type := ty, pos := pos, after := af, guard := gd } : Oper).wp P (mkF n b l) w K Q := by
  unfold bsv at hv
  cases hu : P.underlying t with
  | none => simp [hu] at hv
  | some dd =>
    cases dd with
    | slice elem =>
      simp only [hu] at hv
      cases hi : P.info? elem with
      | none => simp [hi] at hv
      | some i =>
        simp only [hi] at hv
        cases hz : i.zero with
        | none => simp [hz] at hv
        | some z =>
          simp only [hz] at hv
          cases hle : Nat.ble (len * i.size) 16777216 with
          | false => simp [hle] at hv
          | true =>
            simp only [hle, cond_true] at hv
            have hle' : ¬ (16777216 < len * i.size) := by have := Nat.le_of_ble_eq_true hle; omega
            split at hv
            · rename_i cells hfill
              simp only [Option.some.injEq, Prod.mk.injEq] at hv
              obtain ⟨rfl, rfl⟩ := hv
              refine O_run (v := .slice (some ⟨w.heap.size, 0, none⟩) len len) (w' := w.alloc (.cells cells elem)) ?_ rfl hn (h _ _ ?_)
              · have hps' : (Array.map (fun (x : Nat × Operand) => match x with | (i, x) => (i, evl n b l x)) ps) = vs := by rw [← hps]
                simp only [execOp, hps', Instr.buildSlice, Sem.run_bind, run_underlying hu, Result.andThen_ok, sizeOf, typeInfo, run_program, Sem.run_pure, hi, zeroValue]
                by_cases h0 : len * i.size = 0
                · have hb : Nat.beq (len * i.size) 0 = true := by rw [h0]; rfl
                  rw [hb] at hfill
                  simp only [cond_true] at hfill
                  simp [h0, newRow] at hfill ⊢
                  rw [hfill]
                  simp
                · have hb : Nat.beq (len * i.size) 0 = false := by
                    cases hb : Nat.beq (len * i.size) 0 with
                    | false => rfl
                    | true => exact absurd (Nat.eq_of_beq_eq_true hb) h0
                  rw [hb] at hfill
                  simp only [cond_false] at hfill
                  simp [h0, hle', newRow, hi, hz, hfill]
              · simpa using hst.alloc (.cells cells elem)
            · cases hv
    | _ => simp [hu] at hv

/-! append -/

/-- the elements of a row, as a fact -/
def al {α : Type} (e : Rp α) (ecs : List (List Value)) (xs : List α) : HP := fct (fun m => All2 (e.rep m) ecs xs) (fun _ _ hm h => h.mono (fun _ _ h => e.mono _ _ _ _ hm h))

theorem al_len {ecs : List (List Value)} (h : St G w (al e ecs xs :: L)) : ecs.flatten.length = xs.length * e.sz ∧ ecs.flatten.all Value.oneCell' = true ∧ ecs.length = xs.length :=
  h.pure fun _ _ (hA : All2 _ _ _) => ⟨flat_length hA, flat_one hA, hA.length⟩

theorem osl_open (h : St G w (osl e T a cap xs :: L)) : (a = none ∧ cap = 0 ∧ xs = [] ∧ St G w L) ∨
    ∃ g cur ecs, a = some ⟨g, 0, none⟩ ∧ xs.length ≤ cap ∧ cap ≤ maxLen ∧ cur.size = cap * e.sz ∧ cur.toList.take (xs.length * e.sz) = ecs.flatten ∧ St G w (al e ecs xs :: blk g (.cells cur T (0, 0)) :: L) := by
  have hrest := h.drop
  obtain ⟨g1, g2, g3, g4, m, f, hG, hm, hf, hd, f1, f2, j1, j2, j3, j4, j5⟩ := h
  rcases j4 with ⟨rfl, rfl, rfl⟩ | ⟨g, cur, ecs, rfl, q2, q3, q4, q5, q6, q7⟩
  · exact .inl ⟨rfl, rfl, rfl, hrest⟩
  · exact .inr ⟨g, cur, ecs, rfl, q3, q4, q5, q7, g1, g2, g3, g4, m, f, hG, hm, hf, hd, fun _ => none, f, fun _ => .inl rfl, (fun _ _ h => by cases h), Mem.le_refl _, q6, f1, f2, j1, j2, j3, q2, j5⟩

theorem osl_shut {g : Nat} {cur : Array Value} {ecs : List (List Value)} (h1 : xs.length ≤ cap) (h2 : cap ≤ maxLen) (h3 : cur.size = cap * e.sz) (h4 : cur.toList.take (xs.length * e.sz) = ecs.flatten)
    (h : St G w (al e ecs xs :: blk g (.cells cur T (0, 0)) :: L)) : St G w (osl e T (some ⟨g, 0, none⟩) cap xs :: L) := by
  obtain ⟨g1, g2, g3, g4, m, f, hG, hm, hf, hd, f1, f2, k1, k2, k3, k4, f3, f4, j1, j2, j3, j4, j5⟩ := h
  exact ⟨g1, g2, g3, g4, m, f, hG, hm, hf, hd, f3, f4, j1, Mem.le_trans j2 k3, Mem.le_trans j3 k3, .inr ⟨g, cur, ecs, rfl, j4, h1, h2, h3, k4, h4⟩, j5⟩

theorem al_app {ecs ecs' : List (List Value)} {ys : List α} (h : St G w (al e ecs xs :: al e ecs' ys :: L)) : St G w (al e (ecs ++ ecs') (xs ++ ys) :: L) :=
  h.and.conv fun _ _ h => All2.app (And.left h) (And.right h)

/-- what is appended: so many elements, these cells -/
structure Src (P : Program) (t : TypeId) (sz : Nat) (v : Value) (k : Nat) (news : List Value) (w : World) : Prop where
  type : (∃ el, P.underlying t = some (.slice el)) ∨ P.underlying t = some .string
  len : (Builtin.lenOf v).run P w = .ok k w
  cells : ∀ w' : World, w'.heap = w.heap → (Builtin.firstCells sz k v).run P w' = .ok news.toArray w'
  size : news.length = k * sz
  one : news.all Value.oneCell' = true

theorem run_app_nil {t t2 ty el : TypeId} {inf : TypeInfo} {z v : Value} {k : Nat} {news : List Value} (ht : P.underlying t = some (.slice el)) (hi : P.info? el = some inf) (hz : inf.zero = some z)
    (hs : Src P t2 inf.size v k news w) (h0 : 0 < k) (h63 : (k : Int) ≤ 9223372036854775807) (h48 : k * inf.bytes ≤ 281474976710656) :
    (Builtin.append_ #[t, t2] ty #[.slice none 0 0, v]).run P w =
      .ok (.slice (some ⟨w.heap.size, 0, none⟩) k (grownCap w k 0 el)) (w.drew.alloc (.cells (news.toArray ++ Builtin.zeroCells z.cells (grownCap w k 0 el - k)) el)) := by
  have hn : k ≠ 0 := by omega
  have h63' : ¬ (9223372036854775807 < (k : Int)) := by omega
  have h48' : ¬ (281474976710656 < Builtin.nextslicecap k 0 * inf.bytes) := by rw [nextslicecap_zero h0]; omega
  have hf := hs.cells w.drew rfl
  have hl := hs.len
  rcases hs.type with ⟨_, hd⟩ | hd
  · simp [Builtin.append_, run_underlying ht, run_underlying hd, sizeOf, typeInfo, zeroValue, hi, hz, hl, hn, h63', h48', Question.forced, run_firstCells_none, hf, newRow, grownCap]
  · simp [Builtin.append_, run_underlying ht, run_underlying hd, sizeOf, typeInfo, zeroValue, hi, hz, hl, hn, h63', h48', Question.forced, run_firstCells_none, hf, newRow, grownCap]

theorem run_app_grow {t t2 ty el : TypeId} {inf : TypeInfo} {z v : Value} {k : Nat} {news : List Value} (ht : P.underlying t = some (.slice el)) (hi : P.info? el = some inf) (hz : inf.zero = some z)
    (hs : Src P t2 inf.size v k news w) (b0 : Addr) (sLen sCap : Nat) (olds : List Value) (hlo : olds.length = sLen * inf.size) (holds : ∀ j v, olds[j]? = some v → w.cell? (b0.add j) = some v)
    (hg : sCap < sLen + k) (h63 : ((sLen + k : Nat) : Int) ≤ 9223372036854775807) (hfit : Builtin.nextslicecap (sLen + k) sCap * inf.bytes ≤ 281474976710656) :
    (Builtin.append_ #[t, t2] ty #[.slice (some b0) sLen sCap, v]).run P w =
      .ok (.slice (some ⟨w.heap.size, 0, none⟩) (sLen + k) (grownCap w (sLen + k) sCap el))
        (w.drew.alloc (.cells ((olds ++ news).toArray ++ Builtin.zeroCells z.cells (grownCap w (sLen + k) sCap el - (sLen + k))) el)) := by
  have hn : ¬ (sLen + k ≤ sCap) := by omega
  have h63' : ¬ (9223372036854775807 < ((sLen : Int) + (k : Int))) := by omega
  have h48' : ¬ (281474976710656 < Builtin.nextslicecap (sLen + k) sCap * inf.bytes) := by omega
  have hf := hs.cells w.drew rfl
  have hl := hs.len
  have hfo := run_firstCells_some (P := P) w.drew inf.size sLen b0 sLen sCap olds hlo (by simpa using holds)
  rcases hs.type with ⟨_, hd⟩ | hd
  · simp [Builtin.append_, run_underlying ht, run_underlying hd, sizeOf, typeInfo, zeroValue, hi, hz, hl, hn, h63', h48', Question.forced, hf, hfo, newRow, grownCap]
    rw [show (olds ++ news).toArray = olds.toArray ++ news.toArray from by simp, Array.append_assoc]
  · simp [Builtin.append_, run_underlying ht, run_underlying hd, sizeOf, typeInfo, zeroValue, hi, hz, hl, hn, h63', h48', Question.forced, hf, hfo, newRow, grownCap]
    rw [show (olds ++ news).toArray = olds.toArray ++ news.toArray from by simp, Array.append_assoc]

theorem run_app_room {t t2 ty el : TypeId} {inf : TypeInfo} {v : Value} {k : Nat} {news : List Value} (ht : P.underlying t = some (.slice el)) (hi : P.info? el = some inf)
    (hs : Src P t2 inf.size v k news w) (g sLen sCap : Nat) (cur : Array Value) (hg : w.heap[g]? = some (.cells cur el (0, 0)))
    (hroom : sLen + k ≤ sCap) (hfit : sLen * inf.size + news.length ≤ cur.size) :
    (Builtin.append_ #[t, t2] ty #[.slice (some ⟨g, 0, none⟩) sLen sCap, v]).run P w =
      .ok (.slice (some ⟨g, 0, none⟩) (sLen + k) sCap) (w.setRow g (cur.toList.take (sLen * inf.size) ++ news ++ cur.toList.drop (sLen * inf.size + news.length)).toArray) := by
  have hf := hs.cells w rfl
  have hl := hs.len
  have h1 : ∀ u ∈ news, u.oneCell' = true := List.all_eq_true.1 hs.one
  have hst := run_storeCells_at P g (sLen * inf.size) el news 0 cur w hg (by simpa using hfit) h1
  simp only [Nat.add_zero] at hst
  rcases hs.type with ⟨_, hd⟩ | hd
  · simp [Builtin.append_, run_underlying ht, run_underlying hd, sizeOf, typeInfo, hi, hl, hroom, hf, Addr.add_lit, hst]
  · simp [Builtin.append_, run_underlying ht, run_underlying hd, sizeOf, typeInfo, hi, hl, hroom, hf, Addr.add_lit, hst]

theorem run_app_nil0 {t t2 ty el : TypeId} {inf : TypeInfo} {v : Value} {news : List Value} (ht : P.underlying t = some (.slice el)) (hi : P.info? el = some inf)
    (hs : Src P t2 inf.size v 0 news w) : (Builtin.append_ #[t, t2] ty #[.slice none 0 0, v]).run P w = .ok (.slice none 0 0) w := by
  have hf := hs.cells w rfl
  have hl := hs.len
  rcases hs.type with ⟨_, hd⟩ | hd
  · simp [Builtin.append_, run_underlying ht, run_underlying hd, sizeOf, typeInfo, hi, hl, hf]
  · simp [Builtin.append_, run_underlying ht, run_underlying hd, sizeOf, typeInfo, hi, hl, hf]

theorem osl_app {t t2 ty : TypeId} {inf : TypeInfo} {z : Value} {ys : List α} {v : Value} {bytes : Nat} {ecs' : List (List Value)}
    (ht : P.underlying t = some (.slice T)) (hi : P.info? T = some inf) (hz : inf.zero = some z) (hsz : inf.size = e.sz) (hzs : z.cells.size = e.sz) (hby : inf.bytes = bytes)
    (hs : Src P t2 e.sz v ys.length ecs'.flatten w)
    (hb : (xs.length + ys.length) * bytes ≤ 140737488355328) (hb0 : xs.length + ys.length ≤ maxLen) (hst : St G w (osl e T a cap xs :: al e ecs' ys :: L)) :
    ∃ a' cap' w', (Builtin.append_ #[t, t2] ty #[.slice a xs.length cap, v]).run P w = .ok (.slice a' (xs ++ ys).length cap') w' ∧ St G w' (osl e T a' cap' (xs ++ ys) :: L) := by
  have hsmall : xs.length + ys.length ≤ 9223372036854775807 := by unfold maxLen at hb0; omega
  have hxy : (xs ++ ys).length = xs.length + ys.length := by simp
  subst hby
  rw [← hsz] at hs
  have grown : ∀ (ecs : List (List Value)), St G w (al e ecs xs :: al e ecs' ys :: L) → ∀ old,
      St G (w.drew.alloc (.cells ((ecs.flatten ++ ecs'.flatten).toArray ++ Builtin.zeroCells z.cells (grownCap w (xs.length + ys.length) old T - (xs.length + ys.length))) T))
        (osl e T (some ⟨w.heap.size, 0, none⟩) (grownCap w (xs.length + ys.length) old T) (xs ++ ys) :: L) := by
    intro ecs hx old
    have hge := grownCap_ge w (xs.length + ys.length) old T
    have hcm := grownCap_le_maxLen w (xs.length + ys.length) old T hb0
    have hfl := (al_len hx).1
    have hfl' := (al_len hx.drop).1
    have h1 : St G w.drew (al e (ecs ++ ecs') (xs ++ ys) :: L) := (al_app hx).drawn rfl rfl rfl rfl
    refine osl_shut (by rw [hxy]; exact hge) hcm ?_ ?_ ((h1.alloc _).pull 1)
    · simp only [Array.size_append, List.size_toArray, size_zeroCells, hzs, List.length_append, hfl, hfl', ← Nat.add_mul]
      congr 1
      omega
    · simp only [Array.toList_append, List.flatten_append, hxy, Nat.add_mul]
      rw [List.take_append_of_le_length (by simp only [List.length_append, hfl, hfl']; omega), List.take_of_length_le (by simp only [List.length_append, hfl, hfl']; omega)]
  rcases osl_open hst with ⟨rfl, rfl, rfl, hst1⟩ | ⟨g, cur, ecs, rfl, q3, q4, q5, q7, hst1⟩
  · by_cases hy0 : ys.length = 0
    · have : ys = [] := List.eq_nil_of_length_eq_zero hy0
      subst this
      exact ⟨none, 0, w, run_app_nil0 ht hi hs, osl_nil e T hst1.drop⟩
    · have hr := run_app_nil (w := w) (ty := ty) ht hi hz hs (by omega) (by omega) (by simp only [List.length_nil, Nat.zero_add] at hb; omega)
      have hg := grown [] (hst1.triv fun _ => trivial) 0
      simp only [List.length_nil, Nat.zero_add, List.flatten_nil, List.nil_append] at hg ⊢
      exact ⟨_, _, _, hr, hg⟩
  · have hfl := (al_len hst1).1
    have hfl' := (al_len hst1.drop.drop).1
    have hgw : w.heap[g]? = some (.cells cur T (0, 0)) := (hst1.pull 1).get
    by_cases hroom : xs.length + ys.length ≤ cap
    · have hfit : xs.length * inf.size + ecs'.flatten.length ≤ cur.size := by
        rw [hs.size, q5, hsz, ← Nat.add_mul]; exact Nat.mul_le_mul_right _ hroom
      have hr := run_app_room (w := w) (ty := ty) ht hi hs g xs.length cap cur hgw hroom hfit
      refine ⟨_, _, _, by rw [hxy]; exact hr, ?_⟩
      have hgr : w.grownBy (w.setRow g (cur.toList.take (xs.length * inf.size) ++ ecs'.flatten ++ cur.toList.drop (xs.length * inf.size + ecs'.flatten.length)).toArray) (some g) :=
        ⟨rfl, rfl, rfl, by simp, fun k _ hk => setRow_other w g k _ (fun e => hk (by rw [e]))⟩
      have hturn := (hst1.pull 1).turn hgr (setRow_heap w g cur _ T _ hgw)
      have h3 : St G _ (al e ecs xs :: al e ecs' ys :: blk g _ :: L) := ((hturn.pull 2).pull 2)
      refine osl_shut (by rw [hxy]; exact hroom) q4 ?_ ?_ (al_app h3)
      · simp only [List.size_toArray, List.length_append, List.length_take, List.length_drop, Array.length_toList]
        omega
      · rw [hsz, q7, hxy, List.flatten_append]
        simp only [List.append_assoc]
        rw [← List.append_assoc, List.take_append_of_le_length (by simp only [List.length_append, hfl, hfl', Nat.add_mul]; omega), List.take_of_length_le (by simp only [List.length_append, hfl, hfl', Nat.add_mul]; omega)]
    · have holds : ∀ j u, ecs.flatten[j]? = some u → w.cell? ((⟨g, 0, none⟩ : Addr).add j) = some u := by
        intro j u hj
        have ha : (⟨g, 0, none⟩ : Addr).add j = ⟨g, j, none⟩ := by
          unfold Addr.add; by_cases e0 : j = 0
          · subst e0; rfl
          · simp [e0]
        rw [← q7] at hj
        have hl := (List.getElem?_eq_some_iff.1 hj).1
        simp only [List.length_take] at hl
        rw [List.getElem?_take_of_lt (by omega)] at hj
        simp only [ha, World.cell?, hgw]
        simpa using hj
      have hr := run_app_grow (w := w) (ty := ty) ht hi hz hs ⟨g, 0, none⟩ xs.length cap ecs.flatten (by rw [hfl, hsz]) holds (by omega) (by omega) (growslice_fits (by omega) hb)
      have hst2 : St G w (al e ecs xs :: al e ecs' ys :: L) := (hst1.pull 1).drop
      exact ⟨_, _, _, by rw [hxy]; exact hr, grown ecs hst2 cap⟩
end
end Go.Hx
