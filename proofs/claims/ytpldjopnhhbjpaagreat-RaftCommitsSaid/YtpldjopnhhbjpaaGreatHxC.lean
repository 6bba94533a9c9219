/-
  HxC: the rules of the operations. Own work.
-/
import Derived.Test.YtpldjopnhhbjpaaGreatHxB
import Derived.Laws.Entries
namespace Go.Hx
open Go.RowKit

abbrev I (n : Int) : Value := .int .i64 n
abbrev S (l : List UInt8) : Value := .string ⟨l.toArray⟩
abbrev pt (b off : Nat) : Value := .pointer (some ⟨b, off, none⟩)
abbrev cl (cs : List Value) (T : TypeId) : Obj := .cells cs.toArray T (0, 0)

/-! ### what asks the world nothing -/
def pureRun {α : Type} (P : Program) : Sem α → Option α
  | .pure a => some a
  | .program k => pureRun P (k P)
  | _ => none

theorem pureRun_run {α : Type} {P : Program} : ∀ {s : Sem α} {a : α}, pureRun P s = some a → ∀ w, s.run P w = .ok a w
  | .pure _, _, h, w => by simp [pureRun] at h; subst h; rfl
  | .program k, _, h, w => by simp only [pureRun] at h; exact pureRun_run h w
  | .load .., _, h, _ | .store .., _, h, _ | .new .., _, h, _ | .shape .., _, h, _ | .freeze .., _, h, _ | .frozen .., _, h, _ | .getObj .., _, h, _ | .setObj .., _, h, _
  | .choose .., _, h, _ | .sys .., _, h, _ | .mark .., _, h, _ | .halt .., _, h, _ => by simp [pureRun] at h

/-- whether a guard lets an operation be: the slot of the operation that it waits for -/
def letBy (ops : Array Oper) (n : Nat) (b : Nat → Value) (l : List (Nat × Value)) (o : Oper) : Option Bool :=
  match o.guard with
  | none => some true
  | some (j, want) =>
    match (ops[j]?).bind (·.dst) with
    | some d => match (bif Nat.blt d n then lk b l d else undef) with
      | .bool x => some (bif x then want else !want)
      | .tuple _ => bif Nat.blt d n then some false else none
      | _ => none
    | none => none

theorem wanted_mkF {ops : Array Oper} {n : Nat} {b : Nat → Value} {l : List (Nat × Value)} {o : Oper} {x : Bool} (h : letBy ops n b l o = some x) :
    Region.wanted o (yielded ops (mkF n b l).tmps) = x := by
  unfold letBy at h
  unfold Region.wanted
  cases hg : o.guard with
  | none => simp only [hg, Option.some.injEq] at h; simpa [hg] using h
  | some g =>
    obtain ⟨j, want⟩ := g
    simp only [hg] at h ⊢
    unfold yielded
    cases hd : (ops[j]?).bind (·.dst) with
    | none => simp [hd] at h
    | some d =>
      simp only [hd] at h
      have hlt : Nat.blt d n = true := by
        cases hb : Nat.blt d n with
        | true => rfl
        | false => rw [hb] at h; simp [undef] at h
      have hd' : d < n := blt_true hlt
      have ht : (mkF n b l).tmps[d]? = some (lk b l d) := by
        simp [mkF, hd']
      simp only [hlt, cond_true] at h
      simp only [Option.bind_some, ht]
      cases hv : lk b l d with
      | bool y =>
        simp only [hv] at h ⊢
        simp only [Option.some.injEq] at h
        rw [← h]
        cases y <;> cases want <;> simp
      | tuple vs =>
        simp only [hv, Option.some.injEq] at h ⊢
        rw [← h]
        rfl
      | _ => simp [hv] at h

/-- one operation that asks the world nothing -/
def stepP (P : Program) (ops : Array Oper) (n : Nat) (b : Nat → Value) (l : List (Nat × Value)) (o : Oper) : Option (List (Nat × Value)) :=
  match letBy ops n b l o, o.dst with
  | some true, some d =>
    match pureRun P (execOp (evl n b l) o) with
    | some (.value v) => bif Nat.blt d n then some ((d, v) :: l) else none
    | _ => none
  | some false, some d => bif Nat.blt d n then some ((d, undef) :: l) else none
  | _, _ => none

def stepsP (P : Program) (ops : Array Oper) (n : Nat) (b : Nat → Value) : Nat → List Oper → List (Nat × Value) → Option (List (Nat × Value))
  | 0, _, l => some l
  | _ + 1, [], _ => none
  | k + 1, o :: os, l =>
    match stepP P ops n b l o with
    | some l' => stepsP P ops n b k os l'
    | none => none

section
variable {P : Program} {ops : Array Oper} {Q : Exit → Act → World → Prop} {n : Nat} {b : Nat → Value} {l : List (Nat × Value)} {w : World} {os : List Oper}

theorem wpL_nil {a : Act} (h : Q .normal a w) : wpL P ops Q [] a w := h

/-- behind a batch: these slots have these values; of the others nothing is said but for those that stood in the list -/
theorem wpL_stepsP : ∀ (k : Nat) (os : List Oper) (l l' : List (Nat × Value)), stepsP P ops n b k os l = some l' →
    wpL P ops Q (os.drop k) (mkF n b l') w → wpL P ops Q os (mkF n b l) w
  | 0, os, l, l', h, hk => by simp [stepsP] at h; subst h; exact hk
  | k + 1, [], l, l', h, _ => by simp [stepsP] at h
  | k + 1, o :: os, l, l', h, hk => by
    simp only [stepsP] at h
    cases hs : stepP P ops n b l o with
    | none => rw [hs] at h; cases h
    | some l1 =>
      rw [hs] at h
      have ih := wpL_stepsP k os l1 l' h hk
      unfold stepP at hs
      simp only [wpL]
      cases hl : letBy ops n b l o with
      | none => simp [hl] at hs
      | some x =>
        rw [wanted_mkF hl]
        cases hd : o.dst with
        | none => cases x <;> simp [hl, hd] at hs
        | some d =>
          cases x with
          | true =>
            simp only [hl, hd] at hs
            cases hp : pureRun P (execOp (evl n b l) o) with
            | none => simp [hp] at hs
            | some nx =>
              cases nx with
              | value v =>
                simp only [hp] at hs
                cases hb : Nat.blt d n with
                | false => simp [hb] at hs
                | true =>
                  simp only [hb, cond_true, Option.some.injEq] at hs
                  subst hs
                  simp only [if_true, Oper.wp, eval_mkF', pureRun_run hp w, Oper.upon, hd, put_mkF hb]
                  exact ih
              | _ => simp [hp] at hs
          | false =>
            simp only [hl, hd] at hs
            cases hb : Nat.blt d n with
            | false => simp [hb] at hs
            | true =>
              simp only [hb, cond_true, Option.some.injEq] at hs
              subst hs
              simp only [Bool.false_eq_true, if_false, put_mkF hb]
              exact ih

/-- the batch, and what is to be known behind it -/
def batch (P : Program) (ops : Array Oper) (n : Nat) (b : Nat → Value) (k : Nat) (os : List Oper) (l want : List (Nat × Value)) : Option (List Value) :=
  match stepsP P ops n b k os l with
  | some l' => some (want.map fun p => lk b l' p.1)
  | none => none

theorem L_pure (k : Nat) (want : List (Nat × Value)) (h : batch P ops n b k os l want = some (want.map fun p => p.2))
    (hk : ∀ b', wpL P ops Q (os.drop k) (mkF n b' want) w) : wpL P ops Q os (mkF n b l) w := by
  unfold batch at h
  cases hs : stepsP P ops n b k os l with
  | none => simp [hs] at h
  | some l' =>
    simp only [hs, Option.some.injEq] at h
    refine wpL_stepsP k os l l' hs ?_
    rw [mkF_keep want h]
    exact hk _

/-- forget -/
theorem L_keep (want : List (Nat × Value)) (h : want.map (fun p => lk b l p.1) = want.map (fun p => p.2))
    (hk : ∀ b', wpL P ops Q os (mkF n b' want) w) : wpL P ops Q os (mkF n b l) w := by
  rw [mkF_keep want h]; exact hk _

theorem wp_keep {c : Code} (want : List (Nat × Value)) (h : want.map (fun p => lk b l p.1) = want.map (fun p => p.2))
    (hk : ∀ b', c.wp P Q (mkF n b' want) w) : c.wp P Q (mkF n b l) w := by
  rw [mkF_keep want h]; exact hk _

theorem L_bool {d : Nat} {x y : Bool} (h : x = y) (hk : wpL P ops Q os (mkF n b ((d, .bool y) :: l)) w) : wpL P ops Q os (mkF n b ((d, .bool x) :: l)) w := by
  subst h; exact hk

/-- an operation that is wanted -/
theorem L_op {o : Oper} (hl : letBy ops n b l o = some true) (h : o.wp P (mkF n b l) w (wpL P ops Q os) Q) : wpL P ops Q (o :: os) (mkF n b l) w := by
  simp only [wpL, wanted_mkF hl, if_true]; exact h

/-- an operation that is let by -/
theorem L_skip {o : Oper} {d : Nat} (hl : letBy ops n b l o = some false) (hd : o.dst = some d) (hn : Nat.blt d n = true) (h : wpL P ops Q os (mkF n b ((d, undef) :: l)) w) :
    wpL P ops Q (o :: os) (mkF n b l) w := by
  simp only [wpL, wanted_mkF hl, Bool.false_eq_true, if_false, hd, put_mkF hn]; exact h

end

/-! ### one operation -/
section
variable {P : Program} {Q : Exit → Act → World → Prop} {n : Nat} {b : Nat → Value} {l : List (Nat × Value)} {w G : World} {L : List HP} {K : Act → World → Prop}

/-- by its run -/
theorem O_run {o : Oper} {d : Nat} {v : Value} {w' : World} (hr : (execOp (evl n b l) o).run P w = .ok (.value v) w') (hd : o.dst = some d) (hn : Nat.blt d n = true)
    (h : K (mkF n b ((d, v) :: l)) w') : o.wp P (mkF n b l) w K Q := by
  simp only [Oper.wp, eval_mkF', hr, Oper.upon, hd, put_mkF hn]; exact h

theorem O_run0 {o : Oper} {v : Value} {w' : World} (hr : (execOp (evl n b l) o).run P w = .ok (.value v) w') (hd : o.dst = none)
    (h : K (mkF n b l) w') : o.wp P (mkF n b l) w K Q := by
  simp only [Oper.wp, eval_mkF', hr, Oper.upon, hd, put_none]; exact h

theorem O_skip {o : Oper} {w' : World} (hr : (execOp (evl n b l) o).run P w = .ok .skip w') (hd : o.dst = none)
    (h : K (mkF n b l) w') : o.wp P (mkF n b l) w K Q := by
  simp only [Oper.wp, eval_mkF', hr, Oper.upon, hd, put_none]; exact h

/-- a variable's value in a row of cells -/
def ldv (P : Program) (t : TypeId) (cs : List Value) (off : Nat) : Option Value :=
  match P.underlying t, P.info? t with
  | some (.struct _), some i => bif Nat.ble (off + i.size) cs.length then some (.agg ((cs.drop off).take i.size).toArray) else none
  | some (.array _ _), some i => bif Nat.ble (off + i.size) cs.length then some (.agg ((cs.drop off).take i.size).toArray) else none
  | some _, some _ => cs[off]?
  | _, _ => none

theorem run_loadCellsFrom {w : World} {p off : Nat} {cs : List Value} (hc : ∀ j v, cs[j]? = some v → w.cell? ⟨p, j, none⟩ = some v) :
    ∀ (k i : Nat) (acc : Array Value), off + i + k ≤ cs.length → (loadCellsFrom ⟨p, off, none⟩ i k acc).run P w = .ok (acc ++ ((cs.drop (off + i)).take k).toArray) w
  | 0, i, acc, _ => by simp [loadCellsFrom]
  | k + 1, i, acc, h => by
    have hlt : off + i < cs.length := by omega
    have ha : (⟨p, off, none⟩ : Addr).add i = ⟨p, off + i, none⟩ := by
      unfold Addr.add; by_cases e : i = 0
      · subst e; simp
      · simp [e]
    have hcell := hc (off + i) (cs[off + i]'hlt) (by simp [hlt])
    have ih := run_loadCellsFrom (off := off) hc k (i + 1) (acc.push (cs[off + i]'hlt)) (by omega)
    have e1 : off + (i + 1) = off + i + 1 := by omega
    rw [e1] at ih
    have e2 : List.drop (off + i) cs = (cs[off + i]'hlt) :: List.drop (off + i + 1) cs := by simp
    simp only [loadCellsFrom, ha]
    simp only [load, bind, Sem.bind, Sem.run, hcell]
    rw [show (loadCellsFrom ⟨p, off, none⟩ (i + 1) k (acc.push (cs[off + i]'hlt))).run P w = _ from ih, e2, List.take_succ_cons]
    simp

theorem isAgg_run (t : TypeId) {d : TypeDesc} (h : P.underlying t = some d) (w : World) :
    (isAgg t).run P w = .ok (match d with | .struct _ | .array _ _ => true | _ => false) w := by
  unfold isAgg
  simp only [Sem.run_bind, run_underlying h]
  cases d <;> rfl

theorem run_loadVar {t : TypeId} {w : World} {p off : Nat} {cs : List Value} {v : Value} (hc : ∀ j v, cs[j]? = some v → w.cell? ⟨p, j, none⟩ = some v)
    (hv : ldv P t cs off = some v) : (loadVar t ⟨p, off, none⟩).run P w = .ok v w := by
  unfold ldv at hv
  cases hu : P.underlying t with
  | none => simp [hu] at hv
  | some d =>
    cases hi : P.info? t with
    | none => simp [hu, hi] at hv
    | some i =>
      unfold loadVar
      simp only [Sem.run_bind, isAgg_run t hu]
      have hz : (sizeOf t).run P w = .ok i.size w := by simp [sizeOf, typeInfo, hi]
      have agg : (match Nat.ble (off + i.size) cs.length with | true => some (Value.agg ((cs.drop off).take i.size).toArray) | false => none) = some v →
          ((do let n ← sizeOf t; let cs ← loadCells ⟨p, off, none⟩ n; Pure.pure (Value.agg cs)) : Sem Value).run P w = .ok v w := by
        intro hv
        cases hb : Nat.ble (off + i.size) cs.length with
        | false => rw [hb] at hv; cases hv
        | true =>
          rw [hb] at hv
          simp only [Option.some.injEq] at hv
          subst hv
          have hle : off + i.size ≤ cs.length := Nat.le_of_ble_eq_true hb
          have hl := run_loadCellsFrom (P := P) (off := off) hc i.size 0 #[] (by omega)
          simp only [Sem.run_bind, hz, loadCells, Result.andThen_ok]
          rw [show (loadCellsFrom ⟨p, off, none⟩ 0 i.size #[]).run P w = _ from hl]
          simp
      cases d with
      | struct fs => simp only [hu, hi] at hv; simp only [Result.andThen_ok, if_true]; refine agg ?_; rw [← hv]; cases Nat.ble (off + i.size) cs.length <;> rfl
      | array k e => simp only [hu, hi] at hv; simp only [Result.andThen_ok, if_true]; refine agg ?_; rw [← hv]; cases Nat.ble (off + i.size) cs.length <;> rfl
      | _ =>
        simp only [hu, hi] at hv
        have := hc off v hv
        simp [load, Sem.run, this]

theorem cells_of_get {w : World} {p : Nat} {cs : List Value} {T : TypeId} {fz : Nat × Nat} (h : w.heap[p]? = some (.cells cs.toArray T fz)) :
    ∀ j v, cs[j]? = some v → w.cell? ⟨p, j, none⟩ = some v := by
  intro j v hj
  simp [World.cell?, h, hj]

theorem run_loadAt {t : TypeId} {w : World} {p off : Nat} {cs : List Value} {v : Value} (hc : ∀ j v, cs[j]? = some v → w.cell? ⟨p, j, none⟩ = some v)
    (hv : ldv P t cs off = some v) : (Instr.loadAt t (pt p off)).run P w = .ok v w := by
  unfold Instr.loadAt Instr.sureAddr
  simpa using run_loadVar hc hv

theorem run_loadAt_from {t : TypeId} {w : World} {p lo off : Nat} {cs : List Value} {v : Value} (hc : ∀ j v, cs[j]? = some v → lo ≤ j → w.cell? ⟨p, j, none⟩ = some v) (hlo : lo ≤ off)
    (hv : ldv P t cs off = some v) : (Instr.loadAt t (pt p off)).run P w = .ok v w := by
  -- the world in which the block's first cells are whatever cs says reads alike from lo on
  have h1 : ∀ (k i : Nat) (acc : Array Value), off + i + k ≤ cs.length → (loadCellsFrom ⟨p, off, none⟩ i k acc).run P w = .ok (acc ++ ((cs.drop (off + i)).take k).toArray) w := by
    intro k
    induction k with
    | zero => intro i acc _; simp [loadCellsFrom]
    | succ k ih =>
      intro i acc h
      have hlt : off + i < cs.length := by omega
      have ha : (⟨p, off, none⟩ : Addr).add i = ⟨p, off + i, none⟩ := by
        unfold Addr.add; by_cases e : i = 0
        · subst e; simp
        · simp [e]
      have hcell := hc (off + i) (cs[off + i]'hlt) (by simp [hlt]) (by omega)
      have ih := ih (i + 1) (acc.push (cs[off + i]'hlt)) (by omega)
      have e1 : off + (i + 1) = off + i + 1 := by omega
      rw [e1] at ih
      have e2 : List.drop (off + i) cs = (cs[off + i]'hlt) :: List.drop (off + i + 1) cs := by simp
      simp only [loadCellsFrom, ha]
      simp only [load, bind, Sem.bind, Sem.run, hcell]
      rw [show (loadCellsFrom ⟨p, off, none⟩ (i + 1) k (acc.push (cs[off + i]'hlt))).run P w = _ from ih, e2, List.take_succ_cons]
      simp
  unfold ldv at hv
  unfold Instr.loadAt Instr.sureAddr
  cases hu : P.underlying t with
  | none => simp [hu] at hv
  | some d =>
    cases hi : P.info? t with
    | none => simp [hu, hi] at hv
    | some i =>
      simp only [loadVar, Sem.run_bind, Sem.run_pure, Result.andThen_ok, isAgg_run t hu]
      have hz : (sizeOf t).run P w = .ok i.size w := by simp [sizeOf, typeInfo, hi]
      have agg : (match Nat.ble (off + i.size) cs.length with | true => some (Value.agg ((cs.drop off).take i.size).toArray) | false => none) = some v →
          ((do let n ← sizeOf t; let cs ← loadCells ⟨p, off, none⟩ n; Pure.pure (Value.agg cs)) : Sem Value).run P w = .ok v w := by
        intro hv
        cases hb : Nat.ble (off + i.size) cs.length with
        | false => rw [hb] at hv; cases hv
        | true =>
          rw [hb] at hv
          simp only [Option.some.injEq] at hv
          subst hv
          have hle : off + i.size ≤ cs.length := Nat.le_of_ble_eq_true hb
          have hl := h1 i.size 0 #[] (by omega)
          simp only [Sem.run_bind, hz, loadCells, Result.andThen_ok]
          rw [show (loadCellsFrom ⟨p, off, none⟩ 0 i.size #[]).run P w = _ from hl]
          simp
      cases d with
      | struct fs => simp only [hu, hi] at hv; simp only [if_true]; refine agg ?_; rw [← hv]; cases Nat.ble (off + i.size) cs.length <;> rfl
      | array k e => simp only [hu, hi] at hv; simp only [if_true]; refine agg ?_; rw [← hv]; cases Nat.ble (off + i.size) cs.length <;> rfl
      | _ =>
        simp only [hu, hi] at hv
        have := hc off v hv hlo
        simp [load, Sem.run, this]

/-- a load of an owned block -/
theorem R_load {t ty : TypeId} {x : Operand} {d p off : Nat} {pos : String} {af : Array Edge} {gd : Option (Nat × Bool)} {cs : List Value} {T : TypeId} {v : Value}
    (hst : St G w (blk p (cl cs T) :: L)) (hx : evl n b l x = pt p off) (hv : ldv P t cs off = some v) : (execOp (evl n b l) ({ dst := some d, op := .load t x, type := ty, pos := pos, after := af, guard := gd } : Oper)).run P w = .ok (.value (v)) w := by
  simp only [execOp, hx, Sem.run_bind, run_loadAt (cells_of_get hst.get) hv]
  rfl

/-! stores -/
def setCells : List Value → Nat → List Value → List Value
  | cs, _, [] => cs
  | cs, off, v :: vs => setCells (cs.set off v) (off + 1) vs

/-- what a row of cells is behind a store -/
def stv (P : Program) (t : TypeId) (cs : List Value) (off : Nat) (v : Value) : Option (List Value) :=
  match P.info? t with
  | some i => bif (Nat.beq v.cells.size i.size && Nat.ble (off + i.size) cs.length && v.cells.toList.all Value.oneCell') then some (setCells cs off v.cells.toList) else none
  | none => none

theorem run_storeCells' {p : Nat} {T : TypeId} : ∀ (vs : List Value) (i off : Nat) (cs : List Value) (w : World), w.heap[p]? = some (cl cs T) → off + i + vs.length ≤ cs.length →
    vs.all Value.oneCell' = true → ∃ w', (storeCells ⟨p, off, none⟩ vs i).run P w = .ok () w' ∧ w.grownBy w' (some p) ∧ w'.heap[p]? = some (cl (setCells cs (off + i) vs) T)
  | [], i, off, cs, w, h, _, _ => ⟨w, by simp [storeCells], grownBy_refl _ _, by simpa [setCells] using h⟩
  | v :: vs, i, off, cs, w, h, hl, hone => by
    simp only [List.all_cons, Bool.and_eq_true] at hone
    simp only [List.length_cons] at hl
    have ha : (⟨p, off, none⟩ : Addr).add i = ⟨p, off + i, none⟩ := by
      unfold Addr.add; by_cases e : i = 0
      · subst e; simp
      · simp [e]
    have hlt : off + i < cs.length := by omega
    have hcell : w.cell? ⟨p, off + i, none⟩ = some cs[off + i] := by simp [World.cell?, h, hlt]
    have hfz : w.frozen? ⟨p, off + i, none⟩ = false := by simp [World.frozen?, h]
    have h1 : (store ⟨p, off + i, none⟩ v).run P w = .ok () (w.setCell ⟨p, off + i, none⟩ v) := by
      have := run_store P w ⟨p, off + i, none⟩ v .plain hone.1
      simpa [hcell, hfz] using this
    have hw : (w.setCell ⟨p, off + i, none⟩ v).heap[p]? = some (cl (cs.set (off + i) v) T) := by
      simp [World.setCell, Array.getElem?_modify, h]
    have hg : w.grownBy (w.setCell ⟨p, off + i, none⟩ v) (some p) := by
      refine ⟨rfl, rfl, rfl, by simp [World.setCell], fun k hk hne => ?_⟩
      simp only [World.setCell, Array.getElem?_modify]
      rw [if_neg (fun e => hne (by rw [e]))]
    obtain ⟨w', h2, h3, h4⟩ := run_storeCells' vs (i + 1) off (cs.set (off + i) v) _ hw (by simp; omega) hone.2
    refine ⟨w', ?_, ⟨h3.os.trans hg.os, h3.tape.trans hg.tape, h3.output.trans hg.output, Nat.le_trans hg.size h3.size, fun k hk hne => ?_⟩, ?_⟩
    · simp only [storeCells, ha, Sem.run_bind, h1]; exact h2
    · rw [h3.block k (Nat.lt_of_lt_of_le hk hg.size) hne, hg.block k hk hne]
    · rw [h4]; simp only [setCells]; rw [show off + (i + 1) = off + i + 1 from by omega]

theorem run_storeAt {t : TypeId} {w : World} {p off : Nat} {cs cs' : List Value} {T : TypeId} {v : Value} (h : w.heap[p]? = some (cl cs T)) (hv : stv P t cs off v = some cs') :
    ∃ w', (Instr.storeAt t (pt p off) v).run P w = .ok () w' ∧ w.grownBy w' (some p) ∧ w'.heap[p]? = some (cl cs' T) := by
  unfold stv at hv
  cases hi : P.info? t with
  | none => simp [hi] at hv
  | some i =>
    simp only [hi] at hv
    cases hc : (Nat.beq v.cells.size i.size && Nat.ble (off + i.size) cs.length && v.cells.toList.all Value.oneCell') with
    | false => simp only [hc, cond_false] at hv; cases hv
    | true =>
      simp only [hc, cond_true, Option.some.injEq] at hv
      simp only [Bool.and_eq_true] at hc
      have hsz : v.cells.size = i.size := Nat.eq_of_beq_eq_true hc.1.1
      have hle : off + i.size ≤ cs.length := Nat.le_of_ble_eq_true hc.1.2
      obtain ⟨w', h1, h2, h3⟩ := run_storeCells' (P := P) v.cells.toList 0 off cs w h (by simpa [hsz] using hle) hc.2
      refine ⟨w', ?_, h2, by rw [h3, ← hv]; rfl⟩
      simp only [Instr.storeAt, Instr.sureAddr, storeVar, Sem.run_bind, Sem.run_pure, sizeOf, typeInfo, run_program, Result.andThen_ok]
      simp [hi, hsz, h1]

theorem O_store {t ty : TypeId} {x y : Operand} {p off : Nat} {pos : String} {af : Array Edge} {gd : Option (Nat × Bool)} {cs : List Value} (cs' : List Value) {T : TypeId} {v : Value}
    (hst : St G w (blk p (cl cs T) :: L)) (hx : evl n b l x = pt p off) (hy : evl n b l y = v) (hv : stv P t cs off v = some cs')
    (h : ∀ w', St G w' (blk p (cl cs' T) :: L) → K (mkF n b l) w') : ({ dst := none, op := .store t x y, type := ty, pos := pos, after := af, guard := gd } : Oper).wp P (mkF n b l) w K Q := by
  obtain ⟨w', h1, h2, h3⟩ := run_storeAt hst.get hv
  refine O_skip (w' := w') ?_ rfl (h w' (hst.turn h2 h3))
  simp only [execOp, hx, hy, Sem.run_bind, h1]
  rfl

/-- a new variable with a value -/
theorem O_box {t ty : TypeId} {x : Operand} {d : Nat} {pos : String} {af : Array Edge} {gd : Option (Nat × Bool)} (cs : List Value)
    (hst : St G w L) (hx : (evl n b l x).cells.toList = cs) (hn : Nat.blt d n = true)
    (h : ∀ p w', St G w' (blk p (cl cs t) :: L) → K (mkF n b ((d, pt p 0) :: l)) w') : ({ dst := some d, op := .box t x, type := ty, pos := pos, after := af, guard := gd } : Oper).wp P (mkF n b l) w K Q := by
  refine O_run (v := pt w.heap.size 0) (w' := w.alloc (.cells (evl n b l x).cells t)) ?_ rfl hn (h _ _ ?_)
  · simp [execOp, Instr.box, newVar, newRow]
  · have : (evl n b l x).cells = cs.toArray := by rw [← hx]
    rw [this]
    exact hst.alloc _

/-- a new variable with its zero -/
theorem O_alloc {t ty : TypeId} {d : Nat} {pos : String} {af : Array Edge} {gd : Option (Nat × Bool)} {i : TypeInfo} {z : Value} (cs : List Value)
    (hst : St G w L) (hi : P.info? t = some i) (hz : i.zero = some z) (hx : z.cells.toList = cs) (hn : Nat.blt d n = true)
    (h : ∀ p w', St G w' (blk p (cl cs t) :: L) → K (mkF n b ((d, pt p 0) :: l)) w') : ({ dst := some d, op := .alloc t, type := ty, pos := pos, after := af, guard := gd } : Oper).wp P (mkF n b l) w K Q := by
  refine O_run (v := pt w.heap.size 0) (w' := w.alloc (.cells z.cells t)) ?_ rfl hn (h _ _ ?_)
  · simp [execOp, Instr.alloc, newVar, newRow, zeroValue, typeInfo, hi, hz]
  · have : z.cells = cs.toArray := by rw [← hx]
    rw [this]
    exact hst.alloc _

/-! calls -/
def CK (K : Act → World → Prop) (n : Nat) (b : Nat → Value) (l : List (Nat × Value)) (d : Option Nat) : Ending → World → Prop
  | .returned v, w => K ((mkF n b l).put d v) w
  | _, _ => False

theorem O_call {f : FuncId} {ty : TypeId} {xs : Array Operand} {ts : Array TypeId} {d : Option Nat} {pos : String} {af : Array Edge} {gd : Option (Nat × Bool)} (vs : Array Value)
    (hf : ∀ args w, (callFunc f args).run P w = .ok (.enter f args) w) (hx : xs.map (evl n b l) = vs) (h : Calls P f vs w (CK K n b l d)) :
    ({ dst := d, op := .call { callee := .value (.func f), args := xs, argTypes := ts }, type := ty, pos := pos, after := af, guard := gd } : Oper).wp P (mkF n b l) w K Q := by
  have hrun : (execOp (evl n b l) ({ dst := d, op := .call { callee := .value (.func f), args := xs, argTypes := ts }, type := ty, pos := pos, after := af, guard := gd } : Oper)).run P w = .ok (.enter f vs) w := by
    simp only [execOp, resolve, evl, Deferred.ofValue, Sem.run_bind, Sem.run_pure, Result.andThen_ok, invoke, hx, Array.empty_append, Array.append_empty, hf]
  simp only [Oper.wp, eval_mkF', hrun, Oper.upon]
  exact h.mono fun e w' he => by cases e <;> first | exact he | exact he.elim

/-- a call of a function value with what it holds -/
theorem O_callv {f : FuncId} {ty : TypeId} {u : Operand} {xs : Array Operand} {ts : Array TypeId} {d : Option Nat} {pos : String} {af : Array Edge} {gd : Option (Nat × Bool)} (vs : Array Value) {cs ws : Array Value}
    (hu : evl n b l u = .func (.func f) #[] cs) (hf : ∀ args w, (callFunc f args).run P w = .ok (.enter f args) w) (hx : xs.map (evl n b l) = ws) (hv : ws ++ cs = vs) (h : Calls P f vs w (CK K n b l d)) :
    ({ dst := d, op := .call { callee := .value u, args := xs, argTypes := ts }, type := ty, pos := pos, after := af, guard := gd } : Oper).wp P (mkF n b l) w K Q := by
  have hrun : (execOp (evl n b l) ({ dst := d, op := .call { callee := .value u, args := xs, argTypes := ts }, type := ty, pos := pos, after := af, guard := gd } : Oper)).run P w = .ok (.enter f vs) w := by
    simp only [execOp, resolve, hu, Deferred.ofValue, Sem.run_bind, Sem.run_pure, Result.andThen_ok, invoke, hx, Array.empty_append, hv, hf]
  simp only [Oper.wp, eval_mkF', hrun, Oper.upon]
  exact h.mono fun e w' he => by cases e <;> first | exact he | exact he.elim

theorem CK_ret {d : Nat} {v : Value} (hn : Nat.blt d n = true) (h : K (mkF n b ((d, v) :: l)) w) : CK K n b l (some d) (.returned v) w := by
  simp only [CK, put_mkF hn]; exact h

theorem CK_ret0 {v : Value} (h : K (mkF n b l) w) : CK K n b l none (.returned v) w := h

end

/-! ### in and out -/
section
variable {P : Program} {w : World} {R : Ending → World → Prop}

theorem enter {f : FuncId} {fn : Func} {c : Code} {args : Array Value} (hf : P.funcs[f]? = some fn) (hb : fn.body = some c) (env : List (Nat × Value))
    (he : (List.range args.size).map (fun i => (i, args.getD i undef)) = env) (hn : Nat.ble args.size fn.ntmps = true)
    (h : ∀ b, c.wp P (bodyPost P fn R) (mkF fn.ntmps b env) w) : Calls P f args w R := by
  refine calls_of_wp hf hb ?_
  have hsz : args.size ≤ fn.ntmps := Nat.le_of_ble_eq_true hn
  have : ({ tmps := args ++ Array.replicate (fn.ntmps - args.size) undef, defers := [] } : Act) = mkF fn.ntmps (fun t => args.getD t undef) env := by
    rw [← he]
    have hk : mkF fn.ntmps (fun t => args.getD t undef) ((List.range args.size).map (fun i => (i, args.getD i undef))) = mkF fn.ntmps (fun t => args.getD t undef) [] := by
      refine mkF_congr fun t => ?_
      exact lk_same _ _ (fun p hp => by simp only [List.mem_map] at hp; obtain ⟨i, _, rfl⟩ := hp; rfl) t
    rw [hk]
    simp only [mkF, Act.mk.injEq, and_true]
    apply Array.ext
    · simp; omega
    · intro i h1 h2
      simp only [Array.getElem_map, Array.getElem_range, lk]
      by_cases hi : i < args.size
      · simp [hi]
      · rw [Array.getElem_append_right (by omega)]
        simp [hi]
  rw [this]
  exact h _

/-- one result, in a slot -/
theorem ret1 {fn : Func} {n : Nat} {b : Nat → Value} {l : List (Nat × Value)} {t : Nat} {v : Value} (hr : fn.results = #[.tmp t]) (hv : evl n b l (.tmp t) = v)
    (h : R (.returned v) w) : bodyPost P fn R .ret (mkF n b l) w := by
  refine bodyPost_ret (v := v) ?_ rfl h
  have := eval_mkF n b l (.tmp t)
  simp only [Act.eval, Array.getD_eq_getD_getElem?] at this
  simp [results, hr, this, hv]

theorem ret2 {fn : Func} {n : Nat} {b : Nat → Value} {l : List (Nat × Value)} {t u : Nat} {v x : Value} (hr : fn.results = #[.tmp t, .tmp u]) (hv : evl n b l (.tmp t) = v) (hx : evl n b l (.tmp u) = x)
    (h : R (.returned (.tuple #[v, x])) w) : bodyPost P fn R .ret (mkF n b l) w := by
  refine bodyPost_ret (v := .tuple #[v, x]) ?_ rfl h
  have h1 := eval_mkF n b l (.tmp t)
  have h2 := eval_mkF n b l (.tmp u)
  simp only [Act.eval, Array.getD_eq_getD_getElem?] at h1 h2
  simp [results, hr, h1, h2, hv, hx]

theorem ret0 {fn : Func} {n : Nat} {b : Nat → Value} {l : List (Nat × Value)} (hr : fn.results = #[])
    (h : R (.returned (.tuple #[])) w) : bodyPost P fn R .ret (mkF n b l) w :=
  bodyPost_ret (v := .tuple #[]) (results_none hr _ _ _) rfl h

theorem bp_normal {fn : Func} {a : Act} (h : bodyPost P fn R .ret a w) : bodyPost P fn R .normal a w := h

end
end Go.Hx
