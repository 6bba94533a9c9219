/-
  HxG: parts of lists, strings, results in memory, operations in any order. Own work.
-/
import Derived.Test.YtpldjopnhhbjpaaGreatHxF
namespace Go.Hx
open Go.RowKit

/-- a part of a list, if it is there -/
def sl {α : Type} (xs : List α) (lo hi : Int) : Option (List α) := if 0 ≤ lo ∧ lo ≤ hi ∧ hi ≤ (xs.length : Int) then some ((xs.take hi.toNat).drop lo.toNat) else none

theorem sl_some {α : Type} {xs ys : List α} {lo hi : Int} (h : sl xs lo hi = some ys) : 0 ≤ lo ∧ lo ≤ hi ∧ hi ≤ (xs.length : Int) ∧ ys = (xs.take hi.toNat).drop lo.toNat := by
  unfold sl at h
  split at h
  · rename_i h0; simp only [Option.some.injEq] at h; exact ⟨h0.1, h0.2.1, h0.2.2, h.symm⟩
  · cases h

def cat (x y : List UInt8) : Option (List UInt8) := if ((x.length : Int) + (y.length : Int)) ≤ 9223372036854775807 then some (x ++ y) else none

def bytesOf (s : List UInt8) : List Int := s.map fun c => (c.toNat : Int)
def textOf (l : List Int) : List UInt8 := l.map fun c => UInt8.ofNat c.toNat

theorem bnd {α β : Type} {m : Option α} {f : α → Option β} {r : β} (h : m.bind f = some r) : ∃ x, m = some x ∧ f x = some r := by
  cases m with
  | none => cases h
  | some x => exact ⟨x, rfl, h⟩

theorem chk {α : Type} {c : Prop} [Decidable c] {A : Option α} {r : α} (h : (if c then A else none) = some r) : c ∧ A = some r := by
  by_cases hc : c
  · rw [if_pos hc] at h; exact ⟨hc, h⟩
  · rw [if_neg hc] at h; cases h

inductive Flow (R : Type) (S : Type) where
  | ret (r : R)
  | go (s : S)

section
variable {α : Type} {e : Rp α} {P : Program} {Q : Exit → Act → World → Prop} {n : Nat} {b : Nat → Value} {l : List (Nat × Value)} {w G : World} {L : List HP} {K : Act → World → Prop}
  {T : TypeId} {a : Option Addr} {cap : Nat} {xs ys : List α} {i : Int} {x : α}

/-- what a bound of a slice is -/
def bnd? (n : Nat) (b : Nat → Value) (l : List (Nat × Value)) (o : Option Operand) (dflt z : Int) : Prop :=
  match o with
  | none => z = dflt
  | some o => evl n b l o = .int .i64 z

theorem run_bounds {len cap : Nat} {lo hi : Option Operand} {zl zh : Int} {isSlice : Bool} (hlo : bnd? n b l lo 0 zl) (hhi : bnd? n b l hi len zh) (h0 : 0 ≤ zl) (h1 : zl ≤ zh) (h2 : zh ≤ (cap : Int)) :
    (Instr.sliceBounds isSlice len cap (lo.map (evl n b l)) (hi.map (evl n b l)) none).run P w = .ok (zl.toNat, zh.toNat, cap) w := by
  have hl0 : (0 : Int) ≤ zh := by omega
  have hlh : zl ≤ ((zh.toNat : Nat) : Int) := by omega
  unfold Instr.sliceBounds
  cases hi with
  | none =>
    simp only [bnd?] at hhi
    subst hhi
    cases lo with
    | none => simp only [bnd?] at hlo; subst hlo; simp
    | some o =>
      simp only [bnd?] at hlo
      simp [hlo, Instr.sliceBound, asIntOf, h0, h1]
  | some o' =>
    simp only [bnd?] at hhi
    cases lo with
    | none => simp only [bnd?] at hlo; subst hlo; simp [hhi, Instr.sliceBound, asIntOf, hl0, h2]
    | some o =>
      simp only [bnd?] at hlo
      simp [hlo, hhi, Instr.sliceBound, asIntOf, h0, hl0, h2]
      intro hc; omega

theorem O_slice_d {t ty : TypeId} {u : Operand} {lo hi : Option Operand} {d bytes : Nat} {pos : String} {af : Array Edge} {gd : Option (Nat × Bool)} {zl zh : Int}
    (hL : Lst P t T e.sz bytes) (hst : St G w (dsl e a cap xs :: L)) (hu : evl n b l u = .slice a xs.length cap) (hlo : bnd? n b l lo 0 zl) (hhi : bnd? n b l hi xs.length zh) (hs : sl xs zl zh = some ys) (hn : Nat.blt d n = true)
    (h : ∀ a' cap', St G w (dsl e a' cap' ys :: dsl e a cap xs :: L) → K (mkF n b ((d, .slice a' ys.length cap') :: l)) w) :
    ({ dst := some d, op := .slice t u lo hi none, type := ty, pos := pos, after := af, guard := gd } : Oper).wp P (mkF n b l) w K Q := by
  obtain ⟨inf, z, hi', hz, hsz, hzs, hby⟩ := hL.hi
  obtain ⟨h0, h1, h2, rfl⟩ := sl_some hs
  obtain ⟨hle, hmx⟩ := dsl_len' hst
  have hlen : ((xs.take zh.toNat).drop zl.toNat).length = zh.toNat - zl.toNat := by simp; omega
  have hp := dsl_part zl.toNat zh.toNat (by omega) (by omega) hst
  refine O_run (v := .slice (if cap = zl.toNat then a else a.map (·.add (zl.toNat * e.sz))) ((xs.take zh.toNat).drop zl.toNat).length (cap - zl.toNat)) (w' := w) ?_ rfl hn (h _ _ hp)
  have hb := run_bounds (P := P) (w := w) (isSlice := true) (len := xs.length) (cap := cap) hlo hhi h0 h1 (by omega)
  simp only [execOp, hu, Instr.sliceAt, Sem.run_bind, run_underlying hL.ht, Result.andThen_ok, Instr.slice, Option.map_none, hb, sizeOf, typeInfo, run_program, Sem.run_pure, hi', hsz, hlen]

theorem R_slice_s {t ty : TypeId} {u : Operand} {lo hi : Option Operand} {d : Nat} {pos : String} {af : Array Edge} {gd : Option (Nat × Bool)} {zl zh : Int} {s s' : List UInt8}
    (ht : P.underlying t = some .string) (hu : evl n b l u = S s) (hlo : bnd? n b l lo 0 zl) (hhi : bnd? n b l hi s.length zh) (hs : sl s zl zh = some s') :
    (execOp (evl n b l) ({ dst := some d, op := .slice t u lo hi none, type := ty, pos := pos, after := af, guard := gd } : Oper)).run P w = .ok (.value (S s')) w := by
  obtain ⟨h0, h1, h2, rfl⟩ := sl_some hs
  have hsz : (ByteArray.mk s.toArray).size = s.length := by simp [ByteArray.size]
  have hb := run_bounds (P := P) (w := w) (isSlice := false) (len := s.length) (cap := s.length) hlo hhi h0 h1 (by omega)
  have hex : (ByteArray.mk s.toArray).extract zl.toNat zh.toNat = ⟨((s.take zh.toNat).drop zl.toNat).toArray⟩ := by
    apply ByteArray.ext
    simp [List.drop_take]
  simp only [execOp, hu, Instr.sliceAt, Sem.run_bind, run_underlying ht, Result.andThen_ok, Instr.slice, Option.map_none, Option.isSome_none, Bool.false_eq_true, if_false, hsz, hb, Sem.run_pure, hex]

theorem R_idx_s {t ty : TypeId} {u v : Operand} {d : Nat} {pos : String} {af : Array Edge} {gd : Option (Nat × Bool)} {s : List UInt8} {c : UInt8} {k : IntKind}
    (ht : P.underlying t = some .string) (hu : evl n b l u = S s) (hv : evl n b l v = .int k i) (hs : gt s i = some c) :
    (execOp (evl n b l) ({ dst := some d, op := .index t u v, type := ty, pos := pos, after := af, guard := gd } : Oper)).run P w = .ok (.value (.int .u8 c.toNat)) w := by
  obtain ⟨h0, h1, h2⟩ := gt_some hs
  have hg : (ByteArray.mk s.toArray)[i.toNat]? = some c := by
    have hlt := (List.getElem?_eq_some_iff.1 h2).1
    have hlt' : i.toNat < (ByteArray.mk s.toArray).size := by simp [ByteArray.size]; omega
    rw [getElem?_pos (ByteArray.mk s.toArray) i.toNat hlt']
    obtain ⟨_, hc⟩ := List.getElem?_eq_some_iff.1 h2
    rw [← hc]; rfl
  simp only [execOp, hu, hv, Instr.index, asIntOf, Sem.run_bind, Sem.run_pure, Result.andThen_ok, run_underlying ht, h0, if_true, hg]

theorem R_cat {t t2 ty : TypeId} {u v : Operand} {d : Nat} {pos : String} {af : Array Edge} {gd : Option (Nat × Bool)} {s s' z : List UInt8}
    (hu : evl n b l u = S s) (hv : evl n b l v = S s') (hs : cat s s' = some z) :
    (execOp (evl n b l) ({ dst := some d, op := .binOp .add t u v t2, type := ty, pos := pos, after := af, guard := gd } : Oper)).run P w = .ok (.value (S z)) w := by
  obtain ⟨h1, h2⟩ := chk hs
  simp only [Option.some.injEq] at h2
  subst h2
  have h4 : (ByteArray.mk s.toArray) ++ (ByteArray.mk s'.toArray) = ⟨(s ++ s').toArray⟩ := by
    apply ByteArray.ext; simp
  simp only [execOp, hu, hv, eqGuard, binOp, Op.stringOp, Sem.run_bind]
  have h5 : ¬ (9223372036854775807 < ((ByteArray.mk s.toArray).size : Int) + ((ByteArray.mk s'.toArray).size : Int)) := by
    simp only [ByteArray.size, List.size_toArray]; omega
  simp [h5, h4, IntKind.max, IntKind.bits, IntKind.signed, pure]

theorem R_rem {t t2 ty : TypeId} {u v : Operand} {d : Nat} {pos : String} {af : Array Edge} {gd : Option (Nat × Bool)} {k : IntKind} {x y : Int}
    (hu : evl n b l u = .int k x) (hv : evl n b l v = .int k y) (hy : y ≠ 0) :
    (execOp (evl n b l) ({ dst := some d, op := .binOp .rem t u v t2, type := ty, pos := pos, after := af, guard := gd } : Oper)).run P w = .ok (.value (.int k (x.tmod y))) w := by
  simp only [execOp, hu, hv, eqGuard, binOp, Op.intDiv, Sem.run_bind]
  simp [hy, pure]

theorem R_quo {t t2 ty : TypeId} {u v : Operand} {d : Nat} {pos : String} {af : Array Edge} {gd : Option (Nat × Bool)} {k : IntKind} {x y : Int}
    (hu : evl n b l u = .int k x) (hv : evl n b l v = .int k y) (hy : y ≠ 0) :
    (execOp (evl n b l) ({ dst := some d, op := .binOp .quo t u v t2, type := ty, pos := pos, after := af, guard := gd } : Oper)).run P w = .ok (.value (.int k (k.wrap (x.tdiv y)))) w := by
  simp only [execOp, hu, hv, eqGuard, binOp, Op.intDiv, Sem.run_bind]
  simp [hy, pure]

theorem R_shl {t t2 ty : TypeId} {u v : Operand} {d : Nat} {pos : String} {af : Array Edge} {gd : Option (Nat × Bool)} {k k' : IntKind} {x y : Int}
    (hu : evl n b l u = .int k x) (hv : evl n b l v = .int k' y) (hy : 0 ≤ y) :
    (execOp (evl n b l) ({ dst := some d, op := .binOp .shl t u v t2, type := ty, pos := pos, after := af, guard := gd } : Oper)).run P w = .ok (.value (.int k (k.wrap (x * 2 ^ (min y.toNat k.bits))))) w := by
  have h : ¬ (y < 0) := by omega
  simp only [execOp, hu, hv, eqGuard, binOp, Op.shift, Sem.run_bind]
  simp [h, pure]

theorem R_shr {t t2 ty : TypeId} {u v : Operand} {d : Nat} {pos : String} {af : Array Edge} {gd : Option (Nat × Bool)} {k k' : IntKind} {x y : Int}
    (hu : evl n b l u = .int k x) (hv : evl n b l v = .int k' y) (hy : 0 ≤ y) :
    (execOp (evl n b l) ({ dst := some d, op := .binOp .shr t u v t2, type := ty, pos := pos, after := af, guard := gd } : Oper)).run P w = .ok (.value (.int k (x.fdiv (2 ^ (min y.toNat k.bits))))) w := by
  have h : ¬ (y < 0) := by omega
  simp only [execOp, hu, hv, eqGuard, binOp, Op.shift, Sem.run_bind]
  simp [h, pure]

/-! results in memory -/
theorem retC {fn : Func} {R : Ending → World → Prop} {t : Nat} {p off : Nat} {cs : List Value} {v : Value} {T T' : TypeId} (hr : fn.results = #[.cell t T]) (ha : evl n b l (.tmp t) = pt p off)
    (hst : St G w (blk p (cl cs T') :: L)) (hv : ldv P T cs off = some v) (h : R (.returned v) w) : bodyPost P fn R .ret (mkF n b l) w := by
  refine bodyPost_ret (v := v) ?_ rfl h
  have h1 := eval_mkF n b l (.tmp t)
  simp only [Act.eval, Array.getD_eq_getD_getElem?] at h1
  have h2 := run_loadVar (P := P) (t := T) (off := off) (cells_of_get hst.get) hv
  simp [results, hr, h1, ha, asAddr, h2]

theorem retCT {fn : Func} {R : Ending → World → Prop} {t u : Nat} {p off : Nat} {cs : List Value} {v x : Value} {T T' : TypeId} (hr : fn.results = #[.cell t T, .tmp u]) (ha : evl n b l (.tmp t) = pt p off)
    (hst : St G w (blk p (cl cs T') :: L)) (hv : ldv P T cs off = some v) (hx : evl n b l (.tmp u) = x) (h : R (.returned (.tuple #[v, x])) w) : bodyPost P fn R .ret (mkF n b l) w := by
  refine bodyPost_ret (v := .tuple #[v, x]) ?_ rfl h
  have h1 := eval_mkF n b l (.tmp t)
  have h3 := eval_mkF n b l (.tmp u)
  simp only [Act.eval, Array.getD_eq_getD_getElem?] at h1 h3
  have h2 := run_loadVar (P := P) (t := T) (off := off) (cells_of_get hst.get) hv
  simp [results, hr, h1, ha, asAddr, h2, h3, hx]

theorem retTC {fn : Func} {R : Ending → World → Prop} {t u : Nat} {p off : Nat} {cs : List Value} {v x : Value} {T T' : TypeId} (hr : fn.results = #[.tmp u, .cell t T]) (ha : evl n b l (.tmp t) = pt p off)
    (hst : St G w (blk p (cl cs T') :: L)) (hv : ldv P T cs off = some v) (hx : evl n b l (.tmp u) = x) (h : R (.returned (.tuple #[x, v])) w) : bodyPost P fn R .ret (mkF n b l) w := by
  refine bodyPost_ret (v := .tuple #[x, v]) ?_ rfl h
  have h1 := eval_mkF n b l (.tmp t)
  have h3 := eval_mkF n b l (.tmp u)
  simp only [Act.eval, Array.getD_eq_getD_getElem?] at h1 h3
  have h2 := run_loadVar (P := P) (t := T) (off := off) (cells_of_get hst.get) hv
  simp [results, hr, h1, ha, asAddr, h2, h3, hx]

/-! in any order -/
theorem R_pure {o : Oper} {v : Value} (h : (match pureRun P (execOp (evl n b l) o) with | some (.value v) => some v | _ => none) = some v) : (execOp (evl n b l) o).run P w = .ok (.value v) w := by
  cases hp : pureRun P (execOp (evl n b l) o) with
  | none => simp [hp] at h
  | some nx =>
    cases nx with
    | value u =>
      simp only [hp, Option.some.injEq] at h
      subst h
      exact pureRun_run hp w
    | _ => simp [hp] at h

/-- the world stays as it is all along -/
def SN (w0 : World) : Array Bool → World → Prop := fun _ w => w = w0
/-- the world stays as it is until operation c comes up -/
def SE (c : Nat) (w0 : World) : Array Bool → World → Prop := fun l w => l.getD c false = true ∨ w = w0

section
variable {ops : Array Oper} {fuel i d : Nat} {listed : Array Bool} {oi : Oper} {v : Value}

theorem C_take (hi : ops[i]? = some oi) (hs : (Region.noSelect ops && Region.free .any ops listed i && (Region.ready .any ops listed).contains i) = true)
    (hQ : ∀ c a w, Q (.panic c) (a.put oi.dst v) w → Q (.panic c) a w) (hl : letBy ops n b l oi = some true) (hd : oi.dst = some d) (hn : Nat.blt d n = true)
    (hr : (execOp (evl n b l) oi).run P w = .ok (.value v) w)
    (h : wpC P ops Q (SN w) fuel (listed.setIfInBounds i true) (mkF n b ((d, v) :: l)) w) : wpC P ops Q (SN w) (fuel + 1) listed (mkF n b l) w := by
  refine wpG_take hi hs hQ (fun _ _ h => h) (.inl ⟨wanted_mkF hl, fun w' hw => ?_⟩) rfl (by rw [hd, put_mkF hn]; exact h)
  obtain ⟨_, _, _, rfl⟩ := hw
  rw [eval_mkF']; exact hr

theorem C_skip (hi : ops[i]? = some oi) (hs : (Region.noSelect ops && Region.free .any ops listed i && (Region.ready .any ops listed).contains i) = true)
    (hQ : ∀ c a w, Q (.panic c) (a.put oi.dst undef) w → Q (.panic c) a w) (hl : letBy ops n b l oi = some false) (hd : oi.dst = some d) (hn : Nat.blt d n = true)
    (h : wpC P ops Q (SN w) fuel (listed.setIfInBounds i true) (mkF n b ((d, undef) :: l)) w) : wpC P ops Q (SN w) (fuel + 1) listed (mkF n b l) w :=
  wpG_take hi hs hQ (fun _ _ h => h) (.inr ⟨wanted_mkF hl, rfl⟩) rfl (by rw [hd, put_mkF hn]; exact h)

/-- a road of waiting from c down to i -/
def roadTo (ops : Array Oper) : Nat → List Nat → Nat → Bool
  | c, [], i => Nat.beq c i
  | c, j :: r, i => waitsOn ops c j && roadTo ops j r i

theorem Closed.road {l : Array Bool} (h : Closed ops l) : ∀ (r : List Nat) (c : Nat), roadTo ops c r i = true → l.getD c false = true → l.getD i false = true
  | [], c, hr, hc => by have := Nat.eq_of_beq_eq_true hr; subst this; exact hc
  | j :: r, c, hr, hc => by
    simp only [roadTo, Bool.and_eq_true] at hr
    exact Closed.road h r j hr.2 (h.step hc hr.1)

theorem E_take (c : Nat) (r : List Nat) (hrd : (roadTo ops c r i && !Nat.beq i c) = true) (hi : ops[i]? = some oi) (hs : (Region.noSelect ops && Region.free .any ops listed i && (Region.ready .any ops listed).contains i) = true)
    (hQ : ∀ c a w, Q (.panic c) (a.put oi.dst v) w → Q (.panic c) a w) (hl : letBy ops n b l oi = some true) (hd : oi.dst = some d) (hn : Nat.blt d n = true)
    (hr : (execOp (evl n b l) oi).run P w = .ok (.value v) w)
    (h : wpC P ops Q (SE c w) fuel (listed.setIfInBounds i true) (mkF n b ((d, v) :: l)) w) : wpC P ops Q (SE c w) (fuel + 1) listed (mkF n b l) w := by
  simp only [Bool.and_eq_true, Bool.not_eq_true'] at hrd
  have hne : i ≠ c := fun e => by subst e; simp at hrd
  refine wpG_take hi hs hQ (fun l w hs => ?_) (.inl ⟨wanted_mkF hl, fun w' hw => ?_⟩) (.inr rfl) (by rw [hd, put_mkF hn]; exact h)
  · rcases hs with hs | hs
    · rw [getD_set_ne false hne] at hs; exact .inl hs
    · exact .inr hs
  · obtain ⟨l', h1, h2, h3 | rfl⟩ := hw
    · have := h2.road r c hrd.1 h3
      rw [getD_tt h1] at this; cases this
    · rw [eval_mkF']; exact hr

/-- what asks the world nothing may be taken whenever it is ready -/
theorem E_pure (c : Nat) {w0 : World} (hne : Nat.beq i c = false) (hi : ops[i]? = some oi) (hs : (Region.noSelect ops && Region.free .any ops listed i && (Region.ready .any ops listed).contains i) = true)
    (hQ : ∀ c a w, Q (.panic c) (a.put oi.dst v) w → Q (.panic c) a w) (hl : letBy ops n b l oi = some true) (hd : oi.dst = some d) (hn : Nat.blt d n = true)
    (hv : (match pureRun P (execOp (evl n b l) oi) with | some (.value v) => some v | _ => none) = some v)
    (hS : SE c w0 (listed.setIfInBounds i true) w)
    (h : wpC P ops Q (SE c w0) fuel (listed.setIfInBounds i true) (mkF n b ((d, v) :: l)) w) : wpC P ops Q (SE c w0) (fuel + 1) listed (mkF n b l) w := by
  have hne : i ≠ c := fun e => by subst e; simp at hne
  refine wpG_take hi hs hQ (fun l w hs => ?_) (.inl ⟨wanted_mkF hl, fun w' hw => ?_⟩) hS (by rw [hd, put_mkF hn]; exact h)
  · rcases hs with hs | hs
    · rw [getD_set_ne false hne] at hs; exact .inl hs
    · exact .inr hs
  · rw [eval_mkF']; exact R_pure hv

/-- the one that acts comes up -/
theorem E_one (c : Nat) {w0 : World} (hr : Region.ready .any ops listed = [i]) (hi : ops[i]? = some oi) (hl : letBy ops n b l oi = some true)
    (hc : (listed.setIfInBounds i true).getD c false = true)
    (h : oi.wp P (mkF n b l) w (wpC P ops Q (SE c w0) fuel (listed.setIfInBounds i true)) Q) : wpC P ops Q (SE c w0) (fuel + 1) listed (mkF n b l) w :=
  wpG_one hr hi (wanted_mkF hl) (Oper.wp_mono (fun _ _ h => ⟨.inl hc, h⟩) h)

/-- as long as operation c has not come up, Φ holds -/
def SP (c : Nat) (Φ : World → Prop) : Array Bool → World → Prop := fun l w => l.getD c false = true ∨ Φ w

theorem P_take (c : Nat) (r : List Nat) {Φ : World → Prop} (hrd : (roadTo ops c r i && !Nat.beq i c) = true) (hi : ops[i]? = some oi) (hs : (Region.noSelect ops && Region.free .any ops listed i && (Region.ready .any ops listed).contains i) = true)
    (hQ : ∀ c a w, Q (.panic c) (a.put oi.dst v) w → Q (.panic c) a w) (hl : letBy ops n b l oi = some true) (hd : oi.dst = some d) (hn : Nat.blt d n = true)
    (hr : ∀ w, Φ w → (execOp (evl n b l) oi).run P w = .ok (.value v) w) (hΦ : Φ w)
    (h : wpC P ops Q (SP c Φ) fuel (listed.setIfInBounds i true) (mkF n b ((d, v) :: l)) w) : wpC P ops Q (SP c Φ) (fuel + 1) listed (mkF n b l) w := by
  simp only [Bool.and_eq_true, Bool.not_eq_true'] at hrd
  have hne : i ≠ c := fun e => by subst e; simp at hrd
  refine wpG_take hi hs hQ (fun l w hs => ?_) (.inl ⟨wanted_mkF hl, fun w' hw => ?_⟩) (.inr hΦ) (by rw [hd, put_mkF hn]; exact h)
  · rcases hs with hs | hs
    · rw [getD_set_ne false hne] at hs; exact .inl hs
    · exact .inr hs
  · obtain ⟨l', h1, h2, h3 | h3⟩ := hw
    · have := h2.road r c hrd.1 h3
      rw [getD_tt h1] at this; cases this
    · rw [eval_mkF']; exact hr w' h3

theorem P_pure (c : Nat) {Φ : World → Prop} (hne : Nat.beq i c = false) (hi : ops[i]? = some oi) (hs : (Region.noSelect ops && Region.free .any ops listed i && (Region.ready .any ops listed).contains i) = true)
    (hQ : ∀ c a w, Q (.panic c) (a.put oi.dst v) w → Q (.panic c) a w) (hl : letBy ops n b l oi = some true) (hd : oi.dst = some d) (hn : Nat.blt d n = true)
    (hv : (match pureRun P (execOp (evl n b l) oi) with | some (.value v) => some v | _ => none) = some v)
    (hS : SP c Φ (listed.setIfInBounds i true) w)
    (h : wpC P ops Q (SP c Φ) fuel (listed.setIfInBounds i true) (mkF n b ((d, v) :: l)) w) : wpC P ops Q (SP c Φ) (fuel + 1) listed (mkF n b l) w := by
  have hne : i ≠ c := fun e => by subst e; simp at hne
  refine wpG_take hi hs hQ (fun l w hs => ?_) (.inl ⟨wanted_mkF hl, fun w' hw => ?_⟩) hS (by rw [hd, put_mkF hn]; exact h)
  · rcases hs with hs | hs
    · rw [getD_set_ne false hne] at hs; exact .inl hs
    · exact .inr hs
  · rw [eval_mkF']; exact R_pure hv

/-- where nothing turns what is looked at: c is beyond all operations -/
def SQ (Φ : World → Prop) : Array Bool → World → Prop := fun _ w => Φ w

theorem Q_take {Φ : World → Prop} (hi : ops[i]? = some oi) (hs : (Region.noSelect ops && Region.free .any ops listed i && (Region.ready .any ops listed).contains i) = true)
    (hQ : ∀ c a w, Q (.panic c) (a.put oi.dst v) w → Q (.panic c) a w) (hl : letBy ops n b l oi = some true) (hd : oi.dst = some d) (hn : Nat.blt d n = true)
    (hr : ∀ w, Φ w → (execOp (evl n b l) oi).run P w = .ok (.value v) w) (hΦ : Φ w)
    (h : wpC P ops Q (SQ Φ) fuel (listed.setIfInBounds i true) (mkF n b ((d, v) :: l)) w) : wpC P ops Q (SQ Φ) (fuel + 1) listed (mkF n b l) w :=
  wpG_take hi hs hQ (fun _ _ h => h) (.inl ⟨wanted_mkF hl, fun w' ⟨_, _, _, hw⟩ => by rw [eval_mkF']; exact hr w' hw⟩) hΦ (by rw [hd, put_mkF hn]; exact h)

theorem Q_skip {Φ : World → Prop} (hi : ops[i]? = some oi) (hs : (Region.noSelect ops && Region.free .any ops listed i && (Region.ready .any ops listed).contains i) = true)
    (hQ : ∀ c a w, Q (.panic c) (a.put oi.dst undef) w → Q (.panic c) a w) (hl : letBy ops n b l oi = some false) (hd : oi.dst = some d) (hn : Nat.blt d n = true) (hΦ : Φ w)
    (h : wpC P ops Q (SQ Φ) fuel (listed.setIfInBounds i true) (mkF n b ((d, undef) :: l)) w) : wpC P ops Q (SQ Φ) (fuel + 1) listed (mkF n b l) w :=
  wpG_take hi hs hQ (fun _ _ h => h) (.inr ⟨wanted_mkF hl, rfl⟩) hΦ (by rw [hd, put_mkF hn]; exact h)

theorem Q_one {Φ : World → Prop} (hr : Region.ready .any ops listed = [i]) (hi : ops[i]? = some oi) (hl : letBy ops n b l oi = some true)
    (h : oi.wp P (mkF n b l) w (fun a' w' => Φ w' ∧ wpC P ops Q (SQ Φ) fuel (listed.setIfInBounds i true) a' w') Q) : wpC P ops Q (SQ Φ) (fuel + 1) listed (mkF n b l) w :=
  wpG_one hr hi (wanted_mkF hl) h

/-- one that gives a value whatever the world is -/
theorem P_any (c : Nat) {Φ : World → Prop} (hne : Nat.beq i c = false) (hi : ops[i]? = some oi) (hs : (Region.noSelect ops && Region.free .any ops listed i && (Region.ready .any ops listed).contains i) = true)
    (hQ : ∀ c a w, Q (.panic c) (a.put oi.dst v) w → Q (.panic c) a w) (hl : letBy ops n b l oi = some true) (hd : oi.dst = some d) (hn : Nat.blt d n = true)
    (hv : ∀ w, (execOp (evl n b l) oi).run P w = .ok (.value v) w)
    (hS : SP c Φ (listed.setIfInBounds i true) w)
    (h : wpC P ops Q (SP c Φ) fuel (listed.setIfInBounds i true) (mkF n b ((d, v) :: l)) w) : wpC P ops Q (SP c Φ) (fuel + 1) listed (mkF n b l) w := by
  have hne : i ≠ c := fun e => by subst e; simp at hne
  refine wpG_take hi hs hQ (fun l w hs => ?_) (.inl ⟨wanted_mkF hl, fun w' hw => ?_⟩) hS (by rw [hd, put_mkF hn]; exact h)
  · rcases hs with hs | hs
    · rw [getD_set_ne false hne] at hs; exact .inl hs
    · exact .inr hs
  · rw [eval_mkF']; exact hv w'

theorem P_skip (c : Nat) {Φ : World → Prop} (hne : Nat.beq i c = false) (hi : ops[i]? = some oi) (hs : (Region.noSelect ops && Region.free .any ops listed i && (Region.ready .any ops listed).contains i) = true)
    (hQ : ∀ c a w, Q (.panic c) (a.put oi.dst undef) w → Q (.panic c) a w) (hl : letBy ops n b l oi = some false) (hd : oi.dst = some d) (hn : Nat.blt d n = true)
    (hS : SP c Φ (listed.setIfInBounds i true) w)
    (h : wpC P ops Q (SP c Φ) fuel (listed.setIfInBounds i true) (mkF n b ((d, undef) :: l)) w) : wpC P ops Q (SP c Φ) (fuel + 1) listed (mkF n b l) w := by
  have hne : i ≠ c := fun e => by subst e; simp at hne
  refine wpG_take hi hs hQ (fun l w hs => ?_) (.inr ⟨wanted_mkF hl, rfl⟩) hS (by rw [hd, put_mkF hn]; exact h)
  rcases hs with hs | hs
  · rw [getD_set_ne false hne] at hs; exact .inl hs
  · exact .inr hs

/-- one that makes memory comes up ahead of c -/
theorem P_one (c : Nat) {Φ : World → Prop} (hr : Region.ready .any ops listed = [i]) (hi : ops[i]? = some oi) (hl : letBy ops n b l oi = some true)
    (h : oi.wp P (mkF n b l) w (fun a' w' => Φ w' ∧ wpC P ops Q (SP c Φ) fuel (listed.setIfInBounds i true) a' w') Q) : wpC P ops Q (SP c Φ) (fuel + 1) listed (mkF n b l) w :=
  wpG_one hr hi (wanted_mkF hl) (Oper.wp_mono (fun _ _ h => ⟨.inr h.1, h.2⟩) h)

/-- c comes up, or one behind it -/
theorem P_act (c : Nat) {Φ : World → Prop} (hr : Region.ready .any ops listed = [i]) (hi : ops[i]? = some oi) (hl : letBy ops n b l oi = some true)
    (hc : (listed.setIfInBounds i true).getD c false = true)
    (h : oi.wp P (mkF n b l) w (wpC P ops Q (SP c Φ) fuel (listed.setIfInBounds i true)) Q) : wpC P ops Q (SP c Φ) (fuel + 1) listed (mkF n b l) w :=
  wpG_one hr hi (wanted_mkF hl) (Oper.wp_mono (fun _ _ h => ⟨.inl hc, h⟩) h)

/-- two that make memory may come up in either order -/
theorem P_two (c : Nat) {j : Nat} {oj : Oper} {Φ : World → Prop} (hr : Region.ready .any ops listed = [i, j]) (hi : ops[i]? = some oi) (hj : ops[j]? = some oj) (hl : letBy ops n b l oi = some true) (hl2 : letBy ops n b l oj = some true)
    (h : oi.wp P (mkF n b l) w (fun a' w' => Φ w' ∧ wpC P ops Q (SP c Φ) fuel (listed.setIfInBounds i true) a' w') Q)
    (h2 : oj.wp P (mkF n b l) w (fun a' w' => Φ w' ∧ wpC P ops Q (SP c Φ) fuel (listed.setIfInBounds j true) a' w') Q) : wpC P ops Q (SP c Φ) (fuel + 1) listed (mkF n b l) w := by
  intro hcl
  refine ⟨fun h0 => (by rw [hr] at h0; cases h0), fun q hq => ?_⟩
  have hcl' : Closed ops (listed.setIfInBounds q true) := hcl.set hq
  rw [hr] at hq
  simp only [List.mem_cons, List.mem_nil_iff, or_false] at hq
  unfold wpOp
  rcases hq with rfl | rfl
  · simp only [hi, wanted_mkF hl, if_true]
    exact .inl (Oper.wp_mono (fun a' w' h' => ⟨.inr h'.1, h'.2 hcl'⟩) h)
  · simp only [hj, wanted_mkF hl2, if_true]
    exact .inl (Oper.wp_mono (fun a' w' h' => ⟨.inr h'.1, h'.2 hcl'⟩) h2)

theorem Q_two {j : Nat} {oj : Oper} {Φ : World → Prop} (hr : Region.ready .any ops listed = [i, j]) (hi : ops[i]? = some oi) (hj : ops[j]? = some oj) (hl : letBy ops n b l oi = some true) (hl2 : letBy ops n b l oj = some true)
    (h : oi.wp P (mkF n b l) w (fun a' w' => Φ w' ∧ wpC P ops Q (SQ Φ) fuel (listed.setIfInBounds i true) a' w') Q)
    (h2 : oj.wp P (mkF n b l) w (fun a' w' => Φ w' ∧ wpC P ops Q (SQ Φ) fuel (listed.setIfInBounds j true) a' w') Q) : wpC P ops Q (SQ Φ) (fuel + 1) listed (mkF n b l) w := by
  intro hcl
  refine ⟨fun h0 => (by rw [hr] at h0; cases h0), fun q hq => ?_⟩
  have hcl' : Closed ops (listed.setIfInBounds q true) := hcl.set hq
  rw [hr] at hq
  simp only [List.mem_cons, List.mem_nil_iff, or_false] at hq
  unfold wpOp
  rcases hq with rfl | rfl
  · simp only [hi, wanted_mkF hl, if_true]
    exact .inl (Oper.wp_mono (fun a' w' h' => ⟨h'.1, h'.2 hcl'⟩) h)
  · simp only [hj, wanted_mkF hl2, if_true]
    exact .inl (Oper.wp_mono (fun a' w' h' => ⟨h'.1, h'.2 hcl'⟩) h2)

/-- all orders -/
def SA : Array Bool → World → Prop := fun _ _ => True

theorem A_take (hi : ops[i]? = some oi) (hs : (Region.noSelect ops && Region.free .any ops listed i && (Region.ready .any ops listed).contains i) = true)
    (hQ : ∀ c a w, Q (.panic c) (a.put oi.dst v) w → Q (.panic c) a w) (hl : letBy ops n b l oi = some true) (hd : oi.dst = some d) (hn : Nat.blt d n = true)
    (hv : ∀ w, (execOp (evl n b l) oi).run P w = .ok (.value v) w)
    (h : wpC P ops Q SA fuel (listed.setIfInBounds i true) (mkF n b ((d, v) :: l)) w) : wpC P ops Q SA (fuel + 1) listed (mkF n b l) w :=
  wpG_take hi hs hQ (fun _ _ h => h) (.inl ⟨wanted_mkF hl, fun w' _ => by rw [eval_mkF']; exact hv w'⟩) trivial (by rw [hd, put_mkF hn]; exact h)

theorem A_slice_d {t ty : TypeId} {u : Operand} {lo hi : Option Operand} {d i bytes : Nat} {pos : String} {af : Array Edge} {gd : Option (Nat × Bool)} {zl zh : Int}
    (hoi : ops[i]? = some ({ dst := some d, op := .slice t u lo hi none, type := ty, pos := pos, after := af, guard := gd } : Oper)) (hs : (Region.noSelect ops && Region.free .any ops listed i && (Region.ready .any ops listed).contains i) = true)
    (hQ : ∀ v c a w, Q (.panic c) (a.put (some d) v) w → Q (.panic c) a w) (hl : letBy ops n b l ({ dst := some d, op := .slice t u lo hi none, type := ty, pos := pos, after := af, guard := gd } : Oper) = some true)
    (hL : Lst P t T e.sz bytes) (hst : St G w (dsl e a cap xs :: L)) (hu : evl n b l u = .slice a xs.length cap) (hlo : bnd? n b l lo 0 zl) (hhi : bnd? n b l hi xs.length zh) (hy : sl xs zl zh = some ys) (hn : Nat.blt d n = true)
    (h : ∀ a' cap', St G w (dsl e a' cap' ys :: dsl e a cap xs :: L) → wpC P ops Q SA fuel (listed.setIfInBounds i true) (mkF n b ((d, .slice a' ys.length cap') :: l)) w) :
    wpC P ops Q SA (fuel + 1) listed (mkF n b l) w := by
  obtain ⟨inf, z, hi', hz, hsz, hzs, hby⟩ := hL.hi
  obtain ⟨h0, h1, h2, rfl⟩ := sl_some hy
  obtain ⟨hle, hmx⟩ := dsl_len' hst
  have hlen : ((xs.take zh.toNat).drop zl.toNat).length = zh.toNat - zl.toNat := by simp; omega
  have hp := dsl_part zl.toNat zh.toNat (by omega) (by omega) hst
  refine A_take (v := .slice (if cap = zl.toNat then a else a.map (·.add (zl.toNat * e.sz))) ((xs.take zh.toNat).drop zl.toNat).length (cap - zl.toNat)) hoi hs (fun c a w => hQ _ c a w) hl rfl hn (fun w => ?_) (h _ _ hp)
  have hb := run_bounds (P := P) (w := w) (isSlice := true) (len := xs.length) (cap := cap) hlo hhi h0 h1 (by omega)
  simp only [execOp, hu, Instr.sliceAt, Sem.run_bind, run_underlying hL.ht, Result.andThen_ok, Instr.slice, Option.map_none, hb, sizeOf, typeInfo, run_program, Sem.run_pure, hi', hsz, hlen]

theorem A_skip (hi : ops[i]? = some oi) (hs : (Region.noSelect ops && Region.free .any ops listed i && (Region.ready .any ops listed).contains i) = true)
    (hQ : ∀ c a w, Q (.panic c) (a.put oi.dst undef) w → Q (.panic c) a w) (hl : letBy ops n b l oi = some false) (hd : oi.dst = some d) (hn : Nat.blt d n = true)
    (h : wpC P ops Q SA fuel (listed.setIfInBounds i true) (mkF n b ((d, undef) :: l)) w) : wpC P ops Q SA (fuel + 1) listed (mkF n b l) w :=
  wpG_take hi hs hQ (fun _ _ h => h) (.inr ⟨wanted_mkF hl, rfl⟩) trivial (by rw [hd, put_mkF hn]; exact h)

def allOf (P : Program) (ops : Array Oper) (Q : Exit → Act → World → Prop) (n : Nat) (b : Nat → Value) (l : List (Nat × Value)) (w : World) (fuel : Nat) (listed : Array Bool) : List Nat → Prop
  | [] => True
  | i :: is => (∃ oi, ops[i]? = some oi ∧ letBy ops n b l oi = some true ∧ oi.wp P (mkF n b l) w (wpC P ops Q SA fuel (listed.setIfInBounds i true)) Q) ∧ allOf P ops Q n b l w fuel listed is

theorem A_all (is : List Nat) (hr : Region.ready .any ops listed = is) (h : allOf P ops Q n b l w fuel listed is) (hne : is.isEmpty = false := by rfl) : wpC P ops Q SA (fuel + 1) listed (mkF n b l) w := by
  intro hcl
  refine ⟨fun h0 => (by rw [hr] at h0; rw [h0] at hne; cases hne), fun q hq => ?_⟩
  have hcl' : Closed ops (listed.setIfInBounds q true) := hcl.set hq
  rw [hr] at hq
  clear hr hne
  induction is with
  | nil => cases hq
  | cons i is ih =>
    rcases List.mem_cons.1 hq with rfl | hq
    · obtain ⟨oi, h1, h2, h3⟩ := h.1
      unfold wpOp
      simp only [h1, wanted_mkF h2, if_true]
      exact .inl (Oper.wp_mono (fun a' w' h' => ⟨trivial, h' hcl'⟩) h3)
    · exact ih h.2 hq

theorem R_loadH {t ty : TypeId} {x : Operand} {d p off : Nat} {pos : String} {af : Array Edge} {gd : Option (Nat × Bool)} {cs : List Value} {T : TypeId} {v : Value}
    (hg : w.heap[p]? = some (cl cs T)) (hx : evl n b l x = pt p off) (hv : ldv P t cs off = some v) :
    (execOp (evl n b l) ({ dst := some d, op := .load t x, type := ty, pos := pos, after := af, guard := gd } : Oper)).run P w = .ok (.value v) w := by
  simp only [execOp, hx, Sem.run_bind, run_loadAt (cells_of_get hg) hv]
  rfl

theorem C_bool {S : Array Bool → World → Prop} {x y : Bool} (h : x = y) (hk : wpC P ops Q S fuel listed (mkF n b ((d, .bool y) :: l)) w) : wpC P ops Q S fuel listed (mkF n b ((d, .bool x) :: l)) w := by
  subst h; exact hk

theorem C_keep {S : Array Bool → World → Prop} (want : List (Nat × Value)) (h : want.map (fun p => lk b l p.1) = want.map (fun p => p.2))
    (hk : ∀ b', wpC P ops Q S fuel listed (mkF n b' want) w) : wpC P ops Q S fuel listed (mkF n b l) w := by
  rw [mkF_keep want h]; exact hk _
end

theorem C_keepQ (want : List (Nat × Value)) (h : want.map (fun p => lk b l p.1) = want.map (fun p => p.2))
    (hk : ∀ b', Q .normal (mkF n b' want) w) : Q .normal (mkF n b l) w := by
  rw [mkF_keep want h]; exact hk _

/-! the ways out -/
theorem th_n {next : Act → World → Prop} {a : Act} (h : next a w) : Exit.then next Q .normal a w := h
theorem th_x {next : Act → World → Prop} {a : Act} {i : Nat} (h : Q (.exit i) a w) : Exit.then next Q (.exit i) a w := h
theorem th_r {next : Act → World → Prop} {a : Act} (h : Q .ret a w) : Exit.then next Q .ret a w := h
theorem ib_n {a : Act} {i : Nat} (h : Q .normal a w) : Exit.inBlock i Q .normal a w := h
theorem ib_x {a : Act} {i : Nat} (h : Q .normal a w) : Exit.inBlock i Q (.exit i) a w := by simp [Exit.inBlock, h]
theorem ib_o {a : Act} {i j : Nat} (hne : Nat.beq j i = false) (h : Q (.exit j) a w) : Exit.inBlock i Q (.exit j) a w := by
  have : j ≠ i := fun e => by subst e; simp at hne
  simp [Exit.inBlock, this, h]
theorem ib_r {a : Act} {i : Nat} (h : Q .ret a w) : Exit.inBlock i Q .ret a w := h

/-- an exit of a fragment: the frame told as it is to be told there -/
theorem kp (l' : List (Nat × Value)) (h : l'.map (fun p => lk b l p.1) = l'.map (fun p => p.2)) : ∃ b', mkF n b l = mkF n b' l' := ⟨_, mkF_keep l' h⟩

theorem kpE (l' : List (Nat × Value)) (mid : List Value) (h : l'.map (fun p => lk b l p.1) = mid) (h2 : mid = l'.map (fun p => p.2)) : ∃ b', mkF n b l = mkF n b' l' := ⟨_, mkF_keep l' (h.trans h2)⟩

theorem kpX {S : Prop} (l' : List (Nat × Value)) (h : l'.map (fun p => lk b l p.1) = l'.map (fun p => p.2)) (hS : S) : ∃ b', mkF n b l = mkF n b' l' ∧ S := ⟨_, mkF_keep l' h, hS⟩
theorem kpXf {α : Sort _} {x : α} {S : Prop} (l' : List (Nat × Value)) (h : l'.map (fun p => lk b l p.1) = l'.map (fun p => p.2)) (hS : S) : ∃ b', x = x ∧ mkF n b l = mkF n b' l' ∧ S := ⟨_, rfl, mkF_keep l' h, hS⟩
theorem kpY {S : Prop} (l' : List (Nat × Value)) (mid : List Value) (h : l'.map (fun p => lk b l p.1) = mid) (h2 : mid = l'.map (fun p => p.2)) (hS : S) : ∃ b', mkF n b l = mkF n b' l' ∧ S := ⟨_, mkF_keep l' (h.trans h2), hS⟩
theorem kpYf {α : Sort _} {x : α} {S : Prop} (l' : List (Nat × Value)) (mid : List Value) (h : l'.map (fun p => lk b l p.1) = mid) (h2 : mid = l'.map (fun p => p.2)) (hS : S) : ∃ b', x = x ∧ mkF n b l = mkF n b' l' ∧ S := ⟨_, rfl, mkF_keep l' (h.trans h2), hS⟩

theorem St.split {φ ψ : Mem → Prop} {hφ : ∀ m m', m.le m' → (φ m ∧ ψ m) → (φ m' ∧ ψ m')} {h1 : ∀ m m', m.le m' → φ m → φ m'} {h2 : ∀ m m', m.le m' → ψ m → ψ m'} (h : St G w (fct (fun m => φ m ∧ ψ m) hφ :: L)) :
    St G w (fct φ h1 :: fct ψ h2 :: L) :=
  (h.add (φ := φ) (hφ := h1) (fun _ _ h => And.left h)).pull 1 |>.conv (B := fct ψ h2) (fun _ _ h => And.right h) |>.pull 1

def bAnd (k : IntKind) (x y : Int) : Int := k.wrap (BitVec.ofInt k.bits x &&& BitVec.ofInt k.bits y).toNat
def bOr (k : IntKind) (x y : Int) : Int := k.wrap (BitVec.ofInt k.bits x ||| BitVec.ofInt k.bits y).toNat
def bXor (k : IntKind) (x y : Int) : Int := k.wrap (BitVec.ofInt k.bits x ^^^ BitVec.ofInt k.bits y).toNat
def bAndNot (k : IntKind) (x y : Int) : Int := k.wrap (BitVec.ofInt k.bits x &&& ~~~(BitVec.ofInt k.bits y)).toNat
def sEq (x y : List UInt8) : Bool := (ByteArray.mk x.toArray).toList == (ByteArray.mk y.toArray).toList
def sLt (x y : List UInt8) : Bool := Op.bytesLess (ByteArray.mk x.toArray).toList (ByteArray.mk y.toArray).toList
def mn2 (x y : Int) : Int := if y < x then y else x
def mx2 (x y : Int) : Int := if y > x then y else x
def shL (k : IntKind) (x y : Int) : Int := k.wrap (x * 2 ^ (min y.toNat k.bits))
def shR (k : IntKind) (x y : Int) : Int := x.fdiv (2 ^ (min y.toNat k.bits))
end

/-! the plain kinds -/
def rI (k : IntKind) : Rp Int := ⟨Unit, 1, fun x _ => [.int k x], fun _ _ _ => True, fun _ _ _ _ _ h => h, fun _ _ => rfl, fun _ _ => rfl⟩
def rB : Rp Bool := ⟨Unit, 1, fun x _ => [.bool x], fun _ _ _ => True, fun _ _ _ _ _ h => h, fun _ _ => rfl, fun _ _ => rfl⟩
def rS : Rp (List UInt8) := ⟨Unit, 1, fun x _ => [S x], fun _ _ _ => True, fun _ _ _ _ _ h => h, fun _ _ => rfl, fun _ _ => rfl⟩
def rSl {α : Type} (e : Rp α) : Rp (List α) := ⟨Option Addr × Nat, 1, fun xs y => [.slice y.1 xs.length y.2], fun xs y => dslP e y.1 y.2 xs, fun _ _ _ _ hm h => dslP_mono e _ _ _ _ _ hm h, fun _ _ => rfl, fun _ _ => rfl⟩
end Go.Hx
