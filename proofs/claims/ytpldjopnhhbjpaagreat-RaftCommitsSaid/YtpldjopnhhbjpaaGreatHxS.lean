/-
  HxS: bytes and strings: a string behind a list of bytes, a list of bytes as a string. Own work.
-/
import Derived.Test.YtpldjopnhhbjpaaGreatHxH
import Derived.Laws.BytesString
namespace Go.Hx
open Go.RowKit

def sB (s : List UInt8) : List Int := s.map fun c => (c.toNat : Int)
def bS (l : List Int) : List UInt8 := l.map fun n => UInt8.ofNat n.toNat

section
variable {P : Program} {Q : Exit → Act → World → Prop} {n : Nat} {b : Nat → Value} {l : List (Nat × Value)} {w G : World} {L : List HP} {K : Act → World → Prop} {T : TypeId} {a : Option Addr} {cap : Nat} {xs : List Int}

theorem bytes_rep {m : Mem} : ∀ (xs : List Int), All2 ((rI .u8).rep m) (xs.map fun n => [.int .u8 n]) xs
  | [] => trivial
  | _ :: xs => ⟨⟨(), rfl, trivial⟩, bytes_rep xs⟩

theorem bytes_cells {m : Mem} : ∀ {ecs : List (List Value)} {xs : List Int}, All2 ((rI .u8).rep m) ecs xs → ecs.flatten = xs.map (Value.int .u8)
  | [], [], _ => rfl
  | _ :: ecs, x :: xs, ⟨⟨_, h, _⟩, h2⟩ => by
    rw [List.flatten_cons, bytes_cells h2, h]; rfl
  | [], _ :: _, h => h.elim
  | _ :: _, [], h => h.elim

theorem O_app_s {t t2 ty : TypeId} {u v : Operand} {d bytes : Nat} {pos : String} {af : Array Edge} {gd : Option (Nat × Bool)} {ys : List UInt8}
    (hL : Lst P t T 1 bytes) (ht2 : P.underlying t2 = some .string) (hst : St G w (osl (rI .u8) T a cap xs :: L)) (hu : evl n b l u = .slice a xs.length cap) (hv : evl n b l v = S ys)
    (hb : room (xs.length + (sB ys).length) bytes = true) (hn : Nat.blt d n = true)
    (h : ∀ a' cap' w', St G w' (osl (rI .u8) T a' cap' (xs ++ sB ys) :: L) → K (mkF n b ((d, .slice a' (xs ++ sB ys).length cap') :: l)) w') :
    ({ dst := some d, op := .call { callee := .builtin .append, args := #[u, v], argTypes := #[t, t2] }, type := ty, pos := pos, after := af, guard := gd } : Oper).wp P (mkF n b l) w K Q := by
  have hflat : ((sB ys).map fun n => [Value.int .u8 n]).flatten = (sB ys).map (Value.int .u8) := bytes_cells (m := fun _ => none) (bytes_rep _)
  have hs : Src P t2 (rI .u8).sz (S ys) (sB ys).length ((sB ys).map fun n => [Value.int .u8 n]).flatten w := by
    refine ⟨.inr ht2, ?_, fun w' _ => ?_, ?_, ?_⟩
    · simp [Builtin.lenOf, sB, ByteArray.size, Sem.run_pure]
    · rw [hflat]
      have hx : ((⟨ys.toArray⟩ : ByteArray).extract 0 (sB ys).length).data = ys.toArray := by
        simp [ByteArray.extract, ByteArray.copySlice, sB]
      simp only [Builtin.firstCells, Sem.run_pure, hx]
      simp [sB]
    · rw [hflat]; simp [rI]
    · rw [hflat]
      simp only [List.all_map, List.all_eq_true]
      intro x _; rfl
  exact O_app_gen hL hu hv hs hb ((hst.triv (φ := fun m => All2 ((rI .u8).rep m) ((sB ys).map fun n => [Value.int .u8 n]) (sB ys)) (hφ := fun _ _ _ h => h) fun m => bytes_rep _).pull 1) hn h

theorem fold_push : ∀ (xs : List Int) (r : ByteArray), xs.foldl (fun r n => r.push (UInt8.ofNat n.toNat)) r = ⟨r.data ++ (bS xs).toArray⟩
  | [], r => by cases r; simp [bS]
  | x :: xs, r => by
    rw [List.foldl_cons, fold_push xs]
    cases r
    simp [bS, ByteArray.push]

theorem R_b2s {src dst e0 ty : TypeId} {u : Operand} {d : Nat} {pos : String} {af : Array Edge} {gd : Option (Nat × Bool)}
    (hs : P.underlying src = some (.slice e0)) (he : P.underlying e0 = some (.int .u8)) (hd : P.underlying dst = some .string)
    (hl : a = none → xs = []) (hsrc : ∃ ecs : List (List Value), Src P src (rI .u8).sz (.slice a xs.length cap) xs.length ecs.flatten w ∧ ecs.flatten = xs.map (Value.int .u8)) (hu : evl n b l u = .slice a xs.length cap) :
    (execOp (evl n b l) ({ dst := some d, op := .convert src dst u, type := ty, pos := pos, after := af, guard := gd } : Oper)).run P w = .ok (.value (S (bS xs))) w := by
  obtain ⟨ecs, h1, h2⟩ := hsrc
  have key : (convert src dst (.slice a xs.length cap)).run P w = .ok (S (bS xs)) w := by
    rw [run_convert_bytes_string w src dst e0 a _ cap hs he hd]
    cases a with
    | none =>
      have := hl rfl
      subst this
      simp [Conv.bytesToString, Sem.run_pure]
      rfl
    | some a =>
      have h3 := h1.cells w rfl
      rw [h2] at h3
      simp only [Builtin.firstCells, rI, Nat.mul_one] at h3
      rw [run_bytesToString w a xs.length cap xs h3, fold_push]
      simp [S, ByteArray.empty, ByteArray.emptyWithCapacity]
      try rfl
  simp only [execOp, hu, Sem.run_bind, key]
  rfl

theorem dsl_b2s {src e0 : TypeId} (hs : P.underlying src = some (.slice e0)) (h : St G w (dsl (rI .u8) a cap xs :: L)) :
    (a = none → xs = []) ∧ ∃ ecs : List (List Value), Src P src (rI .u8).sz (.slice a xs.length cap) xs.length ecs.flatten w ∧ ecs.flatten = xs.map (Value.int .u8) := by
  obtain ⟨ecs, h1, h2⟩ := dsl_src ⟨e0, hs⟩ h
  refine ⟨fun ha => h.pure fun m _ hA => ?_, ecs, h1, h2.pure fun m _ hA => bytes_cells hA⟩
  obtain ⟨_, _, _, _, h5⟩ := (hA : dslP (rI .u8) a cap xs m)
  rcases h5 with h | ⟨_, _, _, _, _, h, _⟩
  · exact h
  · rw [ha] at h; cases h

theorem osl_b2s {src e0 : TypeId} (hs : P.underlying src = some (.slice e0)) (h : St G w (osl (rI .u8) T a cap xs :: L)) :
    (a = none → xs = []) ∧ ∃ ecs : List (List Value), Src P src (rI .u8).sz (.slice a xs.length cap) xs.length ecs.flatten w ∧ ecs.flatten = xs.map (Value.int .u8) := by
  obtain ⟨ecs, h1, h2⟩ := osl_src ⟨e0, hs⟩ h
  refine ⟨fun ha => h.pure fun m _ hA => ?_, ecs, h1, h2.pure fun m _ hA => bytes_cells hA⟩
  rcases hA with ⟨_, _, h⟩ | ⟨_, _, _, h, _⟩
  · exact h
  · rw [ha] at h; cases h

theorem dsl_b2n {α : Type} {e : Rp α} {ys : List α} (h : St G w (dsl e a cap ys :: L)) : a = none → ys = [] := fun ha => h.pure fun m _ hA => by
  obtain ⟨_, _, _, _, h5⟩ := (hA : dslP e a cap ys m)
  rcases h5 with h | ⟨_, _, _, _, _, h, _⟩
  · exact h
  · rw [ha] at h; cases h
theorem osl_b2n {α : Type} {e : Rp α} {ys : List α} (h : St G w (osl e T a cap ys :: L)) : a = none → ys = [] := fun ha => h.pure fun m _ hA => by
  rcases hA with ⟨_, _, h⟩ | ⟨_, _, _, h, _⟩
  · exact h
  · rw [ha] at h; cases h

/-- is a slice nil? -/
theorem R_slnil {t t2 ty e0 : TypeId} {u v : Operand} {d : Nat} {pos : String} {af : Array Edge} {gd : Option (Nat × Bool)} {k c : Nat} (ht : P.underlying t = some (.slice e0)) (hu : evl n b l u = .slice a k c) (hv : evl n b l v = .slice none 0 0) :
    (execOp (evl n b l) ({ dst := some d, op := .binOp .eql t u v t2, type := ty, pos := pos, after := af, guard := gd } : Oper)).run P w = .ok (.value (.bool a.isNone)) w := by
  have key : (binOp .eql t (.slice a k c) (.slice none 0 0)).run P w = .ok (.bool a.isNone) w := by
    have h0 : ∀ d, (Op.equalIn (d + 1) t (.slice a k c) (.slice none 0 0)).run P w = .ok a.isNone w := fun d => by
      cases a <;> simp [Op.equalIn, run_underlying ht]
    have h1 := h0 9999
    have h2 : binOp .eql t (.slice a k c) (.slice none 0 0) = (do let r ← Op.equalIn (9999 + 1) t (.slice a k c) (.slice none 0 0); pure (.bool r)) := rfl
    rw [h2, Sem.run_bind, h1]
    rfl
  simp only [execOp, hu, hv, eqGuard, Sem.run_bind]
  simp [Sem.run_pure, key]
end
end Go.Hx
