/-
  HxK: a map's keys, sorted: from the shelf's contract to owned lists and maps. Own work.
-/
import Derived.Test.YtpldjopnhhbjpaaGreatHxT
import Derived.Sort.KeysCollected
namespace Go.Hx
open Go.RowKit Go.MapKept Go.Maps Go.Sort
open Go.WideElems (Fit rd rg)
open Go.Proofs (encStr)

def skeys {α : Type} (m : List (List UInt8 × α)) : List (List UInt8) := (m.map (·.1)).mergeSort fun x y => decide (x ≤ y)
def skOK {α : Type} (m : List (List UInt8 × α)) : Bool := decide (m.length ≤ 1000000000) && m.all fun p => decide (p.1.length ≤ maxLen)

/-- the shelf's contract on slices.Sorted at what maps.Keys hands back -/
def SKC (P : Program) (fS fI : FuncId) (kt : TypeId) : Prop :=
  ∀ (Bm b nn : Nat) (D0 : DataW Unit) (R : Value → Option (DataW Unit × List MemPlace)) (W : World), Bm < W.heap.size → W.cell? ⟨Bm, 0, none⟩ = some (.map (some b)) → W.ownsMap P kt R b nn D0 → Maps.size D0 ≤ maxLen → Maps.size D0 * 16 ≤ 140737488355328 →
    Calls P fS #[.func (.func fI) #[] #[.pointer (some ⟨Bm, 0, none⟩)]] W fun e w' => ∃ (v : Value) (ss : List (List UInt8)), e = .returned v ∧ ss.Perm (strKeys D0) ∧
      w'.ownsRow W.heap.size kt 1 v ss.length ((ss.mergeSort (fun x y => decide (x ≤ y))).map encStr) ∧ (v = .slice none 0 0 ↔ ss = []) ∧ Below W.heap.size W w'

theorem insert_perm {H : Type} (x : Lit × DataW H) : ∀ l : List (Lit × DataW H), (DataW.insert x l).Perm (x :: l)
  | [] => .refl _
  | y :: r => by
    simp only [DataW.insert]
    split
    · exact .refl _
    · exact ((insert_perm x r).cons y).trans (.swap x y r)

theorem foldr_perm {H : Type} : ∀ l : List (Lit × DataW H), (l.foldr DataW.insert []).Perm l
  | [] => .refl _
  | x :: l => (insert_perm x _).trans ((foldr_perm l).cons x)

section
variable {α : Type} {e : Rp α} {P : Program} {G w : World} {L : List HP} {m : List (List UInt8 × α)} {bl Bm : Nat} {kt : TypeId}

def RT0 : Value → Option (DataW Unit × List MemPlace) := fun _ => some (.nil, [])

theorem rd_key0 (hkt : P.underlying kt = some .string) {x : MapEntry} {s : List UInt8} (hx : x.key = S s) (hs : s.length ≤ maxLen) : rd P kt RT0 x = some (.string s, .nil) := by
  have : keyOf P kt x.key = some (.string s) := by
    rw [hx]
    simp only [keyOf, hkt, mapKey]
    rw [if_pos (by show s.toArray.size ≤ maxLen; simpa using hs)]
  unfold rd
  rw [this]
  rfl

theorem keys_of_all {mm : Mem} (hkt : P.underlying kt = some .string) : ∀ (es : List MapEntry) (m : List (List UInt8 × α)), All2 (EnR S e mm) es m → (m.all fun p => decide (p.1.length ≤ maxLen)) = true →
    (es.map (rg P kt RT0)).map (fun p => strOf p.1) = m.map (·.1) ∧ ∀ x ∈ es, ∃ y, rd P kt RT0 x = some y
  | [], [], _, _ => ⟨rfl, by simp⟩
  | [], _ :: _, h, _ => h.elim
  | _ :: _, [], h, _ => h.elim
  | x :: es, p :: m, ⟨h1, h2⟩, h3 => by
    simp only [List.all_cons, Bool.and_eq_true, decide_eq_true_eq] at h3
    obtain ⟨g1, g2⟩ := keys_of_all hkt es m h2 h3.2
    have g0 := rd_key0 hkt h1.1 h3.1
    refine ⟨?_, fun y hy => ?_⟩
    · simp only [List.map_cons, List.cons.injEq]
      exact ⟨by rw [Go.WideElems.rg_of g0]; rfl, g1⟩
    · rcases List.mem_cons.1 hy with rfl | hy
      · exact ⟨_, g0⟩
      · exact g2 y hy

theorem ownsMap_of_mpr (hkt : P.underlying kt = some .string) (hok : skOK m = true) (hst : St G w (mpr S e bl m :: L)) :
    ∃ D0 : DataW Unit, w.ownsMap P kt RT0 bl m.length D0 ∧ Maps.size D0 = m.length ∧ (strKeys D0).Perm (m.map (·.1)) := by
  simp only [skOK, Bool.and_eq_true, decide_eq_true_eq] at hok
  obtain ⟨es, c, hsd, h1⟩ := mpr_open hst
  have hb := (h1.pull 1).get
  obtain ⟨mm, hmm⟩ : ∃ mm, All2 (EnR S e mm) es.toList m := h1.pure fun mm _ h => ⟨mm, h⟩
  have hl : es.size = m.length := by have := All2.length hmm; simpa using this
  obtain ⟨k1, k2⟩ := keys_of_all hkt es.toList m hmm hok.2
  refine ⟨_, ⟨es, c, hb, ⟨by rw [hl]; exact Nat.le_trans hok.1 (by decide), hsd, k2⟩, by omega, rfl⟩, ?_, ?_⟩
  · show ((es.toList.map (rg P kt RT0)).foldr DataW.insert []).length = _
    rw [(foldr_perm _).length_eq]
    simp [hl]
  · show (((es.toList.map (rg P kt RT0)).foldr DataW.insert []).map fun p => strOf p.1).Perm _
    rw [← k1]
    exact (foldr_perm _).map _

theorem strs_rep {mm : Mem} : ∀ xs : List (List UInt8), All2 (rS.rep mm) (xs.map fun s => [S s]) xs
  | [] => trivial
  | _ :: xs => ⟨⟨(), rfl, trivial⟩, strs_rep xs⟩

theorem C_sorted {fS fI : FuncId} {R : Ending → World → Prop} {T : TypeId} (hC : SKC P fS fI kt) (hkt : P.underlying kt = some .string) (hok : skOK m = true)
    (hst : St G w (blk Bm (cl [.map (some bl)] T) :: mpr S e bl m :: L))
    (hR : ∀ a c w', St G w' (osl rS kt a c (skeys m) :: blk Bm (cl [.map (some bl)] T) :: mpr S e bl m :: L) → R (.returned (.slice a (skeys m).length c)) w') :
    Calls P fS #[.func (.func fI) #[] #[pt Bm 0]] w R := by
  obtain ⟨D0, h1, h2, h3⟩ := ownsMap_of_mpr hkt hok (hst.pull 1)
  have hb := hst.get
  have hlt : Bm < w.heap.size := (Array.getElem?_eq_some_iff.1 hb).1
  have hcell : w.cell? ⟨Bm, 0, none⟩ = some (.map (some bl)) := cells_of_get hb 0 _ rfl
  have hm1 : m.length ≤ 1000000000 := by
    simp only [skOK, Bool.and_eq_true, decide_eq_true_eq] at hok; exact hok.1
  refine (hC Bm bl m.length D0 RT0 w hlt hcell h1 (by rw [h2]; exact Nat.le_trans hm1 (by decide)) (by rw [h2]; omega)).mono ?_
  rintro _ w' ⟨v, ss, rfl, hp, ⟨hl, hrow⟩, hnil, hbel⟩
  have hs : (ss.mergeSort fun x y => decide (x ≤ y)) = skeys m := mergeSort_of_perm (hp.trans h3)
  rw [hs] at hl hrow
  have hsl : ss.length = (skeys m).length := by rw [← hs]; simp
  have hg : w.grownBy w' none := ⟨hbel.os, hbel.tape, hbel.output, hbel.size, fun k hk _ => hbel.block k hk⟩
  rcases hrow with ⟨rfl, h0⟩ | ⟨g, cap, cur, rfl, hge, hgb, k1, k2, k3, k4⟩
  · have he : skeys m = [] := List.eq_nil_of_length_eq_zero (by omega)
    have := hR none 0 w' (by rw [he]; exact osl_nil rS kt (hst.grown hg))
    rw [he] at this
    exact this
  · have := hR (some ⟨g, 0, none⟩) cap w' ((hst.new hg hge hgb).conv fun mm f hf => .inr ⟨g, cur, (skeys m).map fun s => [S s], rfl, hf, by omega, k2, k3, strs_rep _, by
      rw [show (skeys m).length * rS.sz = ss.length * 1 from by rw [hsl]; rfl, k4]
      generalize skeys m = l
      induction l with
      | nil => rfl
      | cons a l ih => simp only [List.map_cons, List.flatten_cons, List.singleton_append]; rw [ih]⟩)
    rw [hsl]
    exact this
end
end Go.Hx
