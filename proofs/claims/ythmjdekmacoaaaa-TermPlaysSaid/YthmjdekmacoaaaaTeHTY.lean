/-
  TeH: the law's own helpers over plain data: Told, Same, entries, may. Own work.
-/
import Derived.Test.YthmjdekmacoaaaaTeGTY
import Derived.Test.YthmjdekmacoaaaaPlTeTY
namespace Go.Proofs.Ythmjdekmacoaaaa
open Go.Hx

def toR (e : T_term_Entry) : T_glacierref09_Entry := ⟨e.Index, e.Term, e.Cmd⟩
def toT (e : T_glacierref09_Entry) : T_term_Entry := ⟨e.Index, e.Term, e.Cmd⟩
theorem toT_toR (l : List T_term_Entry) : (l.map toR).map toT = l := by
  rw [List.map_map]
  conv => rhs; rw [← List.map_id l]
  rfl
def mk9 (t v a b : Nat) (s : List UInt8) (lg : List T_term_Entry) : T_glacierref09_State := ⟨t, v, a, b, s, lg.map toR⟩

section
variable (k : Nat)

theorem told_l (s : T_term_State) (hl : s.Log.length ≤ 1000) : ∀ (j i : Nat) (acc : List T_glacierref09_Entry), i ≤ s.Log.length → s.Log.length - i < j → acc.length ≤ i → glacierlaw09_Told_l1 k s j (i : Int) acc = some (acc ++ (s.Log.drop i).map toR)
  | 0, _, _, _, hj, _ => by omega
  | j + 1, i, acc, hi, hj, ha => by
    rw [glacierlaw09_Told_l1]
    by_cases h : i < s.Log.length
    · rw [if_pos (by simpa using h), gtL h]
      simp only [bind_some]
      rw [if_pos (room_of (by simp; omega) (by omega)), wrN i (by omega), told_l s hl j (i + 1) _ (by omega) (by omega) (by simp; omega), List.drop_eq_getElem_cons h, List.map_cons, List.append_assoc]
      rfl
    · rw [if_neg (by simpa using h), List.drop_eq_nil_of_le (by omega)]
      simp
theorem told_eq (hk : 2000 < k) (t v a b : Nat) (s : List UInt8) (lg : List T_term_Entry) (hl : lg.length ≤ 1000) : glacierlaw09_Told k ⟨t, v, a, b, s, lg⟩ = some (lg.map toR, mk9 t v a b s lg) := by
  have e := told_l k ⟨t, v, a, b, s, lg⟩ hl k 0 [] (by omega) (by show lg.length - 0 < k; omega) (by simp)
  unfold glacierlaw09_Told
  rw [show (0 : Int) = ((0 : Nat) : Int) from rfl, e]
  rfl

theorem entries_l (l : List T_glacierref09_Entry) (hl : l.length ≤ 1000) : ∀ (j i : Nat) (acc : List T_term_Entry), i ≤ l.length → l.length - i < j → acc.length ≤ i → glacierlaw09_entries_l1 k l j acc (i : Int) = some (acc ++ (l.drop i).map toT)
  | 0, _, _, _, hj, _ => by omega
  | j + 1, i, acc, hi, hj, ha => by
    rw [glacierlaw09_entries_l1]
    by_cases h : i < l.length
    · rw [if_pos (by simpa using h), gtL h]
      simp only [bind_some]
      rw [if_pos (room_of (by simp; omega) (by omega)), wrN i (by omega), entries_l l hl j (i + 1) _ (by omega) (by omega) (by simp; omega), List.drop_eq_getElem_cons h, List.map_cons, List.append_assoc]
      rfl
    · rw [if_neg (by simpa using h), List.drop_eq_nil_of_le (by omega)]
      simp
theorem entries_eq (hk : 2000 < k) (l : List T_term_Entry) (hl : l.length ≤ 1000) : glacierlaw09_entries k (l.map toR) = some l := by
  have e := entries_l k (l.map toR) (by rw [List.length_map]; exact hl) k 0 [] (by omega) (by rw [List.length_map]; omega) (by simp)
  unfold glacierlaw09_entries
  rw [show (0 : Int) = ((0 : Nat) : Int) from rfl, e, List.drop_zero, toT_toR]
  rfl

theorem same_l (z z' : T_glacierref09_State) (hl : z.Log.length ≤ 1000) (he : z.Log.length = z'.Log.length) : ∀ (j i : Nat), i ≤ z.Log.length → z.Log.length - i < j → ∃ r, glacierref09_Same_l1 k z z' j (i : Int) = some r ∧ (z = z' → r = Flow.go ())
  | 0, _, _, hj => by omega
  | j + 1, i, hi, hj => by
    rw [glacierref09_Same_l1]
    by_cases h : i < z.Log.length
    · rw [if_pos (by simpa using h), gtL h, gtL (by omega)]
      simp only [bind_some]
      by_cases hc : z.Log[i] = z'.Log[i]'(by omega)
      · rw [if_neg (by simp [hc]), wrN i (by omega)]
        exact same_l z z' hl he j (i + 1) (by omega) (by omega)
      · rw [if_pos (by simp [hc])]
        exact ⟨_, rfl, fun hz => absurd (by subst hz; rfl) hc⟩
    · rw [if_neg (by simpa using h)]
      exact ⟨_, rfl, fun _ => rfl⟩
theorem same_tot (hk : 2000 < k) (z z' : T_glacierref09_State) (hl : z.Log.length ≤ 1000) : ∃ r, glacierref09_Same k z z' = some r ∧ (z = z' → r = true) := by
  unfold glacierref09_Same
  obtain ⟨c, hc, hcz⟩ : ∃ c, (if (z.Term != z'.Term) = true then some (true) else (if (z.Vote != z'.Vote) = true then some (true) else (if (z.Base != z'.Base) = true then some (true) else (if (z.BaseTerm != z'.BaseTerm) = true then some (true) else (if (!sEq z.Snap z'.Snap) = true then some (true) else some (((z.Log.length : Int) != (z'.Log.length : Int)))))))) = some c ∧ (c = false → z.Log.length = z'.Log.length) ∧ (z = z' → c = false) := by
    by_cases h1 : (z.Term != z'.Term) = true
    · exact ⟨true, by rw [if_pos h1], (fun h => by cases h), (fun h => by subst h; simp at h1)⟩
    rw [if_neg h1]
    by_cases h2 : (z.Vote != z'.Vote) = true
    · exact ⟨true, by rw [if_pos h2], (fun h => by cases h), (fun h => by subst h; simp at h2)⟩
    rw [if_neg h2]
    by_cases h3 : (z.Base != z'.Base) = true
    · exact ⟨true, by rw [if_pos h3], (fun h => by cases h), (fun h => by subst h; simp at h3)⟩
    rw [if_neg h3]
    by_cases h4 : (z.BaseTerm != z'.BaseTerm) = true
    · exact ⟨true, by rw [if_pos h4], (fun h => by cases h), (fun h => by subst h; simp at h4)⟩
    rw [if_neg h4]
    by_cases h5 : (!sEq z.Snap z'.Snap) = true
    · exact ⟨true, by rw [if_pos h5], (fun h => by cases h), (fun h => by subst h; rw [sEq_self] at h5; simp at h5)⟩
    rw [if_neg h5]
    refine ⟨_, rfl, fun h => ?_, fun h => by subst h; simp⟩
    have := bne_eq_false_iff_eq.1 h
    omega
  rw [hc]
  simp only [bind_some]
  cases c with
  | true => rw [if_pos rfl]; exact ⟨false, rfl, fun h => by have := hcz.2 h; cases this⟩
  | false =>
    rw [if_neg (by simp)]
    obtain ⟨r, hr, hz⟩ := same_l k z z' hl (hcz.1 rfl) k 0 (by omega) (by omega)
    rw [show (0 : Int) = ((0 : Nat) : Int) from rfl, hr]
    simp only [bind_some]
    cases r with
    | ret b => exact ⟨b, rfl, fun h => by have := hz h; cases this⟩
    | go u => exact ⟨true, rfl, fun _ => rfl⟩

/-! ### found -/
theorem found_l (hk : 2000 < k) (all : List T_glacierref09_State) (hal : all.length ≤ 1000) (y55 : List T_term_Entry × T_term_State × Int × Int × Int × FM) {t v a b : Nat} {s : List UInt8} {lg : List T_term_Entry} (hl : lg.length ≤ 1000) (hs : (⟨y55.2.1.Term, y55.2.1.Vote, y55.2.1.Base, y55.2.1.BaseTerm, y55.2.1.Snap, y55.1⟩ : T_term_State) = ⟨t, v, a, b, s, lg⟩) :
    ∀ (j i : Nat) (acc : Bool), i ≤ all.length → all.length - i < j → (acc = true ∨ mk9 t v a b s lg ∈ all.drop i) → glacierlaw09_TermPlays_l2 k all y55 j acc (i : Int) = some true
  | 0, _, _, _, hj, _ => by omega
  | j + 1, i, acc, hi, hj, h => by
    rw [glacierlaw09_TermPlays_l2]
    by_cases hlt : i < all.length
    · rw [if_pos (by simpa using hlt), gtL hlt]
      simp only [bind_some]
      cases acc with
      | true =>
        rw [if_pos rfl]
        simp only [bind_some]
        rw [wrN i (by omega)]
        exact found_l hk all hal y55 hl hs j (i + 1) true (by omega) (by omega) (.inl rfl)
      | false =>
        rw [if_neg (by simp), hs, told_eq k hk t v a b s lg hl]
        simp only [bind_some]
        obtain ⟨r, hr, hz⟩ := same_tot k hk (mk9 t v a b s lg) all[i] (by simpa [mk9] using hl)
        rw [show (T_glacierref09_State.mk (mk9 t v a b s lg).Term (mk9 t v a b s lg).Vote (mk9 t v a b s lg).Base (mk9 t v a b s lg).BaseTerm (mk9 t v a b s lg).Snap (lg.map toR)) = mk9 t v a b s lg from rfl, hr]
        simp only [bind_some]
        rw [wrN i (by omega)]
        refine found_l hk all hal y55 hl hs j (i + 1) r (by omega) (by omega) ?_
        rcases h with h | h
        · cases h
        · rw [List.drop_eq_getElem_cons hlt] at h
          rcases List.mem_cons.1 h with h | h
          · exact .inl (hz h)
          · exact .inr h
    · rw [if_neg (by simpa using hlt)]
      rcases h with h | h
      · rw [h]
      · rw [List.drop_eq_nil_of_le (by omega)] at h; cases h

/-! ### may -/
theorem may1 (x : T_glacierref09_State) (act : T_glacierlaw09_Act) (h : act.Kind = 1) : glacierlaw09_may k x act = some (x.Log, ⟨act.N, act.M, x.Base, x.BaseTerm, x.Snap, x.Log⟩, []) := by
  unfold glacierlaw09_may
  rw [if_pos (by simpa using h)]

theorem may2_l (t v a b : Nat) (s : List UInt8) (lg : List T_term_Entry) (hlg : lg.length ≤ 500) (ha : a ≤ 100000) (act : T_glacierlaw09_Act) (M : Nat) (hM : act.M = (M : Int)) (hM2 : M ≤ 5) : ∀ (j i : Nat) (btw : List T_glacierref09_State) (l : List T_term_Entry), l.length = i → i ≤ 4 → 4 - i < j → btw.length = i →
    (∀ q, q < i → mk9 t v a b s (lg ++ l.take (q + 1)) ∈ btw) → (∀ q (h : q < l.length), l[q].Index = (a : Int) + lg.length + q + 1) → (∀ x ∈ l, EOk x) →
    ∃ btw' l', glacierlaw09_may_l1 k (mk9 t v a b s lg) act j btw (i : Int) ((lg ++ l).map toR) = some (btw', (lg ++ l').map toR) ∧ l'.length ≤ 4 ∧ btw'.length ≤ 4 ∧ (∀ q, q < l'.length → mk9 t v a b s (lg ++ l'.take (q + 1)) ∈ btw') ∧ (∀ q (h : q < l'.length), l'[q].Index = (a : Int) + lg.length + q + 1) ∧ ∀ x ∈ l', EOk x
  | 0, _, _, _, _, _, hj, _, _, _, _ => by omega
  | j + 1, i, btw, l, hl, hi, hj, hb, hin, hn, hx => by
    rw [glacierlaw09_may_l1]
    by_cases h : i < act.Texts.length ∧ i < 4
    · obtain ⟨h1, h2⟩ := h
      obtain ⟨c, hc, hcl⟩ := cut_at k act.Texts[i] 20
      rw [if_pos (by simpa using h1)]
      simp only [bind_some]
      rw [if_pos (by simp; omega), gtL h1]
      simp only [bind_some]
      rw [if_pos (room_of (by simp; omega) (by omega)), show (20 : Int) = ((20 : Nat) : Int) from rfl, hc]
      simp only [bind_some]
      have hbase : (mk9 t v a b s lg).Base = (a : Int) := rfl
      have hlog : ((mk9 t v a b s lg).Log.length : Int) = (lg.length : Int) := by simp [mk9]
      rw [if_pos (room_of (by simp; omega) (by omega))]
      simp only [bind_some]
      rw [if_pos (room_of (by simp; omega) (by omega)), hbase, hlog, wr (n := (a : Int) + (lg.length : Int)) (by omega), wr (n := (a : Int) + (lg.length : Int) + 1) (by omega), wr (n := (a : Int) + (lg.length : Int) + 1 + (i : Int)) (by omega), hM, wrN i (by omega)]
      obtain ⟨x0, hx0⟩ : ∃ x0 : T_term_Entry, x0 = ⟨(a : Int) + (lg.length : Int) + 1 + (i : Int), (M : Int), c⟩ := ⟨_, rfl⟩
      have e : ([] ++ (lg ++ l).map toR) ++ [(⟨(a : Int) + (lg.length : Int) + 1 + (i : Int), (M : Int), c⟩ : T_glacierref09_Entry)] = (lg ++ (l ++ [x0])).map toR := by simp [toR, hx0, List.append_assoc]
      rw [e]
      have hi0 : x0.Index = (a : Int) + lg.length + i + 1 := by rw [hx0]; simp only []; omega
      have ih := may2_l t v a b s lg hlg ha act M hM hM2 j (i + 1) (btw ++ [mk9 t v a b s (lg ++ (l ++ [x0]))]) (l ++ [x0]) (by simp; omega) (by omega) (by omega) (by simp; omega) (fun q hq => by
        by_cases hqi : q < i
        · rw [List.take_append_of_le_length (by omega)]
          exact List.mem_append_left _ (hin q hqi)
        · have : q = i := by omega
          subst this
          rw [List.take_of_length_le (by simp; omega)]
          exact List.mem_append_right _ (List.mem_singleton.2 rfl)) (fun q hq => by
        by_cases hqi : q < l.length
        · rw [List.getElem_append_left hqi]; exact hn q hqi
        · have : q = l.length := by simp at hq; omega
          subst this
          simp only [List.getElem_concat_length]
          rw [hi0, hl]) (fun x hx' => by
        rcases List.mem_append.1 hx' with h | h
        · exact hx x h
        · obtain rfl := List.mem_singleton.1 h
          rw [hx0]
          exact ⟨by simp only []; omega, by simp only []; omega, by simp only []; omega, by simp only []; omega, by simp only []; omega⟩)
      exact ih
    · have : (if decide ((i : Int) < (act.Texts.length : Int)) = true then some (decide ((i : Int) < 4)) else some (false)) = some false := by
        by_cases h1 : i < act.Texts.length
        · rw [if_pos (by simpa using h1)]
          have : ¬ i < 4 := fun h3 => h ⟨h1, h3⟩
          congr 1; simp; omega
        · rw [if_neg (by simpa using h1)]
      rw [this]
      exact ⟨btw, l, rfl, by omega, by omega, fun q hq => hin q (by omega), hn, hx⟩

theorem may2 (hk : 2000 < k) (t v a b : Nat) (s : List UInt8) (lg : List T_term_Entry) (hlg : lg.length ≤ 500) (ha : a ≤ 100000) (act : T_glacierlaw09_Act) (h : act.Kind = 2) (M : Nat) (hM : act.M = (M : Int)) (hM2 : M ≤ 5) :
    ∃ btw l, glacierlaw09_may k (mk9 t v a b s lg) act = some ((lg ++ l).map toR, mk9 t v a b s (lg ++ l), btw) ∧ l.length ≤ 4 ∧ btw.length ≤ 4 ∧ (∀ q, q < l.length → mk9 t v a b s (lg ++ l.take (q + 1)) ∈ btw) ∧ (∀ q (h : q < l.length), l[q].Index = (a : Int) + lg.length + q + 1) ∧ ∀ x ∈ l, EOk x := by
  obtain ⟨btw, l, e, r⟩ := may2_l k t v a b s lg hlg ha act M hM hM2 k 0 [] [] rfl (by omega) (by omega) rfl (fun q hq => by omega) (fun q hq => by simp at hq) (by simp)
  refine ⟨btw, l, ?_, r⟩
  rw [List.append_nil] at e
  unfold glacierlaw09_may
  rw [if_neg (by simp [h]), if_pos (by simp [h]), show (0 : Int) = ((0 : Nat) : Int) from rfl, show (mk9 t v a b s lg).Log = lg.map toR from rfl, e]
  rfl

theorem may3_l (x : T_glacierref09_State) (hl : x.Log.length ≤ 500) : ∀ (j i : Nat) (acc : List T_glacierref09_State), i ≤ x.Log.length → x.Log.length - i < j → acc.length ≤ i → ∃ r, glacierlaw09_may_l2 k x j acc (i : Int) = some r ∧ r.length ≤ 600
  | 0, _, _, _, hj, _ => by omega
  | j + 1, i, acc, hi, hj, ha => by
    rw [glacierlaw09_may_l2]
    by_cases h : i < x.Log.length
    · rw [if_pos (by simpa using h), sl0 _ _ (by omega)]
      simp only [bind_some]
      rw [if_pos (room_of (by simp; omega) (by omega)), wrN i (by omega)]
      exact may3_l x hl j (i + 1) _ (by omega) (by omega) (by simp; omega)
    · rw [if_neg (by simpa using h)]
      exact ⟨acc, rfl, by omega⟩
theorem mn2_nat (a b : Nat) : mn2 (a : Int) (b : Int) = ((min a b : Nat) : Int) := by unfold mn2; split <;> omega
theorem may3 (hk : 2000 < k) (t v a b : Nat) (s : List UInt8) (lg : List T_term_Entry) (hlg : lg.length ≤ 500) (act : T_glacierlaw09_Act) (h : act.Kind = 3) (N : Nat) (hN : act.N = (N : Int)) :
    ∃ btw, glacierlaw09_may k (mk9 t v a b s lg) act = some ((lg.take N).map toR, mk9 t v a b s (lg.take N), btw) ∧ btw.length ≤ 600 := by
  obtain ⟨r, e, hr⟩ := may3_l k (mk9 t v a b s lg) (by simpa [mk9] using hlg) k 0 [] (by omega) (by simp [mk9]; omega) (by simp)
  refine ⟨r, ?_, hr⟩
  unfold glacierlaw09_may
  have hlog : (mk9 t v a b s lg).Log = lg.map toR := rfl
  rw [if_neg (by simp [h]), if_neg (by simp [h]), if_pos (by simp [h]), hN, hlog, List.length_map, mn2_nat, sl0 _ _ (by rw [List.length_map]; omega)]
  simp only [bind_some]
  rw [show (0 : Int) = ((0 : Nat) : Int) from rfl, e]
  simp only [bind_some]
  have : (lg.map toR).take (min N lg.length) = (lg.take N).map toR := by
    rw [← List.map_take]
    congr 1
    by_cases hh : N ≤ lg.length
    · rw [Nat.min_eq_left hh]
    · rw [Nat.min_eq_right (by omega), List.take_of_length_le (Nat.le_refl _), List.take_of_length_le (by omega)]
  rw [this]
  rfl
theorem may4 (t v a b : Nat) (s : List UInt8) (lg : List T_term_Entry) (hlg : lg.length ≤ 500) (ha : a ≤ 100000) (hb : b ≤ 1099511627776) (hx : ∀ x ∈ lg, EOk x) (act : T_glacierlaw09_Act) (h1 : act.Kind ≠ 1) (h2 : act.Kind ≠ 2) (h3 : act.Kind ≠ 3) (N : Nat) (hN : act.N = (N : Int)) :
    ∃ (b' : Nat) (s' : List UInt8), b' ≤ 1099511627776 ∧ s'.length ≤ 30 ∧ glacierlaw09_may k (mk9 t v a b s lg) act = some ((lg.drop (min N lg.length)).map toR, mk9 t v (a + min N lg.length) b' s' (lg.drop (min N lg.length)), []) := by
  obtain ⟨c, hc, hcl⟩ := cut_at k act.S 30
  have hc' : glacierlaw01_Cut k act.S (30 : Int) = some c := hc
  have hlog : (mk9 t v a b s lg).Log = lg.map toR := rfl
  have hbase : (mk9 t v a b s lg).Base = (a : Int) := rfl
  obtain ⟨b', hb', eb'⟩ : ∃ b' : Nat, b' ≤ 1099511627776 ∧ (if decide (((min N lg.length : Nat) : Int) > 0) = true then (Option.bind (gt (lg.map toR) (IntKind.i64.wrap (((min N lg.length : Nat) : Int) - 1))) fun x17 => some (x17.Term)) else some ((mk9 t v a b s lg).BaseTerm)) = some (b' : Int) := by
    by_cases h0 : 0 < min N lg.length
    · rw [if_pos (by simpa using h0), wr (by omega), show (((min N lg.length : Nat) : Int) - 1) = ((min N lg.length - 1 : Nat) : Int) by omega, gtL (by rw [List.length_map]; omega)]
      simp only [bind_some, List.getElem_map]
      have hx' := hx (lg[min N lg.length - 1]'(by omega)) (List.getElem_mem _)
      obtain ⟨_, _, q3, q4, _⟩ := hx'
      exact ⟨(lg[min N lg.length - 1]'(by omega)).Term.toNat, by omega, by simp only [toR]; rw [Int.toNat_of_nonneg q3]⟩
    · rw [if_neg (by simpa using h0)]
      exact ⟨b, hb, rfl⟩
  refine ⟨b', c, hb', hcl, ?_⟩
  unfold glacierlaw09_may
  rw [if_neg (by simpa using h1), if_neg (by simpa using h2), if_neg (by simpa using h3), hN, hlog, List.length_map, mn2_nat, eb']
  simp only [bind_some]
  rw [hc']
  simp only [bind_some]
  rw [sl_of _ (by omega) (by omega) (by rw [List.length_map]; omega), hbase, wr (by omega)]
  simp only [bind_some]
  rw [Int.toNat_natCast, Int.toNat_natCast, List.take_of_length_le (by rw [List.length_map]; exact Nat.le_refl _), ← List.map_drop]
  rfl
end
end Go.Proofs.Ythmjdekmacoaaaa
