/-
  HiC: what a world is as bytes tells the world; the search finds an order just when there is one. Own work.
-/
import Derived.Test.YtkbhnofclgibfaaHiBZC
namespace Go.Proofs.Ytkbhnofclgibfaa
open Go.Hx

/-! ### a world as bytes -/
def byt (v : Int) (i : Nat) : Int := IntKind.u8.wrap (shR .u64 v ((8 * i : Nat) : Int))
def txE (e : T_history_entry) : List Int := ([IntKind.u8.wrap (e.name.length : Int)] ++ sB e.name) ++ (List.range 8).map (byt e.v)
def txt (w : Wd) : List UInt8 := bS (w.flatMap txE)

theorem txt_l2 (k : Nat) (e : T_history_entry) : ∀ (j i : Nat) (acc : List Int), i ≤ 8 → 8 - i < j → acc.length + (8 - i) ≤ 500000 →
    history_world_text_l2 k e j acc (i : Int) = some (acc ++ ((List.range 8).drop i).map (byt e.v))
  | 0, _, _, _, hj, _ => by omega
  | j + 1, i, acc, hi, hj, ha => by
    rw [history_world_text_l2]
    by_cases h : i < 8
    · have h8 : IntKind.i64.wrap (8 * (i : Int)) = ((8 * i : Nat) : Int) := by rw [wr (by omega)]; push_cast; rfl
      rw [if_pos (by rw [decide_eq_true_eq]; omega), h8, if_pos (by omega), if_pos (room_of (by simp; omega) (by omega)), wrN _ (by omega),
        txt_l2 k e j (i + 1) _ (by omega) (by omega) (by simp; omega), List.drop_eq_getElem_cons (show i < (List.range 8).length by simpa using h), List.append_assoc]
      simp [byt]
    · rw [if_neg (by rw [decide_eq_true_eq]; omega), List.drop_eq_nil_of_le (by simp; omega)]
      simp
theorem txE_len (e : T_history_entry) (h : e.name.length ≤ 32) : (txE e).length ≤ 41 := by simp [txE, sB]; omega
theorem txt_l1 (k : Nat) (w : Wd) (hw : ∀ e ∈ w, e.name.length ≤ 32) (hl : w.length ≤ 1000) (hk : 8 < k) : ∀ (j i : Nat) (acc : List Int), i ≤ w.length → w.length - i < j → acc.length + 41 * (w.length - i) ≤ 400000 →
    history_world_text_l1 k w j acc (i : Int) = some (acc ++ (w.drop i).flatMap txE)
  | 0, _, _, _, hj, _ => by omega
  | j + 1, i, acc, hi, hj, ha => by
    rw [history_world_text_l1]
    by_cases h : i < w.length
    · have hn := hw w[i] (List.getElem_mem h)
      have he := txE_len _ hn
      rw [if_pos (by simpa using h), gtL h]
      simp only [bind_some]
      rw [if_pos (room_of (by simp; omega) (by omega)), if_pos (room_of (by simp [sB]; omega) (by omega)), show (0 : Int) = ((0 : Nat) : Int) from rfl,
        txt_l2 k _ k 0 _ (by omega) (by omega) (by simp [sB]; omega)]
      simp only [bind_some]
      rw [wrN _ (by omega), txt_l1 k w hw hl hk j (i + 1) _ (by omega) (by omega) (by simp [sB]; omega), List.drop_eq_getElem_cons h]
      simp only [List.flatMap_cons, txE, List.append_assoc, List.drop_zero]
    · rw [if_neg (by simpa using h), List.drop_eq_nil_of_le (by omega)]
      simp
theorem text_spec (k : Nat) (w : Wd) (hw : ∀ e ∈ w, Ent e) (hl : w.length ≤ 1000) (hk : w.length + 8 < k) : history_world_text k w = some (txt w) := by
  unfold history_world_text
  rw [show (0 : Int) = ((0 : Nat) : Int) from rfl, txt_l1 k w (fun e he => (hw e he).1) hl (by omega) k 0 [] (by omega) (by omega) (by simp; omega)]
  rfl

theorem byt_nat (n i : Nat) (hi : i ≤ 8) : byt (n : Int) i = ((n / 2 ^ (8 * i) % 256 : Nat) : Int) := by
  unfold byt
  rw [h_shR64 _ _ (by omega)]
  show (((n / 2 ^ (8 * i) : Nat)) : Int) % 256 = _
  omega
theorem ofNat_inj {a b : Nat} (ha : a < 256) (hb : b < 256) (h : UInt8.ofNat a = UInt8.ofNat b) : a = b := by
  have := congrArg UInt8.toNat h
  simp only [UInt8.toNat_ofNat'] at this
  omega
theorem by8_inj {v v' : Int} (h0 : 0 ≤ v) (h1 : v < 18446744073709551616) (h2 : 0 ≤ v') (h3 : v' < 18446744073709551616)
    (h : bS ((List.range 8).map (byt v)) = bS ((List.range 8).map (byt v'))) : v = v' := by
  obtain ⟨n, rfl⟩ := Int.eq_ofNat_of_zero_le h0
  obtain ⟨n', rfl⟩ := Int.eq_ofNat_of_zero_le h2
  have key : ∀ i, i < 8 → n / 2 ^ (8 * i) % 256 = n' / 2 ^ (8 * i) % 256 := by
    intro i hi
    have := congrArg (fun l => l[i]?) h
    simp only [bS, List.getElem?_map, List.getElem?_range hi, Option.map_some, Option.some.injEq] at this
    rw [byt_nat n i (by omega), byt_nat n' i (by omega), Int.toNat_natCast, Int.toNat_natCast] at this
    exact ofNat_inj (Nat.mod_lt _ (by omega)) (Nat.mod_lt _ (by omega)) this
  have k0 := key 0 (by omega)
  have k1 := key 1 (by omega)
  have k2 := key 2 (by omega)
  have k3 := key 3 (by omega)
  have k4 := key 4 (by omega)
  have k5 := key 5 (by omega)
  have k6 := key 6 (by omega)
  have k7 := key 7 (by omega)
  simp only [Nat.mul_zero, Nat.pow_zero, Nat.div_one] at k0
  simp only [Nat.reducePow, Nat.reduceMul] at k1 k2 k3 k4 k5 k6 k7
  omega
theorem bS_app' (a b : List Int) : bS (a ++ b) = bS a ++ bS b := by simp [bS]
theorem bS_sB' (s : List UInt8) : bS (sB s) = s := by
  unfold bS sB
  rw [List.map_map]
  conv => rhs; rw [← List.map_id s]
  exact List.map_congr_left fun c _ => by simp
theorem txE_bS (e : T_history_entry) : bS (txE e) = UInt8.ofNat (IntKind.u8.wrap (e.name.length : Int)).toNat :: (e.name ++ bS ((List.range 8).map (byt e.v))) := by
  unfold txE
  rw [bS_app', bS_app', bS_sB']
  rfl
theorem txt_cons (e : T_history_entry) (w : Wd) : txt (e :: w) = UInt8.ofNat (IntKind.u8.wrap (e.name.length : Int)).toNat :: (e.name ++ (bS ((List.range 8).map (byt e.v)) ++ txt w)) := by
  unfold txt
  rw [List.flatMap_cons, bS_app', txE_bS, List.cons_append, List.append_assoc]
theorem txt_inj : ∀ {w w' : Wd}, (∀ e ∈ w, Ent e) → (∀ e ∈ w', Ent e) → txt w = txt w' → w = w'
  | [], [], _, _, _ => rfl
  | [], e :: w', _, _, h => by rw [txt_cons] at h; simp [txt, bS] at h
  | e :: w, [], _, _, h => by rw [txt_cons] at h; simp [txt, bS] at h
  | e :: w, e' :: w', h1, h2, h => by
    rw [txt_cons, txt_cons] at h
    obtain ⟨ha, hb⟩ := List.cons.inj h
    have e1 := h1 e (List.mem_cons_self ..)
    have e2 := h2 e' (List.mem_cons_self ..)
    have hn : e.name.length = e'.name.length := by
      have x1 : (IntKind.u8.wrap (e.name.length : Int)).toNat = e.name.length := by show ((e.name.length : Int) % 256).toNat = _; have := e1.1; omega
      have x2 : (IntKind.u8.wrap (e'.name.length : Int)).toNat = e'.name.length := by show ((e'.name.length : Int) % 256).toNat = _; have := e2.1; omega
      rw [x1, x2] at ha
      have := e1.1
      have := e2.1
      exact ofNat_inj (by omega) (by omega) ha
    obtain ⟨hc, hd⟩ := List.append_inj hb hn
    obtain ⟨he, hf⟩ := List.append_inj hd (by simp [bS])
    have hv := by8_inj e1.2.1 e1.2.2 e2.2.1 e2.2.2 he
    have hw := txt_inj (fun x hx => h1 x (List.mem_cons_of_mem _ hx)) (fun x hx => h2 x (List.mem_cons_of_mem _ hx)) hf
    rw [hw]
    congr 1
    cases e; cases e'
    simp only at hc hv
    rw [hc, hv]

/-! ### may, over -/
theorem over_loop (k : Nat) (l : List T_history_Op) (d : Nat) (hl : l.length ≤ 20) : ∀ (j i : Nat), i ≤ l.length → l.length - i < j → (∀ a (h : a < l.length), a < i → d.testBit a = false → l[a].End < 0) →
    (history_search_over_l1 k l (d : Int) j (i : Int) = some (Flow.go ()) ∧ ∀ a (h : a < l.length), d.testBit a = false → l[a].End < 0) ∨
    (history_search_over_l1 k l (d : Int) j (i : Int) = some (Flow.ret false) ∧ ¬ ∀ a (h : a < l.length), d.testBit a = false → l[a].End < 0)
  | 0, _, _, hj, _ => by omega
  | j + 1, i, hi, hj, hb => by
    by_cases h : i < l.length
    · have e : history_search_over_l1 k l (d : Int) (j + 1) (i : Int) = if d.testBit i = false ∧ l[i].End ≥ 0 then some (Flow.ret false) else history_search_over_l1 k l (d : Int) j ((i + 1 : Nat) : Int) := by
        rw [history_search_over_l1, if_pos (by simpa using h), gtL h]
        simp only [bind_some]
        rw [if_pos (by omega), bit_and d i (by omega), wrN _ (by omega)]
        cases hd : d.testBit i
        · by_cases he : l[i].End ≥ 0 <;> simp [he]
        · simp
      rw [e]
      by_cases hc : d.testBit i = false ∧ l[i].End ≥ 0
      · right
        rw [if_pos hc]
        refine ⟨rfl, fun h' => ?_⟩
        have := h' i h hc.1
        have := hc.2
        omega
      · rw [if_neg hc]
        refine over_loop k l d hl j (i + 1) (by omega) (by omega) fun a ha hai hd => ?_
        by_cases e : a = i
        · subst e
          by_cases hx : l[a].End < 0
          · exact hx
          · exact absurd ⟨hd, by omega⟩ hc
        · exact hb a ha (by omega) hd
    · left
      exact ⟨by rw [history_search_over_l1, if_neg (by simpa using h)], fun a ha => hb a ha (by omega)⟩
theorem over_spec (k : Nat) (l : List T_history_Op) (s : List (T_history_key × Int)) (d : Nat) (hl : l.length ≤ 20) (hk : l.length < k) : ∃ b, history_search_over k l s (d : Int) = some b ∧ (b = true ↔ ∀ o ∈ rem l 0 d, o.End < 0) := by
  have hm : (∀ a (h : a < l.length), d.testBit a = false → l[a].End < 0) ↔ ∀ o ∈ rem l 0 d, o.End < 0 := by
    constructor
    · intro h o ho
      obtain ⟨j, h1, h2⟩ := (rem_mem l 0 d o).1 ho
      obtain ⟨h3, rfl⟩ := List.getElem?_eq_some_iff.1 h1
      exact h j h3 (by simpa using h2)
    · intro h a ha hd
      exact h _ ((rem_mem l 0 d _).2 ⟨a, List.getElem?_eq_getElem ha, by simpa using hd⟩)
  unfold history_search_over
  rcases over_loop k l d hl k 0 (by omega) (by omega) (fun a _ h => by omega) with ⟨h1, h2⟩ | ⟨h1, h2⟩
  · refine ⟨true, ?_, fun _ => hm.1 h2, fun _ => rfl⟩
    rw [show (0 : Int) = ((0 : Nat) : Int) from rfl, h1]; rfl
  · refine ⟨false, ?_, ?_⟩
    · rw [show (0 : Int) = ((0 : Nat) : Int) from rfl, h1]; rfl
    · rw [hm] at h2
      constructor
      · intro h; cases h
      · intro h; exact absurd h h2

theorem may_loop (k : Nat) (l : List T_history_Op) (d n : Nat) (hn : n < l.length) (hl : l.length ≤ 20) : ∀ (j i : Nat), i ≤ l.length → l.length - i < j → (∀ a (h : a < l.length), a < i → d.testBit a = false → a ≠ n → l[a].End < 0 ∨ l[n].Start ≤ l[a].End) →
    (history_search_may_l1 k l (n : Int) (d : Int) j (i : Int) = some (Flow.go ()) ∧ ∀ a (h : a < l.length), d.testBit a = false → a ≠ n → l[a].End < 0 ∨ l[n].Start ≤ l[a].End) ∨
    (history_search_may_l1 k l (n : Int) (d : Int) j (i : Int) = some (Flow.ret false) ∧ ¬ ∀ a (h : a < l.length), d.testBit a = false → a ≠ n → l[a].End < 0 ∨ l[n].Start ≤ l[a].End)
  | 0, _, _, hj, _ => by omega
  | j + 1, i, hi, hj, hb => by
    by_cases h : i < l.length
    · have e : history_search_may_l1 k l (n : Int) (d : Int) (j + 1) (i : Int) = if d.testBit i = false ∧ i ≠ n ∧ l[i].End ≥ 0 ∧ l[i].End < l[n].Start then some (Flow.ret false) else history_search_may_l1 k l (n : Int) (d : Int) j ((i + 1 : Nat) : Int) := by
        rw [history_search_may_l1, if_pos (by simpa using h), gtL h, gtL hn]
        simp only [bind_some]
        rw [if_pos (by omega), bit_and d i (by omega), wrN _ (by omega)]
        cases hd : d.testBit i
        · by_cases hin : i = n
          · subst hin; simp
          · have : ((i : Int) != (n : Int)) = true := by simp; omega
            by_cases he : l[i].End ≥ 0 <;> by_cases he2 : l[i].End < l[n].Start <;> simp [he, he2, this, hin]
        · simp
      rw [e]
      by_cases hc : d.testBit i = false ∧ i ≠ n ∧ l[i].End ≥ 0 ∧ l[i].End < l[n].Start
      · right
        rw [if_pos hc]
        refine ⟨rfl, fun h' => ?_⟩
        have h1 := h' i h hc.1 hc.2.1
        obtain ⟨-, -, h2, h3⟩ := hc
        omega
      · rw [if_neg hc]
        refine may_loop k l d n hn hl j (i + 1) (by omega) (by omega) fun a ha hai hd han => ?_
        by_cases e : a = i
        · subst e
          by_cases hx : l[a].End < 0 ∨ l[n].Start ≤ l[a].End
          · exact hx
          · exact absurd ⟨hd, han, by omega, by omega⟩ hc
        · exact hb a ha (by omega) hd han
    · left
      exact ⟨by rw [history_search_may_l1, if_neg (by simpa using h)], fun a ha => hb a ha (by omega)⟩
theorem may_spec (k : Nat) (l : List T_history_Op) (s : List (T_history_key × Int)) (d n : Nat) (hn : n < l.length) (hl : l.length ≤ 20) (hk : l.length < k) :
    ∃ b, history_search_may k l s (n : Int) (d : Int) = some b ∧ (b = true ↔ ∀ p ∈ rem l 0 (d ||| 2 ^ n), p.End < 0 ∨ l[n].Start ≤ p.End) := by
  have hm : (∀ a (h : a < l.length), d.testBit a = false → a ≠ n → l[a].End < 0 ∨ l[n].Start ≤ l[a].End) ↔ ∀ p ∈ rem l 0 (d ||| 2 ^ n), p.End < 0 ∨ l[n].Start ≤ p.End := by
    constructor
    · intro h o ho
      obtain ⟨j, h1, h2⟩ := (rem_mem l 0 _ o).1 ho
      obtain ⟨h3, rfl⟩ := List.getElem?_eq_some_iff.1 h1
      rw [Nat.zero_add, tb_or] at h2
      simp only [Bool.or_eq_false_iff, decide_eq_false_iff_not] at h2
      exact h j h3 h2.1 (fun e => h2.2 e.symm)
    · intro h a ha hd han
      refine h _ ((rem_mem l 0 _ _).2 ⟨a, List.getElem?_eq_getElem ha, ?_⟩)
      rw [Nat.zero_add, tb_or, hd]
      simp only [Bool.false_or, decide_eq_false_iff_not]
      exact fun e => han e.symm
  unfold history_search_may
  rcases may_loop k l d n hn hl k 0 (by omega) (by omega) (fun a _ h => by omega) with ⟨h1, h2⟩ | ⟨h1, h2⟩
  · refine ⟨true, ?_, by simp only [true_iff]; exact hm.1 h2⟩
    rw [show (0 : Int) = ((0 : Nat) : Int) from rfl, h1]; rfl
  · refine ⟨false, ?_, ?_⟩
    · rw [show (0 : Int) = ((0 : Nat) : Int) from rfl, h1]; rfl
    · rw [hm] at h2
      constructor
      · intro h; cases h
      · intro h; exact absurd h h2

/-! ### the search -/
abbrev Can (l : List T_history_Op) (w : Wd) : Prop := Lin step T_history_Op.End T_history_Op.Start l w
abbrev Seen := List (T_history_key × Int)
def pos (s : Seen) (y : T_history_key) : Prop := (mget s y).getD (0 : Int) > 0
def Bad (l : List T_history_Op) (y : T_history_key) : Prop := ∀ w, Good 100 w → txt w = y.world → ¬ Can (rem l 0 y.done.toNat) w
theorem h_mget_mput : ∀ (m : Seen) (y y' : T_history_key) (v : Int), mget (mput m y v) y' = if y' = y then some v else mget m y'
  | [], y, y', v => by simp [mget, mput]
  | e :: m, y, y', v => by
    rw [mput]
    by_cases h : y = e.1
    · rw [if_pos h, mget, mget]
      by_cases h2 : y' = y
      · rw [if_pos h2, if_pos h2]
      · rw [if_neg h2, if_neg h2, if_neg (by rw [← h]; exact h2)]
    · rw [if_neg h, mget, mget, h_mget_mput m y y' v]
      by_cases h2 : y' = e.1
      · rw [if_pos h2, if_pos h2, if_neg (by rw [h2]; exact fun e => h e.symm)]
      · rw [if_neg h2, if_neg h2]

/-- what the search from (d, w) on answers -/
def Ans (l : List T_history_Op) (d : Nat) (w : Wd) (s : Seen) (r : Option (Bool × Seen)) : Prop :=
  ∃ b s', r = some (b, s') ∧ ((b = true ∧ Can (rem l 0 d) w) ∨ (b = false ∧ ¬ Can (rem l 0 d) w ∧ ∀ y, pos s' y → pos s y ∨ Bad l y))

theorem try_loop (k : Nat) (l : List T_history_Op) (hl : l.length ≤ 20) (hk : 2000 < k) (hok : ∀ o ∈ l, OkOp o) (rc : List T_history_Op → Seen → Int → Wd → Option (Bool × Seen)) (d m : Nat) (w : Wd) (hd : d < 2 ^ 32) (hw : Good m w) (hm : m < 90)
    (hrc : ∀ d' w' s, d' < 2 ^ 32 → Good (m + 1) w' → (rem l 0 d').length + 1 = (rem l 0 d).length → (∀ y, pos s y → (rem l 0 y.done.toNat).length ≤ (rem l 0 d').length → Bad l y) → Ans l d' w' s (rc l s (d' : Int) w')) :
    ∀ (j i : Nat) (s : Seen), i ≤ l.length → l.length - i < j → (∀ y, pos s y → (rem l 0 y.done.toNat).length < (rem l 0 d).length → Bad l y) →
    (∀ a (h : a < l.length), a < i → d.testBit a = false → (∀ p ∈ rem l 0 (d ||| 2 ^ a), p.End < 0 ∨ l[a].Start ≤ p.End) → (step l[a] w).2 = true → ¬ Can (rem l 0 (d ||| 2 ^ a)) (step l[a] w).1) →
    (∃ s', history_search_try_l1 k rc l (d : Int) w j (i : Int) s = some (Flow.ret (true, s')) ∧ Can (rem l 0 d) w) ∨
    (∃ s', history_search_try_l1 k rc l (d : Int) w j (i : Int) s = some (Flow.go s') ∧
      (∀ a (h : a < l.length), d.testBit a = false → (∀ p ∈ rem l 0 (d ||| 2 ^ a), p.End < 0 ∨ l[a].Start ≤ p.End) → (step l[a] w).2 = true → ¬ Can (rem l 0 (d ||| 2 ^ a)) (step l[a] w).1) ∧ ∀ y, pos s' y → pos s y ∨ Bad l y)
  | 0, _, _, _, hj, _, _ => by omega
  | j + 1, i, s, hi, hj, hs, hf => by
    by_cases h : i < l.length
    · have go : ∀ s1, (∀ y, pos s1 y → pos s y ∨ Bad l y) →
          (d.testBit i = false → (∀ p ∈ rem l 0 (d ||| 2 ^ i), p.End < 0 ∨ l[i].Start ≤ p.End) → (step l[i] w).2 = true → ¬ Can (rem l 0 (d ||| 2 ^ i)) (step l[i] w).1) →
          (∃ s', history_search_try_l1 k rc l (d : Int) w j ((i + 1 : Nat) : Int) s1 = some (Flow.ret (true, s')) ∧ Can (rem l 0 d) w) ∨
          (∃ s', history_search_try_l1 k rc l (d : Int) w j ((i + 1 : Nat) : Int) s1 = some (Flow.go s') ∧
            (∀ a (h : a < l.length), d.testBit a = false → (∀ p ∈ rem l 0 (d ||| 2 ^ a), p.End < 0 ∨ l[a].Start ≤ p.End) → (step l[a] w).2 = true → ¬ Can (rem l 0 (d ||| 2 ^ a)) (step l[a] w).1) ∧ ∀ y, pos s' y → pos s y ∨ Bad l y) := by
        intro s1 h1 h2
        have h3 := try_loop k l hl hk hok rc d m w hd hw hm hrc j (i + 1) s1 (by omega) (by omega) (fun y hy hlt => by
          rcases h1 y hy with h1 | h1
          · exact hs y h1 hlt
          · exact h1) (fun a ha hai => by
          by_cases e : a = i
          · subst e; exact h2
          · exact hf a ha (by omega))
        rcases h3 with h3 | ⟨s', h3, h4, h5⟩
        · exact .inl h3
        · refine .inr ⟨s', h3, h4, fun y hy => ?_⟩
          rcases h5 y hy with h5 | h5
          · exact h1 y h5
          · exact .inr h5
      rw [history_search_try_l1, if_pos (by simpa using h), gtL h, wrN _ (by omega)]
      simp only [bind_some]
      rw [if_pos (by omega), bit_and d i (by omega)]
      cases hb : d.testBit i
      · obtain ⟨b, hb1, hb2⟩ := may_spec k l s d i h hl (by omega)
        rw [if_neg (by simp), hb1]
        simp only [bind_some]
        cases b with
        | false =>
          simp only [Bool.not_false, if_true, bind_some]
          refine go s (fun y hy => .inl hy) fun _ hx => absurd (hb2.2 hx) (by simp)
        | true =>
          have hb3 := hb2.1 rfl
          have hlen := rem_len l 0 d i _ (List.getElem?_eq_getElem h) (by simpa using hb)
          rw [Nat.zero_add] at hlen
          simp only [Bool.not_true, Bool.false_eq_true, if_false]
          rw [do_spec k _ w hw.1 (by have := hw.2.2; omega) (by have := hw.2.2; omega)]
          simp only [bind_some]
          by_cases ht : (step l[i] w).2 = true
          · rw [if_pos ht, if_pos (by omega), bit_or d i hd (by omega)]
            obtain ⟨b, s1, h1, h2⟩ := hrc (d ||| 2 ^ i) (step l[i] w).1 s (or_lt hd (by omega)) (hw.step _ (hok _ (List.getElem_mem h))) (by omega) (fun y hy hle => hs y hy (by omega))
            rw [h1]
            simp only [bind_some]
            rcases h2 with ⟨rfl, h2⟩ | ⟨rfl, h2, h3⟩
            · left
              refine ⟨s1, by simp only [if_true, bind_some], Lin.rem_iff.2 (.inr ⟨i, l[i], List.getElem?_eq_getElem h, hb, hb3, ht, h2⟩)⟩
            · simp only [Bool.false_eq_true, if_false, bind_some]
              exact go s1 h3 fun _ _ _ => h2
          · rw [if_neg ht]
            simp only [bind_some, Bool.false_eq_true, if_false]
            exact go s (fun y hy => .inl hy) fun _ _ hx => absurd hx ht
      · rw [if_pos (by simp)]
        simp only [bind_some, if_true]
        refine go s (fun y hy => .inl hy) fun hx => by rw [hb] at hx; cases hx
    · right
      refine ⟨s, by rw [history_search_try_l1, if_neg (by simpa using h)], fun a ha => hf a ha (by omega), fun y hy => .inl hy⟩

theorem try_spec (k : Nat) (l : List T_history_Op) (hl : l.length ≤ 20) (hk : 2000 < k) (hok : ∀ o ∈ l, OkOp o) : ∀ (D d m : Nat) (w : Wd) (s : Seen), d < 2 ^ 32 → Good m w → m + (rem l 0 d).length ≤ 80 → (rem l 0 d).length < D →
    (∀ y, pos s y → (rem l 0 y.done.toNat).length ≤ (rem l 0 d).length → Bad l y) → Ans l d w s (history_search_try_r k D l s (d : Int) w)
  | 0, _, _, _, _, _, _, _, hD, _ => by omega
  | D + 1, d, m, w, s, hd, hw, hm, hD, hs => by
    rw [history_search_try_r]
    unfold history_search_try_b
    obtain ⟨b, hb1, hb2⟩ := over_spec k l s d hl (by omega)
    rw [hb1]
    simp only [bind_some]
    cases b with
    | true => exact ⟨true, s, by simp, .inl ⟨rfl, .over (hb2.1 rfl)⟩⟩
    | false =>
      simp only [Bool.false_eq_true, if_false]
      have hlen := hw.2.2
      rw [text_spec k w hw.2.1 (by omega) (by omega)]
      simp only [bind_some]
      by_cases hp : (mget s (T_history_key.mk (d : Int) (txt w))).getD (0 : Int) > 0
      · rw [if_pos (by simpa using hp)]
        have := hs (T_history_key.mk (d : Int) (txt w)) hp (by simp) w (hw.mono (by omega)) rfl
        exact ⟨false, s, rfl, .inr ⟨rfl, by simpa using this, fun y hy => .inl hy⟩⟩
      · rw [if_neg (by simpa using hp)]
        have hput : ∀ y, pos (mput s (T_history_key.mk (d : Int) (txt w)) 1) y → y = T_history_key.mk (d : Int) (txt w) ∨ pos s y := by
          intro y hy
          unfold pos at hy
          rw [h_mget_mput] at hy
          by_cases e : y = T_history_key.mk (d : Int) (txt w)
          · exact .inl e
          · rw [if_neg e] at hy; exact .inr hy
        have h := try_loop k l hl hk hok (history_search_try_r k D) d m w hd hw (by omega) (fun d' w' s' h1 h2 h3 h4 => try_spec k l hl hk hok D d' (m + 1) w' s' h1 h2 (by omega) (by omega) h4) k 0
          (mput s (T_history_key.mk (d : Int) (txt w)) 1) (by omega) (by omega) (fun y hy hlt => by
            rcases hput y hy with rfl | hy
            · simp at hlt
            · exact hs y hy (by omega)) (fun a _ h => by omega)
        rcases h with ⟨s', h1, h2⟩ | ⟨s', h1, h2, h3⟩
        · rw [show ((0 : Nat) : Int) = 0 from rfl] at h1
          rw [h1]
          exact ⟨true, s', rfl, .inl ⟨rfl, h2⟩⟩
        · rw [show ((0 : Nat) : Int) = 0 from rfl] at h1
          rw [h1]
          have hno : ¬ Can (rem l 0 d) w := by
            intro hc
            rcases Lin.rem_iff.1 hc with hc | ⟨a, o, ha, hc1, hc2, hc3, hc4⟩
            · exact absurd (hb2.2 hc) (by simp)
            · obtain ⟨hal, rfl⟩ := List.getElem?_eq_some_iff.1 ha
              exact h2 a hal hc1 hc2 hc3 hc4
          refine ⟨false, s', rfl, .inr ⟨rfl, hno, fun y hy => ?_⟩⟩
          rcases h3 y hy with hy | hy
          · rcases hput y hy with rfl | hy
            · right
              intro w' hw' he
              have : w' = w := txt_inj hw'.2.1 hw.2.1 he
              subst this
              simpa using hno
            · exact .inl hy
          · exact .inr hy

theorem check_loop (k : Nat) (l : List T_history_Op) (hl : l.length ≤ 20) (h : ∀ o ∈ l, 1 ≤ o.Kind ∧ o.Kind ≤ 5 ∧ o.Name.length ≤ 32 ∧ (o.End < 0 ∨ o.Start ≤ o.End)) : ∀ (j i : Nat), i ≤ l.length → l.length - i < j → history_Check_l1 k l j (i : Int) = some (Flow.go ())
  | 0, _, _, hj => by omega
  | j + 1, i, hi, hj => by
    rw [history_Check_l1]
    by_cases hlt : i < l.length
    · obtain ⟨h1, h2, h3, h4⟩ := h l[i] (List.getElem_mem hlt)
      rw [if_pos (by simpa using hlt), gtL hlt]
      simp only [bind_some]
      rw [if_neg (by simpa using h1), if_neg (by simpa using h2), if_neg (by rw [decide_eq_true_eq]; omega)]
      have : (if decide (l[i].End ≥ 0) = true then some (decide (l[i].End < l[i].Start)) else some false) = some false := by
        by_cases e : l[i].End ≥ 0
        · rw [if_pos (by simpa using e)]
          simp; omega
        · rw [if_neg (by simpa using e)]
      rw [this]
      simp only [bind_some, Bool.false_eq_true, if_false]
      rw [wrN _ (by omega)]
      exact check_loop k l hl h j (i + 1) (by omega) (by omega)
    · rw [if_neg (by simpa using hlt)]

/-- calls that may be checked -/
def Fine (l : List T_history_Op) : Prop := l.length ≤ 20 ∧ ∀ o ∈ l, 1 ≤ o.Kind ∧ o.Kind ≤ 5 ∧ (o.End < 0 ∨ o.Start ≤ o.End) ∧ OkOp o
theorem check_spec (k : Nat) (l : List T_history_Op) (hl : Fine l) (hk : 2000 < k) : ∃ b, history_Check k l = some (b, 0) ∧ (b = true ↔ Can l []) := by
  unfold history_Check
  rw [if_neg (by rw [decide_eq_true_eq]; have := hl.1; omega), show (0 : Int) = ((0 : Nat) : Int) from rfl,
    check_loop k l hl.1 (fun o ho => ⟨(hl.2 o ho).1, (hl.2 o ho).2.1, (hl.2 o ho).2.2.2.1, (hl.2 o ho).2.2.1⟩) k 0 (by omega) (by have := hl.1; omega)]
  simp only [bind_some]
  unfold history_search_try
  have hr : rem l 0 0 = l := rem_zero l 0
  obtain ⟨b, s', h1, h2⟩ := try_spec k l hl.1 hk (fun o ho => (hl.2 o ho).2.2.2) k 0 0 [] [] (by omega) (Good.nil 0) (by rw [hr]; have := hl.1; omega) (by rw [hr]; have := hl.1; omega) (fun y hy => by simp [pos, mget] at hy)
  rw [h1]
  refine ⟨b, rfl, ?_⟩
  rw [hr] at h2
  rcases h2 with ⟨rfl, h2⟩ | ⟨rfl, h2, -⟩
  · simp [h2]
  · simp [h2]
end Go.Proofs.Ytkbhnofclgibfaa
