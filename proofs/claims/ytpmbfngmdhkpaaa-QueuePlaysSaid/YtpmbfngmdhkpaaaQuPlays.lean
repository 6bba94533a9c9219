/- For every input the law QueuePlays returns true, and the input reads as it did before: behind any forty calls the queue answers and holds what the reference does. Conditions: none beyond the given statement. Own work. -/
import Derived.Test.YtpmbfngmdhkpaaaQuBP
import Derived.Test.YtpmbfngmdhkpaaaTPR
namespace Go.Proofs.Ytpmbfngmdhkpaaa
open Go.Hx

/-- how the reference tells one that waits -/
def g (w : T_queue_waiting) : T_glacierref16_Req := ⟨w.Req.ID, w.Req.Blob, w.Req.Vol, w.Req.At, w.passed⟩

theorem rfind_loop (k : Nat) (x : List T_glacierref16_Req) (id : Int) (hl : x.length < 1000000) : ∀ (j i : Nat), i ≤ x.length → x.length - i < j → (∀ a (h : a < x.length), a < i → x[a].ID ≠ id) →
    (∃ b, ∃ h : b < x.length, glacierref16_Find_l1 k x id j (i : Int) = some (Flow.ret (b : Int)) ∧ x[b].ID = id ∧ ∀ a (h : a < x.length), a < b → x[a].ID ≠ id) ∨
    (glacierref16_Find_l1 k x id j (i : Int) = some (Flow.go ()) ∧ ∀ a (h : a < x.length), x[a].ID ≠ id)
  | 0, i, _, hj, _ => by omega
  | j + 1, i, hi, hj, hb => by
    by_cases h : i < x.length
    · have e : glacierref16_Find_l1 k x id (j + 1) (i : Int) = if (x[i].ID == id) = true then some (Flow.ret (i : Int)) else glacierref16_Find_l1 k x id j ((i + 1 : Nat) : Int) := by
        rw [glacierref16_Find_l1, if_pos (by simpa using h), gtL h, wrN i (by omega)]; rfl
      rw [e]
      by_cases hc : x[i].ID = id
      · left
        exact ⟨i, h, by simp [hc], hc, hb⟩
      · rw [if_neg (by simpa using hc)]
        refine rfind_loop k x id hl j (i + 1) (by omega) (by omega) fun a ha hai => ?_
        by_cases haa : a = i
        · subst haa; exact hc
        · exact hb a ha (by omega)
    · right
      refine ⟨by rw [glacierref16_Find_l1, if_neg (by simpa using h)], fun a ha => hb a ha (by omega)⟩

theorem rfind_spec (k : Nat) (x : List T_glacierref16_Req) (id : Int) (hl : x.length < 1000000) (hk : x.length < k) :
    (∃ b, ∃ h : b < x.length, glacierref16_Find k x id = some (b : Int) ∧ x[b].ID = id ∧ ∀ a (h : a < x.length), a < b → x[a].ID ≠ id) ∨
    (glacierref16_Find k x id = some (-1) ∧ ∀ a (h : a < x.length), x[a].ID ≠ id) := by
  rcases rfind_loop k x id hl k 0 (by omega) (by omega) (by omega) with ⟨b, h, h1, h2, h3⟩ | ⟨h1, h2⟩
  · exact .inl ⟨b, h, by simp only [glacierref16_Find]; rw [show (0 : Int) = ((0 : Nat) : Int) from rfl, h1]; rfl, h2, h3⟩
  · exact .inr ⟨by simp only [glacierref16_Find]; rw [show (0 : Int) = ((0 : Nat) : Int) from rfl, h1]; rfl, h2⟩

theorem without_loop (k : Nat) (x : List T_glacierref16_Req) (b : Nat) (hl : x.length < 1000) : ∀ (j i : Nat), i ≤ x.length → x.length - i < j →
    glacierref16_Without_l1 k x (b : Int) j ((x.take i).eraseIdx b) (i : Int) = some (x.eraseIdx b)
  | 0, i, _, hj => by omega
  | j + 1, i, hi, hj => by
    rw [glacierref16_Without_l1]
    by_cases h : i < x.length
    · rw [if_pos (by simpa using h), gtL h, wrN i (by omega)]
      simp only [bind_some]
      have ih := without_loop k x b hl j (i + 1) (by omega) (by omega)
      have ht : x.take (i + 1) = x.take i ++ [x[i]] := List.take_succ_eq_append_getElem h
      by_cases hb : i = b
      · rw [if_neg (by simp [hb])]
        simp only [bind_some]
        subst hb
        have hq : (x.take i ++ [x[i]]).eraseIdx i = x.take i := by
          rw [List.eraseIdx_append_of_length_le (by simp; omega)]
          have h0 : i - (x.take i).length = 0 := by simp; omega
          rw [h0]; simp
        have h2 : (x.take i).eraseIdx i = x.take i := List.eraseIdx_of_length_le (by simp; omega)
        rw [h2]
        rw [ht, hq] at ih
        exact ih
      · rw [if_pos (by simp; omega), if_pos (room_of (by simp [List.length_eraseIdx]; split <;> omega) (by omega))]
        simp only [bind_some]
        rw [ht] at ih
        by_cases hlt : b < i
        · rw [List.eraseIdx_append_of_lt_length (by simp; omega)] at ih
          exact ih
        · rw [List.eraseIdx_of_length_le (by simp; omega)] at ih
          rw [List.eraseIdx_of_length_le (by simp; omega)]
          exact ih
    · rw [if_neg (by simpa using h), List.take_of_length_le (by omega)]

theorem without_spec (k : Nat) (x : List T_glacierref16_Req) (b : Nat) (hl : x.length < 1000) (hk : x.length < k) : glacierref16_Without k x (b : Int) = some (x.eraseIdx b) := by
  unfold glacierref16_Without
  have := without_loop k x b hl k 0 (by omega) (by omega)
  simp only [List.take_zero, List.eraseIdx_nil] at this
  rw [show ((0 : Nat) : Int) = 0 from rfl] at this
  rw [this]; rfl

/-! the least -/
def In (vol f t : Int) (r : T_glacierref16_Req) : Prop := r.Vol = vol ∧ f ≤ r.At ∧ r.At < t

def LB (x : List T_glacierref16_Req) (vol f t : Int) (n : Nat) (v : Int) : Prop :=
  (v = -1 ∧ ∀ a (h : a < x.length), a < n → ¬ In vol f t x[a]) ∨
  (∃ b, ∃ h : b < x.length, v = (b : Int) ∧ b < n ∧ In vol f t x[b] ∧ ∀ a (h' : a < x.length), a < n → In vol f t x[a] → x[b].At ≤ x[a].At ∧ (a < b → x[b].At < x[a].At))

theorem least_loop (k : Nat) (x : List T_glacierref16_Req) (vol f t : Int) (hl : x.length < 1000000) : ∀ (j i : Nat) (v : Int), i ≤ x.length → x.length - i < j → LB x vol f t i v →
    ∃ v', glacierref16_least_l1 k x vol f t j v (i : Int) = some v' ∧ LB x vol f t x.length v'
  | 0, i, v, _, hj, _ => by omega
  | j + 1, i, v, hi, hj, hb => by
    rw [glacierref16_least_l1]
    by_cases h : i < x.length
    · have go : ∀ v2, LB x vol f t (i + 1) v2 → ∃ v', glacierref16_least_l1 k x vol f t j v2 ((i + 1 : Nat) : Int) = some v' ∧ LB x vol f t x.length v' := fun v2 h2 => least_loop k x vol f t hl j (i + 1) v2 (by omega) (by omega) h2
      rw [if_pos (by simpa using h), gtL h, wrN i (by omega)]
      simp only [bind_some]
      have stay : ¬ In vol f t x[i] → LB x vol f t (i + 1) v := fun hn => by
        rcases hb with ⟨rfl, hb⟩ | ⟨b, hbl, rfl, hbi, hbv, hb⟩
        · refine .inl ⟨rfl, fun a ha hai => ?_⟩
          by_cases haa : a = i
          · subst haa; exact hn
          · exact hb a ha (by omega)
        · refine .inr ⟨b, hbl, rfl, by omega, hbv, fun a ha hai hav => ?_⟩
          by_cases haa : a = i
          · subst haa; exact absurd hav hn
          · exact hb a ha (by omega) hav
      by_cases h1 : x[i].Vol = vol
      · rw [if_pos (by simpa using h1)]
        by_cases h2 : f ≤ x[i].At
        · rw [if_pos (by simpa using h2)]
          by_cases h3 : x[i].At < t
          · rw [if_pos (by simpa using h3)]
            have hin : In vol f t x[i] := ⟨h1, h2, h3⟩
            rcases hb with ⟨rfl, hb⟩ | ⟨b, hbl, rfl, hbi, hbv, hb⟩
            · rw [if_pos (by simp)]
              simp only [bind_some]
              rw [if_pos trivial]
              refine go _ (.inr ⟨i, h, rfl, by omega, hin, fun a ha hai hav => ?_⟩)
              by_cases haa : a = i
              · subst haa; exact ⟨Int.le_refl _, fun h => by omega⟩
              · exact absurd hav (hb a ha (by omega))
            · rw [if_neg (by simp), gtL hbl]
              simp only [bind_some]
              by_cases hlt : x[i].At < x[b].At
              · rw [if_pos (by simpa using hlt)]
                simp only [bind_some]
                refine go _ (.inr ⟨i, h, rfl, by omega, hin, fun a ha hai hav => ?_⟩)
                by_cases haa : a = i
                · subst haa; exact ⟨Int.le_refl _, fun h => by omega⟩
                · have := (hb a ha (by omega) hav).1
                  exact ⟨by omega, fun _ => by omega⟩
              · rw [if_neg (by simpa using hlt)]
                simp only [bind_some]
                refine go _ (.inr ⟨b, hbl, rfl, by omega, hbv, fun a ha hai hav => ?_⟩)
                by_cases haa : a = i
                · subst haa; exact ⟨by omega, fun h => by omega⟩
                · exact hb a ha (by omega) hav
          · rw [if_neg (by simpa using h3)]
            simp only [bind_some]
            rw [if_neg (by simp)]
            exact go v (stay fun hin => h3 hin.2.2)
        · rw [if_neg (by simpa using h2)]
          simp only [bind_some]
          rw [if_neg (by simp)]
          exact go v (stay fun hin => h2 hin.2.1)
      · rw [if_neg (by simpa using h1)]
        simp only [bind_some]
        rw [if_neg (by simp)]
        exact go v (stay fun hin => h1 hin.1)
    · refine ⟨v, by rw [if_neg (by simpa using h)], ?_⟩
      have : i = x.length := by omega
      subst this
      exact hb

theorem least_spec (k : Nat) (x : List T_glacierref16_Req) (vol f t : Int) (hl : x.length < 1000000) (hk : x.length < k) : ∃ v, glacierref16_least k x vol f t = some v ∧ LB x vol f t x.length v := by
  obtain ⟨v, e, hb⟩ := least_loop k x vol f t hl k 0 (-1) (by omega) (by omega) (.inl ⟨rfl, fun a _ h => by omega⟩)
  rw [show ((0 : Nat) : Int) = 0 from rfl] at e
  exact ⟨v, by unfold glacierref16_least; rw [e]; rfl, hb⟩

theorem chosen_one {l : List T_queue_waiting} {vol c : Int} {b b' : Nat} (h : Chosen l vol c b) (h' : Chosen l vol c b') : b = b' := by
  obtain ⟨hb, h⟩ := h
  obtain ⟨hb', h'⟩ := h'
  have both : ∀ (v d : Int), (∀ a (h' : a < l.length), l[a].Req.Vol = v → ah l[a].Req.At l[b].Req.At d = false ∧ (a < b → ah l[b].Req.At l[a].Req.At d = true)) →
      (∀ a (h' : a < l.length), l[a].Req.Vol = v → ah l[a].Req.At l[b'].Req.At d = false ∧ (a < b' → ah l[b'].Req.At l[a].Req.At d = true)) → l[b].Req.Vol = v → l[b'].Req.Vol = v → b = b' := by
    intro v d g1 g2 v1 v2
    have p1 := g1 b' hb' v2
    have p2 := g2 b hb v1
    rcases Nat.lt_trichotomy b b' with hlt | rfl | hlt
    · have := p2.2 hlt; rw [p1.1] at this; cases this
    · rfl
    · have := p1.2 hlt; rw [p2.1] at this; cases this
  rcases h with ⟨h1, rfl⟩ | ⟨h1, h2, h3⟩ | ⟨h1, h2, h3, h4⟩ <;> rcases h' with ⟨g1, rfl⟩ | ⟨g1, g2, g3⟩ | ⟨g1, g2, g3, g4⟩
  · rfl
  · omega
  · omega
  · omega
  · exact both _ _ h3 g3 h2 g2
  · exact absurd h2 (g2 b hb)
  · omega
  · exact absurd g2 (h2 b' hb')
  · exact both _ _ h4 g4 h3 g3

theorem rchoose_spec (k : Nat) (l : List T_queue_waiting) (vol c : Int) (hl : l.length < 1000000) (hk : l.length < k) (h0 : 0 < l.length) (_hc : 0 ≤ c ∧ c ≤ 1000000000) (hat : ∀ w ∈ l, 0 ≤ w.Req.At ∧ w.Req.At ≤ 1000000000) :
    ∃ b : Nat, glacierref16_Choose k (l.map g) vol c = some (b : Int) ∧ Chosen l vol c b := by
  have hat' : ∀ a (h : a < l.length), 0 ≤ l[a].Req.At ∧ l[a].Req.At ≤ 1000000000 := fun a h => hat _ (List.getElem_mem h)
  have hx0 : gt (l.map g) 0 = some (g l[0]) := by rw [gt0]; simp [h0]
  unfold glacierref16_Choose
  rw [hx0]
  simp only [bind_some]
  by_cases hp : 8 ≤ l[0].passed
  · rw [if_pos (by simpa [g] using hp)]
    exact ⟨0, rfl, h0, .inl ⟨hp, rfl⟩⟩
  · rw [if_neg (by simpa [g] using hp)]
    obtain ⟨v, e, hb⟩ := least_spec k (l.map g) vol c 2000000000 (by simpa using hl) (by simpa using hk)
    rw [e]
    simp only [bind_some]
    rcases hb with ⟨rfl, hb⟩ | ⟨b, hbl, rfl, hbi, hbv, hb⟩
    · rw [if_neg (by simp)]
      obtain ⟨v, e, hb2⟩ := least_spec k (l.map g) vol 0 c (by simpa using hl) (by simpa using hk)
      rw [e]
      simp only [bind_some]
      have none1 : ∀ a (h : a < l.length), l[a].Req.Vol = vol → l[a].Req.At < c := fun a ha hv => by
        have := hb a (by simpa using ha) (by simpa using ha)
        simp only [In, List.getElem_map, g] at this
        have := hat' a ha
        omega
      rcases hb2 with ⟨rfl, hb2⟩ | ⟨b, hbl, rfl, hbi, hbv, hb2⟩
      · rw [if_neg (by simp)]
        obtain ⟨v, e, hb3⟩ := least_spec k (l.map g) (g l[0]).Vol 0 2000000000 (by simpa using hl) (by simpa using hk)
        rw [e]
        have none2 : ∀ a (h : a < l.length), l[a].Req.Vol ≠ vol := fun a ha hv => by
          have h1 := none1 a ha hv
          have := hb2 a (by simpa using ha) (by simpa using ha)
          simp only [In, List.getElem_map, g] at this
          have := hat' a ha
          omega
        rcases hb3 with ⟨rfl, hb3⟩ | ⟨b, hbl, rfl, hbi, hbv, hb3⟩
        · exfalso
          have := hb3 0 (by simpa using h0) (by simpa using h0)
          simp only [In, List.getElem_map, g] at this
          exact this ⟨trivial, (hat' 0 h0).1, by have := (hat' 0 h0).2; omega⟩
        · have hbl' : b < l.length := by simpa using hbl
          simp only [In, List.getElem_map, g] at hbv hb3
          refine ⟨b, rfl, hbl', .inr (.inr ⟨by omega, none2, hbv.1, fun a ha hv => ?_⟩)⟩
          have h1 := hb3 a (by simpa using ha) (by simpa using ha) ⟨hv, (hat' a ha).1, by have := hat' a ha; omega⟩
          have h2 := hat' a ha
          have h3 := hat' b hbl'
          rw [Bool.eq_false_iff, Ne, ah_iff, ah_iff]
          omega
      · have hbl' : b < l.length := by simpa using hbl
        rw [if_pos (by simp)]
        simp only [In, List.getElem_map, g] at hbv hb2
        refine ⟨b, rfl, hbl', .inr (.inl ⟨by omega, hbv.1, fun a ha hv => ?_⟩)⟩
        have h1 := hb2 a (by simpa using ha) (by simpa using ha) ⟨hv, (hat' a ha).1, none1 a ha hv⟩
        have h2 := none1 a ha hv
        rw [Bool.eq_false_iff, Ne, ah_iff, ah_iff]
        omega
    · have hbl' : b < l.length := by simpa using hbl
      rw [if_pos (by simp)]
      simp only [In, List.getElem_map, g] at hbv hb
      refine ⟨b, rfl, hbl', .inr (.inl ⟨by omega, hbv.1, fun a ha hv => ?_⟩)⟩
      rw [Bool.eq_false_iff, Ne, ah_iff, ah_iff]
      by_cases hca : c ≤ l[a].Req.At
      · have h1 := hb a (by simpa using ha) (by simpa using ha) ⟨hv, hca, by have := hat' a ha; omega⟩
        omega
      · omega

theorem rbump_loop (k b : Nat) (x : List T_glacierref16_Req) (hl : x.length < 1000) : ∀ (j i : Nat), i ≤ x.length → x.length - i < j →
    glacierref16_Next_l1 k x (b : Int) j ((x.take i).mapIdx fun a r => if a < b then { r with Passed := IntKind.i64.wrap (r.Passed + 1) } else r) (i : Int) =
      some (x.mapIdx fun a r => if a < b then { r with Passed := IntKind.i64.wrap (r.Passed + 1) } else r)
  | 0, i, _, hj => by omega
  | j + 1, i, hi, hj => by
    rw [glacierref16_Next_l1]
    by_cases h : i < x.length
    · rw [if_pos (by simpa using h), gtL h, wrN i (by omega)]
      simp only [bind_some]
      have ih := rbump_loop k b x hl j (i + 1) (by omega) (by omega)
      have ht : x.take (i + 1) = x.take i ++ [x[i]] := List.take_succ_eq_append_getElem h
      rw [ht, List.mapIdx_append] at ih
      simp only [List.length_take, Nat.min_eq_left hi, List.mapIdx_cons, List.mapIdx_nil, Nat.zero_add] at ih
      by_cases hb : i < b
      · rw [if_pos (by simpa using hb)]
        simp only [bind_some]
        rw [if_pos (room_of (by simp; omega) (by omega))]
        rw [if_pos hb] at ih
        exact ih
      · rw [if_neg (by simpa using hb)]
        simp only [bind_some]
        rw [if_pos (room_of (by simp; omega) (by omega))]
        rw [if_neg hb] at ih
        exact ih
    · rw [if_neg (by simpa using h), List.take_of_length_le (by omega)]

theorem erase_map {α β : Type} (f : α → β) : ∀ (l : List α) (b : Nat), (l.eraseIdx b).map f = (l.map f).eraseIdx b
  | [], _ => rfl
  | _ :: _, 0 => rfl
  | a :: l, b + 1 => by simp only [List.eraseIdx_cons_succ, List.map_cons, erase_map f l b]

theorem rnext_spec (k : Nat) (l : List T_queue_waiting) (vol c : Int) (hl : l.length < 1000) (hk : l.length < k) (h0 : 0 < l.length) (hc : 0 ≤ c ∧ c ≤ 1000000000) (hat : ∀ w ∈ l, 0 ≤ w.Req.At ∧ w.Req.At ≤ 1000000000) :
    ∃ (b : Nat) (h : b < l.length), glacierref16_Next k (l.map g) vol c = some ((rest l b).map g, g l[b]) ∧ Chosen l vol c b := by
  obtain ⟨b, e, hch⟩ := rchoose_spec k l vol c (by omega) hk h0 hc hat
  obtain ⟨hb, _⟩ := id hch
  refine ⟨b, hb, ?_, hch⟩
  unfold glacierref16_Next
  rw [e]
  simp only [bind_some]
  rw [gtL (by simpa using hb)]
  simp only [bind_some]
  have := rbump_loop k b (l.map g) (by simpa using hl) k 0 (by omega) (by simpa using hk)
  simp only [List.take_zero, List.mapIdx_nil] at this
  rw [show ((0 : Nat) : Int) = 0 from rfl] at this
  rw [this]
  simp only [bind_some]
  rw [without_spec k _ b (by simpa using hl) (by simpa using hk)]
  simp only [bind_some, List.getElem_map]
  congr 2
  rw [rest, erase_map]
  congr 1
  apply List.ext_getElem
  · simp
  · intro a h1 h2
    simp only [List.getElem_map, List.getElem_mapIdx]
    split <;> rfl

theorem list_loop (k : Nat) (l : List T_queue_waiting) (hl : l.length < 1000) : ∀ (j i : Nat), i ≤ l.length → l.length - i < j → queue_Queue_List_l1 k ⟨l⟩ j ((l.take i).map (·.Req)) (i : Int) = some (l.map (·.Req))
  | 0, i, _, hj => by omega
  | j + 1, i, hi, hj => by
    rw [queue_Queue_List_l1]
    by_cases h : i < l.length
    · rw [if_pos (by simpa using h), gtL h, wrN i (by omega)]
      simp only [bind_some]
      rw [if_pos (room_of (by simp; omega) (by omega))]
      have ih := list_loop k l hl j (i + 1) (by omega) (by omega)
      rw [List.take_succ_eq_append_getElem h, List.map_append] at ih
      exact ih
    · rw [if_neg (by simpa using h), List.take_of_length_le (by omega)]

theorem list_spec (k : Nat) (l : List T_queue_waiting) (hl : l.length < 1000) (hk : l.length < k) : queue_Queue_List k ⟨l⟩ = some (l.map (·.Req)) := by
  have := list_loop k l hl k 0 (by omega) (by omega)
  rw [show ((0 : Nat) : Int) = 0 from rfl] at this
  simp only [List.take_zero, List.map_nil] at this
  unfold queue_Queue_List
  rw [this]; rfl

theorem look_loop (l : List T_queue_waiting) (hl : l.length < 1000) : ∀ (j i : Nat), i ≤ l.length → l.length - i < j → glacierlaw16_QueuePlays_l2 100 (l.map (·.Req)) (l.map g, l) j (i : Int) = some (Flow.go ())
  | 0, i, _, hj => by omega
  | j + 1, i, hi, hj => by
    rw [glacierlaw16_QueuePlays_l2]
    by_cases h : i < l.length
    · rw [if_pos (by simpa using h), gtL (by simpa using h), gtL (by simpa using h), wrN i (by omega)]
      simp only [bind_some, List.getElem_map, g, bne_self_eq_false]
      simp only [Bool.false_eq_true, if_false, bind_some]
      exact look_loop l hl j (i + 1) (by omega) (by omega)
    · rw [if_neg (by simpa using h)]

/-- how things stand behind i calls -/
def Fine (i : Nat) (l : List T_queue_waiting) : Prop := l.length ≤ i ∧ ∀ w ∈ l, 0 ≤ w.Req.At ∧ w.Req.At ≤ 1000000000

theorem clip (x : Int) : 0 ≤ mn2 (mx2 x 0) 1000000000 ∧ mn2 (mx2 x 0) 1000000000 ≤ 1000000000 := by
  unfold mn2 mx2; split <;> split <;> omega

theorem both_find (k : Nat) (l : List T_queue_waiting) (id : Int) (hl : l.length < 1000) (hk : l.length < k) :
    (∃ b, ∃ h : b < l.length, glacierref16_Find k (l.map g) id = some (b : Int) ∧ queue_Queue_find k ⟨l⟩ id = some (b : Int) ∧ l[b].Req.ID = id) ∨
    (glacierref16_Find k (l.map g) id = some (-1) ∧ queue_Queue_find k ⟨l⟩ id = some (-1) ∧ ∀ a (h : a < l.length), l[a].Req.ID ≠ id) := by
  rcases rfind_spec k (l.map g) id (by simp; omega) (by simpa using hk) with ⟨b, hb, h1, h2, h3⟩ | ⟨h1, h2⟩ <;>
    rcases find_spec k l id (by omega) hk with ⟨c, hc, g1, g2, g3⟩ | ⟨g1, g2⟩
  · have hb' : b < l.length := by simpa using hb
    simp only [List.getElem_map, g] at h2 h3
    have : b = c := by
      rcases Nat.lt_trichotomy b c with hlt | h | hlt
      · exact absurd h2 (g3 b hb' hlt)
      · exact h
      · exact absurd g2 (h3 c (by simpa using hc) hlt)
    subst this
    exact .inl ⟨b, hb', h1, g1, h2⟩
  · have hb' : b < l.length := by simpa using hb
    simp only [List.getElem_map, g] at h2
    exact absurd h2 (g2 b hb')
  · have := h2 c (by simpa using hc)
    simp only [List.getElem_map, g] at this
    exact absurd g2 this
  · exact .inr ⟨h1, g1, g2⟩

theorem plays_loop (x : List T_glacierlaw16_Act) : ∀ (j i : Nat) (l : List T_queue_waiting), i ≤ 40 → 40 - i < j → Fine i l →
    ∃ l', glacierlaw16_QueuePlays_l1 100 x j (l.map g) (i : Int) l = some (Flow.go l')
  | 0, i, l, _, hj, _ => by omega
  | j + 1, i, l, hi, hj, hf => by
    have hlen := hf.1
    rw [glacierlaw16_QueuePlays_l1]
    by_cases h : i < x.length ∧ i < 40
    · rw [if_pos (by simpa using h.1)]
      simp only [bind_some]
      rw [if_pos (by simp; omega), gtL h.1, wrN i (by omega)]
      simp only [bind_some, glacierlaw16_small]
      -- behind the call
      have next : ∀ l', Fine (i + 1) l' → ∃ l2, (Option.bind (queue_Queue_List 100 (T_queue_Queue.mk l')) fun y32 => (Option.bind (Option.bind (queue_Queue_Len 100 (T_queue_Queue.mk l')) fun y34 => (if (y34 != ((l'.map g).length : Int)) = true then some (true) else some (((y32.length : Int) != ((l'.map g).length : Int))))) fun y33 => (if y33 = true then some (Flow.ret (false)) else (Option.bind (glacierlaw16_QueuePlays_l2 100 y32 (l'.map g, l') 100 (0 : Int)) fun y35 => (match y35 with | Flow.ret r => some (Flow.ret r) | Flow.go _ => (glacierlaw16_QueuePlays_l1 100 x j (l'.map g) ((i + 1 : Nat) : Int) l')))))) = some (Flow.go l2) := by
        intro l' hf'
        have hlen' := hf'.1
        rw [list_spec 100 l' (by omega) (by omega)]
        simp only [bind_some, queue_Queue_Len, List.length_map, bne_self_eq_false]
        simp only [Bool.false_eq_true, if_false, bind_some]
        have e := look_loop l' (by omega) 100 0 (by omega) (by omega)
        rw [show ((0 : Nat) : Int) = 0 from rfl] at e
        rw [e]
        exact plays_loop x j (i + 1) l' (by omega) (by omega) hf'
      by_cases k1 : x[i].Kind = 1
      · rw [if_pos (by simpa using k1)]
        rcases both_find 100 l x[i].R.ID (by omega) (by omega) with ⟨b, hb, e1, _, hid⟩ | ⟨e1, _, hid⟩
        · rw [e1]
          simp only [bind_some]
          rw [add_old 100 l ⟨x[i].R.ID, x[i].R.Blob, mn2 (mx2 x[i].R.Vol 0) 11, mn2 (mx2 x[i].R.At 0) 1000000000⟩ (by omega) (by omega) ⟨b, hb, hid⟩]
          simp only [bind_some]
          rw [if_neg (by simp), if_neg (by simp)]
          exact next l ⟨by omega, hf.2⟩
        · rw [e1]
          simp only [bind_some]
          rw [add_new 100 l ⟨x[i].R.ID, x[i].R.Blob, mn2 (mx2 x[i].R.Vol 0) 11, mn2 (mx2 x[i].R.At 0) 1000000000⟩ (by omega) (by omega) hid]
          simp only [bind_some]
          rw [if_neg (by simp), if_pos (by simp), if_pos (room_of (by simp; omega) (by omega)), if_pos (room_of (by simp; omega) (by omega))]
          simp only [bind_some]
          have := next (l ++ [⟨⟨x[i].R.ID, x[i].R.Blob, mn2 (mx2 x[i].R.Vol 0) 11, mn2 (mx2 x[i].R.At 0) 1000000000⟩, 0⟩]) ⟨by simp; omega, fun w hw => ?_⟩
          · simp only [List.map_append, List.map_cons, List.map_nil, List.nil_append] at this ⊢
            exact this
          · simp only [List.mem_append, List.mem_singleton] at hw
            rcases hw with hw | rfl
            · exact hf.2 w hw
            · exact clip _
      · rw [if_neg (by simpa using k1)]
        by_cases k2 : x[i].Kind = 2
        · rw [if_pos (by simpa using k2)]
          rcases both_find 100 l x[i].N (by omega) (by omega) with ⟨b, hb, e1, e2, hid⟩ | ⟨e1, e2, hid⟩
          · rw [e1]
            simp only [bind_some, queue_Queue_Drop]
            rw [e2]
            simp only [bind_some]
            rw [if_neg (by simp), wrN b (by omega)]
            simp only [slices_Delete]
            rw [delN _ _ hb]
            simp only [bind_some]
            rw [if_neg (by simp), if_pos (by simp), without_spec 100 _ b (by simp; omega) (by simp; omega)]
            simp only [bind_some]
            have := next (l.eraseIdx b) ⟨by simp [List.length_eraseIdx]; split <;> omega, fun w hw => hf.2 w (List.mem_of_mem_eraseIdx hw)⟩
            rw [erase_map] at this
            exact this
          · rw [e1]
            simp only [bind_some, queue_Queue_Drop]
            rw [e2]
            simp only [bind_some]
            rw [if_pos (by simp)]
            simp only [bind_some]
            rw [if_neg (by simp), if_neg (by simp)]
            exact next l ⟨by omega, hf.2⟩
        · rw [if_neg (by simpa using k2)]
          by_cases k3 : x[i].Kind = 3
          · rw [if_pos (by simpa using k3)]
            by_cases h0 : 0 < l.length
            · obtain ⟨b, hb, e1, hc1⟩ := next_spec 100 l x[i].N (mn2 (mx2 x[i].M 0) 1000000000) (by omega) (by omega) h0
              obtain ⟨b', hb', e2, hc2⟩ := rnext_spec 100 l x[i].N (mn2 (mx2 x[i].M 0) 1000000000) (by omega) (by omega) h0 (clip _) hf.2
              have hbb := chosen_one hc2 hc1
              subst hbb
              rw [e1]
              simp only [bind_some]
              rw [if_neg (by rw [List.length_map, show decide ((l.length : Int) > 0) = true from by rw [decide_eq_true_eq]; omega]; simp), if_pos trivial, e2]
              simp only [bind_some, g, bne_self_eq_false]
              simp only [Bool.false_eq_true, if_false, bind_some]
              refine next (rest l b') ⟨by rw [rest_length hb]; omega, fun w hw => ?_⟩
              obtain ⟨a, ha, _, e, _⟩ := rest_mem hw
              rw [e]; exact hf.2 _ (List.getElem_mem ha)
            · have hl : l = [] := List.eq_nil_of_length_eq_zero (by omega)
              subst hl
              rw [next_none]
              exact next [] ⟨by simp, by simp⟩
          · rw [if_neg (by simpa using k3)]
            exact next l ⟨by omega, hf.2⟩
    · have e : (if decide ((i : Int) < (x.length : Int)) = true then some (decide ((i : Int) < 40)) else some false) = some false := by
        by_cases h1 : i < x.length
        · rw [if_pos (by simpa using h1)]; simp; omega
        · rw [if_neg (by simpa using h1)]
      rw [e]
      simp only [bind_some]
      rw [if_neg (by simp)]
      exact ⟨l, rfl⟩

theorem awake100 : glacierlaw16_awake 100 = some true := by decide +kernel

theorem queuePlays_plain (x0 : List T_glacierlaw16_Act) : ∃ k, glacierlaw16_QueuePlays k x0 = some true := by
  refine ⟨100, ?_⟩
  unfold glacierlaw16_QueuePlays
  rw [awake100]
  simp only [bind_some]
  rw [if_neg (by simp)]
  obtain ⟨l, e⟩ := plays_loop x0 100 0 [] (by omega) (by omega) ⟨by simp, by simp⟩
  rw [show ((0 : Nat) : Int) = 0 from rfl] at e
  simp only [List.map_nil] at e
  rw [e]
  rfl

theorem queuePlays_holds : Rows.QueuePlaysSaid := queuePlays_row fun x0 _ => queuePlays_plain x0

end Go.Proofs.Ytpmbfngmdhkpaaa
