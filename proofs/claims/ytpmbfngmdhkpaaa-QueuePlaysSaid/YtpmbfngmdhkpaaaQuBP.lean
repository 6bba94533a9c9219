/-
  QuB: the queue's functions over plain lists: what find, Add, choose, Next and Drop come to. Own work.
-/
import Derived.Test.YtpmbfngmdhkpaaaTP
import Derived.Test.YtpmbfngmdhkpaaaHxP
namespace Go.Proofs.Ytpmbfngmdhkpaaa
open Go.Hx

theorem find_loop (k : Nat) (l : List T_queue_waiting) (id : Int) (hl : l.length < 1000000) : ∀ (j i : Nat), i ≤ l.length → l.length - i < j → (∀ a (h : a < l.length), a < i → l[a].Req.ID ≠ id) →
    (∃ b, ∃ h : b < l.length, slices_IndexFunc_l1 k l id j (i : Int) = some (Flow.ret (b : Int)) ∧ l[b].Req.ID = id ∧ ∀ a (h : a < l.length), a < b → l[a].Req.ID ≠ id) ∨
    (slices_IndexFunc_l1 k l id j (i : Int) = some (Flow.go ()) ∧ ∀ a (h : a < l.length), l[a].Req.ID ≠ id)
  | 0, i, _, hj, _ => by omega
  | j + 1, i, hi, hj, hb => by
    by_cases h : i < l.length
    · have e : slices_IndexFunc_l1 k l id (j + 1) (i : Int) = if (l[i].Req.ID == id) = true then some (Flow.ret (i : Int)) else slices_IndexFunc_l1 k l id j ((i + 1 : Nat) : Int) := by
        rw [slices_IndexFunc_l1, if_pos (by simpa using h), gtL h, wrN i (by omega)]; rfl
      rw [e]
      by_cases hc : l[i].Req.ID = id
      · left
        exact ⟨i, h, by simp [hc], hc, hb⟩
      · rw [if_neg (by simpa using hc)]
        refine find_loop k l id hl j (i + 1) (by omega) (by omega) fun a ha hai => ?_
        by_cases haa : a = i
        · subst haa; exact hc
        · exact hb a ha (by omega)
    · right
      refine ⟨by rw [slices_IndexFunc_l1, if_neg (by simpa using h)], fun a ha => hb a ha (by omega)⟩

theorem find_spec (k : Nat) (l : List T_queue_waiting) (id : Int) (hl : l.length < 1000000) (hk : l.length < k) :
    (∃ b, ∃ h : b < l.length, queue_Queue_find k ⟨l⟩ id = some (b : Int) ∧ l[b].Req.ID = id ∧ ∀ a (h : a < l.length), a < b → l[a].Req.ID ≠ id) ∨
    (queue_Queue_find k ⟨l⟩ id = some (-1) ∧ ∀ a (h : a < l.length), l[a].Req.ID ≠ id) := by
  rcases find_loop k l id hl k 0 (by omega) (by omega) (by omega) with ⟨b, h, h1, h2, h3⟩ | ⟨h1, h2⟩
  · exact .inl ⟨b, h, by simp only [queue_Queue_find, slices_IndexFunc]; rw [show (0 : Int) = ((0 : Nat) : Int) from rfl, h1]; rfl, h2, h3⟩
  · exact .inr ⟨by simp only [queue_Queue_find, slices_IndexFunc]; rw [show (0 : Int) = ((0 : Nat) : Int) from rfl, h1]; rfl, h2⟩

/-- a number that is not there comes behind all -/
theorem add_new (k : Nat) (l : List T_queue_waiting) (r : T_queue_Req) (hl : l.length < 100000) (hk : l.length < k) (hn : ∀ a (h : a < l.length), l[a].Req.ID ≠ r.ID) :
    queue_Queue_Add k ⟨l⟩ r = some (true, l ++ [⟨r, 0⟩]) := by
  unfold queue_Queue_Add
  rcases find_spec k l r.ID (by omega) hk with ⟨b, h, h1, h2, h3⟩ | ⟨h1, h2⟩
  · exact absurd h2 (hn b h)
  · rw [h1]
    simp only [bind_some]
    rw [if_neg (by simp), if_pos (room_of (by simp; omega) (by omega))]
/-- a number that is there: nothing -/
theorem add_old (k : Nat) (l : List T_queue_waiting) (r : T_queue_Req) (hl : l.length < 100000) (hk : l.length < k) (hn : ∃ a, ∃ h : a < l.length, l[a].Req.ID = r.ID) :
    queue_Queue_Add k ⟨l⟩ r = some (false, l) := by
  unfold queue_Queue_Add
  rcases find_spec k l r.ID (by omega) hk with ⟨b, h, h1, h2, h3⟩ | ⟨h1, h2⟩
  · rw [h1]
    simp only [bind_some]
    rw [if_pos (by simp)]
  · obtain ⟨a, h, e⟩ := hn
    exact absurd e (h2 a h)

def ah (x y c : Int) : Bool := if (decide (x ≥ c) != decide (y ≥ c)) = true then decide (x ≥ c) else decide (x < y)
theorem ah_iff (x y c : Int) : ah x y c = true ↔ (c ≤ x ∧ y < c) ∨ ((c ≤ x ↔ c ≤ y) ∧ x < y) := by
  unfold ah
  by_cases h1 : c ≤ x <;> by_cases h2 : c ≤ y <;> simp [h1, h2] <;> omega
theorem ah_eq (k : Nat) (a b : T_queue_waiting) (c : Int) : queue_ahead k a b c = some (ah a.Req.At b.Req.At c) := by
  unfold queue_ahead ah; split <;> rfl
theorem ah_irr (x c : Int) : ah x x c = false := by
  rw [Bool.eq_false_iff, Ne, ah_iff]; omega
/-- if w is ahead of b, and a is not ahead of b: then a is not ahead of w, and w is ahead of a -/
theorem ah_step {w b a c : Int} (h1 : ah w b c = true) (h2 : ah a b c = false) : ah a w c = false ∧ ah w a c = true := by
  rw [Bool.eq_false_iff, Ne, ah_iff] at h2
  rw [ah_iff] at h1
  rw [Bool.eq_false_iff, Ne, ah_iff, ah_iff]
  omega

def Best (l : List T_queue_waiting) (vol c : Int) (n : Nat) (v : Int) : Prop :=
  (v = -1 ∧ ∀ a (h : a < l.length), a < n → l[a].Req.Vol ≠ vol) ∨
  (∃ b, ∃ h : b < l.length, v = (b : Int) ∧ b < n ∧ l[b].Req.Vol = vol ∧ ∀ a (h' : a < l.length), a < n → l[a].Req.Vol = vol → ah l[a].Req.At l[b].Req.At c = false ∧ (a < b → ah l[b].Req.At l[a].Req.At c = true))

theorem best_loop (k : Nat) (l : List T_queue_waiting) (vol c : Int) (hl : l.length < 1000000) : ∀ (j i : Nat) (v : Int), i ≤ l.length → l.length - i < j → Best l vol c i v →
    ∃ v', queue_Queue_choose_l1 k ⟨l⟩ vol c j v (i : Int) = some v' ∧ Best l vol c l.length v'
  | 0, i, v, _, hj, _ => by omega
  | j + 1, i, v, hi, hj, hb => by
    by_cases h : i < l.length
    · have go : ∀ v2, Best l vol c (i + 1) v2 → ∃ v', queue_Queue_choose_l1 k ⟨l⟩ vol c j v2 ((i + 1 : Nat) : Int) = some v' ∧ Best l vol c l.length v' := fun v2 h2 => best_loop k l vol c hl j (i + 1) v2 (by omega) (by omega) h2
      rw [queue_Queue_choose_l1, if_pos (by simpa using h), gtL h, wrN i (by omega)]
      simp only [bind_some]
      by_cases hv : l[i].Req.Vol = vol
      · rw [if_pos (by simpa using hv)]
        rcases hb with ⟨rfl, hb⟩ | ⟨b, hbl, rfl, hbi, hbv, hb⟩
        · rw [if_pos (by simp)]
          simp only [bind_some]
          rw [if_pos trivial]
          refine go _ (.inr ⟨i, h, rfl, by omega, hv, fun a ha hai hav => ?_⟩)
          by_cases haa : a = i
          · subst haa; exact ⟨ah_irr _ _, fun h => by omega⟩
          · exact absurd hav (hb a ha (by omega))
        · rw [if_neg (by simp), gtL hbl]
          simp only [bind_some, ah_eq]
          by_cases hah : ah l[i].Req.At l[b].Req.At c = true
          · rw [if_pos hah]
            simp only [bind_some]
            refine go _ (.inr ⟨i, h, rfl, by omega, hv, fun a ha hai hav => ?_⟩)
            by_cases haa : a = i
            · subst haa; exact ⟨ah_irr _ _, fun h => by omega⟩
            · have := ah_step hah (hb a ha (by omega) hav).1
              exact ⟨this.1, fun _ => this.2⟩
          · rw [if_neg hah]
            simp only [bind_some]
            refine go _ (.inr ⟨b, hbl, rfl, by omega, hbv, fun a ha hai hav => ?_⟩)
            by_cases haa : a = i
            · subst haa; exact ⟨by simpa using hah, fun h => by omega⟩
            · exact hb a ha (by omega) hav
      · rw [if_neg (by simpa using hv)]
        simp only [bind_some]
        rw [if_neg (by simp)]
        simp only [bind_some]
        refine go v ?_
        rcases hb with ⟨rfl, hb⟩ | ⟨b, hbl, rfl, hbi, hbv, hb⟩
        · refine .inl ⟨rfl, fun a ha hai => ?_⟩
          by_cases haa : a = i
          · subst haa; exact hv
          · exact hb a ha (by omega)
        · refine .inr ⟨b, hbl, rfl, by omega, hbv, fun a ha hai hav => ?_⟩
          by_cases haa : a = i
          · subst haa; exact absurd hav hv
          · exact hb a ha (by omega) hav
    · refine ⟨v, by rw [queue_Queue_choose_l1, if_neg (by simpa using h)], ?_⟩
      have : i = l.length := by omega
      subst this
      exact hb

theorem loop2_eq (k : Nat) (l : List T_queue_waiting) (x : T_queue_waiting) (hx : gt l 0 = some x) : ∀ (j : Nat) (v i : Int), queue_Queue_choose_l2 k ⟨l⟩ j v i = queue_Queue_choose_l1 k ⟨l⟩ x.Req.Vol 0 j v i
  | 0, _, _ => rfl
  | j + 1, v, i => by
    rw [queue_Queue_choose_l2, queue_Queue_choose_l1]
    simp only [hx, bind_some, loop2_eq k l x hx j]

/-- what choose comes to -/
def Chosen (l : List T_queue_waiting) (vol c : Int) (b : Nat) : Prop :=
  ∃ h : b < l.length,
    ((8 ≤ (l[0]'(by omega)).passed ∧ b = 0) ∨
     ((l[0]'(by omega)).passed < 8 ∧ l[b].Req.Vol = vol ∧ ∀ a (h' : a < l.length), l[a].Req.Vol = vol → ah l[a].Req.At l[b].Req.At c = false ∧ (a < b → ah l[b].Req.At l[a].Req.At c = true)) ∨
     ((l[0]'(by omega)).passed < 8 ∧ (∀ a (h' : a < l.length), l[a].Req.Vol ≠ vol) ∧ l[b].Req.Vol = (l[0]'(by omega)).Req.Vol ∧
        ∀ a (h' : a < l.length), l[a].Req.Vol = (l[0]'(by omega)).Req.Vol → ah l[a].Req.At l[b].Req.At 0 = false ∧ (a < b → ah l[b].Req.At l[a].Req.At 0 = true)))

theorem choose_spec (k : Nat) (l : List T_queue_waiting) (vol c : Int) (hl : l.length < 1000000) (hk : l.length < k) (h0 : 0 < l.length) :
    ∃ b : Nat, queue_Queue_choose k ⟨l⟩ vol c = some (b : Int) ∧ Chosen l vol c b := by
  have hg : gt l 0 = some l[0] := gtL (i := 0) h0
  unfold queue_Queue_choose
  simp only [hg, bind_some]
  by_cases hp : 8 ≤ l[0].passed
  · rw [if_pos (by simpa using hp)]
    exact ⟨0, rfl, h0, .inl ⟨hp, rfl⟩⟩
  · rw [if_neg (by simpa using hp)]
    obtain ⟨v, e, hb⟩ := best_loop k l vol c hl k 0 (-1) (by omega) (by omega) (.inl ⟨rfl, fun a _ h => by omega⟩)
    rw [show ((0 : Nat) : Int) = 0 from rfl] at e
    rw [e]
    simp only [bind_some]
    rcases hb with ⟨rfl, hb⟩ | ⟨b, hbl, rfl, hbi, hbv, hb⟩
    · rw [if_neg (by simp), loop2_eq k l _ hg]
      obtain ⟨v, e, hb2⟩ := best_loop k l l[0].Req.Vol 0 hl k 0 (-1) (by omega) (by omega) (.inl ⟨rfl, fun a _ h => by omega⟩)
      rw [show ((0 : Nat) : Int) = 0 from rfl] at e
      rw [e]
      rcases hb2 with ⟨rfl, hb2⟩ | ⟨b, hbl, rfl, hbi, hbv, hb2⟩
      · exact absurd rfl (hb2 0 h0 h0)
      · exact ⟨b, rfl, hbl, .inr (.inr ⟨by omega, fun a ha => hb a ha ha, hbv, fun a ha => hb2 a ha ha⟩)⟩
    · rw [if_pos (by simp)]
      exact ⟨b, rfl, hbl, .inr (.inl ⟨by omega, hbv, fun a ha => hb a ha ha⟩)⟩

def up (w : T_queue_waiting) : T_queue_waiting := ⟨w.Req, IntKind.i64.wrap (w.passed + 1)⟩
theorem bump_loop (k b : Nat) : ∀ (j i : Nat) (l : List T_queue_waiting), l.length < 1000000 → b ≤ l.length → i ≤ b → b - i < j →
    queue_Queue_Next_l1 k (b : Int) j (i : Int) l = some (l.mapIdx fun a w => if i ≤ a ∧ a < b then up w else w)
  | 0, i, l, _, _, _, hj => by omega
  | j + 1, i, l, hl, hbl, hi, hj => by
    rw [queue_Queue_Next_l1]
    by_cases h : i < b
    · rw [if_pos (by simpa using h), gtL (show i < l.length by omega), wrN i (by omega)]
      simp only [bind_some]
      rw [bump_loop k b j (i + 1) _ (by simpa using hl) (by simpa using hbl) (by omega) (by omega)]
      congr 1
      apply List.ext_getElem
      · simp
      · intro a h1 h2
        simp only [List.getElem_mapIdx, Int.toNat_natCast, List.getElem_set]
        by_cases haa : i = a
        · subst haa; rw [if_neg (by omega), if_pos (by omega), if_pos (by omega)]; rfl
        · rw [if_neg haa]
          by_cases hh : i + 1 ≤ a ∧ a < b
          · rw [if_pos hh, if_pos (by omega)]
          · rw [if_neg hh, if_neg (by omega)]
    · rw [if_neg (by simpa using h)]
      congr 1
      symm
      apply List.ext_getElem
      · simp
      · intro a h1 h2
        simp only [List.getElem_mapIdx]
        rw [if_neg (by omega)]

def rest (l : List T_queue_waiting) (b : Nat) : List T_queue_waiting := (l.mapIdx fun a w => if a < b then up w else w).eraseIdx b

theorem next_spec (k : Nat) (l : List T_queue_waiting) (vol c : Int) (hl : l.length < 1000000) (hk : l.length < k) (h0 : 0 < l.length) :
    ∃ (b : Nat) (h : b < l.length), queue_Queue_Next k ⟨l⟩ vol c = some (l[b].Req, true, rest l b) ∧ Chosen l vol c b := by
  obtain ⟨b, e, hc⟩ := choose_spec k l vol c hl hk h0
  obtain ⟨hb, _⟩ := id hc
  refine ⟨b, hb, ?_, hc⟩
  unfold queue_Queue_Next
  rw [if_neg (by simp; intro h; simp [h] at h0), e]
  simp only [bind_some]
  rw [gtL hb]
  simp only [bind_some]
  have := bump_loop k b k 0 l hl (by omega) (by omega) (by omega)
  rw [show ((0 : Nat) : Int) = 0 from rfl] at this
  rw [this]
  simp only [bind_some, slices_Delete]
  rw [wrN b (by omega), delN _ _ (by simpa using hb)]
  simp [rest]

theorem next_none (k : Nat) (vol c : Int) : queue_Queue_Next k ⟨[]⟩ vol c = some (⟨0, 0, 0, 0⟩, false, []) := rfl

theorem rest_length {l : List T_queue_waiting} {b : Nat} (h : b < l.length) : (rest l b).length = l.length - 1 := by
  simp [rest, List.length_eraseIdx, h]
theorem rest_mem {l : List T_queue_waiting} {b : Nat} {w : T_queue_waiting} (h : w ∈ rest l b) : ∃ a, ∃ h : a < l.length, a ≠ b ∧ w.Req = l[a].Req ∧ (w = l[a] ∨ w = up l[a]) := by
  unfold rest at h
  rw [List.mem_eraseIdx_iff_getElem] at h
  obtain ⟨a, ha, hab, e⟩ := h
  simp only [List.length_mapIdx] at ha
  simp only [List.getElem_mapIdx] at e
  refine ⟨a, ha, hab, ?_⟩
  split at e
  · subst e; exact ⟨rfl, .inr rfl⟩
  · subst e; exact ⟨rfl, .inl rfl⟩

theorem awake_true : glacierlaw16_awake 10 = some true := by decide +kernel

end Go.Proofs.Ytpmbfngmdhkpaaa
