/- For every input the law QueueFair returns true, and the input reads as it did before: a request ahead of which there are at most five elder ones comes within (so many + 1) times nine Nexts. Conditions: none beyond the given statement. Own work. -/
import Derived.Test.YtpmbfngmdhkpaaaQuBF
import Derived.Test.YtpmbfngmdhkpaaaTFR
namespace Go.Proofs.Ytpmbfngmdhkpaaa
open Go.Hx

theorem add_any (k : Nat) (l : List T_queue_waiting) (r : T_queue_Req) (hl : l.length < 100000) (hk : l.length < k) :
    ∃ y l', queue_Queue_Add k ⟨l⟩ r = some (y, l') ∧ (l' = l ∨ l' = l ++ [⟨r, 0⟩]) := by
  by_cases h : ∃ a, ∃ h : a < l.length, l[a].Req.ID = r.ID
  · exact ⟨_, _, add_old k l r hl hk h, .inl rfl⟩
  · exact ⟨_, _, add_new k l r hl hk (fun a ha e => h ⟨a, ha, e⟩), .inr rfl⟩

theorem fair_fill (x : List T_queue_Req) : ∀ (j i : Nat) (l : List T_queue_waiting), i ≤ 5 → 5 - i < j → l.length ≤ i → (∀ w ∈ l, w.Req.ID < 5 ∧ w.passed = 0) →
    ∃ l', glacierlaw16_QueueFair_l1 100 x j (i : Int) l = some l' ∧ l'.length ≤ 5 ∧ (∀ w ∈ l', w.Req.ID < 5 ∧ w.passed = 0)
  | 0, i, l, _, hj, _, _ => by omega
  | j + 1, i, l, hi, hj, hl, hf => by
    rw [glacierlaw16_QueueFair_l1]
    by_cases h : i < x.length ∧ i < 5
    · rw [if_pos (by simpa using h.1)]
      simp only [bind_some]
      rw [if_pos (by simp; omega), gtL h.1, wrN i (by omega)]
      simp only [bind_some, glacierlaw16_small]
      obtain ⟨y, l', e, hl'⟩ := add_any 100 l ⟨(i : Int), x[i].Blob, mn2 (mx2 x[i].Vol 0) 11, mn2 (mx2 x[i].At 0) 1000000000⟩ (by omega) (by omega)
      rw [e]
      simp only [bind_some]
      refine fair_fill x j (i + 1) l' (by omega) (by omega) ?_ ?_
      · rcases hl' with rfl | rfl
        · omega
        · simp; omega
      · rcases hl' with rfl | rfl
        · exact hf
        · intro w hw
          simp only [List.mem_append, List.mem_singleton] at hw
          rcases hw with hw | rfl
          · exact hf w hw
          · exact ⟨by show (i : Int) < 5; omega, rfl⟩
    · have e : (if decide ((i : Int) < (x.length : Int)) = true then some (decide ((i : Int) < 5)) else some false) = some false := by
        by_cases h1 : i < x.length
        · rw [if_pos (by simpa using h1)]; simp; omega
        · rw [if_neg (by simpa using h1)]
      rw [e]
      simp only [bind_some]
      rw [if_neg (by simp)]
      exact ⟨l, rfl, by omega, hf⟩

def late (l : List T_queue_waiting) : Int := match l with | [] => 0 | w :: _ => if 8 ≤ w.passed then 0 else 8 - w.passed

theorem late_get {l : List T_queue_waiting} (h : 0 < l.length) : late l = if 8 ≤ l[0].passed then (0 : Int) else 8 - l[0].passed := by
  cases l with
  | nil => simp at h
  | cons w l => rfl

theorem late_le {l : List T_queue_waiting} (h : ∀ w ∈ l, 0 ≤ w.passed) : late l ≤ 8 := by
  cases l with
  | nil => simp [late]
  | cons w l =>
    have := h w (by simp)
    simp only [late]
    split <;> omega
theorem late_ge (l : List T_queue_waiting) : 0 ≤ late l := by
  cases l with
  | nil => simp [late]
  | cons w l => simp only [late]; split <;> omega

/-- how things stand behind i Nexts, where n is the bound -/
def Wait (n i : Nat) (l : List T_queue_waiting) : Prop :=
  l.length ≤ 6 + i ∧ (∀ w ∈ l, 0 ≤ w.passed ∧ w.passed ≤ (i : Int)) ∧ ∃ p, ∃ h : p < l.length, l[p].Req.ID = 1000 ∧ (p : Int) * 9 + late l + 1 + i ≤ n

theorem wait_add {n i : Nat} {l l' : List T_queue_waiting} {r : T_queue_Req} (h : Wait n i l) (hl : l' = l ∨ l' = l ++ [⟨r, 0⟩]) : l'.length ≤ 7 + i ∧ (∀ w ∈ l', 0 ≤ w.passed ∧ w.passed ≤ (i : Int)) ∧ ∃ p, ∃ h : p < l'.length, l'[p].Req.ID = 1000 ∧ (p : Int) * 9 + late l' + 1 + i ≤ n := by
  obtain ⟨h1, h2, p, hp, h3, h4⟩ := h
  rcases hl with rfl | rfl
  · exact ⟨by omega, h2, p, hp, h3, h4⟩
  · refine ⟨by simp; omega, fun w hw => ?_, p, by simp; omega, by rw [List.getElem_append_left hp]; exact h3, ?_⟩
    · simp only [List.mem_append, List.mem_singleton] at hw
      rcases hw with hw | rfl
      · exact h2 w hw
      · exact ⟨by simp, by simp⟩
    · have : late (l ++ [⟨r, 0⟩]) = late l := by
        cases l with
        | nil => simp at hp
        | cons => rfl
      rw [this]; exact h4

theorem rest_get {l : List T_queue_waiting} {b : Nat} (hb : b < l.length) {a : Nat} (ha : a < (rest l b).length) :
    (rest l b)[a] = if a < b then up (l[a]'(by rw [rest_length hb] at ha; omega)) else (l[a + 1]'(by rw [rest_length hb] at ha; omega)) := by
  have hl := rest_length hb
  simp only [rest, List.getElem_eraseIdx, List.getElem_mapIdx]
  by_cases h : a < b
  · simp [h]
  · simp only [h, dite_false, if_false]; rw [if_neg (by omega)]

theorem up_passed {w : T_queue_waiting} {m : Int} (h : 0 ≤ w.passed ∧ w.passed ≤ m) (hm : m ≤ 1000000) : (up w).passed = w.passed + 1 := by
  simp only [up]; exact wr (by omega)

theorem wait_next {n i : Nat} (hi : i ≤ 1000) {l : List T_queue_waiting} {b p : Nat} {vol c : Int} (hlen : l.length ≤ 7 + i) (hps : ∀ w ∈ l, 0 ≤ w.passed ∧ w.passed ≤ (i : Int)) (hp : p < l.length) (hid : l[p].Req.ID = 1000)
    (hn : (p : Int) * 9 + late l + 1 + i ≤ n) (hb : b < l.length) (hc : Chosen l vol c b) (hbp : b ≠ p) : Wait n (i + 1) (rest l b) := by
  have hl := rest_length hb
  have h0 : 0 < l.length := by omega
  have hp0 := hps l[0] (by simp)
  rw [late_get h0] at hn
  refine ⟨by omega, fun w hw => ?_, ?_⟩
  · obtain ⟨a, ha, _, _, e⟩ := rest_mem hw
    have := hps l[a] (by simp)
    rcases e with rfl | rfl
    · omega
    · rw [up_passed this (by omega)]; omega
  · have hfirst : b ≠ 0 → l[0].passed < 8 := by
      obtain ⟨_, hc⟩ := hc
      intro h
      rcases hc with ⟨_, hc⟩ | ⟨hc, _⟩ | ⟨hc, _⟩
      · exact absurd hc h
      · exact hc
      · exact hc
    have h1 : 0 < (rest l b).length := by omega
    have hlate : late (rest l b) = if b = 0 then late (l.drop 1) else late l - 1 := by
      rw [late_get h1]
      by_cases hb0 : b = 0
      · subst hb0
        have e0 : (rest l 0)[0] = (l.drop 1)[0]'(by simp; omega) := by rw [rest_get hb h1, if_neg (by omega)]; simp
        rw [if_pos rfl, late_get (by simp; omega), e0]
      · have e0 : (rest l b)[0] = up l[0] := by rw [rest_get hb h1, if_pos (by omega)]
        rw [if_neg hb0, e0, up_passed hp0 (by omega), late_get h0]
        have := hfirst hb0
        split <;> split <;> omega
    by_cases hlt : p < b
    · refine ⟨p, by omega, ?_, ?_⟩
      · rw [rest_get hb, if_pos hlt]; exact hid
      · rw [hlate, if_neg (by omega), late_get h0]; omega
    · refine ⟨p - 1, by omega, ?_, ?_⟩
      · rw [rest_get hb (by omega), if_neg (by omega)]
        simp only [show p - 1 + 1 = p from by omega]; exact hid
      · rw [hlate]
        split
        · have : late (l.drop 1) ≤ 8 := late_le fun w hw => (hps w (List.mem_of_mem_drop hw)).1
          split at hn <;> omega
        · rw [late_get h0]; omega

theorem mod_in (i n : Nat) (_h : 0 < n) : ((i : Int).tmod (n : Int)) = ((i % n : Nat) : Int) := by
  rw [Int.tmod_eq_emod_of_nonneg (by omega)]; omega

theorem fair_take (x3 : List T_queue_Req) (x4 x5 : List Int) (m : Nat) (hm : m ≤ 5) : ∀ (j i : Nat) (l : List T_queue_waiting), i ≤ (m + 1) * 9 → (m + 1) * 9 - i < j → Wait ((m + 1) * 9) i l →
    glacierlaw16_QueueFair_l2 100 x3 x4 x5 (m : Int) j (i : Int) l = some (Flow.ret true)
  | 0, i, l, _, hj, _ => by omega
  | j + 1, i, l, hi, hj, hw => by
    rw [glacierlaw16_QueueFair_l2]
    have hb : IntKind.i64.wrap (IntKind.i64.wrap ((m : Int) + 1) * 9) = ((m + 1) * 9 : Nat) := by
      rw [wr (n := (m : Int) + 1) (by omega), wr (by omega)]; omega
    have hlt : i < (m + 1) * 9 := by
      obtain ⟨_, _, p, _, _, h4⟩ := hw
      have := late_ge l
      omega
    rw [hb, if_pos (by simp; omega)]
    -- another one comes behind
    have hadd : ∃ l', (if decide ((x3.length : Int) > 0) = true then (if (x3.length : Int) ≠ 0 then (Option.bind (gt x3 ((i : Int).tmod (x3.length : Int))) fun x11 => (Option.bind (glacierlaw16_small 100 x11) fun y26 => (Option.bind (queue_Queue_Add 100 (T_queue_Queue.mk l) (T_queue_Req.mk (IntKind.i64.wrap (2000 + (i : Int))) y26.Blob y26.Vol y26.At)) fun y27 => some (y27.2)))) else none) else some (l)) = some l' ∧
        l'.length ≤ 7 + i ∧ (∀ w ∈ l', 0 ≤ w.passed ∧ w.passed ≤ (i : Int)) ∧ ∃ p, ∃ h : p < l'.length, l'[p].Req.ID = 1000 ∧ (p : Int) * 9 + late l' + 1 + i ≤ ((m + 1) * 9 : Nat) := by
      by_cases h : 0 < x3.length
      · have hmod : i % x3.length < x3.length := Nat.mod_lt _ h
        rw [if_pos (by simp; omega), if_pos (by omega), mod_in i _ h, gtL hmod]
        simp only [bind_some, glacierlaw16_small]
        obtain ⟨y, l', e, hl'⟩ := add_any 100 l ⟨IntKind.i64.wrap (2000 + (i : Int)), x3[i % x3.length].Blob, mn2 (mx2 x3[i % x3.length].Vol 0) 11, mn2 (mx2 x3[i % x3.length].At 0) 1000000000⟩ (by have := hw.1; omega) (by have := hw.1; omega)
        rw [e]
        exact ⟨l', rfl, wait_add hw hl'⟩
      · rw [if_neg (by rw [decide_eq_true_eq]; omega)]
        exact ⟨l, rfl, wait_add (r := ⟨0, 0, 0, 0⟩) hw (.inl rfl)⟩
    obtain ⟨l', e1, w1, w2, p, hp, w3, w4⟩ := hadd
    rw [e1]
    simp only [bind_some]
    have pick : ∀ xs : List Int, ∃ v, (if decide ((xs.length : Int) > 0) = true then (if (xs.length : Int) ≠ 0 then (Option.bind (gt xs ((i : Int).tmod (xs.length : Int))) fun x12 => some (x12)) else none) else some ((0 : Int))) = some v := by
      intro xs
      by_cases h : 0 < xs.length
      · have hmod : i % xs.length < xs.length := Nat.mod_lt _ h
        rw [if_pos (by simp; omega), if_pos (by omega), mod_in i _ h, gtL hmod]
        exact ⟨_, rfl⟩
      · rw [if_neg (by rw [decide_eq_true_eq]; omega)]
        exact ⟨_, rfl⟩
    obtain ⟨v4, e4⟩ := pick x4
    obtain ⟨v5, e5⟩ := pick x5
    rw [e4]
    simp only [bind_some]
    rw [e5]
    simp only [bind_some]
    obtain ⟨b, hb, e, hc⟩ := next_spec 100 l' v4 v5 (by omega) (by omega) (by omega)
    rw [e]
    simp only [bind_some]
    rw [if_neg (by simp)]
    by_cases hid : l'[b].Req.ID = 1000
    · rw [if_pos (by simpa using hid)]
    · rw [if_neg (by simpa using hid), wrN i (by omega)]
      refine fair_take x3 x4 x5 m hm j (i + 1) _ (by omega) (by omega) ?_
      exact wait_next (by omega) w1 w2 hp w3 w4 hb hc (fun h => hid (by subst h; exact w3))

theorem awake100 : glacierlaw16_awake 100 = some true := by decide +kernel

theorem queueFair_plain (x0 : List T_queue_Req) (x1 : T_queue_Req) (x2 : List T_queue_Req) (x3 x4 : List Int) : ∃ k, glacierlaw16_QueueFair k x0 x1 x2 x3 x4 = some true := by
  refine ⟨100, ?_⟩
  unfold glacierlaw16_QueueFair
  rw [awake100]
  simp only [bind_some]
  rw [if_neg (by simp)]
  obtain ⟨l, e, hl, hf⟩ := fair_fill x0 100 0 [] (by omega) (by omega) (by simp) (fun w h => by cases h)
  rw [show ((0 : Nat) : Int) = 0 from rfl] at e
  rw [e]
  simp only [bind_some, queue_Queue_Len, glacierlaw16_small]
  rw [add_new 100 l _ (by omega) (by omega) (fun a ha => by have := (hf l[a] (by simp)).1; show l[a].Req.ID ≠ 1000; omega)]
  simp only [bind_some]
  have := fair_take x2 x3 x4 l.length hl 100 0 (l ++ [⟨⟨1000, x1.Blob, mn2 (mx2 x1.Vol 0) 11, mn2 (mx2 x1.At 0) 1000000000⟩, 0⟩]) (by omega) (by omega) ?_
  · rw [show ((0 : Nat) : Int) = 0 from rfl] at this
    rw [this]; rfl
  · have hz : ∀ w ∈ l ++ [(⟨⟨1000, x1.Blob, mn2 (mx2 x1.Vol 0) 11, mn2 (mx2 x1.At 0) 1000000000⟩, 0⟩ : T_queue_waiting)], w.passed = 0 := by
      intro w hw
      simp only [List.mem_append, List.mem_singleton] at hw
      rcases hw with hw | rfl
      · exact (hf w hw).2
      · rfl
    refine ⟨by simp; omega, fun w hw => by rw [hz w hw]; simp, l.length, by simp, by simp, ?_⟩
    rw [late_get (by simp), hz _ (by simp)]
    simp
    omega

theorem queueFair_holds : Rows.QueueFairSaid := queueFair_row fun x0 x1 x2 x3 x4 _ _ _ _ _ => queueFair_plain x0 x1 x2 x3 x4

end Go.Proofs.Ytpmbfngmdhkpaaa
