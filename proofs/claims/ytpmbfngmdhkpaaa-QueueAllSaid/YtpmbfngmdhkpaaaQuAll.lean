/- For every input the law QueueAll returns true, and the input reads as it did before: requests that come, less those that are dropped, are taken each once, in whatever order. Conditions: none beyond the given statement. Own work. -/
import Derived.Test.YtpmbfngmdhkpaaaQuBA
import Derived.Test.YtpmbfngmdhkpaaaTAR
namespace Go.Proofs.Ytpmbfngmdhkpaaa
open Go.Hx

abbrev ids (l : List T_queue_waiting) : List Int := l.map (·.Req.ID)
abbrev kys (m : List (Int × Bool)) : List Int := m.map (·.1)

theorem mget_mem : ∀ (m : List (Int × Bool)) (k : Int), (∀ e ∈ m, e.2 = true) → (mget m k).getD false = decide (k ∈ kys m)
  | [], _, _ => rfl
  | e :: m, k, h => by
    have ih := mget_mem m k fun e he => h e (List.mem_cons_of_mem _ he)
    by_cases hk : k = e.1
    · simp [mget, hk, h e (by simp)]
    · simp [mget, hk] at ih ⊢; exact ih

theorem mput_old : ∀ (m : List (Int × Bool)) (k : Int), (∀ e ∈ m, e.2 = true) → k ∈ kys m → mput m k true = m
  | [], _, _, h => by simp at h
  | e :: m, k, h, hk => by
    by_cases he : k = e.1
    · simp only [mput, he, if_true]
      have := h e (by simp)
      cases e; simp at this ⊢; exact this
    · simp only [mput, he, if_false]
      rw [mput_old m k (fun e he => h e (List.mem_cons_of_mem _ he)) (by simpa [he] using hk)]

theorem mput_new : ∀ (m : List (Int × Bool)) (k : Int), k ∉ kys m → mput m k true = m ++ [(k, true)]
  | [], _, _ => rfl
  | e :: m, k, hk => by
    simp only [List.map_cons, List.mem_cons, not_or] at hk
    simp only [mput, hk.1, if_false, List.cons_append]
    rw [mput_new m k hk.2]

theorem mdel_keys : ∀ (m : List (Int × Bool)) (k : Int), kys (mdel m k) = (kys m).erase k
  | [], _ => rfl
  | e :: m, k => by
    by_cases he : k = e.1
    · simp [mdel, he]
    · simp only [mdel, he, if_false, List.map_cons]
      rw [List.erase_cons_tail (by simpa using Ne.symm he)]
      exact congrArg _ (mdel_keys m k)

theorem mdel_mem : ∀ (m : List (Int × Bool)) (k : Int) (e : Int × Bool), e ∈ mdel m k → e ∈ m
  | [], _, _, h => h
  | e :: m, k, x, h => by
    by_cases he : k = e.1
    · simp only [mdel, he, if_true] at h; exact List.mem_cons_of_mem _ h
    · simp only [mdel, he, if_false, List.mem_cons] at h
      rcases h with rfl | h
      · simp
      · exact List.mem_cons_of_mem _ (mdel_mem m k x h)

theorem erase_map {α β : Type} (f : α → β) : ∀ (l : List α) (b : Nat), (l.eraseIdx b).map f = (l.map f).eraseIdx b
  | [], _ => rfl
  | _ :: _, 0 => rfl
  | a :: l, b + 1 => by simp only [List.eraseIdx_cons_succ, List.map_cons, erase_map f l b]

theorem erase_perm {α : Type} : ∀ (l : List α) (b : Nat) (h : b < l.length), (l[b] :: l.eraseIdx b).Perm l
  | _ :: _, 0, _ => .refl _
  | a :: l, b + 1, h => by
    have h' : b < l.length := by simpa using h
    simp only [List.getElem_cons_succ, List.eraseIdx_cons_succ]
    exact (List.Perm.swap _ _ _).trans ((erase_perm l b h').cons a)

/-- the map tells the numbers that the queue holds -/
def Told (m : List (Int × Bool)) (l : List T_queue_waiting) : Prop := (kys m).Perm (ids l) ∧ (ids l).Nodup ∧ ∀ e ∈ m, e.2 = true

theorem told_get {m : List (Int × Bool)} {l : List T_queue_waiting} (h : Told m l) (k : Int) : (mget m k).getD false = decide (k ∈ ids l) := by
  rw [mget_mem m k h.2.2]
  have := h.1.mem_iff (a := k)
  simp only [this]

theorem told_len {m : List (Int × Bool)} {l : List T_queue_waiting} (h : Told m l) : m.length = l.length := by
  have := h.1.length_eq
  simpa using this

theorem ids_mem {l : List T_queue_waiting} {k : Int} : k ∈ ids l ↔ ∃ a, ∃ h : a < l.length, l[a].Req.ID = k := by
  simp only [List.mem_map]
  constructor
  · rintro ⟨w, hw, e⟩
    obtain ⟨a, ha, rfl⟩ := List.getElem_of_mem hw
    exact ⟨a, ha, e⟩
  · rintro ⟨a, ha, e⟩
    exact ⟨l[a], by simp, e⟩

theorem told_add {m : List (Int × Bool)} {l : List T_queue_waiting} {r : T_queue_Req} (h : Told m l) (hn : r.ID ∉ ids l) : Told (mput m r.ID true) (l ++ [⟨r, 0⟩]) := by
  have hk : r.ID ∉ kys m := fun hm => hn (h.1.mem_iff.1 hm)
  rw [mput_new m _ hk]
  refine ⟨?_, ?_, ?_⟩
  · simp only [List.map_append, List.map_cons, List.map_nil]
    exact h.1.append_right _
  · simp only [List.map_append, List.map_cons, List.map_nil]
    rw [List.nodup_append]
    exact ⟨h.2.1, by simp, fun a ha b hb => by simp at hb; subst hb; exact fun e => hn (e ▸ ha)⟩
  · intro e he
    simp only [List.mem_append, List.mem_singleton] at he
    rcases he with he | rfl
    · exact h.2.2 e he
    · rfl

theorem told_same {m : List (Int × Bool)} {l : List T_queue_waiting} {k : Int} (h : Told m l) (hn : k ∈ ids l) : mput m k true = m :=
  mput_old m k h.2.2 (h.1.mem_iff.2 hn)

/-- one goes -/
theorem told_del {m : List (Int × Bool)} {l l' : List T_queue_waiting} {b : Nat} (h : Told m l) (hb : b < l.length) (hl : ids l' = (ids l).eraseIdx b) : Told (mdel m l[b].Req.ID) l' := by
  have hp : (l[b].Req.ID :: ids l').Perm (ids l) := by
    rw [hl]
    have := erase_perm (ids l) b (by simpa using hb)
    simpa using this
  refine ⟨?_, ?_, fun e he => h.2.2 e (mdel_mem _ _ _ he)⟩
  · rw [mdel_keys]
    have := (h.1.trans hp.symm).erase l[b].Req.ID
    simpa using this
  · have := hp.nodup_iff.2 h.2.1
    exact (List.nodup_cons.1 this).2

theorem told_not {m : List (Int × Bool)} {l : List T_queue_waiting} {k : Int} (h : Told m l) (hn : k ∉ ids l) : Told (mdel m k) l := by
  have hk : k ∉ kys m := fun hm => hn (h.1.mem_iff.1 hm)
  refine ⟨?_, h.2.1, fun e he => h.2.2 e (mdel_mem _ _ _ he)⟩
  rw [mdel_keys, List.erase_of_not_mem hk]; exact h.1

theorem ids_rest (l : List T_queue_waiting) (b : Nat) : ids (rest l b) = (ids l).eraseIdx b := by
  simp only [ids, rest, erase_map]
  congr 1
  apply List.ext_getElem
  · simp
  · intro a h1 h2
    simp only [List.getElem_map, List.getElem_mapIdx]
    split <;> rfl

theorem all_fill (x : List T_queue_Req) : ∀ (j i : Nat) (m : List (Int × Bool)) (l : List T_queue_waiting), i ≤ 20 → 20 - i < j → l.length ≤ i → Told m l →
    ∃ m' l', glacierlaw16_QueueAll_l1 100 x j (i : Int) m l = some (Flow.go (m', l')) ∧ l'.length ≤ 20 ∧ Told m' l'
  | 0, i, m, l, _, hj, _, _ => by omega
  | j + 1, i, m, l, hi, hj, hl, ht => by
    rw [glacierlaw16_QueueAll_l1]
    by_cases h : i < x.length ∧ i < 20
    · rw [if_pos (by simpa using h.1)]
      simp only [bind_some]
      rw [if_pos (by simp; omega), gtL h.1, wrN i (by omega)]
      simp only [bind_some, glacierlaw16_small]
      rw [told_get ht]
      by_cases hn : x[i].ID ∈ ids l
      · rw [add_old 100 l ⟨x[i].ID, x[i].Blob, mn2 (mx2 x[i].Vol 0) 11, mn2 (mx2 x[i].At 0) 1000000000⟩ (by omega) (by omega) (ids_mem.1 hn)]
        simp only [bind_some]
        rw [if_neg (by simpa using hn), told_same ht hn]
        exact all_fill x j (i + 1) m l (by omega) (by omega) (by omega) ht
      · rw [add_new 100 l ⟨x[i].ID, x[i].Blob, mn2 (mx2 x[i].Vol 0) 11, mn2 (mx2 x[i].At 0) 1000000000⟩ (by omega) (by omega) (fun a ha e => hn (ids_mem.2 ⟨a, ha, e⟩))]
        simp only [bind_some]
        rw [if_neg (by simpa using hn)]
        exact all_fill x j (i + 1) _ _ (by omega) (by omega) (by simp; omega) (told_add (r := ⟨x[i].ID, x[i].Blob, mn2 (mx2 x[i].Vol 0) 11, mn2 (mx2 x[i].At 0) 1000000000⟩) ht hn)
    · have e : (if decide ((i : Int) < (x.length : Int)) = true then some (decide ((i : Int) < 20)) else some false) = some false := by
        by_cases h1 : i < x.length
        · rw [if_pos (by simpa using h1)]; simp; omega
        · rw [if_neg (by simpa using h1)]
      rw [e]
      simp only [bind_some]
      rw [if_neg (by simp)]
      exact ⟨m, l, rfl, by omega, ht⟩

theorem drop_spec (k : Nat) (l : List T_queue_waiting) (id : Int) (hl : l.length < 100000) (hk : l.length < k) :
    (∃ b, ∃ h : b < l.length, queue_Queue_Drop k ⟨l⟩ id = some (true, l.eraseIdx b) ∧ l[b].Req.ID = id) ∨
    (queue_Queue_Drop k ⟨l⟩ id = some (false, l) ∧ ∀ a (h : a < l.length), l[a].Req.ID ≠ id) := by
  unfold queue_Queue_Drop
  rcases find_spec k l id (by omega) hk with ⟨b, h, h1, h2, h3⟩ | ⟨h1, h2⟩
  · left
    refine ⟨b, h, ?_, h2⟩
    rw [h1]
    simp only [bind_some, slices_Delete]
    rw [if_neg (by simp), wrN b (by omega), delN _ _ h]
    rfl
  · right
    refine ⟨?_, h2⟩
    rw [h1]
    simp only [bind_some]
    rw [if_pos (by simp)]

theorem all_drop (x : List Int) : ∀ (j i : Nat) (m : List (Int × Bool)) (l : List T_queue_waiting), i ≤ 10 → 10 - i < j → l.length ≤ 20 → Told m l →
    ∃ m' l', glacierlaw16_QueueAll_l2 100 x j (i : Int) m l = some (Flow.go (m', l')) ∧ l'.length ≤ 20 ∧ Told m' l'
  | 0, i, m, l, _, hj, _, _ => by omega
  | j + 1, i, m, l, hi, hj, hl, ht => by
    rw [glacierlaw16_QueueAll_l2]
    by_cases h : i < x.length ∧ i < 10
    · rw [if_pos (by simpa using h.1)]
      simp only [bind_some]
      rw [if_pos (by simp; omega), gtL h.1, wrN i (by omega)]
      simp only [bind_some]
      rw [told_get ht]
      rcases drop_spec 100 l x[i] (by omega) (by omega) with ⟨b, hb, e, hid⟩ | ⟨e, hid⟩
      · rw [e]
        simp only [bind_some]
        have hin : x[i] ∈ ids l := ids_mem.2 ⟨b, hb, hid⟩
        rw [if_neg (by simpa using hin)]
        refine all_drop x j (i + 1) _ _ (by omega) (by omega) (by simp [List.length_eraseIdx]; split <;> omega) ?_
        rw [← hid]
        exact told_del ht hb (erase_map _ _ _)
      · rw [e]
        simp only [bind_some]
        have hin : x[i] ∉ ids l := fun h => by obtain ⟨a, ha, e⟩ := ids_mem.1 h; exact hid a ha e
        rw [if_neg (by simpa using hin)]
        exact all_drop x j (i + 1) _ _ (by omega) (by omega) hl (told_not ht hin)
    · have e : (if decide ((i : Int) < (x.length : Int)) = true then some (decide ((i : Int) < 10)) else some false) = some false := by
        by_cases h1 : i < x.length
        · rw [if_pos (by simpa using h1)]; simp; omega
        · rw [if_neg (by simpa using h1)]
      rw [e]
      simp only [bind_some]
      rw [if_neg (by simp)]
      exact ⟨m, l, rfl, by omega, ht⟩

theorem mod_in (i n : Nat) (_h : 0 < n) : ((i : Int).tmod (n : Int)) = ((i % n : Nat) : Int) := by
  rw [Int.tmod_eq_emod_of_nonneg (by omega)]; omega

theorem all_take (x : List Int) (z : List (Int × Bool) × List T_queue_waiting) (hz : z.1.length ≤ 20) : ∀ (j i : Nat) (m : List (Int × Bool)) (l : List T_queue_waiting), i + l.length = z.1.length → l.length < j → Told m l →
    glacierlaw16_QueueAll_l3 100 x z j (i : Int) m l = some (Flow.go ([], []))
  | 0, i, m, l, _, hj, _ => by omega
  | j + 1, i, m, l, hi, hj, ht => by
    rw [glacierlaw16_QueueAll_l3]
    by_cases h : i < z.1.length
    · rw [if_pos (by simpa using h), wrN i (by omega)]
      have pick : ∃ v, (if decide ((x.length : Int) > 0) = true then (if (x.length : Int) ≠ 0 then (Option.bind (gt x ((i : Int).tmod (x.length : Int))) fun x13 => some (x13)) else none) else some ((-1) : Int)) = some v := by
        by_cases h : 0 < x.length
        · have hmod : i % x.length < x.length := Nat.mod_lt _ h
          rw [if_pos (by simp; omega), if_pos (by omega), mod_in i _ h, gtL hmod]
          exact ⟨_, rfl⟩
        · rw [if_neg (by rw [decide_eq_true_eq]; omega)]
          exact ⟨_, rfl⟩
      obtain ⟨v, e⟩ := pick
      rw [e]
      simp only [bind_some]
      obtain ⟨b, hb, e, _⟩ := next_spec 100 l v i (by omega) (by omega) (by omega)
      rw [e]
      simp only [bind_some]
      have hin : l[b].Req.ID ∈ ids l := ids_mem.2 ⟨b, hb, rfl⟩
      rw [told_get ht, if_neg (by simp)]
      simp only [bind_some]
      rw [if_neg (by simpa using hin)]
      exact all_take x z hz j (i + 1) _ _ (by rw [rest_length hb]; omega) (by rw [rest_length hb]; omega) (told_del ht hb (ids_rest l b))
    · have hl : l = [] := List.eq_nil_of_length_eq_zero (by omega)
      subst hl
      have hm : m = [] := List.eq_nil_of_length_eq_zero (told_len ht)
      subst hm
      rw [if_neg (by simpa using h)]

theorem awake100 : glacierlaw16_awake 100 = some true := by decide +kernel

theorem queueAll_plain (x0 : List T_queue_Req) (x1 x2 : List Int) : ∃ k, glacierlaw16_QueueAll k x0 x1 x2 = some true := by
  refine ⟨100, ?_⟩
  unfold glacierlaw16_QueueAll
  rw [awake100]
  simp only [bind_some]
  rw [if_neg (by simp)]
  obtain ⟨m, l, e, hl, ht⟩ := all_fill x0 100 0 [] [] (by omega) (by omega) (by simp) ⟨.nil, by simp, by simp⟩
  rw [show ((0 : Nat) : Int) = 0 from rfl] at e
  rw [e]
  simp only [bind_some]
  obtain ⟨m2, l2, e, hl, ht⟩ := all_drop x1 100 0 m l (by omega) (by omega) (by omega) ht
  rw [show ((0 : Nat) : Int) = 0 from rfl] at e
  rw [e]
  simp only [bind_some]
  have e := all_take x2 (m2, l2) (by have := told_len ht; simp only; omega) 100 0 m2 l2 (by have := told_len ht; simp only; omega) (by omega) ht
  rw [show ((0 : Nat) : Int) = 0 from rfl] at e
  rw [e]
  rfl

theorem queueAll_holds : Rows.QueueAllSaid := queueAll_row fun x0 x1 x2 _ _ _ => queueAll_plain x0 x1 x2

end Go.Proofs.Ytpmbfngmdhkpaaa
