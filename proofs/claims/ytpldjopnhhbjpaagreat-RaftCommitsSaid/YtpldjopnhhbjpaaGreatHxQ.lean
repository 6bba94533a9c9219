/-
  HxQ: plain lemmas on maps as lists of pairs, and on sorted keys. Own work.
-/
import Derived.Test.YtpldjopnhhbjpaaGreatHxK
import Derived.Test.YtpldjopnhhbjpaaGreatHxP
namespace Go.Hx

section
variable {α β : Type} [DecidableEq α]

theorem mget_nil (k : α) : mget ([] : List (α × β)) k = none := rfl
theorem mget_mput (m : List (α × β)) (k k' : α) (v : β) : mget (mput m k v) k' = if k' = k then some v else mget m k' := by
  induction m with
  | nil => simp [mput, mget]
  | cons e m ih =>
    simp only [mput]
    by_cases h : k = e.1
    · subst h
      simp only [if_true, mget]
      by_cases h2 : k' = e.1 <;> simp [h2]
    · simp only [h, if_false, mget, ih]
      by_cases h2 : k' = e.1
      · have : ¬ k' = k := fun h3 => h (h3.symm.trans h2)
        rw [if_pos h2, if_pos h2, if_neg this]
      · simp [h2]
theorem mget_self (m : List (α × β)) (k : α) (v : β) : mget (mput m k v) k = some v := by rw [mget_mput, if_pos rfl]
theorem mget_mem {m : List (α × β)} {k : α} {v : β} (h : mget m k = some v) : (k, v) ∈ m := by
  induction m with
  | nil => cases h
  | cons e m ih =>
    simp only [mget] at h
    by_cases hk : k = e.1
    · rw [if_pos hk] at h
      obtain rfl := Option.some.inj h
      subst hk
      exact List.mem_cons_self
    · rw [if_neg hk] at h
      exact List.mem_cons_of_mem _ (ih h)
theorem mem_mget {m : List (α × β)} (hn : (m.map (·.1)).Nodup) {p : α × β} (h : p ∈ m) : mget m p.1 = some p.2 := by
  induction m with
  | nil => cases h
  | cons e m ih =>
    simp only [List.map_cons, List.nodup_cons] at hn
    simp only [mget]
    rcases List.mem_cons.1 h with rfl | h
    · rw [if_pos rfl]
    · have : p.1 ≠ e.1 := fun he => hn.1 (he ▸ List.mem_map_of_mem h)
      rw [if_neg this]
      exact ih hn.2 h
theorem mget_none {m : List (α × β)} {k : α} : mget m k = none ↔ k ∉ m.map (·.1) := by
  induction m with
  | nil => simp [mget]
  | cons e m ih =>
    simp only [mget, List.map_cons, List.mem_cons, not_or]
    by_cases h : k = e.1
    · simp [h]
    · simp [h, ih]
theorem mget_isSome {m : List (α × β)} {k : α} : (mget m k).isSome = true ↔ k ∈ m.map (·.1) := by
  have := mget_none (m := m) (k := k)
  cases h : mget m k with
  | none => simp [this.1 h]
  | some v => simp only [Option.isSome_some, true_iff]; exact Classical.byContradiction fun hc => by rw [this.2 hc] at h; cases h
theorem keys_mput (m : List (α × β)) (k : α) (v : β) : (mput m k v).map (·.1) = if k ∈ m.map (·.1) then m.map (·.1) else m.map (·.1) ++ [k] := by
  induction m with
  | nil => simp [mput]
  | cons e m ih =>
    simp only [mput]
    by_cases h : k = e.1
    · simp [h]
    · simp only [h, if_false, List.map_cons, ih, List.mem_cons, false_or]
      split <;> simp
theorem nodup_mput {m : List (α × β)} (hn : (m.map (·.1)).Nodup) (k : α) (v : β) : ((mput m k v).map (·.1)).Nodup := by
  rw [keys_mput]
  split
  · exact hn
  · rename_i h
    rw [List.nodup_append]
    exact ⟨hn, by simp, by simp; exact fun a b hb e => h (by rw [← e]; exact List.mem_map_of_mem hb)⟩
theorem mdel_sub (m : List (α × β)) (k : α) : (mdel m k).Sublist m := by
  induction m with
  | nil => exact .slnil
  | cons e m ih =>
    simp only [mdel]
    split
    · exact List.sublist_cons_self _ _
    · exact ih.cons_cons _
theorem nodup_mdel {m : List (α × β)} (hn : (m.map (·.1)).Nodup) (k : α) : ((mdel m k).map (·.1)).Nodup := hn.sublist ((mdel_sub m k).map _)
theorem mget_mdel {m : List (α × β)} (hn : (m.map (·.1)).Nodup) (k k' : α) : mget (mdel m k) k' = if k' = k then none else mget m k' := by
  induction m with
  | nil => simp [mdel, mget]
  | cons e m ih =>
    simp only [List.map_cons, List.nodup_cons] at hn
    simp only [mdel]
    by_cases h : k = e.1
    · rw [if_pos h]
      simp only [mget]
      by_cases h2 : k' = k
      · rw [if_pos h2, mget_none, h2, h]; exact hn.1
      · rw [if_neg h2, if_neg (h ▸ h2)]
    · rw [if_neg h]
      simp only [mget, ih hn.2]
      by_cases h2 : k' = e.1
      · have : ¬ k' = k := fun h3 => h (h3.symm.trans h2)
        rw [if_pos h2, if_pos h2, if_neg this]
      · simp [h2]
theorem mem_mput {m : List (α × β)} {k : α} {v : β} {p : α × β} (h : p ∈ mput m k v) : p = (k, v) ∨ p ∈ m := by
  induction m with
  | nil => simp only [mput, List.mem_singleton] at h; exact .inl h
  | cons e m ih =>
    simp only [mput] at h
    split at h
    · rcases List.mem_cons.1 h with h | h
      · exact .inl h
      · exact .inr (List.mem_cons_of_mem _ h)
    · rcases List.mem_cons.1 h with h | h
      · exact .inr (h ▸ List.mem_cons_self)
      · exact (ih h).imp id (List.mem_cons_of_mem _)
theorem mem_mdel {m : List (α × β)} {k : α} {p : α × β} (h : p ∈ mdel m k) : p ∈ m := (mdel_sub m k).subset h
theorem length_mput (m : List (α × β)) (k : α) (v : β) : (mput m k v).length = if k ∈ m.map (·.1) then m.length else m.length + 1 := by
  have := congrArg List.length (keys_mput m k v)
  rw [List.length_map] at this
  rw [this]
  split <;> simp
theorem length_mdel (m : List (α × β)) (k : α) : (mdel m k).length ≤ m.length := (mdel_sub m k).length_le

/-- sums over a map -/
def gO {β : Type} (g : β → Nat) : Option β → Nat
  | some x => g x
  | none => 0
theorem sum_mput (g : β → Nat) (m : List (α × β)) (k : α) (v : β) :
    ((mput m k v).map fun p => g p.2).sum + gO g (mget m k) = (m.map fun p => g p.2).sum + g v := by
  induction m with
  | nil => simp [mput, mget, gO]
  | cons e m ih =>
    simp only [mput, mget]
    by_cases h : k = e.1
    · simp only [h, if_true, gO, List.map_cons, List.sum_cons]; omega
    · simp only [h, if_false, List.map_cons, List.sum_cons]; omega
theorem sum_mdel (g : β → Nat) (m : List (α × β)) (k : α) :
    ((mdel m k).map fun p => g p.2).sum + gO g (mget m k) = (m.map fun p => g p.2).sum := by
  induction m with
  | nil => simp [mdel, mget, gO]
  | cons e m ih =>
    simp only [mdel, mget]
    by_cases h : k = e.1
    · simp only [h, if_true, gO, List.map_cons, List.sum_cons]; omega
    · simp only [h, if_false, List.map_cons, List.sum_cons]; omega
theorem le_sum (g : β → Nat) {m : List (α × β)} {k : α} {x : β} (h : mget m k = some x) : g x ≤ (m.map fun p => g p.2).sum := by
  have := sum_mdel g m k
  rw [h] at this
  simp only [gO] at this
  omega
end

theorem mem_skeys {α : Type} {m : List (List UInt8 × α)} {k : List UInt8} : k ∈ skeys m ↔ k ∈ m.map (·.1) := by
  unfold skeys
  exact (List.mergeSort_perm _ _).mem_iff
theorem length_skeys {α : Type} (m : List (List UInt8 × α)) : (skeys m).length = m.length := by
  unfold skeys
  rw [(List.mergeSort_perm _ _).length_eq, List.length_map]
theorem skeys_one {α : Type} (k : List UInt8) (v : α) : skeys [(k, v)] = [k] := by simp [skeys]
theorem skeys_nil {α : Type} : skeys ([] : List (List UInt8 × α)) = [] := by simp [skeys]
theorem skOK_of {α : Type} {m : List (List UInt8 × α)} (h1 : m.length ≤ 1000000000) (h2 : ∀ p ∈ m, p.1.length ≤ 1000000000) : skOK m = true := by
  simp only [skOK, Bool.and_eq_true, decide_eq_true_eq, List.all_eq_true]
  exact ⟨h1, fun p hp => Nat.le_trans (h2 p hp) (by decide)⟩

theorem bytes_toList (x : List UInt8) : (ByteArray.mk x.toArray).toList = x := by rw [ByteArray.toList_eq]
theorem sEq_iff {x y : List UInt8} : sEq x y = true ↔ x = y := by unfold sEq; rw [bytes_toList, bytes_toList, beq_iff_eq]
theorem sEq_self (x : List UInt8) : sEq x x = true := sEq_iff.2 rfl
theorem sEq_ne {x y : List UInt8} (h : x ≠ y) : sEq x y = false := by cases hv : sEq x y with | false => rfl | true => exact absurd (sEq_iff.1 hv) h
theorem cat_of {x y : List UInt8} (h : x.length + y.length ≤ 9223372036854775807) : cat x y = some (x ++ y) := by
  unfold cat; rw [if_pos (by omega)]
theorem sl_of {α : Type} (xs : List α) {lo hi : Int} (h0 : 0 ≤ lo) (h1 : lo ≤ hi) (h2 : hi ≤ (xs.length : Int)) : sl xs lo hi = some ((xs.take hi.toNat).drop lo.toNat) := by
  unfold sl; rw [if_pos ⟨h0, h1, h2⟩]
theorem sl0 {α : Type} (xs : List α) (n : Nat) (h : n ≤ xs.length) : sl xs 0 (n : Int) = some (xs.take n) := by
  rw [sl_of xs (by omega) (by omega) (by omega)]; simp
end Go.Hx
