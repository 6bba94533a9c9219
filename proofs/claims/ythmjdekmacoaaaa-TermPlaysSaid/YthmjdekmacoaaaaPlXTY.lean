/-
  PlX: left and Crash over maps of any size. Own work.
-/
import Derived.Test.YthmjdekmacoaaaaPlCTY
namespace Go.Proofs.Ythmjdekmacoaaaa
open Go.Hx
section
variable (k : Nat) (room u : Int) (x3 : Bool) (x4 : Int)
theorem pick_at (c n : Int) (hn : 1 ≤ n) (hn2 : n ≤ 1000000) : meter_Pick k [c] 0 n = some (c % n) := by
  unfold meter_Pick
  rw [if_neg (by simp), if_neg (by simp)]
  simp only [bind_some]
  rw [if_neg (by simp; omega)]
  have hb := Int.emod_nonneg c (show n ≠ 0 by omega)
  have hb2 := Int.emod_lt_of_pos c (show 0 < n by omega)
  have ht : c.tmod n = if 0 ≤ c ∨ n ∣ c then c % n else c % n - n := by
    rw [Int.tmod_eq_emod]
    split <;> omega
  rw [show gt [c] (0 : Int) = some c from rfl]
  simp only [bind_some]
  rw [if_pos (by omega)]
  by_cases hc : c.tmod n < 0
  · rw [if_pos (by simpa using hc)]
    simp only [bind_some]
    rw [wr (by split at ht <;> omega)]
    congr 1
    split at ht <;> omega
  · rw [if_neg (by simpa using hc)]
    simp only [bind_some]
    congr 1
    split at ht
    · exact ht
    · omega
end
section
variable (k : Nat) (room u : Int)

/-! ### left -/
def begins (f : T_platter_file) : Prop := f.now.there = true ∧ f.safe.s.length < f.now.s.length ∧ f.now.s.take f.safe.s.length = f.safe.s

theorem left_same {f : T_platter_file} (h : f.now = f.safe) (c : Int) : platter_file_left k (some f) c = some f.safe := by
  unfold platter_file_left
  simp only [bind_some]
  rw [if_pos (by simpa using h)]
theorem left_cond {f : T_platter_file} : (if f.now.there = true then (if decide ((f.now.s.length : Int) > (f.safe.s.length : Int)) = true then (Option.bind (sl f.now.s 0 (f.safe.s.length : Int)) fun x7 => some ((sEq x7 f.safe.s))) else some (false)) else some (false)) =
    some (f.now.there && decide (f.safe.s.length < f.now.s.length) && sEq (f.now.s.take f.safe.s.length) f.safe.s) := by
  by_cases h1 : f.now.there = true
  · by_cases h2 : f.safe.s.length < f.now.s.length
    · rw [if_pos h1, if_pos (by simpa using h2), sl0 _ _ (by omega)]
      simp [h1, h2]
    · rw [if_pos h1, if_neg (by simpa using h2)]
      simp [h2]
  · rw [if_neg h1]
    simp [h1]
theorem left_begins {f : T_platter_file} (h : f.now ≠ f.safe) (hb : begins f) (hl : f.now.s.length ≤ 999999) (c : Int) :
    platter_file_left k (some f) c = some (if c % ((f.now.s.length : Int) - f.safe.s.length + 1) = 0 then f.safe else ⟨true, f.now.s.take (f.safe.s.length + (c % ((f.now.s.length : Int) - f.safe.s.length + 1)).toNat)⟩) := by
  obtain ⟨b1, b2, b3⟩ := hb
  unfold platter_file_left
  simp only [bind_some]
  rw [if_neg (by simpa using h), left_cond]
  simp only [bind_some]
  rw [if_pos (by simp [b1, b2, sEq_iff, b3]), wr (n := (f.now.s.length : Int) - f.safe.s.length) (by omega), wr (by omega), pick_at k c _ (by omega) (by omega)]
  simp only [bind_some]
  have p1 := Int.emod_nonneg c (show (f.now.s.length : Int) - f.safe.s.length + 1 ≠ 0 by omega)
  have p2 := Int.emod_lt_of_pos c (show 0 < (f.now.s.length : Int) - f.safe.s.length + 1 by omega)
  by_cases h0 : c % ((f.now.s.length : Int) - f.safe.s.length + 1) = 0
  · rw [if_pos (by simpa using h0), if_pos h0]
  · rw [if_neg (by simpa using h0), if_neg h0, wr (by omega)]
    rw [show (f.safe.s.length : Int) + c % ((f.now.s.length : Int) - f.safe.s.length + 1) = ((f.safe.s.length + (c % ((f.now.s.length : Int) - f.safe.s.length + 1)).toNat : Nat) : Int) by omega, sl0 _ _ (by omega)]
    rfl
theorem left_other {f : T_platter_file} (h : f.now ≠ f.safe) (hb : ¬ begins f) (c : Int) : platter_file_left k (some f) c = some (if c % 2 = 0 then f.safe else f.now) := by
  unfold platter_file_left
  simp only [bind_some]
  rw [if_neg (by simpa using h), left_cond]
  simp only [bind_some]
  have hf : (f.now.there && decide (f.safe.s.length < f.now.s.length) && sEq (f.now.s.take f.safe.s.length) f.safe.s) = false := by
    rw [Bool.eq_false_iff]
    intro hc
    simp only [Bool.and_eq_true, decide_eq_true_eq, sEq_iff] at hc
    exact hb ⟨hc.1.1, hc.1.2, hc.2⟩
  rw [hf, if_neg (by simp), pick_at k c 2 (by omega) (by omega)]
  simp only [bind_some]
  by_cases h0 : c % 2 = 0
  · rw [if_pos (by simpa using h0), if_pos h0]
  · rw [if_neg (by simpa using h0), if_neg h0]
theorem left_total {f : T_platter_file} {L : Nat} (h1 : f.now.s.length ≤ L) (h2 : f.safe.s.length ≤ L) (hL : L ≤ 999999) (c : Int) : ∃ t, platter_file_left k (some f) c = some t ∧ t.s.length ≤ L := by
  by_cases h : f.now = f.safe
  · exact ⟨_, left_same k h c, h2⟩
  · by_cases hb : begins f
    · refine ⟨_, left_begins k h hb (by omega) c, ?_⟩
      split
      · exact h2
      · simp only [List.length_take]; omega
    · refine ⟨_, left_other k h hb c, ?_⟩
      split <;> assumption

/-! ### Crash -/
theorem crash_loop (x4 : Int) (ch : List Int) {B L : Nat} (hL : L ≤ 999999) (ys : List (List UInt8)) (hy : ys.length < 1000000) (hnd : ys.Nodup) : ∀ (j i v : Nat) (m : FM) (u : Int), i ≤ ys.length → ys.length - i < j → v ≤ i → WF B L m →
    (∀ n ∈ ys.drop i, (mget m n).isSome = true) → (∀ n f, mget m n = some (some f) → f.now ≠ f.safe → n ∈ ys.drop i) →
    ∃ M u', platter_Disk_Crash_l1 k room false x4 ch ys j (v : Int) (i : Int) m u = some (M, u') ∧ WF B L M ∧ (∀ n f, mget M n = some (some f) → f.now = f.safe) ∧
      (∀ n f, mget m n = some (some f) → f.now = f.safe → mget M n = some (some f)) ∧ ((∀ n f, mget m n = some (some f) → f.now = f.safe) → M = m ∧ u' = u)
  | 0, i, _, _, _, _, hj, _, _, _, _ => by omega
  | j + 1, i, v, m, u, hi, hj, hv, h, hin, hun => by
    by_cases hlt : i < ys.length
    · have hd := List.drop_eq_getElem_cons hlt
      have hnd2 : ys[i] ∉ ys.drop (i + 1) := by
        have : (ys.drop i).Nodup := hnd.sublist (List.drop_sublist i ys)
        rw [hd] at this
        exact (List.nodup_cons.1 this).1
      obtain ⟨w, hw⟩ := Option.isSome_iff_exists.1 (hin ys[i] (by rw [hd]; exact List.mem_cons_self))
      obtain ⟨hn, f, rfl, l1, l2⟩ := h.el _ _ hw
      rw [platter_Disk_Crash_l1, if_pos (by simpa using hlt), gtL hlt]
      simp only [bind_some, hw, Option.getD_some]
      by_cases hs : f.now = f.safe
      · rw [if_neg (by simpa using hs)]
        simp only [bind_some]
        rw [wrN i (by omega)]
        obtain ⟨M, u', e1, e2, e3, e4, e5⟩ := crash_loop x4 ch hL ys hy hnd j (i + 1) v m u (by omega) (by omega) (by omega) h (fun n hn => hin n (by rw [hd]; exact List.mem_cons_of_mem _ hn)) (fun n f' hf' hne => by
          have := hun n f' hf' hne
          rw [hd] at this
          rcases List.mem_cons.1 this with rfl | h'
          · rw [hw] at hf'
            simp only [Option.some.injEq] at hf'
            exact absurd (hf' ▸ hs) hne
          · exact h')
        exact ⟨M, u', e1, e2, e3, e4, e5⟩
      · rw [if_pos (by simpa using hs)]
        obtain ⟨c, hc⟩ : ∃ c, (if decide ((v : Int) < (ch.length : Int)) = true then (Option.bind (gt ch (v : Int)) fun x12 => some (x12)) else some ((0 : Int))) = some c := by
          by_cases hv2 : v < ch.length
          · exact ⟨ch[v], by rw [if_pos (by simpa using hv2), gtL hv2]; rfl⟩
          · exact ⟨0, by rw [if_neg (by simpa using hv2)]⟩
        obtain ⟨t, ht, htl⟩ := left_total k l1 l2 hL c
        obtain ⟨u1, hu1⟩ := settle_total k room u false x4 hw t
        rw [hc]
        simp only [bind_some, ht, hu1]
        rw [wrN i (by omega), wrN v (by omega)]
        have hwf : WF B L (if t.there = true then mput m ys[i] (some ⟨t, t⟩) else mdel m ys[i]) := by
          split
          · exact h.put_in hw htl htl
          · exact h.del _
        have hmg : ∀ n, mget (if t.there = true then mput m ys[i] (some ⟨t, t⟩) else mdel m ys[i]) n = if n = ys[i] then (if t.there = true then some (some ⟨t, t⟩) else none) else mget m n := fun n => by
          split
          · rw [mget_mput]
          · rw [mget_mdel h.nd]
        generalize (if t.there = true then mput m ys[i] (some ⟨t, t⟩) else mdel m ys[i]) = m1 at hwf hmg
        obtain ⟨M, u', e1, e2, e3, e4, e5⟩ := crash_loop x4 ch hL ys hy hnd j (i + 1) (v + 1) m1 u1 (by omega) (by omega) (by omega) hwf (fun n hn => by
            have hne : n ≠ ys[i] := fun he => hnd2 (he ▸ hn)
            rw [hmg, if_neg hne]
            exact hin n (by rw [hd]; exact List.mem_cons_of_mem _ hn)) (fun n f' hf' hne => by
          rw [hmg] at hf'
          split at hf'
          · split at hf'
            · simp only [Option.some.injEq] at hf'
              subst hf'
              exact absurd rfl hne
            · cases hf'
          · rename_i hne2
            have := hun n f' hf' hne
            rw [hd] at this
            rcases List.mem_cons.1 this with rfl | h'
            · exact absurd rfl hne2
            · exact h')
        refine ⟨M, u', e1, e2, e3, fun n f' hf' hs' => e4 n f' ?_ hs', fun hall => absurd (hall _ _ hw) hs⟩
        rw [hmg, if_neg (fun he => by subst he; rw [hw] at hf'; simp only [Option.some.injEq] at hf'; exact hs (hf' ▸ hs'))]
        exact hf'
    · refine ⟨m, u, by rw [platter_Disk_Crash_l1, if_neg (by simpa using hlt)], h, fun n f hf => ?_, fun n f hf _ => hf, fun _ => ⟨rfl, rfl⟩⟩
      refine Classical.byContradiction fun hne => ?_
      have := hun n f hf hne
      rw [List.drop_eq_nil_of_le (by omega)] at this
      cases this

theorem crash_at (x4 : Int) (ch : List Int) {B L : Nat} (hL : L ≤ 999999) {m : FM} (h : WF B L m) (hk : B < k) (hB : B < 1000000) :
    ∃ u' M, platter_Disk_Crash k room u false x4 m ch = some (u', M) ∧ WF B L M ∧ (∀ n f, mget M n = some (some f) → f.now = f.safe) ∧
      (∀ n f, mget m n = some (some f) → f.now = f.safe → mget M n = some (some f)) ∧ ((∀ n f, mget m n = some (some f) → f.now = f.safe) → M = m ∧ u' = u) := by
  have hl := h.len
  obtain ⟨M, u', e1, e2, e3, e4, e5⟩ := crash_loop k room x4 ch hL (skeys m) (by rw [length_skeys]; omega) (((List.mergeSort_perm _ _).nodup_iff).2 h.nd) k 0 0 m u (by omega) (by rw [length_skeys]; omega) (by omega) h
    (fun n hn => mget_isSome.2 (mem_skeys.1 (by simpa using hn))) (fun n f hf _ => by
      simp only [List.drop_zero]
      exact mem_skeys.2 (mget_isSome.1 (by rw [hf]; rfl)))
  refine ⟨u', M, ?_, e2, e3, e4, e5⟩
  unfold platter_Disk_Crash maps_Keys slices_Sorted
  simp only [bind_some]
  rw [if_pos (h.skok (by omega))]
  simp only [bind_some]
  rw [show (0 : Int) = ((0 : Nat) : Int) from rfl, e1]
  rfl

end
end Go.Proofs.Ythmjdekmacoaaaa
