/- PlatterNames: files that are synced by their names are as safe as those that are synced with all. Conditions: none (every input). Own work. -/
import Derived.Test.YthmjdekmacoaaaaPlSPN
import Derived.Test.YthmjdekmacoaaaaPNR
namespace Go.Proofs.Ythmjdekmacoaaaa
open Go.Hx

theorem cut_at (k : Nat) (s : List UInt8) (n : Nat) : ∃ t, glacierlaw01_Cut k s (n : Int) = some t ∧ t.length ≤ n := by
  unfold glacierlaw01_Cut
  by_cases h : n < s.length
  · rw [if_pos (by simpa using h), sl0 _ _ (by omega)]
    exact ⟨_, rfl, by simp only [List.length_take]; omega⟩
  · rw [if_neg (by simpa using h)]
    exact ⟨_, rfl, by omega⟩
theorem new_at (k : Nat) (n : Nat) : platter_New k (n : Int) = some ((n : Int), 0, false, 0, []) := by
  unfold platter_New meter_Made
  simp only [bind_some]
  rw [show mx2 (n : Int) 0 = (n : Int) from by unfold mx2; rw [if_neg (by omega)]]

theorem names_l1 (k : Nat) (x1 x2 : List (List UInt8)) : ∀ (j i : Nat) (lst : List (List UInt8)) (m : FM), i ≤ 6 → 6 - i < j → lst.length = i → WF i (40 * i) m → W m ≤ 40 * i → Calm m → (∀ n, (mget m n).isSome = true ↔ n ∈ lst) → (∀ n ∈ lst, n ≠ []) →
    ∃ (i' : Nat) (lst' : List (List UInt8)) (m' : FM), glacierlaw04_PlatterNames_l1 k x1 x2 (100000, 0, false, 0, []) (100000, 0, false, 0, []) j lst (i : Int) (W m : Int) 0 m (W m : Int) 0 m = some (Flow.go (lst', (W m' : Int), 0, m', (W m' : Int), 0, m')) ∧
      i' ≤ 6 ∧ lst'.length = i' ∧ WF i' (40 * i') m' ∧ W m' ≤ 40 * i' ∧ Calm m' ∧ (∀ n, (mget m' n).isSome = true ↔ n ∈ lst')
  | 0, _, _, _, _, hj, _, _, _, _, _, _ => by omega
  | j + 1, i, lst, m, hi, hj, hl, hw, hW, hc, hk, hne => by
    rw [glacierlaw04_PlatterNames_l1]
    by_cases h : (i < x1.length ∧ i < x2.length) ∧ i < 6
    · obtain ⟨⟨h1, h2⟩, h3⟩ := h
      obtain ⟨a, ha, hal⟩ := cut_at k x1[i] 4
      obtain ⟨t, ht, htl⟩ := cut_at k x2[i] 40
      have hc4 : glacierlaw01_Cut k x1[i] (4 : Int) = some a := ha
      have hc40 : glacierlaw01_Cut k x2[i] (40 : Int) = some t := ht
      rw [if_pos (by simpa using h1), if_pos (by simpa using h2)]
      simp only [bind_some]
      rw [if_pos (by simp; omega), gtL h1, gtL h2]
      simp only [bind_some, hc4]
      rw [cat_of (by simp only [List.length_cons, List.length_nil]; omega)]
      simp only [bind_some, hc40]
      have hn : [102] ++ a ≠ ([] : List UInt8) := by simp
      have hnl : ([102] ++ a : List UInt8).length ≤ 10 := by simp; omega
      have hat := hw.at ([102] ++ a)
      have hsl : (fileAt m ([102] ++ a)).safe.s.length ≤ (fileAt m ([102] ++ a)).now.s.length := by
        cases hg : mget m ([102] ++ a) with
        | none => rw [fileAt_none hg]; exact Nat.le_refl _
        | some v => obtain ⟨f, rfl⟩ := hw.som _ _ hg; rw [fileAt_some hg]; exact (hc _ f hg).2
      have e1 := W_mput hw.som ([102] ++ a) ⟨⟨true, (fileAt m ([102] ++ a)).now.s ++ t⟩, (fileAt m ([102] ++ a)).safe⟩
      have e2 : wt ⟨⟨true, (fileAt m ([102] ++ a)).now.s ++ t⟩, (fileAt m ([102] ++ a)).safe⟩ = (fileAt m ([102] ++ a)).now.s.length + t.length := by
        unfold wt; simp only [List.length_append]; omega
      have e3 : wt (fileAt m ([102] ++ a)) = (fileAt m ([102] ++ a)).now.s.length := by unfold wt; omega
      have hap := append_ok k 100000 (f := 0) (by omega) hw.som hn (s := t) (by omega) (by omega) (by omega) (by omega)
      rw [hap]
      simp only [bind_some]
      rw [if_neg (by simp)]
      simp only [bind_some]
      rw [if_neg (by simp), if_pos (room_of (by simp; omega) (by omega)), wrN i (by omega)]
      refine names_l1 k x1 x2 j (i + 1) (lst ++ [[102] ++ a]) (mput m ([102] ++ a) _) (by omega) (by omega) (by simp; omega) ?_ (by omega) ?_ (fun n => ?_) (fun n hn' => ?_)
      · exact (hw.mono (Nat.le_refl _) (by omega)).put hnl (by simp only [List.length_append]; omega) (by show (fileAt m ([102] ++ a)).safe.s.length ≤ 40 * (i + 1); omega)
      · intro n f hf
        rw [mget_mput] at hf
        split at hf
        · simp only [Option.some.injEq] at hf
          subst hf
          exact ⟨rfl, by simp only [List.length_append]; omega⟩
        · exact hc n f hf
      · rw [mget_mput, List.mem_append, List.mem_singleton, ← hk n]
        by_cases hh : n = [102] ++ a
        · rw [if_pos hh]; simp [hh]
        · rw [if_neg hh]; simp only [hh, or_false]
      · rcases List.mem_append.1 hn' with h' | h'
        · exact hne n h'
        · rw [List.mem_singleton.1 h']; exact hn
    · refine ⟨i, lst, m, ?_, hi, hl, hw, hW, hc, hk⟩
      have : (if decide ((i : Int) < (x1.length : Int)) = true then (if decide ((i : Int) < (x2.length : Int)) = true then some (decide ((i : Int) < 6)) else some (false)) else some (false)) = some false := by
        by_cases h1 : i < x1.length
        · rw [if_pos (by simpa using h1)]
          by_cases h2 : i < x2.length
          · rw [if_pos (by simpa using h2)]
            have : ¬ i < 6 := fun h3 => h ⟨⟨h1, h2⟩, h3⟩
            congr 1; simp; omega
          · rw [if_neg (by simpa using h2)]
        · rw [if_neg (by simpa using h1)]
      rw [this]
      rfl

theorem names_l2 (k : Nat) (m1 m2 : FM) (u1 u2 : Int) (z3 : List (List UInt8) × Int × Int × FM × Int × Int × FM) (h1 : Som m1) (h2 : Som m2) (he : ∀ n, mget m1 n = mget m2 n) (hth : ∀ n ∈ z3.1, (fileAt m1 n).now.there = true) (hz : z3.1.length < 1000) : ∀ (j i : Nat), i ≤ z3.1.length → z3.1.length - i < j →
    glacierlaw04_PlatterNames_l2 k (100000, 0, false, 0, []) (100000, 0, false, 0, []) (u1, m1) (u2, m2) z3 j (i : Int) 0 0 = some (Flow.go (0, 0))
  | 0, _, _, hj => by omega
  | j + 1, i, hi, hj => by
    rw [glacierlaw04_PlatterNames_l2]
    by_cases h : i < z3.1.length
    · rw [if_pos (by simpa using h), gtL h]
      simp only [bind_some]
      rw [read_at k 100000 u1 (f := 0) (by omega) h1, read_at k 100000 u2 (f := 0) (by omega) h2]
      have hf : fileAt m2 z3.1[i] = fileAt m1 z3.1[i] := by unfold fileAt; rw [he]
      have ht := hth z3.1[i] (List.getElem_mem h)
      rw [hf]
      simp only [bind_some, ht, if_true]
      rw [if_neg (by simp), if_neg (by simp)]
      simp only [bind_some, sEq_self, Bool.not_true]
      rw [if_neg (by simp), wrN i (by omega)]
      exact names_l2 k m1 m2 u1 u2 z3 h1 h2 he hth hz j (i + 1) (by omega) (by omega)
    · rw [if_neg (by simpa using h)]

theorem awake_ok : glacierlaw04_awake 100 = some true := by decide +kernel
theorem new1 (k : Nat) : platter_New k 100000 = some (100000, 0, false, 0, []) := rfl

theorem names_main (k : Nat) (hk0 : 20 < k) (hak : glacierlaw04_awake k = some true) (x1 x2 : List (List UInt8)) (x3 : List Int) : glacierlaw04_PlatterNames k x1 x2 x3 = some true := by
  unfold glacierlaw04_PlatterNames
  rw [hak]
  simp only [bind_some]
  rw [if_neg (by simp), new1]
  simp only [bind_some]
  obtain ⟨i, lst, m, e1, hi, hl, hw, hW, hc, hk⟩ := names_l1 k x1 x2 k 0 [] [] (by omega) (by omega) rfl (WF.nil 0) (by simp [W]) (fun n f h => by cases h) (fun n => by simp [mget]) (by simp)
  rw [show (W ([] : FM) : Int) = 0 from rfl, show ((0 : Nat) : Int) = 0 from rfl] at e1
  rw [e1]
  simp only [bind_some]
  -- the two Syncs
  obtain ⟨ea, ua, fa, Ma, sa, sa0, sa1⟩ := sync_at k 100000 (W m : Int) 0 hw (by omega) (by omega) (names := []) (by simp only [List.length_nil]; omega) (by simp)
  obtain ⟨rfl, rfl⟩ := sa0 (by omega)
  rcases sa1 with ⟨h, _⟩ | ⟨_, wa, ca, qa⟩
  · exact absurd rfl h
  obtain ⟨rfl, _⟩ := qa hc (by omega) (by omega)
  have ca : ∀ n, mget Ma n = sync1 (mget m n) := fun n => by
    rw [ca n]
    by_cases hm : n ∈ ysOf m []
    · rw [if_pos hm]
    · rw [if_neg hm]
      have : mget m n = none := by
        rw [mget_none]
        intro h
        exact hm (by unfold ysOf; rw [if_pos rfl]; exact mem_skeys.2 h)
      rw [this]; rfl
  have hset : ∀ (M : FM), (∀ n, mget M n = sync1 (mget m n)) → ∀ n f, mget M n = some (some f) → f.now = f.safe := fun M hM n f hf => by
    rw [hM n] at hf
    cases hg : mget m n with
    | none => rw [hg] at hf; cases hf
    | some v =>
      obtain ⟨g, rfl⟩ := hw.som n v hg
      rw [hg] at hf
      simp only [sync1, (hc n g hg).1, if_true, Option.some.injEq] at hf
      rw [← hf]
  rw [sa]
  simp only [bind_some]
  rw [if_neg (by simp)]
  have hb : ∃ Mb, (if decide ((lst.length : Int) > 0) = true then (Option.bind (platter_Disk_Sync k 100000 (W m : Int) false 0 m lst) fun y37 => some ((y37.1 != 0), (W m : Int), (0 : Int), Ma, y37.2.1, y37.2.2.1, y37.2.2.2)) else some (false, (W m : Int), (0 : Int), Ma, (W m : Int), (0 : Int), m)) =
      some (false, (W m : Int), (0 : Int), Ma, (W m : Int), (0 : Int), Mb) ∧ WF i (40 * i) Mb ∧ ∀ n, mget Mb n = sync1 (mget m n) := by
    by_cases h0 : 0 < lst.length
    · rw [if_pos (by simpa using h0)]
      obtain ⟨eb, ub, fb, Mb, sb, sb0, sb1⟩ := sync_at k 100000 (W m : Int) 0 hw (by omega) (by omega) (names := lst) (by omega) (by omega)
      obtain ⟨rfl, rfl⟩ := sb0 (by omega)
      rcases sb1 with ⟨h, _⟩ | ⟨_, wb, cb, qb⟩
      · exact absurd rfl h
      obtain ⟨rfl, _⟩ := qb hc (by omega) (by omega)
      refine ⟨Mb, by rw [sb]; rfl, wb, fun n => ?_⟩
      rw [cb n]
      have hy : ysOf m lst = lst := by unfold ysOf; rw [if_neg (by intro h; rw [h] at h0; simp at h0)]
      rw [hy]
      by_cases hm : n ∈ lst
      · rw [if_pos hm]
      · rw [if_neg hm]
        have : mget m n = none := by
          cases hg : mget m n with
          | none => rfl
          | some v => exact absurd ((hk n).1 (by rw [hg]; rfl)) hm
        rw [this]; rfl
    · rw [if_neg (by simpa using h0)]
      refine ⟨m, rfl, hw, fun n => ?_⟩
      have hl0 : lst = [] := List.eq_nil_of_length_eq_zero (by omega)
      have : mget m n = none := by
        cases hg : mget m n with
        | none => rfl
        | some v => have := (hk n).1 (by rw [hg]; rfl); rw [hl0] at this; cases this
      rw [this]; rfl
  obtain ⟨Mb, eb, wb, cb⟩ := hb
  rw [eb]
  simp only [bind_some]
  rw [if_neg (by simp)]
  -- the two crashes
  obtain ⟨u1, M1, k1, _, _, _, k2⟩ := crash_at k 100000 (W m : Int) 0 x3 (by omega) wa (by omega) (by omega)
  obtain ⟨hM1, hu1⟩ := k2 (hset Ma ca)
  rw [hM1, hu1] at k1
  obtain ⟨u2, M2, k3, _, _, _, k4⟩ := crash_at k 100000 (W m : Int) 0 x3 (by omega) wb (by omega) (by omega)
  obtain ⟨hM2, hu2⟩ := k4 (hset Mb cb)
  rw [hM2, hu2] at k3
  rw [k1]
  simp only [bind_some]
  rw [k3]
  simp only [bind_some]
  have e2 := names_l2 k Ma Mb (W m : Int) (W m : Int) (lst, (W m : Int), 0, m, (W m : Int), 0, m) wa.som wb.som (fun n => by rw [ca n, cb n]) (fun n hn => by
    have h1 := (hk n).2 hn
    obtain ⟨v, hv⟩ := Option.isSome_iff_exists.1 h1
    obtain ⟨g, rfl⟩ := hw.som n v hv
    have h2 := ca n
    rw [hv] at h2
    simp only [sync1, (hc n g hv).1, if_true] at h2
    rw [fileAt_some h2]
    exact (hc n g hv).1) (by show lst.length < 1000; omega) k 0 (by omega) (by show lst.length - 0 < k; omega)
  rw [show (0 : Int) = ((0 : Nat) : Int) from rfl] at e2 ⊢
  rw [e2]
  simp only [meter_Meter_Used, bind_some]
  rw [if_pos (by simp), safe_at k 100000 _ _ wa (hset Ma ca)]
  simp only [bind_some]
  rw [if_pos (by simp), safe_at k 100000 _ _ wb (hset Mb cb)]
  rfl

theorem names_plain (x1 x2 : List (List UInt8)) (x3 : List Int) : ∃ k, glacierlaw04_PlatterNames k x1 x2 x3 = some true := ⟨100, names_main 100 (by omega) awake_ok x1 x2 x3⟩

theorem platterNames_holds : Rows.PlatterNamesSaid := platterNames_row fun x0 x1 x2 _ _ _ => names_plain x0 x1 x2
end Go.Proofs.Ythmjdekmacoaaaa
