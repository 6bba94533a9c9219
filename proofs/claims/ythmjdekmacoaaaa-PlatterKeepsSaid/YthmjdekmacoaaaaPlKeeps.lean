/- PlatterKeeps: a file that was synced is there behind any crash, whatever is done to others, and fails, since. Conditions: none (every input). Own work. -/
import Derived.Test.YthmjdekmacoaaaaPlSPK
import Derived.Test.YthmjdekmacoaaaaPKR
namespace Go.Proofs.Ythmjdekmacoaaaa
open Go.Hx

theorem awake_ok : glacierlaw04_awake 100 = some true := by decide +kernel
theorem new1 (k : Nat) : platter_New k 100000 = some (100000, 0, false, 0, []) := rfl
theorem cut_at (k : Nat) (s : List UInt8) (n : Nat) : ∃ t, glacierlaw01_Cut k s (n : Int) = some t ∧ t.length ≤ n := by
  unfold glacierlaw01_Cut
  by_cases h : n < s.length
  · rw [if_pos (by simpa using h), sl0 _ _ (by omega)]
    exact ⟨_, rfl, by simp only [List.length_take]; omega⟩
  · rw [if_neg (by simpa using h)]
    exact ⟨_, rfl, by omega⟩

theorem remove_total (k : Nat) (hk : 2 < k) (room u f : Int) {m : FM} (h : Som m) (n : List UInt8) :
    ∃ e u' f' M, platter_Disk_Remove k room u false f m [n] = some (e, u', f', M) ∧ (M = m ∨ M = mput m n (some ⟨⟨false, []⟩, (fileAt m n).safe⟩)) := by
  obtain ⟨j, hj⟩ : ∃ j, k = j + 1 + 1 := ⟨k - 2, by omega⟩
  unfold platter_Disk_Remove
  obtain ⟨e, f', he⟩ := try_total k room u f m
  rw [he]
  simp only [bind_some]
  by_cases h0 : e = 0
  · rw [if_neg (by simp [h0])]
    have l1 : (∃ r, platter_Disk_Remove_l1 k room u false m [n] (e, f') k 0 = some (Flow.ret r) ∧ r.2.2.2 = m) ∨ platter_Disk_Remove_l1 k room u false m [n] (e, f') k 0 = some (Flow.go ()) := by
      have e1 : (∃ r, platter_Disk_Remove_l1 k room u false m [n] (e, f') (j + 1 + 1) 0 = some (Flow.ret r) ∧ r.2.2.2 = m) ∨ platter_Disk_Remove_l1 k room u false m [n] (e, f') (j + 1 + 1) 0 = some (Flow.go ()) := by
        rw [platter_Disk_Remove_l1, if_pos (by simp), show gt [n] (0 : Int) = some n from rfl]
        simp only [bind_some]
        rw [get_at k room u false f' h]
        simp only [bind_some]
        cases ht : (fileAt m n).now.there with
        | false => rw [if_pos (by simp)]; exact .inl ⟨_, rfl, rfl⟩
        | true => rw [if_neg (by simp), platter_Disk_Remove_l1, if_neg (by rw [wr (by omega)]; simp)]; exact .inr rfl
      rw [← hj] at e1
      exact e1
    have l2 : ∃ e2 u2 M, (M = m ∨ M = mput m n (some ⟨⟨false, []⟩, (fileAt m n).safe⟩)) ∧ (platter_Disk_Remove_l2 k room false [n] (e, f') k 0 u m = some (Flow.ret (e2, u2, f', M)) ∨ platter_Disk_Remove_l2 k room false [n] (e, f') k 0 u m = some (Flow.go (u2, M))) := by
      have e1 : ∃ e2 u2 M, (M = m ∨ M = mput m n (some ⟨⟨false, []⟩, (fileAt m n).safe⟩)) ∧ (platter_Disk_Remove_l2 k room false [n] (e, f') (j + 1 + 1) 0 u m = some (Flow.ret (e2, u2, f', M)) ∨ platter_Disk_Remove_l2 k room false [n] (e, f') (j + 1 + 1) 0 u m = some (Flow.go (u2, M))) := by
        obtain ⟨e2, u2, M, g1, g2⟩ := put_total k room u false f' h n ⟨false, []⟩
        rw [platter_Disk_Remove_l2, if_pos (by simp), show gt [n] (0 : Int) = some n from rfl]
        simp only [bind_some]
        rw [g1]
        simp only [bind_some]
        rcases g2 with ⟨rfl, rfl⟩ | ⟨g3, rfl⟩
        · refine ⟨0, u2, _, .inr rfl, .inr ?_⟩
          rw [if_neg (by simp), platter_Disk_Remove_l2, if_neg (by rw [wr (by omega)]; simp)]
        · refine ⟨e2, u2, _, .inl rfl, .inl ?_⟩
          rw [if_pos (by simpa using g3)]
      rw [← hj] at e1
      exact e1
    rcases l1 with ⟨r, l1, hr⟩ | l1
    · rw [l1]
      exact ⟨r.1, r.2.1, r.2.2.1, r.2.2.2, rfl, .inl hr⟩
    · rw [l1]
      simp only [bind_some]
      obtain ⟨e2, u2, M, hM, l2 | l2⟩ := l2
      · rw [l2]; exact ⟨_, _, _, _, rfl, hM⟩
      · rw [l2]; exact ⟨_, _, _, _, rfl, hM⟩
  · rw [if_pos (by simp [h0])]
    exact ⟨_, _, _, _, rfl, .inl rfl⟩

/-- the file that was synced -/
def Mine (s : List UInt8) (m : FM) : Prop := mget m [109, 105, 110, 101] = some (some ⟨⟨true, s⟩, ⟨true, s⟩⟩)

theorem keeps_put {s : List UInt8} {m M : FM} {n : List UInt8} {v : Option T_platter_file} (hm : Mine s m) (hn : n ≠ [109, 105, 110, 101]) (h : M = m ∨ M = mput m n v) : Mine s M := by
  rcases h with rfl | rfl
  · exact hm
  · unfold Mine
    rw [mget_mput, if_neg (fun e => hn e.symm)]
    exact hm

theorem keeps_sync {s : List UInt8} {m M : FM} {ys : List (List UInt8)} (hm : Mine s m) (h : ∀ n, mget M n = if n ∈ ys then sync1 (mget m n) else mget m n) : Mine s M := by
  unfold Mine at *
  rw [h, hm]
  split <;> rfl

theorem keeps_step (k : Nat) (hk : 30 < k) (u f : Int) (s : List UInt8) {i : Nat} (hi : i < 20) {m : FM} (hw : WF (i + 1) (60 * (i + 1)) m) (hm : Mine s m) (act : T_glacierlaw04_Act) :
    ∃ u' f' M, (Option.bind (glacierlaw01_Cut k act.A 5) fun y34 => (Option.bind (cat ([120]) y34) fun x7 => (if (act.Kind == 1) = true then (Option.bind (glacierlaw01_Cut k act.B 60) fun y35 => (Option.bind (platter_Disk_Write k 100000 u false f m x7 y35) fun y36 => some (y36.2.1, y36.2.2.1, y36.2.2.2))) else (if (act.Kind == 2) = true then (Option.bind (glacierlaw01_Cut k act.B 60) fun y37 => (Option.bind (platter_Disk_Append k 100000 u false f m x7 y37) fun y38 => some (y38.2.1, y38.2.2.1, y38.2.2.2))) else (if (act.Kind == 3) = true then (Option.bind (platter_Disk_Remove k 100000 u false f m ([x7])) fun y39 => some (y39.2.1, y39.2.2.1, y39.2.2.2)) else (if (act.Kind == 4) = true then (Option.bind (platter_Disk_Sync k 100000 u false f m ([x7])) fun y40 => some (y40.2.1, y40.2.2.1, y40.2.2.2)) else (if (act.Kind == 5) = true then (Option.bind (platter_Disk_Sync k 100000 u false f m ([])) fun y41 => some (y41.2.1, y41.2.2.1, y41.2.2.2)) else (if (act.Kind == 9) = true then (Option.bind (meter_Luck_Fail k 100000 u false f m act.N) fun y43 => some (u, y43, m)) else some (u, f, m))))))))) = some (u', f', M) ∧ WF (i + 2) (60 * (i + 2)) M ∧ Mine s M := by
  obtain ⟨a, ha, hal⟩ := cut_at k act.A 5
  have ha' : glacierlaw01_Cut k act.A (5 : Int) = some a := ha
  obtain ⟨t, ht, htl⟩ := cut_at k act.B 60
  have ht' : glacierlaw01_Cut k act.B (60 : Int) = some t := ht
  rw [ha']
  simp only [bind_some]
  rw [cat_of (by simp only [List.length_cons, List.length_nil]; omega)]
  simp only [bind_some]
  have hn : [120] ++ a ≠ ([] : List UInt8) := by simp
  have hnl : ([120] ++ a : List UInt8).length ≤ 10 := by simp; omega
  have hnm : [120] ++ a ≠ ([109, 105, 110, 101] : List UInt8) := by simp
  generalize [120] ++ a = n at hn hnl hnm
  have hat := hw.at n
  have hw' : WF (i + 2) (60 * (i + 2)) m := hw.mono (by omega) (by omega)
  have hput : ∀ (g : T_platter_file) (M : FM), g.now.s.length ≤ 60 * (i + 2) → g.safe.s.length ≤ 60 * (i + 2) → (M = m ∨ M = mput m n (some g)) → WF (i + 2) (60 * (i + 2)) M := fun g M h1 h2 h => by
    rcases h with rfl | rfl
    · exact hw'
    · exact (hw.mono (Nat.le_refl _) (by omega)).put hnl h1 h2
  by_cases h1 : act.Kind = 1
  · rw [if_pos (by simpa using h1), ht']
    simp only [bind_some]
    obtain ⟨e, u', f', M, e1, e2⟩ := write_total k 100000 u f hw.som hn t
    rw [e1]
    exact ⟨u', f', M, rfl, hput _ M (by simp only []; omega) (by simp only []; omega) e2, keeps_put hm hnm e2⟩
  rw [if_neg (by simpa using h1)]
  by_cases h2 : act.Kind = 2
  · rw [if_pos (by simpa using h2), ht']
    simp only [bind_some]
    obtain ⟨e, u', f', M, e1, e2⟩ := append_total k 100000 u f hw.som hn (s := t) (by omega)
    rw [e1]
    exact ⟨u', f', M, rfl, hput _ M (by simp only [List.length_append]; omega) (by simp only []; omega) e2, keeps_put hm hnm e2⟩
  rw [if_neg (by simpa using h2)]
  by_cases h3 : act.Kind = 3
  · rw [if_pos (by simpa using h3)]
    obtain ⟨e, u', f', M, e1, e2⟩ := remove_total k (by omega) 100000 u f hw.som n
    rw [e1]
    exact ⟨u', f', M, rfl, hput _ M (by simp) (by simp only []; omega) e2, keeps_put hm hnm e2⟩
  rw [if_neg (by simpa using h3)]
  have hsync : ∀ names : List (List UInt8), names.length ≤ 1 → ∃ u' f' M, (Option.bind (platter_Disk_Sync k 100000 u false f m names) fun y40 => some (y40.2.1, y40.2.2.1, y40.2.2.2)) = some (u', f', M) ∧ WF (i + 2) (60 * (i + 2)) M ∧ Mine s M := fun names hl => by
    obtain ⟨e, u', f', M, e1, _, e2⟩ := sync_at k 100000 u f hw (by omega) (by omega) (names := names) (by omega) (by omega)
    rw [e1]
    refine ⟨u', f', M, rfl, ?_, ?_⟩
    · rcases e2 with ⟨_, rfl⟩ | ⟨_, w2, _⟩
      · exact hw'
      · exact w2.mono (by omega) (by omega)
    · rcases e2 with ⟨_, rfl⟩ | ⟨_, _, c2, _⟩
      · exact hm
      · exact keeps_sync hm c2
  by_cases h4 : act.Kind = 4
  · rw [if_pos (by simpa using h4)]
    exact hsync [n] (by simp)
  rw [if_neg (by simpa using h4)]
  by_cases h5 : act.Kind = 5
  · rw [if_pos (by simpa using h5)]
    exact hsync [] (by simp)
  rw [if_neg (by simpa using h5)]
  by_cases h6 : act.Kind = 9
  · rw [if_pos (by simpa using h6)]
    exact ⟨_, _, m, rfl, hw', hm⟩
  · rw [if_neg (by simpa using h6)]
    exact ⟨_, _, m, rfl, hw', hm⟩

theorem keeps_loop (k : Nat) (hk : 30 < k) (s : List UInt8) (x2 : List T_glacierlaw04_Act) : ∀ (j i : Nat) (u f : Int) (m : FM), i ≤ 20 → 20 - i < j → WF (i + 1) (60 * (i + 1)) m → Mine s m →
    ∃ u' f' M, glacierlaw04_PlatterKeeps_l1 k x2 (100000, 0, false, 0, []) j (i : Int) u f m = some (u', f', M) ∧ WF 21 1260 M ∧ Mine s M
  | 0, _, _, _, _, _, hj, _, _ => by omega
  | j + 1, i, u, f, m, hi, hj, hw, hm => by
    rw [glacierlaw04_PlatterKeeps_l1]
    by_cases h : i < x2.length ∧ i < 20
    · obtain ⟨h1, h2⟩ := h
      rw [if_pos (by simpa using h1)]
      simp only [bind_some]
      rw [if_pos (by simp; omega), gtL h1]
      simp only [bind_some]
      obtain ⟨u1, f1, M1, e1, w1, c1⟩ := keeps_step k hk u f s h2 hw hm x2[i]
      rw [e1]
      simp only [bind_some]
      rw [wrN i (by omega)]
      exact keeps_loop k hk s x2 j (i + 1) u1 f1 M1 (by omega) (by omega) w1 c1
    · have : (if decide ((i : Int) < (x2.length : Int)) = true then some (decide ((i : Int) < 20)) else some (false)) = some false := by
        by_cases h1 : i < x2.length
        · rw [if_pos (by simpa using h1)]
          have : ¬ i < 20 := fun h3 => h ⟨h1, h3⟩
          congr 1; simp; omega
        · rw [if_neg (by simpa using h1)]
      rw [this]
      exact ⟨u, f, m, rfl, hw.mono (by omega) (by omega), hm⟩

theorem keeps_main (k : Nat) (hk : 50 < k) (hak : glacierlaw04_awake k = some true) (x1 : List UInt8) (x2 : List T_glacierlaw04_Act) (x3 : List Int) : glacierlaw04_PlatterKeeps k x1 x2 x3 = some true := by
  unfold glacierlaw04_PlatterKeeps
  obtain ⟨s, h1, l1⟩ := cut_at k x1 60
  have h1' : glacierlaw01_Cut k x1 (60 : Int) = some s := h1
  rw [h1']
  simp only [bind_some, new1, hak]
  have ha : ([109, 105, 110, 101] : List UInt8) ≠ [] := by simp
  have hwr := write_ok k 100000 (f := 0) (by omega) Som.nil ha s (by omega) (by rw [show W ([] : FM) = 0 from rfl]; omega) (by
    rw [fileAt_none rfl]; show ((W [([109, 105, 110, 101], some ⟨⟨true, s⟩, F0.safe⟩)] : Nat) : Int) ≤ 100000
    simp only [W, wo, wt, F0, List.map_cons, List.map_nil, List.sum_cons, List.sum_nil, List.length_nil]; omega)
  rw [fileAt_none rfl, show ((W ([] : FM) : Nat) : Int) = 0 from rfl] at hwr
  rw [if_neg (by simp), hwr]
  simp only [bind_some]
  have hw1 : WF 1 60 (mput ([] : FM) [109, 105, 110, 101] (some ⟨⟨true, s⟩, F0.safe⟩)) := (WF.nil 60).put (by simp) l1 (by simp [F0])
  have hg1 : mget (mput ([] : FM) [109, 105, 110, 101] (some ⟨⟨true, s⟩, F0.safe⟩)) [109, 105, 110, 101] = some (some ⟨⟨true, s⟩, F0.safe⟩) := mget_self _ _ _
  generalize (W (mput ([] : FM) [109, 105, 110, 101] (some ⟨⟨true, s⟩, F0.safe⟩)) : Int) = u1
  generalize (mput ([] : FM) [109, 105, 110, 101] (some ⟨⟨true, s⟩, F0.safe⟩)) = m1 at hw1 hg1
  obtain ⟨e, u2, f2, m2, e1, e0, e2⟩ := sync_at k 100000 u1 0 hw1 (by omega) (by omega) (names := [[109, 105, 110, 101]]) (by simp only [List.length_cons, List.length_nil]; omega) (by simp)
  obtain ⟨rfl, rfl⟩ := e0 (by omega)
  rcases e2 with ⟨h, _⟩ | ⟨_, w2, c2, _⟩
  · exact absurd rfl h
  have hm2 : Mine s m2 := by
    unfold Mine
    rw [c2, if_pos (by unfold ysOf; simp), hg1]
    rfl
  rw [if_neg (by simp), e1]
  simp only [bind_some]
  rw [if_neg (by simp)]
  obtain ⟨u3, f3, m3, e3, w3, hm3⟩ := keeps_loop k (by omega) s x2 k 0 u2 0 m2 (by omega) (by omega) (w2.mono (by omega) (by omega)) hm2
  rw [show (0 : Int) = ((0 : Nat) : Int) from rfl] at *
  rw [e3]
  simp only [bind_some]
  obtain ⟨u4, m4, e4, w4, c4, d4, _⟩ := crash_at k 100000 u3 f3 x3 (by omega) w3 (by omega) (by omega)
  rw [e4]
  simp only [bind_some]
  have hm4 : Mine s m4 := d4 _ _ hm3 rfl
  have hf : ∀ (x4 : Int), meter_Luck_Fail k 100000 u4 false x4 m4 (-1) = some 0 := fun x4 => by unfold meter_Luck_Fail; rfl
  rw [hf]
  simp only [bind_some]
  rw [read_at k 100000 u4 (f := 0) (by omega) w4.som, fileAt_some hm4]
  simp only [bind_some, if_true]
  rw [if_pos (by simp), if_pos (sEq_self s), safe_at k 100000 u4 0 w4 c4]
  rfl

theorem keeps_plain (x1 : List UInt8) (x2 : List T_glacierlaw04_Act) (x3 : List Int) : ∃ k, glacierlaw04_PlatterKeeps k x1 x2 x3 = some true := ⟨100, keeps_main 100 (by omega) awake_ok x1 x2 x3⟩
theorem platterKeeps_holds : Rows.PlatterKeepsSaid := platterKeeps_row fun x0 x1 x2 _ _ _ => keeps_plain x0 x1 x2
end Go.Proofs.Ythmjdekmacoaaaa
