/- TermBack: terms, votes, snapshots, entries that were kept are loaded, without a crash, and behind one. Conditions: none (every input). Own work. -/
import Derived.Test.YthmjdekmacoaaaaPlTeTB
import Derived.Test.YthmjdekmacoaaaaTeCTB
import Derived.Test.YthmjdekmacoaaaaPlXTB
import Derived.Test.YthmjdekmacoaaaaTBR
namespace Go.Proofs.Ythmjdekmacoaaaa
open Go.Hx

theorem back_l1 (k : Nat) (t : Nat) (ht : t ≤ 1099511627776) (x4 : List (List UInt8)) : ∀ (j i : Nat) (l : List T_term_Entry), l.length = i → i ≤ 10 → 10 - i < j → Num l → (∀ x ∈ l, EOk x) →
    ∃ l', glacierlaw09_TermBack_l1 k (t : Int) x4 j l (i : Int) = some l' ∧ l'.length ≤ 10 ∧ Num l' ∧ ∀ x ∈ l', EOk x
  | 0, _, _, _, _, hj, _, _ => by omega
  | j + 1, i, l, hl, hi, hj, hn, hx => by
    rw [glacierlaw09_TermBack_l1]
    by_cases h : i < x4.length ∧ i < 10
    · obtain ⟨h1, h2⟩ := h
      obtain ⟨c, hc, hcl⟩ := cut_at k x4[i] 30
      rw [if_pos (by simpa using h1)]
      simp only [bind_some]
      rw [if_pos (by simp; omega), gtL h1]
      simp only [bind_some]
      rw [show (30 : Int) = ((30 : Nat) : Int) from rfl, hc]
      simp only [bind_some]
      rw [if_pos (room_of (by simp; omega) (by omega)), wrN i (by omega)]
      refine back_l1 k t ht x4 j (i + 1) _ (by simp; omega) (by omega) (by omega) (hn.push (by rw [hl]; simp)) fun x hx' => ?_
      rcases List.mem_append.1 hx' with h | h
      · exact hx x h
      · obtain rfl := List.mem_singleton.1 h
        exact ⟨by simp only []; omega, by simp only []; omega, by simp only []; omega, by simp only []; omega, by simp only []; omega⟩
    · have : (if decide ((i : Int) < (x4.length : Int)) = true then some (decide ((i : Int) < 10)) else some (false)) = some false := by
        by_cases h1 : i < x4.length
        · rw [if_pos (by simpa using h1)]
          have : ¬ i < 10 := fun h3 => h ⟨h1, h3⟩
          congr 1; simp; omega
        · rw [if_neg (by simpa using h1)]
      rw [this]
      exact ⟨l, rfl, by omega, hn, hx⟩

theorem told_loop (k : Nat) (s : T_term_State) (hl : s.Log.length ≤ 10) : ∀ (j i : Nat) (acc : List T_glacierref09_Entry), i ≤ s.Log.length → s.Log.length - i < j → acc.length = i → ∃ r, glacierlaw09_Told_l1 k s j (i : Int) acc = some r ∧ r.length = s.Log.length
  | 0, _, _, _, hj, _ => by omega
  | j + 1, i, acc, hi, hj, ha => by
    rw [glacierlaw09_Told_l1]
    by_cases h : i < s.Log.length
    · rw [if_pos (by simpa using h), gtL h]
      simp only [bind_some]
      rw [if_pos (room_of (by simp; omega) (by omega)), wrN i (by omega)]
      exact told_loop k s hl j (i + 1) _ (by omega) (by omega) (by simp; omega)
    · rw [if_neg (by simpa using h)]
      exact ⟨acc, rfl, by omega⟩
theorem told_at (k : Nat) (hk : 100 < k) (s : T_term_State) (hl : s.Log.length ≤ 10) : ∃ r, glacierlaw09_Told k s = some (r, ⟨s.Term, s.Vote, s.Base, s.BaseTerm, s.Snap, r⟩) ∧ r.length = s.Log.length := by
  obtain ⟨r, e, h⟩ := told_loop k s hl k 0 [] (by omega) (by omega) rfl
  refine ⟨r, ?_, h⟩
  unfold glacierlaw09_Told
  rw [show (0 : Int) = ((0 : Nat) : Int) from rfl, e]
  rfl

theorem same_loop (k : Nat) (s : T_glacierref09_State) (hl : s.Log.length ≤ 10) : ∀ (j i : Nat), i ≤ s.Log.length → s.Log.length - i < j → glacierref09_Same_l1 k s s j (i : Int) = some (Flow.go ())
  | 0, _, _, hj => by omega
  | j + 1, i, hi, hj => by
    rw [glacierref09_Same_l1]
    by_cases h : i < s.Log.length
    · rw [if_pos (by simpa using h), gtL h]
      simp only [bind_some]
      rw [if_neg (by simp), wrN i (by omega)]
      exact same_loop k s hl j (i + 1) (by omega) (by omega)
    · rw [if_neg (by simpa using h)]
theorem same_at (k : Nat) (hk : 100 < k) (s : T_glacierref09_State) (hl : s.Log.length ≤ 10) : glacierref09_Same k s s = some true := by
  unfold glacierref09_Same
  rw [if_neg (by simp), if_neg (by simp), if_neg (by simp), if_neg (by simp), sEq_self, if_neg (by simp)]
  simp only [bind_some]
  rw [if_neg (by simp), show (0 : Int) = ((0 : Nat) : Int) from rfl, same_loop k s hl k 0 (by omega) (by omega)]
  rfl

theorem back_l2 (k : Nat) (x5 : Int) (l : List T_term_Entry) (hl : l.length ≤ 10) (n : Nat) (hn : n ≤ l.length) (en : mn2 (mx2 x5 0) (l.length : Int) = (n : Int)) (y33 : List T_term_Entry × T_term_State × Int × Int × Int × FM) (hy : y33.1 = l.drop n) : ∀ (j i : Nat), i ≤ l.length - n → l.length - n - i < j →
    glacierlaw09_TermBack_l2 k x5 l y33 j (i : Int) = some (Flow.go ())
  | 0, _, _, hj => by omega
  | j + 1, i, hi, hj => by
    rw [glacierlaw09_TermBack_l2, hy]
    have hlen : (l.drop n).length = l.length - n := List.length_drop
    by_cases h : i < l.length - n
    · rw [if_pos (by rw [hlen, decide_eq_true_eq]; omega), gtL (by omega), en]
      simp only [bind_some]
      rw [wr (by omega), show ((n : Int) + (i : Int)) = ((n + i : Nat) : Int) by omega, gtL (by omega)]
      simp only [bind_some]
      rw [if_neg (by rw [List.getElem_drop]; simp), wrN i (by omega)]
      exact back_l2 k x5 l hl n hn en y33 hy j (i + 1) (by omega) (by omega)
    · rw [if_neg (by rw [hlen, decide_eq_true_eq]; omega)]

theorem back_main (k : Nat) (hk : 2000 < k) (hak : glacierlaw09_awake k = some true) (x1 x2 : Int) (x3 : List UInt8) (x4 : List (List UInt8)) (x5 : Int) (x6 : List Int) : glacierlaw09_TermBack k x1 x2 x3 x4 x5 x6 = some true := by
  unfold glacierlaw09_TermBack
  rw [show (100000 : Int) = ((100000 : Nat) : Int) from rfl, newK]
  simp only [bind_some]
  rw [hak]
  simp only [bind_some]
  rw [if_neg (by simp)]
  by_cases g1 : x1 < 0
  · rw [if_pos (by simpa using g1)]; rfl
  rw [if_neg (by simpa using g1)]
  by_cases g2 : x1 > 1099511627776
  · rw [if_pos (by simpa using g2)]; rfl
  rw [if_neg (by simpa using g2)]
  by_cases g3 : x2 < 0
  · rw [if_pos (by simpa using g3)]; rfl
  rw [if_neg (by simpa using g3)]
  by_cases g4 : x2 > 5
  · simp only [bind_some]
    rw [if_pos (by simpa using g4)]
  simp only [bind_some]
  rw [if_neg (by simpa using g4)]
  obtain ⟨t, rfl⟩ : ∃ t : Nat, x1 = (t : Int) := ⟨x1.toNat, by omega⟩
  obtain ⟨v, rfl⟩ : ∃ v : Nat, x2 = (v : Int) := ⟨x2.toNat, by omega⟩
  obtain ⟨l, e1, hl, hn, hx⟩ := back_l1 k t (by omega) x4 k 0 [] rfl (by omega) (by omega) (fun i h => by simp at h) (by simp)
  rw [show ((0 : Nat) : Int) = 0 from rfl] at e1
  rw [e1]
  simp only [bind_some]
  obtain ⟨s, hs, hsl⟩ := cut_at k x3 50
  have hs' : glacierlaw01_Cut k x3 (50 : Int) = some s := hs
  rw [hs']
  simp only [bind_some]
  obtain ⟨m1, fs1, e2, r1, w1, q1, g1⟩ := appended_ok k hk ((100000 : Nat) : Int) (WF.nil 900000) (l := l) (by omega) hx (by rw [fileAt_none rfl]; simp [F0]) (by omega) (by simp only [W, List.map_nil, List.sum_nil]; omega)
  rw [show ((W ([] : FM) : Nat) : Int) = 0 from rfl] at e2
  rw [show W ([] : FM) = 0 from rfl] at q1
  rw [e2]
  simp only [bind_some]
  obtain ⟨m2, f2, e3, fr2, l2, w2, q2, g2'⟩ := saveTerm_ok k hk ((100000 : Nat) : Int) w1 t v (by omega) (by omega) (by omega) (by omega)
  rw [if_neg (by simp), e3]
  simp only [bind_some]
  obtain ⟨n, hnl, en⟩ := clamp x5 l.length
  rw [if_neg (by simp), en, sl_of _ (by omega) (by omega) (by omega), Int.toNat_natCast, Int.toNat_natCast, List.take_of_length_le (Nat.le_refl _)]
  simp only [bind_some]
  have hx2 : ∀ x ∈ l.drop n, EOk x := fun x h => hx x (List.mem_of_mem_drop h)
  have hl2 : (l.drop n).length ≤ 10 := by simp; omega
  obtain ⟨M, f, fs, e4, hf, hfs, hw, hq, hg⟩ := saveSnap_ok k hk ((100000 : Nat) : Int) w2 n t (by omega) (by omega) (s := s) (by omega) (l := l.drop n) (by omega) hx2 (by omega) (by omega)
  rw [e4]
  simp only [bind_some]
  rw [if_neg (by simp)]
  have hT : TermOf k M t v := .inr ⟨f2, fr2, by rw [hg, if_neg (by decide), if_neg (by decide), g2', if_pos rfl], by omega, by omega⟩
  have hS : SnapOf k M n t s := .inr ⟨f, hf, by rw [hg, if_neg (by decide), if_pos rfl], by omega, by omega, by omega⟩
  have hL : LogOf k M (l.drop n) := .inr ⟨fs, hfs, by rw [hg, if_pos rfl]⟩
  have hload := load_ok k hk ((100000 : Nat) : Int) (W M : Int) hw.som hT hS hL (by omega) hx2
  rw [beh_rest hn n] at hload
  rw [hload]
  simp only [bind_some]
  have hset : ∀ (nm : List UInt8) (g : T_platter_file), mget M nm = some (some g) → g.now = g.safe := fun nm g h => by
    rw [hg] at h
    split at h
    · simp only [Option.some.injEq] at h; rw [← h]
    · split at h
      · simp only [Option.some.injEq] at h; rw [← h]
      · rw [g2'] at h
        split at h
        · simp only [Option.some.injEq] at h; rw [← h]
        · rw [g1] at h
          split at h
          · simp only [Option.some.injEq] at h; rw [← h]
          · cases h
  obtain ⟨u', M', k1, _, _, _, k2⟩ := crash_at k ((100000 : Nat) : Int) (W M : Int) 0 x6 (by omega) hw (by omega) (by omega)
  obtain ⟨hM, hu⟩ := k2 hset
  rw [hM, hu] at k1
  rw [k1]
  simp only [bind_some]
  rw [hload]
  simp only [bind_some]
  rw [if_neg (by simp), if_neg (by simp)]
  obtain ⟨r, hr, hrl⟩ := told_at k (by omega) ⟨(t : Int), (v : Int), (n : Int), (t : Int), s, l.drop n⟩ hl2
  rw [hr]
  simp only [bind_some]
  rw [same_at k (by omega) ⟨(t : Int), (v : Int), (n : Int), (t : Int), s, r⟩ (by rw [hrl]; exact hl2)]
  simp only [bind_some]
  rw [if_neg (by simp), if_neg (by simp), if_neg (by simp), if_neg (by simp), sEq_self, if_neg (by simp)]
  simp only [bind_some]
  rw [if_neg (by rw [List.length_drop, wr (by omega)]; simp; omega)]
  have e5 := back_l2 k x5 l hl n hnl en (l.drop n, ⟨(t : Int), (v : Int), (n : Int), (t : Int), s, l.drop n⟩, 0, (W M : Int), 0, M) rfl k 0 (by omega) (by omega)
  rw [show ((0 : Nat) : Int) = 0 from rfl] at e5
  rw [e5]
  rfl

theorem back_plain (x1 x2 : Int) (x3 : List UInt8) (x4 : List (List UInt8)) (x5 : Int) (x6 : List Int) : ∃ k, glacierlaw09_TermBack k x1 x2 x3 x4 x5 x6 = some true := ⟨3000, back_main 3000 (by omega) awake9 x1 x2 x3 x4 x5 x6⟩
theorem termBack_holds : Rows.TermBackSaid := termBack_row fun x0 x1 x2 x3 x4 x5 _ _ _ _ _ _ => back_plain x0 x1 x2 x3 x4 x5
end Go.Proofs.Ythmjdekmacoaaaa
