/-
  RaftCommits: a leader commits just what more than half have, of its own term: for any start, number of nodes, commands and any that others tell. Own work.
-/
import Derived.Test.YtpldjopnhhbjpaaGreatRaLRM
import Derived.Test.YtpldjopnhhbjpaaGreatRMR
namespace Go.Proofs.YtpldjopnhhbjpaaGreat
open Go.Hx

theorem awake10 : glacierlaw10_awake 3000 = some true := by decide +kernel

/-- a list that says what a function says of the first n -/
def Lk (l : List Int) (f : Nat → Int) (n : Nat) : Prop := l.length = n ∧ ∀ j (h : j < l.length), l[j] = f j
theorem maj_l2 (k : Nat) (l : List Int) (f : Nat → Int) (n : Nat) (hl : Lk l f n) (hn : n ≤ 5) (v : Int) : ∀ (j i a : Nat), i ≤ n → n - i < j → a ≤ i → glacierref10_Majority_l2 k l v j (a : Int) (i : Int) = some ((a + cnt (fun q => decide (f q ≥ v)) i (n - i) : Nat) : Int)
  | 0, _, _, _, hj, _ => by omega
  | j + 1, i, a, hi, hj, ha => by
    have hlen := hl.1
    rw [glacierref10_Majority_l2]
    by_cases h : i < n
    · have hil : i < l.length := by omega
      rw [if_pos (by simp; omega), gtL hil, hl.2 i hil, wrN i (by omega), show n - i = (n - (i + 1)) + 1 by omega, cnt]
      simp only [bind_some]
      by_cases hm : f i ≥ v
      · rw [if_pos (by simpa using hm), if_pos (by simpa using hm)]
        simp only [bind_some]
        rw [wrN a (by omega), maj_l2 k l f n hl hn v j (i + 1) (a + 1) (by omega) (by omega) (by omega)]
        congr 2; omega
      · rw [if_neg (by simpa using hm), if_neg (by simpa using hm)]
        simp only [bind_some]
        rw [maj_l2 k l f n hl hn v j (i + 1) a (by omega) (by omega) (by omega)]
        congr 2; omega
    · rw [if_neg (by simp; omega), show n - i = 0 by omega, cnt]
      congr 2
/-- more than half reach it -/
def Mj (f : Nat → Int) (n : Nat) (v : Int) : Prop := (n : Int) < 2 * (cnt (fun q => decide (f q ≥ v)) 0 n : Int)
/-- what the greatest one is -/
def Bst (f : Nat → Int) (n : Nat) (M : Int) : Prop := M = 0 ∨ ∃ q, q < n ∧ M = f q ∧ Mj f n M
theorem maj_l1 (k : Nat) (hk : 2000 < k) (l : List Int) (f : Nat → Int) (n : Nat) (hl : Lk l f n) (hn : n ≤ 5) : ∀ (j i : Nat) (best : Int), i ≤ n → n - i < j → 0 ≤ best → Bst f n best → (∀ q, q < i → Mj f n (f q) → f q ≤ best) →
    ∃ M, glacierref10_Majority_l1 k l j best (i : Int) = some M ∧ 0 ≤ M ∧ Bst f n M ∧ ∀ q, q < n → Mj f n (f q) → f q ≤ M
  | 0, _, _, _, hj, _, _, _ => by omega
  | j + 1, i, best, hi, hj, h0, h1, h2 => by
    have hlen := hl.1
    rw [glacierref10_Majority_l1]
    by_cases h : i < n
    · have hil : i < l.length := by omega
      rw [if_pos (by simp; omega), gtL hil, hl.2 i hil, wrN i (by omega)]
      simp only [bind_some]
      have e2 : glacierref10_Majority_l2 k l (f i) k 0 0 = some ((cnt (fun q => decide (f q ≥ f i)) 0 n : Nat) : Int) := by
        have := maj_l2 k l f n hl hn (f i) k 0 0 (by omega) (by omega) (by omega)
        rw [Nat.zero_add, Nat.sub_zero] at this
        exact this
      rw [e2]
      simp only [bind_some]
      have hcl := cnt_le (fun q => decide (f q ≥ f i)) 0 n
      rw [wr (by omega), hlen]
      by_cases hm : Mj f n (f i)
      · rw [if_pos (by unfold Mj at hm; simpa using hm)]
        simp only [bind_some]
        have hx : mx2 best (f i) = max best (f i) := by unfold mx2; split <;> omega
        rw [hx]
        refine maj_l1 k hk l f n hl hn j (i + 1) _ (by omega) (by omega) (by omega) ?_ fun q hq hmq => ?_
        · by_cases hle : f i ≤ best
          · rw [Int.max_eq_left hle]; exact h1
          · rw [Int.max_eq_right (by omega)]; exact .inr ⟨i, h, rfl, hm⟩
        · by_cases hqi : q = i
          · subst hqi; omega
          · have := h2 q (by omega) hmq; omega
      · rw [if_neg (by unfold Mj at hm; simpa using hm)]
        simp only [bind_some]
        refine maj_l1 k hk l f n hl hn j (i + 1) best (by omega) (by omega) h0 h1 fun q hq hmq => ?_
        by_cases hqi : q = i
        · subst hqi; exact absurd hmq hm
        · exact h2 q (by omega) hmq
    · rw [if_neg (by simp; omega)]
      exact ⟨best, rfl, h0, h1, fun q hq => h2 q (by omega)⟩
/-- what is committed is what the document says -/
theorem commit_is {x : T_raft_Node} {n b fi : Nat} (hc : Com x n b fi) (hf : b < fi) (hmt : ∀ q, q < n → x.match_ q ≤ b + x.st.Log.length) {M : Int} (h1 : Bst x.match_ n M) (h2 : ∀ q, q < n → Mj x.match_ n (x.match_ q) → x.match_ q ≤ M) :
    x.commit = if M < (fi : Int) then (b : Int) else M := by
  rcases hc with ⟨hb, hno⟩ | ⟨c1, c2, c3, c4⟩
  · by_cases hM : M < (fi : Int)
    · rw [if_pos hM, hb]
    · rcases h1 with h1 | ⟨q, hq, h1, h3⟩
      · omega
      · exact absurd h3 (hno M (by omega) (by rw [h1]; exact hmt q hq))
  · -- one of them has just that
    have hex : ∃ q, q < n ∧ x.match_ q = x.commit := by
      refine Classical.byContradiction fun hne => ?_
      have hcn := cnt_mono (p := fun q => decide (x.match_ q ≥ x.commit)) (q := fun q => decide (x.match_ q ≥ x.commit + 1)) 0 n (fun j _ h2 h3 => by
        have : x.match_ j ≠ x.commit := fun h => hne ⟨j, by omega, h⟩
        simp at h3 ⊢; omega)
      have hmaj : Maj x n (x.commit + 1) := by unfold Maj at c3 ⊢; omega
      by_cases hlt : x.commit + 1 ≤ b + x.st.Log.length
      · exact c4 _ (by omega) hlt hmaj
      · have hz := cnt_mono (p := fun q => decide (x.match_ q ≥ x.commit + 1)) (q := fun _ => false) 0 n (fun j _ h2 h3 => by
          have := hmt j (by omega)
          simp at h3; omega)
        have hz2 := cnt_lt (p := fun _ => false) 0 0 n (fun _ _ _ => by simp)
        unfold Maj at hmaj
        rw [hz2] at hz
        omega
    obtain ⟨q, hq, he⟩ := hex
    have h3 := h2 q hq (by rw [he]; exact c3)
    have hM : ¬ M < (fi : Int) := by omega
    rw [if_neg hM]
    rcases h1 with h1 | ⟨q2, hq2, h4, h5⟩
    · omega
    · by_cases hlt : x.commit < M
      · exact absurd h5 (c4 M hlt (by rw [h4]; exact hmt q2 hq2))
      · omega

theorem commits_l1 (k : Nat) (hk : 2000 < k) (x4 : List Int) (y21 : T_raft_Node × Int × Int × Bool × Int × FM) (y22 : Int × Int × Bool × Int × FM × List T_glacierref09_Entry × T_glacierref09_State) (g1 : y21.2.1 = 1048576) (g2 : y21.2.2.2.1 = false)
    {n b t a bt c l : Nat} {s : List UInt8} (hn : 1 ≤ n ∧ n ≤ 5) (hl : l ≤ 16) (g3 : y22.2.2.2.2.2.2.Base = (b : Int)) (g4 : y22.2.2.2.2.2.1.length ≤ 6) (hb : b ≤ 4) {m : FM} :
    ∀ (j i : Nat) (ml : List Int) (x : T_raft_Node) (o : Nat), i ≤ 12 → 12 - i < j → Lk ml x.match_ n → Lead k x m n b (b + y22.2.2.2.2.2.1.length + 1) t a bt s c o l → o ≤ i →
    ∃ x' o', glacierlaw10_RaftCommits_l1 k (n : Int) x4 y21 y22 j ml (i : Int) x (W m : Int) 0 m = some (Flow.go (x', (W m : Int), 0, m)) ∧ Lead k x' m n b (b + y22.2.2.2.2.2.1.length + 1) t a bt s c o' l
  | 0, _, _, _, _, _, hj, _, _, _ => by omega
  | j + 1, i, ml, x, o, hi, hj, hlk, h, ho => by
    rw [glacierlaw10_RaftCommits_l1]
    by_cases hgo : i < x4.length ∧ i < 12 ∧ 1 < n
    · obtain ⟨h1, h2, h3⟩ := hgo
      have hw := h.well
      have hlen := h.len
      rw [if_pos (by simpa using h1), if_pos (by simp; omega), show decide ((n : Int) > 1) = true by simp; omega]
      simp only [bind_some, if_true]
      rw [wr (n := (n : Int) - 1) (by omega), if_pos (by omega), gtL h1, last_at k _ _ _ _ _ hw.base hw.idx (by omega)]
      unfold raft_Node_Term raft_Node_Commit
      simp only [bind_some]
      obtain ⟨q, hq, eq⟩ := clamp x4[i] (b + x.st.Log.length)
      rw [show (((b + x.st.Log.length : Nat)) : Int) = (b : Int) + x.st.Log.length by omega] at eq
      rw [eq, g1, g2]
      obtain ⟨fr, hfr⟩ : ∃ fr : Nat, fr = 1 + i % (n - 1) := ⟨_, rfl⟩
      have hmod : i % (n - 1) < n - 1 := Nat.mod_lt _ (by omega)
      have hfe : IntKind.i64.wrap (1 + (i : Int).tmod ((n : Int) - 1)) = (fr : Int) := by
        have : (i : Int).tmod ((n : Int) - 1) = ((i % (n - 1) : Nat) : Int) := by
          rw [show (n : Int) - 1 = ((n - 1 : Nat) : Int) by omega, Int.tmod_eq_emod_of_nonneg (by omega)]
          rfl
        rw [this, wr (by omega)]
        omega
      rw [hfe]
      obtain ⟨z, e3, hLz, hz1, hz2⟩ := have_at k hk 1048576 h (by omega) (by omega) fr (by omega) (by omega) (q : Int) (by omega) true
      rw [e3]
      simp only [bind_some]
      have hfl : fr < ml.length := by rw [hlk.1]; omega
      rw [gtL hfl]
      simp only [bind_some, Int.toNat_natCast]
      have hmx : mx2 ml[fr] (q : Int) = max (x.match_ fr) q := by
        rw [hlk.2 fr hfl]
        unfold mx2; split <;> omega
      rw [hmx]
      have hlk2 : Lk (ml.set fr (max (x.match_ fr) (q : Int))) z.match_ n := by
        refine ⟨by simpa using hlk.1, fun p hp => ?_⟩
        rw [List.getElem_set, hz2 rfl p]
        by_cases hpf : fr = p
        · subst hpf; simp
        · rw [if_neg hpf, if_neg (fun h => hpf h.symm)]
          exact hlk.2 p (by simpa using hp)
      obtain ⟨M, e4, -, m1, m2⟩ := maj_l1 k hk _ _ n hlk2 hn.2 k 0 0 (by omega) (by omega) (by omega) (.inl rfl) (fun q hq => by omega)
      unfold glacierref10_Majority
      rw [show ((0 : Nat) : Int) = 0 from rfl] at e4
      rw [e4]
      simp only [bind_some]
      have hfi := hLz.hfi
      have hcm := commit_is hLz.cm hfi.1 (fun p hp => (hLz.mat p hp).2) m1 m2
      rw [g3, wr (n := (b : Int) + (y22.2.2.2.2.2.1.length : Int)) (by omega), wr (n := (b : Int) + (y22.2.2.2.2.2.1.length : Int) + 1) (by omega)]
      have hwant : (if decide (M < (b : Int) + (y22.2.2.2.2.2.1.length : Int) + 1) = true then some (b : Int) else some M) = some z.commit := by
        rw [hcm]
        by_cases hM : M < (b : Int) + (y22.2.2.2.2.2.1.length : Int) + 1
        · rw [if_pos (by simpa using hM), if_pos (by omega)]
        · rw [if_neg (by simpa using hM), if_neg (by omega)]
      rw [hwant]
      simp only [bind_some]
      rw [if_neg (by simp), wrN i (by omega)]
      exact commits_l1 k hk x4 y21 y22 g1 g2 hn hl g3 g4 hb j (i + 1) _ z (o + 1) (by omega) (by omega) hlk2 hLz (by omega)
    · have : (if decide ((i : Int) < (x4.length : Int)) = true then (if decide ((i : Int) < 12) = true then some (decide ((n : Int) > 1)) else some false) else some false) = some false := by
        by_cases a1 : i < x4.length
        · rw [if_pos (by simpa using a1)]
          by_cases a2 : i < 12
          · rw [if_pos (by simp; omega)]
            congr 1
            have : ¬ 1 < n := fun h => hgo ⟨a1, a2, h⟩
            simp; omega
          · rw [if_neg (by simp; omega)]
        · rw [if_neg (by simpa using a1)]
      rw [this]
      exact ⟨x, o, rfl, h⟩

theorem com_one {x : T_raft_Node} {b fi : Nat} (h : Com x 1 b fi) (hm : x.match_ 0 = (b : Int) + x.st.Log.length) (hf : fi ≤ b + x.st.Log.length) : x.commit = (b : Int) + x.st.Log.length := by
  have hmaj : Maj x 1 ((b : Int) + x.st.Log.length) := by
    unfold Maj
    simp [cnt, hm]
  rcases h with ⟨h1, h2⟩ | ⟨h1, h2, h3, h4⟩
  · exact absurd hmaj (h2 _ (by omega) (by omega))
  · by_cases hlt : x.commit < (b : Int) + x.st.Log.length
    · exact absurd hmaj (h4 _ hlt (by omega))
    · omega

theorem commits_main (k : Nat) (hk : 2000 < k) (hak : glacierlaw10_awake k = some true) (x1 : T_glacierlaw10_Start) (x2 : Int) (x3 : List (List UInt8)) (x4 : List Int) : glacierlaw10_RaftCommits k x1 x2 x3 x4 = some true := by
  unfold glacierlaw10_RaftCommits
  rw [hak]
  simp only [bind_some, Bool.not_true, Bool.false_eq_true, if_false]
  by_cases g1 : x2 < 1
  · rw [if_pos (by simpa using g1)]; rfl
  rw [if_neg (by simpa using g1)]
  by_cases g2 : x2 > 5
  · rw [show decide (x2 > 5) = true by simpa using g2]; rfl
  rw [show decide (x2 > 5) = false by simpa using g2]
  simp only [bind_some, Bool.false_eq_true, if_false]
  obtain ⟨n, rfl⟩ := Int.eq_ofNat_of_zero_le (show 0 ≤ x2 by omega)
  obtain ⟨t, v, b, bt, s, Lr, m0, x, M, c, l, e1, hLr, hb4, e2, hL, hc, hl, hz⟩ := leader_at k hk x1 n (by omega) x3
  rw [e2]
  simp only [bind_some]
  rw [e1]
  simp only [bind_some]
  have hw := hL.well
  have hlen := hL.len
  rw [if_pos (by omega), last_at k 1048576 (W M : Int) false 0 M hw.base hw.idx (by omega)]
  simp only [bind_some, Int.toNat_natCast]
  rw [show gt (List.replicate n (0 : Int)) 0 = some 0 by rw [gt0, List.getElem?_replicate, if_pos (by omega)]]
  simp only [bind_some]
  -- nobody else has anything yet
  have hlk : Lk ((List.replicate n (0 : Int)).set (0 : Int).toNat ((b : Int) + x.st.Log.length)) x.match_ n := by
    refine ⟨by simp, fun j hj => ?_⟩
    rw [List.getElem_set]
    by_cases h0 : j = 0
    · subst h0
      rw [if_pos (show (0 : Int).toNat = 0 from rfl), hL.mat0]
    · rw [if_neg (show ¬ (0 : Int).toNat = j from fun h => h0 h.symm), List.getElem_replicate, hz j (by omega) (by simpa using hj)]
  obtain ⟨x', o', e3, hL'⟩ := commits_l1 k hk x4 (x, 1048576, (W M : Int), false, 0, M) (1048576, (W m0 : Int), false, 0, m0, Lr, ⟨t, v, b, bt, s, Lr⟩) rfl rfl (n := n) (b := b) (by omega) hl rfl hLr hb4 (m := M) k 0 _ x 0 (by omega) (by omega) hlk hL (by omega)
  rw [show ((0 : Nat) : Int) = 0 from rfl] at e3
  rw [e3]
  unfold raft_Node_Commit
  simp only [bind_some]
  have hw' := hL'.well
  have hlen' := hL'.len
  rw [last_at k 1048576 (W M : Int) false 0 M hw'.base hw'.idx (by omega)]
  simp only [bind_some]
  by_cases h1 : n = 1
  · subst h1
    rw [com_one hL'.cm hL'.mat0 hL'.hfi.2]
    simp
  · have : decide ((n : Int) > 1) = true := by simp; omega
    rw [this]
    split <;> rfl

theorem commits_plain (x1 : T_glacierlaw10_Start) (x2 : Int) (x3 : List (List UInt8)) (x4 : List Int) : ∃ k, glacierlaw10_RaftCommits k x1 x2 x3 x4 = some true := ⟨3000, commits_main 3000 (by omega) awake10 x1 x2 x3 x4⟩
theorem raftCommits_holds : Rows.RaftCommitsSaid := raftCommits_row fun x1 x2 x3 x4 _ _ _ _ => commits_plain x1 x2 x3 x4
end Go.Proofs.YtpldjopnhhbjpaaGreat
