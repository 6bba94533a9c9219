/-
  RaftCompacts: what a node handed out goes into a snapshot; the disk says that, and what is behind: for any start, any commands and any snapshot. Own work.
-/
import Derived.Test.YtpldjopnhhbjpaaRaCRC
import Derived.Test.YtpldjopnhhbjpaaRCR
namespace Go.Proofs.Ytpldjopnhhbjpaa
open Go.Hx

theorem awake10 : glacierlaw10_awake 3000 = some true := by decide +kernel

theorem told_loop (k : Nat) (s : T_term_State) (hl : s.Log.length ≤ 10) : ∀ (j i : Nat) (acc : List T_glacierref09_Entry), i ≤ s.Log.length → s.Log.length - i < j → acc.length = i → ∃ r, glacierlaw09_Told_l1 k s j (i : Int) acc = some r ∧ r.length = s.Log.length
  | 0, _, _, _, hj, _ => by omega
  | j + 1, i, acc, hi, hj, ha => by
    rw [glacierlaw09_Told_l1]
    by_cases h : i < s.Log.length
    · rw [if_pos (by simpa using h), gtL h]
      simp only [bind_some]
      rw [if_pos (room_of (by simp; omega) (by omega)), wrN i (by omega)]
      exact told_loop k s hl j (i + 1) _ (by omega) (by omega) (by simp; omega)
    · rw [if_neg (by simpa using h)]
      exact ⟨acc, rfl, by omega⟩
theorem told_at (k : Nat) (hk : 100 < k) (s : T_term_State) (hl : s.Log.length ≤ 10) : ∃ r, glacierlaw09_Told k s = some (r, ⟨s.Term, s.Vote, s.Base, s.BaseTerm, s.Snap, r⟩) ∧ r.length = s.Log.length := by
  obtain ⟨r, e, h⟩ := told_loop k s hl k 0 [] (by omega) (by omega) rfl
  refine ⟨r, ?_, h⟩
  unfold glacierlaw09_Told
  rw [show (0 : Int) = ((0 : Nat) : Int) from rfl, e]
  rfl

theorem same_loop (k : Nat) (s : T_glacierref09_State) (hl : s.Log.length ≤ 10) : ∀ (j i : Nat), i ≤ s.Log.length → s.Log.length - i < j → glacierref09_Same_l1 k s s j (i : Int) = some (Flow.go ())
  | 0, _, _, hj => by omega
  | j + 1, i, hi, hj => by
    rw [glacierref09_Same_l1]
    by_cases h : i < s.Log.length
    · rw [if_pos (by simpa using h), gtL h]
      simp only [bind_some]
      rw [if_neg (by simp), wrN i (by omega)]
      exact same_loop k s hl j (i + 1) (by omega) (by omega)
    · rw [if_neg (by simpa using h)]
theorem same_at (k : Nat) (hk : 100 < k) (s : T_glacierref09_State) (hl : s.Log.length ≤ 10) : glacierref09_Same k s s = some true := by
  unfold glacierref09_Same
  rw [if_neg (by simp), if_neg (by simp), if_neg (by simp), if_neg (by simp), sEq_self, if_neg (by simp)]
  simp only [bind_some]
  rw [if_neg (by simp), show (0 : Int) = ((0 : Nat) : Int) from rfl, same_loop k s hl k 0 (by omega) (by omega)]
  rfl


theorem compacts_l1 (k : Nat) (hk : 2000 < k) (y29 : Int × Int × Bool × Int × FM × List T_glacierref09_Entry × T_glacierref09_State) (h1 : y29.1 = 1048576) (h2 : y29.2.2.1 = false)
    {m : FM} {t v b bt c : Nat} {s : List UInt8} {L : List T_term_Entry} (h : DK k m t v b bt s L c) (ht : t ≤ 20) (hb : b ≤ 4) (hl : L.length ≤ 6) (hke : KE b t L) (hc : c ≤ 8000) :
    ∃ x M, glacierlaw10_RaftCompacts_l1 k y29 k 0 (node0 1 t v b bt s L) (W m : Int) 0 m = some (x, (W M : Int), 0, M) ∧ Lead k x M 1 b (b + L.length + 1) (t + 1) b bt s (c + 1130) 110 9 := by
  have hx : ∀ e ∈ L, EOk e := fun e he => (hke.eok e he).1
  obtain ⟨y, M1, e4, hcand, hlog, hvot⟩ := tick_stand k hk (r := 1048576) h ht hb hl hke (n := 1) (by omega) (by omega) (by omega)
  obtain ⟨x, M, e5, hlead, -⟩ := hcand.lead k hk (r := 1048576) (by rw [hvot]; decide) (by omega) (by omega)
  refine ⟨x, M, ?_, by rw [hlog] at hlead; exact hlead⟩
  obtain ⟨k', hk'⟩ : ∃ k', k = k' + 5 := ⟨k - 5, by omega⟩
  have step : ∀ (j : Nat) (i : Int) (x : T_raft_Node) (u : Int) (m : FM) (x' : T_raft_Node) (u' : Int) (m' : FM), i < 4 → 0 ≤ i → raft_Node_Tick k x 1048576 u false 0 m = some (x', u', 0, m') → glacierlaw10_RaftCompacts_l1 k y29 (j + 1) i x u 0 m = glacierlaw10_RaftCompacts_l1 k y29 j (i + 1) x' u' 0 m' := by
    intro j i x u m x' u' m' hi h0 ht
    rw [glacierlaw10_RaftCompacts_l1, if_pos (by simpa using hi), h1, h2, ht]
    simp only [bind_some]
    rw [wr (by omega)]
  have sq := fun q => tick_T k (n := 1) (by omega) 1048576 (W m : Int) m (t := t) (v := v) (bt := bt) (s := s) (by omega) hb hke.idx hx q
  have e : ∀ j, glacierlaw10_RaftCompacts_l1 k y29 (j + 5) 0 (node0 1 t v b bt s L) (W m : Int) 0 m = some (x, (W M : Int), 0, M) := by
    intro j
    rw [show node0 1 t v b bt s L = nodeT 1 t v b bt s L 0 from rfl, step (j + 4) 0 _ _ _ _ _ _ (by omega) (by omega) (sq 0 (by omega)), step (j + 3) (0 + 1) _ _ _ _ _ _ (by omega) (by omega) (sq (0 + 1) (by omega)),
      step (j + 2) (0 + 1 + 1) _ _ _ _ _ _ (by omega) (by omega) (sq (0 + 1 + 1) (by omega)), step (j + 1) (0 + 1 + 1 + 1) _ _ _ x (W M : Int) M (by omega) (by omega) (by
        rw [show ((0 : Int) + 1 + 1 + 1) = 3 from rfl, e4, e5])]
    rw [glacierlaw10_RaftCompacts_l1, if_neg (by decide)]
  have := e k'
  rw [← hk'] at this
  exact this

theorem compacts_l2 (k : Nat) (hk : 2000 < k) (x2 : List (List UInt8)) (y29 : Int × Int × Bool × Int × FM × List T_glacierref09_Entry × T_glacierref09_State) (h1 : y29.1 = 1048576) (h2 : y29.2.2.1 = false) {n b fi t a bt : Nat} {s : List UInt8} :
    ∀ (j i : Nat) (x : T_raft_Node) (m : FM) (c o l : Nat), i ≤ 6 → 6 - i < j → Lead k x m n b fi t a bt s c o l → c ≤ 10000 + 1100 * i → o ≤ 110 + 5 * i → l ≤ 9 + i →
    ∃ x' M c' o' l', glacierlaw10_RaftCompacts_l2 k x2 y29 j (i : Int) x (W m : Int) 0 m = some (Flow.go (x', (W M : Int), 0, M)) ∧ Lead k x' M n b fi t a bt s c' o' l' ∧ c' ≤ 20000 ∧ o' ≤ 200 ∧ l' ≤ 16
  | 0, _, _, _, _, _, _, _, hj, _, _, _, _ => by omega
  | j + 1, i, x, m, c, o, l, hi, hj, h, hc, ho, hl => by
    rw [glacierlaw10_RaftCompacts_l2]
    by_cases hlt : i < x2.length
    · rw [if_pos (by simpa using hlt)]
      simp only [bind_some]
      by_cases h6 : i < 6
      · obtain ⟨cmd, hcut, hcl⟩ := cut_at k x2[i] 20
        obtain ⟨q, x', M, e, hL, -⟩ := propose_at k hk 1048576 h (by omega) (by omega) (by omega) (by omega) cmd (by omega)
        rw [if_pos (by simp; omega), gtL hlt]
        simp only [bind_some]
        rw [show (20 : Int) = ((20 : Nat) : Int) from rfl, hcut]
        simp only [bind_some]
        rw [h1, h2, e]
        simp only [bind_some]
        rw [if_neg (by simp), wrN i (by omega)]
        exact compacts_l2 k hk x2 y29 h1 h2 j (i + 1) x' M _ _ _ (by omega) (by omega) hL (by omega) (by omega) (by omega)
      · rw [show decide ((i : Int) < 6) = false by simp; omega]
        exact ⟨x, m, c, o, l, rfl, h, by omega, by omega, by omega⟩
    · rw [if_neg (by simpa using hlt)]
      exact ⟨x, m, c, o, l, rfl, h, by omega, by omega, by omega⟩

theorem com_one {x : T_raft_Node} {b fi : Nat} (h : Com x 1 b fi) (hm : x.match_ 0 = (b : Int) + x.st.Log.length) (hf : fi ≤ b + x.st.Log.length) : x.commit = (b : Int) + x.st.Log.length := by
  have hmaj : Maj x 1 ((b : Int) + x.st.Log.length) := by
    unfold Maj
    simp [cnt, hm]
  rcases h with ⟨h1, h2⟩ | ⟨h1, h2, h3, h4⟩
  · exact absurd hmaj (h2 _ (by omega) (by omega))
  · by_cases hlt : x.commit < (b : Int) + x.st.Log.length
    · exact absurd hmaj (h4 _ hlt (by omega))
    · omega

theorem compacts_main (k : Nat) (hk : 2000 < k) (hak : glacierlaw10_awake k = some true) (x1 : T_glacierlaw10_Start) (x2 : List (List UInt8)) (x3 : List UInt8) : glacierlaw10_RaftCompacts k x1 x2 x3 = some true := by
  unfold glacierlaw10_RaftCompacts
  rw [hak]
  simp only [bind_some, Bool.not_true, Bool.false_eq_true, if_false]
  obtain ⟨sn, hsn, hsl⟩ := cut_at k x3 50
  rw [show (50 : Int) = ((50 : Nat) : Int) from rfl, hsn]
  simp only [bind_some]
  obtain ⟨t, v, b, bt, s, Lr, m, e1, d1, ht, hb, hbt, hl, hke⟩ := kept_at k hk x1
  rw [show (T_glacierlaw10_Start.mk x1.Term x1.Vote x1.Base x1.Terms) = x1 from rfl, e1]
  simp only [bind_some]
  have hx : ∀ e ∈ Lr.map conv, EOk e := fun e he => (hke.eok e he).1
  have hll : (Lr.map conv).length ≤ 6 := by rw [List.length_map]; exact hl
  have hop := open_node k hk 1048576 d1 (n := 1) (by omega) hke.idx hx (by omega)
  rw [show ((1 : Nat) : Int) = 1 from rfl] at hop
  rw [hop]
  simp only [bind_some]
  rw [show (if ((0 : Int) != 0) = true then some true else some false) = some false from rfl]
  simp only [bind_some, Bool.false_eq_true, if_false]
  obtain ⟨xa, ma, e2, hla⟩ := compacts_l1 k hk (1048576, (W m : Int), false, 0, m, Lr, ⟨t, v, b, bt, s, Lr⟩) rfl rfl d1 ht hb hll hke (by omega)
  rw [e2]
  simp only [bind_some]
  obtain ⟨x, M, c, o, l, e3, hL, hc, ho, hl16⟩ := compacts_l2 k hk x2 (1048576, (W m : Int), false, 0, m, Lr, ⟨t, v, b, bt, s, Lr⟩) rfl rfl k 0 xa ma _ _ _ (by omega) (by omega) hla (by omega) (by omega) (by omega)
  rw [show ((0 : Nat) : Int) = 0 from rfl] at e3
  rw [e3]
  simp only [bind_some]
  have hw := hL.well
  have hlen := hL.len
  have hfi := hL.hfi
  have hcom := com_one hL.cm hL.mat0 hfi.2
  -- what is fresh
  have hfresh : raft_Node_Fresh k x 1048576 (W M : Int) false 0 M = some ([], false, x.st.Log, { x with applied := (b : Int) + x.st.Log.length }) := by
    unfold raft_Node_Fresh
    rw [hL.app, hw.base, if_neg (by simp), hcom, wr (n := (b : Int) + 1) (by omega), wr (n := (b : Int) + x.st.Log.length - b) (by omega)]
    have := from_at k 1048576 (W M : Int) false 0 M hw.base hw.hb (by omega) 0 x.st.Log.length (by omega) (by omega)
    rw [show ((b : Int) + ((0 : Nat) : Int) + 1) = (b : Int) + 1 by omega, List.drop_zero, List.take_length] at this
    rw [show ((b : Int) + x.st.Log.length - b) = (x.st.Log.length : Int) by omega, this]
    simp only [bind_some]
    rw [wr (by omega)]
  rw [hfresh]
  simp only [bind_some]
  rw [last_at k 1048576 (W M : Int) false 0 M (x := { x with applied := (b : Int) + x.st.Log.length }) hw.base hw.idx (by simp only; omega)]
  simp only [bind_some, Bool.false_eq_true, if_false]
  rw [wr (n := (b : Int) + x.st.Log.length - b) (by omega), if_neg (by simp; omega)]
  unfold raft_Node_Applied
  simp only [bind_some]
  rw [if_neg (by simp)]
  -- the first Compact
  obtain ⟨p, hp⟩ : ∃ p, x.st.Log.length = p + 1 := ⟨x.st.Log.length - 1, by omega⟩
  have hta := termAt_in k 1048576 (W M : Int) false 0 M (x := { x with applied := (b : Int) + x.st.Log.length }) (b := b) hw.base hw.hb (by simp only; omega) p (by simp only; omega)
  have htp : x.st.Log[p].Term = (t + 1 : Nat) := by
    have := (hL.own p (by omega)).2 (by omega)
    rw [this, hL.term]
  obtain ⟨M2, e5, d5⟩ := hL.dk.snap k hk (room := 1048576) (b + x.st.Log.length) (t + 1) sn [] (by omega) (by omega) (by omega) (by simp) (by simp) (by omega) (by simp; omega)
  have hcompact : raft_Node_Compact k { x with applied := (b : Int) + x.st.Log.length } 1048576 (W M : Int) false 0 M sn = some (0, { x with applied := (b : Int) + x.st.Log.length, st := ⟨x.st.Term, x.st.Vote, (b : Int) + x.st.Log.length, ((t + 1 : Nat) : Int), sn, []⟩ }, (W M2 : Int), 0, M2) := by
    unfold raft_Node_Compact
    rw [show (({ x with applied := (b : Int) + x.st.Log.length } : T_raft_Node).broken != 0) = false by simp [hw.bro]]
    simp only [Bool.false_eq_true, if_false]
    rw [if_neg (by simp; omega), show ((b : Int) + (x.st.Log.length : Int)) = (b : Int) + p + 1 by omega]
    rw [show ((b : Int) + (x.st.Log.length : Int)) = (b : Int) + p + 1 by omega] at hta
    rw [hta]
    simp only [bind_some, Bool.not_true, Bool.false_eq_true, if_false]
    rw [show ((b : Int) + p + 1 == x.st.Base) = false by rw [hw.base]; simp; omega]
    simp only [Bool.false_eq_true, if_false]
    have hfr := from_at k 1048576 (W M : Int) false 0 M (x := { x with applied := (b : Int) + p + 1 }) (b := b) hw.base hw.hb (by simp only; omega) (p + 1) x.st.Log.length (by simp only; omega) (by omega)
    rw [show (({ x with applied := (b : Int) + p + 1 } : T_raft_Node).st.Log.drop (p + 1)) = [] from List.drop_eq_nil_of_le (by simp only; omega), List.take_nil, show ((b : Int) + ((p + 1 : Nat) : Int) + 1) = (b : Int) + p + 1 + 1 by omega] at hfr
    rw [wr (n := (b : Int) + p + 1 + 1) (by have := hw.hb; omega), hfr]
    simp only [bind_some]
    rw [htp, show ((b : Int) + p + 1) = ((b + x.st.Log.length : Nat) : Int) by omega, e5]
    simp only [bind_some]
    rw [check_ok0 k 1048576 (W M2 : Int) false 0 M2 (x := { x with applied := ((b + x.st.Log.length : Nat) : Int) }) hw.bro]
    rfl
  rw [hcompact]
  simp only [bind_some]
  rw [if_neg (by simp)]
  have hcompact2 : raft_Node_Compact_2 k { x with applied := (b : Int) + x.st.Log.length, st := ⟨x.st.Term, x.st.Vote, (b : Int) + x.st.Log.length, ((t + 1 : Nat) : Int), sn, []⟩ } 1048576 (W M2 : Int) false 0 M2 sn = some (5, { x with applied := (b : Int) + x.st.Log.length, st := ⟨x.st.Term, x.st.Vote, (b : Int) + x.st.Log.length, ((t + 1 : Nat) : Int), sn, []⟩ }, (W M2 : Int), 0, M2) := by
    unfold raft_Node_Compact_2 term_State_TermAt_2
    rw [show (({ x with applied := (b : Int) + x.st.Log.length, st := ⟨x.st.Term, x.st.Vote, (b : Int) + x.st.Log.length, ((t + 1 : Nat) : Int), sn, []⟩ } : T_raft_Node).broken != 0) = false by simp [hw.bro]]
    simp only [Bool.false_eq_true, if_false]
    rw [if_neg (by simp; omega)]
    simp
  rw [hcompact2]
  simp only [bind_some]
  rw [show ((5 : Int) != 5) = false from rfl]
  simp only [Bool.false_eq_true, if_false]
  -- opened anew
  have hop2 := open_node k hk 1048576 d5 (n := 1) (by simp) (fun i h => by simp at h) (by simp) (by omega)
  rw [show ((1 : Nat) : Int) = 1 from rfl] at hop2
  rw [hop2]
  simp only [bind_some]
  rw [d5.load k hk 1048576 (by simp) (fun i h => by simp at h) (by simp)]
  simp only [bind_some]
  rw [show ((0 : Int) == 0) = true from rfl]
  simp only [if_true]
  rw [if_pos (by simp), if_pos (by rw [sEq_self]), if_pos (by simp)]
  unfold raft_Node_State raft_Node_State_2
  rw [if_pos (room_of (by simp [node0, nodeT]) (by omega)), if_pos (room_of (by simp) (by omega))]
  simp only [bind_some]
  obtain ⟨r, hr, hrl⟩ := told_at k (by omega) ⟨((t + 1 : Nat) : Int), 1, ((b + x.st.Log.length : Nat) : Int), ((t + 1 : Nat) : Int), sn, []⟩ (by simp)
  have hst : (T_term_State.mk x.st.Term x.st.Vote ((b : Int) + x.st.Log.length) ((t + 1 : Nat) : Int) sn ([] ++ [])) = ⟨((t + 1 : Nat) : Int), 1, ((b + x.st.Log.length : Nat) : Int), ((t + 1 : Nat) : Int), sn, []⟩ := by
    rw [hL.term, hL.vote]
    simp
  have hst0 : (T_term_State.mk (node0 1 (t + 1) 1 (b + x.st.Log.length) (t + 1) sn []).st.Term (node0 1 (t + 1) 1 (b + x.st.Log.length) (t + 1) sn []).st.Vote (node0 1 (t + 1) 1 (b + x.st.Log.length) (t + 1) sn []).st.Base (node0 1 (t + 1) 1 (b + x.st.Log.length) (t + 1) sn []).st.BaseTerm (node0 1 (t + 1) 1 (b + x.st.Log.length) (t + 1) sn []).st.Snap ([] ++ (node0 1 (t + 1) 1 (b + x.st.Log.length) (t + 1) sn []).st.Log)) = ⟨((t + 1 : Nat) : Int), 1, ((b + x.st.Log.length : Nat) : Int), ((t + 1 : Nat) : Int), sn, []⟩ := rfl
  rw [hst0, hst, hr]
  simp only [bind_some]
  rw [same_at k (by omega) _ (by rw [hrl]; simp)]
  simp only [bind_some, if_true]
  rw [last_at k 1048576 (W M2 : Int) false 0 M2 (x := node0 1 (t + 1) 1 (b + x.st.Log.length) (t + 1) sn []) (b := b + x.st.Log.length) rfl (fun i h => by simp [node0, nodeT] at h) (by simp [node0, nodeT])]
  simp [node0, nodeT]

theorem compacts_plain (x1 : T_glacierlaw10_Start) (x2 : List (List UInt8)) (x3 : List UInt8) : ∃ k, glacierlaw10_RaftCompacts k x1 x2 x3 = some true := ⟨3000, compacts_main 3000 (by omega) awake10 x1 x2 x3⟩
theorem raftCompacts_holds : Rows.RaftCompactsSaid := raftCompacts_row fun x1 x2 x3 _ _ _ => compacts_plain x1 x2 x3
end Go.Proofs.Ytpldjopnhhbjpaa
