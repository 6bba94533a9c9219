/-
  RaL: a leader: votes come, commands, and what others tell that they have. Own work.
-/
import Derived.Test.YtpldjopnhhbjpaaGreatRaCRM
namespace Go.Proofs.YtpldjopnhhbjpaaGreat
open Go.Hx

theorem cnt_lt {p : Nat → Bool} (q : Nat) : ∀ (i n : Nat), (∀ j, i ≤ j → j < i + n → p j = decide (j < q)) → cnt p i n = min n (q - i)
  | i, 0, _ => by simp [cnt]
  | i, n + 1, h => by
    rw [cnt, cnt_lt q (i + 1) n fun j h1 h2 => h j (by omega) (by omega), h i (Nat.le_refl _) (by omega)]
    by_cases hq : i < q
    · rw [show decide (i < q) = true by simpa using hq, if_pos rfl]; omega
    · rw [show decide (i < q) = false by simpa using hq, if_neg (by simp)]; omega
theorem optEta4 {α : Type} (q : Option (α × Int × Int × FM)) : (Option.bind q fun y => some (y.1, y.2.1, y.2.2.1, y.2.2.2)) = q := by cases q <;> rfl

section
variable (k : Nat) (hk : 2000 < k) (r : Int)

/-- a message of the leader's own term goes through -/
theorem step_in {x : T_raft_Node} {n b : Nat} (u : Int) (m : FM) (h : Well x n b) (kind : Int) (i : Nat) (h1 : 1 ≤ i) (hi : i < n) (idx : Int) (ok : Bool) (h2 : kind = 2 ∨ kind = 4) :
    raft_Node_Step k x r u false 0 m ⟨kind, (i : Int), 0, x.st.Term, idx, 0, 0, ok, [], []⟩ =
      if kind = 2 then (if x.role = 1 ∧ ok = true then raft_Node_count k { x with votes := upd x.votes i true } r u false 0 m else some (x, u, 0, m))
      else (if x.role = 2 then Option.bind (raft_Node_have k x r u false 0 m ⟨kind, (i : Int), 0, x.st.Term, idx, 0, 0, ok, [], []⟩) fun y => some (y, u, 0, m) else some (x, u, 0, m)) := by
  have hn := h.hn
  unfold raft_Node_Step
  simp only []
  rw [show (x.broken != 0) = false by simp [h.bro], show ((0 : Int) != x.id) = false by simp [h.id], show decide ((i : Int) < 0) = false by simp, show decide ((i : Int) ≥ x.n) = false by rw [h.nn]; simp; omega,
    show ((i : Int) == x.id) = false by rw [h.id, beq_eq_false_iff_ne]; omega, show decide (x.st.Term > x.st.Term) = false by simp]
  simp only [show decide (x.st.Term < x.st.Term) = false by simp, bind_some, Bool.false_eq_true, if_false, Bool.not_false, if_true]
  rcases h2 with rfl | rfl
  · rw [if_neg (by decide), if_pos (by decide), if_pos rfl]
    by_cases hr : x.role = 1
    · rw [if_pos (by simpa using hr)]
      simp only [bind_some]
      cases ok
      · simp
      · rw [if_pos rfl, if_pos (by omega), Int.toNat_natCast, if_pos ⟨hr, rfl⟩]
        exact optEta4 _
    · rw [if_neg (by simpa using hr)]
      simp only [bind_some, Bool.false_eq_true, if_false]
      rw [if_neg (fun h => hr h.1)]
  · rw [if_neg (by decide), if_neg (by decide), if_neg (by decide), if_neg (by decide)]
    simp only [bind_some]
    rw [show ((4 : Int) == 5) = false from rfl, show ((4 : Int) == 4) = true from rfl]
    simp only [Bool.false_eq_true, if_false, if_true]
    by_cases hr : x.role = 2
    · rw [show (x.role == 2) = true by simpa using hr, if_pos rfl, if_pos hr, if_neg (show ¬ (4 : Int) = 2 by decide)]
    · rw [show (x.role == 2) = false by simpa using hr, if_neg (by simp), if_neg hr, if_neg (show ¬ (4 : Int) = 2 by decide)]

include hk
omit hk in
theorem Cand.withVotes {x : T_raft_Node} {m : FM} {n b t a bt c : Nat} {s : List UInt8} (h : Cand k x m n b t a bt s c) (f : Nat → Bool) : Cand k { x with votes := f } m n b t a bt s c :=
  ⟨⟨h.well.id, h.well.nn, h.well.hn, h.well.bro, h.well.base, h.well.hb, h.well.idx, h.well.eok, h.well.term, h.well.com⟩, h.role, h.term, h.snap, h.vote, h.bterm, h.app, h.com, h.old, h.dk, h.out, h.len⟩

/-- between two votes -/
def Way (x : T_raft_Node) (m : FM) (n b t a bt : Nat) (s : List UInt8) (c l i : Nat) : Prop :=
  (Cand k x m n b t a bt s c ∧ x.st.Log.length = l ∧ (∀ j, j < n → x.votes j = decide (j < i)) ∧ 2 * i ≤ n) ∨ (Lead k x m n b (b + l + 1) t a bt s (c + 1100) 110 9 ∧ ∀ j, 1 ≤ j → j < n → x.match_ j = 0)
omit hk in
theorem Way.term {x : T_raft_Node} {m : FM} {n b t a bt c l i : Nat} {s : List UInt8} (h : Way k x m n b t a bt s c l i) : x.st.Term = (t : Int) := by
  rcases h with ⟨h, -⟩ | ⟨h, -⟩
  · exact h.term
  · exact h.term
omit hk in
theorem Way.well {x : T_raft_Node} {m : FM} {n b t a bt c l i : Nat} {s : List UInt8} (h : Way k x m n b t a bt s c l i) : Well x n b := by
  rcases h with ⟨h, -⟩ | ⟨h, -⟩
  · exact h.well
  · exact h.well
theorem Way.step {x : T_raft_Node} {m : FM} {n b t a bt c l i : Nat} {s : List UInt8} (h : Way k x m n b t a bt s c l i) (h1 : 1 ≤ i) (hi : i < n) (hr : r ≤ 1100000) (hc : (c : Int) + 1100 ≤ r) :
    ∃ x' M, raft_Node_Step k x r (W m : Int) false 0 m ⟨2, (i : Int), 0, x.st.Term, 0, 0, 0, true, [], []⟩ = some (x', (W M : Int), 0, M) ∧ Way k x' M n b t a bt s c l (i + 1) := by
  rw [step_in k r (W m : Int) m h.well 2 i h1 hi 0 true (.inl rfl), if_pos rfl]
  rcases h with ⟨h, h2, h3, h4⟩ | ⟨h, hz⟩
  · rw [if_pos ⟨h.role, rfl⟩]
    have hv : ∀ j, j < n → upd x.votes i true j = decide (j < i + 1) := by
      intro j hj
      unfold upd
      by_cases he : j = i
      · rw [if_pos he]; simp [he]
      · rw [if_neg he, h3 j hj]
        congr 1
        simp; omega
    have hcn : cnt (upd x.votes i true) 0 n = i + 1 := by rw [cnt_lt (i + 1) 0 n fun j _ hj => hv j (by omega)]; omega
    have hc2 := h.withVotes k (upd x.votes i true)
    by_cases hm : 2 * (i + 1) ≤ n
    · exact ⟨_, m, count_few k hk r (W m : Int) m hc2.well (by rw [hcn]; exact hm), .inl ⟨hc2, h2, hv, hm⟩⟩
    · obtain ⟨x', M, e, hl, -, hz⟩ := hc2.lead k hk (r := r) (by rw [hcn]; omega) hr hc
      refine ⟨x', M, e, .inr ⟨?_, hz⟩⟩
      rw [← h2]
      exact hl
  · rw [if_neg (fun h' => by rw [h.role] at h'; exact absurd h'.1 (by decide))]
    exact ⟨x, m, rfl, .inr ⟨h, hz⟩⟩

theorem leader_l1 (y15 : Int × Int × Bool × Int × FM × List T_glacierref09_Entry × T_glacierref09_State) (h1 : y15.1 = 1048576) (h2 : y15.2.2.1 = false)
    {m : FM} {n t v b bt c : Nat} {s : List UInt8} {L : List T_term_Entry} (h : DK k m t v b bt s L c) (ht : t ≤ 20) (hb : b ≤ 4) (hl : L.length ≤ 6) (hke : KE b t L) (hc : c ≤ 8000) (hn : 1 ≤ n ∧ n ≤ 5) :
    ∃ x M, glacierlaw10_leader_l1 k y15 k 0 (node0 n t v b bt s L) (W m : Int) 0 m = some (x, (W M : Int), 0, M) ∧ Way k x M n b (t + 1) b bt s (c + 30) L.length 1 := by
  have hx : ∀ e ∈ L, EOk e := fun e he => (hke.eok e he).1
  obtain ⟨y, M1, e4, hcand, hlog, hvot⟩ := tick_stand k hk (r := 1048576) h ht hb hl hke hn (by omega) (by omega)
  have hv1 : ∀ j, j < n → y.votes j = decide (j < 1) := by
    intro j _
    rw [hvot]
    unfold upd
    by_cases h0 : j = 0
    · simp [h0]
    · rw [if_neg h0]; simp; omega
  have hcn : cnt y.votes 0 n = 1 := by rw [cnt_lt 1 0 n fun j _ hj => hv1 j (by omega)]; omega
  have hfin : ∃ x M, raft_Node_count k y 1048576 (W M1 : Int) false 0 M1 = some (x, (W M : Int), 0, M) ∧ Way k x M n b (t + 1) b bt s (c + 30) L.length 1 := by
    by_cases h1 : n = 1
    · obtain ⟨x, M, e5, hlead, -, hz⟩ := hcand.lead k hk (r := 1048576) (by rw [hcn]; omega) (by omega) (by omega)
      rw [hlog] at hlead
      exact ⟨x, M, e5, .inr ⟨hlead, hz⟩⟩
    · exact ⟨y, M1, count_few k hk 1048576 (W M1 : Int) M1 hcand.well (by rw [hcn]; omega), .inl ⟨hcand, by rw [hlog], hv1, by omega⟩⟩
  obtain ⟨x, M, e5, hway⟩ := hfin
  refine ⟨x, M, ?_, hway⟩
  obtain ⟨k', hk'⟩ : ∃ k', k = k' + 5 := ⟨k - 5, by omega⟩
  have step : ∀ (j : Nat) (i : Int) (x : T_raft_Node) (u : Int) (m : FM) (x' : T_raft_Node) (u' : Int) (m' : FM), i < 4 → 0 ≤ i → raft_Node_Tick k x 1048576 u false 0 m = some (x', u', 0, m') → glacierlaw10_leader_l1 k y15 (j + 1) i x u 0 m = glacierlaw10_leader_l1 k y15 j (i + 1) x' u' 0 m' := by
    intro j i x u m x' u' m' hi h0 ht
    rw [glacierlaw10_leader_l1, if_pos (by simpa using hi), h1, h2, ht]
    simp only [bind_some]
    rw [wr (by omega)]
  have sq := fun q => tick_T k (n := n) hn 1048576 (W m : Int) m (t := t) (v := v) (bt := bt) (s := s) (by omega) hb hke.idx hx q
  have e : ∀ j, glacierlaw10_leader_l1 k y15 (j + 5) 0 (node0 n t v b bt s L) (W m : Int) 0 m = some (x, (W M : Int), 0, M) := by
    intro j
    rw [show node0 n t v b bt s L = nodeT n t v b bt s L 0 from rfl, step (j + 4) 0 _ _ _ _ _ _ (by omega) (by omega) (sq 0 (by omega)), step (j + 3) (0 + 1) _ _ _ _ _ _ (by omega) (by omega) (sq (0 + 1) (by omega)),
      step (j + 2) (0 + 1 + 1) _ _ _ _ _ _ (by omega) (by omega) (sq (0 + 1 + 1) (by omega)), step (j + 1) (0 + 1 + 1 + 1) _ _ _ x (W M : Int) M (by omega) (by omega) (by
        rw [show ((0 : Int) + 1 + 1 + 1) = 3 from rfl, e4, e5])]
    rw [glacierlaw10_leader_l1, if_neg (by decide)]
  have := e k'
  rw [← hk'] at this
  exact this

theorem leader_l2 (y15 : Int × Int × Bool × Int × FM × List T_glacierref09_Entry × T_glacierref09_State) (h1 : y15.1 = 1048576) (h2 : y15.2.2.1 = false) {n b t a bt c l : Nat} {s : List UInt8} (hn : 1 ≤ n ∧ n ≤ 5) (hc : c ≤ 9000) :
    ∀ (j i : Nat) (x : T_raft_Node) (m : FM), 1 ≤ i → i ≤ n → n - i < j → Way k x m n b t a bt s c l i →
    ∃ x' M, glacierlaw10_leader_l2 k (n : Int) y15 j (i : Int) x (W m : Int) 0 m = some (x', (W M : Int), 0, M) ∧ Lead k x' M n b (b + l + 1) t a bt s (c + 1100) 110 9 ∧ ∀ j, 1 ≤ j → j < n → x'.match_ j = 0
  | 0, _, _, _, _, _, hj, _ => by omega
  | j + 1, i, x, m, h1i, hi, hj, h => by
    rw [glacierlaw10_leader_l2]
    by_cases hlt : i < n
    · obtain ⟨x', M, e, hw⟩ := h.step k hk 1048576 h1i hlt (by omega) (by omega)
      rw [if_pos (by simpa using hlt)]
      unfold raft_Node_Term
      simp only [bind_some, h1, h2]
      rw [e]
      simp only [bind_some]
      rw [wrN i (by omega)]
      exact leader_l2 y15 h1 h2 hn hc j (i + 1) x' M (by omega) (by omega) (by omega) hw
    · rw [if_neg (by simpa using hlt)]
      refine ⟨x, m, rfl, ?_⟩
      rcases h with ⟨_, _, _, h4⟩ | h
      · omega
      · exact h

theorem leader_l3 (x3 : List (List UInt8)) (y15 : Int × Int × Bool × Int × FM × List T_glacierref09_Entry × T_glacierref09_State) (h1 : y15.1 = 1048576) (h2 : y15.2.2.1 = false) {n b fi t a bt : Nat} {s : List UInt8} :
    ∀ (j i : Nat) (x : T_raft_Node) (m : FM) (c o l : Nat), i ≤ 6 → 6 - i < j → Lead k x m n b fi t a bt s c o l → c ≤ 10000 + 1100 * i → o ≤ 110 + 5 * i → l ≤ 9 + i → (∀ q, 1 ≤ q → q < n → x.match_ q = 0) →
    ∃ x' M c' o' l', glacierlaw10_leader_l3 k x3 y15 j (i : Int) x (W m : Int) 0 m = some (Flow.go (x', (W M : Int), 0, M)) ∧ Lead k x' M n b fi t a bt s c' o' l' ∧ c' ≤ 20000 ∧ o' ≤ 200 ∧ l' ≤ 16 ∧ ∀ q, 1 ≤ q → q < n → x'.match_ q = 0
  | 0, _, _, _, _, _, _, _, hj, _, _, _, _, _ => by omega
  | j + 1, i, x, m, c, o, l, hi, hj, h, hc, ho, hl, hz => by
    rw [glacierlaw10_leader_l3]
    by_cases hlt : i < x3.length
    · rw [if_pos (by simpa using hlt)]
      simp only [bind_some]
      by_cases h6 : i < 6
      · obtain ⟨cmd, hcut, hcl⟩ := cut_at k x3[i] 20
        obtain ⟨q, x', M, e, hL, -, hmt⟩ := propose_at k hk 1048576 h (by omega) (by omega) (by omega) (by omega) cmd (by omega)
        rw [if_pos (by simp; omega), gtL hlt]
        simp only [bind_some]
        rw [show (20 : Int) = ((20 : Nat) : Int) from rfl, hcut]
        simp only [bind_some]
        rw [h1, h2, e]
        simp only [bind_some]
        rw [if_neg (by simp), wrN i (by omega)]
        exact leader_l3 x3 y15 h1 h2 j (i + 1) x' M _ _ _ (by omega) (by omega) hL (by omega) (by omega) (by omega) (fun p h1p hpn => by rw [hmt p h1p]; exact hz p h1p hpn)
      · rw [show decide ((i : Int) < 6) = false by simp; omega]
        exact ⟨x, m, c, o, l, rfl, h, by omega, by omega, by omega, hz⟩
    · rw [if_neg (by simpa using hlt)]
      exact ⟨x, m, c, o, l, rfl, h, by omega, by omega, by omega, hz⟩

omit hk in
theorem Lead.take {x : T_raft_Node} {m : FM} {n b fi t a bt c o l : Nat} {s : List UInt8} (h : Lead k x m n b fi t a bt s c o l) : Lead k { x with out := [] } m n b fi t a bt s c 0 l :=
  ⟨⟨h.well.id, h.well.nn, h.well.hn, h.well.bro, h.well.base, h.well.hb, h.well.idx, h.well.eok, h.well.term, h.well.com⟩, h.role, h.term, h.snap, h.vote, h.bterm, h.app, h.own, h.hfi, h.next, h.mat, h.mat0, h.cm, h.dk, by simp, h.len⟩

/-- a leader of n, on a disk that kept something -/
theorem leader_at (x1 : T_glacierlaw10_Start) (n : Nat) (hn : 1 ≤ n ∧ n ≤ 5) (x3 : List (List UInt8)) : ∃ (t v b bt : Nat) (s : List UInt8) (Lr : List T_glacierref09_Entry) (m0 : FM) (x : T_raft_Node) (M : FM) (c l : Nat),
    glacierlaw10_Kept k x1 = some (1048576, (W m0 : Int), false, 0, m0, Lr, ⟨t, v, b, bt, s, Lr⟩) ∧ Lr.length ≤ 6 ∧ b ≤ 4 ∧
    glacierlaw10_leader k x1 (n : Int) x3 = some (x, 1048576, (W M : Int), false, 0, M) ∧ Lead k x M n b (b + Lr.length + 1) (t + 1) b bt s c 0 l ∧ c ≤ 20000 ∧ l ≤ 16 ∧ ∀ q, 1 ≤ q → q < n → x.match_ q = 0 := by
  obtain ⟨t, v, b, bt, s, Lr, m, e1, d1, ht, hb, hbt, hl, hke⟩ := kept_at k hk x1
  have hx : ∀ e ∈ Lr.map conv, EOk e := fun e he => (hke.eok e he).1
  have hll : (Lr.map conv).length = Lr.length := List.length_map ..
  have hop := open_node k hk 1048576 d1 (n := n) (by omega) hke.idx hx hn
  obtain ⟨xa, ma, e2, hwa⟩ := leader_l1 k hk (1048576, (W m : Int), false, 0, m, Lr, ⟨t, v, b, bt, s, Lr⟩) rfl rfl d1 ht hb (by omega) hke (by omega) hn
  obtain ⟨xb, mb, e3, hlb, hzb⟩ := leader_l2 k hk (1048576, (W m : Int), false, 0, m, Lr, ⟨t, v, b, bt, s, Lr⟩) rfl rfl hn (by omega) k 1 xa ma (by omega) hn.1 (by omega) hwa
  obtain ⟨x, M, c, o, l, e4, hL, hc, ho, hl16, hz⟩ := leader_l3 k hk x3 (1048576, (W m : Int), false, 0, m, Lr, ⟨t, v, b, bt, s, Lr⟩) rfl rfl k 0 xb mb _ _ _ (by omega) (by omega) hlb (by omega) (by omega) (by omega) hzb
  rw [show ((0 : Nat) : Int) = 0 from rfl] at e4
  rw [show ((1 : Nat) : Int) = 1 from rfl] at e3
  rw [hll] at hL
  refine ⟨t, v, b, bt, s, Lr, m, { x with out := [] }, M, c, l, e1, hl, hb, ?_, hL.take, hc, hl16, hz⟩
  unfold glacierlaw10_leader
  rw [show (T_glacierlaw10_Start.mk x1.Term x1.Vote x1.Base x1.Terms) = x1 from rfl, e1]
  simp only [bind_some]
  rw [hop]
  simp only [bind_some]
  rw [show (if ((0 : Int) != 0) = true then some true else some false) = some false from rfl]
  simp only [bind_some, Bool.false_eq_true, if_false]
  rw [e2]
  simp only [bind_some]
  rw [e3]
  unfold raft_Node_Role
  simp only [bind_some]
  rw [show (xb.role != 2) = false by simp [hlb.role]]
  simp only [Bool.false_eq_true, if_false]
  rw [e4]
  rfl

/-- somebody tells what it has -/
theorem have_at {x : T_raft_Node} {m : FM} {n b fi t a bt c o l : Nat} {s : List UInt8} (h : Lead k x m n b fi t a bt s c o l) (ho : o ≤ 900) (hl : l ≤ 30) (i : Nat) (h1 : 1 ≤ i) (hi : i < n) (q : Int) (hq : 0 ≤ q ∧ q ≤ b + x.st.Log.length) (ok : Bool) :
    ∃ z, raft_Node_Step k x r (W m : Int) false 0 m ⟨4, (i : Int), 0, x.st.Term, q, 0, 0, ok, [], []⟩ = some (z, (W m : Int), 0, m) ∧ Lead k z m n b fi t a bt s c (o + 1) l ∧ z.st = x.st ∧
      (ok = true → ∀ j, z.match_ j = if j = i then max (x.match_ i) q else x.match_ j) := by
  have hw := h.well
  have hn := hw.hn
  have hb := hw.hb
  have hlen := h.len
  have hout := h.out
  have hnx := h.next i (by omega)
  have hmt := h.mat i (by omega)
  rw [step_in k r (W m : Int) m hw 4 i h1 hi q ok (.inr rfl), if_neg (by decide), if_pos h.role]
  have hi5 : (0 : Int) ≤ (i : Int) ∧ (i : Int) < 5 := by omega
  generalize hy : (⟨4, (i : Int), 0, x.st.Term, q, 0, 0, ok, [], []⟩ : T_raft_Msg) = y
  have f1 : y.From = (i : Int) := by rw [← hy]
  have f2 : y.Index = q := by rw [← hy]
  have f3 : y.OK = ok := by rw [← hy]
  unfold raft_Node_have
  rw [f1, f2, f3, Int.toNat_natCast]
  cases ok with
  | false =>
    simp only [Bool.not_false, if_true]
    rw [if_pos hi5, if_pos hi5, if_pos hi5, wr (n := q + 1) (by omega), wr (n := x.next i - 1) (by omega), wr (n := x.match_ i + 1) (by omega)]
    have hv : 1 ≤ mx2 (mx2 (mn2 (q + 1) (x.next i - 1)) (x.match_ i + 1)) 1 ∧ mx2 (mx2 (mn2 (q + 1) (x.next i - 1)) (x.match_ i + 1)) 1 ≤ b + x.st.Log.length + 1 := by
      unfold mx2 mn2
      split <;> split <;> split <;> omega
    generalize mx2 (mx2 (mn2 (q + 1) (x.next i - 1)) (x.match_ i + 1)) 1 = w at hv ⊢
    have hwn : upd x.next i w i = w := by simp [upd]
    obtain ⟨y, e, -⟩ := tell_at k r (W m : Int) false 0 m (x := { x with next := upd x.next i w }) (b := b) hw.base hb (by simp only; omega) (by simp only; omega) i (by omega) (by
      show -1000 ≤ upd x.next i w i ∧ upd x.next i w i - 1 ≤ _
      rw [hwn]; simp only; omega)
    rw [e]
    refine ⟨_, rfl, ?_, rfl, fun h => by cases h⟩
    exact ⟨⟨hw.id, hw.nn, hw.hn, hw.bro, hw.base, hw.hb, hw.idx, hw.eok, hw.term, hw.com⟩, h.role, h.term, h.snap, h.vote, h.bterm, h.app, h.own, h.hfi, fun j hj => by
      have := h.next j hj
      show 1 ≤ upd x.next i w j ∧ upd x.next i w j ≤ _
      unfold upd; split <;> simp only <;> omega, h.mat, h.mat0, h.cm, h.dk, by simp only [List.length_append, List.length_singleton]; omega, h.len⟩
  | true =>
    simp only [Bool.not_true, Bool.false_eq_true, if_false]
    rw [if_pos hi5]
    -- what the match is then
    have hstep : ∃ z : T_raft_Node, (Option.bind (if decide (q > x.match_ i) = true then (Option.bind (raft_Node_Last k x r (W m : Int) false 0 m) fun y12 => some (decide (q ≤ y12))) else some false) fun y11 =>
          (if y11 = true then (if (0 : Int) ≤ (i : Int) ∧ (i : Int) < 5 then (Option.bind (raft_Node_settle k (T_raft_Node.mk x.id x.n x.st x.role x.leader x.commit x.applied x.timer x.votes x.next (upd x.match_ i q) x.out x.broken) r (W m : Int) false 0 m) fun y13 => some y13) else none) else some x)) = some z ∧
        z.st = x.st ∧ z.id = x.id ∧ z.n = x.n ∧ z.role = x.role ∧ z.applied = x.applied ∧ z.next = x.next ∧ z.out = x.out ∧ z.broken = x.broken ∧ (∀ j, z.match_ j = if j = i then max (x.match_ i) q else x.match_ j) ∧ Com z n b fi ∧ ((b : Int) ≤ z.commit ∧ z.commit ≤ b + x.st.Log.length) := by
      by_cases hgt : q > x.match_ i
      · rw [if_pos (by simpa using hgt), last_at k r (W m : Int) false 0 m hw.base hw.idx (by omega)]
        simp only [bind_some]
        rw [if_pos (by simpa using hq.2), if_pos hi5]
        have hmono : ∀ j, j < n → x.match_ j ≤ upd x.match_ i q j := by
          intro j _
          unfold upd
          split
          · rename_i he; subst he; omega
          · omega
        obtain ⟨cm, e3, h3⟩ := settle_at k r (W m : Int) false 0 m (x := T_raft_Node.mk x.id x.n x.st x.role x.leader x.commit x.applied x.timer x.votes x.next (upd x.match_ i q) x.out x.broken) (fi := fi) hk hw.nn hn.2 hw.base hb hw.idx (by simp only; omega) hw.com h.own
        rw [e3]
        have hC := com_of (x := T_raft_Node.mk x.id x.n x.st x.role x.leader x.commit x.applied x.timer x.votes x.next (upd x.match_ i q) x.out x.broken) (b := b) (fi := fi) h.hfi.1 (by
          rcases h.cm with ⟨c1, -⟩ | ⟨c1, c2, c3, -⟩
          · exact .inl c1
          · exact .inr ⟨c1, c2, c3.mono hmono⟩) h3
        refine ⟨_, rfl, rfl, rfl, rfl, rfl, rfl, rfl, rfl, rfl, fun j => ?_, hC, ?_⟩
        · show upd x.match_ i q j = _
          unfold upd
          split
          · omega
          · rfl
        · have := hw.com
          rcases h3 with ⟨hc1, -⟩ | ⟨hc1, hc2, hc3, -⟩
          · simp only at hc1 ⊢; omega
          · simp only at hc1 hc3 ⊢; omega
      · rw [if_neg (by simpa using hgt)]
        simp only [bind_some, Bool.false_eq_true, if_false]
        refine ⟨x, rfl, rfl, rfl, rfl, rfl, rfl, rfl, rfl, rfl, fun j => ?_, h.cm, hw.com⟩
        split
        · rename_i he; subst he; omega
        · rfl
    obtain ⟨z, ez, z1, z2, z3, z4, z5, z6, z7, z8, z9, z10, z11⟩ := hstep
    rw [ez]
    simp only [bind_some]
    rw [if_pos hi5, if_pos hi5, if_pos hi5, if_pos hi5]
    have hzm : z.match_ i = max (x.match_ i) q := by rw [z9 i, if_pos rfl]
    rw [wr (n := z.match_ i + 1) (by rw [hzm]; omega), z6]
    have hv : 1 ≤ mx2 (x.next i) (z.match_ i + 1) ∧ mx2 (x.next i) (z.match_ i + 1) ≤ b + x.st.Log.length + 1 := by
      rw [hzm]; unfold mx2; split <;> omega
    generalize mx2 (x.next i) (z.match_ i + 1) = w at hv ⊢
    have hwn : upd x.next i w i = w := by simp [upd]
    have hlst : raft_Node_Last k (T_raft_Node.mk z.id z.n z.st z.role z.leader z.commit z.applied z.timer z.votes (upd x.next i w) z.match_ z.out z.broken) r (W m : Int) false 0 m = some ((b : Int) + x.st.Log.length) := by
      have := last_at k r (W m : Int) false 0 m (x := T_raft_Node.mk z.id z.n z.st z.role z.leader z.commit z.applied z.timer z.votes (upd x.next i w) z.match_ z.out z.broken) (b := b) (by rw [z1]; exact hw.base) (by rw [z1]; exact hw.idx) (by rw [z1]; omega)
      rw [this, z1]
    rw [hlst]
    simp only [bind_some, hwn]
    have hLz : ∀ (ys : List T_raft_Msg), ys.length ≤ 1 → Lead k (T_raft_Node.mk z.id z.n z.st z.role z.leader z.commit z.applied z.timer z.votes (upd x.next i w) z.match_ (z.out ++ ys) z.broken) m n b fi t a bt s c (o + 1) l := by
      intro ys hys
      exact {
        well := ⟨by rw [z2]; exact hw.id, by rw [z3]; exact hw.nn, hw.hn, by rw [z8]; exact hw.bro, by rw [z1]; exact hw.base, hw.hb, by rw [z1]; exact hw.idx, by rw [z1]; exact hw.eok, by rw [z1]; exact hw.term, by rw [z1]; exact z11⟩
        role := by rw [z4]; exact h.role
        term := by rw [z1]; exact h.term
        snap := by rw [z1]; exact h.snap
        vote := by rw [z1]; exact h.vote
        bterm := by rw [z1]; exact h.bterm
        app := by rw [z5]; exact h.app
        own := by rw [z1]; exact h.own
        hfi := by rw [z1]; exact h.hfi
        next := fun j hj => by
          have := h.next j hj
          show 1 ≤ upd x.next i w j ∧ upd x.next i w j ≤ _
          rw [z1]
          unfold upd; split <;> omega
        mat := fun j hj => by
          have := h.mat j hj
          show 0 ≤ z.match_ j ∧ z.match_ j ≤ _
          rw [z9 j, z1]
          split <;> omega
        mat0 := by
          show z.match_ 0 = _
          rw [z9 0, if_neg (by omega), z1]; exact h.mat0
        cm := by
          have := z10
          unfold Com Maj at this ⊢
          exact this
        dk := by rw [z1]; exact h.dk
        out := by rw [z7, List.length_append]; omega
        len := by rw [z1]; exact h.len }
    by_cases hle : w ≤ (b : Int) + x.st.Log.length
    · rw [if_pos (by simpa using hle), if_pos hi5, wr (n := q + 1) (by omega)]
      simp only [bind_some]
      by_cases heq : q + 1 = w
      · rw [if_pos (by simpa using heq)]
        obtain ⟨y, e, -⟩ := tell_at k r (W m : Int) false 0 m (x := T_raft_Node.mk z.id z.n z.st z.role z.leader z.commit z.applied z.timer z.votes (upd x.next i w) z.match_ z.out z.broken) (b := b) (by rw [z1]; exact hw.base) hb (by rw [z1]; omega) (by rw [z7]; omega) i (by omega) (by
          show -1000 ≤ upd x.next i w i ∧ upd x.next i w i - 1 ≤ _
          rw [hwn, z1]; omega)
        rw [e]
        exact ⟨_, rfl, hLz [y] (by simp), z1, fun _ => z9⟩
      · rw [if_neg (by simpa using heq)]
        have := hLz [] (by simp)
        rw [List.append_nil] at this
        exact ⟨_, rfl, this, z1, fun _ => z9⟩
    · rw [if_neg (by simpa using hle)]
      simp only [bind_some, Bool.false_eq_true, if_false]
      have := hLz [] (by simp)
      rw [List.append_nil] at this
      exact ⟨_, rfl, this, z1, fun _ => z9⟩
end
end Go.Proofs.YtpldjopnhhbjpaaGreat
