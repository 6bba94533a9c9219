/-
  RaC: a disk that keeps something, a node that is opened on it, ticks up to its first vote. Own work.
-/
import Derived.Test.YtpldjopnhhbjpaaGreatRaBRM
namespace Go.Proofs.YtpldjopnhhbjpaaGreat
open Go.Hx

theorem newK (k : Nat) (n : Nat) : platter_New k (n : Int) = some ((n : Int), 0, false, 0, []) := by
  unfold platter_New meter_Made
  simp only [bind_some]
  rw [show mx2 (n : Int) 0 = (n : Int) from by unfold mx2; rw [if_neg (by omega)]]
theorem clamp (x : Int) (hi : Nat) : ∃ n : Nat, n ≤ hi ∧ mn2 (mx2 x 0) (hi : Int) = (n : Int) := by
  refine ⟨(mn2 (mx2 x 0) (hi : Int)).toNat, ?_, ?_⟩
  · unfold mn2 mx2; split <;> split <;> omega
  · unfold mn2 mx2; split <;> split <;> omega
theorem cut_at (k : Nat) (s : List UInt8) (n : Nat) : ∃ t, glacierlaw01_Cut k s (n : Int) = some t ∧ t.length ≤ n := by
  unfold glacierlaw01_Cut
  by_cases h : n < s.length
  · rw [if_pos (by simpa using h)]
    have : sl s 0 (n : Int) = some (s.take n) := by unfold sl; rw [if_pos (by omega)]; simp
    rw [this]
    exact ⟨_, rfl, by simp only [List.length_take]; omega⟩
  · rw [if_neg (by simpa using h)]
    exact ⟨_, rfl, by omega⟩

def conv (e : T_glacierref09_Entry) : T_term_Entry := ⟨e.Index, e.Term, e.Cmd⟩
/-- entries that a law's node keeps -/
structure KE (b t : Nat) (L : List T_term_Entry) : Prop where
  idx : Idx b L
  eok : ∀ e ∈ L, EOk e ∧ e.Term ≤ (t : Int)
theorem KE.push {b t : Nat} {L : List T_term_Entry} (h : KE b t L) {e : T_term_Entry} (h1 : e.Index = (b : Int) + L.length + 1) (h2 : EOk e ∧ e.Term ≤ (t : Int)) : KE b t (L ++ [e]) :=
  ⟨h.idx.push h1, fun x hx => by
    rcases List.mem_append.1 hx with hx | hx
    · exact h.eok x hx
    · obtain rfl := List.mem_singleton.1 hx; exact h2⟩

section
variable (k : Nat)
theorem DK.snap (hk : 2000 < k) {room : Int} {m : FM} {t v a b c : Nat} {s : List UInt8} {L : List T_term_Entry} (h : DK k m t v a b s L c) (a' b' : Nat) (s' : List UInt8) (L' : List T_term_Entry) (ha : a' ≤ 1000) (hb : b' ≤ 1000) (hs : s'.length ≤ 100) (hl : L'.length ≤ 50) (hx : ∀ x ∈ L', EOk x)
    (hr : room ≤ 1100000) (hc : (c : Int) + 1100 * L'.length + 1100 ≤ room) :
    ∃ M, term_SaveSnap k room (W m : Int) false 0 m (a' : Int) (b' : Int) s' L' = some (0, (W M : Int), 0, M) ∧ DK k M t v a' b' s' L' (c + 1100 * L'.length + 1100) := by
  obtain ⟨B, hB⟩ := h.wf
  have hw := h.w
  obtain ⟨M, f, fs, e1, e2, e3, e4, e5, e6⟩ := saveSnap_ok k hk room hB a' b' (by omega) (by omega) (s := s') (by omega) (l := L') (by omega) hx hr (by omega)
  refine ⟨M, e1, ⟨_, e4⟩, ?_, .inr ⟨f, e2, by rw [e6, if_neg (by decide), if_pos rfl], by omega, by omega, by omega⟩, .inr ⟨fs, e3, by rw [e6, if_pos rfl]⟩, by omega⟩
  have := e6 fT
  rw [if_neg (by decide), if_neg (by decide)] at this
  unfold TermOf; rw [this]; exact h.ter
theorem DK.load (hk : 2000 < k) (room : Int) {m : FM} {t v a b c : Nat} {s : List UInt8} {L : List T_term_Entry} (h : DK k m t v a b s L c) (hl : L.length ≤ 50) (hi : Idx a L) (hx : ∀ x ∈ L, EOk x) :
    term_Load k room (W m : Int) false 0 m = some (L, ⟨t, v, a, b, s, L⟩, 0, (W m : Int), 0, m) := by
  obtain ⟨B, hB⟩ := h.wf
  have := load_ok k hk room (W m : Int) hB.som h.ter h.snp h.lg (by omega) hx
  rw [beh_idx hi] at this
  exact this

theorem kept_l1 (x1 : T_glacierlaw10_Start) (b t : Nat) (hb : mn2 (mx2 x1.Base 0) 4 = (b : Int)) (hb4 : b ≤ 4) (ht : mn2 (mx2 x1.Term 0) 20 = (t : Int)) (ht20 : t ≤ 20) : ∀ (j i : Nat) (last : Int) (acc : List T_glacierref09_Entry), i ≤ 6 → 6 - i < j → acc.length = i → 0 ≤ last → last ≤ t → KE b t (acc.map conv) →
    ∃ l, glacierlaw10_Kept_l1 k x1 j last (i : Int) acc = some l ∧ l.length ≤ 6 ∧ KE b t (l.map conv)
  | 0, _, _, _, _, hj, _, _, _, _ => by omega
  | j + 1, i, last, acc, hi, hj, ha, h0, h1, hk => by
    rw [glacierlaw10_Kept_l1]
    by_cases hlt : i < x1.Terms.length
    · rw [if_pos (by simpa using hlt)]
      simp only [bind_some]
      by_cases h6 : i < 6
      · rw [if_pos (by simp; omega), gtL hlt]
        simp only [bind_some, ht, hb]
        have hm : 0 ≤ mn2 (mx2 x1.Terms[i] last) (t : Int) ∧ mn2 (mx2 x1.Terms[i] last) (t : Int) ≤ t := by unfold mn2 mx2; split <;> split <;> omega
        generalize mn2 (mx2 x1.Terms[i] last) (t : Int) = q at hm ⊢
        have hq : q.tmod 26 = q := Int.tmod_eq_of_lt (by omega) (by omega)
        have hc : IntKind.i32.wrap (IntKind.i64.wrap (97 + q.tmod 26)) = 97 + q := by
          rw [hq, wr (by omega)]
          rw [IntKind.wrap_i32]; omega
        rw [hc, if_pos (by omega)]
        have hcat : cat [99] [UInt8.ofNat (97 + q).toNat] = some [99, UInt8.ofNat (97 + q).toNat] := cat_of (by simp)
        rw [hcat]
        simp only [bind_some]
        rw [if_pos (room_of (by simp; omega) (by omega)), wr (n := (b : Int) + i) (by omega), wr (n := (b : Int) + i + 1) (by omega), wrN i (by omega)]
        refine kept_l1 x1 b t hb hb4 ht ht20 j (i + 1) q _ (by omega) (by omega) (by simp; omega) hm.1 hm.2 ?_
        rw [List.map_append]
        refine hk.push (by simp [conv, ha]) ⟨⟨by simp [conv]; omega, by simp [conv]; omega, by simp [conv]; omega, by simp [conv]; omega, by simp [conv]⟩, by simp [conv]; omega⟩
      · rw [show decide ((i : Int) < 6) = false by simp; omega]
        exact ⟨acc, rfl, by omega, hk⟩
    · rw [if_neg (by simpa using hlt)]
      exact ⟨acc, rfl, by omega, hk⟩
theorem kept_l2 (y : List T_glacierref09_Entry) (hy : y.length ≤ 6) : ∀ (j i : Nat) (acc : List T_term_Entry), i ≤ y.length → y.length - i < j → acc.length = i → glacierlaw10_Kept_l2 k y j acc (i : Int) = some (acc ++ (y.drop i).map conv)
  | 0, _, _, _, hj, _ => by omega
  | j + 1, i, acc, hi, hj, ha => by
    rw [glacierlaw10_Kept_l2]
    by_cases h : i < y.length
    · rw [if_pos (by simpa using h), gtL h]
      simp only [bind_some]
      rw [if_pos (room_of (by simp; omega) (by omega)), wrN i (by omega), kept_l2 y hy j (i + 1) _ (by omega) (by omega) (by simp; omega), List.drop_eq_getElem_cons h, List.append_assoc]
      rfl
    · rw [if_neg (by simpa using h), List.drop_eq_nil_of_le (by omega)]
      simp
theorem kept_at (hk : 2000 < k) (x1 : T_glacierlaw10_Start) : ∃ (t v b bt : Nat) (s : List UInt8) (Lr : List T_glacierref09_Entry) (M : FM), glacierlaw10_Kept k x1 = some (1048576, (W M : Int), false, 0, M, Lr, ⟨t, v, b, bt, s, Lr⟩) ∧
    DK k M t v b bt s (Lr.map conv) 8000 ∧ t ≤ 20 ∧ b ≤ 4 ∧ bt ≤ 1 ∧ Lr.length ≤ 6 ∧ KE b t (Lr.map conv) := by
  obtain ⟨t, ht20, ht⟩ := clamp x1.Term 20
  obtain ⟨v, hv5, hv⟩ := clamp x1.Vote 5
  obtain ⟨b, hb4, hb⟩ := clamp x1.Base 4
  rw [show ((20 : Nat) : Int) = 20 from rfl] at ht
  rw [show ((5 : Nat) : Int) = 5 from rfl] at hv
  rw [show ((4 : Nat) : Int) = 4 from rfl] at hb
  obtain ⟨bt, s, hy, hbt, hbt2, hs⟩ : ∃ (bt : Nat) (s : List UInt8), (if decide ((b : Int) > 0) = true then some ((mn2 1 (t : Int)), ([115, 110, 97, 112] : List UInt8)) else some ((0 : Int), ([] : List UInt8))) = some ((bt : Int), s) ∧ bt ≤ 1 ∧ bt ≤ t ∧ s.length ≤ 4 := by
    by_cases h : 0 < b
    · rw [if_pos (by simpa using h)]
      by_cases h1 : t < 1
      · exact ⟨0, _, by unfold mn2; rw [if_pos (by omega)]; congr 2; omega, by omega, by omega, by simp⟩
      · exact ⟨1, _, by unfold mn2; rw [if_neg (by omega)]; rfl, by omega, by omega, by simp⟩
    · rw [if_neg (by simpa using h)]
      exact ⟨0, [], rfl, by omega, by omega, by simp⟩
  obtain ⟨Lr, e1, hl, hke⟩ := kept_l1 k x1 b t hb hb4 ht ht20 k 0 (bt : Int) [] (by omega) (by omega) rfl (by omega) (by omega) ⟨fun i h => by simp at h, by simp⟩
  have e2 := kept_l2 k Lr hl k 0 [] (by omega) (by omega) rfl
  rw [List.drop_zero, List.nil_append] at e2
  rw [show ((0 : Nat) : Int) = 0 from rfl] at e1 e2
  have d0 : DK k [] 0 0 0 0 [] [] 0 := ⟨⟨0, WF.nil 900000⟩, .inl ⟨rfl, rfl, rfl⟩, .inl ⟨rfl, rfl, rfl, rfl⟩, .inl ⟨rfl, rfl⟩, by simp [W]⟩
  obtain ⟨M1, e3, d1⟩ := d0.term k hk (room := 1048576) t v (by omega) (by omega) (by omega) (by omega)
  obtain ⟨M2, e4, d2⟩ := d1.snap k hk (room := 1048576) b bt s (Lr.map conv) (by omega) (by omega) (by omega) (by simp; omega) (fun x hx => (hke.eok x hx).1) (by omega) (by simp; omega)
  refine ⟨t, v, b, bt, s, Lr, M2, ?_, ⟨d2.wf, d2.ter, d2.snp, d2.lg, Nat.le_trans d2.w (by simp; omega)⟩, ht20, hb4, hbt, hl, hke⟩
  unfold glacierlaw10_Kept
  rw [show (1048576 : Int) = ((1048576 : Nat) : Int) from rfl, newK]
  simp only [bind_some]
  rw [hb, ht, hv, hy]
  simp only [bind_some]
  rw [e1]
  simp only [bind_some]
  rw [e2]
  simp only [bind_some]
  rw [show (W ([] : FM) : Int) = 0 by simp [W], show (1048576 : Int) = ((1048576 : Nat) : Int) from rfl] at e3
  rw [e3]
  simp only [bind_some]
  rw [if_neg (by simp), show ((1048576 : Nat) : Int) = 1048576 from rfl, e4]
  simp

/-- a node that was opened -/
def nodeT (n t v b bt : Nat) (s : List UInt8) (L : List T_term_Entry) (q : Int) : T_raft_Node := ⟨0, n, ⟨t, v, b, bt, s, L⟩, 0, 0, b, b, q, fun _ => false, fun _ => 0, fun _ => 0, [], 0⟩
def node0 (n t v b bt : Nat) (s : List UInt8) (L : List T_term_Entry) : T_raft_Node := nodeT n t v b bt s L 0
theorem open_node (hk : 2000 < k) (room : Int) {m : FM} {t v b bt c n : Nat} {s : List UInt8} {L : List T_term_Entry} (h : DK k m t v b bt s L c) (hl : L.length ≤ 50) (hi : Idx b L) (hx : ∀ x ∈ L, EOk x) (hn : 1 ≤ n ∧ n ≤ 5) :
    raft_Open k room (W m : Int) false 0 m 0 (n : Int) = some (node0 n t v b bt s L, 0, (W m : Int), 0, m) := by
  unfold raft_Open
  rw [if_neg (by simp; omega), if_neg (by simp; omega), if_neg (by simp)]
  simp only [bind_some]
  rw [if_neg (by simp; omega), h.load k hk room hl hi hx]
  rfl
theorem wellT {n t v b bt : Nat} {s : List UInt8} {L : List T_term_Entry} (ht : t ≤ 99) (hb : b ≤ 4) (hi : Idx b L) (hx : ∀ x ∈ L, EOk x) (hn : 1 ≤ n ∧ n ≤ 5) (q : Int) : Well (nodeT n t v b bt s L q) n b :=
  ⟨rfl, rfl, hn, rfl, rfl, by omega, hi, hx, by simp [nodeT]; omega, by simp [nodeT]; omega⟩

/-- time goes on, and nothing comes -/
theorem tick_wait {x : T_raft_Node} {n b : Nat} (r u : Int) (m : FM) (h : Well x n b) (hr : x.role = 0) (ht : 0 ≤ x.timer ∧ x.timer < 3) : raft_Node_Tick k x r u false 0 m = some ({ x with timer := x.timer + 1 }, u, 0, m) := by
  unfold raft_Node_Tick raft_Node_patience
  rw [show (x.broken != 0) = false by simp [h.bro], show (x.role == 2) = false by simp [hr]]
  simp only [Bool.false_eq_true, if_false, bind_some]
  have hp : IntKind.i64.wrap (4 + IntKind.i64.wrap (2 * x.id)) = 4 := by rw [h.id]; rfl
  rw [wr (n := x.timer + 1) (by omega), hp, if_neg (by rw [decide_eq_true_eq]; omega)]

theorem tick_T {n : Nat} (hn : 1 ≤ n ∧ n ≤ 5) {t v b bt : Nat} {s : List UInt8} {L : List T_term_Entry} (r u : Int) (m : FM) (ht : t ≤ 99) (hb : b ≤ 4) (hi : Idx b L) (hx : ∀ x ∈ L, EOk x) (q : Int) (hq : 0 ≤ q ∧ q < 3) :
    raft_Node_Tick k (nodeT n t v b bt s L q) r u false 0 m = some (nodeT n t v b bt s L (q + 1), u, 0, m) := tick_wait k r u m (wellT ht hb hi hx hn q) rfl hq

/-- a candidate -/
structure Cand (x : T_raft_Node) (m : FM) (n b t a bt : Nat) (s : List UInt8) (c : Nat) : Prop where
  well : Well x n b
  role : x.role = 1
  term : x.st.Term = (t : Int)
  snap : x.st.Snap = s
  vote : x.st.Vote = 1
  bterm : x.st.BaseTerm = (bt : Int)
  app : x.applied = (b : Int)
  com : x.commit = (b : Int)
  old : ∀ e ∈ x.st.Log, e.Term ≠ x.st.Term
  dk : DK k m t 1 a bt s x.st.Log c
  out : x.out.length ≤ 10
  len : x.st.Log.length ≤ 8
theorem Cand.lead (hk : 2000 < k) {r : Int} {x : T_raft_Node} {m : FM} {n b t a bt c : Nat} {s : List UInt8} (h : Cand k x m n b t a bt s c) (hv : n < 2 * cnt x.votes 0 n) (hr : r ≤ 1100000) (hc : (c : Int) + 1100 ≤ r) :
    ∃ x' M, raft_Node_count k x r (W m : Int) false 0 m = some (x', (W M : Int), 0, M) ∧ Lead k x' M n b (b + x.st.Log.length + 1) t a bt s (c + 1100) 110 9 ∧ x'.st.Log.length = x.st.Log.length + 1 ∧ ∀ j, 1 ≤ j → j < n → x'.match_ j = 0 := by
  have := h.out
  exact count_lead k hk r h.well h.len (by omega) hv h.dk hr hc h.old h.com h.term h.snap h.vote h.bterm h.app
theorem asks (hk : 2000 < k) (r : Int) (y9 : Bool × T_raft_Node × Int × Int × FM) (y10 : Int × Int) {n : Nat} (hn : y9.2.1.n = (n : Int)) (hn5 : n ≤ 5) : ∀ (j i : Nat) (x : T_raft_Node), i ≤ n → n - i < j → x.out.length ≤ i →
    ∃ ys, raft_Node_stand_l1 k r false y9 y10 j (i : Int) x = some { x with out := x.out ++ ys } ∧ x.out.length + ys.length ≤ n
  | 0, _, _, _, hj, _ => by omega
  | j + 1, i, x, hi, hj, ho => by
    rw [raft_Node_stand_l1, hn]
    by_cases h : i < n
    · rw [if_pos (by simpa using h), wrN i (by omega)]
      by_cases hid : ((i : Int) != x.id) = true
      · rw [if_pos hid, send_at k r _ false _ _ (by omega)]
        simp only [bind_some]
        obtain ⟨ys, e, h1⟩ := asks hk r y9 y10 hn hn5 j (i + 1) { x with out := x.out ++ [⟨1, x.id, (i : Int), x.st.Term, y10.1, y10.2, 0, false, [], []⟩] } (by omega) (by omega) (by simp; omega)
        exact ⟨⟨1, x.id, (i : Int), x.st.Term, y10.1, y10.2, 0, false, [], []⟩ :: ys, by rw [e]; simp, by simp at h1 ⊢; omega⟩
      · rw [if_neg hid]
        simp only [bind_some]
        obtain ⟨ys, e, h1⟩ := asks hk r y9 y10 hn hn5 j (i + 1) x (by omega) (by omega) (by omega)
        exact ⟨ys, e, h1⟩
    · rw [if_neg (by simpa using h)]
      exact ⟨[], by simp, by simp; omega⟩

/-- the fourth tick: it asks for votes -/
theorem tick_stand (hk : 2000 < k) {r : Int} {m : FM} {n t v b bt c : Nat} {s : List UInt8} {L : List T_term_Entry} (h : DK k m t v b bt s L c) (ht : t ≤ 20) (hb : b ≤ 4) (hl : L.length ≤ 6) (hke : KE b t L) (hn : 1 ≤ n ∧ n ≤ 5) (hr : r ≤ 1100000) (hc : (c : Int) + 30 ≤ r) :
    ∃ y M, raft_Node_Tick k (nodeT n t v b bt s L 3) r (W m : Int) false 0 m = raft_Node_count k y r (W M : Int) false 0 M ∧ Cand k y M n b (t + 1) b bt s (c + 30) ∧ y.st.Log = L ∧ y.votes = upd (fun _ => false) 0 true := by
  obtain ⟨M, e1, d1⟩ := h.term k hk (room := r) (t + 1) 1 (by omega) (by omega) hr hc
  have hx : ∀ e ∈ L, EOk e := fun e he => (hke.eok e he).1
  have hw : Well (nodeT n t v b bt s L 3) n b := ⟨rfl, rfl, hn, rfl, rfl, by omega, hke.idx, hx, by simp [nodeT]; omega, by simp [nodeT]; omega⟩
  obtain ⟨x1, hx1⟩ : ∃ x1 : T_raft_Node, x1 = ⟨0, n, ⟨t + 1, 1, b, bt, s, L⟩, 1, 0, b, b, 0, upd (fun _ => false) 0 true, fun _ => 0, fun _ => 0, [], 0⟩ := ⟨_, rfl⟩
  have hlast : ∃ q1 q2, term_State_Last k x1 r (W M : Int) false 0 M = some (q1, q2) := by
    have hli := last_at k r (W M : Int) false 0 M (x := x1) (b := b) (by rw [hx1]) (by rw [hx1]; exact hke.idx) (by rw [hx1]; simp only; omega)
    unfold raft_Node_Last at hli
    cases hq : term_State_Last k x1 r (W M : Int) false 0 M with
    | none => rw [hq] at hli; cases hli
    | some q => exact ⟨q.1, q.2, rfl⟩
  obtain ⟨q1, q2, hq⟩ := hlast
  have hturn : raft_Node_turn k (nodeT n t v b bt s L 4) r (W m : Int) false 0 m ((t : Int) + 1) 1 = some (true, ⟨0, n, ⟨t + 1, 1, b, bt, s, L⟩, 0, 0, b, b, 4, fun _ => false, fun _ => 0, fun _ => 0, [], 0⟩, (W M : Int), 0, M) := by
    unfold raft_Node_turn
    rw [show ((t : Int) + 1) = ((t + 1 : Nat) : Int) by omega, show (1 : Int) = ((1 : Nat) : Int) from rfl, e1]
    simp only [bind_some]
    rw [check_ok0 k r _ false 0 M rfl]
    simp only [bind_some, Bool.not_true, Bool.false_eq_true, if_false]
    rw [if_pos (by simp [nodeT]; omega)]
    rfl
  obtain ⟨ys, e2, hys⟩ := asks k hk r (true, (⟨0, n, ⟨t + 1, 1, b, bt, s, L⟩, 0, 0, b, b, 4, fun _ => false, fun _ => 0, fun _ => 0, [], 0⟩ : T_raft_Node), (W M : Int), 0, M) (q1, q2) (n := n) rfl hn.2 k 0 x1 (by omega) (by omega) (by rw [hx1]; simp)
  refine ⟨{ x1 with out := x1.out ++ ys }, M, ?_, ?_, by rw [hx1], by rw [hx1]⟩
  · unfold raft_Node_Tick raft_Node_patience
    have b1 : ((nodeT n t v b bt s L 3).broken != 0) = false := rfl
    have b2 : ((nodeT n t v b bt s L 3).role == 2) = false := rfl
    rw [b1, b2]
    simp only [Bool.false_eq_true, if_false, bind_some]
    rw [if_pos (show decide (IntKind.i64.wrap ((nodeT n t v b bt s L 3).timer + 1) ≥ IntKind.i64.wrap (4 + IntKind.i64.wrap (2 * (nodeT n t v b bt s L 3).id))) = true from rfl)]
    have hst : raft_Node_stand k (nodeT n t v b bt s L 4) r (W m : Int) false 0 m = raft_Node_count k { x1 with out := x1.out ++ ys } r (W M : Int) false 0 M := by
      unfold raft_Node_stand
      have c1 : IntKind.i64.wrap ((nodeT n t v b bt s L 4).st.Term + 1) = (t : Int) + 1 := by
        show IntKind.i64.wrap ((t : Int) + 1) = _
        exact wr (by omega)
      have c2 : IntKind.i64.wrap ((nodeT n t v b bt s L 4).id + 1) = 1 := rfl
      rw [c1, c2, hturn]
      simp only [bind_some, Bool.not_true, Bool.false_eq_true, if_false]
      rw [if_pos (by omega)]
      rw [show (T_raft_Node.mk 0 (n : Int) (T_term_State.mk ((t : Int) + 1) 1 b bt s L) 1 0 b b 0 (upd (fun _ => false) (0 : Int).toNat true) (fun _ => 0) (fun _ => 0) [] 0) = x1 by rw [hx1]; rfl, hq]
      simp only [bind_some]
      rw [show ((0 : Nat) : Int) = 0 from rfl] at e2
      rw [e2]
      simp only [bind_some]
      cases raft_Node_count k { x1 with out := x1.out ++ ys } r (W M : Int) false 0 M <;> rfl
    have hst' : raft_Node_stand k (T_raft_Node.mk 0 (n : Int) (T_term_State.mk t v b bt s L) 0 0 b b (IntKind.i64.wrap (3 + 1)) (fun _ => false) (fun _ => 0) (fun _ => 0) [] 0) r (W m : Int) false 0 m = raft_Node_count k { x1 with out := x1.out ++ ys } r (W M : Int) false 0 M := hst
    have hgoal : ∀ q : Option (T_raft_Node × Int × Int × FM), (Option.bind q fun y6 => some (y6.1, y6.2.1, y6.2.2.1, y6.2.2.2)) = q := fun q => by cases q <;> rfl
    rw [hgoal]
    exact hst'
  · subst hx1
    exact {
      well := ⟨rfl, rfl, hn, rfl, rfl, by omega, hke.idx, hx, by simp only; omega, by simp only; omega⟩
      role := rfl
      term := by simp only; omega
      snap := rfl
      vote := rfl
      bterm := rfl
      app := rfl
      com := rfl
      old := fun e he => by
        have := (hke.eok e he).2
        simp only; omega
      dk := d1
      out := by simp at hys ⊢; omega
      len := by simp only; omega }
end
end Go.Proofs.YtpldjopnhhbjpaaGreat
