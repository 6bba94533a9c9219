/-
  RaB: a Raft node's functions over plain data: Last, TermAt, From, send, tell, spread, settle, add, count. Own work.
-/
import Derived.Test.YtpldjopnhhbjpaaGreatTeCRM
namespace Go.Proofs.YtpldjopnhhbjpaaGreat
open Go.Hx

/-! ### what a disk keeps -/
structure DK (k : Nat) (m : FM) (t v a b : Nat) (s : List UInt8) (L : List T_term_Entry) (c : Nat) : Prop where
  wf : ∃ B, WF B 900000 m
  ter : TermOf k m t v
  snp : SnapOf k m a b s
  lg : LogOf k m L
  w : W m ≤ c
section
variable (k : Nat)
theorem DK.logLen {m : FM} {t v a b c : Nat} {s : List UInt8} {L : List T_term_Entry} (h : DK k m t v a b s L c) (hx : ∀ x ∈ L, EOk x) : ∃ fs, Frs k L fs ∧ (fileAt m fL).now.s = fs.flatten ∧ fs.flatten.length ≤ 1100 * L.length := by
  rcases h.lg with ⟨h1, rfl⟩ | ⟨fs, h1, h2⟩
  · refine ⟨[], trivial, ?_, by simp⟩
    rw [fileAt_none h1]; rfl
  · exact ⟨fs, h1, by rw [fileAt_some h2], frs_len k h1 hx⟩
theorem Frs.app : ∀ {l l' : List T_term_Entry} {fs fs' : List (List UInt8)}, Frs k l fs → Frs k l' fs' → Frs k (l ++ l') (fs ++ fs') := fun h1 h2 => All2.app h1 h2
theorem DK.add (hk : 2000 < k) {room : Int} {m : FM} {t v a b c : Nat} {s : List UInt8} {L : List T_term_Entry} (h : DK k m t v a b s L c) (hL : L.length ≤ 50) (hx : ∀ x ∈ L, EOk x) {e : T_term_Entry} (he : EOk e) (hr : room ≤ 1100000) (hc : (c : Int) + 1100 ≤ room) :
    ∃ M, term_Append k room (W m : Int) false 0 m [e] = some (0, (W M : Int), 0, M) ∧ DK k M t v a b s (L ++ [e]) (c + 1100) := by
  obtain ⟨B, hB⟩ := h.wf
  obtain ⟨fs0, h1, h2, h3⟩ := h.logLen k hx
  have hw := h.w
  obtain ⟨M, fs, e1, e2, e3, e4, e5⟩ := appended_ok k hk room hB (l := [e]) (by simp) (by simpa using he) (by rw [h2]; omega) hr (by simp; omega)
  refine ⟨M, e1, ⟨_, e3⟩, ?_, ?_, .inr ⟨fs0 ++ fs, Frs.app k h1 e2, ?_⟩, by simp at e4; omega⟩
  · have := e5 fT
    rw [if_neg (by decide)] at this
    unfold TermOf; rw [this]; exact h.ter
  · have := e5 fS
    rw [if_neg (by decide)] at this
    unfold SnapOf; rw [this]; exact h.snp
  · rw [e5, if_pos rfl, h2, List.flatten_append]
theorem DK.term (hk : 2000 < k) {room : Int} {m : FM} {t v a b c : Nat} {s : List UInt8} {L : List T_term_Entry} (h : DK k m t v a b s L c) (t' v' : Nat) (ht : t' ≤ 1000) (hv : v' ≤ 5) (hr : room ≤ 1100000) (hc : (c : Int) + 30 ≤ room) :
    ∃ M, term_SaveTerm k room (W m : Int) false 0 m (t' : Int) (v' : Int) = some (0, (W M : Int), 0, M) ∧ DK k M t' v' a b s L (c + 30) := by
  obtain ⟨B, hB⟩ := h.wf
  have hw := h.w
  obtain ⟨M, f, e1, e2, e3, e4, e5, e6⟩ := saveTerm_ok k hk room hB t' v' (by omega) (by omega) hr (by omega)
  refine ⟨M, e1, ⟨_, e4⟩, .inr ⟨f, e2, by rw [e6, if_pos rfl], by omega, hv⟩, ?_, ?_, by omega⟩
  · have := e6 fS
    rw [if_neg (by decide)] at this
    unfold SnapOf; rw [this]; exact h.snp
  · have := e6 fL
    rw [if_neg (by decide)] at this
    unfold LogOf; rw [this]; exact h.lg
end

/-- entries that are numbered behind b -/
def Idx (b : Nat) (L : List T_term_Entry) : Prop := ∀ i (h : i < L.length), L[i].Index = (b : Int) + i + 1
theorem Idx.push {b : Nat} {L : List T_term_Entry} (h : Idx b L) {x : T_term_Entry} (hx : x.Index = (b : Int) + L.length + 1) : Idx b (L ++ [x]) := fun i hi => by
  by_cases hl : i < L.length
  · rw [List.getElem_append_left hl]; exact h i hl
  · have : i = L.length := by simp at hi; omega
    subst this
    simp [hx]
theorem beh_idx {b : Nat} {L : List T_term_Entry} (h : Idx b L) : beh (b : Int) L [] = L := by
  rw [beh_all (b : Int) L [] fun i hi => ?_]
  · simp
  · rw [h i hi]; simp

section
variable (k : Nat) (r u : Int) (t3 : Bool) (f : Int) (m : FM)

theorem last_at {x : T_raft_Node} {b : Nat} (hb : x.st.Base = (b : Int)) (hi : Idx b x.st.Log) (hl : x.st.Log.length ≤ 40) : raft_Node_Last k x r u t3 f m = some ((b : Int) + x.st.Log.length) := by
  unfold raft_Node_Last term_State_Last
  by_cases h : 0 < x.st.Log.length
  · rw [if_pos (by simpa using h), wr (by omega), show ((x.st.Log.length : Int) - 1) = ((x.st.Log.length - 1 : Nat) : Int) by omega, gtL (by omega)]
    simp only [bind_some]
    rw [hi _ (by omega)]
    congr 1; omega
  · rw [if_neg (by simpa using h)]
    simp only [bind_some]
    rw [hb]; congr 1; omega
theorem termAt_in {x : T_raft_Node} {b : Nat} (hb : x.st.Base = (b : Int)) (hb2 : b ≤ 10) (hl : x.st.Log.length ≤ 40) (j : Nat) (hj : j < x.st.Log.length) : term_State_TermAt k x r u t3 f m ((b : Int) + j + 1) = some (x.st.Log[j].Term, true) := by
  unfold term_State_TermAt
  rw [hb, if_neg (by simp; omega), if_neg (by simp; omega), wr (n := (b : Int) + (x.st.Log.length : Int)) (by omega)]
  rw [show decide ((b : Int) + j + 1 > (b : Int) + (x.st.Log.length : Int)) = false by simp; omega]
  simp only [bind_some, Bool.false_eq_true, if_false]
  rw [wr (n := (b : Int) + j + 1 - b) (by omega), wr (by omega), show ((b : Int) + j + 1 - b - 1) = (j : Int) by omega, gtL hj]
  rfl
theorem termAt_base {x : T_raft_Node} {b : Nat} (hb : x.st.Base = (b : Int)) : term_State_TermAt k x r u t3 f m (b : Int) = some (x.st.BaseTerm, true) := by
  unfold term_State_TermAt
  rw [hb, if_pos (by simp)]
theorem termAt_low {x : T_raft_Node} {b : Nat} (hb : x.st.Base = (b : Int)) (i : Int) (h : i < b) : term_State_TermAt k x r u t3 f m i = some (0, false) := by
  unfold term_State_TermAt
  rw [hb, if_neg (by simp; omega), if_pos (by simpa using h)]
  rfl
theorem from_at {x : T_raft_Node} {b : Nat} (hb : x.st.Base = (b : Int)) (_hb2 : b ≤ 10) (hl : x.st.Log.length ≤ 40) (p most : Nat) (hp : p ≤ x.st.Log.length) (hm : most ≤ 1000) : term_State_From k x r u t3 f m ((b : Int) + p + 1) (most : Int) = some ((x.st.Log.drop p).take most) := by
  unfold term_State_From
  rw [hb, wr (n := (b : Int) + p + 1 - b) (by omega), wr (n := (b : Int) + p + 1 - b - 1) (by omega), show ((b : Int) + p + 1 - b - 1) = (p : Int) by omega, if_neg (by simp)]
  rw [show decide ((p : Int) > (x.st.Log.length : Int)) = false by simp; omega]
  simp only [bind_some, Bool.false_eq_true, if_false]
  rw [wr (n := (x.st.Log.length : Int) - p) (by omega), show mx2 (most : Int) 0 = (most : Int) by unfold mx2; rw [if_neg (by omega)]]
  have hq : mn2 (most : Int) ((x.st.Log.length : Int) - p) = ((min most (x.st.Log.length - p) : Nat) : Int) := by unfold mn2; split <;> omega
  rw [hq, wr (by omega)]
  have hs : sl x.st.Log (p : Int) ((p : Int) + ((min most (x.st.Log.length - p) : Nat) : Int)) = some ((x.st.Log.drop p).take most) := by
    unfold sl
    rw [if_pos (by omega)]
    congr 1
    rw [show ((p : Int) + ((min most (x.st.Log.length - p) : Nat) : Int)).toNat = p + min most (x.st.Log.length - p) by omega, Int.toNat_natCast]
    rw [List.drop_take, Nat.add_sub_cancel_left]
    apply List.ext_getElem
    · simp
    · intro i h1 h2
      simp
  rw [hs]
  simp only [bind_some]
  rw [if_pos (room_of (by simp; omega) (by omega)), List.nil_append]

theorem send_at {x : T_raft_Node} (ho : x.out.length ≤ 2000) (y : T_raft_Msg) : raft_Node_send k x r u t3 f m y = some { x with out := x.out ++ [⟨y.Kind, x.id, y.To, x.st.Term, y.Index, y.LogTerm, y.Commit, y.OK, y.Entries, y.Snap⟩] } := by
  unfold raft_Node_send
  simp only [bind_some]
  rw [if_pos (room_of (by simp; omega) (by omega))]

/-- what the leader tells one -/
def Told (x : T_raft_Node) (b : Nat) (to : Nat) (y : T_raft_Msg) : Prop :=
  y.From = x.id ∧ y.To = (to : Int) ∧ y.Term = x.st.Term ∧ y.Commit = x.commit ∧
  ((y.Kind = 5 ∧ x.next to - 1 < (b : Int) ∧ y.Index = (b : Int) ∧ y.Snap = x.st.Snap) ∨
   (y.Kind = 3 ∧ (b : Int) ≤ x.next to - 1 ∧ y.Index = x.next to - 1 ∧ y.Entries = (x.st.Log.drop (x.next to - 1 - b).toNat).take 4))
theorem tell_at {x : T_raft_Node} {b : Nat} (hb : x.st.Base = (b : Int)) (hb2 : b ≤ 10) (hl : x.st.Log.length ≤ 40) (ho : x.out.length ≤ 2000) (to : Nat) (ht : to < 5) (hn : -1000 ≤ x.next to ∧ x.next to - 1 ≤ b + x.st.Log.length) :
    ∃ y, raft_Node_tell k x r u t3 f m (to : Int) = some { x with out := x.out ++ [y] } ∧ Told x b to y := by
  unfold raft_Node_tell
  rw [if_pos (by omega), Int.toNat_natCast, wr (n := x.next to - 1) (by omega)]
  by_cases h : x.next to - 1 < b
  · rw [termAt_low k r u t3 f m hb _ h]
    simp only [bind_some, Bool.not_false, if_true, send_at k r u t3 f m ho]
    exact ⟨_, rfl, rfl, rfl, rfl, rfl, .inl ⟨rfl, h, hb, rfl⟩⟩
  · obtain ⟨p, hp⟩ : ∃ p : Nat, x.next to - 1 = (b : Int) + p := ⟨(x.next to - 1 - b).toNat, by omega⟩
    have hk : ∃ q, term_State_TermAt k x r u t3 f m (x.next to - 1) = some (q, true) := by
      by_cases h0 : p = 0
      · exact ⟨_, by rw [hp, h0, show ((b : Int) + (0 : Nat)) = (b : Int) by omega]; exact termAt_base k r u t3 f m hb⟩
      · have := termAt_in k r u t3 f m hb hb2 hl (p - 1) (by omega)
        rw [show ((b : Int) + ((p - 1 : Nat) : Int) + 1) = (b : Int) + p by omega] at this
        exact ⟨_, by rw [hp]; exact this⟩
    obtain ⟨q, hq⟩ := hk
    rw [hq]
    simp only [bind_some, Bool.not_true, Bool.false_eq_true, if_false]
    rw [wr (n := x.next to - 1 + 1) (by omega), show (x.next to - 1 + 1) = (b : Int) + p + 1 by omega, show (4 : Int) = ((4 : Nat) : Int) from rfl, from_at k r u t3 f m hb hb2 hl p 4 (by omega) (by omega)]
    simp only [bind_some, send_at k r u t3 f m ho]
    refine ⟨_, rfl, rfl, rfl, rfl, rfl, .inr ⟨rfl, by omega, rfl, ?_⟩⟩
    rw [hp, show ((b : Int) + p - b).toNat = p by omega]

/-- all others are told -/
theorem spread_loop {x0 : T_raft_Node} {b n : Nat} (hn0 : x0.n = (n : Int)) (hn : n ≤ 5) : ∀ (j i : Nat) (x : T_raft_Node), i ≤ n → n - i < j → x.st.Base = (b : Int) → b ≤ 10 → x.st.Log.length ≤ 40 → x.out.length + (n - i) ≤ 2000 → x.id = 0 →
    (∀ to, 0 < to → to < n → -1000 ≤ x.next to ∧ x.next to - 1 ≤ b + x.st.Log.length) →
    ∃ ys, raft_Node_spread_l1 k x0 r u t3 f m j (i : Int) x = some { x with out := x.out ++ ys } ∧ ys.length = n - max i 1 ∧ ∀ y ∈ ys, ∃ to, 0 < to ∧ to < n ∧ Told x b to y
  | 0, _, _, _, hj, _, _, _, _, _, _ => by omega
  | j + 1, i, x, hi, hj, hb, hb2, hl, ho, hid, hnx => by
    rw [raft_Node_spread_l1, hn0]
    by_cases h : i < n
    · rw [if_pos (by simpa using h), wrN _ (by omega)]
      by_cases h0 : i = 0
      · subst h0
        rw [if_neg (by simp [hid])]
        simp only [bind_some]
        obtain ⟨ys, e, h1, h2⟩ := spread_loop hn0 hn j 1 x (by omega) (by omega) hb hb2 hl (by omega) hid hnx
        exact ⟨ys, e, by rw [h1]; omega, h2⟩
      · rw [if_pos (by simp [hid]; omega)]
        obtain ⟨y, e1, hy⟩ := tell_at k r u t3 f m hb hb2 hl (by omega) i (by omega) (hnx i (by omega) h)
        rw [e1]
        simp only [bind_some]
        obtain ⟨ys, e, h1, h2⟩ := spread_loop hn0 hn j (i + 1) { x with out := x.out ++ [y] } (by omega) (by omega) hb hb2 hl (by simp; omega) hid hnx
        refine ⟨y :: ys, ?_, by simp; omega, fun z hz => ?_⟩
        · rw [e]; simp
        · rcases List.mem_cons.1 hz with rfl | hz
          · exact ⟨i, by omega, h, hy⟩
          · exact h2 z hz
    · rw [if_neg (by simpa using h)]
      exact ⟨[], by simp, by simp; omega, by simp⟩
theorem spread_at (hk : 2000 < k) {x : T_raft_Node} {b n : Nat} (hn0 : x.n = (n : Int)) (hn : n ≤ 5) (hb : x.st.Base = (b : Int)) (hb2 : b ≤ 10) (hl : x.st.Log.length ≤ 40) (ho : x.out.length ≤ 1000) (hid : x.id = 0)
    (hnx : ∀ to, 0 < to → to < n → -1000 ≤ x.next to ∧ x.next to - 1 ≤ b + x.st.Log.length) :
    ∃ ys, raft_Node_spread k x r u t3 f m = some { x with out := x.out ++ ys } ∧ ys.length = n - 1 ∧ ∀ y ∈ ys, ∃ to, 0 < to ∧ to < n ∧ Told x b to y := by
  obtain ⟨ys, e, h1, h2⟩ := spread_loop k r u t3 f m hn0 hn k 0 x (by omega) (by omega) hb hb2 hl (by omega) hid hnx
  rw [show ((0 : Nat) : Int) = 0 from rfl] at e
  refine ⟨ys, ?_, by rw [h1]; omega, h2⟩
  unfold raft_Node_spread
  rw [e]; rfl

/-! ### more than half -/
def cnt (p : Nat → Bool) : Nat → Nat → Nat
  | _, 0 => 0
  | i, n + 1 => (if p i then 1 else 0) + cnt p (i + 1) n
theorem cnt_le (p : Nat → Bool) : ∀ (i n : Nat), cnt p i n ≤ n
  | _, 0 => Nat.le_refl _
  | i, n + 1 => by rw [cnt]; have := cnt_le p (i + 1) n; split <;> omega
theorem settle_l2 {x : T_raft_Node} {n : Nat} (hn0 : x.n = (n : Int)) (hn : n ≤ 5) (v : Int) : ∀ (j i a : Nat), i ≤ n → n - i < j → a ≤ i → raft_Node_settle_l2 k v x j (a : Int) (i : Int) = some ((a + cnt (fun q => decide (x.match_ q ≥ v)) i (n - i) : Nat) : Int)
  | 0, _, _, _, hj, _ => by omega
  | j + 1, i, a, hi, hj, ha => by
    rw [raft_Node_settle_l2, hn0]
    by_cases h : i < n
    · rw [if_pos (by simpa using h), if_pos (by omega), Int.toNat_natCast, wrN i (by omega), show n - i = (n - (i + 1)) + 1 by omega, cnt]
      by_cases hm : x.match_ i ≥ v
      · rw [if_pos (by simpa using hm), if_pos (by simpa using hm)]
        simp only [bind_some]
        rw [wrN a (by omega), settle_l2 hn0 hn v j (i + 1) (a + 1) (by omega) (by omega) (by omega)]
        congr 2; omega
      · rw [if_neg (by simpa using hm), if_neg (by simpa using hm)]
        simp only [bind_some]
        rw [settle_l2 hn0 hn v j (i + 1) a (by omega) (by omega) (by omega)]
        congr 2; omega
    · rw [if_neg (by simpa using h), show n - i = 0 by omega, cnt]
      congr 2

/-- the number is of the leader's term, and more than half have it -/
def Maj (x : T_raft_Node) (n : Nat) (v : Int) : Prop := (n : Int) < 2 * (cnt (fun q => decide (x.match_ q ≥ v)) 0 n : Int)
theorem settle_loop {x : T_raft_Node} {n b fi : Nat} (hk : 2000 < k) (hn0 : x.n = (n : Int)) (hn : n ≤ 5) (hb : x.st.Base = (b : Int)) (hb2 : b ≤ 10) (hl : x.st.Log.length ≤ 40) (hc : (b : Int) ≤ x.commit)
    (hold : ∀ i (h : i < x.st.Log.length), (x.st.Log[i].Term = x.st.Term ↔ fi ≤ b + i + 1)) :
    ∀ (j : Nat) (i : Nat), i ≤ b + x.st.Log.length → x.commit ≤ (i : Int) → (i : Int) - x.commit < (j : Int) → (∀ v : Int, (i : Int) < v → v ≤ b + x.st.Log.length → ¬ Maj x n v) →
    ∃ c, (raft_Node_settle_l1 k x r u t3 f m j (i : Int) = some (Flow.ret { x with commit := c }) ∨ (c = x.commit ∧ raft_Node_settle_l1 k x r u t3 f m j (i : Int) = some (Flow.go ()))) ∧
      ((c = x.commit ∧ ∀ v : Int, x.commit < v → (fi : Int) ≤ v → v ≤ b + x.st.Log.length → ¬ Maj x n v) ∨ (x.commit < c ∧ (fi : Int) ≤ c ∧ c ≤ b + x.st.Log.length ∧ Maj x n c ∧ ∀ v : Int, c < v → v ≤ b + x.st.Log.length → ¬ Maj x n v))
  | 0, i, hi, hci, hj, hm => by omega
  | j + 1, i, hi, hci, hj, hm => by
    rw [raft_Node_settle_l1]
    by_cases h : x.commit < (i : Int)
    · rw [if_pos (by simpa using h)]
      obtain ⟨q, hq⟩ : ∃ q, i = b + q + 1 := ⟨i - b - 1, by omega⟩
      have hql : q < x.st.Log.length := by omega
      rw [show (i : Int) = (b : Int) + q + 1 by omega, termAt_in k r u t3 f m hb hb2 hl q hql]
      simp only [bind_some]
      by_cases ht : x.st.Log[q].Term = x.st.Term
      · have hfi := (hold q hql).1 ht
        rw [if_neg (by simpa using ht), show (0 : Int) = ((0 : Nat) : Int) from rfl, settle_l2 k hn0 hn _ k 0 0 (by omega) (by omega) (by omega)]
        simp only [bind_some, Nat.zero_add, Nat.sub_zero]
        have hcl := cnt_le (fun q_1 => decide (x.match_ q_1 ≥ (b : Int) + q + 1)) 0 n
        rw [wr (by omega)]
        by_cases hma : Maj x n ((b : Int) + q + 1)
        · rw [if_pos (by unfold Maj at hma; rw [hn0]; simpa using hma)]
          exact ⟨(b : Int) + q + 1, .inl rfl, .inr ⟨by omega, by omega, by omega, hma, fun v h1 h2 => hm v (by omega) h2⟩⟩
        · rw [if_neg (by unfold Maj at hma; rw [hn0]; simpa using hma), wr (by omega), show ((b : Int) + q + 1 - 1) = ((b + q : Nat) : Int) by omega]
          exact settle_loop hk hn0 hn hb hb2 hl hc hold j (b + q) (by omega) (by omega) (by omega) (fun v h1 h2 => by
            by_cases he : v = (b : Int) + q + 1
            · rw [he]; exact hma
            · exact hm v (by omega) h2)
      · rw [if_pos (by simpa using ht)]
        refine ⟨x.commit, .inl rfl, .inl ⟨rfl, fun v h1 h2 h3 => ?_⟩⟩
        have : ¬ fi ≤ b + q + 1 := fun h => ht ((hold q hql).2 h)
        exact hm v (by omega) h3
    · rw [if_neg (by simpa using h)]
      exact ⟨x.commit, .inr ⟨rfl, rfl⟩, .inl ⟨rfl, fun v h1 h2 h3 => hm v (by omega) h3⟩⟩
theorem settle_at {x : T_raft_Node} {n b fi : Nat} (hk : 2000 < k) (hn0 : x.n = (n : Int)) (hn : n ≤ 5) (hb : x.st.Base = (b : Int)) (hb2 : b ≤ 10) (hi : Idx b x.st.Log) (hl : x.st.Log.length ≤ 40) (hc : (b : Int) ≤ x.commit ∧ x.commit ≤ b + x.st.Log.length)
    (hold : ∀ i (h : i < x.st.Log.length), (x.st.Log[i].Term = x.st.Term ↔ fi ≤ b + i + 1)) :
    ∃ c, raft_Node_settle k x r u t3 f m = some { x with commit := c } ∧
      ((c = x.commit ∧ ∀ v : Int, x.commit < v → (fi : Int) ≤ v → v ≤ b + x.st.Log.length → ¬ Maj x n v) ∨ (x.commit < c ∧ (fi : Int) ≤ c ∧ c ≤ b + x.st.Log.length ∧ Maj x n c ∧ ∀ v : Int, c < v → v ≤ b + x.st.Log.length → ¬ Maj x n v)) := by
  obtain ⟨c, e, h⟩ := settle_loop k r u t3 f m hk hn0 hn hb hb2 hl hc.1 hold k (b + x.st.Log.length) (by omega) (by omega) (by omega) (fun v h1 h2 => by omega)
  refine ⟨c, ?_, h⟩
  unfold raft_Node_settle
  rw [last_at k r u t3 f m hb hi hl, show ((b : Int) + (x.st.Log.length : Int)) = ((b + x.st.Log.length : Nat) : Int) by omega]
  simp only [bind_some]
  rcases e with e | ⟨rfl, e⟩ <;> rw [e] <;> rfl

/-! ### the leader -/
theorem cnt_mono {p q : Nat → Bool} : ∀ (i n : Nat), (∀ j, i ≤ j → j < i + n → p j = true → q j = true) → cnt p i n ≤ cnt q i n
  | _, 0, _ => Nat.le_refl _
  | i, n + 1, h => by
    have ih := cnt_mono (p := p) (q := q) (i + 1) n (fun j h1 h2 => h j (by omega) (by omega))
    have h0 := h i (Nat.le_refl _) (by omega)
    rw [cnt, cnt]
    cases hp : p i
    · simp; omega
    · rw [h0 hp]; simp; omega
theorem Maj.mono {x y : T_raft_Node} {n : Nat} {v : Int} (h : Maj x n v) (hm : ∀ j, j < n → x.match_ j ≤ y.match_ j) : Maj y n v := by
  unfold Maj at *
  have := cnt_mono (p := fun q => decide (x.match_ q ≥ v)) (q := fun q => decide (y.match_ q ≥ v)) 0 n (fun j _ h2 h3 => by
    have := hm j (by omega)
    simp at h3 ⊢; omega)
  omega
/-- which entries are of the leader's own term: those from fi on -/
def Own (L : List T_term_Entry) (t : Int) (b fi : Nat) : Prop := ∀ i (h : i < L.length), (L[i].Term = t ↔ fi ≤ b + i + 1)
theorem Own.push {L : List T_term_Entry} {t : Int} {b fi : Nat} (h : Own L t b fi) {e : T_term_Entry} (he : e.Term = t) (hf : fi ≤ b + L.length + 1) : Own (L ++ [e]) t b fi := fun i hi => by
  by_cases hl : i < L.length
  · rw [List.getElem_append_left hl]; exact h i hl
  · have : i = L.length := by simp at hi; omega
    subst this
    simp [he, hf]
/-- up to which entry is committed -/
def Com (x : T_raft_Node) (n b fi : Nat) : Prop :=
  (x.commit = (b : Int) ∧ ∀ v : Int, (fi : Int) ≤ v → v ≤ b + x.st.Log.length → ¬ Maj x n v) ∨
  ((fi : Int) ≤ x.commit ∧ x.commit ≤ b + x.st.Log.length ∧ Maj x n x.commit ∧ ∀ v : Int, x.commit < v → v ≤ b + x.st.Log.length → ¬ Maj x n v)
theorem com_of {x : T_raft_Node} {n b fi : Nat} (hf : b < fi) {c : Int} (hw : x.commit = (b : Int) ∨ ((fi : Int) ≤ x.commit ∧ x.commit ≤ b + x.st.Log.length ∧ Maj x n x.commit))
    (h : (c = x.commit ∧ ∀ v : Int, x.commit < v → (fi : Int) ≤ v → v ≤ b + x.st.Log.length → ¬ Maj x n v) ∨ (x.commit < c ∧ (fi : Int) ≤ c ∧ c ≤ b + x.st.Log.length ∧ Maj x n c ∧ ∀ v : Int, c < v → v ≤ b + x.st.Log.length → ¬ Maj x n v)) :
    Com { x with commit := c } n b fi := by
  rcases h with ⟨rfl, h⟩ | ⟨h1, h2, h3, h4, h5⟩
  · rcases hw with hw | ⟨hw1, hw2, hw3⟩
    · exact .inl ⟨hw, fun v (h1 : (fi : Int) ≤ v) (h2 : v ≤ (b : Int) + x.st.Log.length) => h v (by omega) h1 h2⟩
    · exact .inr ⟨hw1, hw2, hw3, fun v (h1 : x.commit < v) (h2 : v ≤ (b : Int) + x.st.Log.length) => h v h1 (by omega) h2⟩
  · exact .inr ⟨h2, h3, h4, h5⟩

/-- what a node has that is well -/
structure Well (x : T_raft_Node) (n b : Nat) : Prop where
  id : x.id = 0
  nn : x.n = (n : Int)
  hn : 1 ≤ n ∧ n ≤ 5
  bro : x.broken = 0
  base : x.st.Base = (b : Int)
  hb : b ≤ 10
  idx : Idx b x.st.Log
  eok : ∀ e ∈ x.st.Log, EOk e
  term : 0 ≤ x.st.Term ∧ x.st.Term ≤ 100
  com : (b : Int) ≤ x.commit ∧ x.commit ≤ b + x.st.Log.length

theorem check_ok0 {x : T_raft_Node} (h : x.broken = 0) : raft_Node_check k x r u t3 f m 0 = some (true, x) := by
  unfold raft_Node_check
  rw [if_neg (by simp)]
  simp only [bind_some, Bool.false_eq_true, if_false]
  rw [show (x.broken == 0) = true by simp [h]]
end
/-- a node with an entry more -/
def grow (x : T_raft_Node) (b : Nat) (cmd : List UInt8) (ys : List T_raft_Msg) (q : Int) : T_raft_Node :=
  { x with st := { x.st with Log := x.st.Log ++ [⟨(b : Int) + x.st.Log.length + 1, x.st.Term, cmd⟩] }, match_ := upd x.match_ 0 ((b : Int) + x.st.Log.length + 1), out := x.out ++ ys, commit := q }
theorem grow_len (x : T_raft_Node) (b : Nat) (cmd : List UInt8) (ys : List T_raft_Msg) (q : Int) : (grow x b cmd ys q).st.Log.length = x.st.Log.length + 1 := by simp [grow]
section
variable (k : Nat) (hk : 2000 < k) (r : Int)
include hk
theorem add_at {x : T_raft_Node} {m : FM} {n b fi t v a c : Nat} {bt : Nat} {s : List UInt8} (h : Well x n b) (hl : x.st.Log.length ≤ 30) (ho : x.out.length ≤ 900)
    (hd : DK k m t v a bt s x.st.Log c) (hr : r ≤ 1100000) (hc : (c : Int) + 1100 ≤ r) (cmd : List UInt8) (hcl : cmd.length ≤ 100)
    (hnx : ∀ to, 0 < to → to < n → -1000 ≤ x.next to ∧ x.next to - 1 ≤ b + x.st.Log.length) (how : Own x.st.Log x.st.Term b fi) (hfi : b < fi ∧ fi ≤ b + x.st.Log.length + 1)
    (hm0 : x.match_ 0 ≤ b + x.st.Log.length + 1) (hcm : x.commit = (b : Int) ∨ ((fi : Int) ≤ x.commit ∧ x.commit ≤ b + x.st.Log.length ∧ Maj x n x.commit)) :
    ∃ ys q M, raft_Node_add k x r (W m : Int) false 0 m cmd = some ((b : Int) + x.st.Log.length + 1, true, grow x b cmd ys q, (W M : Int), 0, M) ∧
      ys.length = n - 1 ∧ DK k M t v a bt s (grow x b cmd ys q).st.Log (c + 1100) ∧ Com (grow x b cmd ys q) n b fi ∧ Well (grow x b cmd ys q) n b ∧ Own (grow x b cmd ys q).st.Log (grow x b cmd ys q).st.Term b fi := by
  have hb := h.hb
  have ht := h.term
  have he : EOk ⟨(b : Int) + x.st.Log.length + 1, x.st.Term, cmd⟩ := ⟨by simp only; omega, by simp only; omega, by simp only; omega, by simp only; omega, by simp only; omega⟩
  obtain ⟨M, e1, d1⟩ := hd.add k hk (by omega) h.eok he hr hc
  have hidx : Idx b (x.st.Log ++ [⟨(b : Int) + x.st.Log.length + 1, x.st.Term, cmd⟩]) := h.idx.push rfl
  obtain ⟨ys, e2, hy, -⟩ := spread_at k r (W M : Int) false 0 M hk (x := grow x b cmd [] x.commit) (b := b) h.nn h.hn.2 h.base hb (by rw [grow_len]; omega) (by simp [grow]; omega) h.id (fun to h1 h2 => by
    have := hnx to h1 h2
    rw [grow_len]
    show -1000 ≤ x.next to ∧ x.next to - 1 ≤ _
    omega)
  have hcomz : (b : Int) ≤ (grow x b cmd ys x.commit).commit ∧ (grow x b cmd ys x.commit).commit ≤ b + (grow x b cmd ys x.commit).st.Log.length := by
    have := h.com
    rw [grow_len]
    show (b : Int) ≤ x.commit ∧ x.commit ≤ _
    omega
  have howz : Own (grow x b cmd ys x.commit).st.Log (grow x b cmd ys x.commit).st.Term b fi := how.push rfl hfi.2
  obtain ⟨q, e3, h3⟩ := settle_at k r (W M : Int) false 0 M (x := grow x b cmd ys x.commit) (fi := fi) hk h.nn h.hn.2 h.base hb hidx (by rw [grow_len]; omega) hcomz howz
  have hmono : ∀ j, j < n → x.match_ j ≤ (grow x b cmd ys x.commit).match_ j := by
    intro j _
    show x.match_ j ≤ upd x.match_ 0 ((b : Int) + x.st.Log.length + 1) j
    unfold upd
    split
    · rename_i h0; subst h0; exact hm0
    · omega
  have hC : Com (grow x b cmd ys q) n b fi := com_of (x := grow x b cmd ys x.commit) hfi.1 (by
    rcases hcm with h1 | ⟨h1, h2, h3⟩
    · exact .inl h1
    · refine .inr ⟨h1, ?_, h3.mono hmono⟩
      rw [grow_len]
      show x.commit ≤ _
      omega) h3
  have hrange : (b : Int) ≤ q ∧ q ≤ b + (x.st.Log.length + 1) := by
    have := h.com
    rcases hC with ⟨hq, -⟩ | ⟨h1, h2, -⟩
    · have : q = (b : Int) := hq
      omega
    · rw [grow_len] at h2
      have h1 : (fi : Int) ≤ q := h1
      have h2 : q ≤ (b : Int) + ((x.st.Log.length + 1 : Nat) : Int) := h2
      omega
  refine ⟨ys, q, M, ?_, hy, d1, hC, ⟨h.id, h.nn, h.hn, h.bro, h.base, h.hb, hidx, fun e he' => ?_, h.term, by rw [grow_len]; exact ⟨hrange.1, by have := hrange.2; show q ≤ _; omega⟩⟩, howz⟩
  · unfold raft_Node_add
    rw [last_at k r _ false 0 m h.base h.idx (by omega)]
    simp only [bind_some]
    rw [wr (n := (b : Int) + x.st.Log.length + 1) (by omega), e1]
    simp only [bind_some]
    rw [check_ok0 k r _ false 0 M h.bro]
    simp only [bind_some, Bool.not_true, Bool.false_eq_true, if_false]
    rw [if_pos (room_of (by simp; omega) (by omega)), if_pos (show 0 ≤ x.id ∧ x.id < 5 by rw [h.id]; omega), show x.id.toNat = 0 by rw [h.id]; rfl]
    rw [show (T_raft_Node.mk x.id x.n (T_term_State.mk x.st.Term x.st.Vote x.st.Base x.st.BaseTerm x.st.Snap (x.st.Log ++ [⟨(b : Int) + x.st.Log.length + 1, x.st.Term, cmd⟩])) x.role x.leader x.commit x.applied x.timer x.votes x.next (upd x.match_ 0 ((b : Int) + x.st.Log.length + 1)) x.out x.broken) = grow x b cmd [] x.commit by simp [grow], e2]
    simp only [bind_some]
    rw [show ({ grow x b cmd [] x.commit with out := (grow x b cmd [] x.commit).out ++ ys } : T_raft_Node) = grow x b cmd ys x.commit by simp [grow], e3]
    rfl
  · rcases List.mem_append.1 (show e ∈ x.st.Log ++ [⟨(b : Int) + x.st.Log.length + 1, x.st.Term, cmd⟩] from he') with h1 | h1
    · exact h.eok e h1
    · obtain rfl := List.mem_singleton.1 h1
      exact he

omit hk in
theorem count_l1 {x : T_raft_Node} {n : Nat} (hn0 : x.n = (n : Int)) (hn : n ≤ 5) : ∀ (j i a : Nat), i ≤ n → n - i < j → a ≤ i → raft_Node_count_l1 k x j (a : Int) (i : Int) = some ((a + cnt x.votes i (n - i) : Nat) : Int)
  | 0, _, _, _, hj, _ => by omega
  | j + 1, i, a, hi, hj, ha => by
    rw [raft_Node_count_l1, hn0, Int.toNat_natCast]
    by_cases h : i < n
    · rw [if_pos (by simpa using h), if_pos (by omega), Int.toNat_natCast, wrN i (by omega), show n - i = (n - (i + 1)) + 1 by omega, cnt]
      by_cases hm : x.votes i = true
      · rw [if_pos hm, if_pos hm]
        simp only [bind_some]
        rw [wrN a (by omega), count_l1 hn0 hn j (i + 1) (a + 1) (by omega) (by omega) (by omega)]
        congr 2; omega
      · rw [if_neg hm, if_neg hm]
        simp only [bind_some]
        rw [count_l1 hn0 hn j (i + 1) a (by omega) (by omega) (by omega)]
        congr 2; omega
    · rw [if_neg (by simpa using h), show n - i = 0 by omega, cnt]
      congr 2
omit hk in
theorem count_l2 {x : T_raft_Node} {n b : Nat} (u : Int) (m : FM) (h : Well x n b) (hl : x.st.Log.length ≤ 40) : ∀ (j i : Nat) (nx mt : Nat → Int), i ≤ n → n - i < j →
    ∃ nx' mt', raft_Node_count_l2 k x r u false 0 m j (i : Int) nx mt = some (nx', mt') ∧ ∀ q, q < n → (i ≤ q → nx' q = (b : Int) + x.st.Log.length + 1 ∧ mt' q = 0) ∧ (q < i → nx' q = nx q ∧ mt' q = mt q)
  | 0, _, _, _, _, hj => by omega
  | j + 1, i, nx, mt, hi, hj => by
    have hn := h.hn
    rw [raft_Node_count_l2, h.nn]
    by_cases hlt : i < n
    · rw [if_pos (by simpa using hlt), last_at k r u false 0 m (x := T_raft_Node.mk x.id n x.st 2 (IntKind.i64.wrap (x.id + 1)) x.commit x.applied 0 x.votes nx mt x.out x.broken) h.base h.idx hl]
      simp only [bind_some]
      rw [if_pos (by omega), if_pos (by omega), Int.toNat_natCast, wrN i (by omega), wr (n := (b : Int) + x.st.Log.length + 1) (by have := h.hb; omega)]
      obtain ⟨nx', mt', e, hq⟩ := count_l2 u m h hl j (i + 1) (upd nx i ((b : Int) + x.st.Log.length + 1)) (upd mt i 0) (by omega) (by omega)
      refine ⟨nx', mt', e, fun q hqn => ⟨fun h1 => ?_, fun h1 => ?_⟩⟩
      · by_cases hqi : q = i
        · have := (hq q hqn).2 (by omega)
          simpa [upd, hqi] using this
        · exact (hq q hqn).1 (by omega)
      · have := (hq q hqn).2 (by omega)
        simpa [upd, show q ≠ i by omega] using this
    · rw [if_neg (by simpa using hlt)]
      exact ⟨nx, mt, rfl, fun q hqn => ⟨fun h1 => by omega, fun _ => ⟨rfl, rfl⟩⟩⟩
/-- too few votes -/
theorem count_few {x : T_raft_Node} {n b : Nat} (u : Int) (m : FM) (h : Well x n b) (hv : 2 * cnt x.votes 0 n ≤ n) : raft_Node_count k x r u false 0 m = some (x, u, 0, m) := by
  have hn := h.hn
  unfold raft_Node_count
  rw [if_pos (by rw [h.nn]; omega), show (0 : Int) = ((0 : Nat) : Int) from rfl, count_l1 k h.nn hn.2 k 0 0 (by omega) (by omega) (by omega)]
  simp only [bind_some, Nat.zero_add, Nat.sub_zero]
  rw [wr (by omega), h.nn, if_pos (by simp; omega)]

/-- a leader -/
structure Lead (x : T_raft_Node) (m : FM) (n b fi t a bt : Nat) (s : List UInt8) (c o l : Nat) : Prop where
  well : Well x n b
  role : x.role = 2
  term : x.st.Term = (t : Int)
  snap : x.st.Snap = s
  vote : x.st.Vote = 1
  bterm : x.st.BaseTerm = (bt : Int)
  app : x.applied = (b : Int)
  own : Own x.st.Log x.st.Term b fi
  hfi : b < fi ∧ fi ≤ b + x.st.Log.length
  next : ∀ q, q < n → 1 ≤ x.next q ∧ x.next q ≤ b + x.st.Log.length + 1
  mat : ∀ q, q < n → 0 ≤ x.match_ q ∧ x.match_ q ≤ b + x.st.Log.length
  mat0 : x.match_ 0 = (b : Int) + x.st.Log.length
  cm : Com x n b fi
  dk : DK k m t 1 a bt s x.st.Log c
  out : x.out.length ≤ o
  len : x.st.Log.length ≤ l

/-- with more than half of the votes it leads -/
theorem count_lead {x : T_raft_Node} {m : FM} {n b t a c : Nat} {bt : Nat} {s : List UInt8} (h : Well x n b) (hl : x.st.Log.length ≤ 8) (ho : x.out.length ≤ 100) (hv : n < 2 * cnt x.votes 0 n)
    (hd : DK k m t 1 a bt s x.st.Log c) (hr : r ≤ 1100000) (hc : (c : Int) + 1100 ≤ r) (hold : ∀ e ∈ x.st.Log, e.Term ≠ x.st.Term) (hcom : x.commit = (b : Int))
    (hterm : x.st.Term = (t : Int)) (hsnap : x.st.Snap = s) (hvote : x.st.Vote = 1) (hbt : x.st.BaseTerm = (bt : Int)) (happ : x.applied = (b : Int)) :
    ∃ x' M, raft_Node_count k x r (W m : Int) false 0 m = some (x', (W M : Int), 0, M) ∧ Lead k x' M n b (b + x.st.Log.length + 1) t a bt s (c + 1100) 110 9 ∧ x'.st.Log.length = x.st.Log.length + 1 ∧ ∀ j, 1 ≤ j → j < n → x'.match_ j = 0 := by
  have hn := h.hn
  have hb := h.hb
  unfold raft_Node_count
  rw [if_pos (by rw [h.nn]; omega), show raft_Node_count_l1 k x k (0 : Int) (0 : Int) = _ from count_l1 k h.nn hn.2 k 0 0 (by omega) (by omega) (by omega)]
  simp only [bind_some, Nat.zero_add, Nat.sub_zero]
  have hcl := cnt_le x.votes 0 n
  rw [wr (by omega), h.nn, if_neg (by simp; omega)]
  obtain ⟨nx, mt, e1, h1⟩ := count_l2 k r (W m : Int) m h (by omega) k 0 x.next x.match_ (by omega) (by omega)
  rw [show ((0 : Nat) : Int) = 0 from rfl] at e1
  rw [e1]
  simp only [bind_some]
  rw [wr (n := x.id + 1) (by rw [h.id]; omega)]
  have hw : Well (T_raft_Node.mk x.id n x.st 2 (x.id + 1) x.commit x.applied 0 x.votes nx mt x.out x.broken) n b := ⟨h.id, rfl, h.hn, h.bro, h.base, h.hb, h.idx, h.eok, h.term, h.com⟩
  have how : Own x.st.Log x.st.Term b (b + x.st.Log.length + 1) := fun i hi => ⟨fun h => absurd h (hold _ (List.getElem_mem hi)), fun h => by omega⟩
  obtain ⟨ys, q, M, e2, hy, hd2, hC, hW2, hO2⟩ := add_at k hk r hw (fi := b + x.st.Log.length + 1) (by simp only; omega) (by simp only; omega) hd hr hc [] (by simp) (fun to h2 h3 => by
    have := (h1 to h3).1 (by omega)
    simp only [this.1]; omega) how ⟨by omega, by simp only; omega⟩ (by have := (h1 0 (by omega)).1 (by omega); simp only [this.2]; omega) (.inl hcom)
  rw [e2]
  simp only [bind_some]
  refine ⟨_, M, rfl, ?_, grow_len .., fun j h1j hj => by
    show upd mt 0 ((b : Int) + x.st.Log.length + 1) j = 0
    unfold upd
    rw [if_neg (by omega)]
    exact ((h1 j hj).1 (by omega)).2⟩
  have hmaj0 : ∀ j, j < n → (0 : Int) ≤ upd mt 0 ((b : Int) + x.st.Log.length + 1) j ∧ upd mt 0 ((b : Int) + x.st.Log.length + 1) j ≤ (b : Int) + x.st.Log.length + 1 := by
    intro j hj
    have := (h1 j hj).1 (by omega)
    unfold upd
    split
    · omega
    · omega
  exact {
    well := hW2
    role := rfl
    term := hterm
    snap := hsnap
    vote := hvote
    bterm := hbt
    app := happ
    own := hO2
    hfi := ⟨by omega, by rw [grow_len]; simp only; omega⟩
    next := fun j hj => by
      have := (h1 j hj).1 (by omega)
      rw [grow_len]
      show 1 ≤ nx j ∧ nx j ≤ _
      simp only [this.1]; omega
    mat := fun j hj => by
      have := hmaj0 j hj
      rw [grow_len]
      show 0 ≤ upd mt 0 ((b : Int) + x.st.Log.length + 1) j ∧ upd mt 0 ((b : Int) + x.st.Log.length + 1) j ≤ _
      simp only; omega
    mat0 := by
      rw [grow_len]
      show upd mt 0 ((b : Int) + x.st.Log.length + 1) 0 = _
      simp [upd]; omega
    cm := hC
    dk := hd2
    out := by simp only [grow, List.length_append]; omega
    len := by rw [grow_len]; simp only; omega }

/-- a leader's command -/
theorem propose_at {x : T_raft_Node} {m : FM} {n b fi t a bt c o l : Nat} {s : List UInt8} (h : Lead k x m n b fi t a bt s c o l) (hr : r ≤ 1100000) (hc : (c : Int) + 1100 ≤ r) (ho : o ≤ 900) (hl : l ≤ 30) (cmd : List UInt8) (hcl : cmd.length ≤ 100) :
    ∃ i x' M, raft_Node_Propose k x r (W m : Int) false 0 m cmd = some (i, (t : Int), 0, x', (W M : Int), 0, M) ∧ Lead k x' M n b fi t a bt s (c + 1100) (o + 5) (l + 1) ∧ x'.st.Log.length = x.st.Log.length + 1 ∧ ∀ j, 1 ≤ j → x'.match_ j = x.match_ j := by
  have hw := h.well
  have hn := hw.hn
  have hb := hw.hb
  have hlen := h.len
  have hout := h.out
  have hfi := h.hfi
  have hmt0 := h.mat0
  obtain ⟨ys, q, M, e2, hy, hd2, hC, hW2, hO2⟩ := add_at k hk r hw (fi := fi) (by omega) (by omega) h.dk hr hc cmd hcl (fun to h2 h3 => by have := h.next to h3; omega) h.own ⟨hfi.1, by omega⟩ (by omega) (by
    rcases h.cm with ⟨h1, -⟩ | ⟨h1, h2, h3, -⟩
    · exact .inl h1
    · exact .inr ⟨h1, h2, h3⟩)
  unfold raft_Node_Propose
  rw [show (x.broken != 0) = false by simp [hw.bro], show (x.role != 2) = false by simp [h.role]]
  simp only [Bool.false_eq_true, if_false]
  rw [if_neg (by simp; omega), e2]
  simp only [bind_some, Bool.not_true, Bool.false_eq_true, if_false]
  refine ⟨_, _, M, by rw [show (grow x b cmd ys q).st.Term = (t : Int) from h.term], ?_, grow_len .., fun j hj => by
    show upd x.match_ 0 ((b : Int) + x.st.Log.length + 1) j = x.match_ j
    unfold upd
    rw [if_neg (by omega)]⟩
  exact {
    well := hW2
    role := h.role
    term := h.term
    snap := h.snap
    vote := h.vote
    bterm := h.bterm
    app := h.app
    own := hO2
    hfi := ⟨hfi.1, by rw [grow_len]; omega⟩
    next := fun j hj => by
      have := h.next j hj
      rw [grow_len]
      show 1 ≤ x.next j ∧ x.next j ≤ _
      omega
    mat := fun j hj => by
      have := h.mat j hj
      rw [grow_len]
      show 0 ≤ upd x.match_ 0 ((b : Int) + x.st.Log.length + 1) j ∧ upd x.match_ 0 ((b : Int) + x.st.Log.length + 1) j ≤ _
      unfold upd
      split <;> omega
    mat0 := by
      rw [grow_len]
      show upd x.match_ 0 ((b : Int) + x.st.Log.length + 1) 0 = _
      simp [upd]; omega
    cm := hC
    dk := hd2
    out := by simp only [grow, List.length_append]; omega
    len := by rw [grow_len]; omega }
end
end Go.Proofs.YtpldjopnhhbjpaaGreat
