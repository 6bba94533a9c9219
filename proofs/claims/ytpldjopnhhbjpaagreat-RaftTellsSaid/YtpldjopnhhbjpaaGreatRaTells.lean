/-
  RaftTells: a leader tells each other node at each tick what it lacks: entries from one on, at most four, or the snapshot: for any start, number of nodes, commands and answer. Own work.
-/
import Derived.Test.YtpldjopnhhbjpaaGreatRaLRT
import Derived.Test.YtpldjopnhhbjpaaGreatRTR
namespace Go.Proofs.YtpldjopnhhbjpaaGreat
open Go.Hx

theorem awake10 : glacierlaw10_awake 3000 = some true := by decide +kernel

theorem tells_l2 (k : Nat) (y : T_raft_Msg) (b p : Nat) (L : List T_term_Entry) (hi : Idx b L) (hL : L.length ≤ 40) (hb : b ≤ 10) (hp : p ≤ L.length) (h1 : y.Index = (b : Int) + p) (h2 : y.Entries = (L.drop p).take 4) : ∀ (j i : Nat), i ≤ y.Entries.length → y.Entries.length - i < j → glacierlaw10_RaftTells_l2 k y j (i : Int) = some (Flow.go ())
  | 0, _, _, hj => by omega
  | j + 1, i, hle, hj => by
    rw [glacierlaw10_RaftTells_l2]
    by_cases h : i < y.Entries.length
    · have hlen : y.Entries.length = min 4 (L.length - p) := by rw [h2]; simp
      rw [if_pos (by simpa using h), gtL h]
      simp only [bind_some]
      have he : (y.Entries[i]).Index = (b : Int) + p + i + 1 := by
        have hpi : p + i < L.length := by omega
        have := hi (p + i) hpi
        simp only [h2, List.getElem_take, List.getElem_drop]
        rw [this]; omega
      rw [he, h1, wr (n := (b : Int) + p + 1) (by omega), wr (n := (b : Int) + p + 1 + i) (by omega), if_neg (by simp; omega), wrN i (by omega)]
      exact tells_l2 k y b p L hi hL hb hp h1 h2 j (i + 1) (by omega) (by omega)
    · rw [if_neg (by simpa using h)]

theorem tells_l1 (k : Nat) (hk : 2000 < k) (y25 : T_raft_Node × Int × Int × Bool × Int × FM) (y30 : T_raft_Node × Int × Int × FM) (ys : List T_raft_Msg) (z : T_raft_Node) (w : T_raft_Node) {n b : Nat} (hw : Well z n b) (hl : z.st.Log.length ≤ 40) (hys : ys.length ≤ 10)
    (hst : w.st = z.st) (hcm : w.commit = z.commit) (hid : z.id = 0) (hnx : ∀ to, 0 < to → to < n → 1 ≤ z.next to ∧ z.next to ≤ b + z.st.Log.length + 1) (ht : ∀ y ∈ ys, ∃ to, 0 < to ∧ to < n ∧ Told z b to y) (q : List T_term_Entry) :
    ∀ (j i : Nat), i ≤ ys.length → ys.length - i < j → glacierlaw10_RaftTells_l1 k y25 y30 (ys, w) (q, ⟨z.st.Term, z.st.Vote, z.st.Base, z.st.BaseTerm, z.st.Snap, [] ++ z.st.Log⟩) j (i : Int) = some (Flow.go ())
  | 0, _, _, hj => by omega
  | j + 1, i, hle, hj => by
    rw [glacierlaw10_RaftTells_l1]
    by_cases h : i < ys.length
    · rw [if_pos (by simpa using h), gtL h]
      obtain ⟨to, t1, t2, f1, f2, f3, f4, f5⟩ := ht _ (List.getElem_mem h)
      have hn := hnx to t1 t2
      have hb := hw.hb
      unfold raft_Node_Term raft_Node_Commit
      simp only [bind_some, hst, hcm]
      rw [show ((ys[i]).From != 0) = false by rw [f1, hid]; rfl, show ((ys[i]).Term != z.st.Term) = false by simp [f3], show ((ys[i]).Commit != z.commit) = false by simp [f4]]
      simp only [Bool.false_eq_true, if_false, bind_some]
      have hrec := tells_l1 k hk y25 y30 ys z w hw hl hys hst hcm hid hnx ht q j (i + 1) (by omega) (by omega)
      rcases f5 with ⟨g1, g2, g3, g4⟩ | ⟨g1, g2, g3, g4⟩
      · rw [if_pos (by simpa using g1), show ((ys[i]).Index != z.st.Base) = false by rw [g3, hw.base]; simp]
        simp only [Bool.false_eq_true, if_false]
        unfold raft_Node_State
        rw [if_pos (room_of (by simp [hst]; omega) (by omega))]
        simp only [bind_some, hst]
        rw [g4, sEq_self]
        simp only [Bool.not_true, Bool.false_eq_true, if_false]
        rw [show (z.st.Base == 0) = false by rw [hw.base, beq_eq_false_iff_ne]; omega]
        simp only [bind_some, Bool.false_eq_true, if_false]
        rw [wrN i (by omega)]
        exact hrec
      · rw [if_neg (by rw [g1]; decide), show ((ys[i]).Kind != 3) = false by rw [g1]; rfl, show decide ((ys[i]).Index < z.st.Base) = false by rw [g3, hw.base]; simp; omega]
        simp only [Bool.false_eq_true, if_false]
        rw [last_at k _ _ _ _ _ (x := w) (b := b) (by rw [hst]; exact hw.base) (by rw [hst]; exact hw.idx) (by rw [hst]; omega), hst]
        simp only [bind_some]
        obtain ⟨p, hp⟩ : ∃ p : Nat, z.next to - 1 = (b : Int) + p := ⟨(z.next to - 1 - b).toNat, by omega⟩
        have hple : p ≤ z.st.Log.length := by omega
        have hent : (ys[i]).Entries = (z.st.Log.drop p).take 4 := by rw [g4, hp, show ((b : Int) + p - b).toNat = p by omega]
        have hidx : (ys[i]).Index = (b : Int) + p := by rw [g3, hp]
        have hlen : ((ys[i]).Entries.length : Int) = mn2 (IntKind.i64.wrap ((b : Int) + z.st.Log.length - (ys[i]).Index)) 4 := by
          rw [hidx, wr (by omega), hent, List.length_take, List.length_drop]
          unfold mn2; split <;> omega
        rw [show (((ys[i]).Entries.length : Int) != mn2 (IntKind.i64.wrap ((b : Int) + z.st.Log.length - (ys[i]).Index)) 4) = false by rw [hlen]; simp]
        simp only [Bool.false_eq_true, if_false]
        rw [show (0 : Int) = ((0 : Nat) : Int) from rfl, tells_l2 k ys[i] b p z.st.Log hw.idx hl hb hple hidx hent k 0 (by omega) (by rw [hent]; simp; omega)]
        simp only [bind_some]
        rw [wrN i (by omega)]
        exact hrec
    · rw [if_neg (by simpa using h)]

theorem tells_main (k : Nat) (hk : 2000 < k) (hak : glacierlaw10_awake k = some true) (x1 : T_glacierlaw10_Start) (x2 : Int) (x3 : List (List UInt8)) (x4 : Int) (x5 : Bool) : glacierlaw10_RaftTells k x1 x2 x3 x4 x5 = some true := by
  unfold glacierlaw10_RaftTells
  rw [hak]
  simp only [bind_some, Bool.not_true, Bool.false_eq_true, if_false]
  by_cases g1 : x2 < 2
  · rw [if_pos (by simpa using g1)]; rfl
  rw [if_neg (by simpa using g1)]
  by_cases g2 : x2 > 5
  · rw [show decide (x2 > 5) = true by simpa using g2]; rfl
  rw [show decide (x2 > 5) = false by simpa using g2]
  simp only [bind_some, Bool.false_eq_true, if_false]
  obtain ⟨n, rfl⟩ := Int.eq_ofNat_of_zero_le (show 0 ≤ x2 by omega)
  obtain ⟨t, v, b, bt, s, Lr, m0, x, M, c, l, e1, hLr, hb4, e2, hL, hc, hl, -⟩ := leader_at k hk x1 n (by omega) x3
  rw [show (T_glacierlaw10_Start.mk x1.Term x1.Vote x1.Base x1.Terms) = x1 from rfl, e2]
  simp only [bind_some]
  have hw := hL.well
  have hlen := hL.len
  rw [last_at k 1048576 (W M : Int) false 0 M hw.base hw.idx (by omega)]
  unfold raft_Node_Term
  simp only [bind_some]
  obtain ⟨q, hq, eq⟩ := clamp x4 (b + x.st.Log.length)
  rw [show (((b + x.st.Log.length : Nat)) : Int) = (b : Int) + x.st.Log.length by omega] at eq
  rw [eq]
  obtain ⟨z, e3, hLz, hz1, -⟩ := have_at k hk 1048576 hL (by omega) (by omega) 1 (by omega) (by omega) (q : Int) (by omega) x5
  rw [show ((1 : Nat) : Int) = 1 from rfl] at e3
  rw [e3]
  unfold raft_Node_Take
  simp only [bind_some]
  have hwz := hLz.well
  have hlz := hLz.len
  obtain ⟨ys, e4, hy1, hy2⟩ := spread_at k 1048576 (W M : Int) false 0 M hk (x := { z with out := [], timer := 0 }) (b := b) hwz.nn (by omega) hwz.base hwz.hb (by simp only; omega) (by simp) hwz.id (fun to h1 h2 => by
    have := hLz.next to h2
    simp only; omega)
  have htick : raft_Node_Tick k { z with out := [] } 1048576 (W M : Int) false 0 M = some ({ z with out := ys, timer := 0 }, (W M : Int), 0, M) := by
    unfold raft_Node_Tick
    rw [show (({ z with out := [] } : T_raft_Node).broken != 0) = false by simp [hwz.bro], show (({ z with out := [] } : T_raft_Node).role == 2) = true by simp [hLz.role]]
    simp only [Bool.false_eq_true, if_false, if_true]
    rw [e4]
    simp
  rw [htick]
  simp only [bind_some]
  rw [wr (n := (n : Int) - 1) (by omega), if_neg (by rw [hy1]; simp; omega)]
  have hstate : raft_Node_State k { z with out := [], timer := 0 } 1048576 (W M : Int) false 0 M = some ([] ++ z.st.Log, ⟨z.st.Term, z.st.Vote, z.st.Base, z.st.BaseTerm, z.st.Snap, [] ++ z.st.Log⟩) := by
    unfold raft_Node_State
    rw [if_pos (room_of (by simp; omega) (by omega))]
  rw [hstate]
  simp only [bind_some]
  have hwz2 : Well { z with out := [], timer := 0 } n b := ⟨hwz.id, hwz.nn, hwz.hn, hwz.bro, hwz.base, hwz.hb, hwz.idx, hwz.eok, hwz.term, hwz.com⟩
  have := tells_l1 k hk (x, 1048576, (W M : Int), false, 0, M) ({ z with out := ys, timer := 0 }, (W M : Int), 0, M) ys { z with out := [], timer := 0 } { z with out := [], timer := 0 } hwz2 (by simp only; omega) (by omega) rfl rfl hwz.id (fun to h1 h2 => hLz.next to h2) hy2 ([] ++ z.st.Log) k 0 (by omega) (by omega)
  rw [show ((0 : Nat) : Int) = 0 from rfl] at this
  rw [this]
  rfl

theorem tells_plain (x1 : T_glacierlaw10_Start) (x2 : Int) (x3 : List (List UInt8)) (x4 : Int) (x5 : Bool) : ∃ k, glacierlaw10_RaftTells k x1 x2 x3 x4 x5 = some true := ⟨3000, tells_main 3000 (by omega) awake10 x1 x2 x3 x4 x5⟩
theorem raftTells_holds : Rows.RaftTellsSaid := raftTells_row fun x1 x2 x3 x4 x5 _ _ _ _ _ => tells_plain x1 x2 x3 x4 x5
end Go.Proofs.YtpldjopnhhbjpaaGreat
