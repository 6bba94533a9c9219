/- RC, one part more. -/
import Derived.Test.YtpldjopnhhbjpaaRCd
namespace Go.Proofs.Ytpldjopnhhbjpaa
open Go.Hx Go.RowKit
def glacierlaw10_RaftCompacts_l1 (k : Nat) (y29 : (Int × Int × Bool × Int × (List ((List UInt8) × (Option T_platter_file))) × (List T_glacierref09_Entry) × T_glacierref09_State)) : Nat → Int → T_raft_Node → Int → Int → (List ((List UInt8) × (Option T_platter_file))) → Option (T_raft_Node × Int × Int × (List ((List UInt8) × (Option T_platter_file))))
  | 0, _, _, _, _, _ => none
  | j + 1, v26, v27, v28, v29, v30 => (if decide (v26 < 4) = true then (Option.bind (raft_Node_Tick k v27 y29.1 v28 y29.2.2.1 v29 v30) fun y33 => (glacierlaw10_RaftCompacts_l1 k y29 j (IntKind.i64.wrap (v26 + 1)) y33.1 y33.2.1 y33.2.2.1 y33.2.2.2)) else some (v27, v28, v29, v30))
def glacierlaw10_RaftCompacts_l2 (k : Nat) (x2 : (List (List UInt8))) (y29 : (Int × Int × Bool × Int × (List ((List UInt8) × (Option T_platter_file))) × (List T_glacierref09_Entry) × T_glacierref09_State)) : Nat → Int → T_raft_Node → Int → Int → (List ((List UInt8) × (Option T_platter_file))) → Option (Flow (Bool) (T_raft_Node × Int × Int × (List ((List UInt8) × (Option T_platter_file)))))
  | 0, _, _, _, _, _ => none
  | j + 1, v36, v37, v38, v39, v40 => (Option.bind (if decide (v36 < (x2.length : Int)) = true then some (decide (v36 < 6)) else some (false)) fun y35 => (if y35 = true then (Option.bind (gt x2 v36) fun x5 => (Option.bind (glacierlaw01_Cut k x5 20) fun y36 => (Option.bind (raft_Node_Propose k v37 y29.1 v38 y29.2.2.1 v39 v40 y36) fun y37 => (if (y37.2.2.1 != 0) = true then some (Flow.ret (false)) else (glacierlaw10_RaftCompacts_l2 k x2 y29 j (IntKind.i64.wrap (v36 + 1)) y37.2.2.2.1 y37.2.2.2.2.1 y37.2.2.2.2.2.1 y37.2.2.2.2.2.2))))) else some (Flow.go (v37, v38, v39, v40))))
def glacierlaw10_RaftCompacts (k : Nat) (x1 : T_glacierlaw10_Start) (x2 : (List (List UInt8))) (x3 : (List UInt8)) : Option (Bool) := (Option.bind (glacierlaw10_awake k) fun y27 => (if (!y27) = true then some (false) else (Option.bind (glacierlaw01_Cut k x3 50) fun y28 => (Option.bind (glacierlaw10_Kept k (T_glacierlaw10_Start.mk x1.Term x1.Vote x1.Base x1.Terms)) fun y29 => (Option.bind (raft_Open k y29.1 y29.2.1 y29.2.2.1 y29.2.2.2.1 y29.2.2.2.2.1 0 1) fun y30 => (Option.bind (if (y30.2.1 != 0) = true then some (true) else some (false)) fun y31 => (if y31 = true then some (false) else (Option.bind (glacierlaw10_RaftCompacts_l1 k y29 k (0 : Int) y30.1 y30.2.2.1 y30.2.2.2.1 y30.2.2.2.2) fun y32 => (Option.bind (glacierlaw10_RaftCompacts_l2 k x2 y29 k (0 : Int) y32.1 y32.2.1 y32.2.2.1 y32.2.2.2) fun y34 => (match y34 with | Flow.ret r => some r | Flow.go z2 => (Option.bind (raft_Node_Fresh k z2.1 y29.1 z2.2.1 y29.2.2.1 z2.2.2.1 z2.2.2.2) fun y38 => (Option.bind (raft_Node_Last k y38.2.2.2 y29.1 z2.2.1 y29.2.2.1 z2.2.2.1 z2.2.2.2) fun y39 => (Option.bind (if y38.2.1 = true then some (true, y38.2.2.2, z2.2.1, z2.2.2.1, z2.2.2.2) else (if ((y38.2.2.1.length : Int) != (IntKind.i64.wrap (y39 - y29.2.2.2.2.2.2.Base))) = true then some (true, y38.2.2.2, z2.2.1, z2.2.2.1, z2.2.2.2) else (Option.bind (raft_Node_Applied k y38.2.2.2 y29.1 z2.2.1 y29.2.2.1 z2.2.2.1 z2.2.2.2) fun y41 => (if (y41 != y39) = true then some (true, y38.2.2.2, z2.2.1, z2.2.2.1, z2.2.2.2) else (Option.bind (raft_Node_Compact k y38.2.2.2 y29.1 z2.2.1 y29.2.2.1 z2.2.2.1 z2.2.2.2 y28) fun y42 => (if (y42.1 != 0) = true then some (true, y42.2.1, y42.2.2.1, y42.2.2.2.1, y42.2.2.2.2) else (Option.bind (raft_Node_Compact_2 k y42.2.1 y29.1 y42.2.2.1 y29.2.2.1 y42.2.2.2.1 y42.2.2.2.2 y28) fun y43 => some ((y43.1 != 5), y43.2.1, y43.2.2.1, y43.2.2.2.1, y43.2.2.2.2)))))))) fun y40 => (if y40.1 = true then some (false) else (Option.bind (raft_Open k y29.1 y40.2.2.1 y29.2.2.1 y40.2.2.2.1 y40.2.2.2.2 0 1) fun y44 => (Option.bind (term_Load k y29.1 y44.2.2.1 y29.2.2.1 y44.2.2.2.1 y44.2.2.2.2) fun y45 => (Option.bind (if (y44.2.1 == 0) = true then (if (y45.2.2.1 == 0) = true then (if (y45.2.1.Base == y39) = true then (if (sEq y45.2.1.Snap y28) = true then (if ((y45.1.length : Int) == 0) = true then (Option.bind (raft_Node_State k y44.1 y29.1 y45.2.2.2.1 y29.2.2.1 y45.2.2.2.2.1 y45.2.2.2.2.2) fun y47 => (Option.bind (glacierlaw09_Told k (T_term_State.mk y47.2.Term y47.2.Vote y47.2.Base y47.2.BaseTerm y47.2.Snap y47.1)) fun y48 => (Option.bind (raft_Node_State_2 k y40.2.1 y29.1 y45.2.2.2.1 y29.2.2.1 y45.2.2.2.2.1 y45.2.2.2.2.2) fun y49 => (Option.bind (glacierlaw09_Told k (T_term_State.mk y49.2.Term y49.2.Vote y49.2.Base y49.2.BaseTerm y49.2.Snap y49.1)) fun y50 => (Option.bind (glacierref09_Same k (T_glacierref09_State.mk y48.2.Term y48.2.Vote y48.2.Base y48.2.BaseTerm y48.2.Snap y48.1) (T_glacierref09_State.mk y50.2.Term y50.2.Vote y50.2.Base y50.2.BaseTerm y50.2.Snap y50.1)) fun y51 => (if y51 = true then (Option.bind (raft_Node_Last k y44.1 y29.1 y45.2.2.2.1 y29.2.2.1 y45.2.2.2.2.1 y45.2.2.2.2.2) fun y52 => some ((y52 == y39))) else some (false))))))) else some (false)) else some (false)) else some (false)) else some (false)) else some (false)) fun y46 => some (y46))))))))))))))))))
set_option maxRecDepth 100000 in
set_option maxHeartbeats 4000000 in
theorem glacierlaw10_RaftCompacts_ok {G w : World} {F : List HP} {R : Ending → World → Prop} (k : Nat) (x1 : T_glacierlaw10_Start) (x2 : (List (List UInt8))) (x3 : (List UInt8)) (a1 : Option Addr) (c1 : Nat) (a2 : Option Addr) (c2 : Nat) (r : (Bool)) (hst : St G w (dsl (rI .i64) a1 c1 x1.Terms :: dsl rS a2 c2 x2 :: F)) (hr : glacierlaw10_RaftCompacts k x1 x2 x3 = some r)
    (hR : ∀ w', St G w' (dsl (rI .i64) a1 c1 x1.Terms :: dsl rS a2 c2 x2 :: F) → R (.returned (.bool r)) w') :
    Calls Try.prog 3 #[.agg #[I x1.Term, I x1.Vote, I x1.Base, .slice a1 x1.Terms.length c1], .slice a2 x2.length c2, S x3] w R := by
  unfold glacierlaw10_RaftCompacts at hr
  refine enter Try.func3 rfl [(0, .agg #[I x1.Term, I x1.Vote, I x1.Base, .slice a1 x1.Terms.length c1]), (1, .slice a2 x2.length c2), (2, S x3)] rfl rfl fun b => ?_
  refine wp_seq ?_
  refine wp_reg ?_
  refine L_op rfl (O_box [I x1.Term, I x1.Vote, I x1.Base, .slice a1 x1.Terms.length c1] hst rfl rfl fun p8 w hst => ?_)
  refine L_pure 1 [(1, .slice a2 x2.length c2), (2, S x3), (3, pt p8 0)] (by kernel_rfl) fun b => ?_
  refine wpL_nil ?_
  refine th_n ?_
  refine wp_seq ?_
  refine wp_seq ?_
  refine wp_reg ?_
  obtain ⟨y27, hy27, hr⟩ := bnd hr
  refine L_op rfl (O_call (vs := #[]) Try.call4 (by kernel_rfl) (glacierlaw10_awake_ok k y27 hst hy27 fun w hst => ?_))
  refine CK_ret rfl ?_
  refine L_pure 1 [(1, .slice a2 x2.length c2), (2, S x3), (3, pt p8 0), (25, .bool (!y27))] (by kernel_rfl) fun b => ?_
  refine wpL_nil ?_
  refine th_n ?_
  refine wp_cond_mkF (t := (!y27)) rfl (fun h => ?_) (fun h => ?_)
  · have hr := (if_pos h).symm.trans hr
    refine wp_seq ?_
    refine wp_reg ?_
    refine L_pure 1 [(6, .bool false)] (by kernel_rfl) fun b => ?_
    refine wpL_nil ?_
    refine th_n ?_
    refine wp_ret ?_
    refine th_r ?_
    refine ret1 rfl rfl ?_
    obtain rfl := Option.some.inj hr
    have hst := (((hst.pull 2).pull 2).cut 2 1)
    exact hR _ hst
  · have hr := (if_neg (by rw [h]; exact Bool.false_ne_true)).symm.trans hr
    refine wp_skip ?_
    refine th_n ?_
    refine wp_seq ?_
    refine wp_reg ?_
    refine L_pure 1 [(1, .slice a2 x2.length c2), (3, pt p8 0), (26, S x3)] (by kernel_rfl) fun b => ?_
    obtain ⟨y28, hy28, hr⟩ := bnd hr
    refine L_op rfl (O_call (vs := #[S x3, I 50]) Try.call5 (by kernel_rfl) (glacierlaw01_Cut_ok k x3 50 y28 hst hy28 fun w hst => ?_))
    refine CK_ret rfl ?_
    refine L_pure 1 [(1, .slice a2 x2.length c2), (2, S y28), (3, pt p8 0)] (by kernel_rfl) fun b => ?_
    refine wpL_nil ?_
    refine th_n ?_
    refine wp_seq ?_
    refine wp_reg ?_
    refine L_op rfl (O_run (v := .agg #[I x1.Term, I x1.Vote, I x1.Base, .slice a1 x1.Terms.length c1]) (w' := w) (R_load hst rfl rfl) rfl rfl ?_)
    obtain ⟨y29, hy29, hr⟩ := bnd hr
    refine L_op rfl (O_call (vs := #[.agg #[I x1.Term, I x1.Vote, I x1.Base, .slice a1 x1.Terms.length c1]]) Try.call6 (by kernel_rfl) (glacierlaw10_Kept_ok k (T_glacierlaw10_Start.mk x1.Term x1.Vote x1.Base x1.Terms) a1 c1 y29 (hst.pull 1) hy29 fun p9 p10 a38 c38 w hst => ?_))
    refine CK_ret rfl ?_
    refine L_pure 3 [(1, .slice a2 x2.length c2), (2, S y28), (31, pt p9 0), (32, .agg #[I y29.2.2.2.2.2.2.Term, I y29.2.2.2.2.2.2.Vote, I y29.2.2.2.2.2.2.Base, I y29.2.2.2.2.2.2.BaseTerm, S y29.2.2.2.2.2.2.Snap, .slice a38 y29.2.2.2.2.2.1.length c38])] (by kernel_rfl) fun b => ?_
    refine L_op rfl (O_alloc (i := Try.t31) (z := .agg #[I 0, I 0, I 0, I 0, S ([]), .slice none 0 0]) [I 0, I 0, I 0, I 0, S ([]), .slice none 0 0] hst rfl rfl rfl rfl fun p11 w hst => ?_)
    refine L_pure 1 [(1, .slice a2 x2.length c2), (2, S y28), (7, pt p9 0), (8, pt p11 0), (32, .agg #[I y29.2.2.2.2.2.2.Term, I y29.2.2.2.2.2.2.Vote, I y29.2.2.2.2.2.2.Base, I y29.2.2.2.2.2.2.BaseTerm, S y29.2.2.2.2.2.2.Snap, .slice a38 y29.2.2.2.2.2.1.length c38])] (by kernel_rfl) fun b => ?_
    refine L_op rfl (O_store [I y29.2.2.2.2.2.2.Term, I y29.2.2.2.2.2.2.Vote, I y29.2.2.2.2.2.2.Base, I y29.2.2.2.2.2.2.BaseTerm, S y29.2.2.2.2.2.2.Snap, .slice a38 y29.2.2.2.2.2.1.length c38] hst rfl rfl (by kernel_rfl) fun w hst => ?_)
    refine wpL_nil ?_
    refine th_n ?_
    refine wp_seq ?_
    refine wp_reg ?_
    refine L_pure 1 [(1, .slice a2 x2.length c2), (2, S y28), (7, pt p9 0), (8, pt p11 0), (34, pt p9 0)] (by kernel_rfl) fun b => ?_
    obtain ⟨y30, hy30, hr⟩ := bnd hr
    refine L_op rfl (O_call (vs := #[pt p9 0, I 0, I 1]) Try.call7 (by kernel_rfl) (raft_Open_ok k y29.1 y29.2.1 y29.2.2.1 y29.2.2.2.1 y29.2.2.2.2.1 0 1 p9 p10 y30 ((hst.pull 3).pull 3) hy30 fun p12 a39 c39 a40 c40 w hst => ?_))
    refine CK_ret rfl ?_
    refine L_pure 5 [(1, .slice a2 x2.length c2), (2, S y28), (7, pt p9 0), (8, pt p11 0), (9, pt p12 0), (10, I y30.2.1)] (by kernel_rfl) fun b => ?_
    refine wpL_nil ?_
    refine th_n ?_
    refine wp_seq ?_
    obtain ⟨y31, hy31, hk7⟩ := bnd hr
    clear hr
    refine wp_seq_cut (fun a w => ∃ (b : Nat → Value), a = mkF 162 b [(1, .slice a2 x2.length c2), (2, S y28), (7, pt p9 0), (8, pt p11 0), (9, pt p12 0), (43, .bool y31)] ∧ St G w (osl r_T_term_Entry 55 a39 c39 y30.1.st.Log :: osl r_T_raft_Msg 105 a40 c40 y30.1.out :: blk p12 (cl [I y30.1.id, I y30.1.n, pt p9 0, I y30.1.st.Term, I y30.1.st.Vote, I y30.1.st.Base, I y30.1.st.BaseTerm, S y30.1.st.Snap, .slice a39 y30.1.st.Log.length c39, I y30.1.role, I y30.1.leader, I y30.1.commit, I y30.1.applied, I y30.1.timer, .bool (y30.1.votes 0), .bool (y30.1.votes 1), .bool (y30.1.votes 2), .bool (y30.1.votes 3), .bool (y30.1.votes 4), I (y30.1.next 0), I (y30.1.next 1), I (y30.1.next 2), I (y30.1.next 3), I (y30.1.next 4), I (y30.1.match_ 0), I (y30.1.match_ 1), I (y30.1.match_ 2), I (y30.1.match_ 3), I (y30.1.match_ 4), .slice a40 y30.1.out.length c40, I y30.1.broken] 63) :: blk p9 (cl [I y29.1, I y30.2.2.1, .bool y29.2.2.1, I y30.2.2.2.1, .map (some p10)] 91) :: mpr S (rPt r_T_platter_file) p10 y30.2.2.2.2 :: blk p11 (cl [I y29.2.2.2.2.2.2.Term, I y29.2.2.2.2.2.2.Vote, I y29.2.2.2.2.2.2.Base, I y29.2.2.2.2.2.2.BaseTerm, S y29.2.2.2.2.2.2.Snap, .slice a38 y29.2.2.2.2.2.1.length c38] 31) :: osl r_T_glacierref09_Entry 56 a38 c38 y29.2.2.2.2.2.1 :: dsl (rI .i64) a1 c1 x1.Terms :: blk p8 (cl [I x1.Term, I x1.Vote, I x1.Base, .slice a1 x1.Terms.length c1] 24) :: dsl rS a2 c2 x2 :: F)) ?_ ?_
    · rintro _ w ⟨b, rfl, hst⟩
      have hr := hk7
      refine wp_cond_mkF (t := y31) rfl (fun h => ?_) (fun h => ?_)
      · have hr := (if_pos h).symm.trans hr
        refine wp_seq ?_
        refine wp_reg ?_
        refine L_pure 1 [(6, .bool false)] (by kernel_rfl) fun b => ?_
        refine wpL_nil ?_
        refine th_n ?_
        refine wp_ret ?_
        refine th_r ?_
        refine ret1 rfl rfl ?_
        obtain rfl := Option.some.inj hr
        have hst := (((hst.pull 9).pull 8).cut 2 8)
        exact hR _ hst
      · have hr := (if_neg (by rw [h]; exact Bool.false_ne_true)).symm.trans hr
        refine wp_skip ?_
        refine th_n ?_
        refine wp_seq ?_
        refine wp_seq ?_
        refine wp_reg ?_
        refine L_pure 1 [(1, .slice a2 x2.length c2), (2, S y28), (7, pt p9 0), (8, pt p11 0), (9, pt p12 0), (11, I 0)] (by kernel_rfl) fun b => ?_
        refine wpL_nil ?_
        refine th_n ?_
        obtain ⟨y32, hy32, hk8⟩ := bnd hr
        clear hr
        refine Go.Hx.wp_cut (fun a w => ∃ (a45 : Option Addr) (c45 : Nat) (a46 : Option Addr) (c46 : Nat)(b : Nat → Value), a = mkF 162 b [(1, .slice a2 x2.length c2), (2, S y28), (7, pt p9 0), (8, pt p11 0), (9, pt p12 0)] ∧ St G w (osl r_T_term_Entry 55 a45 c45 y32.1.st.Log :: osl r_T_raft_Msg 105 a46 c46 y32.1.out :: blk p12 (cl [I y32.1.id, I y32.1.n, pt p9 0, I y32.1.st.Term, I y32.1.st.Vote, I y32.1.st.Base, I y32.1.st.BaseTerm, S y32.1.st.Snap, .slice a45 y32.1.st.Log.length c45, I y32.1.role, I y32.1.leader, I y32.1.commit, I y32.1.applied, I y32.1.timer, .bool (y32.1.votes 0), .bool (y32.1.votes 1), .bool (y32.1.votes 2), .bool (y32.1.votes 3), .bool (y32.1.votes 4), I (y32.1.next 0), I (y32.1.next 1), I (y32.1.next 2), I (y32.1.next 3), I (y32.1.next 4), I (y32.1.match_ 0), I (y32.1.match_ 1), I (y32.1.match_ 2), I (y32.1.match_ 3), I (y32.1.match_ 4), .slice a46 y32.1.out.length c46, I y32.1.broken] 63) :: blk p9 (cl [I y29.1, I y32.2.1, .bool y29.2.2.1, I y32.2.2.1, .map (some p10)] 91) :: mpr S (rPt r_T_platter_file) p10 y32.2.2.2 :: blk p11 (cl [I y29.2.2.2.2.2.2.Term, I y29.2.2.2.2.2.2.Vote, I y29.2.2.2.2.2.2.Base, I y29.2.2.2.2.2.2.BaseTerm, S y29.2.2.2.2.2.2.Snap, .slice a38 y29.2.2.2.2.2.1.length c38] 31) :: osl r_T_glacierref09_Entry 56 a38 c38 y29.2.2.2.2.2.1 :: dsl (rI .i64) a1 c1 x1.Terms :: blk p8 (cl [I x1.Term, I x1.Vote, I x1.Base, .slice a1 x1.Terms.length c1] 24) :: dsl rS a2 c2 x2 :: F)) ?_ ?_
        · rintro _ w ⟨a45, c45, a46, c46, b, rfl, hst⟩
          have hr := hk8
          refine th_n ?_
          refine wp_seq ?_
          refine wp_seq ?_
          refine wp_reg ?_
          refine L_pure 1 [(1, .slice a2 x2.length c2), (2, S y28), (7, pt p9 0), (8, pt p11 0), (9, pt p12 0), (12, I 0)] (by kernel_rfl) fun b => ?_
          refine wpL_nil ?_
          refine th_n ?_
          obtain ⟨y34, hy34, hk9⟩ := bnd hr
          clear hr
          refine Go.Hx.wp_cut (fun a w => ∃ (z2 : T_raft_Node × Int × Int × (List ((List UInt8) × (Option T_platter_file)))) (a53 : Option Addr) (c53 : Nat) (a54 : Option Addr) (c54 : Nat)(b : Nat → Value), y34 = .go z2 ∧ a = mkF 162 b [(2, S y28), (7, pt p9 0), (8, pt p11 0), (9, pt p12 0)] ∧ St G w (osl r_T_term_Entry 55 a53 c53 z2.1.st.Log :: osl r_T_raft_Msg 105 a54 c54 z2.1.out :: blk p12 (cl [I z2.1.id, I z2.1.n, pt p9 0, I z2.1.st.Term, I z2.1.st.Vote, I z2.1.st.Base, I z2.1.st.BaseTerm, S z2.1.st.Snap, .slice a53 z2.1.st.Log.length c53, I z2.1.role, I z2.1.leader, I z2.1.commit, I z2.1.applied, I z2.1.timer, .bool (z2.1.votes 0), .bool (z2.1.votes 1), .bool (z2.1.votes 2), .bool (z2.1.votes 3), .bool (z2.1.votes 4), I (z2.1.next 0), I (z2.1.next 1), I (z2.1.next 2), I (z2.1.next 3), I (z2.1.next 4), I (z2.1.match_ 0), I (z2.1.match_ 1), I (z2.1.match_ 2), I (z2.1.match_ 3), I (z2.1.match_ 4), .slice a54 z2.1.out.length c54, I z2.1.broken] 63) :: blk p9 (cl [I y29.1, I z2.2.1, .bool y29.2.2.1, I z2.2.2.1, .map (some p10)] 91) :: mpr S (rPt r_T_platter_file) p10 z2.2.2.2 :: blk p11 (cl [I y29.2.2.2.2.2.2.Term, I y29.2.2.2.2.2.2.Vote, I y29.2.2.2.2.2.2.Base, I y29.2.2.2.2.2.2.BaseTerm, S y29.2.2.2.2.2.2.Snap, .slice a38 y29.2.2.2.2.2.1.length c38] 31) :: osl r_T_glacierref09_Entry 56 a38 c38 y29.2.2.2.2.2.1 :: dsl (rI .i64) a1 c1 x1.Terms :: blk p8 (cl [I x1.Term, I x1.Vote, I x1.Base, .slice a1 x1.Terms.length c1] 24) :: dsl rS a2 c2 x2 :: F)) ?_ ?_
          · rintro _ w ⟨z2, a53, c53, a54, c54, b, rfl, rfl, hst⟩
            have hr := hk9
            refine th_n ?_
            refine wp_seq ?_
            refine wp_reg ?_
            refine L_pure 1 [(2, S y28), (7, pt p9 0), (8, pt p11 0), (9, pt p12 0), (74, pt p12 0)] (by kernel_rfl) fun b => ?_
            obtain ⟨y38, hy38, hr⟩ := bnd hr
            refine L_op rfl (O_call (vs := #[pt p12 0]) Try.call10 (by kernel_rfl) (raft_Node_Fresh_ok k z2.1 y29.1 z2.2.1 y29.2.2.1 z2.2.2.1 z2.2.2.2 p12 p9 p10 a53 c53 a54 c54 y38 (((((hst.pull 1).pull 1).pull 4).pull 4).pull 4) hy38 fun a57 c57 a58 c58 a59 c59 w hst => ?_))
            refine CK_ret rfl ?_
            refine L_pure 7 [(2, S y28), (7, pt p9 0), (8, pt p11 0), (9, pt p12 0), (17, .bool y38.2.1), (18, .slice a57 y38.2.2.1.length c57)] (by kernel_rfl) fun b => ?_
            refine wpL_nil ?_
            refine th_n ?_
            refine wp_seq ?_
            refine wp_reg ?_
            refine L_pure 1 [(2, S y28), (7, pt p9 0), (8, pt p11 0), (9, pt p12 0), (17, .bool y38.2.1), (18, .slice a57 y38.2.2.1.length c57), (79, pt p12 0)] (by kernel_rfl) fun b => ?_
            obtain ⟨y39, hy39, hr⟩ := bnd hr
            refine L_op rfl (O_call (vs := #[pt p12 0]) Try.call11 (by kernel_rfl) (raft_Node_Last_ok k y38.2.2.2 y29.1 z2.2.1 y29.2.2.1 z2.2.2.1 z2.2.2.2 p12 p9 p10 a58 c58 a59 c59 y39 (((((hst.pull 2).pull 2).pull 5).pull 5).pull 5) hy39 fun w hst => ?_))
            refine CK_ret rfl ?_
            refine L_pure 1 [(2, S y28), (7, pt p9 0), (8, pt p11 0), (9, pt p12 0), (17, .bool y38.2.1), (18, .slice a57 y38.2.2.1.length c57), (19, I y39)] (by kernel_rfl) fun b => ?_
            refine wpL_nil ?_
            refine th_n ?_
            refine wp_seq ?_
            obtain ⟨y40, hy40, hk11⟩ := bnd hr
            clear hr
            refine wp_seq_cut (fun a w => ∃ (a60 : Option Addr) (c60 : Nat) (a61 : Option Addr) (c61 : Nat)(b : Nat → Value), a = mkF 162 b [(2, S y28), (7, pt p9 0), (9, pt p12 0), (19, I y39), (108, .bool y40.1)] ∧ St G w (dsl r_T_term_Entry a60 c60 y40.2.1.st.Log :: osl r_T_raft_Msg 105 a61 c61 y40.2.1.out :: blk p12 (cl [I y40.2.1.id, I y40.2.1.n, pt p9 0, I y40.2.1.st.Term, I y40.2.1.st.Vote, I y40.2.1.st.Base, I y40.2.1.st.BaseTerm, S y40.2.1.st.Snap, .slice a60 y40.2.1.st.Log.length c60, I y40.2.1.role, I y40.2.1.leader, I y40.2.1.commit, I y40.2.1.applied, I y40.2.1.timer, .bool (y40.2.1.votes 0), .bool (y40.2.1.votes 1), .bool (y40.2.1.votes 2), .bool (y40.2.1.votes 3), .bool (y40.2.1.votes 4), I (y40.2.1.next 0), I (y40.2.1.next 1), I (y40.2.1.next 2), I (y40.2.1.next 3), I (y40.2.1.next 4), I (y40.2.1.match_ 0), I (y40.2.1.match_ 1), I (y40.2.1.match_ 2), I (y40.2.1.match_ 3), I (y40.2.1.match_ 4), .slice a61 y40.2.1.out.length c61, I y40.2.1.broken] 63) :: blk p9 (cl [I y29.1, I y40.2.2.1, .bool y29.2.2.1, I y40.2.2.2.1, .map (some p10)] 91) :: mpr S (rPt r_T_platter_file) p10 y40.2.2.2.2 :: osl r_T_term_Entry 55 a57 c57 y38.2.2.1 :: blk p11 (cl [I y29.2.2.2.2.2.2.Term, I y29.2.2.2.2.2.2.Vote, I y29.2.2.2.2.2.2.Base, I y29.2.2.2.2.2.2.BaseTerm, S y29.2.2.2.2.2.2.Snap, .slice a38 y29.2.2.2.2.2.1.length c38] 31) :: osl r_T_glacierref09_Entry 56 a38 c38 y29.2.2.2.2.2.1 :: dsl (rI .i64) a1 c1 x1.Terms :: blk p8 (cl [I x1.Term, I x1.Vote, I x1.Base, .slice a1 x1.Terms.length c1] 24) :: dsl rS a2 c2 x2 :: F)) ?_ ?_
            · rintro _ w ⟨a60, c60, a61, c61, b, rfl, hst⟩
              have hr := hk11
              refine wp_cond_mkF (t := y40.1) rfl (fun h => ?_) (fun h => ?_)
              · have hr := (if_pos h).symm.trans hr
                refine wp_seq ?_
                refine wp_reg ?_
                refine L_pure 1 [(6, .bool false)] (by kernel_rfl) fun b => ?_
                refine wpL_nil ?_
                refine th_n ?_
                refine wp_ret ?_
                refine th_r ?_
                refine ret1 rfl rfl ?_
                obtain rfl := Option.some.inj hr
                have hst := (((hst.pull 10).pull 9).cut 2 9)
                exact hR _ hst
              · have hr := (if_neg (by rw [h]; exact Bool.false_ne_true)).symm.trans hr
                refine wp_skip ?_
                refine th_n ?_
                refine wp_seq ?_
                refine wp_reg ?_
                refine L_pure 1 [(2, S y28), (7, pt p9 0), (9, pt p12 0), (19, I y39), (110, pt p9 0)] (by kernel_rfl) fun b => ?_
                obtain ⟨y44, hy44, hr⟩ := bnd hr
                refine L_op rfl (O_call (vs := #[pt p9 0, I 0, I 1]) Try.call7 (by kernel_rfl) (raft_Open_ok k y29.1 y40.2.2.1 y29.2.2.1 y40.2.2.2.1 y40.2.2.2.2 0 1 p9 p10 y44 ((hst.pull 4).pull 4) hy44 fun p13 a66 c66 a67 c67 w hst => ?_))
                refine CK_ret rfl ?_
                refine L_pure 5 [(2, S y28), (7, pt p9 0), (9, pt p12 0), (19, I y39), (20, pt p13 0), (21, I y44.2.1)] (by kernel_rfl) fun b => ?_
                refine wpL_nil ?_
                refine th_n ?_
                refine wp_seq ?_
                refine wp_reg ?_
                refine L_pure 1 [(2, S y28), (9, pt p12 0), (19, I y39), (20, pt p13 0), (21, I y44.2.1), (115, pt p9 0)] (by kernel_rfl) fun b => ?_
                obtain ⟨y45, hy45, hr⟩ := bnd hr
                refine L_op rfl (O_call (vs := #[pt p9 0]) Try.call14 (by kernel_rfl) (term_Load_ok k y29.1 y44.2.2.1 y29.2.2.1 y44.2.2.2.1 y44.2.2.2.2 p9 p10 y45 ((hst.pull 4).pull 4) hy45 fun a68 c68 w hst => ?_))
                refine CK_ret rfl ?_
                refine L_pure 3 [(2, S y28), (9, pt p12 0), (19, I y39), (20, pt p13 0), (21, I y44.2.1), (117, .agg #[I y45.2.1.Term, I y45.2.1.Vote, I y45.2.1.Base, I y45.2.1.BaseTerm, S y45.2.1.Snap, .slice a68 y45.1.length c68]), (118, I y45.2.2.1)] (by kernel_rfl) fun b => ?_
                refine L_op rfl (O_alloc (i := Try.t46) (z := .agg #[I 0, I 0, I 0, I 0, S ([]), .slice none 0 0]) [I 0, I 0, I 0, I 0, S ([]), .slice none 0 0] hst rfl rfl rfl rfl fun p14 w hst => ?_)
                refine L_op rfl (O_store [I y45.2.1.Term, I y45.2.1.Vote, I y45.2.1.Base, I y45.2.1.BaseTerm, S y45.2.1.Snap, .slice a68 y45.1.length c68] hst rfl rfl (by kernel_rfl) fun w hst => ?_)
                refine L_pure 1 [(2, S y28), (9, pt p12 0), (19, I y39), (20, pt p13 0), (21, I y44.2.1), (22, pt p14 0), (23, I y45.2.2.1)] (by kernel_rfl) fun b => ?_
                refine wpL_nil ?_
                refine th_n ?_
                obtain ⟨y46, hy46, hk12⟩ := bnd hr
                clear hr
                refine wp_seq_cut (fun a w => ∃ (b : Nat → Value), a = mkF 162 b [(6, .bool y46)] ∧ St G w (blk p13 (cl [I y44.1.id, I y44.1.n, pt p9 0, I y44.1.st.Term, I y44.1.st.Vote, I y44.1.st.Base, I y44.1.st.BaseTerm, S y44.1.st.Snap, .slice a66 y44.1.st.Log.length c66, I y44.1.role, I y44.1.leader, I y44.1.commit, I y44.1.applied, I y44.1.timer, .bool (y44.1.votes 0), .bool (y44.1.votes 1), .bool (y44.1.votes 2), .bool (y44.1.votes 3), .bool (y44.1.votes 4), I (y44.1.next 0), I (y44.1.next 1), I (y44.1.next 2), I (y44.1.next 3), I (y44.1.next 4), I (y44.1.match_ 0), I (y44.1.match_ 1), I (y44.1.match_ 2), I (y44.1.match_ 3), I (y44.1.match_ 4), .slice a67 y44.1.out.length c67, I y44.1.broken] 63) :: blk p9 (cl [I y29.1, I y45.2.2.2.1, .bool y29.2.2.1, I y45.2.2.2.2.1, .map (some p10)] 91) :: mpr S (rPt r_T_platter_file) p10 y45.2.2.2.2.2 :: osl r_T_term_Entry 55 a66 c66 y44.1.st.Log :: osl r_T_raft_Msg 105 a67 c67 y44.1.out :: blk p12 (cl [I y40.2.1.id, I y40.2.1.n, pt p9 0, I y40.2.1.st.Term, I y40.2.1.st.Vote, I y40.2.1.st.Base, I y40.2.1.st.BaseTerm, S y40.2.1.st.Snap, .slice a60 y40.2.1.st.Log.length c60, I y40.2.1.role, I y40.2.1.leader, I y40.2.1.commit, I y40.2.1.applied, I y40.2.1.timer, .bool (y40.2.1.votes 0), .bool (y40.2.1.votes 1), .bool (y40.2.1.votes 2), .bool (y40.2.1.votes 3), .bool (y40.2.1.votes 4), I (y40.2.1.next 0), I (y40.2.1.next 1), I (y40.2.1.next 2), I (y40.2.1.next 3), I (y40.2.1.next 4), I (y40.2.1.match_ 0), I (y40.2.1.match_ 1), I (y40.2.1.match_ 2), I (y40.2.1.match_ 3), I (y40.2.1.match_ 4), .slice a61 y40.2.1.out.length c61, I y40.2.1.broken] 63) :: dsl r_T_term_Entry a60 c60 y40.2.1.st.Log :: osl r_T_raft_Msg 105 a61 c61 y40.2.1.out :: blk p14 (cl [I y45.2.1.Term, I y45.2.1.Vote, I y45.2.1.Base, I y45.2.1.BaseTerm, S y45.2.1.Snap, .slice a68 y45.1.length c68] 46) :: osl r_T_term_Entry 55 a68 c68 y45.1 :: osl r_T_term_Entry 55 a57 c57 y38.2.2.1 :: blk p11 (cl [I y29.2.2.2.2.2.2.Term, I y29.2.2.2.2.2.2.Vote, I y29.2.2.2.2.2.2.Base, I y29.2.2.2.2.2.2.BaseTerm, S y29.2.2.2.2.2.2.Snap, .slice a38 y29.2.2.2.2.2.1.length c38] 31) :: osl r_T_glacierref09_Entry 56 a38 c38 y29.2.2.2.2.2.1 :: dsl (rI .i64) a1 c1 x1.Terms :: blk p8 (cl [I x1.Term, I x1.Vote, I x1.Base, .slice a1 x1.Terms.length c1] 24) :: dsl rS a2 c2 x2 :: F)) ?_ ?_
                · rintro _ w ⟨b, rfl, hst⟩
                  have hr := hk12
                  refine wp_ret ?_
                  refine ret1 rfl rfl ?_
                  obtain rfl := Option.some.inj hr
                  have hst := (((hst.pull 15).pull 14).cut 2 14)
                  exact hR _ hst
                · have hr := hy46
                  refine wp_reg ?_
                  refine L_pure 3 [(2, S y28), (9, pt p12 0), (19, I y39), (20, pt p13 0), (22, pt p14 0), (23, I y45.2.2.1), (121, .bool (y44.2.1 == 0))] (by kernel_rfl) fun b => ?_
                  by_cases h : (y44.2.1 == 0) = true
                  · have hr := (if_pos h).symm.trans hr
                    refine L_keep ((121, .bool (y44.2.1 == 0)) :: [(2, S y28), (9, pt p12 0), (19, I y39), (20, pt p13 0), (22, pt p14 0), (23, I y45.2.2.1)]) rfl fun b => ?_
                    refine L_bool h ?_
                    refine L_pure 4 [(2, S y28), (9, pt p12 0), (19, I y39), (20, pt p13 0), (22, pt p14 0), (125, .bool (y45.2.2.1 == 0))] (by kernel_rfl) fun b => ?_
                    by_cases h : (y45.2.2.1 == 0) = true
                    · have hr := (if_pos h).symm.trans hr
                      refine L_keep ((125, .bool (y45.2.2.1 == 0)) :: [(2, S y28), (9, pt p12 0), (19, I y39), (20, pt p13 0), (22, pt p14 0)]) rfl fun b => ?_
                      refine L_bool h ?_
                      refine L_pure 5 [(2, S y28), (9, pt p12 0), (19, I y39), (20, pt p13 0), (22, pt p14 0), (129, .bool true), (130, pt p14 2)] (by kernel_rfl) fun b => ?_
                      refine L_op rfl (O_run (v := I y45.2.1.Base) (w' := w) (R_load hst rfl rfl) rfl rfl ?_)
                      refine L_pure 4 [(2, S y28), (9, pt p12 0), (19, I y39), (20, pt p13 0), (22, pt p14 0), (135, .bool (y45.2.1.Base == y39))] (by kernel_rfl) fun b => ?_
                      by_cases h : (y45.2.1.Base == y39) = true
                      · have hr := (if_pos h).symm.trans hr
                        refine L_keep ((135, .bool (y45.2.1.Base == y39)) :: [(2, S y28), (9, pt p12 0), (19, I y39), (20, pt p13 0), (22, pt p14 0)]) rfl fun b => ?_
                        refine L_bool h ?_
                        refine L_pure 1 [(2, S y28), (9, pt p12 0), (19, I y39), (20, pt p13 0), (22, pt p14 0), (135, .bool true), (136, pt p14 4)] (by kernel_rfl) fun b => ?_
                        refine L_op rfl (O_run (v := S y45.2.1.Snap) (w' := w) (R_load hst rfl rfl) rfl rfl ?_)
                        refine L_pure 4 [(9, pt p12 0), (19, I y39), (20, pt p13 0), (22, pt p14 0), (141, .bool (sEq y45.2.1.Snap y28))] (by kernel_rfl) fun b => ?_
                        by_cases h : (sEq y45.2.1.Snap y28) = true
                        · have hr := (if_pos h).symm.trans hr
                          refine L_keep ((141, .bool (sEq y45.2.1.Snap y28)) :: [(9, pt p12 0), (19, I y39), (20, pt p13 0), (22, pt p14 0)]) rfl fun b => ?_
                          refine L_bool h ?_
                          refine L_pure 1 [(9, pt p12 0), (19, I y39), (20, pt p13 0), (141, .bool true), (142, pt p14 5)] (by kernel_rfl) fun b => ?_
                          refine L_op rfl (O_run (v := .slice a68 y45.1.length c68) (w' := w) (R_load hst rfl rfl) rfl rfl ?_)
                          refine L_pure 4 [(9, pt p12 0), (19, I y39), (20, pt p13 0), (147, .bool ((y45.1.length : Int) == 0))] (by kernel_rfl) fun b => ?_
                          by_cases h : ((y45.1.length : Int) == 0) = true
                          · have hr := (if_pos h).symm.trans hr
                            refine L_keep ((147, .bool ((y45.1.length : Int) == 0)) :: [(9, pt p12 0), (19, I y39), (20, pt p13 0)]) rfl fun b => ?_
                            refine L_bool h ?_
                            refine L_pure 1 [(9, pt p12 0), (19, I y39), (20, pt p13 0), (147, .bool true), (148, pt p13 0)] (by kernel_rfl) fun b => ?_
                            obtain ⟨y47, hy47, hr⟩ := bnd hr
                            refine L_op rfl (O_call (vs := #[pt p13 0]) Try.call17 (by kernel_rfl) (raft_Node_State_ok k y44.1 y29.1 y45.2.2.2.1 y29.2.2.1 y45.2.2.2.2.1 y45.2.2.2.2.2 p13 p9 p10 a66 c66 a67 c67 y47 (((((hst.pull 5).pull 5).pull 5).pull 5).pull 6) hy47 fun a69 c69 w hst => ?_))
                            refine CK_ret rfl ?_
                            obtain ⟨y48, hy48, hr⟩ := bnd hr
                            have hst := osl_freeze hst
                            refine L_op rfl (O_call (vs := #[.agg #[I y47.2.Term, I y47.2.Vote, I y47.2.Base, I y47.2.BaseTerm, S y47.2.Snap, .slice a69 y47.1.length c69]]) Try.call16 (by kernel_rfl) (glacierlaw09_Told_ok k (T_term_State.mk y47.2.Term y47.2.Vote y47.2.Base y47.2.BaseTerm y47.2.Snap y47.1) a69 c69 y48 hst hy48 fun a70 c70 w hst => ?_))
                            refine CK_ret rfl ?_
                            refine L_pure 1 [(19, I y39), (20, pt p13 0), (147, .bool true), (150, .agg #[I y48.2.Term, I y48.2.Vote, I y48.2.Base, I y48.2.BaseTerm, S y48.2.Snap, .slice a70 y48.1.length c70]), (151, pt p12 0)] (by kernel_rfl) fun b => ?_
                            obtain ⟨y49, hy49, hr⟩ := bnd hr
                            refine L_op rfl (O_call (vs := #[pt p12 0]) Try.call17 (by kernel_rfl) (raft_Node_State_2_ok k y40.2.1 y29.1 y45.2.2.2.1 y29.2.2.1 y45.2.2.2.2.1 y45.2.2.2.2.2 p12 p9 p10 a60 c60 a61 c61 y49 (((((hst.pull 10).pull 10).pull 6).pull 6).pull 11) hy49 fun a71 c71 w hst => ?_))
                            refine CK_ret rfl ?_
                            obtain ⟨y50, hy50, hr⟩ := bnd hr
                            have hst := osl_freeze hst
                            refine L_op rfl (O_call (vs := #[.agg #[I y49.2.Term, I y49.2.Vote, I y49.2.Base, I y49.2.BaseTerm, S y49.2.Snap, .slice a71 y49.1.length c71]]) Try.call16 (by kernel_rfl) (glacierlaw09_Told_ok k (T_term_State.mk y49.2.Term y49.2.Vote y49.2.Base y49.2.BaseTerm y49.2.Snap y49.1) a71 c71 y50 hst hy50 fun a72 c72 w hst => ?_))
                            refine CK_ret rfl ?_
                            obtain ⟨y51, hy51, hr⟩ := bnd hr
                            have hst := osl_freeze (hst.pull 7)
                            have hst := osl_freeze (hst.pull 1)
                            refine L_op rfl (O_call (vs := #[.agg #[I y48.2.Term, I y48.2.Vote, I y48.2.Base, I y48.2.BaseTerm, S y48.2.Snap, .slice a70 y48.1.length c70], .agg #[I y50.2.Term, I y50.2.Vote, I y50.2.Base, I y50.2.BaseTerm, S y50.2.Snap, .slice a72 y50.1.length c72]]) Try.call15 (by kernel_rfl) (glacierref09_Same_ok k (T_glacierref09_State.mk y48.2.Term y48.2.Vote y48.2.Base y48.2.BaseTerm y48.2.Snap y48.1) (T_glacierref09_State.mk y50.2.Term y50.2.Vote y50.2.Base y50.2.BaseTerm y50.2.Snap y50.1) a70 c70 a72 c72 y51 (hst.pull 1) hy51 fun w hst => ?_))
                            refine CK_ret rfl ?_
                            refine L_pure 2 [(19, I y39), (20, pt p13 0), (156, .bool y51)] (by kernel_rfl) fun b => ?_
                            by_cases h : y51 = true
                            · have hr := (if_pos h).symm.trans hr
                              refine L_keep ((156, .bool y51) :: [(19, I y39), (20, pt p13 0)]) rfl fun b => ?_
                              refine L_bool h ?_
                              refine L_pure 1 [(19, I y39), (156, .bool true), (157, pt p13 0)] (by kernel_rfl) fun b => ?_
                              obtain ⟨y52, hy52, hr⟩ := bnd hr
                              refine L_op rfl (O_call (vs := #[pt p13 0]) Try.call11 (by kernel_rfl) (raft_Node_Last_ok k y44.1 y29.1 y45.2.2.2.1 y29.2.2.1 y45.2.2.2.2.1 y45.2.2.2.2.2 p13 p9 p10 a66 c66 a67 c67 y52 (((((hst.pull 11).pull 11).pull 7).pull 7).pull 11) hy52 fun w hst => ?_))
                              refine CK_ret rfl ?_
                              refine L_pure 4 [(6, .bool (y52 == y39))] (by kernel_rfl) fun b => ?_
                              refine wpL_nil ?_
                              refine th_n ?_
                              obtain rfl := Option.some.inj hr
                              have hst := (((((((((((((((((hst.pull 19).pull 19).pull 19).pull 19).pull 19).pull 19).pull 19).pull 19).pull 18).pull 18).pull 18).pull 15).pull 15).pull 15).pull 15).pull 15).cut 16 4)
                              exact (kpX [(6, .bool (y52 == y39))] rfl hst)
                            · have hr := (if_neg h).symm.trans hr
                              refine L_keep ((156, .bool y51) :: [(19, I y39), (20, pt p13 0)]) rfl fun b => ?_
                              refine L_bool (eq_false_of_ne_true h) ?_
                              refine L_pure 6 [(6, .bool false)] (by kernel_rfl) fun b => ?_
                              refine wpL_nil ?_
                              refine th_n ?_
                              obtain rfl := Option.some.inj hr
                              have hst := (((((((((((((((((hst.pull 19).pull 19).pull 19).pull 19).pull 19).pull 19).pull 19).pull 19).pull 15).pull 15).pull 13).pull 19).pull 19).pull 17).pull 17).pull 19).cut 16 4)
                              exact (kpX [(6, .bool false)] rfl hst)
                          · have hr := (if_neg h).symm.trans hr
                            refine L_keep ((147, .bool ((y45.1.length : Int) == 0)) :: [(9, pt p12 0), (19, I y39), (20, pt p13 0)]) rfl fun b => ?_
                            refine L_bool (eq_false_of_ne_true h) ?_
                            refine L_pure 15 [(6, .bool false)] (by kernel_rfl) fun b => ?_
                            refine wpL_nil ?_
                            refine th_n ?_
                            obtain rfl := Option.some.inj hr
                            have hst := ((((((((((((((((hst.pull 15).pull 15).pull 15).pull 15).pull 15).pull 15).pull 7).pull 7).pull 14).pull 14).pull 15).pull 14).pull 14).pull 14).pull 14).pull 15)
                            exact (kpX [(6, .bool false)] rfl hst)
                        · have hr := (if_neg h).symm.trans hr
                          refine L_keep ((141, .bool (sEq y45.2.1.Snap y28)) :: [(9, pt p12 0), (19, I y39), (20, pt p13 0), (22, pt p14 0)]) rfl fun b => ?_
                          refine L_bool (eq_false_of_ne_true h) ?_
                          refine L_pure 21 [(6, .bool false)] (by kernel_rfl) fun b => ?_
                          refine wpL_nil ?_
                          refine th_n ?_
                          obtain rfl := Option.some.inj hr
                          have hst := ((((((((((((((((hst.pull 15).pull 15).pull 15).pull 15).pull 15).pull 15).pull 7).pull 7).pull 14).pull 14).pull 15).pull 14).pull 14).pull 14).pull 14).pull 15)
                          exact (kpX [(6, .bool false)] rfl hst)
                      · have hr := (if_neg h).symm.trans hr
                        refine L_keep ((135, .bool (y45.2.1.Base == y39)) :: [(2, S y28), (9, pt p12 0), (19, I y39), (20, pt p13 0), (22, pt p14 0)]) rfl fun b => ?_
                        refine L_bool (eq_false_of_ne_true h) ?_
                        refine L_pure 27 [(6, .bool false)] (by kernel_rfl) fun b => ?_
                        refine wpL_nil ?_
                        refine th_n ?_
                        obtain rfl := Option.some.inj hr
                        have hst := ((((((((((((((((hst.pull 15).pull 15).pull 15).pull 15).pull 15).pull 15).pull 7).pull 7).pull 14).pull 14).pull 15).pull 14).pull 14).pull 14).pull 14).pull 15)
                        exact (kpX [(6, .bool false)] rfl hst)
                    · have hr := (if_neg h).symm.trans hr
                      refine L_keep ((125, .bool (y45.2.2.1 == 0)) :: [(2, S y28), (9, pt p12 0), (19, I y39), (20, pt p13 0), (22, pt p14 0)]) rfl fun b => ?_
                      refine L_bool (eq_false_of_ne_true h) ?_
                      refine L_pure 37 [(6, .bool false)] (by kernel_rfl) fun b => ?_
                      refine wpL_nil ?_
                      refine th_n ?_
                      obtain rfl := Option.some.inj hr
                      have hst := ((((((((((((((((hst.pull 15).pull 15).pull 15).pull 15).pull 15).pull 15).pull 7).pull 7).pull 14).pull 14).pull 15).pull 14).pull 14).pull 14).pull 14).pull 15)
                      exact (kpX [(6, .bool false)] rfl hst)
                  · have hr := (if_neg h).symm.trans hr
                    refine L_keep ((121, .bool (y44.2.1 == 0)) :: [(2, S y28), (9, pt p12 0), (19, I y39), (20, pt p13 0), (22, pt p14 0), (23, I y45.2.2.1)]) rfl fun b => ?_
                    refine L_bool (eq_false_of_ne_true h) ?_
                    refine L_pure 41 [(6, .bool false)] (by kernel_rfl) fun b => ?_
                    refine wpL_nil ?_
                    refine th_n ?_
                    obtain rfl := Option.some.inj hr
                    have hst := ((((((((((((((((hst.pull 15).pull 15).pull 15).pull 15).pull 15).pull 15).pull 7).pull 7).pull 14).pull 14).pull 15).pull 14).pull 14).pull 14).pull 14).pull 15)
                    exact (kpX [(6, .bool false)] rfl hst)
            · have hr := hy40
              refine wp_reg ?_
              refine L_pure 2 [(2, S y28), (7, pt p9 0), (8, pt p11 0), (9, pt p12 0), (18, .slice a57 y38.2.2.1.length c57), (19, I y39), (82, .bool y38.2.1)] (by kernel_rfl) fun b => ?_
              by_cases h : y38.2.1 = true
              · have hr := (if_pos h).symm.trans hr
                refine L_keep ((82, .bool y38.2.1) :: [(2, S y28), (7, pt p9 0), (8, pt p11 0), (9, pt p12 0), (18, .slice a57 y38.2.2.1.length c57), (19, I y39)]) rfl fun b => ?_
                refine L_bool h ?_
                refine L_pure 26 [(2, S y28), (7, pt p9 0), (9, pt p12 0), (19, I y39), (108, .bool true)] (by kernel_rfl) fun b => ?_
                refine wpL_nil ?_
                refine th_n ?_
                obtain rfl := Option.some.inj hr
                have hst := osl_freeze (hst.pull 3)
                have hst := (((((((((((hst.pull 10).pull 10).pull 10).pull 10).pull 10).pull 10).pull 9).pull 9).pull 9).pull 10).pull 10)
                exact ⟨a58, c58, a59, c59, (kpX [(2, S y28), (7, pt p9 0), (9, pt p12 0), (19, I y39), (108, .bool true)] rfl hst)⟩
              · have hr := (if_neg h).symm.trans hr
                refine L_keep ((82, .bool y38.2.1) :: [(2, S y28), (7, pt p9 0), (8, pt p11 0), (9, pt p12 0), (18, .slice a57 y38.2.2.1.length c57), (19, I y39)]) rfl fun b => ?_
                refine L_bool (eq_false_of_ne_true h) ?_
                refine L_pure 4 [(2, S y28), (7, pt p9 0), (9, pt p12 0), (19, I y39), (82, .bool false), (84, I (y38.2.2.1.length : Int)), (85, I y39), (86, pt p11 2)] (by kernel_rfl) fun b => ?_
                refine L_op rfl (O_run (v := I y29.2.2.2.2.2.2.Base) (w' := w) (R_load (hst.pull 6) rfl rfl) rfl rfl ?_)
                refine L_pure 1 [(2, S y28), (7, pt p9 0), (9, pt p12 0), (19, I y39), (82, .bool false), (84, I (y38.2.2.1.length : Int)), (88, I (IntKind.i64.wrap (y39 - y29.2.2.2.2.2.2.Base)))] (by kernel_rfl) fun b => ?_
                refine L_op rfl (O_run (v := .bool ((y38.2.2.1.length : Int) != (IntKind.i64.wrap (y39 - y29.2.2.2.2.2.2.Base)))) (w' := w) (R_ine rfl rfl) rfl rfl ?_)
                refine L_pure 2 [(2, S y28), (7, pt p9 0), (9, pt p12 0), (19, I y39), (91, .bool ((y38.2.2.1.length : Int) != (IntKind.i64.wrap (y39 - y29.2.2.2.2.2.2.Base))))] (by kernel_rfl) fun b => ?_
                by_cases h : ((y38.2.2.1.length : Int) != (IntKind.i64.wrap (y39 - y29.2.2.2.2.2.2.Base))) = true
                · have hr := (if_pos h).symm.trans hr
                  refine L_keep ((91, .bool ((y38.2.2.1.length : Int) != (IntKind.i64.wrap (y39 - y29.2.2.2.2.2.2.Base)))) :: [(2, S y28), (7, pt p9 0), (9, pt p12 0), (19, I y39)]) rfl fun b => ?_
                  refine L_bool h ?_
                  refine L_pure 17 [(2, S y28), (7, pt p9 0), (9, pt p12 0), (19, I y39), (108, .bool true)] (by kernel_rfl) fun b => ?_
                  refine wpL_nil ?_
                  refine th_n ?_
                  obtain rfl := Option.some.inj hr
                  have hst := osl_freeze (hst.pull 3)
                  have hst := (((((((((((hst.pull 10).pull 10).pull 10).pull 10).pull 10).pull 10).pull 9).pull 9).pull 9).pull 10).pull 10)
                  exact ⟨a58, c58, a59, c59, (kpX [(2, S y28), (7, pt p9 0), (9, pt p12 0), (19, I y39), (108, .bool true)] rfl hst)⟩
                · have hr := (if_neg h).symm.trans hr
                  refine L_keep ((91, .bool ((y38.2.2.1.length : Int) != (IntKind.i64.wrap (y39 - y29.2.2.2.2.2.2.Base)))) :: [(2, S y28), (7, pt p9 0), (9, pt p12 0), (19, I y39)]) rfl fun b => ?_
                  refine L_bool (eq_false_of_ne_true h) ?_
                  refine L_pure 1 [(2, S y28), (7, pt p9 0), (9, pt p12 0), (19, I y39), (91, .bool false), (92, pt p12 0)] (by kernel_rfl) fun b => ?_
                  obtain ⟨y41, hy41, hr⟩ := bnd hr
                  refine L_op rfl (O_call (vs := #[pt p12 0]) Try.call12 (by kernel_rfl) (raft_Node_Applied_ok k y38.2.2.2 y29.1 z2.2.1 y29.2.2.1 z2.2.2.1 z2.2.2.2 p12 p9 p10 a58 c58 a59 c59 y41 (((((hst.pull 4).pull 4).pull 4).pull 4).pull 4) hy41 fun w hst => ?_))
                  refine CK_ret rfl ?_
                  refine L_pure 4 [(2, S y28), (7, pt p9 0), (9, pt p12 0), (19, I y39), (97, .bool (y41 != y39))] (by kernel_rfl) fun b => ?_
                  by_cases h : (y41 != y39) = true
                  · have hr := (if_pos h).symm.trans hr
                    refine L_keep ((97, .bool (y41 != y39)) :: [(2, S y28), (7, pt p9 0), (9, pt p12 0), (19, I y39)]) rfl fun b => ?_
                    refine L_bool h ?_
                    refine L_pure 11 [(2, S y28), (7, pt p9 0), (9, pt p12 0), (19, I y39), (108, .bool true)] (by kernel_rfl) fun b => ?_
                    refine wpL_nil ?_
                    refine th_n ?_
                    obtain rfl := Option.some.inj hr
                    have hst := osl_freeze (hst.pull 3)
                    have hst := (((((((((((hst.pull 10).pull 10).pull 10).pull 10).pull 10).pull 10).pull 9).pull 9).pull 9).pull 10).pull 10)
                    exact ⟨a58, c58, a59, c59, (kpX [(2, S y28), (7, pt p9 0), (9, pt p12 0), (19, I y39), (108, .bool true)] rfl hst)⟩
                  · have hr := (if_neg h).symm.trans hr
                    refine L_keep ((97, .bool (y41 != y39)) :: [(2, S y28), (7, pt p9 0), (9, pt p12 0), (19, I y39)]) rfl fun b => ?_
                    refine L_bool (eq_false_of_ne_true h) ?_
                    refine L_pure 2 [(2, S y28), (7, pt p9 0), (9, pt p12 0), (19, I y39), (97, .bool false), (98, pt p12 0), (99, S y28)] (by kernel_rfl) fun b => ?_
                    obtain ⟨y42, hy42, hr⟩ := bnd hr
                    refine L_op rfl (O_call (vs := #[pt p12 0, S y28]) Try.call13 (by kernel_rfl) (raft_Node_Compact_ok k y38.2.2.2 y29.1 z2.2.1 y29.2.2.1 z2.2.2.1 z2.2.2.2 y28 p12 p9 p10 a58 c58 a59 c59 y42 (((((hst.pull 4).pull 4).pull 4).pull 4).pull 4) hy42 fun a62 c62 a63 c63 w hst => ?_))
                    refine CK_ret rfl ?_
                    refine L_pure 3 [(2, S y28), (7, pt p9 0), (9, pt p12 0), (19, I y39), (103, .bool (y42.1 != 0))] (by kernel_rfl) fun b => ?_
                    by_cases h : (y42.1 != 0) = true
                    · have hr := (if_pos h).symm.trans hr
                      refine L_keep ((103, .bool (y42.1 != 0)) :: [(2, S y28), (7, pt p9 0), (9, pt p12 0), (19, I y39)]) rfl fun b => ?_
                      refine L_bool h ?_
                      refine L_pure 5 [(2, S y28), (7, pt p9 0), (9, pt p12 0), (19, I y39), (108, .bool true)] (by kernel_rfl) fun b => ?_
                      refine wpL_nil ?_
                      refine th_n ?_
                      obtain rfl := Option.some.inj hr
                      have hst := (((((((((((hst.pull 10).pull 10).pull 10).pull 10).pull 10).pull 10).pull 10).pull 10).pull 10).pull 10).pull 10)
                      exact ⟨a62, c62, a63, c63, (kpX [(2, S y28), (7, pt p9 0), (9, pt p12 0), (19, I y39), (108, .bool true)] rfl hst)⟩
                    · have hr := (if_neg h).symm.trans hr
                      refine L_keep ((103, .bool (y42.1 != 0)) :: [(2, S y28), (7, pt p9 0), (9, pt p12 0), (19, I y39)]) rfl fun b => ?_
                      refine L_bool (eq_false_of_ne_true h) ?_
                      refine L_pure 2 [(2, S y28), (7, pt p9 0), (9, pt p12 0), (19, I y39), (103, .bool false), (104, pt p12 0), (105, S y28)] (by kernel_rfl) fun b => ?_
                      obtain ⟨y43, hy43, hr⟩ := bnd hr
                      refine L_op rfl (O_call (vs := #[pt p12 0, S y28]) Try.call13 (by kernel_rfl) (raft_Node_Compact_2_ok k y42.2.1 y29.1 y42.2.2.1 y29.2.2.1 y42.2.2.2.1 y42.2.2.2.2 y28 p12 p9 p10 a62 c62 a63 c63 y43 (((((hst.pull 1).pull 1).pull 4).pull 4).pull 4) hy43 fun a64 c64 a65 c65 w hst => ?_))
                      refine CK_ret rfl ?_
                      refine L_pure 2 [(2, S y28), (7, pt p9 0), (9, pt p12 0), (19, I y39), (108, .bool (y43.1 != 5))] (by kernel_rfl) fun b => ?_
                      refine wpL_nil ?_
                      refine th_n ?_
                      obtain rfl := Option.some.inj hr
                      have hst := ((((((((((((hst.pull 11).pull 11).pull 11).pull 11).pull 11).pull 11).pull 10).pull 10).pull 10).pull 10).pull 10).cut 11 1)
                      exact ⟨a64, c64, a65, c65, (kpX [(2, S y28), (7, pt p9 0), (9, pt p12 0), (19, I y39), (108, .bool (y43.1 != 5))] rfl hst)⟩
          · have hst := ((((((((((hst.pull 9).pull 9).pull 9).pull 9).pull 9).pull 9).pull 9).pull 9).pull 9).pull 9)
            refine wp_block ?_
            refine wp_loop_fuel (fun j a w => ∃ (v36 : Int) (v37 : T_raft_Node) (v38 : Int) (v39 : Int) (v40 : (List ((List UInt8) × (Option T_platter_file)))) (a49 : Option Addr) (c49 : Nat) (a50 : Option Addr) (c50 : Nat) (b : Nat → Value), a = mkF 162 b [(1, .slice a2 x2.length c2), (2, S y28), (7, pt p9 0), (8, pt p11 0), (9, pt p12 0), (12, I v36)] ∧ St G w (osl r_T_term_Entry 55 a49 c49 v37.st.Log :: osl r_T_raft_Msg 105 a50 c50 v37.out :: blk p12 (cl [I v37.id, I v37.n, pt p9 0, I v37.st.Term, I v37.st.Vote, I v37.st.Base, I v37.st.BaseTerm, S v37.st.Snap, .slice a49 v37.st.Log.length c49, I v37.role, I v37.leader, I v37.commit, I v37.applied, I v37.timer, .bool (v37.votes 0), .bool (v37.votes 1), .bool (v37.votes 2), .bool (v37.votes 3), .bool (v37.votes 4), I (v37.next 0), I (v37.next 1), I (v37.next 2), I (v37.next 3), I (v37.next 4), I (v37.match_ 0), I (v37.match_ 1), I (v37.match_ 2), I (v37.match_ 3), I (v37.match_ 4), .slice a50 v37.out.length c50, I v37.broken] 63) :: blk p9 (cl [I y29.1, I v38, .bool y29.2.2.1, I v39, .map (some p10)] 91) :: mpr S (rPt r_T_platter_file) p10 v40 :: blk p11 (cl [I y29.2.2.2.2.2.2.Term, I y29.2.2.2.2.2.2.Vote, I y29.2.2.2.2.2.2.Base, I y29.2.2.2.2.2.2.BaseTerm, S y29.2.2.2.2.2.2.Snap, .slice a38 y29.2.2.2.2.2.1.length c38] 31) :: osl r_T_glacierref09_Entry 56 a38 c38 y29.2.2.2.2.2.1 :: dsl (rI .i64) a1 c1 x1.Terms :: blk p8 (cl [I x1.Term, I x1.Vote, I x1.Base, .slice a1 x1.Terms.length c1] 24) :: dsl rS a2 c2 x2 :: F) ∧ glacierlaw10_RaftCompacts_l2 k x2 y29 j v36 v37 v38 v39 v40 = some y34) (k := k) ⟨(0 : Int), y32.1, y32.2.1, y32.2.2.1, y32.2.2.2, a45, c45, a46, c46, (kpX [(1, .slice a2 x2.length c2), (2, S y28), (7, pt p9 0), (8, pt p11 0), (9, pt p12 0), (12, I 0)] rfl ⟨hst, hy34⟩)⟩ ?_ ?_
            · rintro _ _ ⟨_, _, _, _, _, _, _, _, _, _, _, _, h⟩
              rw [glacierlaw10_RaftCompacts_l2] at h
              cases h
            · rintro j _ w ⟨v36, v37, v38, v39, v40, a49, c49, a50, c50, b, rfl, hst, hr⟩
              rw [glacierlaw10_RaftCompacts_l2] at hr
              refine wp_seq ?_
              obtain ⟨y35, hy35, hk10⟩ := bnd hr
              clear hr
              refine wp_seq_cut (fun a w => ∃ (b : Nat → Value), a = mkF 162 b [(1, .slice a2 x2.length c2), (2, S y28), (7, pt p9 0), (8, pt p11 0), (9, pt p12 0), (12, I v36), (57, .bool y35)] ∧ St G w (osl r_T_term_Entry 55 a49 c49 v37.st.Log :: osl r_T_raft_Msg 105 a50 c50 v37.out :: blk p12 (cl [I v37.id, I v37.n, pt p9 0, I v37.st.Term, I v37.st.Vote, I v37.st.Base, I v37.st.BaseTerm, S v37.st.Snap, .slice a49 v37.st.Log.length c49, I v37.role, I v37.leader, I v37.commit, I v37.applied, I v37.timer, .bool (v37.votes 0), .bool (v37.votes 1), .bool (v37.votes 2), .bool (v37.votes 3), .bool (v37.votes 4), I (v37.next 0), I (v37.next 1), I (v37.next 2), I (v37.next 3), I (v37.next 4), I (v37.match_ 0), I (v37.match_ 1), I (v37.match_ 2), I (v37.match_ 3), I (v37.match_ 4), .slice a50 v37.out.length c50, I v37.broken] 63) :: blk p9 (cl [I y29.1, I v38, .bool y29.2.2.1, I v39, .map (some p10)] 91) :: mpr S (rPt r_T_platter_file) p10 v40 :: blk p11 (cl [I y29.2.2.2.2.2.2.Term, I y29.2.2.2.2.2.2.Vote, I y29.2.2.2.2.2.2.Base, I y29.2.2.2.2.2.2.BaseTerm, S y29.2.2.2.2.2.2.Snap, .slice a38 y29.2.2.2.2.2.1.length c38] 31) :: osl r_T_glacierref09_Entry 56 a38 c38 y29.2.2.2.2.2.1 :: dsl (rI .i64) a1 c1 x1.Terms :: blk p8 (cl [I x1.Term, I x1.Vote, I x1.Base, .slice a1 x1.Terms.length c1] 24) :: dsl rS a2 c2 x2 :: F)) ?_ ?_
              · rintro _ w ⟨b, rfl, hst⟩
                have hr := hk10
                refine wp_cond_mkF (t := y35) rfl (fun h => ?_) (fun h => ?_)
                · have hr := (if_pos h).symm.trans hr
                  refine wp_skip ?_
                  refine th_n ?_
                  refine wp_seq ?_
                  refine wp_block ?_
                  refine wp_seq ?_
                  refine wp_reg ?_
                  refine L_pure 3 [(1, .slice a2 x2.length c2), (2, S y28), (7, pt p9 0), (8, pt p11 0), (9, pt p12 0), (12, I v36), (61, pt p12 0), (62, .slice a2 x2.length c2), (63, I v36)] (by kernel_rfl) fun b => ?_
                  obtain ⟨x5, hx2, hr⟩ := bnd hr
                  refine L_op rfl (O_run (v := pt (ab a2) (ao a2 + v36.toNat * 1)) (w' := w) (R_ia L25 rfl rfl (dsl_addr (hst.pull 9) hx2) (gt_some hx2).1 (gt_some hx2).2.1) rfl rfl ?_)
                  obtain ⟨q2, hc2, hst⟩ := dsl_cells (hst.pull 9) hx2
                  have hst := hst.drop
                  refine L_op rfl (O_run (v := S x5) (w' := w) (R_loadAt (off := ao a2 + v36.toNat * 1) (j := 0) hc2 rfl rfl) rfl rfl ?_)
                  obtain ⟨y36, hy36, hr⟩ := bnd hr
                  refine L_op rfl (O_call (vs := #[S x5, I 20]) Try.call5 (by kernel_rfl) (glacierlaw01_Cut_ok k x5 20 y36 hst hy36 fun w hst => ?_))
                  refine CK_ret rfl ?_
                  obtain ⟨y37, hy37, hr⟩ := bnd hr
                  refine L_op rfl (O_call (vs := #[pt p12 0, S y36]) Try.call9 (by kernel_rfl) (raft_Node_Propose_ok k v37 y29.1 v38 y29.2.2.1 v39 v40 y36 p12 p9 p10 a49 c49 a50 c50 y37 (((((hst.pull 2).pull 2).pull 5).pull 5).pull 5) hy37 fun a55 c55 a56 c56 w hst => ?_))
                  refine CK_ret rfl ?_
                  refine L_pure 7 [(1, .slice a2 x2.length c2), (2, S y28), (7, pt p9 0), (8, pt p11 0), (9, pt p12 0), (12, I v36), (15, I y37.2.2.1)] (by kernel_rfl) fun b => ?_
                  refine wpL_nil ?_
                  refine th_n ?_
                  refine wp_seq ?_
                  refine wp_reg ?_
                  refine L_pure 2 [(1, .slice a2 x2.length c2), (2, S y28), (7, pt p9 0), (8, pt p11 0), (9, pt p12 0), (12, I v36), (72, .bool (y37.2.2.1 != 0))] (by kernel_rfl) fun b => ?_
                  refine wpL_nil ?_
                  refine th_n ?_
                  refine wp_cond_mkF (t := (y37.2.2.1 != 0)) rfl (fun h => ?_) (fun h => ?_)
                  · have hr := (if_pos h).symm.trans hr
                    refine wp_seq ?_
                    refine wp_reg ?_
                    refine L_pure 1 [(6, .bool false)] (by kernel_rfl) fun b => ?_
                    refine wpL_nil ?_
                    refine th_n ?_
                    refine wp_ret ?_
                    refine ib_r (th_r (th_r (ib_r (th_r (th_r ?_)))))
                    refine ret1 rfl rfl ?_
                    obtain rfl := Option.some.inj hr
                    obtain rfl := Option.some.inj hk9
                    have hst := (((hst.pull 5).pull 8).cut 2 8)
                    exact hR _ hst
                  · have hr := (if_neg (by rw [h]; exact Bool.false_ne_true)).symm.trans hr
                    refine wp_skip ?_
                    refine ib_n (th_n ?_)
                    refine wp_reg ?_
                    refine L_pure 3 [(1, .slice a2 x2.length c2), (2, S y28), (7, pt p9 0), (8, pt p11 0), (9, pt p12 0), (12, I (IntKind.i64.wrap (v36 + 1)))] (by kernel_rfl) fun b => ?_
                    refine wpL_nil ?_
                    refine th_n ?_
                    have hst := ((((((((((hst.pull 5).pull 9).pull 9).pull 9).pull 9).pull 9).pull 9).pull 9).pull 9).pull 9)
                    exact ⟨(IntKind.i64.wrap (v36 + 1)), y37.2.2.2.1, y37.2.2.2.2.1, y37.2.2.2.2.2.1, y37.2.2.2.2.2.2, a55, c55, a56, c56, (kpX [(1, .slice a2 x2.length c2), (2, S y28), (7, pt p9 0), (8, pt p11 0), (9, pt p12 0), (12, I (IntKind.i64.wrap (v36 + 1)))] rfl ⟨hst, hr⟩)⟩
                · have hr := (if_neg (by rw [h]; exact Bool.false_ne_true)).symm.trans hr
                  refine wp_exit ?_
                  refine th_x (th_x (ib_x (th_n ?_)))
                  obtain rfl := Option.some.inj hr
                  have hst := ((((((((((hst.pull 9).pull 9).pull 9).pull 9).pull 9).pull 9).pull 9).pull 9).pull 9).pull 9)
                  exact ⟨(v37, v38, v39, v40), a49, c49, a50, c50, (kpXf [(2, S y28), (7, pt p9 0), (8, pt p11 0), (9, pt p12 0)] rfl hst)⟩
              · have hr := hy35
                refine wp_reg ?_
                refine L_pure 5 [(1, .slice a2 x2.length c2), (2, S y28), (7, pt p9 0), (8, pt p11 0), (9, pt p12 0), (12, I v36), (54, .bool (decide (v36 < (x2.length : Int))))] (by kernel_rfl) fun b => ?_
                by_cases h : (decide (v36 < (x2.length : Int))) = true
                · have hr := (if_pos h).symm.trans hr
                  refine L_keep ((54, .bool (decide (v36 < (x2.length : Int)))) :: [(1, .slice a2 x2.length c2), (2, S y28), (7, pt p9 0), (8, pt p11 0), (9, pt p12 0), (12, I v36)]) rfl fun b => ?_
                  refine L_bool h ?_
                  refine L_pure 3 [(1, .slice a2 x2.length c2), (2, S y28), (7, pt p9 0), (8, pt p11 0), (9, pt p12 0), (12, I v36), (57, .bool (decide (v36 < 6)))] (by kernel_rfl) fun b => ?_
                  refine wpL_nil ?_
                  refine th_n ?_
                  obtain rfl := Option.some.inj hr
                  have hst := ((((((((((hst.pull 9).pull 9).pull 9).pull 9).pull 9).pull 9).pull 9).pull 9).pull 9).pull 9)
                  exact (kpX [(1, .slice a2 x2.length c2), (2, S y28), (7, pt p9 0), (8, pt p11 0), (9, pt p12 0), (12, I v36), (57, .bool (decide (v36 < 6)))] rfl hst)
                · have hr := (if_neg h).symm.trans hr
                  refine L_keep ((54, .bool (decide (v36 < (x2.length : Int)))) :: [(1, .slice a2 x2.length c2), (2, S y28), (7, pt p9 0), (8, pt p11 0), (9, pt p12 0), (12, I v36)]) rfl fun b => ?_
                  refine L_bool (eq_false_of_ne_true h) ?_
                  refine L_pure 3 [(1, .slice a2 x2.length c2), (2, S y28), (7, pt p9 0), (8, pt p11 0), (9, pt p12 0), (12, I v36), (57, .bool false)] (by kernel_rfl) fun b => ?_
                  refine wpL_nil ?_
                  refine th_n ?_
                  obtain rfl := Option.some.inj hr
                  have hst := ((((((((((hst.pull 9).pull 9).pull 9).pull 9).pull 9).pull 9).pull 9).pull 9).pull 9).pull 9)
                  exact (kpX [(1, .slice a2 x2.length c2), (2, S y28), (7, pt p9 0), (8, pt p11 0), (9, pt p12 0), (12, I v36), (57, .bool false)] rfl hst)
        · have hst := ((((((((((hst.pull 9).pull 9).pull 9).pull 9).pull 9).pull 9).pull 9).pull 9).pull 9).pull 9)
          refine wp_block ?_
          refine wp_loop_fuel (fun j a w => ∃ (v26 : Int) (v27 : T_raft_Node) (v28 : Int) (v29 : Int) (v30 : (List ((List UInt8) × (Option T_platter_file)))) (a41 : Option Addr) (c41 : Nat) (a42 : Option Addr) (c42 : Nat) (b : Nat → Value), a = mkF 162 b [(1, .slice a2 x2.length c2), (2, S y28), (7, pt p9 0), (8, pt p11 0), (9, pt p12 0), (11, I v26)] ∧ St G w (osl r_T_term_Entry 55 a41 c41 v27.st.Log :: osl r_T_raft_Msg 105 a42 c42 v27.out :: blk p12 (cl [I v27.id, I v27.n, pt p9 0, I v27.st.Term, I v27.st.Vote, I v27.st.Base, I v27.st.BaseTerm, S v27.st.Snap, .slice a41 v27.st.Log.length c41, I v27.role, I v27.leader, I v27.commit, I v27.applied, I v27.timer, .bool (v27.votes 0), .bool (v27.votes 1), .bool (v27.votes 2), .bool (v27.votes 3), .bool (v27.votes 4), I (v27.next 0), I (v27.next 1), I (v27.next 2), I (v27.next 3), I (v27.next 4), I (v27.match_ 0), I (v27.match_ 1), I (v27.match_ 2), I (v27.match_ 3), I (v27.match_ 4), .slice a42 v27.out.length c42, I v27.broken] 63) :: blk p9 (cl [I y29.1, I v28, .bool y29.2.2.1, I v29, .map (some p10)] 91) :: mpr S (rPt r_T_platter_file) p10 v30 :: blk p11 (cl [I y29.2.2.2.2.2.2.Term, I y29.2.2.2.2.2.2.Vote, I y29.2.2.2.2.2.2.Base, I y29.2.2.2.2.2.2.BaseTerm, S y29.2.2.2.2.2.2.Snap, .slice a38 y29.2.2.2.2.2.1.length c38] 31) :: osl r_T_glacierref09_Entry 56 a38 c38 y29.2.2.2.2.2.1 :: dsl (rI .i64) a1 c1 x1.Terms :: blk p8 (cl [I x1.Term, I x1.Vote, I x1.Base, .slice a1 x1.Terms.length c1] 24) :: dsl rS a2 c2 x2 :: F) ∧ glacierlaw10_RaftCompacts_l1 k y29 j v26 v27 v28 v29 v30 = some y32) (k := k) ⟨(0 : Int), y30.1, y30.2.2.1, y30.2.2.2.1, y30.2.2.2.2, a39, c39, a40, c40, (kpX [(1, .slice a2 x2.length c2), (2, S y28), (7, pt p9 0), (8, pt p11 0), (9, pt p12 0), (11, I 0)] rfl ⟨hst, hy32⟩)⟩ ?_ ?_
          · rintro _ _ ⟨_, _, _, _, _, _, _, _, _, _, _, _, h⟩
            rw [glacierlaw10_RaftCompacts_l1] at h
            cases h
          · rintro j _ w ⟨v26, v27, v28, v29, v30, a41, c41, a42, c42, b, rfl, hst, hr⟩
            rw [glacierlaw10_RaftCompacts_l1] at hr
            refine wp_seq ?_
            refine wp_seq ?_
            refine wp_reg ?_
            refine L_pure 2 [(1, .slice a2 x2.length c2), (2, S y28), (7, pt p9 0), (8, pt p11 0), (9, pt p12 0), (11, I v26), (45, .bool (decide (v26 < 4)))] (by kernel_rfl) fun b => ?_
            refine wpL_nil ?_
            refine th_n ?_
            refine wp_cond_mkF (t := decide (v26 < 4)) rfl (fun h => ?_) (fun h => ?_)
            · have hr := (if_pos h).symm.trans hr
              refine wp_skip ?_
              refine th_n ?_
              refine wp_seq ?_
              refine wp_block ?_
              refine wp_reg ?_
              refine L_pure 1 [(1, .slice a2 x2.length c2), (2, S y28), (7, pt p9 0), (8, pt p11 0), (9, pt p12 0), (11, I v26), (48, pt p12 0)] (by kernel_rfl) fun b => ?_
              obtain ⟨y33, hy33, hr⟩ := bnd hr
              refine L_op rfl (O_call (vs := #[pt p12 0]) Try.call8 (by kernel_rfl) (raft_Node_Tick_ok k v27 y29.1 v28 y29.2.2.1 v29 v30 p12 p9 p10 a41 c41 a42 c42 y33 (((((hst.pull 1).pull 1).pull 4).pull 4).pull 4) hy33 fun a47 c47 a48 c48 w hst => ?_))
              refine CK_ret rfl ?_
              refine wpL_nil ?_
              refine ib_n (th_n ?_)
              refine wp_reg ?_
              refine L_pure 3 [(1, .slice a2 x2.length c2), (2, S y28), (7, pt p9 0), (8, pt p11 0), (9, pt p12 0), (11, I (IntKind.i64.wrap (v26 + 1)))] (by kernel_rfl) fun b => ?_
              refine wpL_nil ?_
              refine th_n ?_
              have hst := ((((((((((hst.pull 9).pull 9).pull 9).pull 9).pull 9).pull 9).pull 9).pull 9).pull 9).pull 9)
              exact ⟨(IntKind.i64.wrap (v26 + 1)), y33.1, y33.2.1, y33.2.2.1, y33.2.2.2, a47, c47, a48, c48, (kpX [(1, .slice a2 x2.length c2), (2, S y28), (7, pt p9 0), (8, pt p11 0), (9, pt p12 0), (11, I (IntKind.i64.wrap (v26 + 1)))] rfl ⟨hst, hr⟩)⟩
            · have hr := (if_neg (by rw [h]; exact Bool.false_ne_true)).symm.trans hr
              refine wp_exit ?_
              refine th_x (th_x (ib_x (th_n ?_)))
              obtain rfl := Option.some.inj hr
              have hst := ((((((((((hst.pull 9).pull 9).pull 9).pull 9).pull 9).pull 9).pull 9).pull 9).pull 9).pull 9)
              exact ⟨a41, c41, a42, c42, (kpX [(1, .slice a2 x2.length c2), (2, S y28), (7, pt p9 0), (8, pt p11 0), (9, pt p12 0)] rfl hst)⟩
    · have hr := hy31
      refine wp_reg ?_
      refine L_pure 3 [(1, .slice a2 x2.length c2), (2, S y28), (7, pt p9 0), (8, pt p11 0), (9, pt p12 0), (40, .bool (y30.2.1 != 0))] (by kernel_rfl) fun b => ?_
      by_cases h : (y30.2.1 != 0) = true
      · have hr := (if_pos h).symm.trans hr
        refine L_keep ((40, .bool (y30.2.1 != 0)) :: [(1, .slice a2 x2.length c2), (2, S y28), (7, pt p9 0), (8, pt p11 0), (9, pt p12 0)]) rfl fun b => ?_
        refine L_bool h ?_
        refine L_pure 3 [(1, .slice a2 x2.length c2), (2, S y28), (7, pt p9 0), (8, pt p11 0), (9, pt p12 0), (43, .bool true)] (by kernel_rfl) fun b => ?_
        refine wpL_nil ?_
        refine th_n ?_
        obtain rfl := Option.some.inj hr
        have hst := ((((((((((hst.pull 9).pull 9).pull 9).pull 9).pull 9).pull 9).pull 9).pull 9).pull 9).pull 9)
        exact (kpX [(1, .slice a2 x2.length c2), (2, S y28), (7, pt p9 0), (8, pt p11 0), (9, pt p12 0), (43, .bool true)] rfl hst)
      · have hr := (if_neg h).symm.trans hr
        refine L_keep ((40, .bool (y30.2.1 != 0)) :: [(1, .slice a2 x2.length c2), (2, S y28), (7, pt p9 0), (8, pt p11 0), (9, pt p12 0)]) rfl fun b => ?_
        refine L_bool (eq_false_of_ne_true h) ?_
        refine L_pure 3 [(1, .slice a2 x2.length c2), (2, S y28), (7, pt p9 0), (8, pt p11 0), (9, pt p12 0), (43, .bool false)] (by kernel_rfl) fun b => ?_
        refine wpL_nil ?_
        refine th_n ?_
        obtain rfl := Option.some.inj hr
        have hst := ((((((((((hst.pull 9).pull 9).pull 9).pull 9).pull 9).pull 9).pull 9).pull 9).pull 9).pull 9)
        exact (kpX [(1, .slice a2 x2.length c2), (2, S y28), (7, pt p9 0), (8, pt p11 0), (9, pt p12 0), (43, .bool false)] rfl hst)
end Go.Proofs.Ytpldjopnhhbjpaa
