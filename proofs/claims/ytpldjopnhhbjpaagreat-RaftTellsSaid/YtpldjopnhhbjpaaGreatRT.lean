/- RT, one part more. -/
import Derived.Test.YtpldjopnhhbjpaaGreatRTd
namespace Go.Proofs.YtpldjopnhhbjpaaGreat
open Go.Hx Go.RowKit
def glacierlaw10_RaftTells_l2 (k : Nat) (x8 : T_raft_Msg) : Nat → Int → Option (Flow (Bool) (Unit))
  | 0, _ => none
  | j + 1, v8 => (if decide (v8 < (x8.Entries.length : Int)) = true then (Option.bind (gt x8.Entries v8) fun x9 => (if (x9.Index != (IntKind.i64.wrap ((IntKind.i64.wrap (x8.Index + 1)) + v8))) = true then some (Flow.ret (false)) else (glacierlaw10_RaftTells_l2 k x8 j (IntKind.i64.wrap (v8 + 1))))) else some (Flow.go ()))
def glacierlaw10_RaftTells_l1 (k : Nat) (y25 : (T_raft_Node × Int × Int × Bool × Int × (List ((List UInt8) × (Option T_platter_file))))) (y30 : (T_raft_Node × Int × Int × (List ((List UInt8) × (Option T_platter_file))))) (y31 : ((List T_raft_Msg) × T_raft_Node)) (y32 : ((List T_term_Entry) × T_term_State)) : Nat → Int → Option (Flow (Bool) (Unit))
  | 0, _ => none
  | j + 1, v6 => (if decide (v6 < (y31.1.length : Int)) = true then (Option.bind (Option.bind (gt y31.1 v6) fun x8 => (Option.bind (if (x8.From != 0) = true then some (true) else (Option.bind (raft_Node_Term k y31.2 y25.2.1 y30.2.1 y25.2.2.2.1 y30.2.2.1 y30.2.2.2) fun y36 => (if (x8.Term != y36) = true then some (true) else (Option.bind (raft_Node_Commit k y31.2 y25.2.1 y30.2.1 y25.2.2.2.1 y30.2.2.1 y30.2.2.2) fun y37 => some ((x8.Commit != y37)))))) fun y35 => (if y35 = true then some (Flow.ret (false)) else (if (x8.Kind == 5) = true then (Option.bind (if (x8.Index != y32.2.Base) = true then some (true) else (Option.bind (raft_Node_State k y31.2 y25.2.1 y30.2.1 y25.2.2.2.1 y30.2.2.1 y30.2.2.2) fun y39 => (if (!sEq x8.Snap y39.2.Snap) = true then some (true) else some ((y32.2.Base == 0))))) fun y38 => (if y38 = true then some (Flow.ret (false)) else some (Flow.go ()))) else (Option.bind (if (x8.Kind != 3) = true then some (true) else (if decide (x8.Index < y32.2.Base) = true then some (true) else (Option.bind (raft_Node_Last k y31.2 y25.2.1 y30.2.1 y25.2.2.2.1 y30.2.2.1 y30.2.2.2) fun y41 => some (((x8.Entries.length : Int) != (mn2 (IntKind.i64.wrap (y41 - x8.Index)) 4)))))) fun y40 => (if y40 = true then some (Flow.ret (false)) else (Option.bind (glacierlaw10_RaftTells_l2 k x8 k (0 : Int)) fun y42 => (match y42 with | Flow.ret r => some (Flow.ret r) | Flow.go _ => some (Flow.go ()))))))))) fun y34 => (match y34 with | Flow.ret r => some (Flow.ret r) | Flow.go _ => (glacierlaw10_RaftTells_l1 k y25 y30 y31 y32 j (IntKind.i64.wrap (v6 + 1))))) else some (Flow.go ()))
def glacierlaw10_RaftTells (k : Nat) (x1 : T_glacierlaw10_Start) (x2 : Int) (x3 : (List (List UInt8))) (x4 : Int) (x5 : Bool) : Option (Bool) := (Option.bind (Option.bind (glacierlaw10_awake k) fun y23 => (if (!y23) = true then some (true) else (if decide (x2 < 2) = true then some (true) else some (decide (x2 > 5))))) fun y22 => (if y22 = true then (Option.bind (glacierlaw10_awake k) fun y24 => some (y24)) else (Option.bind (glacierlaw10_leader k (T_glacierlaw10_Start.mk x1.Term x1.Vote x1.Base x1.Terms) x2 x3) fun y25 => (Option.bind (raft_Node_Last k y25.1 y25.2.1 y25.2.2.1 y25.2.2.2.1 y25.2.2.2.2.1 y25.2.2.2.2.2) fun y26 => (Option.bind (raft_Node_Term k y25.1 y25.2.1 y25.2.2.1 y25.2.2.2.1 y25.2.2.2.2.1 y25.2.2.2.2.2) fun y27 => (Option.bind (raft_Node_Step k y25.1 y25.2.1 y25.2.2.1 y25.2.2.2.1 y25.2.2.2.2.1 y25.2.2.2.2.2 (T_raft_Msg.mk 4 1 0 y27 (mn2 (mx2 x4 0) y26) 0 0 x5 ([]) ([]))) fun y28 => (Option.bind (raft_Node_Take k y28.1 y25.2.1 y28.2.1 y25.2.2.2.1 y28.2.2.1 y28.2.2.2) fun y29 => (Option.bind (raft_Node_Tick k y29.2 y25.2.1 y28.2.1 y25.2.2.2.1 y28.2.2.1 y28.2.2.2) fun y30 => (Option.bind (raft_Node_Take k y30.1 y25.2.1 y30.2.1 y25.2.2.2.1 y30.2.2.1 y30.2.2.2) fun y31 => (if ((y31.1.length : Int) != (IntKind.i64.wrap (x2 - 1))) = true then some (false) else (Option.bind (raft_Node_State k y31.2 y25.2.1 y30.2.1 y25.2.2.2.1 y30.2.2.1 y30.2.2.2) fun y32 => (Option.bind (glacierlaw10_RaftTells_l1 k y25 y30 y31 y32 k (0 : Int)) fun y33 => (match y33 with | Flow.ret r => some r | Flow.go _ => some (true))))))))))))))
set_option maxRecDepth 100000 in
set_option maxHeartbeats 4000000 in
theorem glacierlaw10_RaftTells_ok {G w : World} {F : List HP} {R : Ending → World → Prop} (k : Nat) (x1 : T_glacierlaw10_Start) (x2 : Int) (x3 : (List (List UInt8))) (x4 : Int) (x5 : Bool) (a1 : Option Addr) (c1 : Nat) (a2 : Option Addr) (c2 : Nat) (r : (Bool)) (hst : St G w (dsl (rI .i64) a1 c1 x1.Terms :: dsl rS a2 c2 x3 :: F)) (hr : glacierlaw10_RaftTells k x1 x2 x3 x4 x5 = some r)
    (hR : ∀ w', St G w' (dsl (rI .i64) a1 c1 x1.Terms :: dsl rS a2 c2 x3 :: F) → R (.returned (.bool r)) w') :
    Calls Tryz.prog 4 #[.agg #[I x1.Term, I x1.Vote, I x1.Base, .slice a1 x1.Terms.length c1], I x2, .slice a2 x3.length c2, I x4, .bool x5] w R := by
  unfold glacierlaw10_RaftTells at hr
  refine enter Tryz.func4 rfl [(0, .agg #[I x1.Term, I x1.Vote, I x1.Base, .slice a1 x1.Terms.length c1]), (1, I x2), (2, .slice a2 x3.length c2), (3, I x4), (4, .bool x5)] rfl rfl fun b => ?_
  refine wp_seq ?_
  refine wp_reg ?_
  refine L_op rfl (O_box [I x1.Term, I x1.Vote, I x1.Base, .slice a1 x1.Terms.length c1] hst rfl rfl fun p7 w hst => ?_)
  refine L_pure 1 [(1, I x2), (2, .slice a2 x3.length c2), (3, I x4), (4, .bool x5), (5, pt p7 0)] (by kernel_rfl) fun b => ?_
  refine wpL_nil ?_
  refine th_n ?_
  refine wp_seq ?_
  obtain ⟨y22, hy22, hk8⟩ := bnd hr
  clear hr
  refine wp_seq_cut (fun a w => ∃ (b : Nat → Value), a = mkF 143 b [(1, I x2), (2, .slice a2 x3.length c2), (3, I x4), (4, .bool x5), (5, pt p7 0), (28, .bool y22)] ∧ St G w (blk p7 (cl [I x1.Term, I x1.Vote, I x1.Base, .slice a1 x1.Terms.length c1] 24) :: dsl (rI .i64) a1 c1 x1.Terms :: dsl rS a2 c2 x3 :: F)) ?_ ?_
  · rintro _ w ⟨b, rfl, hst⟩
    have hr := hk8
    refine wp_cond_mkF (t := y22) rfl (fun h => ?_) (fun h => ?_)
    · have hr := (if_pos h).symm.trans hr
      refine wp_seq ?_
      refine wp_reg ?_
      obtain ⟨y24, hy24, hr⟩ := bnd hr
      refine L_op rfl (O_call (vs := #[]) Tryz.call5 (by kernel_rfl) (glacierlaw10_awake_ok k y24 hst hy24 fun w hst => ?_))
      refine CK_ret rfl ?_
      refine L_pure 1 [(10, .bool y24)] (by kernel_rfl) fun b => ?_
      refine wpL_nil ?_
      refine th_n ?_
      refine wp_ret ?_
      refine th_r ?_
      refine ret1 rfl rfl ?_
      obtain rfl := Option.some.inj hr
      have hst := (((hst.pull 2).pull 2).cut 2 1)
      exact hR _ hst
    · have hr := (if_neg (by rw [h]; exact Bool.false_ne_true)).symm.trans hr
      refine wp_skip ?_
      refine th_n ?_
      refine wp_seq ?_
      refine wp_reg ?_
      refine L_op rfl (O_run (v := .agg #[I x1.Term, I x1.Vote, I x1.Base, .slice a1 x1.Terms.length c1]) (w' := w) (R_load hst rfl rfl) rfl rfl ?_)
      refine L_pure 2 [(1, I x2), (3, I x4), (4, .bool x5), (30, .agg #[I x1.Term, I x1.Vote, I x1.Base, .slice a1 x1.Terms.length c1]), (31, I x2), (32, .slice a2 x3.length c2)] (by kernel_rfl) fun b => ?_
      obtain ⟨y25, hy25, hr⟩ := bnd hr
      refine L_op rfl (O_call (vs := #[.agg #[I x1.Term, I x1.Vote, I x1.Base, .slice a1 x1.Terms.length c1], I x2, .slice a2 x3.length c2]) Tryz.call6 (by kernel_rfl) (glacierlaw10_leader_ok k (T_glacierlaw10_Start.mk x1.Term x1.Vote x1.Base x1.Terms) x2 x3 a1 c1 a2 c2 y25 ((hst.pull 2).pull 2) hy25 fun p8 p9 p10 a17 c17 a18 c18 w hst => ?_))
      refine CK_ret rfl ?_
      refine L_pure 1 [(1, I x2), (3, I x4), (4, .bool x5), (11, pt p8 0)] (by kernel_rfl) fun b => ?_
      refine wpL_nil ?_
      refine th_n ?_
      refine wp_seq ?_
      refine wp_seq ?_
      refine wp_reg ?_
      refine L_pure 2 [(1, I x2), (3, I x4), (4, .bool x5), (11, pt p8 0), (35, .bool false)] (by kernel_rfl) fun b => ?_
      refine wpL_nil ?_
      refine th_n ?_
      refine wp_cond_false (by rw [eval_mkF]; rfl) ?_
      refine wp_skip ?_
      refine th_n ?_
      refine wp_seq ?_
      refine wp_reg ?_
      refine L_pure 3 [(1, I x2), (4, .bool x5), (11, pt p8 0), (37, I (mx2 x4 0)), (38, pt p8 0)] (by kernel_rfl) fun b => ?_
      obtain ⟨y26, hy26, hr⟩ := bnd hr
      refine L_op rfl (O_call (vs := #[pt p8 0]) Tryz.call8 (by kernel_rfl) (raft_Node_Last_ok k y25.1 y25.2.1 y25.2.2.1 y25.2.2.2.1 y25.2.2.2.2.1 y25.2.2.2.2.2 p8 p9 p10 a17 c17 a18 c18 y26 (((((hst.pull 1).pull 1).pull 4).pull 4).pull 4) hy26 fun w hst => ?_))
      refine CK_ret rfl ?_
      refine L_pure 2 [(1, I x2), (4, .bool x5), (11, pt p8 0), (12, I (mn2 (mx2 x4 0) y26))] (by kernel_rfl) fun b => ?_
      refine wpL_nil ?_
      refine th_n ?_
      refine wp_seq ?_
      refine wp_reg ?_
      refine L_pure 2 [(1, I x2), (4, .bool x5), (11, pt p8 0), (12, I (mn2 (mx2 x4 0) y26)), (41, pt p8 0), (42, pt p8 0)] (by kernel_rfl) fun b => ?_
      obtain ⟨y27, hy27, hr⟩ := bnd hr
      refine L_op rfl (O_call (vs := #[pt p8 0]) Tryz.call10 (by kernel_rfl) (raft_Node_Term_ok k y25.1 y25.2.1 y25.2.2.1 y25.2.2.2.1 y25.2.2.2.2.1 y25.2.2.2.2.2 p8 p9 p10 a17 c17 a18 c18 y27 (((((hst.pull 4).pull 4).pull 4).pull 4).pull 4) hy27 fun w hst => ?_))
      refine CK_ret rfl ?_
      refine L_pure 3 [(1, I x2), (11, pt p8 0), (41, pt p8 0), (46, .agg #[I 4, I 1, I 0, I y27, I (mn2 (mx2 x4 0) y26), I 0, I 0, .bool x5, .slice none 0 0, S ([])])] (by kernel_rfl) fun b => ?_
      obtain ⟨y28, hy28, hr⟩ := bnd hr
      have hst := dsl_nil r_T_term_Entry hst
      refine L_op rfl (O_call (vs := #[pt p8 0, .agg #[I 4, I 1, I 0, I y27, I (mn2 (mx2 x4 0) y26), I 0, I 0, .bool x5, .slice none 0 0, S ([])]]) Tryz.call9 (by kernel_rfl) (raft_Node_Step_ok k y25.1 y25.2.1 y25.2.2.1 y25.2.2.2.1 y25.2.2.2.2.1 y25.2.2.2.2.2 (T_raft_Msg.mk 4 1 0 y27 (mn2 (mx2 x4 0) y26) 0 0 x5 ([]) ([])) p8 p9 p10 a17 c17 a18 c18 none 0 y28 (((((hst.pull 5).pull 5).pull 5).pull 5).pull 5) hy28 fun a19 c19 a20 c20 w hst => ?_))
      refine CK_ret rfl ?_
      refine wpL_nil ?_
      refine th_n ?_
      refine wp_seq ?_
      refine wp_reg ?_
      refine L_pure 1 [(1, I x2), (11, pt p8 0), (48, pt p8 0)] (by kernel_rfl) fun b => ?_
      obtain ⟨y29, hy29, hr⟩ := bnd hr
      refine L_op rfl (O_call (vs := #[pt p8 0]) Tryz.call13 (by kernel_rfl) (raft_Node_Take_ok k y28.1 y25.2.1 y28.2.1 y25.2.2.2.1 y28.2.2.1 y28.2.2.2 p8 p9 p10 a19 c19 a20 c20 y29 (((((hst.pull 1).pull 1).pull 4).pull 4).pull 4) hy29 fun a21 c21 a22 c22 a23 c23 w hst => ?_))
      refine CK_ret rfl ?_
      refine wpL_nil ?_
      refine th_n ?_
      refine wp_seq ?_
      refine wp_reg ?_
      refine L_pure 1 [(1, I x2), (11, pt p8 0), (50, pt p8 0)] (by kernel_rfl) fun b => ?_
      obtain ⟨y30, hy30, hr⟩ := bnd hr
      refine L_op rfl (O_call (vs := #[pt p8 0]) Tryz.call14 (by kernel_rfl) (raft_Node_Tick_ok k y29.2 y25.2.1 y28.2.1 y25.2.2.2.1 y28.2.2.1 y28.2.2.2 p8 p9 p10 a22 c22 a23 c23 y30 (((((hst.pull 2).pull 2).pull 5).pull 5).pull 5) hy30 fun a24 c24 a25 c25 w hst => ?_))
      refine CK_ret rfl ?_
      refine wpL_nil ?_
      refine th_n ?_
      refine wp_seq ?_
      refine wp_reg ?_
      refine L_pure 1 [(1, I x2), (11, pt p8 0), (52, pt p8 0)] (by kernel_rfl) fun b => ?_
      obtain ⟨y31, hy31, hr⟩ := bnd hr
      refine L_op rfl (O_call (vs := #[pt p8 0]) Tryz.call13 (by kernel_rfl) (raft_Node_Take_ok k y30.1 y25.2.1 y30.2.1 y25.2.2.2.1 y30.2.2.1 y30.2.2.2 p8 p9 p10 a24 c24 a25 c25 y31 (((((hst.pull 1).pull 1).pull 4).pull 4).pull 4) hy31 fun a26 c26 a27 c27 a28 c28 w hst => ?_))
      refine CK_ret rfl ?_
      refine L_pure 1 [(1, I x2), (11, pt p8 0), (13, .slice a26 y31.1.length c26)] (by kernel_rfl) fun b => ?_
      refine wpL_nil ?_
      refine th_n ?_
      refine wp_seq ?_
      refine wp_seq ?_
      refine wp_reg ?_
      refine L_pure 4 [(11, pt p8 0), (13, .slice a26 y31.1.length c26), (55, I (y31.1.length : Int)), (57, I (IntKind.i64.wrap (x2 - 1)))] (by kernel_rfl) fun b => ?_
      refine L_op rfl (O_run (v := .bool ((y31.1.length : Int) != (IntKind.i64.wrap (x2 - 1)))) (w' := w) (R_ine rfl rfl) rfl rfl ?_)
      refine wpL_nil ?_
      refine th_n ?_
      refine wp_cond_mkF (t := ((y31.1.length : Int) != (IntKind.i64.wrap (x2 - 1)))) rfl (fun h => ?_) (fun h => ?_)
      · have hr := (if_pos h).symm.trans hr
        refine wp_seq ?_
        refine wp_reg ?_
        refine L_pure 1 [(10, .bool false)] (by kernel_rfl) fun b => ?_
        refine wpL_nil ?_
        refine th_n ?_
        refine wp_ret ?_
        refine th_r ?_
        refine ret1 rfl rfl ?_
        obtain rfl := Option.some.inj hr
        have hst := (((hst.pull 9).pull 9).cut 2 9)
        exact hR _ hst
      · have hr := (if_neg (by rw [h]; exact Bool.false_ne_true)).symm.trans hr
        refine wp_skip ?_
        refine th_n ?_
        refine wp_seq ?_
        refine wp_reg ?_
        refine L_pure 1 [(11, pt p8 0), (13, .slice a26 y31.1.length c26), (59, pt p8 0)] (by kernel_rfl) fun b => ?_
        obtain ⟨y32, hy32, hr⟩ := bnd hr
        refine L_op rfl (O_call (vs := #[pt p8 0]) Tryz.call15 (by kernel_rfl) (raft_Node_State_ok k y31.2 y25.2.1 y30.2.1 y25.2.2.2.1 y30.2.2.1 y30.2.2.2 p8 p9 p10 a27 c27 a28 c28 y32 (((((hst.pull 2).pull 2).pull 5).pull 5).pull 5) hy32 fun a29 c29 w hst => ?_))
        refine CK_ret rfl ?_
        refine L_pure 2 [(11, pt p8 0), (13, .slice a26 y31.1.length c26), (14, I y32.2.Base)] (by kernel_rfl) fun b => ?_
        refine wpL_nil ?_
        refine th_n ?_
        refine wp_seq ?_
        refine wp_seq ?_
        refine wp_reg ?_
        refine L_pure 3 [(11, pt p8 0), (14, I y32.2.Base), (62, .slice a26 y31.1.length c26), (63, I (y31.1.length : Int)), (64, I 0)] (by kernel_rfl) fun b => ?_
        refine wpL_nil ?_
        refine th_n ?_
        obtain ⟨y33, hy33, hk9⟩ := bnd hr
        clear hr
        refine Go.Hx.wp_cut (fun a w => ∃ (z4 : Unit) (b : Nat → Value), y33 = .go z4 ∧ a = mkF 143 b [] ∧ St G w (osl r_T_term_Entry 48 a29 c29 y32.1 :: blk p8 (cl [I y31.2.id, I y31.2.n, pt p9 0, I y31.2.st.Term, I y31.2.st.Vote, I y31.2.st.Base, I y31.2.st.BaseTerm, S y31.2.st.Snap, .slice a27 y31.2.st.Log.length c27, I y31.2.role, I y31.2.leader, I y31.2.commit, I y31.2.applied, I y31.2.timer, .bool (y31.2.votes 0), .bool (y31.2.votes 1), .bool (y31.2.votes 2), .bool (y31.2.votes 3), .bool (y31.2.votes 4), I (y31.2.next 0), I (y31.2.next 1), I (y31.2.next 2), I (y31.2.next 3), I (y31.2.next 4), I (y31.2.match_ 0), I (y31.2.match_ 1), I (y31.2.match_ 2), I (y31.2.match_ 3), I (y31.2.match_ 4), .slice a28 y31.2.out.length c28, I y31.2.broken] 66) :: blk p9 (cl [I y25.2.1, I y30.2.1, .bool y25.2.2.2.1, I y30.2.2.1, .map (some p10)] 79) :: mpr S (rPt r_T_platter_file) p10 y30.2.2.2 :: osl r_T_term_Entry 48 a27 c27 y31.2.st.Log :: osl r_T_raft_Msg 39 a28 c28 y31.2.out :: osl r_T_raft_Msg 39 a26 c26 y31.1 :: osl r_T_raft_Msg 39 a21 c21 y29.1 :: dsl r_T_term_Entry none 0 ([]) :: dsl (rI .i64) a1 c1 x1.Terms :: dsl rS a2 c2 x3 :: blk p7 (cl [I x1.Term, I x1.Vote, I x1.Base, .slice a1 x1.Terms.length c1] 24) :: F)) ?_ ?_
        · rintro _ w ⟨z4, b, rfl, rfl, hst⟩
          have hr := hk9
          refine th_n ?_
          refine wp_seq ?_
          refine wp_reg ?_
          refine L_pure 1 [(10, .bool true)] (by kernel_rfl) fun b => ?_
          refine wpL_nil ?_
          refine th_n ?_
          refine wp_ret ?_
          refine ret1 rfl rfl ?_
          obtain rfl := Option.some.inj hr
          have hst := (((hst.pull 10).pull 10).cut 2 10)
          exact hR _ hst
        · have hst := ((((((((((((hst.pull 11).pull 11).pull 11).pull 11).pull 11).pull 11).pull 11).pull 11).pull 11).pull 11).pull 11).pull 11)
          refine wp_block ?_
          refine wp_loop_fuel (fun j a w => ∃ (v6 : Int) (b : Nat → Value), a = mkF 143 b [(11, pt p8 0), (14, I y32.2.Base), (62, .slice a26 y31.1.length c26), (63, I (y31.1.length : Int)), (64, I v6)] ∧ St G w (osl r_T_term_Entry 48 a29 c29 y32.1 :: blk p8 (cl [I y31.2.id, I y31.2.n, pt p9 0, I y31.2.st.Term, I y31.2.st.Vote, I y31.2.st.Base, I y31.2.st.BaseTerm, S y31.2.st.Snap, .slice a27 y31.2.st.Log.length c27, I y31.2.role, I y31.2.leader, I y31.2.commit, I y31.2.applied, I y31.2.timer, .bool (y31.2.votes 0), .bool (y31.2.votes 1), .bool (y31.2.votes 2), .bool (y31.2.votes 3), .bool (y31.2.votes 4), I (y31.2.next 0), I (y31.2.next 1), I (y31.2.next 2), I (y31.2.next 3), I (y31.2.next 4), I (y31.2.match_ 0), I (y31.2.match_ 1), I (y31.2.match_ 2), I (y31.2.match_ 3), I (y31.2.match_ 4), .slice a28 y31.2.out.length c28, I y31.2.broken] 66) :: blk p9 (cl [I y25.2.1, I y30.2.1, .bool y25.2.2.2.1, I y30.2.2.1, .map (some p10)] 79) :: mpr S (rPt r_T_platter_file) p10 y30.2.2.2 :: osl r_T_term_Entry 48 a27 c27 y31.2.st.Log :: osl r_T_raft_Msg 39 a28 c28 y31.2.out :: osl r_T_raft_Msg 39 a26 c26 y31.1 :: osl r_T_raft_Msg 39 a21 c21 y29.1 :: dsl r_T_term_Entry none 0 ([]) :: dsl (rI .i64) a1 c1 x1.Terms :: dsl rS a2 c2 x3 :: blk p7 (cl [I x1.Term, I x1.Vote, I x1.Base, .slice a1 x1.Terms.length c1] 24) :: F) ∧ glacierlaw10_RaftTells_l1 k y25 y30 y31 y32 j v6 = some y33) (k := k) ⟨(0 : Int), (kpX [(11, pt p8 0), (14, I y32.2.Base), (62, .slice a26 y31.1.length c26), (63, I (y31.1.length : Int)), (64, I 0)] rfl ⟨hst, hy33⟩)⟩ ?_ ?_
          · rintro _ _ ⟨_, _, _, _, h⟩
            rw [glacierlaw10_RaftTells_l1] at h
            cases h
          · rintro j _ w ⟨v6, b, rfl, hst, hr⟩
            rw [glacierlaw10_RaftTells_l1] at hr
            refine wp_seq ?_
            refine wp_reg ?_
            refine L_pure 1 [(11, pt p8 0), (14, I y32.2.Base), (62, .slice a26 y31.1.length c26), (63, I (y31.1.length : Int)), (64, I v6), (65, .bool (decide (v6 < (y31.1.length : Int))))] (by kernel_rfl) fun b => ?_
            refine wpL_nil ?_
            refine th_n ?_
            refine wp_seq ?_
            refine wp_cond_mkF (t := decide (v6 < (y31.1.length : Int))) rfl (fun h => ?_) (fun h => ?_)
            · have hr := (if_pos h).symm.trans hr
              refine wp_skip ?_
              refine th_n ?_
              obtain ⟨y34, hy34, hk10⟩ := bnd hr
              clear hr
              refine wp_seq_cut (fun a w => ∃ (z5 : Unit) (b : Nat → Value), y34 = .go z5 ∧ a = mkF 143 b [(11, pt p8 0), (14, I y32.2.Base), (62, .slice a26 y31.1.length c26), (63, I (y31.1.length : Int)), (64, I v6)] ∧ St G w (osl r_T_raft_Msg 39 a26 c26 y31.1 :: osl r_T_term_Entry 48 a29 c29 y32.1 :: blk p8 (cl [I y31.2.id, I y31.2.n, pt p9 0, I y31.2.st.Term, I y31.2.st.Vote, I y31.2.st.Base, I y31.2.st.BaseTerm, S y31.2.st.Snap, .slice a27 y31.2.st.Log.length c27, I y31.2.role, I y31.2.leader, I y31.2.commit, I y31.2.applied, I y31.2.timer, .bool (y31.2.votes 0), .bool (y31.2.votes 1), .bool (y31.2.votes 2), .bool (y31.2.votes 3), .bool (y31.2.votes 4), I (y31.2.next 0), I (y31.2.next 1), I (y31.2.next 2), I (y31.2.next 3), I (y31.2.next 4), I (y31.2.match_ 0), I (y31.2.match_ 1), I (y31.2.match_ 2), I (y31.2.match_ 3), I (y31.2.match_ 4), .slice a28 y31.2.out.length c28, I y31.2.broken] 66) :: blk p9 (cl [I y25.2.1, I y30.2.1, .bool y25.2.2.2.1, I y30.2.2.1, .map (some p10)] 79) :: mpr S (rPt r_T_platter_file) p10 y30.2.2.2 :: osl r_T_term_Entry 48 a27 c27 y31.2.st.Log :: osl r_T_raft_Msg 39 a28 c28 y31.2.out :: osl r_T_raft_Msg 39 a21 c21 y29.1 :: dsl r_T_term_Entry none 0 ([]) :: dsl (rI .i64) a1 c1 x1.Terms :: dsl rS a2 c2 x3 :: blk p7 (cl [I x1.Term, I x1.Vote, I x1.Base, .slice a1 x1.Terms.length c1] 24) :: F)) ?_ ?_
              · rintro _ w ⟨z5, b, rfl, rfl, hst⟩
                have hr := hk10
                refine wp_reg ?_
                refine L_pure 2 [(11, pt p8 0), (14, I y32.2.Base), (62, .slice a26 y31.1.length c26), (63, I (y31.1.length : Int)), (64, I (IntKind.i64.wrap (v6 + 1)))] (by kernel_rfl) fun b => ?_
                refine wpL_nil ?_
                refine th_n ?_
                have hst := ((((((((((((hst.pull 11).pull 11).pull 11).pull 11).pull 11).pull 5).pull 11).pull 11).pull 11).pull 11).pull 11).pull 11)
                exact ⟨(IntKind.i64.wrap (v6 + 1)), (kpX [(11, pt p8 0), (14, I y32.2.Base), (62, .slice a26 y31.1.length c26), (63, I (y31.1.length : Int)), (64, I (IntKind.i64.wrap (v6 + 1)))] rfl ⟨hst, hr⟩)⟩
              · have hr := hy34
                refine wp_block ?_
                refine wp_seq ?_
                refine wp_reg ?_
                obtain ⟨x8, hx3, hr⟩ := bnd hr
                refine L_op rfl (O_run (v := pt (ab a26) (ao a26 + v6.toNat * 10)) (w' := w) (R_ia L42 rfl rfl (osl_addr (hst.pull 6) hx3) (gt_some hx3).1 (gt_some hx3).2.1) rfl rfl ?_)
                obtain ⟨q3, hc3, hst⟩ := osl_cells (hst.pull 6) hx3
                refine L_op rfl (O_run (v := .agg #[I x8.Kind, I x8.From, I x8.To, I x8.Term, I x8.Index, I x8.LogTerm, I x8.Commit, .bool x8.OK, .slice q3.1 x8.Entries.length q3.2, S x8.Snap]) (w' := w) (R_loadAt (off := ao a26 + v6.toNat * 10) (j := 0) hc3 rfl rfl) rfl rfl ?_)
                refine L_op rfl (O_alloc (i := Tryz.t39) (z := .agg #[I 0, I 0, I 0, I 0, I 0, I 0, I 0, .bool false, .slice none 0 0, S ([])]) [I 0, I 0, I 0, I 0, I 0, I 0, I 0, .bool false, .slice none 0 0, S ([])] hst rfl rfl rfl rfl fun p11 w hst => ?_)
                refine L_op rfl (O_store [I x8.Kind, I x8.From, I x8.To, I x8.Term, I x8.Index, I x8.LogTerm, I x8.Commit, .bool x8.OK, .slice q3.1 x8.Entries.length q3.2, S x8.Snap] hst rfl rfl (by kernel_rfl) fun w hst => ?_)
                refine wpL_nil ?_
                refine th_n ?_
                refine wp_seq ?_
                obtain ⟨y35, hy35, hk11⟩ := bnd hr
                clear hr
                refine wp_seq_cut (fun a w => ∃ (b : Nat → Value), a = mkF 143 b [(11, pt p8 0), (14, I y32.2.Base), (16, pt p11 0), (62, .slice a26 y31.1.length c26), (63, I (y31.1.length : Int)), (64, I v6), (84, .bool y35)] ∧ St G w (blk p11 (cl [I x8.Kind, I x8.From, I x8.To, I x8.Term, I x8.Index, I x8.LogTerm, I x8.Commit, .bool x8.OK, .slice q3.1 x8.Entries.length q3.2, S x8.Snap] 39) :: dsl r_T_term_Entry q3.1 q3.2 x8.Entries :: osl r_T_raft_Msg 39 a26 c26 y31.1 :: osl r_T_term_Entry 48 a29 c29 y32.1 :: blk p8 (cl [I y31.2.id, I y31.2.n, pt p9 0, I y31.2.st.Term, I y31.2.st.Vote, I y31.2.st.Base, I y31.2.st.BaseTerm, S y31.2.st.Snap, .slice a27 y31.2.st.Log.length c27, I y31.2.role, I y31.2.leader, I y31.2.commit, I y31.2.applied, I y31.2.timer, .bool (y31.2.votes 0), .bool (y31.2.votes 1), .bool (y31.2.votes 2), .bool (y31.2.votes 3), .bool (y31.2.votes 4), I (y31.2.next 0), I (y31.2.next 1), I (y31.2.next 2), I (y31.2.next 3), I (y31.2.next 4), I (y31.2.match_ 0), I (y31.2.match_ 1), I (y31.2.match_ 2), I (y31.2.match_ 3), I (y31.2.match_ 4), .slice a28 y31.2.out.length c28, I y31.2.broken] 66) :: blk p9 (cl [I y25.2.1, I y30.2.1, .bool y25.2.2.2.1, I y30.2.2.1, .map (some p10)] 79) :: mpr S (rPt r_T_platter_file) p10 y30.2.2.2 :: osl r_T_term_Entry 48 a27 c27 y31.2.st.Log :: osl r_T_raft_Msg 39 a28 c28 y31.2.out :: osl r_T_raft_Msg 39 a21 c21 y29.1 :: dsl r_T_term_Entry none 0 ([]) :: dsl (rI .i64) a1 c1 x1.Terms :: dsl rS a2 c2 x3 :: blk p7 (cl [I x1.Term, I x1.Vote, I x1.Base, .slice a1 x1.Terms.length c1] 24) :: F)) ?_ ?_
                · rintro _ w ⟨b, rfl, hst⟩
                  have hr := hk11
                  refine wp_cond_mkF (t := y35) rfl (fun h => ?_) (fun h => ?_)
                  · have hr := (if_pos h).symm.trans hr
                    refine wp_seq ?_
                    refine wp_reg ?_
                    refine L_pure 1 [(10, .bool false)] (by kernel_rfl) fun b => ?_
                    refine wpL_nil ?_
                    refine th_n ?_
                    refine wp_ret ?_
                    refine th_r (ib_r (th_r (th_r (ib_r (th_r (th_r ?_))))))
                    refine ret1 rfl rfl ?_
                    obtain rfl := Option.some.inj hr
                    obtain rfl := Option.some.inj hk10
                    obtain rfl := Option.some.inj hk9
                    have hst := (((hst.pull 12).pull 12).cut 2 12)
                    exact hR _ hst
                  · have hr := (if_neg (by rw [h]; exact Bool.false_ne_true)).symm.trans hr
                    refine wp_skip ?_
                    refine th_n ?_
                    refine wp_seq ?_
                    refine wp_seq ?_
                    refine wp_reg ?_
                    refine L_pure 1 [(11, pt p8 0), (14, I y32.2.Base), (16, pt p11 0), (62, .slice a26 y31.1.length c26), (63, I (y31.1.length : Int)), (64, I v6), (85, pt p11 0)] (by kernel_rfl) fun b => ?_
                    refine L_op rfl (O_run (v := I x8.Kind) (w' := w) (R_load hst rfl rfl) rfl rfl ?_)
                    refine L_pure 1 [(11, pt p8 0), (14, I y32.2.Base), (16, pt p11 0), (62, .slice a26 y31.1.length c26), (63, I (y31.1.length : Int)), (64, I v6), (87, .bool (x8.Kind == 5))] (by kernel_rfl) fun b => ?_
                    refine wpL_nil ?_
                    refine th_n ?_
                    refine wp_cond_mkF (t := (x8.Kind == 5)) rfl (fun h => ?_) (fun h => ?_)
                    · have hr := (if_pos h).symm.trans hr
                      refine wp_seq ?_
                      obtain ⟨y38, hy38, hk12⟩ := bnd hr
                      clear hr
                      refine wp_seq_cut (fun a w => ∃ (b : Nat → Value), a = mkF 143 b [(11, pt p8 0), (14, I y32.2.Base), (62, .slice a26 y31.1.length c26), (63, I (y31.1.length : Int)), (64, I v6), (103, .bool y38)] ∧ St G w (blk p11 (cl [I x8.Kind, I x8.From, I x8.To, I x8.Term, I x8.Index, I x8.LogTerm, I x8.Commit, .bool x8.OK, .slice q3.1 x8.Entries.length q3.2, S x8.Snap] 39) :: dsl r_T_term_Entry q3.1 q3.2 x8.Entries :: osl r_T_raft_Msg 39 a26 c26 y31.1 :: osl r_T_term_Entry 48 a29 c29 y32.1 :: blk p8 (cl [I y31.2.id, I y31.2.n, pt p9 0, I y31.2.st.Term, I y31.2.st.Vote, I y31.2.st.Base, I y31.2.st.BaseTerm, S y31.2.st.Snap, .slice a27 y31.2.st.Log.length c27, I y31.2.role, I y31.2.leader, I y31.2.commit, I y31.2.applied, I y31.2.timer, .bool (y31.2.votes 0), .bool (y31.2.votes 1), .bool (y31.2.votes 2), .bool (y31.2.votes 3), .bool (y31.2.votes 4), I (y31.2.next 0), I (y31.2.next 1), I (y31.2.next 2), I (y31.2.next 3), I (y31.2.next 4), I (y31.2.match_ 0), I (y31.2.match_ 1), I (y31.2.match_ 2), I (y31.2.match_ 3), I (y31.2.match_ 4), .slice a28 y31.2.out.length c28, I y31.2.broken] 66) :: blk p9 (cl [I y25.2.1, I y30.2.1, .bool y25.2.2.2.1, I y30.2.2.1, .map (some p10)] 79) :: mpr S (rPt r_T_platter_file) p10 y30.2.2.2 :: osl r_T_term_Entry 48 a27 c27 y31.2.st.Log :: osl r_T_raft_Msg 39 a28 c28 y31.2.out :: osl r_T_raft_Msg 39 a21 c21 y29.1 :: dsl r_T_term_Entry none 0 ([]) :: dsl (rI .i64) a1 c1 x1.Terms :: dsl rS a2 c2 x3 :: blk p7 (cl [I x1.Term, I x1.Vote, I x1.Base, .slice a1 x1.Terms.length c1] 24) :: F)) ?_ ?_
                      · rintro _ w ⟨b, rfl, hst⟩
                        have hr := hk12
                        refine wp_cond_mkF (t := y38) rfl (fun h => ?_) (fun h => ?_)
                        · have hr := (if_pos h).symm.trans hr
                          refine wp_seq ?_
                          refine wp_reg ?_
                          refine L_pure 1 [(10, .bool false)] (by kernel_rfl) fun b => ?_
                          refine wpL_nil ?_
                          refine th_n ?_
                          refine wp_ret ?_
                          refine th_r (th_r (ib_r (th_r (th_r (ib_r (th_r (th_r ?_)))))))
                          refine ret1 rfl rfl ?_
                          obtain rfl := Option.some.inj hr
                          obtain rfl := Option.some.inj hk10
                          obtain rfl := Option.some.inj hk9
                          have hst := (((hst.pull 12).pull 12).cut 2 12)
                          exact hR _ hst
                        · have hr := (if_neg (by rw [h]; exact Bool.false_ne_true)).symm.trans hr
                          refine wp_skip ?_
                          refine th_n ?_
                          refine wp_exit ?_
                          refine th_x (ib_x (th_n ?_))
                          obtain rfl := Option.some.inj hr
                          have hst := (((((((((((((hst.pull 13).pull 13).pull 13).pull 13).pull 13).pull 13).pull 13).pull 13).pull 13).pull 13).pull 13).pull 13).cut 12 2)
                          exact ⟨(), (kpXf [(11, pt p8 0), (14, I y32.2.Base), (62, .slice a26 y31.1.length c26), (63, I (y31.1.length : Int)), (64, I v6)] rfl hst)⟩
                      · have hr := hy38
                        refine wp_regG (SQ (fun w => St G w (blk p11 (cl [I x8.Kind, I x8.From, I x8.To, I x8.Term, I x8.Index, I x8.LogTerm, I x8.Commit, .bool x8.OK, .slice q3.1 x8.Entries.length q3.2, S x8.Snap] 39) :: dsl r_T_term_Entry q3.1 q3.2 x8.Entries :: osl r_T_raft_Msg 39 a26 c26 y31.1 :: osl r_T_term_Entry 48 a29 c29 y32.1 :: blk p8 (cl [I y31.2.id, I y31.2.n, pt p9 0, I y31.2.st.Term, I y31.2.st.Vote, I y31.2.st.Base, I y31.2.st.BaseTerm, S y31.2.st.Snap, .slice a27 y31.2.st.Log.length c27, I y31.2.role, I y31.2.leader, I y31.2.commit, I y31.2.applied, I y31.2.timer, .bool (y31.2.votes 0), .bool (y31.2.votes 1), .bool (y31.2.votes 2), .bool (y31.2.votes 3), .bool (y31.2.votes 4), I (y31.2.next 0), I (y31.2.next 1), I (y31.2.next 2), I (y31.2.next 3), I (y31.2.next 4), I (y31.2.match_ 0), I (y31.2.match_ 1), I (y31.2.match_ 2), I (y31.2.match_ 3), I (y31.2.match_ 4), .slice a28 y31.2.out.length c28, I y31.2.broken] 66) :: blk p9 (cl [I y25.2.1, I y30.2.1, .bool y25.2.2.2.1, I y30.2.2.1, .map (some p10)] 79) :: mpr S (rPt r_T_platter_file) p10 y30.2.2.2 :: osl r_T_term_Entry 48 a27 c27 y31.2.st.Log :: osl r_T_raft_Msg 39 a28 c28 y31.2.out :: osl r_T_raft_Msg 39 a21 c21 y29.1 :: dsl r_T_term_Entry none 0 ([]) :: dsl (rI .i64) a1 c1 x1.Terms :: dsl rS a2 c2 x3 :: blk p7 (cl [I x1.Term, I x1.Vote, I x1.Base, .slice a1 x1.Terms.length c1] 24) :: F))) rfl ?_
                        have hst := hst.draw (n := w.drawn + 1)
                        generalize { w with drawn := w.drawn + 1 } = w at hst ⊢
                        refine Q_take (i := 0) (v := pt p11 4) rfl (by kernel_rfl) (fun _ _ _ h => h) rfl rfl rfl (fun _ _ => R_pure (by kernel_rfl)) ((((((((((((((hst.pull 13).pull 13).pull 13).pull 13).pull 13).pull 13).pull 13).pull 13).pull 13).pull 13).pull 13).pull 13).pull 13).pull 13) ?_
                        refine Q_take (i := 1) (v := I x8.Index) rfl (by kernel_rfl) (fun _ _ _ h => h) rfl rfl rfl (fun w hst => R_load hst rfl rfl) ((((((((((((((hst.pull 13).pull 13).pull 13).pull 13).pull 13).pull 13).pull 13).pull 13).pull 13).pull 13).pull 13).pull 13).pull 13).pull 13) ?_
                        refine Q_take (i := 2) (v := I y32.2.Base) rfl (by kernel_rfl) (fun _ _ _ h => h) rfl rfl rfl (fun _ _ => R_pure (by kernel_rfl)) ((((((((((((((hst.pull 13).pull 13).pull 13).pull 13).pull 13).pull 13).pull 13).pull 13).pull 13).pull 13).pull 13).pull 13).pull 13).pull 13) ?_
                        refine Q_take (i := 3) (v := .bool (x8.Index != y32.2.Base)) rfl (by kernel_rfl) (fun _ _ _ h => h) rfl rfl rfl (fun _ _ => R_pure (by kernel_rfl)) ((((((((((((((hst.pull 13).pull 13).pull 13).pull 13).pull 13).pull 13).pull 13).pull 13).pull 13).pull 13).pull 13).pull 13).pull 13).pull 13) ?_
                        refine Q_take (i := 4) (v := .bool (x8.Index != y32.2.Base)) rfl (by kernel_rfl) (fun _ _ _ h => h) rfl rfl rfl (fun _ _ => R_pure (by kernel_rfl)) ((((((((((((((hst.pull 13).pull 13).pull 13).pull 13).pull 13).pull 13).pull 13).pull 13).pull 13).pull 13).pull 13).pull 13).pull 13).pull 13) ?_
                        by_cases h : (x8.Index != y32.2.Base) = true
                        · have hr := (if_pos h).symm.trans hr
                          refine C_keep ((92, .bool (x8.Index != y32.2.Base)) :: [(11, pt p8 0), (14, I y32.2.Base), (16, pt p11 0), (62, .slice a26 y31.1.length c26), (63, I (y31.1.length : Int)), (64, I v6), (87, .bool (x8.Kind == 5)), (88, pt p11 4), (89, I x8.Index), (90, I y32.2.Base), (91, .bool (x8.Index != y32.2.Base))]) rfl fun b => ?_
                          refine C_bool h ?_
                          refine Q_skip (i := 5) rfl (by kernel_rfl) (fun _ _ _ h => h) rfl rfl rfl ((((((((((((((hst.pull 13).pull 13).pull 13).pull 13).pull 13).pull 13).pull 13).pull 13).pull 13).pull 13).pull 13).pull 13).pull 13).pull 13) ?_
                          refine Q_skip (i := 6) rfl (by kernel_rfl) (fun _ _ _ h => h) rfl rfl rfl ((((((((((((((hst.pull 13).pull 13).pull 13).pull 13).pull 13).pull 13).pull 13).pull 13).pull 13).pull 13).pull 13).pull 13).pull 13).pull 13) ?_
                          refine Q_skip (i := 7) rfl (by kernel_rfl) (fun _ _ _ h => h) rfl rfl rfl ((((((((((((((hst.pull 13).pull 13).pull 13).pull 13).pull 13).pull 13).pull 13).pull 13).pull 13).pull 13).pull 13).pull 13).pull 13).pull 13) ?_
                          refine Q_skip (i := 8) rfl (by kernel_rfl) (fun _ _ _ h => h) rfl rfl rfl ((((((((((((((hst.pull 13).pull 13).pull 13).pull 13).pull 13).pull 13).pull 13).pull 13).pull 13).pull 13).pull 13).pull 13).pull 13).pull 13) ?_
                          refine Q_skip (i := 9) rfl (by kernel_rfl) (fun _ _ _ h => h) rfl rfl rfl ((((((((((((((hst.pull 13).pull 13).pull 13).pull 13).pull 13).pull 13).pull 13).pull 13).pull 13).pull 13).pull 13).pull 13).pull 13).pull 13) ?_
                          refine Q_skip (i := 10) rfl (by kernel_rfl) (fun _ _ _ h => h) rfl rfl rfl ((((((((((((((hst.pull 13).pull 13).pull 13).pull 13).pull 13).pull 13).pull 13).pull 13).pull 13).pull 13).pull 13).pull 13).pull 13).pull 13) ?_
                          refine Q_take (i := 11) (v := .bool true) rfl (by kernel_rfl) (fun _ _ _ h => h) rfl rfl rfl (fun _ _ => R_pure (by kernel_rfl)) ((((((((((((((hst.pull 13).pull 13).pull 13).pull 13).pull 13).pull 13).pull 13).pull 13).pull 13).pull 13).pull 13).pull 13).pull 13).pull 13) ?_
                          refine Q_take (i := 12) (v := .bool true) rfl (by kernel_rfl) (fun _ _ _ h => h) rfl rfl rfl (fun _ _ => R_pure (by kernel_rfl)) ((((((((((((((hst.pull 13).pull 13).pull 13).pull 13).pull 13).pull 13).pull 13).pull 13).pull 13).pull 13).pull 13).pull 13).pull 13).pull 13) ?_
                          refine Q_skip (i := 13) rfl (by kernel_rfl) (fun _ _ _ h => h) rfl rfl rfl ((((((((((((((hst.pull 13).pull 13).pull 13).pull 13).pull 13).pull 13).pull 13).pull 13).pull 13).pull 13).pull 13).pull 13).pull 13).pull 13) ?_
                          refine Q_skip (i := 14) rfl (by kernel_rfl) (fun _ _ _ h => h) rfl rfl rfl ((((((((((((((hst.pull 13).pull 13).pull 13).pull 13).pull 13).pull 13).pull 13).pull 13).pull 13).pull 13).pull 13).pull 13).pull 13).pull 13) ?_
                          refine Q_take (i := 15) (v := .bool true) rfl (by kernel_rfl) (fun _ _ _ h => h) rfl rfl rfl (fun _ _ => R_pure (by kernel_rfl)) ((((((((((((((hst.pull 13).pull 13).pull 13).pull 13).pull 13).pull 13).pull 13).pull 13).pull 13).pull 13).pull 13).pull 13).pull 13).pull 13) ?_
                          refine wpG_done (by kernel_rfl) ?_ _
                          refine C_keepQ [(11, pt p8 0), (14, I y32.2.Base), (62, .slice a26 y31.1.length c26), (63, I (y31.1.length : Int)), (64, I v6), (103, .bool true)] rfl fun b => ?_
                          refine th_n ?_
                          obtain rfl := Option.some.inj hr
                          have hst := ((((((((((((((hst.pull 13).pull 13).pull 13).pull 13).pull 13).pull 13).pull 13).pull 13).pull 13).pull 13).pull 13).pull 13).pull 13).pull 13)
                          exact (kpX [(11, pt p8 0), (14, I y32.2.Base), (62, .slice a26 y31.1.length c26), (63, I (y31.1.length : Int)), (64, I v6), (103, .bool true)] rfl hst)
                        · have hr := (if_neg h).symm.trans hr
                          refine C_keep ((92, .bool (x8.Index != y32.2.Base)) :: [(11, pt p8 0), (14, I y32.2.Base), (16, pt p11 0), (62, .slice a26 y31.1.length c26), (63, I (y31.1.length : Int)), (64, I v6), (87, .bool (x8.Kind == 5)), (88, pt p11 4), (89, I x8.Index), (90, I y32.2.Base), (91, .bool (x8.Index != y32.2.Base))]) rfl fun b => ?_
                          refine C_bool (eq_false_of_ne_true h) ?_
                          refine Q_take (i := 5) (v := pt p11 9) rfl (by kernel_rfl) (fun _ _ _ h => h) rfl rfl rfl (fun _ _ => R_pure (by kernel_rfl)) ((((((((((((((hst.pull 13).pull 13).pull 13).pull 13).pull 13).pull 13).pull 13).pull 13).pull 13).pull 13).pull 13).pull 13).pull 13).pull 13) ?_
                          refine Q_take (i := 6) (v := S x8.Snap) rfl (by kernel_rfl) (fun _ _ _ h => h) rfl rfl rfl (fun w hst => R_load hst rfl rfl) ((((((((((((((hst.pull 13).pull 13).pull 13).pull 13).pull 13).pull 13).pull 13).pull 13).pull 13).pull 13).pull 13).pull 13).pull 13).pull 13) ?_
                          refine Q_take (i := 7) (v := pt p8 0) rfl (by kernel_rfl) (fun _ _ _ h => h) rfl rfl rfl (fun _ _ => R_pure (by kernel_rfl)) ((((((((((((((hst.pull 13).pull 13).pull 13).pull 13).pull 13).pull 13).pull 13).pull 13).pull 13).pull 13).pull 13).pull 13).pull 13).pull 13) ?_
                          obtain ⟨y39, hy39, hr⟩ := bnd hr
                          refine Q_one (i := 8) (by kernel_rfl) rfl rfl (O_call (vs := #[pt p8 0]) Tryz.call15 (by kernel_rfl) (raft_Node_State_ok k y31.2 y25.2.1 y30.2.1 y25.2.2.2.1 y30.2.2.1 y30.2.2.2 p8 p9 p10 a27 c27 a28 c28 y39 (((((hst.pull 8).pull 8).pull 8).pull 8).pull 8) hy39 fun a30 c30 w hst => ?_))
                          refine CK_ret rfl ?_
                          refine ⟨(((((((((((((((hst.pull 14).pull 14).pull 14).pull 14).pull 14).pull 10).pull 10).pull 10).pull 10).pull 10).pull 14).pull 14).pull 14).pull 14).cut 14 1), ?_⟩
                          refine Q_take (i := 9) (v := S y39.2.Snap) rfl (by kernel_rfl) (fun _ _ _ h => h) rfl rfl rfl (fun _ _ => R_pure (by kernel_rfl)) (((((((((((((((hst.pull 14).pull 14).pull 14).pull 14).pull 14).pull 10).pull 10).pull 10).pull 10).pull 10).pull 14).pull 14).pull 14).pull 14).cut 14 1) ?_
                          refine Q_take (i := 10) (v := .bool (!sEq x8.Snap y39.2.Snap)) rfl (by kernel_rfl) (fun _ _ _ h => h) rfl rfl rfl (fun _ _ => R_pure (by kernel_rfl)) (((((((((((((((hst.pull 14).pull 14).pull 14).pull 14).pull 14).pull 10).pull 10).pull 10).pull 10).pull 10).pull 14).pull 14).pull 14).pull 14).cut 14 1) ?_
                          refine Q_take (i := 11) (v := .bool (!sEq x8.Snap y39.2.Snap)) rfl (by kernel_rfl) (fun _ _ _ h => h) rfl rfl rfl (fun _ _ => R_pure (by kernel_rfl)) (((((((((((((((hst.pull 14).pull 14).pull 14).pull 14).pull 14).pull 10).pull 10).pull 10).pull 10).pull 10).pull 14).pull 14).pull 14).pull 14).cut 14 1) ?_
                          refine Q_take (i := 12) (v := .bool (!sEq x8.Snap y39.2.Snap)) rfl (by kernel_rfl) (fun _ _ _ h => h) rfl rfl rfl (fun _ _ => R_pure (by kernel_rfl)) (((((((((((((((hst.pull 14).pull 14).pull 14).pull 14).pull 14).pull 10).pull 10).pull 10).pull 10).pull 10).pull 14).pull 14).pull 14).pull 14).cut 14 1) ?_
                          by_cases h : (!sEq x8.Snap y39.2.Snap) = true
                          · have hr := (if_pos h).symm.trans hr
                            refine C_keep ((100, .bool (!sEq x8.Snap y39.2.Snap)) :: [(11, pt p8 0), (14, I y32.2.Base), (16, pt p11 0), (62, .slice a26 y31.1.length c26), (63, I (y31.1.length : Int)), (64, I v6), (87, .bool (x8.Kind == 5)), (88, pt p11 4), (89, I x8.Index), (90, I y32.2.Base), (91, .bool (x8.Index != y32.2.Base)), (92, .bool false), (93, pt p11 9), (94, S x8.Snap), (95, pt p8 0), (96, .agg #[I y39.2.Term, I y39.2.Vote, I y39.2.Base, I y39.2.BaseTerm, S y39.2.Snap, .slice a30 y39.1.length c30]), (97, S y39.2.Snap), (98, .bool (!sEq x8.Snap y39.2.Snap)), (99, .bool (!sEq x8.Snap y39.2.Snap))]) rfl fun b => ?_
                            refine C_bool h ?_
                            refine Q_skip (i := 13) rfl (by kernel_rfl) (fun _ _ _ h => h) rfl rfl rfl (((((((((((((((hst.pull 14).pull 14).pull 14).pull 14).pull 14).pull 10).pull 10).pull 10).pull 10).pull 10).pull 14).pull 14).pull 14).pull 14).cut 14 1) ?_
                            refine Q_skip (i := 14) rfl (by kernel_rfl) (fun _ _ _ h => h) rfl rfl rfl (((((((((((((((hst.pull 14).pull 14).pull 14).pull 14).pull 14).pull 10).pull 10).pull 10).pull 10).pull 10).pull 14).pull 14).pull 14).pull 14).cut 14 1) ?_
                            refine Q_take (i := 15) (v := .bool true) rfl (by kernel_rfl) (fun _ _ _ h => h) rfl rfl rfl (fun _ _ => R_pure (by kernel_rfl)) (((((((((((((((hst.pull 14).pull 14).pull 14).pull 14).pull 14).pull 10).pull 10).pull 10).pull 10).pull 10).pull 14).pull 14).pull 14).pull 14).cut 14 1) ?_
                            refine wpG_done (by kernel_rfl) ?_ _
                            refine C_keepQ [(11, pt p8 0), (14, I y32.2.Base), (62, .slice a26 y31.1.length c26), (63, I (y31.1.length : Int)), (64, I v6), (103, .bool true)] rfl fun b => ?_
                            refine th_n ?_
                            obtain rfl := Option.some.inj hr
                            have hst := (((((((((((((((hst.pull 14).pull 14).pull 14).pull 14).pull 14).pull 10).pull 10).pull 10).pull 10).pull 10).pull 14).pull 14).pull 14).pull 14).cut 14 1)
                            exact (kpX [(11, pt p8 0), (14, I y32.2.Base), (62, .slice a26 y31.1.length c26), (63, I (y31.1.length : Int)), (64, I v6), (103, .bool true)] rfl hst)
                          · have hr := (if_neg h).symm.trans hr
                            refine C_keep ((100, .bool (!sEq x8.Snap y39.2.Snap)) :: [(11, pt p8 0), (14, I y32.2.Base), (16, pt p11 0), (62, .slice a26 y31.1.length c26), (63, I (y31.1.length : Int)), (64, I v6), (87, .bool (x8.Kind == 5)), (88, pt p11 4), (89, I x8.Index), (90, I y32.2.Base), (91, .bool (x8.Index != y32.2.Base)), (92, .bool false), (93, pt p11 9), (94, S x8.Snap), (95, pt p8 0), (96, .agg #[I y39.2.Term, I y39.2.Vote, I y39.2.Base, I y39.2.BaseTerm, S y39.2.Snap, .slice a30 y39.1.length c30]), (97, S y39.2.Snap), (98, .bool (!sEq x8.Snap y39.2.Snap)), (99, .bool (!sEq x8.Snap y39.2.Snap))]) rfl fun b => ?_
                            refine C_bool (eq_false_of_ne_true h) ?_
                            refine Q_take (i := 13) (v := I y32.2.Base) rfl (by kernel_rfl) (fun _ _ _ h => h) rfl rfl rfl (fun _ _ => R_pure (by kernel_rfl)) (((((((((((((((hst.pull 14).pull 14).pull 14).pull 14).pull 14).pull 10).pull 10).pull 10).pull 10).pull 10).pull 14).pull 14).pull 14).pull 14).cut 14 1) ?_
                            refine Q_take (i := 14) (v := .bool (y32.2.Base == 0)) rfl (by kernel_rfl) (fun _ _ _ h => h) rfl rfl rfl (fun _ _ => R_pure (by kernel_rfl)) (((((((((((((((hst.pull 14).pull 14).pull 14).pull 14).pull 14).pull 10).pull 10).pull 10).pull 10).pull 10).pull 14).pull 14).pull 14).pull 14).cut 14 1) ?_
                            refine Q_take (i := 15) (v := .bool (y32.2.Base == 0)) rfl (by kernel_rfl) (fun _ _ _ h => h) rfl rfl rfl (fun _ _ => R_pure (by kernel_rfl)) (((((((((((((((hst.pull 14).pull 14).pull 14).pull 14).pull 14).pull 10).pull 10).pull 10).pull 10).pull 10).pull 14).pull 14).pull 14).pull 14).cut 14 1) ?_
                            refine wpG_done (by kernel_rfl) ?_ _
                            refine C_keepQ [(11, pt p8 0), (14, I y32.2.Base), (62, .slice a26 y31.1.length c26), (63, I (y31.1.length : Int)), (64, I v6), (103, .bool (y32.2.Base == 0))] rfl fun b => ?_
                            refine th_n ?_
                            obtain rfl := Option.some.inj hr
                            have hst := (((((((((((((((hst.pull 14).pull 14).pull 14).pull 14).pull 14).pull 10).pull 10).pull 10).pull 10).pull 10).pull 14).pull 14).pull 14).pull 14).cut 14 1)
                            exact (kpX [(11, pt p8 0), (14, I y32.2.Base), (62, .slice a26 y31.1.length c26), (63, I (y31.1.length : Int)), (64, I v6), (103, .bool (y32.2.Base == 0))] rfl hst)
                    · have hr := (if_neg (by rw [h]; exact Bool.false_ne_true)).symm.trans hr
                      refine wp_skip ?_
                      refine th_n ?_
                      refine wp_seq ?_
                      obtain ⟨y40, hy40, hk13⟩ := bnd hr
                      clear hr
                      refine wp_seq_cut (fun a w => ∃ (b : Nat → Value), a = mkF 143 b [(11, pt p8 0), (14, I y32.2.Base), (16, pt p11 0), (62, .slice a26 y31.1.length c26), (63, I (y31.1.length : Int)), (64, I v6), (124, .bool y40)] ∧ St G w (blk p11 (cl [I x8.Kind, I x8.From, I x8.To, I x8.Term, I x8.Index, I x8.LogTerm, I x8.Commit, .bool x8.OK, .slice q3.1 x8.Entries.length q3.2, S x8.Snap] 39) :: dsl r_T_term_Entry q3.1 q3.2 x8.Entries :: osl r_T_raft_Msg 39 a26 c26 y31.1 :: osl r_T_term_Entry 48 a29 c29 y32.1 :: blk p8 (cl [I y31.2.id, I y31.2.n, pt p9 0, I y31.2.st.Term, I y31.2.st.Vote, I y31.2.st.Base, I y31.2.st.BaseTerm, S y31.2.st.Snap, .slice a27 y31.2.st.Log.length c27, I y31.2.role, I y31.2.leader, I y31.2.commit, I y31.2.applied, I y31.2.timer, .bool (y31.2.votes 0), .bool (y31.2.votes 1), .bool (y31.2.votes 2), .bool (y31.2.votes 3), .bool (y31.2.votes 4), I (y31.2.next 0), I (y31.2.next 1), I (y31.2.next 2), I (y31.2.next 3), I (y31.2.next 4), I (y31.2.match_ 0), I (y31.2.match_ 1), I (y31.2.match_ 2), I (y31.2.match_ 3), I (y31.2.match_ 4), .slice a28 y31.2.out.length c28, I y31.2.broken] 66) :: blk p9 (cl [I y25.2.1, I y30.2.1, .bool y25.2.2.2.1, I y30.2.2.1, .map (some p10)] 79) :: mpr S (rPt r_T_platter_file) p10 y30.2.2.2 :: osl r_T_term_Entry 48 a27 c27 y31.2.st.Log :: osl r_T_raft_Msg 39 a28 c28 y31.2.out :: osl r_T_raft_Msg 39 a21 c21 y29.1 :: dsl r_T_term_Entry none 0 ([]) :: dsl (rI .i64) a1 c1 x1.Terms :: dsl rS a2 c2 x3 :: blk p7 (cl [I x1.Term, I x1.Vote, I x1.Base, .slice a1 x1.Terms.length c1] 24) :: F)) ?_ ?_
                      · rintro _ w ⟨b, rfl, hst⟩
                        have hr := hk13
                        refine wp_cond_mkF (t := y40) rfl (fun h => ?_) (fun h => ?_)
                        · have hr := (if_pos h).symm.trans hr
                          refine wp_seq ?_
                          refine wp_reg ?_
                          refine L_pure 1 [(10, .bool false)] (by kernel_rfl) fun b => ?_
                          refine wpL_nil ?_
                          refine th_n ?_
                          refine wp_ret ?_
                          refine th_r (ib_r (th_r (th_r (ib_r (th_r (th_r ?_))))))
                          refine ret1 rfl rfl ?_
                          obtain rfl := Option.some.inj hr
                          obtain rfl := Option.some.inj hk10
                          obtain rfl := Option.some.inj hk9
                          have hst := (((hst.pull 12).pull 12).cut 2 12)
                          exact hR _ hst
                        · have hr := (if_neg (by rw [h]; exact Bool.false_ne_true)).symm.trans hr
                          refine wp_skip ?_
                          refine th_n ?_
                          refine wp_seq ?_
                          refine wp_reg ?_
                          refine L_pure 1 [(11, pt p8 0), (14, I y32.2.Base), (16, pt p11 0), (62, .slice a26 y31.1.length c26), (63, I (y31.1.length : Int)), (64, I v6), (125, pt p11 8)] (by kernel_rfl) fun b => ?_
                          refine L_op rfl (O_run (v := .slice q3.1 x8.Entries.length q3.2) (w' := w) (R_load hst rfl rfl) rfl rfl ?_)
                          refine L_pure 2 [(11, pt p8 0), (14, I y32.2.Base), (16, pt p11 0), (62, .slice a26 y31.1.length c26), (63, I (y31.1.length : Int)), (64, I v6), (126, .slice q3.1 x8.Entries.length q3.2), (127, I (x8.Entries.length : Int)), (128, I 0)] (by kernel_rfl) fun b => ?_
                          refine wpL_nil ?_
                          refine th_n ?_
                          obtain ⟨y42, hy42, hk14⟩ := bnd hr
                          clear hr
                          refine Go.Hx.wp_cut (fun a w => ∃ (z6 : Unit) (b : Nat → Value), y42 = .go z6 ∧ a = mkF 143 b [(11, pt p8 0), (14, I y32.2.Base), (62, .slice a26 y31.1.length c26), (63, I (y31.1.length : Int)), (64, I v6)] ∧ St G w (blk p11 (cl [I x8.Kind, I x8.From, I x8.To, I x8.Term, I x8.Index, I x8.LogTerm, I x8.Commit, .bool x8.OK, .slice q3.1 x8.Entries.length q3.2, S x8.Snap] 39) :: dsl r_T_term_Entry q3.1 q3.2 x8.Entries :: osl r_T_raft_Msg 39 a26 c26 y31.1 :: osl r_T_term_Entry 48 a29 c29 y32.1 :: blk p8 (cl [I y31.2.id, I y31.2.n, pt p9 0, I y31.2.st.Term, I y31.2.st.Vote, I y31.2.st.Base, I y31.2.st.BaseTerm, S y31.2.st.Snap, .slice a27 y31.2.st.Log.length c27, I y31.2.role, I y31.2.leader, I y31.2.commit, I y31.2.applied, I y31.2.timer, .bool (y31.2.votes 0), .bool (y31.2.votes 1), .bool (y31.2.votes 2), .bool (y31.2.votes 3), .bool (y31.2.votes 4), I (y31.2.next 0), I (y31.2.next 1), I (y31.2.next 2), I (y31.2.next 3), I (y31.2.next 4), I (y31.2.match_ 0), I (y31.2.match_ 1), I (y31.2.match_ 2), I (y31.2.match_ 3), I (y31.2.match_ 4), .slice a28 y31.2.out.length c28, I y31.2.broken] 66) :: blk p9 (cl [I y25.2.1, I y30.2.1, .bool y25.2.2.2.1, I y30.2.2.1, .map (some p10)] 79) :: mpr S (rPt r_T_platter_file) p10 y30.2.2.2 :: osl r_T_term_Entry 48 a27 c27 y31.2.st.Log :: osl r_T_raft_Msg 39 a28 c28 y31.2.out :: osl r_T_raft_Msg 39 a21 c21 y29.1 :: dsl r_T_term_Entry none 0 ([]) :: dsl (rI .i64) a1 c1 x1.Terms :: dsl rS a2 c2 x3 :: blk p7 (cl [I x1.Term, I x1.Vote, I x1.Base, .slice a1 x1.Terms.length c1] 24) :: F)) ?_ ?_
                          · rintro _ w ⟨z6, b, rfl, rfl, hst⟩
                            have hr := hk14
                            refine ib_n (th_n ?_)
                            obtain rfl := Option.some.inj hr
                            have hst := (((((((((((((hst.pull 13).pull 13).pull 13).pull 13).pull 13).pull 13).pull 13).pull 13).pull 13).pull 13).pull 13).pull 13).cut 12 2)
                            exact ⟨(), (kpXf [(11, pt p8 0), (14, I y32.2.Base), (62, .slice a26 y31.1.length c26), (63, I (y31.1.length : Int)), (64, I v6)] rfl hst)⟩
                          · have hst := ((((((((((((((hst.pull 13).pull 13).pull 13).pull 13).pull 13).pull 13).pull 13).pull 13).pull 13).pull 13).pull 13).pull 13).pull 13).pull 13)
                            refine wp_block ?_
                            refine wp_loop_fuel (fun j a w => ∃ (v8 : Int) (b : Nat → Value), a = mkF 143 b [(11, pt p8 0), (14, I y32.2.Base), (16, pt p11 0), (62, .slice a26 y31.1.length c26), (63, I (y31.1.length : Int)), (64, I v6), (126, .slice q3.1 x8.Entries.length q3.2), (127, I (x8.Entries.length : Int)), (128, I v8)] ∧ St G w (blk p11 (cl [I x8.Kind, I x8.From, I x8.To, I x8.Term, I x8.Index, I x8.LogTerm, I x8.Commit, .bool x8.OK, .slice q3.1 x8.Entries.length q3.2, S x8.Snap] 39) :: dsl r_T_term_Entry q3.1 q3.2 x8.Entries :: osl r_T_raft_Msg 39 a26 c26 y31.1 :: osl r_T_term_Entry 48 a29 c29 y32.1 :: blk p8 (cl [I y31.2.id, I y31.2.n, pt p9 0, I y31.2.st.Term, I y31.2.st.Vote, I y31.2.st.Base, I y31.2.st.BaseTerm, S y31.2.st.Snap, .slice a27 y31.2.st.Log.length c27, I y31.2.role, I y31.2.leader, I y31.2.commit, I y31.2.applied, I y31.2.timer, .bool (y31.2.votes 0), .bool (y31.2.votes 1), .bool (y31.2.votes 2), .bool (y31.2.votes 3), .bool (y31.2.votes 4), I (y31.2.next 0), I (y31.2.next 1), I (y31.2.next 2), I (y31.2.next 3), I (y31.2.next 4), I (y31.2.match_ 0), I (y31.2.match_ 1), I (y31.2.match_ 2), I (y31.2.match_ 3), I (y31.2.match_ 4), .slice a28 y31.2.out.length c28, I y31.2.broken] 66) :: blk p9 (cl [I y25.2.1, I y30.2.1, .bool y25.2.2.2.1, I y30.2.2.1, .map (some p10)] 79) :: mpr S (rPt r_T_platter_file) p10 y30.2.2.2 :: osl r_T_term_Entry 48 a27 c27 y31.2.st.Log :: osl r_T_raft_Msg 39 a28 c28 y31.2.out :: osl r_T_raft_Msg 39 a21 c21 y29.1 :: dsl r_T_term_Entry none 0 ([]) :: dsl (rI .i64) a1 c1 x1.Terms :: dsl rS a2 c2 x3 :: blk p7 (cl [I x1.Term, I x1.Vote, I x1.Base, .slice a1 x1.Terms.length c1] 24) :: F) ∧ glacierlaw10_RaftTells_l2 k x8 j v8 = some y42) (k := k) ⟨(0 : Int), (kpX [(11, pt p8 0), (14, I y32.2.Base), (16, pt p11 0), (62, .slice a26 y31.1.length c26), (63, I (y31.1.length : Int)), (64, I v6), (126, .slice q3.1 x8.Entries.length q3.2), (127, I (x8.Entries.length : Int)), (128, I 0)] rfl ⟨hst, hy42⟩)⟩ ?_ ?_
                            · rintro _ _ ⟨_, _, _, _, h⟩
                              rw [glacierlaw10_RaftTells_l2] at h
                              cases h
                            · rintro j _ w ⟨v8, b, rfl, hst, hr⟩
                              rw [glacierlaw10_RaftTells_l2] at hr
                              refine wp_seq ?_
                              refine wp_reg ?_
                              refine L_pure 1 [(11, pt p8 0), (14, I y32.2.Base), (16, pt p11 0), (62, .slice a26 y31.1.length c26), (63, I (y31.1.length : Int)), (64, I v6), (126, .slice q3.1 x8.Entries.length q3.2), (127, I (x8.Entries.length : Int)), (128, I v8), (129, .bool (decide (v8 < (x8.Entries.length : Int))))] (by kernel_rfl) fun b => ?_
                              refine wpL_nil ?_
                              refine th_n ?_
                              refine wp_seq ?_
                              refine wp_cond_mkF (t := decide (v8 < (x8.Entries.length : Int))) rfl (fun h => ?_) (fun h => ?_)
                              · have hr := (if_pos h).symm.trans hr
                                refine wp_skip ?_
                                refine th_n ?_
                                refine wp_seq ?_
                                refine wp_block ?_
                                refine wp_seq ?_
                                refine wp_reg ?_
                                refine L_pure 1 [(11, pt p8 0), (14, I y32.2.Base), (16, pt p11 0), (62, .slice a26 y31.1.length c26), (63, I (y31.1.length : Int)), (64, I v6), (126, .slice q3.1 x8.Entries.length q3.2), (127, I (x8.Entries.length : Int)), (128, I v8), (130, I v8)] (by kernel_rfl) fun b => ?_
                                obtain ⟨x9, hx4, hr⟩ := bnd hr
                                refine L_op rfl (O_run (v := pt (ab q3.1) (ao q3.1 + v8.toNat * 3)) (w' := w) (R_ia L37 rfl rfl (dsl_addr (hst.pull 1) hx4) (gt_some hx4).1 (gt_some hx4).2.1) rfl rfl ?_)
                                obtain ⟨q4, hc4, hst⟩ := dsl_cells (hst.pull 1) hx4
                                have hst := hst.drop
                                refine L_op rfl (O_run (v := .agg #[I x9.Index, I x9.Term, S x9.Cmd]) (w' := w) (R_loadAt (off := ao q3.1 + v8.toNat * 3) (j := 0) hc4 rfl rfl) rfl rfl ?_)
                                refine L_op rfl (O_alloc (i := Tryz.t48) (z := .agg #[I 0, I 0, S ([])]) [I 0, I 0, S ([])] hst rfl rfl rfl rfl fun p12 w hst => ?_)
                                refine L_pure 1 [(11, pt p8 0), (14, I y32.2.Base), (16, pt p11 0), (17, I v8), (18, pt p12 0), (62, .slice a26 y31.1.length c26), (63, I (y31.1.length : Int)), (64, I v6), (126, .slice q3.1 x8.Entries.length q3.2), (127, I (x8.Entries.length : Int)), (128, I v8), (132, .agg #[I x9.Index, I x9.Term, S x9.Cmd])] (by kernel_rfl) fun b => ?_
                                refine L_op rfl (O_store [I x9.Index, I x9.Term, S x9.Cmd] hst rfl rfl (by kernel_rfl) fun w hst => ?_)
                                refine wpL_nil ?_
                                refine th_n ?_
                                refine wp_seq ?_
                                refine wp_reg ?_
                                refine L_pure 1 [(11, pt p8 0), (14, I y32.2.Base), (16, pt p11 0), (17, I v8), (62, .slice a26 y31.1.length c26), (63, I (y31.1.length : Int)), (64, I v6), (126, .slice q3.1 x8.Entries.length q3.2), (127, I (x8.Entries.length : Int)), (128, I v8), (133, pt p12 0)] (by kernel_rfl) fun b => ?_
                                refine L_op rfl (O_run (v := I x9.Index) (w' := w) (R_load hst rfl rfl) rfl rfl ?_)
                                refine L_pure 1 [(11, pt p8 0), (14, I y32.2.Base), (16, pt p11 0), (17, I v8), (62, .slice a26 y31.1.length c26), (63, I (y31.1.length : Int)), (64, I v6), (126, .slice q3.1 x8.Entries.length q3.2), (127, I (x8.Entries.length : Int)), (128, I v8), (134, I x9.Index), (135, pt p11 4)] (by kernel_rfl) fun b => ?_
                                refine L_op rfl (O_run (v := I x8.Index) (w' := w) (R_load (hst.pull 2) rfl rfl) rfl rfl ?_)
                                refine L_pure 3 [(11, pt p8 0), (14, I y32.2.Base), (16, pt p11 0), (62, .slice a26 y31.1.length c26), (63, I (y31.1.length : Int)), (64, I v6), (126, .slice q3.1 x8.Entries.length q3.2), (127, I (x8.Entries.length : Int)), (128, I v8), (134, I x9.Index), (139, I (IntKind.i64.wrap ((IntKind.i64.wrap (x8.Index + 1)) + v8)))] (by kernel_rfl) fun b => ?_
                                refine L_op rfl (O_run (v := .bool (x9.Index != (IntKind.i64.wrap ((IntKind.i64.wrap (x8.Index + 1)) + v8)))) (w' := w) (R_ine rfl rfl) rfl rfl ?_)
                                refine wpL_nil ?_
                                refine th_n ?_
                                refine wp_cond_mkF (t := (x9.Index != (IntKind.i64.wrap ((IntKind.i64.wrap (x8.Index + 1)) + v8)))) rfl (fun h => ?_) (fun h => ?_)
                                · have hr := (if_pos h).symm.trans hr
                                  refine wp_seq ?_
                                  refine wp_reg ?_
                                  refine L_pure 1 [(10, .bool false)] (by kernel_rfl) fun b => ?_
                                  refine wpL_nil ?_
                                  refine th_n ?_
                                  refine wp_ret ?_
                                  refine ib_r (th_r (th_r (ib_r (th_r (ib_r (th_r (th_r (ib_r (th_r (th_r ?_))))))))))
                                  refine ret1 rfl rfl ?_
                                  obtain rfl := Option.some.inj hr
                                  obtain rfl := Option.some.inj hk14
                                  obtain rfl := Option.some.inj hk10
                                  obtain rfl := Option.some.inj hk9
                                  have hst := (((hst.pull 13).pull 13).cut 2 13)
                                  exact hR _ hst
                                · have hr := (if_neg (by rw [h]; exact Bool.false_ne_true)).symm.trans hr
                                  refine wp_skip ?_
                                  refine ib_n (th_n ?_)
                                  refine wp_reg ?_
                                  refine L_pure 2 [(11, pt p8 0), (14, I y32.2.Base), (16, pt p11 0), (62, .slice a26 y31.1.length c26), (63, I (y31.1.length : Int)), (64, I v6), (126, .slice q3.1 x8.Entries.length q3.2), (127, I (x8.Entries.length : Int)), (128, I (IntKind.i64.wrap (v8 + 1)))] (by kernel_rfl) fun b => ?_
                                  refine wpL_nil ?_
                                  refine th_n ?_
                                  have hst := (((((((((((((((hst.pull 14).pull 14).pull 14).pull 14).pull 14).pull 14).pull 14).pull 14).pull 14).pull 14).pull 14).pull 14).pull 13).pull 14).cut 14 1)
                                  exact ⟨(IntKind.i64.wrap (v8 + 1)), (kpX [(11, pt p8 0), (14, I y32.2.Base), (16, pt p11 0), (62, .slice a26 y31.1.length c26), (63, I (y31.1.length : Int)), (64, I v6), (126, .slice q3.1 x8.Entries.length q3.2), (127, I (x8.Entries.length : Int)), (128, I (IntKind.i64.wrap (v8 + 1)))] rfl ⟨hst, hr⟩)⟩
                              · have hr := (if_neg (by rw [h]; exact Bool.false_ne_true)).symm.trans hr
                                refine wp_exit ?_
                                refine th_x (th_x (ib_x (th_n ?_)))
                                obtain rfl := Option.some.inj hr
                                have hst := ((((((((((((((hst.pull 13).pull 13).pull 13).pull 13).pull 13).pull 13).pull 13).pull 13).pull 13).pull 13).pull 13).pull 13).pull 13).pull 13)
                                exact ⟨(), (kpXf [(11, pt p8 0), (14, I y32.2.Base), (62, .slice a26 y31.1.length c26), (63, I (y31.1.length : Int)), (64, I v6)] rfl hst)⟩
                      · have hr := hy40
                        refine wp_regG (SQ (fun w => St G w (blk p11 (cl [I x8.Kind, I x8.From, I x8.To, I x8.Term, I x8.Index, I x8.LogTerm, I x8.Commit, .bool x8.OK, .slice q3.1 x8.Entries.length q3.2, S x8.Snap] 39) :: dsl r_T_term_Entry q3.1 q3.2 x8.Entries :: osl r_T_raft_Msg 39 a26 c26 y31.1 :: osl r_T_term_Entry 48 a29 c29 y32.1 :: blk p8 (cl [I y31.2.id, I y31.2.n, pt p9 0, I y31.2.st.Term, I y31.2.st.Vote, I y31.2.st.Base, I y31.2.st.BaseTerm, S y31.2.st.Snap, .slice a27 y31.2.st.Log.length c27, I y31.2.role, I y31.2.leader, I y31.2.commit, I y31.2.applied, I y31.2.timer, .bool (y31.2.votes 0), .bool (y31.2.votes 1), .bool (y31.2.votes 2), .bool (y31.2.votes 3), .bool (y31.2.votes 4), I (y31.2.next 0), I (y31.2.next 1), I (y31.2.next 2), I (y31.2.next 3), I (y31.2.next 4), I (y31.2.match_ 0), I (y31.2.match_ 1), I (y31.2.match_ 2), I (y31.2.match_ 3), I (y31.2.match_ 4), .slice a28 y31.2.out.length c28, I y31.2.broken] 66) :: blk p9 (cl [I y25.2.1, I y30.2.1, .bool y25.2.2.2.1, I y30.2.2.1, .map (some p10)] 79) :: mpr S (rPt r_T_platter_file) p10 y30.2.2.2 :: osl r_T_term_Entry 48 a27 c27 y31.2.st.Log :: osl r_T_raft_Msg 39 a28 c28 y31.2.out :: osl r_T_raft_Msg 39 a21 c21 y29.1 :: dsl r_T_term_Entry none 0 ([]) :: dsl (rI .i64) a1 c1 x1.Terms :: dsl rS a2 c2 x3 :: blk p7 (cl [I x1.Term, I x1.Vote, I x1.Base, .slice a1 x1.Terms.length c1] 24) :: F))) rfl ?_
                        have hst := hst.draw (n := w.drawn + 1)
                        generalize { w with drawn := w.drawn + 1 } = w at hst ⊢
                        refine Q_take (i := 0) (v := pt p11 0) rfl (by kernel_rfl) (fun _ _ _ h => h) rfl rfl rfl (fun _ _ => R_pure (by kernel_rfl)) ((((((((((((((hst.pull 13).pull 13).pull 13).pull 13).pull 13).pull 13).pull 13).pull 13).pull 13).pull 13).pull 13).pull 13).pull 13).pull 13) ?_
                        refine Q_take (i := 1) (v := I x8.Kind) rfl (by kernel_rfl) (fun _ _ _ h => h) rfl rfl rfl (fun w hst => R_load hst rfl rfl) ((((((((((((((hst.pull 13).pull 13).pull 13).pull 13).pull 13).pull 13).pull 13).pull 13).pull 13).pull 13).pull 13).pull 13).pull 13).pull 13) ?_
                        refine Q_take (i := 2) (v := .bool (x8.Kind != 3)) rfl (by kernel_rfl) (fun _ _ _ h => h) rfl rfl rfl (fun _ _ => R_pure (by kernel_rfl)) ((((((((((((((hst.pull 13).pull 13).pull 13).pull 13).pull 13).pull 13).pull 13).pull 13).pull 13).pull 13).pull 13).pull 13).pull 13).pull 13) ?_
                        refine Q_take (i := 3) (v := .bool (x8.Kind != 3)) rfl (by kernel_rfl) (fun _ _ _ h => h) rfl rfl rfl (fun _ _ => R_pure (by kernel_rfl)) ((((((((((((((hst.pull 13).pull 13).pull 13).pull 13).pull 13).pull 13).pull 13).pull 13).pull 13).pull 13).pull 13).pull 13).pull 13).pull 13) ?_
                        by_cases h : (x8.Kind != 3) = true
                        · have hr := (if_pos h).symm.trans hr
                          refine C_keep ((107, .bool (x8.Kind != 3)) :: [(11, pt p8 0), (14, I y32.2.Base), (16, pt p11 0), (62, .slice a26 y31.1.length c26), (63, I (y31.1.length : Int)), (64, I v6), (87, .bool (x8.Kind == 5)), (104, pt p11 0), (105, I x8.Kind), (106, .bool (x8.Kind != 3))]) rfl fun b => ?_
                          refine C_bool h ?_
                          refine Q_skip (i := 4) rfl (by kernel_rfl) (fun _ _ _ h => h) rfl rfl rfl ((((((((((((((hst.pull 13).pull 13).pull 13).pull 13).pull 13).pull 13).pull 13).pull 13).pull 13).pull 13).pull 13).pull 13).pull 13).pull 13) ?_
                          refine Q_skip (i := 5) rfl (by kernel_rfl) (fun _ _ _ h => h) rfl rfl rfl ((((((((((((((hst.pull 13).pull 13).pull 13).pull 13).pull 13).pull 13).pull 13).pull 13).pull 13).pull 13).pull 13).pull 13).pull 13).pull 13) ?_
                          refine Q_skip (i := 6) rfl (by kernel_rfl) (fun _ _ _ h => h) rfl rfl rfl ((((((((((((((hst.pull 13).pull 13).pull 13).pull 13).pull 13).pull 13).pull 13).pull 13).pull 13).pull 13).pull 13).pull 13).pull 13).pull 13) ?_
                          refine Q_skip (i := 7) rfl (by kernel_rfl) (fun _ _ _ h => h) rfl rfl rfl ((((((((((((((hst.pull 13).pull 13).pull 13).pull 13).pull 13).pull 13).pull 13).pull 13).pull 13).pull 13).pull 13).pull 13).pull 13).pull 13) ?_
                          refine Q_take (i := 8) (v := .bool true) rfl (by kernel_rfl) (fun _ _ _ h => h) rfl rfl rfl (fun _ _ => R_pure (by kernel_rfl)) ((((((((((((((hst.pull 13).pull 13).pull 13).pull 13).pull 13).pull 13).pull 13).pull 13).pull 13).pull 13).pull 13).pull 13).pull 13).pull 13) ?_
                          refine Q_take (i := 9) (v := .bool true) rfl (by kernel_rfl) (fun _ _ _ h => h) rfl rfl rfl (fun _ _ => R_pure (by kernel_rfl)) ((((((((((((((hst.pull 13).pull 13).pull 13).pull 13).pull 13).pull 13).pull 13).pull 13).pull 13).pull 13).pull 13).pull 13).pull 13).pull 13) ?_
                          refine Q_skip (i := 10) rfl (by kernel_rfl) (fun _ _ _ h => h) rfl rfl rfl ((((((((((((((hst.pull 13).pull 13).pull 13).pull 13).pull 13).pull 13).pull 13).pull 13).pull 13).pull 13).pull 13).pull 13).pull 13).pull 13) ?_
                          refine Q_skip (i := 11) rfl (by kernel_rfl) (fun _ _ _ h => h) rfl rfl rfl ((((((((((((((hst.pull 13).pull 13).pull 13).pull 13).pull 13).pull 13).pull 13).pull 13).pull 13).pull 13).pull 13).pull 13).pull 13).pull 13) ?_
                          refine Q_skip (i := 12) rfl (by kernel_rfl) (fun _ _ _ h => h) rfl rfl rfl ((((((((((((((hst.pull 13).pull 13).pull 13).pull 13).pull 13).pull 13).pull 13).pull 13).pull 13).pull 13).pull 13).pull 13).pull 13).pull 13) ?_
                          refine Q_skip (i := 13) rfl (by kernel_rfl) (fun _ _ _ h => h) rfl rfl rfl ((((((((((((((hst.pull 13).pull 13).pull 13).pull 13).pull 13).pull 13).pull 13).pull 13).pull 13).pull 13).pull 13).pull 13).pull 13).pull 13) ?_
                          refine Q_skip (i := 14) rfl (by kernel_rfl) (fun _ _ _ h => h) rfl rfl rfl ((((((((((((((hst.pull 13).pull 13).pull 13).pull 13).pull 13).pull 13).pull 13).pull 13).pull 13).pull 13).pull 13).pull 13).pull 13).pull 13) ?_
                          refine Q_skip (i := 15) rfl (by kernel_rfl) (fun _ _ _ h => h) rfl rfl rfl ((((((((((((((hst.pull 13).pull 13).pull 13).pull 13).pull 13).pull 13).pull 13).pull 13).pull 13).pull 13).pull 13).pull 13).pull 13).pull 13) ?_
                          refine Q_skip (i := 16) rfl (by kernel_rfl) (fun _ _ _ h => h) rfl rfl rfl ((((((((((((((hst.pull 13).pull 13).pull 13).pull 13).pull 13).pull 13).pull 13).pull 13).pull 13).pull 13).pull 13).pull 13).pull 13).pull 13) ?_
                          refine Q_skip (i := 17) rfl (by kernel_rfl) (fun _ _ _ h => h) rfl rfl rfl ((((((((((((((hst.pull 13).pull 13).pull 13).pull 13).pull 13).pull 13).pull 13).pull 13).pull 13).pull 13).pull 13).pull 13).pull 13).pull 13) ?_
                          refine Q_skip (i := 18) rfl (by kernel_rfl) (fun _ _ _ h => h) rfl rfl rfl ((((((((((((((hst.pull 13).pull 13).pull 13).pull 13).pull 13).pull 13).pull 13).pull 13).pull 13).pull 13).pull 13).pull 13).pull 13).pull 13) ?_
                          refine Q_skip (i := 19) rfl (by kernel_rfl) (fun _ _ _ h => h) rfl rfl rfl ((((((((((((((hst.pull 13).pull 13).pull 13).pull 13).pull 13).pull 13).pull 13).pull 13).pull 13).pull 13).pull 13).pull 13).pull 13).pull 13) ?_
                          refine Q_take (i := 20) (v := .bool true) rfl (by kernel_rfl) (fun _ _ _ h => h) rfl rfl rfl (fun _ _ => R_pure (by kernel_rfl)) ((((((((((((((hst.pull 13).pull 13).pull 13).pull 13).pull 13).pull 13).pull 13).pull 13).pull 13).pull 13).pull 13).pull 13).pull 13).pull 13) ?_
                          refine wpG_done (by kernel_rfl) ?_ _
                          refine C_keepQ [(11, pt p8 0), (14, I y32.2.Base), (16, pt p11 0), (62, .slice a26 y31.1.length c26), (63, I (y31.1.length : Int)), (64, I v6), (124, .bool true)] rfl fun b => ?_
                          refine th_n ?_
                          obtain rfl := Option.some.inj hr
                          have hst := ((((((((((((((hst.pull 13).pull 13).pull 13).pull 13).pull 13).pull 13).pull 13).pull 13).pull 13).pull 13).pull 13).pull 13).pull 13).pull 13)
                          exact (kpX [(11, pt p8 0), (14, I y32.2.Base), (16, pt p11 0), (62, .slice a26 y31.1.length c26), (63, I (y31.1.length : Int)), (64, I v6), (124, .bool true)] rfl hst)
                        · have hr := (if_neg h).symm.trans hr
                          refine C_keep ((107, .bool (x8.Kind != 3)) :: [(11, pt p8 0), (14, I y32.2.Base), (16, pt p11 0), (62, .slice a26 y31.1.length c26), (63, I (y31.1.length : Int)), (64, I v6), (87, .bool (x8.Kind == 5)), (104, pt p11 0), (105, I x8.Kind), (106, .bool (x8.Kind != 3))]) rfl fun b => ?_
                          refine C_bool (eq_false_of_ne_true h) ?_
                          refine Q_take (i := 4) (v := pt p11 4) rfl (by kernel_rfl) (fun _ _ _ h => h) rfl rfl rfl (fun _ _ => R_pure (by kernel_rfl)) ((((((((((((((hst.pull 13).pull 13).pull 13).pull 13).pull 13).pull 13).pull 13).pull 13).pull 13).pull 13).pull 13).pull 13).pull 13).pull 13) ?_
                          refine Q_take (i := 5) (v := I x8.Index) rfl (by kernel_rfl) (fun _ _ _ h => h) rfl rfl rfl (fun w hst => R_load hst rfl rfl) ((((((((((((((hst.pull 13).pull 13).pull 13).pull 13).pull 13).pull 13).pull 13).pull 13).pull 13).pull 13).pull 13).pull 13).pull 13).pull 13) ?_
                          refine Q_take (i := 6) (v := I y32.2.Base) rfl (by kernel_rfl) (fun _ _ _ h => h) rfl rfl rfl (fun _ _ => R_pure (by kernel_rfl)) ((((((((((((((hst.pull 13).pull 13).pull 13).pull 13).pull 13).pull 13).pull 13).pull 13).pull 13).pull 13).pull 13).pull 13).pull 13).pull 13) ?_
                          refine Q_take (i := 7) (v := .bool (decide (x8.Index < y32.2.Base))) rfl (by kernel_rfl) (fun _ _ _ h => h) rfl rfl rfl (fun _ _ => R_pure (by kernel_rfl)) ((((((((((((((hst.pull 13).pull 13).pull 13).pull 13).pull 13).pull 13).pull 13).pull 13).pull 13).pull 13).pull 13).pull 13).pull 13).pull 13) ?_
                          refine Q_take (i := 8) (v := .bool (decide (x8.Index < y32.2.Base))) rfl (by kernel_rfl) (fun _ _ _ h => h) rfl rfl rfl (fun _ _ => R_pure (by kernel_rfl)) ((((((((((((((hst.pull 13).pull 13).pull 13).pull 13).pull 13).pull 13).pull 13).pull 13).pull 13).pull 13).pull 13).pull 13).pull 13).pull 13) ?_
                          refine Q_take (i := 9) (v := .bool (decide (x8.Index < y32.2.Base))) rfl (by kernel_rfl) (fun _ _ _ h => h) rfl rfl rfl (fun _ _ => R_pure (by kernel_rfl)) ((((((((((((((hst.pull 13).pull 13).pull 13).pull 13).pull 13).pull 13).pull 13).pull 13).pull 13).pull 13).pull 13).pull 13).pull 13).pull 13) ?_
                          by_cases h : (decide (x8.Index < y32.2.Base)) = true
                          · have hr := (if_pos h).symm.trans hr
                            refine C_keep ((113, .bool (decide (x8.Index < y32.2.Base))) :: [(11, pt p8 0), (14, I y32.2.Base), (16, pt p11 0), (62, .slice a26 y31.1.length c26), (63, I (y31.1.length : Int)), (64, I v6), (87, .bool (x8.Kind == 5)), (104, pt p11 0), (105, I x8.Kind), (106, .bool (x8.Kind != 3)), (107, .bool false), (108, pt p11 4), (109, I x8.Index), (110, I y32.2.Base), (111, .bool (decide (x8.Index < y32.2.Base))), (112, .bool (decide (x8.Index < y32.2.Base)))]) rfl fun b => ?_
                            refine C_bool h ?_
                            refine Q_skip (i := 10) rfl (by kernel_rfl) (fun _ _ _ h => h) rfl rfl rfl ((((((((((((((hst.pull 13).pull 13).pull 13).pull 13).pull 13).pull 13).pull 13).pull 13).pull 13).pull 13).pull 13).pull 13).pull 13).pull 13) ?_
                            refine Q_skip (i := 11) rfl (by kernel_rfl) (fun _ _ _ h => h) rfl rfl rfl ((((((((((((((hst.pull 13).pull 13).pull 13).pull 13).pull 13).pull 13).pull 13).pull 13).pull 13).pull 13).pull 13).pull 13).pull 13).pull 13) ?_
                            refine Q_skip (i := 12) rfl (by kernel_rfl) (fun _ _ _ h => h) rfl rfl rfl ((((((((((((((hst.pull 13).pull 13).pull 13).pull 13).pull 13).pull 13).pull 13).pull 13).pull 13).pull 13).pull 13).pull 13).pull 13).pull 13) ?_
                            refine Q_skip (i := 13) rfl (by kernel_rfl) (fun _ _ _ h => h) rfl rfl rfl ((((((((((((((hst.pull 13).pull 13).pull 13).pull 13).pull 13).pull 13).pull 13).pull 13).pull 13).pull 13).pull 13).pull 13).pull 13).pull 13) ?_
                            refine Q_skip (i := 14) rfl (by kernel_rfl) (fun _ _ _ h => h) rfl rfl rfl ((((((((((((((hst.pull 13).pull 13).pull 13).pull 13).pull 13).pull 13).pull 13).pull 13).pull 13).pull 13).pull 13).pull 13).pull 13).pull 13) ?_
                            refine Q_skip (i := 15) rfl (by kernel_rfl) (fun _ _ _ h => h) rfl rfl rfl ((((((((((((((hst.pull 13).pull 13).pull 13).pull 13).pull 13).pull 13).pull 13).pull 13).pull 13).pull 13).pull 13).pull 13).pull 13).pull 13) ?_
                            refine Q_skip (i := 16) rfl (by kernel_rfl) (fun _ _ _ h => h) rfl rfl rfl ((((((((((((((hst.pull 13).pull 13).pull 13).pull 13).pull 13).pull 13).pull 13).pull 13).pull 13).pull 13).pull 13).pull 13).pull 13).pull 13) ?_
                            refine Q_skip (i := 17) rfl (by kernel_rfl) (fun _ _ _ h => h) rfl rfl rfl ((((((((((((((hst.pull 13).pull 13).pull 13).pull 13).pull 13).pull 13).pull 13).pull 13).pull 13).pull 13).pull 13).pull 13).pull 13).pull 13) ?_
                            refine Q_skip (i := 18) rfl (by kernel_rfl) (fun _ _ _ h => h) rfl rfl rfl ((((((((((((((hst.pull 13).pull 13).pull 13).pull 13).pull 13).pull 13).pull 13).pull 13).pull 13).pull 13).pull 13).pull 13).pull 13).pull 13) ?_
                            refine Q_skip (i := 19) rfl (by kernel_rfl) (fun _ _ _ h => h) rfl rfl rfl ((((((((((((((hst.pull 13).pull 13).pull 13).pull 13).pull 13).pull 13).pull 13).pull 13).pull 13).pull 13).pull 13).pull 13).pull 13).pull 13) ?_
                            refine Q_take (i := 20) (v := .bool true) rfl (by kernel_rfl) (fun _ _ _ h => h) rfl rfl rfl (fun _ _ => R_pure (by kernel_rfl)) ((((((((((((((hst.pull 13).pull 13).pull 13).pull 13).pull 13).pull 13).pull 13).pull 13).pull 13).pull 13).pull 13).pull 13).pull 13).pull 13) ?_
                            refine wpG_done (by kernel_rfl) ?_ _
                            refine C_keepQ [(11, pt p8 0), (14, I y32.2.Base), (16, pt p11 0), (62, .slice a26 y31.1.length c26), (63, I (y31.1.length : Int)), (64, I v6), (124, .bool true)] rfl fun b => ?_
                            refine th_n ?_
                            obtain rfl := Option.some.inj hr
                            have hst := ((((((((((((((hst.pull 13).pull 13).pull 13).pull 13).pull 13).pull 13).pull 13).pull 13).pull 13).pull 13).pull 13).pull 13).pull 13).pull 13)
                            exact (kpX [(11, pt p8 0), (14, I y32.2.Base), (16, pt p11 0), (62, .slice a26 y31.1.length c26), (63, I (y31.1.length : Int)), (64, I v6), (124, .bool true)] rfl hst)
                          · have hr := (if_neg h).symm.trans hr
                            refine C_keep ((113, .bool (decide (x8.Index < y32.2.Base))) :: [(11, pt p8 0), (14, I y32.2.Base), (16, pt p11 0), (62, .slice a26 y31.1.length c26), (63, I (y31.1.length : Int)), (64, I v6), (87, .bool (x8.Kind == 5)), (104, pt p11 0), (105, I x8.Kind), (106, .bool (x8.Kind != 3)), (107, .bool false), (108, pt p11 4), (109, I x8.Index), (110, I y32.2.Base), (111, .bool (decide (x8.Index < y32.2.Base))), (112, .bool (decide (x8.Index < y32.2.Base)))]) rfl fun b => ?_
                            refine C_bool (eq_false_of_ne_true h) ?_
                            refine Q_take (i := 10) (v := pt p11 8) rfl (by kernel_rfl) (fun _ _ _ h => h) rfl rfl rfl (fun _ _ => R_pure (by kernel_rfl)) ((((((((((((((hst.pull 13).pull 13).pull 13).pull 13).pull 13).pull 13).pull 13).pull 13).pull 13).pull 13).pull 13).pull 13).pull 13).pull 13) ?_
                            refine Q_take (i := 11) (v := .slice q3.1 x8.Entries.length q3.2) rfl (by kernel_rfl) (fun _ _ _ h => h) rfl rfl rfl (fun w hst => R_load hst rfl rfl) ((((((((((((((hst.pull 13).pull 13).pull 13).pull 13).pull 13).pull 13).pull 13).pull 13).pull 13).pull 13).pull 13).pull 13).pull 13).pull 13) ?_
                            refine Q_take (i := 12) (v := I (x8.Entries.length : Int)) rfl (by kernel_rfl) (fun _ _ _ h => h) rfl rfl rfl (fun _ _ => R_pure (by kernel_rfl)) ((((((((((((((hst.pull 13).pull 13).pull 13).pull 13).pull 13).pull 13).pull 13).pull 13).pull 13).pull 13).pull 13).pull 13).pull 13).pull 13) ?_
                            refine Q_take (i := 13) (v := pt p8 0) rfl (by kernel_rfl) (fun _ _ _ h => h) rfl rfl rfl (fun _ _ => R_pure (by kernel_rfl)) ((((((((((((((hst.pull 13).pull 13).pull 13).pull 13).pull 13).pull 13).pull 13).pull 13).pull 13).pull 13).pull 13).pull 13).pull 13).pull 13) ?_
                            refine Q_take (i := 15) (v := pt p11 4) rfl (by kernel_rfl) (fun _ _ _ h => h) rfl rfl rfl (fun _ _ => R_pure (by kernel_rfl)) ((((((((((((((hst.pull 13).pull 13).pull 13).pull 13).pull 13).pull 13).pull 13).pull 13).pull 13).pull 13).pull 13).pull 13).pull 13).pull 13) ?_
                            refine Q_take (i := 16) (v := I x8.Index) rfl (by kernel_rfl) (fun _ _ _ h => h) rfl rfl rfl (fun w hst => R_load hst rfl rfl) ((((((((((((((hst.pull 13).pull 13).pull 13).pull 13).pull 13).pull 13).pull 13).pull 13).pull 13).pull 13).pull 13).pull 13).pull 13).pull 13) ?_
                            obtain ⟨y41, hy41, hr⟩ := bnd hr
                            refine Q_one (i := 14) (by kernel_rfl) rfl rfl (O_call (vs := #[pt p8 0]) Tryz.call8 (by kernel_rfl) (raft_Node_Last_ok k y31.2 y25.2.1 y30.2.1 y25.2.2.2.1 y30.2.2.1 y30.2.2.2 p8 p9 p10 a27 c27 a28 c28 y41 (((((hst.pull 8).pull 8).pull 8).pull 8).pull 8) hy41 fun w hst => ?_))
                            refine CK_ret rfl ?_
                            refine ⟨((((((((((((((hst.pull 13).pull 13).pull 13).pull 13).pull 13).pull 9).pull 9).pull 9).pull 9).pull 9).pull 13).pull 13).pull 13).pull 13), ?_⟩
                            refine Q_take (i := 17) (v := I (IntKind.i64.wrap (y41 - x8.Index))) rfl (by kernel_rfl) (fun _ _ _ h => h) rfl rfl rfl (fun _ _ => R_pure (by kernel_rfl)) ((((((((((((((hst.pull 13).pull 13).pull 13).pull 13).pull 13).pull 9).pull 9).pull 9).pull 9).pull 9).pull 13).pull 13).pull 13).pull 13) ?_
                            refine Q_take (i := 18) (v := I (mn2 (IntKind.i64.wrap (y41 - x8.Index)) 4)) rfl (by kernel_rfl) (fun _ _ _ h => h) rfl rfl rfl (fun _ _ => R_pure (by kernel_rfl)) ((((((((((((((hst.pull 13).pull 13).pull 13).pull 13).pull 13).pull 9).pull 9).pull 9).pull 9).pull 9).pull 13).pull 13).pull 13).pull 13) ?_
                            refine Q_take (i := 19) (v := .bool ((x8.Entries.length : Int) != (mn2 (IntKind.i64.wrap (y41 - x8.Index)) 4))) rfl (by kernel_rfl) (fun _ _ _ h => h) rfl rfl rfl (fun _ _ => (R_ine rfl rfl)) ((((((((((((((hst.pull 13).pull 13).pull 13).pull 13).pull 13).pull 9).pull 9).pull 9).pull 9).pull 9).pull 13).pull 13).pull 13).pull 13) ?_
                            refine Q_take (i := 20) (v := .bool ((x8.Entries.length : Int) != (mn2 (IntKind.i64.wrap (y41 - x8.Index)) 4))) rfl (by kernel_rfl) (fun _ _ _ h => h) rfl rfl rfl (fun _ _ => R_pure (by kernel_rfl)) ((((((((((((((hst.pull 13).pull 13).pull 13).pull 13).pull 13).pull 9).pull 9).pull 9).pull 9).pull 9).pull 13).pull 13).pull 13).pull 13) ?_
                            refine wpG_done (by kernel_rfl) ?_ _
                            refine C_keepQ [(11, pt p8 0), (14, I y32.2.Base), (16, pt p11 0), (62, .slice a26 y31.1.length c26), (63, I (y31.1.length : Int)), (64, I v6), (124, .bool ((x8.Entries.length : Int) != (mn2 (IntKind.i64.wrap (y41 - x8.Index)) 4)))] rfl fun b => ?_
                            refine th_n ?_
                            obtain rfl := Option.some.inj hr
                            have hst := ((((((((((((((hst.pull 13).pull 13).pull 13).pull 13).pull 13).pull 9).pull 9).pull 9).pull 9).pull 9).pull 13).pull 13).pull 13).pull 13)
                            exact (kpX [(11, pt p8 0), (14, I y32.2.Base), (16, pt p11 0), (62, .slice a26 y31.1.length c26), (63, I (y31.1.length : Int)), (64, I v6), (124, .bool ((x8.Entries.length : Int) != (mn2 (IntKind.i64.wrap (y41 - x8.Index)) 4)))] rfl hst)
                · have hr := hy35
                  refine wp_regG (SQ (fun w => St G w (blk p11 (cl [I x8.Kind, I x8.From, I x8.To, I x8.Term, I x8.Index, I x8.LogTerm, I x8.Commit, .bool x8.OK, .slice q3.1 x8.Entries.length q3.2, S x8.Snap] 39) :: dsl r_T_term_Entry q3.1 q3.2 x8.Entries :: osl r_T_raft_Msg 39 a26 c26 y31.1 :: osl r_T_term_Entry 48 a29 c29 y32.1 :: blk p8 (cl [I y31.2.id, I y31.2.n, pt p9 0, I y31.2.st.Term, I y31.2.st.Vote, I y31.2.st.Base, I y31.2.st.BaseTerm, S y31.2.st.Snap, .slice a27 y31.2.st.Log.length c27, I y31.2.role, I y31.2.leader, I y31.2.commit, I y31.2.applied, I y31.2.timer, .bool (y31.2.votes 0), .bool (y31.2.votes 1), .bool (y31.2.votes 2), .bool (y31.2.votes 3), .bool (y31.2.votes 4), I (y31.2.next 0), I (y31.2.next 1), I (y31.2.next 2), I (y31.2.next 3), I (y31.2.next 4), I (y31.2.match_ 0), I (y31.2.match_ 1), I (y31.2.match_ 2), I (y31.2.match_ 3), I (y31.2.match_ 4), .slice a28 y31.2.out.length c28, I y31.2.broken] 66) :: blk p9 (cl [I y25.2.1, I y30.2.1, .bool y25.2.2.2.1, I y30.2.2.1, .map (some p10)] 79) :: mpr S (rPt r_T_platter_file) p10 y30.2.2.2 :: osl r_T_term_Entry 48 a27 c27 y31.2.st.Log :: osl r_T_raft_Msg 39 a28 c28 y31.2.out :: osl r_T_raft_Msg 39 a21 c21 y29.1 :: dsl r_T_term_Entry none 0 ([]) :: dsl (rI .i64) a1 c1 x1.Terms :: dsl rS a2 c2 x3 :: blk p7 (cl [I x1.Term, I x1.Vote, I x1.Base, .slice a1 x1.Terms.length c1] 24) :: F))) rfl ?_
                  have hst := hst.draw (n := w.drawn + 1)
                  generalize { w with drawn := w.drawn + 1 } = w at hst ⊢
                  refine Q_take (i := 0) (v := pt p11 1) rfl (by kernel_rfl) (fun _ _ _ h => h) rfl rfl rfl (fun _ _ => R_pure (by kernel_rfl)) ((((((((((((((hst.pull 13).pull 13).pull 13).pull 13).pull 13).pull 13).pull 13).pull 13).pull 13).pull 13).pull 13).pull 13).pull 13).pull 13) ?_
                  refine Q_take (i := 1) (v := I x8.From) rfl (by kernel_rfl) (fun _ _ _ h => h) rfl rfl rfl (fun w hst => R_load hst rfl rfl) ((((((((((((((hst.pull 13).pull 13).pull 13).pull 13).pull 13).pull 13).pull 13).pull 13).pull 13).pull 13).pull 13).pull 13).pull 13).pull 13) ?_
                  refine Q_take (i := 2) (v := .bool (x8.From != 0)) rfl (by kernel_rfl) (fun _ _ _ h => h) rfl rfl rfl (fun _ _ => R_pure (by kernel_rfl)) ((((((((((((((hst.pull 13).pull 13).pull 13).pull 13).pull 13).pull 13).pull 13).pull 13).pull 13).pull 13).pull 13).pull 13).pull 13).pull 13) ?_
                  refine Q_take (i := 3) (v := .bool (x8.From != 0)) rfl (by kernel_rfl) (fun _ _ _ h => h) rfl rfl rfl (fun _ _ => R_pure (by kernel_rfl)) ((((((((((((((hst.pull 13).pull 13).pull 13).pull 13).pull 13).pull 13).pull 13).pull 13).pull 13).pull 13).pull 13).pull 13).pull 13).pull 13) ?_
                  by_cases h : (x8.From != 0) = true
                  · have hr := (if_pos h).symm.trans hr
                    refine C_keep ((71, .bool (x8.From != 0)) :: [(11, pt p8 0), (14, I y32.2.Base), (16, pt p11 0), (62, .slice a26 y31.1.length c26), (63, I (y31.1.length : Int)), (64, I v6), (65, .bool (decide (v6 < (y31.1.length : Int)))), (66, pt (ab a26) (ao a26 + v6.toNat * 10)), (67, .agg #[I x8.Kind, I x8.From, I x8.To, I x8.Term, I x8.Index, I x8.LogTerm, I x8.Commit, .bool x8.OK, .slice q3.1 x8.Entries.length q3.2, S x8.Snap]), (68, pt p11 1), (69, I x8.From), (70, .bool (x8.From != 0))]) rfl fun b => ?_
                    refine C_bool h ?_
                    refine Q_skip (i := 4) rfl (by kernel_rfl) (fun _ _ _ h => h) rfl rfl rfl ((((((((((((((hst.pull 13).pull 13).pull 13).pull 13).pull 13).pull 13).pull 13).pull 13).pull 13).pull 13).pull 13).pull 13).pull 13).pull 13) ?_
                    refine Q_skip (i := 5) rfl (by kernel_rfl) (fun _ _ _ h => h) rfl rfl rfl ((((((((((((((hst.pull 13).pull 13).pull 13).pull 13).pull 13).pull 13).pull 13).pull 13).pull 13).pull 13).pull 13).pull 13).pull 13).pull 13) ?_
                    refine Q_skip (i := 6) rfl (by kernel_rfl) (fun _ _ _ h => h) rfl rfl rfl ((((((((((((((hst.pull 13).pull 13).pull 13).pull 13).pull 13).pull 13).pull 13).pull 13).pull 13).pull 13).pull 13).pull 13).pull 13).pull 13) ?_
                    refine Q_skip (i := 7) rfl (by kernel_rfl) (fun _ _ _ h => h) rfl rfl rfl ((((((((((((((hst.pull 13).pull 13).pull 13).pull 13).pull 13).pull 13).pull 13).pull 13).pull 13).pull 13).pull 13).pull 13).pull 13).pull 13) ?_
                    refine Q_skip (i := 8) rfl (by kernel_rfl) (fun _ _ _ h => h) rfl rfl rfl ((((((((((((((hst.pull 13).pull 13).pull 13).pull 13).pull 13).pull 13).pull 13).pull 13).pull 13).pull 13).pull 13).pull 13).pull 13).pull 13) ?_
                    refine Q_take (i := 9) (v := .bool true) rfl (by kernel_rfl) (fun _ _ _ h => h) rfl rfl rfl (fun _ _ => R_pure (by kernel_rfl)) ((((((((((((((hst.pull 13).pull 13).pull 13).pull 13).pull 13).pull 13).pull 13).pull 13).pull 13).pull 13).pull 13).pull 13).pull 13).pull 13) ?_
                    refine Q_take (i := 10) (v := .bool true) rfl (by kernel_rfl) (fun _ _ _ h => h) rfl rfl rfl (fun _ _ => R_pure (by kernel_rfl)) ((((((((((((((hst.pull 13).pull 13).pull 13).pull 13).pull 13).pull 13).pull 13).pull 13).pull 13).pull 13).pull 13).pull 13).pull 13).pull 13) ?_
                    refine Q_skip (i := 11) rfl (by kernel_rfl) (fun _ _ _ h => h) rfl rfl rfl ((((((((((((((hst.pull 13).pull 13).pull 13).pull 13).pull 13).pull 13).pull 13).pull 13).pull 13).pull 13).pull 13).pull 13).pull 13).pull 13) ?_
                    refine Q_skip (i := 12) rfl (by kernel_rfl) (fun _ _ _ h => h) rfl rfl rfl ((((((((((((((hst.pull 13).pull 13).pull 13).pull 13).pull 13).pull 13).pull 13).pull 13).pull 13).pull 13).pull 13).pull 13).pull 13).pull 13) ?_
                    refine Q_skip (i := 13) rfl (by kernel_rfl) (fun _ _ _ h => h) rfl rfl rfl ((((((((((((((hst.pull 13).pull 13).pull 13).pull 13).pull 13).pull 13).pull 13).pull 13).pull 13).pull 13).pull 13).pull 13).pull 13).pull 13) ?_
                    refine Q_skip (i := 14) rfl (by kernel_rfl) (fun _ _ _ h => h) rfl rfl rfl ((((((((((((((hst.pull 13).pull 13).pull 13).pull 13).pull 13).pull 13).pull 13).pull 13).pull 13).pull 13).pull 13).pull 13).pull 13).pull 13) ?_
                    refine Q_skip (i := 15) rfl (by kernel_rfl) (fun _ _ _ h => h) rfl rfl rfl ((((((((((((((hst.pull 13).pull 13).pull 13).pull 13).pull 13).pull 13).pull 13).pull 13).pull 13).pull 13).pull 13).pull 13).pull 13).pull 13) ?_
                    refine Q_take (i := 16) (v := .bool true) rfl (by kernel_rfl) (fun _ _ _ h => h) rfl rfl rfl (fun _ _ => R_pure (by kernel_rfl)) ((((((((((((((hst.pull 13).pull 13).pull 13).pull 13).pull 13).pull 13).pull 13).pull 13).pull 13).pull 13).pull 13).pull 13).pull 13).pull 13) ?_
                    refine wpG_done (by kernel_rfl) ?_ _
                    refine C_keepQ [(11, pt p8 0), (14, I y32.2.Base), (16, pt p11 0), (62, .slice a26 y31.1.length c26), (63, I (y31.1.length : Int)), (64, I v6), (84, .bool true)] rfl fun b => ?_
                    refine th_n ?_
                    obtain rfl := Option.some.inj hr
                    have hst := ((((((((((((((hst.pull 13).pull 13).pull 13).pull 13).pull 13).pull 13).pull 13).pull 13).pull 13).pull 13).pull 13).pull 13).pull 13).pull 13)
                    exact (kpX [(11, pt p8 0), (14, I y32.2.Base), (16, pt p11 0), (62, .slice a26 y31.1.length c26), (63, I (y31.1.length : Int)), (64, I v6), (84, .bool true)] rfl hst)
                  · have hr := (if_neg h).symm.trans hr
                    refine C_keep ((71, .bool (x8.From != 0)) :: [(11, pt p8 0), (14, I y32.2.Base), (16, pt p11 0), (62, .slice a26 y31.1.length c26), (63, I (y31.1.length : Int)), (64, I v6), (65, .bool (decide (v6 < (y31.1.length : Int)))), (66, pt (ab a26) (ao a26 + v6.toNat * 10)), (67, .agg #[I x8.Kind, I x8.From, I x8.To, I x8.Term, I x8.Index, I x8.LogTerm, I x8.Commit, .bool x8.OK, .slice q3.1 x8.Entries.length q3.2, S x8.Snap]), (68, pt p11 1), (69, I x8.From), (70, .bool (x8.From != 0))]) rfl fun b => ?_
                    refine C_bool (eq_false_of_ne_true h) ?_
                    refine Q_take (i := 4) (v := pt p11 3) rfl (by kernel_rfl) (fun _ _ _ h => h) rfl rfl rfl (fun _ _ => R_pure (by kernel_rfl)) ((((((((((((((hst.pull 13).pull 13).pull 13).pull 13).pull 13).pull 13).pull 13).pull 13).pull 13).pull 13).pull 13).pull 13).pull 13).pull 13) ?_
                    refine Q_take (i := 5) (v := I x8.Term) rfl (by kernel_rfl) (fun _ _ _ h => h) rfl rfl rfl (fun w hst => R_load hst rfl rfl) ((((((((((((((hst.pull 13).pull 13).pull 13).pull 13).pull 13).pull 13).pull 13).pull 13).pull 13).pull 13).pull 13).pull 13).pull 13).pull 13) ?_
                    refine Q_take (i := 6) (v := pt p8 0) rfl (by kernel_rfl) (fun _ _ _ h => h) rfl rfl rfl (fun _ _ => R_pure (by kernel_rfl)) ((((((((((((((hst.pull 13).pull 13).pull 13).pull 13).pull 13).pull 13).pull 13).pull 13).pull 13).pull 13).pull 13).pull 13).pull 13).pull 13) ?_
                    obtain ⟨y36, hy36, hr⟩ := bnd hr
                    refine Q_one (i := 7) (by kernel_rfl) rfl rfl (O_call (vs := #[pt p8 0]) Tryz.call10 (by kernel_rfl) (raft_Node_Term_ok k y31.2 y25.2.1 y30.2.1 y25.2.2.2.1 y30.2.2.1 y30.2.2.2 p8 p9 p10 a27 c27 a28 c28 y36 (((((hst.pull 8).pull 8).pull 8).pull 8).pull 8) hy36 fun w hst => ?_))
                    refine CK_ret rfl ?_
                    refine ⟨((((((((((((((hst.pull 13).pull 13).pull 13).pull 13).pull 13).pull 9).pull 9).pull 9).pull 9).pull 9).pull 13).pull 13).pull 13).pull 13), ?_⟩
                    refine Q_take (i := 8) (v := .bool (x8.Term != y36)) rfl (by kernel_rfl) (fun _ _ _ h => h) rfl rfl rfl (fun _ _ => R_pure (by kernel_rfl)) ((((((((((((((hst.pull 13).pull 13).pull 13).pull 13).pull 13).pull 9).pull 9).pull 9).pull 9).pull 9).pull 13).pull 13).pull 13).pull 13) ?_
                    refine Q_take (i := 9) (v := .bool (x8.Term != y36)) rfl (by kernel_rfl) (fun _ _ _ h => h) rfl rfl rfl (fun _ _ => R_pure (by kernel_rfl)) ((((((((((((((hst.pull 13).pull 13).pull 13).pull 13).pull 13).pull 9).pull 9).pull 9).pull 9).pull 9).pull 13).pull 13).pull 13).pull 13) ?_
                    refine Q_take (i := 10) (v := .bool (x8.Term != y36)) rfl (by kernel_rfl) (fun _ _ _ h => h) rfl rfl rfl (fun _ _ => R_pure (by kernel_rfl)) ((((((((((((((hst.pull 13).pull 13).pull 13).pull 13).pull 13).pull 9).pull 9).pull 9).pull 9).pull 9).pull 13).pull 13).pull 13).pull 13) ?_
                    by_cases h : (x8.Term != y36) = true
                    · have hr := (if_pos h).symm.trans hr
                      refine C_keep ((78, .bool (x8.Term != y36)) :: [(11, pt p8 0), (14, I y32.2.Base), (16, pt p11 0), (62, .slice a26 y31.1.length c26), (63, I (y31.1.length : Int)), (64, I v6), (65, .bool (decide (v6 < (y31.1.length : Int)))), (66, pt (ab a26) (ao a26 + v6.toNat * 10)), (67, .agg #[I x8.Kind, I x8.From, I x8.To, I x8.Term, I x8.Index, I x8.LogTerm, I x8.Commit, .bool x8.OK, .slice q3.1 x8.Entries.length q3.2, S x8.Snap]), (68, pt p11 1), (69, I x8.From), (70, .bool (x8.From != 0)), (71, .bool false), (72, pt p11 3), (73, I x8.Term), (74, pt p8 0), (75, I y36), (76, .bool (x8.Term != y36)), (77, .bool (x8.Term != y36))]) rfl fun b => ?_
                      refine C_bool h ?_
                      refine Q_skip (i := 11) rfl (by kernel_rfl) (fun _ _ _ h => h) rfl rfl rfl ((((((((((((((hst.pull 13).pull 13).pull 13).pull 13).pull 13).pull 9).pull 9).pull 9).pull 9).pull 9).pull 13).pull 13).pull 13).pull 13) ?_
                      refine Q_skip (i := 12) rfl (by kernel_rfl) (fun _ _ _ h => h) rfl rfl rfl ((((((((((((((hst.pull 13).pull 13).pull 13).pull 13).pull 13).pull 9).pull 9).pull 9).pull 9).pull 9).pull 13).pull 13).pull 13).pull 13) ?_
                      refine Q_skip (i := 13) rfl (by kernel_rfl) (fun _ _ _ h => h) rfl rfl rfl ((((((((((((((hst.pull 13).pull 13).pull 13).pull 13).pull 13).pull 9).pull 9).pull 9).pull 9).pull 9).pull 13).pull 13).pull 13).pull 13) ?_
                      refine Q_skip (i := 14) rfl (by kernel_rfl) (fun _ _ _ h => h) rfl rfl rfl ((((((((((((((hst.pull 13).pull 13).pull 13).pull 13).pull 13).pull 9).pull 9).pull 9).pull 9).pull 9).pull 13).pull 13).pull 13).pull 13) ?_
                      refine Q_skip (i := 15) rfl (by kernel_rfl) (fun _ _ _ h => h) rfl rfl rfl ((((((((((((((hst.pull 13).pull 13).pull 13).pull 13).pull 13).pull 9).pull 9).pull 9).pull 9).pull 9).pull 13).pull 13).pull 13).pull 13) ?_
                      refine Q_take (i := 16) (v := .bool true) rfl (by kernel_rfl) (fun _ _ _ h => h) rfl rfl rfl (fun _ _ => R_pure (by kernel_rfl)) ((((((((((((((hst.pull 13).pull 13).pull 13).pull 13).pull 13).pull 9).pull 9).pull 9).pull 9).pull 9).pull 13).pull 13).pull 13).pull 13) ?_
                      refine wpG_done (by kernel_rfl) ?_ _
                      refine C_keepQ [(11, pt p8 0), (14, I y32.2.Base), (16, pt p11 0), (62, .slice a26 y31.1.length c26), (63, I (y31.1.length : Int)), (64, I v6), (84, .bool true)] rfl fun b => ?_
                      refine th_n ?_
                      obtain rfl := Option.some.inj hr
                      have hst := ((((((((((((((hst.pull 13).pull 13).pull 13).pull 13).pull 13).pull 9).pull 9).pull 9).pull 9).pull 9).pull 13).pull 13).pull 13).pull 13)
                      exact (kpX [(11, pt p8 0), (14, I y32.2.Base), (16, pt p11 0), (62, .slice a26 y31.1.length c26), (63, I (y31.1.length : Int)), (64, I v6), (84, .bool true)] rfl hst)
                    · have hr := (if_neg h).symm.trans hr
                      refine C_keep ((78, .bool (x8.Term != y36)) :: [(11, pt p8 0), (14, I y32.2.Base), (16, pt p11 0), (62, .slice a26 y31.1.length c26), (63, I (y31.1.length : Int)), (64, I v6), (65, .bool (decide (v6 < (y31.1.length : Int)))), (66, pt (ab a26) (ao a26 + v6.toNat * 10)), (67, .agg #[I x8.Kind, I x8.From, I x8.To, I x8.Term, I x8.Index, I x8.LogTerm, I x8.Commit, .bool x8.OK, .slice q3.1 x8.Entries.length q3.2, S x8.Snap]), (68, pt p11 1), (69, I x8.From), (70, .bool (x8.From != 0)), (71, .bool false), (72, pt p11 3), (73, I x8.Term), (74, pt p8 0), (75, I y36), (76, .bool (x8.Term != y36)), (77, .bool (x8.Term != y36))]) rfl fun b => ?_
                      refine C_bool (eq_false_of_ne_true h) ?_
                      refine Q_take (i := 11) (v := pt p11 6) rfl (by kernel_rfl) (fun _ _ _ h => h) rfl rfl rfl (fun _ _ => R_pure (by kernel_rfl)) ((((((((((((((hst.pull 13).pull 13).pull 13).pull 13).pull 13).pull 9).pull 9).pull 9).pull 9).pull 9).pull 13).pull 13).pull 13).pull 13) ?_
                      refine Q_take (i := 12) (v := I x8.Commit) rfl (by kernel_rfl) (fun _ _ _ h => h) rfl rfl rfl (fun w hst => R_load hst rfl rfl) ((((((((((((((hst.pull 13).pull 13).pull 13).pull 13).pull 13).pull 9).pull 9).pull 9).pull 9).pull 9).pull 13).pull 13).pull 13).pull 13) ?_
                      refine Q_take (i := 13) (v := pt p8 0) rfl (by kernel_rfl) (fun _ _ _ h => h) rfl rfl rfl (fun _ _ => R_pure (by kernel_rfl)) ((((((((((((((hst.pull 13).pull 13).pull 13).pull 13).pull 13).pull 9).pull 9).pull 9).pull 9).pull 9).pull 13).pull 13).pull 13).pull 13) ?_
                      obtain ⟨y37, hy37, hr⟩ := bnd hr
                      refine Q_one (i := 14) (by kernel_rfl) rfl rfl (O_call (vs := #[pt p8 0]) Tryz.call12 (by kernel_rfl) (raft_Node_Commit_ok k y31.2 y25.2.1 y30.2.1 y25.2.2.2.1 y30.2.2.1 y30.2.2.2 p8 p9 p10 a27 c27 a28 c28 y37 (((((hst.pull 4).pull 4).pull 4).pull 4).pull 4) hy37 fun w hst => ?_))
                      refine CK_ret rfl ?_
                      refine ⟨((((((((((((((hst.pull 13).pull 13).pull 13).pull 13).pull 13).pull 9).pull 9).pull 9).pull 9).pull 9).pull 13).pull 13).pull 13).pull 13), ?_⟩
                      refine Q_take (i := 15) (v := .bool (x8.Commit != y37)) rfl (by kernel_rfl) (fun _ _ _ h => h) rfl rfl rfl (fun _ _ => R_pure (by kernel_rfl)) ((((((((((((((hst.pull 13).pull 13).pull 13).pull 13).pull 13).pull 9).pull 9).pull 9).pull 9).pull 9).pull 13).pull 13).pull 13).pull 13) ?_
                      refine Q_take (i := 16) (v := .bool (x8.Commit != y37)) rfl (by kernel_rfl) (fun _ _ _ h => h) rfl rfl rfl (fun _ _ => R_pure (by kernel_rfl)) ((((((((((((((hst.pull 13).pull 13).pull 13).pull 13).pull 13).pull 9).pull 9).pull 9).pull 9).pull 9).pull 13).pull 13).pull 13).pull 13) ?_
                      refine wpG_done (by kernel_rfl) ?_ _
                      refine C_keepQ [(11, pt p8 0), (14, I y32.2.Base), (16, pt p11 0), (62, .slice a26 y31.1.length c26), (63, I (y31.1.length : Int)), (64, I v6), (84, .bool (x8.Commit != y37))] rfl fun b => ?_
                      refine th_n ?_
                      obtain rfl := Option.some.inj hr
                      have hst := ((((((((((((((hst.pull 13).pull 13).pull 13).pull 13).pull 13).pull 9).pull 9).pull 9).pull 9).pull 9).pull 13).pull 13).pull 13).pull 13)
                      exact (kpX [(11, pt p8 0), (14, I y32.2.Base), (16, pt p11 0), (62, .slice a26 y31.1.length c26), (63, I (y31.1.length : Int)), (64, I v6), (84, .bool (x8.Commit != y37))] rfl hst)
            · have hr := (if_neg (by rw [h]; exact Bool.false_ne_true)).symm.trans hr
              refine wp_exit ?_
              refine th_x (th_x (ib_x (th_n ?_)))
              obtain rfl := Option.some.inj hr
              have hst := ((((((((((((hst.pull 11).pull 11).pull 11).pull 11).pull 11).pull 11).pull 11).pull 11).pull 11).pull 11).pull 11).pull 11)
              exact ⟨(), (kpXf [] rfl hst)⟩
  · have hr := hy22
    refine wp_reg ?_
    obtain ⟨y23, hy23, hr⟩ := bnd hr
    refine L_op rfl (O_call (vs := #[]) Tryz.call5 (by kernel_rfl) (glacierlaw10_awake_ok k y23 hst hy23 fun w hst => ?_))
    refine CK_ret rfl ?_
    refine L_pure 2 [(1, I x2), (2, .slice a2 x3.length c2), (3, I x4), (4, .bool x5), (5, pt p7 0), (21, .bool (!y23))] (by kernel_rfl) fun b => ?_
    by_cases h : (!y23) = true
    · have hr := (if_pos h).symm.trans hr
      refine L_keep ((21, .bool (!y23)) :: [(1, I x2), (2, .slice a2 x3.length c2), (3, I x4), (4, .bool x5), (5, pt p7 0)]) rfl fun b => ?_
      refine L_bool h ?_
      refine L_pure 7 [(1, I x2), (2, .slice a2 x3.length c2), (3, I x4), (4, .bool x5), (5, pt p7 0), (28, .bool true)] (by kernel_rfl) fun b => ?_
      refine wpL_nil ?_
      refine th_n ?_
      obtain rfl := Option.some.inj hr
      have hst := (((hst.pull 2).pull 2).pull 2)
      exact (kpX [(1, I x2), (2, .slice a2 x3.length c2), (3, I x4), (4, .bool x5), (5, pt p7 0), (28, .bool true)] rfl hst)
    · have hr := (if_neg h).symm.trans hr
      refine L_keep ((21, .bool (!y23)) :: [(1, I x2), (2, .slice a2 x3.length c2), (3, I x4), (4, .bool x5), (5, pt p7 0)]) rfl fun b => ?_
      refine L_bool (eq_false_of_ne_true h) ?_
      refine L_pure 4 [(1, I x2), (2, .slice a2 x3.length c2), (3, I x4), (4, .bool x5), (5, pt p7 0), (25, .bool (decide (x2 < 2)))] (by kernel_rfl) fun b => ?_
      by_cases h : (decide (x2 < 2)) = true
      · have hr := (if_pos h).symm.trans hr
        refine L_keep ((25, .bool (decide (x2 < 2))) :: [(1, I x2), (2, .slice a2 x3.length c2), (3, I x4), (4, .bool x5), (5, pt p7 0)]) rfl fun b => ?_
        refine L_bool h ?_
        refine L_pure 3 [(1, I x2), (2, .slice a2 x3.length c2), (3, I x4), (4, .bool x5), (5, pt p7 0), (28, .bool true)] (by kernel_rfl) fun b => ?_
        refine wpL_nil ?_
        refine th_n ?_
        obtain rfl := Option.some.inj hr
        have hst := (((hst.pull 2).pull 2).pull 2)
        exact (kpX [(1, I x2), (2, .slice a2 x3.length c2), (3, I x4), (4, .bool x5), (5, pt p7 0), (28, .bool true)] rfl hst)
      · have hr := (if_neg h).symm.trans hr
        refine L_keep ((25, .bool (decide (x2 < 2))) :: [(1, I x2), (2, .slice a2 x3.length c2), (3, I x4), (4, .bool x5), (5, pt p7 0)]) rfl fun b => ?_
        refine L_bool (eq_false_of_ne_true h) ?_
        refine L_pure 3 [(1, I x2), (2, .slice a2 x3.length c2), (3, I x4), (4, .bool x5), (5, pt p7 0), (28, .bool (decide (x2 > 5)))] (by kernel_rfl) fun b => ?_
        refine wpL_nil ?_
        refine th_n ?_
        obtain rfl := Option.some.inj hr
        have hst := (((hst.pull 2).pull 2).pull 2)
        exact (kpX [(1, I x2), (2, .slice a2 x3.length c2), (3, I x4), (4, .bool x5), (5, pt p7 0), (28, .bool (decide (x2 > 5)))] rfl hst)
end Go.Proofs.YtpldjopnhhbjpaaGreat
