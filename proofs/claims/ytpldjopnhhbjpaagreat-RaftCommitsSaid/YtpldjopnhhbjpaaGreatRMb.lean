/- RM, one part more. -/
import Derived.Test.YtpldjopnhhbjpaaGreatRMa
namespace Go.Proofs.YtpldjopnhhbjpaaGreat
open Go.Hx Go.RowKit
def raft_Open (k : Nat) (x1 : Int) (x2 : Int) (x3 : Bool) (x4 : Int) (x5 : (List ((List UInt8) × (Option T_platter_file)))) (x6 : Int) (x7 : Int) : Option (T_raft_Node × Int × Int × Int × (List ((List UInt8) × (Option T_platter_file)))) := (Option.bind (if decide (x7 < 1) = true then some (true) else (if decide (x7 > 5) = true then some (true) else (if decide (x6 < 0) = true then some (true) else some (decide (x6 ≥ x7))))) fun y3 => (if y3 = true then none else (Option.bind (term_Load k x1 x2 x3 x4 x5) fun y4 => (if (y4.2.2.1 != 0) = true then none else some ((T_raft_Node.mk x6 x7 (T_term_State.mk y4.2.1.Term y4.2.1.Vote y4.2.1.Base y4.2.1.BaseTerm y4.2.1.Snap y4.1) 0 0 y4.2.1.Base y4.2.1.Base 0 (fun _ => false) (fun _ => 0) (fun _ => 0) ([]) 0), (0 : Int), y4.2.2.2.1, y4.2.2.2.2.1, y4.2.2.2.2.2)))))
set_option maxRecDepth 100000 in
set_option maxHeartbeats 4000000 in
theorem raft_Open_ok {G w : World} {F : List HP} {R : Ending → World → Prop} (k : Nat) (x1 : Int) (x2 : Int) (x3 : Bool) (x4 : Int) (x5 : (List ((List UInt8) × (Option T_platter_file)))) (x6 : Int) (x7 : Int) (p1 : Nat) (p2 : Nat) (r : (T_raft_Node × Int × Int × Int × (List ((List UInt8) × (Option T_platter_file))))) (hst : St G w (blk p1 (cl [I x1, I x2, .bool x3, I x4, .map (some p2)] 79) :: mpr S (rPt r_T_platter_file) p2 x5 :: F)) (hr : raft_Open k x1 x2 x3 x4 x5 x6 x7 = some r)
    (hR : ∀ (p5 : Nat) (a2 : Option Addr) (c2 : Nat) (a3 : Option Addr) (c3 : Nat) w', St G w' (osl r_T_term_Entry 48 a2 c2 r.1.st.Log :: osl r_T_raft_Msg 39 a3 c3 r.1.out :: blk p5 (cl [I r.1.id, I r.1.n, pt p1 0, I r.1.st.Term, I r.1.st.Vote, I r.1.st.Base, I r.1.st.BaseTerm, S r.1.st.Snap, .slice a2 r.1.st.Log.length c2, I r.1.role, I r.1.leader, I r.1.commit, I r.1.applied, I r.1.timer, .bool (r.1.votes 0), .bool (r.1.votes 1), .bool (r.1.votes 2), .bool (r.1.votes 3), .bool (r.1.votes 4), I (r.1.next 0), I (r.1.next 1), I (r.1.next 2), I (r.1.next 3), I (r.1.next 4), I (r.1.match_ 0), I (r.1.match_ 1), I (r.1.match_ 2), I (r.1.match_ 3), I (r.1.match_ 4), .slice a3 r.1.out.length c3, I r.1.broken] 66) :: blk p1 (cl [I x1, I r.2.2.1, .bool x3, I r.2.2.2.1, .map (some p2)] 79) :: mpr S (rPt r_T_platter_file) p2 r.2.2.2.2 :: F) → R (.returned (.tuple #[pt p5 0, I r.2.1])) w') :
    Calls Tryz.prog 16 #[pt p1 0, I x6, I x7] w R := by
  unfold raft_Open at hr
  refine enter Tryz.func16 rfl [(0, pt p1 0), (1, I x6), (2, I x7)] rfl rfl fun b => ?_
  refine wp_seq ?_
  refine wp_reg ?_
  refine L_pure 2 [(0, pt p1 0), (1, I x6), (2, I x7)] (by kernel_rfl) fun b => ?_
  refine wpL_nil ?_
  refine th_n ?_
  refine wp_seq ?_
  obtain ⟨y3, hy3, hk2⟩ := bnd hr
  clear hr
  refine wp_seq_cut (fun a w => ∃ (b : Nat → Value), a = mkF 43 b [(0, pt p1 0), (1, I x6), (2, I x7), (24, .bool y3)] ∧ St G w (blk p1 (cl [I x1, I x2, .bool x3, I x4, .map (some p2)] 79) :: mpr S (rPt r_T_platter_file) p2 x5 :: F)) ?_ ?_
  · rintro _ w ⟨b, rfl, hst⟩
    have hr := hk2
    refine wp_cond_mkF (t := y3) rfl (fun h => ?_) (fun h => ?_)
    · have hr := (if_pos h).symm.trans hr
      refine wp_seq ?_
      refine wp_reg ?_
      refine L_pure 2 [(6, .pointer none), (7, I 1)] (by kernel_rfl) fun b => ?_
      refine wpL_nil ?_
      refine th_n ?_
      refine wp_ret ?_
      refine th_r ?_
      cases hr
    · have hr := (if_neg (by rw [h]; exact Bool.false_ne_true)).symm.trans hr
      refine wp_skip ?_
      refine th_n ?_
      refine wp_seq ?_
      refine wp_reg ?_
      refine L_pure 1 [(0, pt p1 0), (1, I x6), (2, I x7), (26, pt p1 0)] (by kernel_rfl) fun b => ?_
      obtain ⟨y4, hy4, hr⟩ := bnd hr
      refine L_op rfl (O_call (vs := #[pt p1 0]) Tryz.call35 (by kernel_rfl) (term_Load_ok k x1 x2 x3 x4 x5 p1 p2 y4 ((hst.pull 1).pull 1) hy4 fun a4 c4 w hst => ?_))
      refine CK_ret rfl ?_
      refine L_pure 3 [(0, pt p1 0), (1, I x6), (2, I x7), (28, .agg #[I y4.2.1.Term, I y4.2.1.Vote, I y4.2.1.Base, I y4.2.1.BaseTerm, S y4.2.1.Snap, .slice a4 y4.1.length c4]), (29, I y4.2.2.1)] (by kernel_rfl) fun b => ?_
      refine L_op rfl (O_alloc (i := Tryz.t45) (z := .agg #[I 0, I 0, I 0, I 0, S ([]), .slice none 0 0]) [I 0, I 0, I 0, I 0, S ([]), .slice none 0 0] hst rfl rfl rfl rfl fun p6 w hst => ?_)
      refine L_op rfl (O_store [I y4.2.1.Term, I y4.2.1.Vote, I y4.2.1.Base, I y4.2.1.BaseTerm, S y4.2.1.Snap, .slice a4 y4.1.length c4] hst rfl rfl (by kernel_rfl) fun w hst => ?_)
      refine L_pure 1 [(0, pt p1 0), (1, I x6), (2, I x7), (8, pt p6 0), (9, I y4.2.2.1)] (by kernel_rfl) fun b => ?_
      refine wpL_nil ?_
      refine th_n ?_
      refine wp_seq ?_
      refine wp_seq ?_
      refine wp_reg ?_
      refine L_pure 2 [(0, pt p1 0), (1, I x6), (2, I x7), (8, pt p6 0), (9, I y4.2.2.1), (31, .bool (y4.2.2.1 != 0))] (by kernel_rfl) fun b => ?_
      refine wpL_nil ?_
      refine th_n ?_
      refine wp_cond_mkF (t := (y4.2.2.1 != 0)) rfl (fun h => ?_) (fun h => ?_)
      · have hr := (if_pos h).symm.trans hr
        refine wp_seq ?_
        refine wp_reg ?_
        refine L_pure 3 [(6, .pointer none), (7, I y4.2.2.1)] (by kernel_rfl) fun b => ?_
        refine wpL_nil ?_
        refine th_n ?_
        refine wp_ret ?_
        refine th_r ?_
        cases hr
      · have hr := (if_neg (by rw [h]; exact Bool.false_ne_true)).symm.trans hr
        refine wp_skip ?_
        refine th_n ?_
        refine wp_seq ?_
        refine wp_reg ?_
        refine L_pure 3 [(8, pt p6 0), (33, I x6), (34, I x7), (35, pt p1 0)] (by kernel_rfl) fun b => ?_
        refine L_op rfl (O_run (v := .agg #[I y4.2.1.Term, I y4.2.1.Vote, I y4.2.1.Base, I y4.2.1.BaseTerm, S y4.2.1.Snap, .slice a4 y4.1.length c4]) (w' := w) (R_load hst rfl rfl) rfl rfl ?_)
        refine L_pure 1 [(8, pt p6 0), (33, I x6), (34, I x7), (35, pt p1 0), (36, .agg #[I y4.2.1.Term, I y4.2.1.Vote, I y4.2.1.Base, I y4.2.1.BaseTerm, S y4.2.1.Snap, .slice a4 y4.1.length c4]), (37, pt p6 2)] (by kernel_rfl) fun b => ?_
        refine L_op rfl (O_run (v := I y4.2.1.Base) (w' := w) (R_load hst rfl rfl) rfl rfl ?_)
        refine L_pure 1 [(33, I x6), (34, I x7), (35, pt p1 0), (36, .agg #[I y4.2.1.Term, I y4.2.1.Vote, I y4.2.1.Base, I y4.2.1.BaseTerm, S y4.2.1.Snap, .slice a4 y4.1.length c4]), (38, I y4.2.1.Base), (39, pt p6 2)] (by kernel_rfl) fun b => ?_
        refine L_op rfl (O_run (v := I y4.2.1.Base) (w' := w) (R_load hst rfl rfl) rfl rfl ?_)
        refine L_pure 1 [(41, .agg #[I x6, I x7, pt p1 0, I y4.2.1.Term, I y4.2.1.Vote, I y4.2.1.Base, I y4.2.1.BaseTerm, S y4.2.1.Snap, .slice a4 y4.1.length c4, I 0, I 0, I y4.2.1.Base, I y4.2.1.Base, I 0, .bool false, .bool false, .bool false, .bool false, .bool false, I 0, I 0, I 0, I 0, I 0, I 0, I 0, I 0, I 0, I 0, .slice none 0 0, I 0])] (by kernel_rfl) fun b => ?_
        refine L_op rfl (O_box [I x6, I x7, pt p1 0, I y4.2.1.Term, I y4.2.1.Vote, I y4.2.1.Base, I y4.2.1.BaseTerm, S y4.2.1.Snap, .slice a4 y4.1.length c4, I 0, I 0, I y4.2.1.Base, I y4.2.1.Base, I 0, .bool false, .bool false, .bool false, .bool false, .bool false, I 0, I 0, I 0, I 0, I 0, I 0, I 0, I 0, I 0, I 0, .slice none 0 0, I 0] hst rfl rfl fun p7 w hst => ?_)
        refine L_pure 2 [(6, pt p7 0), (7, I 0)] (by kernel_rfl) fun b => ?_
        refine wpL_nil ?_
        refine th_n ?_
        refine wp_ret ?_
        refine ret2 rfl rfl rfl ?_
        obtain rfl := Option.some.inj hr
        have hst := osl_nil r_T_raft_Msg 39 hst
        have hst := ((((((hst.pull 5).pull 5).pull 3).pull 3).pull 5).cut 5 1)
        exact hR p7 a4 c4 none 0 _ hst
  · have hr := hy3
    refine wp_reg ?_
    refine L_pure 3 [(0, pt p1 0), (1, I x6), (2, I x7), (12, .bool (decide (x7 < 1)))] (by kernel_rfl) fun b => ?_
    by_cases h : (decide (x7 < 1)) = true
    · have hr := (if_pos h).symm.trans hr
      refine L_keep ((12, .bool (decide (x7 < 1))) :: [(0, pt p1 0), (1, I x6), (2, I x7)]) rfl fun b => ?_
      refine L_bool h ?_
      refine L_pure 12 [(0, pt p1 0), (1, I x6), (2, I x7), (24, .bool true)] (by kernel_rfl) fun b => ?_
      refine wpL_nil ?_
      refine th_n ?_
      obtain rfl := Option.some.inj hr
      have hst := ((hst.pull 1).pull 1)
      exact (kpX [(0, pt p1 0), (1, I x6), (2, I x7), (24, .bool true)] rfl hst)
    · have hr := (if_neg h).symm.trans hr
      refine L_keep ((12, .bool (decide (x7 < 1))) :: [(0, pt p1 0), (1, I x6), (2, I x7)]) rfl fun b => ?_
      refine L_bool (eq_false_of_ne_true h) ?_
      refine L_pure 4 [(0, pt p1 0), (1, I x6), (2, I x7), (16, .bool (decide (x7 > 5)))] (by kernel_rfl) fun b => ?_
      by_cases h : (decide (x7 > 5)) = true
      · have hr := (if_pos h).symm.trans hr
        refine L_keep ((16, .bool (decide (x7 > 5))) :: [(0, pt p1 0), (1, I x6), (2, I x7)]) rfl fun b => ?_
        refine L_bool h ?_
        refine L_pure 8 [(0, pt p1 0), (1, I x6), (2, I x7), (24, .bool true)] (by kernel_rfl) fun b => ?_
        refine wpL_nil ?_
        refine th_n ?_
        obtain rfl := Option.some.inj hr
        have hst := ((hst.pull 1).pull 1)
        exact (kpX [(0, pt p1 0), (1, I x6), (2, I x7), (24, .bool true)] rfl hst)
      · have hr := (if_neg h).symm.trans hr
        refine L_keep ((16, .bool (decide (x7 > 5))) :: [(0, pt p1 0), (1, I x6), (2, I x7)]) rfl fun b => ?_
        refine L_bool (eq_false_of_ne_true h) ?_
        refine L_pure 4 [(0, pt p1 0), (1, I x6), (2, I x7), (20, .bool (decide (x6 < 0)))] (by kernel_rfl) fun b => ?_
        by_cases h : (decide (x6 < 0)) = true
        · have hr := (if_pos h).symm.trans hr
          refine L_keep ((20, .bool (decide (x6 < 0))) :: [(0, pt p1 0), (1, I x6), (2, I x7)]) rfl fun b => ?_
          refine L_bool h ?_
          refine L_pure 4 [(0, pt p1 0), (1, I x6), (2, I x7), (24, .bool true)] (by kernel_rfl) fun b => ?_
          refine wpL_nil ?_
          refine th_n ?_
          obtain rfl := Option.some.inj hr
          have hst := ((hst.pull 1).pull 1)
          exact (kpX [(0, pt p1 0), (1, I x6), (2, I x7), (24, .bool true)] rfl hst)
        · have hr := (if_neg h).symm.trans hr
          refine L_keep ((20, .bool (decide (x6 < 0))) :: [(0, pt p1 0), (1, I x6), (2, I x7)]) rfl fun b => ?_
          refine L_bool (eq_false_of_ne_true h) ?_
          refine L_pure 4 [(0, pt p1 0), (1, I x6), (2, I x7), (24, .bool (decide (x6 ≥ x7)))] (by kernel_rfl) fun b => ?_
          refine wpL_nil ?_
          refine th_n ?_
          obtain rfl := Option.some.inj hr
          have hst := ((hst.pull 1).pull 1)
          exact (kpX [(0, pt p1 0), (1, I x6), (2, I x7), (24, .bool (decide (x6 ≥ x7)))] rfl hst)
def term_State_TermAt (_k : Nat) (x1 : T_raft_Node) (_x2 : Int) (_x3 : Int) (_x4 : Bool) (_x5 : Int) (_x6 : (List ((List UInt8) × (Option T_platter_file)))) (x7 : Int) : Option (Int × Bool) := (if (x7 == x1.st.Base) = true then some (x1.st.BaseTerm, true) else (Option.bind (if decide (x7 < x1.st.Base) = true then some (true) else some (decide (x7 > (IntKind.i64.wrap (x1.st.Base + (x1.st.Log.length : Int)))))) fun y2 => (if y2 = true then some ((0 : Int), false) else (Option.bind (gt x1.st.Log (IntKind.i64.wrap ((IntKind.i64.wrap (x7 - x1.st.Base)) - 1))) fun x9 => some (x9.Term, true)))))
set_option maxRecDepth 100000 in
set_option maxHeartbeats 4000000 in
theorem term_State_TermAt_ok {G w : World} {F : List HP} {R : Ending → World → Prop} (k : Nat) (x1 : T_raft_Node) (x2 : Int) (x3 : Int) (x4 : Bool) (x5 : Int) (x6 : (List ((List UInt8) × (Option T_platter_file)))) (x7 : Int) (p1 : Nat) (p2 : Nat) (p3 : Nat) (a1 : Option Addr) (c1 : Nat) (a2 : Option Addr) (c2 : Nat) (r : (Int × Bool)) (hst : St G w (blk p1 (cl [I x1.id, I x1.n, pt p2 0, I x1.st.Term, I x1.st.Vote, I x1.st.Base, I x1.st.BaseTerm, S x1.st.Snap, .slice a1 x1.st.Log.length c1, I x1.role, I x1.leader, I x1.commit, I x1.applied, I x1.timer, .bool (x1.votes 0), .bool (x1.votes 1), .bool (x1.votes 2), .bool (x1.votes 3), .bool (x1.votes 4), I (x1.next 0), I (x1.next 1), I (x1.next 2), I (x1.next 3), I (x1.next 4), I (x1.match_ 0), I (x1.match_ 1), I (x1.match_ 2), I (x1.match_ 3), I (x1.match_ 4), .slice a2 x1.out.length c2, I x1.broken] 66) :: blk p2 (cl [I x2, I x3, .bool x4, I x5, .map (some p3)] 79) :: mpr S (rPt r_T_platter_file) p3 x6 :: osl r_T_term_Entry 48 a1 c1 x1.st.Log :: osl r_T_raft_Msg 39 a2 c2 x1.out :: F)) (hr : term_State_TermAt k x1 x2 x3 x4 x5 x6 x7 = some r)
    (hR : ∀ w', St G w' (blk p1 (cl [I x1.id, I x1.n, pt p2 0, I x1.st.Term, I x1.st.Vote, I x1.st.Base, I x1.st.BaseTerm, S x1.st.Snap, .slice a1 x1.st.Log.length c1, I x1.role, I x1.leader, I x1.commit, I x1.applied, I x1.timer, .bool (x1.votes 0), .bool (x1.votes 1), .bool (x1.votes 2), .bool (x1.votes 3), .bool (x1.votes 4), I (x1.next 0), I (x1.next 1), I (x1.next 2), I (x1.next 3), I (x1.next 4), I (x1.match_ 0), I (x1.match_ 1), I (x1.match_ 2), I (x1.match_ 3), I (x1.match_ 4), .slice a2 x1.out.length c2, I x1.broken] 66) :: blk p2 (cl [I x2, I x3, .bool x4, I x5, .map (some p3)] 79) :: mpr S (rPt r_T_platter_file) p3 x6 :: osl r_T_term_Entry 48 a1 c1 x1.st.Log :: osl r_T_raft_Msg 39 a2 c2 x1.out :: F) → R (.returned (.tuple #[I r.1, .bool r.2])) w') :
    Calls Tryz.prog 46 #[pt p1 3, I x7] w R := by
  unfold term_State_TermAt at hr
  refine enter Tryz.func46 rfl [(0, pt p1 3), (1, I x7)] rfl rfl fun b => ?_
  refine wp_seq ?_
  refine wp_reg ?_
  refine L_pure 2 [(0, pt p1 3), (1, I x7)] (by kernel_rfl) fun b => ?_
  refine wpL_nil ?_
  refine th_n ?_
  refine wp_seq ?_
  refine wp_seq ?_
  refine wp_reg ?_
  refine L_pure 4 [(0, pt p1 3), (1, I x7), (6, I x7), (9, pt p1 5)] (by kernel_rfl) fun b => ?_
  refine L_op rfl (O_run (v := I x1.st.Base) (w' := w) (R_load hst rfl rfl) rfl rfl ?_)
  refine L_pure 1 [(0, pt p1 3), (1, I x7), (11, .bool (x7 == x1.st.Base))] (by kernel_rfl) fun b => ?_
  refine wpL_nil ?_
  refine th_n ?_
  refine wp_cond_mkF (t := (x7 == x1.st.Base)) rfl (fun h => ?_) (fun h => ?_)
  · have hr := (if_pos h).symm.trans hr
    refine wp_seq ?_
    refine wp_reg ?_
    refine L_pure 3 [(14, pt p1 6)] (by kernel_rfl) fun b => ?_
    refine L_op rfl (O_run (v := I x1.st.BaseTerm) (w' := w) (R_load hst rfl rfl) rfl rfl ?_)
    refine L_pure 2 [(4, I x1.st.BaseTerm), (5, .bool true)] (by kernel_rfl) fun b => ?_
    refine wpL_nil ?_
    refine th_n ?_
    refine wp_ret ?_
    refine th_r ?_
    refine ret2 rfl rfl rfl ?_
    obtain rfl := Option.some.inj hr
    have hst := (((((hst.pull 4).pull 4).pull 4).pull 4).pull 4)
    exact hR _ hst
  · have hr := (if_neg (by rw [h]; exact Bool.false_ne_true)).symm.trans hr
    refine wp_skip ?_
    refine th_n ?_
    refine wp_seq ?_
    obtain ⟨y2, hy2, hk2⟩ := bnd hr
    clear hr
    refine wp_seq_cut (fun a w => ∃ (b : Nat → Value), a = mkF 50 b [(0, pt p1 3), (1, I x7), (35, .bool y2)] ∧ St G w (blk p1 (cl [I x1.id, I x1.n, pt p2 0, I x1.st.Term, I x1.st.Vote, I x1.st.Base, I x1.st.BaseTerm, S x1.st.Snap, .slice a1 x1.st.Log.length c1, I x1.role, I x1.leader, I x1.commit, I x1.applied, I x1.timer, .bool (x1.votes 0), .bool (x1.votes 1), .bool (x1.votes 2), .bool (x1.votes 3), .bool (x1.votes 4), I (x1.next 0), I (x1.next 1), I (x1.next 2), I (x1.next 3), I (x1.next 4), I (x1.match_ 0), I (x1.match_ 1), I (x1.match_ 2), I (x1.match_ 3), I (x1.match_ 4), .slice a2 x1.out.length c2, I x1.broken] 66) :: blk p2 (cl [I x2, I x3, .bool x4, I x5, .map (some p3)] 79) :: mpr S (rPt r_T_platter_file) p3 x6 :: osl r_T_term_Entry 48 a1 c1 x1.st.Log :: osl r_T_raft_Msg 39 a2 c2 x1.out :: F)) ?_ ?_
    · rintro _ w ⟨b, rfl, hst⟩
      have hr := hk2
      refine wp_cond_mkF (t := y2) rfl (fun h => ?_) (fun h => ?_)
      · have hr := (if_pos h).symm.trans hr
        refine wp_seq ?_
        refine wp_reg ?_
        refine L_pure 2 [(4, I 0), (5, .bool false)] (by kernel_rfl) fun b => ?_
        refine wpL_nil ?_
        refine th_n ?_
        refine wp_ret ?_
        refine th_r ?_
        refine ret2 rfl rfl rfl ?_
        obtain rfl := Option.some.inj hr
        have hst := (((((hst.pull 4).pull 4).pull 4).pull 4).pull 4)
        exact hR _ hst
      · have hr := (if_neg (by rw [h]; exact Bool.false_ne_true)).symm.trans hr
        refine wp_skip ?_
        refine th_n ?_
        refine wp_seq ?_
        refine wp_regG (SN { w with drawn := w.drawn + 1 }) rfl ?_
        have hst := hst.draw (n := w.drawn + 1)
        generalize { w with drawn := w.drawn + 1 } = w at hst ⊢
        refine C_take (i := 0) (v := pt p1 3) rfl (by kernel_rfl) (fun _ _ _ h => h) rfl rfl rfl (R_pure (by kernel_rfl)) ?_
        refine C_take (i := 1) (v := pt p1 3) rfl (by kernel_rfl) (fun _ _ _ h => h) rfl rfl rfl (R_pure (by kernel_rfl)) ?_
        refine C_take (i := 2) (v := pt p1 8) rfl (by kernel_rfl) (fun _ _ _ h => h) rfl rfl rfl (R_pure (by kernel_rfl)) ?_
        refine C_take (i := 3) (v := .slice a1 x1.st.Log.length c1) rfl (by kernel_rfl) (fun _ _ _ h => h) rfl rfl rfl (R_load hst rfl rfl) ?_
        refine C_take (i := 4) (v := I x7) rfl (by kernel_rfl) (fun _ _ _ h => h) rfl rfl rfl (R_pure (by kernel_rfl)) ?_
        refine C_take (i := 5) (v := pt p1 3) rfl (by kernel_rfl) (fun _ _ _ h => h) rfl rfl rfl (R_pure (by kernel_rfl)) ?_
        refine C_take (i := 6) (v := pt p1 3) rfl (by kernel_rfl) (fun _ _ _ h => h) rfl rfl rfl (R_pure (by kernel_rfl)) ?_
        refine C_take (i := 7) (v := pt p1 5) rfl (by kernel_rfl) (fun _ _ _ h => h) rfl rfl rfl (R_pure (by kernel_rfl)) ?_
        refine C_take (i := 8) (v := I x1.st.Base) rfl (by kernel_rfl) (fun _ _ _ h => h) rfl rfl rfl (R_load hst rfl rfl) ?_
        refine C_take (i := 9) (v := I (IntKind.i64.wrap (x7 - x1.st.Base))) rfl (by kernel_rfl) (fun _ _ _ h => h) rfl rfl rfl (R_pure (by kernel_rfl)) ?_
        refine C_take (i := 10) (v := I (IntKind.i64.wrap ((IntKind.i64.wrap (x7 - x1.st.Base)) - 1))) rfl (by kernel_rfl) (fun _ _ _ h => h) rfl rfl rfl (R_pure (by kernel_rfl)) ?_
        obtain ⟨x9, hx2, hr⟩ := bnd hr
        refine C_take (i := 11) (v := pt (ab a1) (ao a1 + (IntKind.i64.wrap ((IntKind.i64.wrap (x7 - x1.st.Base)) - 1)).toNat * 3)) rfl (by kernel_rfl) (fun _ _ _ h => h) rfl rfl rfl (R_ia L37 rfl rfl (osl_addr (hst.pull 3) hx2) (gt_some hx2).1 (gt_some hx2).2.1) ?_
        refine C_take (i := 12) (v := pt (ab a1) (ao a1 + (IntKind.i64.wrap ((IntKind.i64.wrap (x7 - x1.st.Base)) - 1)).toNat * 3 + 1)) rfl (by kernel_rfl) (fun _ _ _ h => h) rfl rfl rfl (R_pure (by kernel_rfl)) ?_
        obtain ⟨q2, hc2, hst⟩ := osl_cells (hst.pull 3) hx2
        have hst := hst.drop
        refine C_take (i := 13) (v := I x9.Term) rfl (by kernel_rfl) (fun _ _ _ h => h) rfl rfl rfl (R_loadAt (off := ao a1 + (IntKind.i64.wrap ((IntKind.i64.wrap (x7 - x1.st.Base)) - 1)).toNat * 3) (j := 1) hc2 rfl rfl) ?_
        refine C_take (i := 14) (v := I x9.Term) rfl (by kernel_rfl) (fun _ _ _ h => h) rfl rfl rfl (R_pure (by kernel_rfl)) ?_
        refine C_take (i := 15) (v := .bool true) rfl (by kernel_rfl) (fun _ _ _ h => h) rfl rfl rfl (R_pure (by kernel_rfl)) ?_
        refine wpG_done (by kernel_rfl) ?_ _
        refine C_keepQ [(4, I x9.Term), (5, .bool true)] rfl fun b => ?_
        refine th_n ?_
        refine wp_ret ?_
        refine ret2 rfl rfl rfl ?_
        obtain rfl := Option.some.inj hr
        have hst := (((((hst.pull 4).pull 1).pull 4).pull 4).pull 4)
        exact hR _ hst
    · have hr := hy2
      refine wp_regG (SN { w with drawn := w.drawn + 1 }) rfl ?_
      have hst := hst.draw (n := w.drawn + 1)
      generalize { w with drawn := w.drawn + 1 } = w at hst ⊢
      refine C_take (i := 0) (v := I x7) rfl (by kernel_rfl) (fun _ _ _ h => h) rfl rfl rfl (R_pure (by kernel_rfl)) ?_
      refine C_take (i := 1) (v := pt p1 3) rfl (by kernel_rfl) (fun _ _ _ h => h) rfl rfl rfl (R_pure (by kernel_rfl)) ?_
      refine C_take (i := 2) (v := pt p1 3) rfl (by kernel_rfl) (fun _ _ _ h => h) rfl rfl rfl (R_pure (by kernel_rfl)) ?_
      refine C_take (i := 3) (v := pt p1 5) rfl (by kernel_rfl) (fun _ _ _ h => h) rfl rfl rfl (R_pure (by kernel_rfl)) ?_
      refine C_take (i := 4) (v := I x1.st.Base) rfl (by kernel_rfl) (fun _ _ _ h => h) rfl rfl rfl (R_load hst rfl rfl) ?_
      refine C_take (i := 5) (v := .bool (decide (x7 < x1.st.Base))) rfl (by kernel_rfl) (fun _ _ _ h => h) rfl rfl rfl (R_pure (by kernel_rfl)) ?_
      refine C_take (i := 6) (v := .bool (decide (x7 < x1.st.Base))) rfl (by kernel_rfl) (fun _ _ _ h => h) rfl rfl rfl (R_pure (by kernel_rfl)) ?_
      by_cases h : (decide (x7 < x1.st.Base)) = true
      · have hr := (if_pos h).symm.trans hr
        refine C_keep ((22, .bool (decide (x7 < x1.st.Base))) :: [(0, pt p1 3), (1, I x7), (11, .bool (x7 == x1.st.Base)), (16, I x7), (17, pt p1 3), (18, pt p1 3), (19, pt p1 5), (20, I x1.st.Base), (21, .bool (decide (x7 < x1.st.Base)))]) rfl fun b => ?_
        refine C_bool h ?_
        refine C_skip (i := 7) rfl (by kernel_rfl) (fun _ _ _ h => h) rfl rfl rfl ?_
        refine C_skip (i := 8) rfl (by kernel_rfl) (fun _ _ _ h => h) rfl rfl rfl ?_
        refine C_skip (i := 9) rfl (by kernel_rfl) (fun _ _ _ h => h) rfl rfl rfl ?_
        refine C_skip (i := 10) rfl (by kernel_rfl) (fun _ _ _ h => h) rfl rfl rfl ?_
        refine C_skip (i := 11) rfl (by kernel_rfl) (fun _ _ _ h => h) rfl rfl rfl ?_
        refine C_skip (i := 12) rfl (by kernel_rfl) (fun _ _ _ h => h) rfl rfl rfl ?_
        refine C_skip (i := 13) rfl (by kernel_rfl) (fun _ _ _ h => h) rfl rfl rfl ?_
        refine C_skip (i := 14) rfl (by kernel_rfl) (fun _ _ _ h => h) rfl rfl rfl ?_
        refine C_skip (i := 15) rfl (by kernel_rfl) (fun _ _ _ h => h) rfl rfl rfl ?_
        refine C_skip (i := 16) rfl (by kernel_rfl) (fun _ _ _ h => h) rfl rfl rfl ?_
        refine C_skip (i := 17) rfl (by kernel_rfl) (fun _ _ _ h => h) rfl rfl rfl ?_
        refine C_skip (i := 18) rfl (by kernel_rfl) (fun _ _ _ h => h) rfl rfl rfl ?_
        refine C_take (i := 19) (v := .bool true) rfl (by kernel_rfl) (fun _ _ _ h => h) rfl rfl rfl (R_pure (by kernel_rfl)) ?_
        refine wpG_done (by kernel_rfl) ?_ _
        refine C_keepQ [(0, pt p1 3), (1, I x7), (35, .bool true)] rfl fun b => ?_
        refine th_n ?_
        obtain rfl := Option.some.inj hr
        have hst := (((((hst.pull 4).pull 4).pull 4).pull 4).pull 4)
        exact (kpX [(0, pt p1 3), (1, I x7), (35, .bool true)] rfl hst)
      · have hr := (if_neg h).symm.trans hr
        refine C_keep ((22, .bool (decide (x7 < x1.st.Base))) :: [(0, pt p1 3), (1, I x7), (11, .bool (x7 == x1.st.Base)), (16, I x7), (17, pt p1 3), (18, pt p1 3), (19, pt p1 5), (20, I x1.st.Base), (21, .bool (decide (x7 < x1.st.Base)))]) rfl fun b => ?_
        refine C_bool (eq_false_of_ne_true h) ?_
        refine C_take (i := 7) (v := I x7) rfl (by kernel_rfl) (fun _ _ _ h => h) rfl rfl rfl (R_pure (by kernel_rfl)) ?_
        refine C_take (i := 8) (v := pt p1 3) rfl (by kernel_rfl) (fun _ _ _ h => h) rfl rfl rfl (R_pure (by kernel_rfl)) ?_
        refine C_take (i := 9) (v := pt p1 3) rfl (by kernel_rfl) (fun _ _ _ h => h) rfl rfl rfl (R_pure (by kernel_rfl)) ?_
        refine C_take (i := 10) (v := pt p1 5) rfl (by kernel_rfl) (fun _ _ _ h => h) rfl rfl rfl (R_pure (by kernel_rfl)) ?_
        refine C_take (i := 11) (v := I x1.st.Base) rfl (by kernel_rfl) (fun _ _ _ h => h) rfl rfl rfl (R_load hst rfl rfl) ?_
        refine C_take (i := 12) (v := pt p1 3) rfl (by kernel_rfl) (fun _ _ _ h => h) rfl rfl rfl (R_pure (by kernel_rfl)) ?_
        refine C_take (i := 13) (v := pt p1 3) rfl (by kernel_rfl) (fun _ _ _ h => h) rfl rfl rfl (R_pure (by kernel_rfl)) ?_
        refine C_take (i := 14) (v := pt p1 8) rfl (by kernel_rfl) (fun _ _ _ h => h) rfl rfl rfl (R_pure (by kernel_rfl)) ?_
        refine C_take (i := 15) (v := .slice a1 x1.st.Log.length c1) rfl (by kernel_rfl) (fun _ _ _ h => h) rfl rfl rfl (R_load hst rfl rfl) ?_
        refine C_take (i := 16) (v := I (x1.st.Log.length : Int)) rfl (by kernel_rfl) (fun _ _ _ h => h) rfl rfl rfl (R_pure (by kernel_rfl)) ?_
        refine C_take (i := 17) (v := I (IntKind.i64.wrap (x1.st.Base + (x1.st.Log.length : Int)))) rfl (by kernel_rfl) (fun _ _ _ h => h) rfl rfl rfl (R_pure (by kernel_rfl)) ?_
        refine C_take (i := 18) (v := .bool (decide (x7 > (IntKind.i64.wrap (x1.st.Base + (x1.st.Log.length : Int)))))) rfl (by kernel_rfl) (fun _ _ _ h => h) rfl rfl rfl (R_pure (by kernel_rfl)) ?_
        refine C_take (i := 19) (v := .bool (decide (x7 > (IntKind.i64.wrap (x1.st.Base + (x1.st.Log.length : Int)))))) rfl (by kernel_rfl) (fun _ _ _ h => h) rfl rfl rfl (R_pure (by kernel_rfl)) ?_
        refine wpG_done (by kernel_rfl) ?_ _
        refine C_keepQ [(0, pt p1 3), (1, I x7), (35, .bool (decide (x7 > (IntKind.i64.wrap (x1.st.Base + (x1.st.Log.length : Int))))))] rfl fun b => ?_
        refine th_n ?_
        obtain rfl := Option.some.inj hr
        have hst := (((((hst.pull 4).pull 4).pull 4).pull 4).pull 4)
        exact (kpX [(0, pt p1 3), (1, I x7), (35, .bool (decide (x7 > (IntKind.i64.wrap (x1.st.Base + (x1.st.Log.length : Int))))))] rfl hst)
def raft_Node_send (_k : Nat) (x1 : T_raft_Node) (_x2 : Int) (_x3 : Int) (_x4 : Bool) (_x5 : Int) (_x6 : (List ((List UInt8) × (Option T_platter_file)))) (x7 : T_raft_Msg) : Option (T_raft_Node) := (Option.bind (some ()) fun _ => (if room (x1.out.length + ([(T_raft_Msg.mk x7.Kind x1.id x7.To x1.st.Term x7.Index x7.LogTerm x7.Commit x7.OK x7.Entries x7.Snap)]).length) 104 = true then some ((T_raft_Node.mk x1.id x1.n x1.st x1.role x1.leader x1.commit x1.applied x1.timer x1.votes x1.next x1.match_ (x1.out ++ ([(T_raft_Msg.mk x7.Kind x1.id x7.To x1.st.Term x7.Index x7.LogTerm x7.Commit x7.OK x7.Entries x7.Snap)])) x1.broken)) else none))
set_option maxRecDepth 100000 in
set_option maxHeartbeats 4000000 in
theorem raft_Node_send_ok {G w : World} {F : List HP} {R : Ending → World → Prop} (k : Nat) (x1 : T_raft_Node) (x2 : Int) (x3 : Int) (x4 : Bool) (x5 : Int) (x6 : (List ((List UInt8) × (Option T_platter_file)))) (x7 : T_raft_Msg) (p1 : Nat) (p2 : Nat) (p3 : Nat) (a1 : Option Addr) (c1 : Nat) (a2 : Option Addr) (c2 : Nat) (a3 : Option Addr) (c3 : Nat) (r : (T_raft_Node)) (hst : St G w (blk p1 (cl [I x1.id, I x1.n, pt p2 0, I x1.st.Term, I x1.st.Vote, I x1.st.Base, I x1.st.BaseTerm, S x1.st.Snap, .slice a1 x1.st.Log.length c1, I x1.role, I x1.leader, I x1.commit, I x1.applied, I x1.timer, .bool (x1.votes 0), .bool (x1.votes 1), .bool (x1.votes 2), .bool (x1.votes 3), .bool (x1.votes 4), I (x1.next 0), I (x1.next 1), I (x1.next 2), I (x1.next 3), I (x1.next 4), I (x1.match_ 0), I (x1.match_ 1), I (x1.match_ 2), I (x1.match_ 3), I (x1.match_ 4), .slice a2 x1.out.length c2, I x1.broken] 66) :: blk p2 (cl [I x2, I x3, .bool x4, I x5, .map (some p3)] 79) :: mpr S (rPt r_T_platter_file) p3 x6 :: osl r_T_term_Entry 48 a1 c1 x1.st.Log :: osl r_T_raft_Msg 39 a2 c2 x1.out :: dsl r_T_term_Entry a3 c3 x7.Entries :: F)) (hr : raft_Node_send k x1 x2 x3 x4 x5 x6 x7 = some r)
    (hR : ∀ (a5 : Option Addr) (c5 : Nat) (a6 : Option Addr) (c6 : Nat) w', St G w' (osl r_T_term_Entry 48 a5 c5 r.st.Log :: osl r_T_raft_Msg 39 a6 c6 r.out :: blk p1 (cl [I r.id, I r.n, pt p2 0, I r.st.Term, I r.st.Vote, I r.st.Base, I r.st.BaseTerm, S r.st.Snap, .slice a5 r.st.Log.length c5, I r.role, I r.leader, I r.commit, I r.applied, I r.timer, .bool (r.votes 0), .bool (r.votes 1), .bool (r.votes 2), .bool (r.votes 3), .bool (r.votes 4), I (r.next 0), I (r.next 1), I (r.next 2), I (r.next 3), I (r.next 4), I (r.match_ 0), I (r.match_ 1), I (r.match_ 2), I (r.match_ 3), I (r.match_ 4), .slice a6 r.out.length c6, I r.broken] 66) :: blk p2 (cl [I x2, I x3, .bool x4, I x5, .map (some p3)] 79) :: mpr S (rPt r_T_platter_file) p3 x6 :: dsl r_T_term_Entry a3 c3 x7.Entries :: F) → R (.returned (.tuple #[])) w') :
    Calls Tryz.prog 28 #[pt p1 0, .agg #[I x7.Kind, I x7.From, I x7.To, I x7.Term, I x7.Index, I x7.LogTerm, I x7.Commit, .bool x7.OK, .slice a3 x7.Entries.length c3, S x7.Snap]] w R := by
  unfold raft_Node_send at hr
  refine enter Tryz.func28 rfl [(0, pt p1 0), (1, .agg #[I x7.Kind, I x7.From, I x7.To, I x7.Term, I x7.Index, I x7.LogTerm, I x7.Commit, .bool x7.OK, .slice a3 x7.Entries.length c3, S x7.Snap])] rfl rfl fun b => ?_
  refine wp_seq ?_
  refine wp_reg ?_
  refine L_op rfl (O_box [I x7.Kind, I x7.From, I x7.To, I x7.Term, I x7.Index, I x7.LogTerm, I x7.Commit, .bool x7.OK, .slice a3 x7.Entries.length c3, S x7.Snap] hst rfl rfl fun p6 w hst => ?_)
  refine wpL_nil ?_
  refine th_n ?_
  obtain ⟨y2, hy2, hk2⟩ := bnd hr
  clear hr
  refine wp_seq_cut (fun a w => ∃ (b : Nat → Value), a = mkF 25 b [(0, pt p1 0), (3, pt p6 0)] ∧ St G w (blk p6 (cl [I x7.Kind, I x1.id, I x7.To, I x1.st.Term, I x7.Index, I x7.LogTerm, I x7.Commit, .bool x7.OK, .slice a3 x7.Entries.length c3, S x7.Snap] 39) :: blk p1 (cl [I x1.id, I x1.n, pt p2 0, I x1.st.Term, I x1.st.Vote, I x1.st.Base, I x1.st.BaseTerm, S x1.st.Snap, .slice a1 x1.st.Log.length c1, I x1.role, I x1.leader, I x1.commit, I x1.applied, I x1.timer, .bool (x1.votes 0), .bool (x1.votes 1), .bool (x1.votes 2), .bool (x1.votes 3), .bool (x1.votes 4), I (x1.next 0), I (x1.next 1), I (x1.next 2), I (x1.next 3), I (x1.next 4), I (x1.match_ 0), I (x1.match_ 1), I (x1.match_ 2), I (x1.match_ 3), I (x1.match_ 4), .slice a2 x1.out.length c2, I x1.broken] 66) :: blk p2 (cl [I x2, I x3, .bool x4, I x5, .map (some p3)] 79) :: mpr S (rPt r_T_platter_file) p3 x6 :: osl r_T_term_Entry 48 a1 c1 x1.st.Log :: osl r_T_raft_Msg 39 a2 c2 x1.out :: dsl r_T_term_Entry a3 c3 x7.Entries :: F)) ?_ ?_
  · rintro _ w ⟨b, rfl, hst⟩
    have hr := hk2
    refine wp_regG (SP 7 (fun w => St G w (blk p6 (cl [I x7.Kind, I x1.id, I x7.To, I x1.st.Term, I x7.Index, I x7.LogTerm, I x7.Commit, .bool x7.OK, .slice a3 x7.Entries.length c3, S x7.Snap] 39) :: blk p1 (cl [I x1.id, I x1.n, pt p2 0, I x1.st.Term, I x1.st.Vote, I x1.st.Base, I x1.st.BaseTerm, S x1.st.Snap, .slice a1 x1.st.Log.length c1, I x1.role, I x1.leader, I x1.commit, I x1.applied, I x1.timer, .bool (x1.votes 0), .bool (x1.votes 1), .bool (x1.votes 2), .bool (x1.votes 3), .bool (x1.votes 4), I (x1.next 0), I (x1.next 1), I (x1.next 2), I (x1.next 3), I (x1.next 4), I (x1.match_ 0), I (x1.match_ 1), I (x1.match_ 2), I (x1.match_ 3), I (x1.match_ 4), .slice a2 x1.out.length c2, I x1.broken] 66) :: blk p2 (cl [I x2, I x3, .bool x4, I x5, .map (some p3)] 79) :: mpr S (rPt r_T_platter_file) p3 x6 :: osl r_T_term_Entry 48 a1 c1 x1.st.Log :: osl r_T_raft_Msg 39 a2 c2 x1.out :: dsl r_T_term_Entry a3 c3 x7.Entries :: F))) rfl ?_
    have hst := hst.draw (n := w.drawn + 1)
    generalize { w with drawn := w.drawn + 1 } = w at hst ⊢
    refine P_pure (i := 0) (v := pt p1 0) 7 rfl rfl (by kernel_rfl) (fun _ _ _ h => h) rfl rfl rfl (by kernel_rfl) (.inr (((((((hst.pull 6).pull 6).pull 6).pull 6).pull 6).pull 6).pull 6)) ?_
    refine P_pure (i := 1) (v := pt p1 0) 7 rfl rfl (by kernel_rfl) (fun _ _ _ h => h) rfl rfl rfl (by kernel_rfl) (.inr (((((((hst.pull 6).pull 6).pull 6).pull 6).pull 6).pull 6).pull 6)) ?_
    refine P_pure (i := 2) (v := pt p1 0) 7 rfl rfl (by kernel_rfl) (fun _ _ _ h => h) rfl rfl rfl (by kernel_rfl) (.inr (((((((hst.pull 6).pull 6).pull 6).pull 6).pull 6).pull 6).pull 6)) ?_
    refine P_pure (i := 3) (v := pt p1 29) 7 rfl rfl (by kernel_rfl) (fun _ _ _ h => h) rfl rfl rfl (by kernel_rfl) (.inr (((((((hst.pull 6).pull 6).pull 6).pull 6).pull 6).pull 6).pull 6)) ?_
    refine P_take (i := 4) (v := .slice a2 x1.out.length c2) 7 [4] (by kernel_rfl) rfl (by kernel_rfl) (fun _ _ _ h => h) rfl rfl rfl (fun w hst => R_load (hst.pull 1) rfl rfl) ((((((((hst.pull 6).pull 6).pull 6).pull 6).pull 6).pull 6).pull 6)) ?_
    refine P_take (i := 5) (v := .agg #[I x7.Kind, I x1.id, I x7.To, I x1.st.Term, I x7.Index, I x7.LogTerm, I x7.Commit, .bool x7.OK, .slice a3 x7.Entries.length c3, S x7.Snap]) 7 [6, 5] (by kernel_rfl) rfl (by kernel_rfl) (fun _ _ _ h => h) rfl rfl rfl (fun w hst => R_load hst rfl rfl) ((((((((hst.pull 6).pull 6).pull 6).pull 6).pull 6).pull 6).pull 6)) ?_
    refine P_one (i := 6) 7 (by kernel_rfl) rfl rfl (O_bs (T := 39) [I x7.Kind, I x1.id, I x7.To, I x1.st.Term, I x7.Index, I x7.LogTerm, I x7.Commit, .bool x7.OK, .slice a3 x7.Entries.length c3, S x7.Snap] #[(0, .agg #[I x7.Kind, I x1.id, I x7.To, I x1.st.Term, I x7.Index, I x7.LogTerm, I x7.Commit, .bool x7.OK, .slice a3 x7.Entries.length c3, S x7.Snap])] hst (by kernel_rfl) (by kernel_rfl) rfl fun p7 w hst => ?_)
    have hst := (hst.pull 7).dup
    have hst := ((hst.pull 2).pull 1)
    have hst := osl_of_blk (ecs := [[I x7.Kind, I x1.id, I x7.To, I x1.st.Term, I x7.Index, I x7.LogTerm, I x7.Commit, .bool x7.OK, .slice a3 x7.Entries.length c3, S x7.Snap]]) r_T_raft_Msg [(T_raft_Msg.mk x7.Kind x1.id x7.To x1.st.Term x7.Index x7.LogTerm x7.Commit x7.OK x7.Entries x7.Snap)] rfl (fun m h => ⟨⟨((a3, c3)), rfl, h⟩, trivial⟩) rfl hst
    refine ⟨((((((((hst.pull 1).pull 7).pull 7).pull 7).pull 7).pull 7).pull 7).cut 7 1), ?_⟩
    obtain ⟨hb2, hr⟩ := chk hr
    refine P_act (i := 7) 7 (by kernel_rfl) rfl rfl (by kernel_rfl) (O_app_o L42 (hst.pull 7) rfl rfl hb2 rfl fun a7 c7 w hst => ?_)
    refine P_pure (i := 8) (v := pt p1 0) 7 rfl rfl (by kernel_rfl) (fun _ _ _ h => h) rfl rfl rfl (by kernel_rfl) (.inl (by kernel_rfl)) ?_
    refine P_pure (i := 9) (v := pt p1 29) 7 rfl rfl (by kernel_rfl) (fun _ _ _ h => h) rfl rfl rfl (by kernel_rfl) (.inl (by kernel_rfl)) ?_
    refine P_act (i := 10) 7 (by kernel_rfl) rfl rfl (by kernel_rfl) (O_store [I x1.id, I x1.n, pt p2 0, I x1.st.Term, I x1.st.Vote, I x1.st.Base, I x1.st.BaseTerm, S x1.st.Snap, .slice a1 x1.st.Log.length c1, I x1.role, I x1.leader, I x1.commit, I x1.applied, I x1.timer, .bool (x1.votes 0), .bool (x1.votes 1), .bool (x1.votes 2), .bool (x1.votes 3), .bool (x1.votes 4), I (x1.next 0), I (x1.next 1), I (x1.next 2), I (x1.next 3), I (x1.next 4), I (x1.match_ 0), I (x1.match_ 1), I (x1.match_ 2), I (x1.match_ 3), I (x1.match_ 4), .slice a7 (x1.out ++ ([(T_raft_Msg.mk x7.Kind x1.id x7.To x1.st.Term x7.Index x7.LogTerm x7.Commit x7.OK x7.Entries x7.Snap)])).length c7, I x1.broken] (hst.pull 4) rfl rfl (by kernel_rfl) fun w hst => ?_)
    refine wpG_done (by kernel_rfl) ?_ _
    refine C_keepQ [] rfl fun b => ?_
    refine bp_normal ?_
    refine ret0 rfl ?_
    obtain rfl := Option.some.inj hr
    have hst := (((((((hst.pull 3).pull 6).pull 6).pull 3).pull 4).pull 7).cut 6 2)
    exact hR a1 c1 a7 c7 _ hst
  · have hr := hy2
    refine wp_regG SA rfl ?_
    have hst := hst.draw (n := w.drawn + 1)
    generalize { w with drawn := w.drawn + 1 } = w at hst ⊢
    refine A_take (i := 0) (v := pt p1 0) rfl (by kernel_rfl) (fun _ _ _ h => h) rfl rfl rfl (fun _ => R_pure (by kernel_rfl)) ?_
    refine A_take (i := 1) (v := pt p1 0) rfl (by kernel_rfl) (fun _ _ _ h => h) rfl rfl rfl (fun _ => R_pure (by kernel_rfl)) ?_
    refine A_take (i := 2) (v := pt p1 0) rfl (by kernel_rfl) (fun _ _ _ h => h) rfl rfl rfl (fun _ => R_pure (by kernel_rfl)) ?_
    refine A_take (i := 4) (v := pt p1 0) rfl (by kernel_rfl) (fun _ _ _ h => h) rfl rfl rfl (fun _ => R_pure (by kernel_rfl)) ?_
    refine A_take (i := 5) (v := pt p1 0) rfl (by kernel_rfl) (fun _ _ _ h => h) rfl rfl rfl (fun _ => R_pure (by kernel_rfl)) ?_
    refine A_take (i := 6) (v := pt p1 3) rfl (by kernel_rfl) (fun _ _ _ h => h) rfl rfl rfl (fun _ => R_pure (by kernel_rfl)) ?_
    refine A_take (i := 7) (v := pt p1 3) rfl (by kernel_rfl) (fun _ _ _ h => h) rfl rfl rfl (fun _ => R_pure (by kernel_rfl)) ?_
    refine A_all [3, 8] (by kernel_rfl) ⟨⟨_, rfl, rfl, ?_⟩, ⟨_, rfl, rfl, ?_⟩, trivial⟩
    · refine O_run (v := I x1.id) (w' := w) (R_load (hst.pull 1) rfl rfl) rfl rfl ?_
      refine A_take (i := 9) (v := pt p6 1) rfl (by kernel_rfl) (fun _ _ _ h => h) rfl rfl rfl (fun _ => R_pure (by kernel_rfl)) ?_
      refine A_all [8, 10] (by kernel_rfl) ⟨⟨_, rfl, rfl, ?_⟩, ⟨_, rfl, rfl, ?_⟩, trivial⟩
      · refine O_run (v := I x1.st.Term) (w' := w) (R_load (hst.pull 1) rfl rfl) rfl rfl ?_
        refine A_all [10] (by kernel_rfl) ⟨⟨_, rfl, rfl, ?_⟩, trivial⟩
        refine O_store [I x7.Kind, I x1.id, I x7.To, I x7.Term, I x7.Index, I x7.LogTerm, I x7.Commit, .bool x7.OK, .slice a3 x7.Entries.length c3, S x7.Snap] hst rfl rfl (by kernel_rfl) fun w hst => ?_
        refine A_take (i := 11) (v := pt p6 3) rfl (by kernel_rfl) (fun _ _ _ h => h) rfl rfl rfl (fun _ => R_pure (by kernel_rfl)) ?_
        refine A_all [12] (by kernel_rfl) ⟨⟨_, rfl, rfl, ?_⟩, trivial⟩
        refine O_store [I x7.Kind, I x1.id, I x7.To, I x1.st.Term, I x7.Index, I x7.LogTerm, I x7.Commit, .bool x7.OK, .slice a3 x7.Entries.length c3, S x7.Snap] hst rfl rfl (by kernel_rfl) fun w hst => ?_
        refine wpG_done (by kernel_rfl) ?_ _
        refine C_keepQ [(0, pt p1 0), (3, pt p6 0)] rfl fun b => ?_
        refine th_n ?_
        obtain rfl := Option.some.inj hr
        have hst := (((((((hst.pull 6).pull 6).pull 6).pull 6).pull 6).pull 6).pull 6)
        exact (kpX [(0, pt p1 0), (3, pt p6 0)] rfl hst)
      · refine O_store [I x7.Kind, I x1.id, I x7.To, I x7.Term, I x7.Index, I x7.LogTerm, I x7.Commit, .bool x7.OK, .slice a3 x7.Entries.length c3, S x7.Snap] hst rfl rfl (by kernel_rfl) fun w hst => ?_
        refine A_all [8] (by kernel_rfl) ⟨⟨_, rfl, rfl, ?_⟩, trivial⟩
        refine O_run (v := I x1.st.Term) (w' := w) (R_load (hst.pull 1) rfl rfl) rfl rfl ?_
        refine A_take (i := 11) (v := pt p6 3) rfl (by kernel_rfl) (fun _ _ _ h => h) rfl rfl rfl (fun _ => R_pure (by kernel_rfl)) ?_
        refine A_all [12] (by kernel_rfl) ⟨⟨_, rfl, rfl, ?_⟩, trivial⟩
        refine O_store [I x7.Kind, I x1.id, I x7.To, I x1.st.Term, I x7.Index, I x7.LogTerm, I x7.Commit, .bool x7.OK, .slice a3 x7.Entries.length c3, S x7.Snap] hst rfl rfl (by kernel_rfl) fun w hst => ?_
        refine wpG_done (by kernel_rfl) ?_ _
        refine C_keepQ [(0, pt p1 0), (3, pt p6 0)] rfl fun b => ?_
        refine th_n ?_
        obtain rfl := Option.some.inj hr
        have hst := (((((((hst.pull 6).pull 6).pull 6).pull 6).pull 6).pull 6).pull 6)
        exact (kpX [(0, pt p1 0), (3, pt p6 0)] rfl hst)
    · refine O_run (v := I x1.st.Term) (w' := w) (R_load (hst.pull 1) rfl rfl) rfl rfl ?_
      refine A_all [3] (by kernel_rfl) ⟨⟨_, rfl, rfl, ?_⟩, trivial⟩
      refine O_run (v := I x1.id) (w' := w) (R_load (hst.pull 1) rfl rfl) rfl rfl ?_
      refine A_take (i := 9) (v := pt p6 1) rfl (by kernel_rfl) (fun _ _ _ h => h) rfl rfl rfl (fun _ => R_pure (by kernel_rfl)) ?_
      refine A_all [10] (by kernel_rfl) ⟨⟨_, rfl, rfl, ?_⟩, trivial⟩
      refine O_store [I x7.Kind, I x1.id, I x7.To, I x7.Term, I x7.Index, I x7.LogTerm, I x7.Commit, .bool x7.OK, .slice a3 x7.Entries.length c3, S x7.Snap] hst rfl rfl (by kernel_rfl) fun w hst => ?_
      refine A_take (i := 11) (v := pt p6 3) rfl (by kernel_rfl) (fun _ _ _ h => h) rfl rfl rfl (fun _ => R_pure (by kernel_rfl)) ?_
      refine A_all [12] (by kernel_rfl) ⟨⟨_, rfl, rfl, ?_⟩, trivial⟩
      refine O_store [I x7.Kind, I x1.id, I x7.To, I x1.st.Term, I x7.Index, I x7.LogTerm, I x7.Commit, .bool x7.OK, .slice a3 x7.Entries.length c3, S x7.Snap] hst rfl rfl (by kernel_rfl) fun w hst => ?_
      refine wpG_done (by kernel_rfl) ?_ _
      refine C_keepQ [(0, pt p1 0), (3, pt p6 0)] rfl fun b => ?_
      refine th_n ?_
      obtain rfl := Option.some.inj hr
      have hst := (((((((hst.pull 6).pull 6).pull 6).pull 6).pull 6).pull 6).pull 6)
      exact (kpX [(0, pt p1 0), (3, pt p6 0)] rfl hst)
def term_State_From (_k : Nat) (x1 : T_raft_Node) (_x2 : Int) (_x3 : Int) (_x4 : Bool) (_x5 : Int) (_x6 : (List ((List UInt8) × (Option T_platter_file)))) (x7 : Int) (x8 : Int) : Option ((List T_term_Entry)) := (Option.bind (if decide ((IntKind.i64.wrap ((IntKind.i64.wrap (x7 - x1.st.Base)) - 1)) < 0) = true then some (true) else some (decide ((IntKind.i64.wrap ((IntKind.i64.wrap (x7 - x1.st.Base)) - 1)) > (x1.st.Log.length : Int)))) fun y2 => (if y2 = true then some ([]) else (Option.bind (sl x1.st.Log (IntKind.i64.wrap ((IntKind.i64.wrap (x7 - x1.st.Base)) - 1)) (IntKind.i64.wrap ((IntKind.i64.wrap ((IntKind.i64.wrap (x7 - x1.st.Base)) - 1)) + (mn2 (mx2 x8 0) (IntKind.i64.wrap ((x1.st.Log.length : Int) - (IntKind.i64.wrap ((IntKind.i64.wrap (x7 - x1.st.Base)) - 1)))))))) fun x10 => (if room (([] : List T_term_Entry).length + x10.length) 32 = true then some (([] ++ x10)) else none))))
set_option maxRecDepth 100000 in
set_option maxHeartbeats 4000000 in
theorem term_State_From_ok {G w : World} {F : List HP} {R : Ending → World → Prop} (k : Nat) (x1 : T_raft_Node) (x2 : Int) (x3 : Int) (x4 : Bool) (x5 : Int) (x6 : (List ((List UInt8) × (Option T_platter_file)))) (x7 : Int) (x8 : Int) (p1 : Nat) (p2 : Nat) (p3 : Nat) (a1 : Option Addr) (c1 : Nat) (a2 : Option Addr) (c2 : Nat) (r : ((List T_term_Entry))) (hst : St G w (blk p1 (cl [I x1.id, I x1.n, pt p2 0, I x1.st.Term, I x1.st.Vote, I x1.st.Base, I x1.st.BaseTerm, S x1.st.Snap, .slice a1 x1.st.Log.length c1, I x1.role, I x1.leader, I x1.commit, I x1.applied, I x1.timer, .bool (x1.votes 0), .bool (x1.votes 1), .bool (x1.votes 2), .bool (x1.votes 3), .bool (x1.votes 4), I (x1.next 0), I (x1.next 1), I (x1.next 2), I (x1.next 3), I (x1.next 4), I (x1.match_ 0), I (x1.match_ 1), I (x1.match_ 2), I (x1.match_ 3), I (x1.match_ 4), .slice a2 x1.out.length c2, I x1.broken] 66) :: blk p2 (cl [I x2, I x3, .bool x4, I x5, .map (some p3)] 79) :: mpr S (rPt r_T_platter_file) p3 x6 :: osl r_T_term_Entry 48 a1 c1 x1.st.Log :: osl r_T_raft_Msg 39 a2 c2 x1.out :: F)) (hr : term_State_From k x1 x2 x3 x4 x5 x6 x7 x8 = some r)
    (hR : ∀ (a4 : Option Addr) (c4 : Nat) w', St G w' (osl r_T_term_Entry 48 a4 c4 r :: blk p1 (cl [I x1.id, I x1.n, pt p2 0, I x1.st.Term, I x1.st.Vote, I x1.st.Base, I x1.st.BaseTerm, S x1.st.Snap, .slice a1 x1.st.Log.length c1, I x1.role, I x1.leader, I x1.commit, I x1.applied, I x1.timer, .bool (x1.votes 0), .bool (x1.votes 1), .bool (x1.votes 2), .bool (x1.votes 3), .bool (x1.votes 4), I (x1.next 0), I (x1.next 1), I (x1.next 2), I (x1.next 3), I (x1.next 4), I (x1.match_ 0), I (x1.match_ 1), I (x1.match_ 2), I (x1.match_ 3), I (x1.match_ 4), .slice a2 x1.out.length c2, I x1.broken] 66) :: blk p2 (cl [I x2, I x3, .bool x4, I x5, .map (some p3)] 79) :: mpr S (rPt r_T_platter_file) p3 x6 :: osl r_T_term_Entry 48 a1 c1 x1.st.Log :: osl r_T_raft_Msg 39 a2 c2 x1.out :: F) → R (.returned (.slice a4 r.length c4)) w') :
    Calls Tryz.prog 38 #[pt p1 3, I x7, I x8] w R := by
  unfold term_State_From at hr
  refine enter Tryz.func38 rfl [(0, pt p1 3), (1, I x7), (2, I x8)] rfl rfl fun b => ?_
  refine wp_seq ?_
  refine wp_reg ?_
  refine L_pure 1 [(0, pt p1 3), (1, I x7), (2, I x8)] (by kernel_rfl) fun b => ?_
  refine wpL_nil ?_
  refine th_n ?_
  refine wp_seq ?_
  refine wp_reg ?_
  refine L_pure 4 [(0, pt p1 3), (2, I x8), (8, I x7), (11, pt p1 5)] (by kernel_rfl) fun b => ?_
  refine L_op rfl (O_run (v := I x1.st.Base) (w' := w) (R_load hst rfl rfl) rfl rfl ?_)
  refine L_pure 3 [(0, pt p1 3), (2, I x8), (7, I (IntKind.i64.wrap ((IntKind.i64.wrap (x7 - x1.st.Base)) - 1)))] (by kernel_rfl) fun b => ?_
  refine wpL_nil ?_
  refine th_n ?_
  refine wp_seq ?_
  obtain ⟨y2, hy2, hk2⟩ := bnd hr
  clear hr
  refine wp_seq_cut (fun a w => ∃ (b : Nat → Value), a = mkF 46 b [(0, pt p1 3), (2, I x8), (7, I (IntKind.i64.wrap ((IntKind.i64.wrap (x7 - x1.st.Base)) - 1))), (25, .bool y2)] ∧ St G w (blk p1 (cl [I x1.id, I x1.n, pt p2 0, I x1.st.Term, I x1.st.Vote, I x1.st.Base, I x1.st.BaseTerm, S x1.st.Snap, .slice a1 x1.st.Log.length c1, I x1.role, I x1.leader, I x1.commit, I x1.applied, I x1.timer, .bool (x1.votes 0), .bool (x1.votes 1), .bool (x1.votes 2), .bool (x1.votes 3), .bool (x1.votes 4), I (x1.next 0), I (x1.next 1), I (x1.next 2), I (x1.next 3), I (x1.next 4), I (x1.match_ 0), I (x1.match_ 1), I (x1.match_ 2), I (x1.match_ 3), I (x1.match_ 4), .slice a2 x1.out.length c2, I x1.broken] 66) :: blk p2 (cl [I x2, I x3, .bool x4, I x5, .map (some p3)] 79) :: mpr S (rPt r_T_platter_file) p3 x6 :: osl r_T_term_Entry 48 a1 c1 x1.st.Log :: osl r_T_raft_Msg 39 a2 c2 x1.out :: F)) ?_ ?_
  · rintro _ w ⟨b, rfl, hst⟩
    have hr := hk2
    refine wp_cond_mkF (t := y2) rfl (fun h => ?_) (fun h => ?_)
    · have hr := (if_pos h).symm.trans hr
      refine wp_seq ?_
      refine wp_reg ?_
      refine L_pure 1 [(6, .slice none 0 0)] (by kernel_rfl) fun b => ?_
      refine wpL_nil ?_
      refine th_n ?_
      refine wp_ret ?_
      refine th_r ?_
      refine ret1 rfl rfl ?_
      obtain rfl := Option.some.inj hr
      have hst := osl_nil r_T_term_Entry 48 hst
      have hst := ((((((hst.pull 5).pull 5).pull 5).pull 5).pull 5).pull 5)
      exact hR none 0 _ hst
    · have hr := (if_neg (by rw [h]; exact Bool.false_ne_true)).symm.trans hr
      refine wp_skip ?_
      refine th_n ?_
      refine wp_seq ?_
      refine wp_regG (SP 19 (fun w => St G w (blk p1 (cl [I x1.id, I x1.n, pt p2 0, I x1.st.Term, I x1.st.Vote, I x1.st.Base, I x1.st.BaseTerm, S x1.st.Snap, .slice a1 x1.st.Log.length c1, I x1.role, I x1.leader, I x1.commit, I x1.applied, I x1.timer, .bool (x1.votes 0), .bool (x1.votes 1), .bool (x1.votes 2), .bool (x1.votes 3), .bool (x1.votes 4), I (x1.next 0), I (x1.next 1), I (x1.next 2), I (x1.next 3), I (x1.next 4), I (x1.match_ 0), I (x1.match_ 1), I (x1.match_ 2), I (x1.match_ 3), I (x1.match_ 4), .slice a2 x1.out.length c2, I x1.broken] 66) :: blk p2 (cl [I x2, I x3, .bool x4, I x5, .map (some p3)] 79) :: mpr S (rPt r_T_platter_file) p3 x6 :: osl r_T_term_Entry 48 a1 c1 x1.st.Log :: osl r_T_raft_Msg 39 a2 c2 x1.out :: F))) rfl ?_
      have hst := hst.draw (n := w.drawn + 1)
      generalize { w with drawn := w.drawn + 1 } = w at hst ⊢
      refine P_pure (i := 1) (v := pt p1 3) 19 rfl rfl (by kernel_rfl) (fun _ _ _ h => h) rfl rfl rfl (by kernel_rfl) (.inr (((((hst.pull 4).pull 4).pull 4).pull 4).pull 4)) ?_
      refine P_pure (i := 2) (v := pt p1 3) 19 rfl rfl (by kernel_rfl) (fun _ _ _ h => h) rfl rfl rfl (by kernel_rfl) (.inr (((((hst.pull 4).pull 4).pull 4).pull 4).pull 4)) ?_
      refine P_pure (i := 3) (v := pt p1 8) 19 rfl rfl (by kernel_rfl) (fun _ _ _ h => h) rfl rfl rfl (by kernel_rfl) (.inr (((((hst.pull 4).pull 4).pull 4).pull 4).pull 4)) ?_
      refine P_take (i := 4) (v := .slice a1 x1.st.Log.length c1) 19 [18, 4] (by kernel_rfl) rfl (by kernel_rfl) (fun _ _ _ h => h) rfl rfl rfl (fun w hst => R_load hst rfl rfl) ((((((hst.pull 4).pull 4).pull 4).pull 4).pull 4)) ?_
      refine P_pure (i := 5) (v := I (IntKind.i64.wrap ((IntKind.i64.wrap (x7 - x1.st.Base)) - 1))) 19 rfl rfl (by kernel_rfl) (fun _ _ _ h => h) rfl rfl rfl (by kernel_rfl) (.inr (((((hst.pull 4).pull 4).pull 4).pull 4).pull 4)) ?_
      refine P_pure (i := 6) (v := I (IntKind.i64.wrap ((IntKind.i64.wrap (x7 - x1.st.Base)) - 1))) 19 rfl rfl (by kernel_rfl) (fun _ _ _ h => h) rfl rfl rfl (by kernel_rfl) (.inr (((((hst.pull 4).pull 4).pull 4).pull 4).pull 4)) ?_
      refine P_pure (i := 7) (v := I x8) 19 rfl rfl (by kernel_rfl) (fun _ _ _ h => h) rfl rfl rfl (by kernel_rfl) (.inr (((((hst.pull 4).pull 4).pull 4).pull 4).pull 4)) ?_
      refine P_pure (i := 8) (v := I (mx2 x8 0)) 19 rfl rfl (by kernel_rfl) (fun _ _ _ h => h) rfl rfl rfl (by kernel_rfl) (.inr (((((hst.pull 4).pull 4).pull 4).pull 4).pull 4)) ?_
      refine P_pure (i := 9) (v := pt p1 3) 19 rfl rfl (by kernel_rfl) (fun _ _ _ h => h) rfl rfl rfl (by kernel_rfl) (.inr (((((hst.pull 4).pull 4).pull 4).pull 4).pull 4)) ?_
      refine P_pure (i := 10) (v := pt p1 3) 19 rfl rfl (by kernel_rfl) (fun _ _ _ h => h) rfl rfl rfl (by kernel_rfl) (.inr (((((hst.pull 4).pull 4).pull 4).pull 4).pull 4)) ?_
      refine P_pure (i := 11) (v := pt p1 8) 19 rfl rfl (by kernel_rfl) (fun _ _ _ h => h) rfl rfl rfl (by kernel_rfl) (.inr (((((hst.pull 4).pull 4).pull 4).pull 4).pull 4)) ?_
      refine P_take (i := 12) (v := .slice a1 x1.st.Log.length c1) 19 [18, 17, 16, 15, 13, 12] (by kernel_rfl) rfl (by kernel_rfl) (fun _ _ _ h => h) rfl rfl rfl (fun w hst => R_load hst rfl rfl) ((((((hst.pull 4).pull 4).pull 4).pull 4).pull 4)) ?_
      refine P_pure (i := 13) (v := I (x1.st.Log.length : Int)) 19 rfl rfl (by kernel_rfl) (fun _ _ _ h => h) rfl rfl rfl (by kernel_rfl) (.inr (((((hst.pull 4).pull 4).pull 4).pull 4).pull 4)) ?_
      refine P_pure (i := 14) (v := I (IntKind.i64.wrap ((IntKind.i64.wrap (x7 - x1.st.Base)) - 1))) 19 rfl rfl (by kernel_rfl) (fun _ _ _ h => h) rfl rfl rfl (by kernel_rfl) (.inr (((((hst.pull 4).pull 4).pull 4).pull 4).pull 4)) ?_
      refine P_pure (i := 15) (v := I (IntKind.i64.wrap ((x1.st.Log.length : Int) - (IntKind.i64.wrap ((IntKind.i64.wrap (x7 - x1.st.Base)) - 1))))) 19 rfl rfl (by kernel_rfl) (fun _ _ _ h => h) rfl rfl rfl (by kernel_rfl) (.inr (((((hst.pull 4).pull 4).pull 4).pull 4).pull 4)) ?_
      refine P_pure (i := 16) (v := I (mn2 (mx2 x8 0) (IntKind.i64.wrap ((x1.st.Log.length : Int) - (IntKind.i64.wrap ((IntKind.i64.wrap (x7 - x1.st.Base)) - 1)))))) 19 rfl rfl (by kernel_rfl) (fun _ _ _ h => h) rfl rfl rfl (by kernel_rfl) (.inr (((((hst.pull 4).pull 4).pull 4).pull 4).pull 4)) ?_
      refine P_pure (i := 17) (v := I (IntKind.i64.wrap ((IntKind.i64.wrap ((IntKind.i64.wrap (x7 - x1.st.Base)) - 1)) + (mn2 (mx2 x8 0) (IntKind.i64.wrap ((x1.st.Log.length : Int) - (IntKind.i64.wrap ((IntKind.i64.wrap (x7 - x1.st.Base)) - 1)))))))) 19 rfl rfl (by kernel_rfl) (fun _ _ _ h => h) rfl rfl rfl (by kernel_rfl) (.inr (((((hst.pull 4).pull 4).pull 4).pull 4).pull 4)) ?_
      obtain ⟨x10, hx2, hr⟩ := bnd hr
      have hl2 := osl_le (hst.pull 3)
      refine P_any (i := 18) (v := .slice (cutA a1 c1 (IntKind.i64.wrap ((IntKind.i64.wrap (x7 - x1.st.Base)) - 1)).toNat 3) x10.length (c1 - (IntKind.i64.wrap ((IntKind.i64.wrap (x7 - x1.st.Base)) - 1)).toNat)) 19 rfl rfl (by kernel_rfl) (fun _ _ _ h => h) rfl rfl rfl (fun w => (R_slice_v (e := r_T_term_Entry) (zl := (IntKind.i64.wrap ((IntKind.i64.wrap (x7 - x1.st.Base)) - 1))) (zh := (IntKind.i64.wrap ((IntKind.i64.wrap ((IntKind.i64.wrap (x7 - x1.st.Base)) - 1)) + (mn2 (mx2 x8 0) (IntKind.i64.wrap ((x1.st.Log.length : Int) - (IntKind.i64.wrap ((IntKind.i64.wrap (x7 - x1.st.Base)) - 1)))))))) L37 hl2 rfl rfl rfl hx2)) (.inr (((((hst.pull 4).pull 4).pull 4).pull 4).pull 4)) ?_
      refine P_one (i := 0) 19 (by kernel_rfl) rfl rfl (O_bs (T := 48) [] #[] hst (by kernel_rfl) (by kernel_rfl) rfl fun p5 w hst => ?_)
      have hst := osl_of_blk0 (ecs := []) r_T_term_Entry [] rfl (fun m => trivial) rfl hst
      refine ⟨((((((hst.pull 5).pull 5).pull 5).pull 5).pull 5).cut 5 1), ?_⟩
      obtain ⟨hb2, hr⟩ := chk hr
      refine P_act (i := 19) 19 (by kernel_rfl) rfl rfl (by kernel_rfl) (O_app_v L37 ((hst.pull 4).pull 1) rfl hx2 rfl hb2 rfl fun a5 c5 w hst => ?_)
      refine P_pure (i := 20) (v := .slice a5 ([] ++ x10).length c5) 19 rfl rfl (by kernel_rfl) (fun _ _ _ h => h) rfl rfl rfl (by kernel_rfl) (.inl (by kernel_rfl)) ?_
      refine wpG_done (by kernel_rfl) ?_ _
      refine C_keepQ [(6, .slice a5 ([] ++ x10).length c5)] rfl fun b => ?_
      refine th_n ?_
      refine wp_ret ?_
      refine ret1 rfl rfl ?_
      obtain rfl := Option.some.inj hr
      have hst := ((((((hst.pull 5).pull 2).pull 5).pull 5).pull 5).pull 5)
      exact hR a5 c5 _ hst
  · have hr := hy2
    refine wp_reg ?_
    refine L_pure 3 [(0, pt p1 3), (2, I x8), (7, I (IntKind.i64.wrap ((IntKind.i64.wrap (x7 - x1.st.Base)) - 1))), (17, .bool (decide ((IntKind.i64.wrap ((IntKind.i64.wrap (x7 - x1.st.Base)) - 1)) < 0)))] (by kernel_rfl) fun b => ?_
    by_cases h : (decide ((IntKind.i64.wrap ((IntKind.i64.wrap (x7 - x1.st.Base)) - 1)) < 0)) = true
    · have hr := (if_pos h).symm.trans hr
      refine L_keep ((17, .bool (decide ((IntKind.i64.wrap ((IntKind.i64.wrap (x7 - x1.st.Base)) - 1)) < 0))) :: [(0, pt p1 3), (2, I x8), (7, I (IntKind.i64.wrap ((IntKind.i64.wrap (x7 - x1.st.Base)) - 1)))]) rfl fun b => ?_
      refine L_bool h ?_
      refine L_pure 8 [(0, pt p1 3), (2, I x8), (7, I (IntKind.i64.wrap ((IntKind.i64.wrap (x7 - x1.st.Base)) - 1))), (25, .bool true)] (by kernel_rfl) fun b => ?_
      refine wpL_nil ?_
      refine th_n ?_
      obtain rfl := Option.some.inj hr
      have hst := (((((hst.pull 4).pull 4).pull 4).pull 4).pull 4)
      exact (kpX [(0, pt p1 3), (2, I x8), (7, I (IntKind.i64.wrap ((IntKind.i64.wrap (x7 - x1.st.Base)) - 1))), (25, .bool true)] rfl hst)
    · have hr := (if_neg h).symm.trans hr
      refine L_keep ((17, .bool (decide ((IntKind.i64.wrap ((IntKind.i64.wrap (x7 - x1.st.Base)) - 1)) < 0))) :: [(0, pt p1 3), (2, I x8), (7, I (IntKind.i64.wrap ((IntKind.i64.wrap (x7 - x1.st.Base)) - 1)))]) rfl fun b => ?_
      refine L_bool (eq_false_of_ne_true h) ?_
      refine L_pure 4 [(0, pt p1 3), (2, I x8), (7, I (IntKind.i64.wrap ((IntKind.i64.wrap (x7 - x1.st.Base)) - 1))), (17, .bool false), (18, I (IntKind.i64.wrap ((IntKind.i64.wrap (x7 - x1.st.Base)) - 1))), (21, pt p1 8)] (by kernel_rfl) fun b => ?_
      refine L_op rfl (O_run (v := .slice a1 x1.st.Log.length c1) (w' := w) (R_load hst rfl rfl) rfl rfl ?_)
      refine L_pure 3 [(0, pt p1 3), (2, I x8), (7, I (IntKind.i64.wrap ((IntKind.i64.wrap (x7 - x1.st.Base)) - 1))), (25, .bool (decide ((IntKind.i64.wrap ((IntKind.i64.wrap (x7 - x1.st.Base)) - 1)) > (x1.st.Log.length : Int))))] (by kernel_rfl) fun b => ?_
      refine wpL_nil ?_
      refine th_n ?_
      obtain rfl := Option.some.inj hr
      have hst := (((((hst.pull 4).pull 4).pull 4).pull 4).pull 4)
      exact (kpX [(0, pt p1 3), (2, I x8), (7, I (IntKind.i64.wrap ((IntKind.i64.wrap (x7 - x1.st.Base)) - 1))), (25, .bool (decide ((IntKind.i64.wrap ((IntKind.i64.wrap (x7 - x1.st.Base)) - 1)) > (x1.st.Log.length : Int))))] rfl hst)
def raft_Node_tell (k : Nat) (x1 : T_raft_Node) (x2 : Int) (x3 : Int) (x4 : Bool) (x5 : Int) (x6 : (List ((List UInt8) × (Option T_platter_file)))) (x7 : Int) : Option (T_raft_Node) := (if 0 ≤ x7 ∧ x7 < 5 then (Option.bind (term_State_TermAt k x1 x2 x3 x4 x5 x6 (IntKind.i64.wrap ((x1.next x7.toNat) - 1))) fun y12 => (if (!y12.2) = true then (Option.bind (raft_Node_send k x1 x2 x3 x4 x5 x6 (T_raft_Msg.mk 5 0 x7 0 x1.st.Base x1.st.BaseTerm x1.commit false ([]) x1.st.Snap)) fun y14 => some (y14)) else (Option.bind (term_State_From k x1 x2 x3 x4 x5 x6 (IntKind.i64.wrap ((IntKind.i64.wrap ((x1.next x7.toNat) - 1)) + 1)) 4) fun y21 => (Option.bind (raft_Node_send k x1 x2 x3 x4 x5 x6 (T_raft_Msg.mk 3 0 x7 0 (IntKind.i64.wrap ((x1.next x7.toNat) - 1)) y12.1 x1.commit false y21 ([]))) fun y22 => some (y22))))) else none)
set_option maxRecDepth 100000 in
set_option maxHeartbeats 4000000 in
theorem raft_Node_tell_ok {G w : World} {F : List HP} {R : Ending → World → Prop} (k : Nat) (x1 : T_raft_Node) (x2 : Int) (x3 : Int) (x4 : Bool) (x5 : Int) (x6 : (List ((List UInt8) × (Option T_platter_file)))) (x7 : Int) (p1 : Nat) (p2 : Nat) (p3 : Nat) (a1 : Option Addr) (c1 : Nat) (a2 : Option Addr) (c2 : Nat) (r : (T_raft_Node)) (hst : St G w (blk p1 (cl [I x1.id, I x1.n, pt p2 0, I x1.st.Term, I x1.st.Vote, I x1.st.Base, I x1.st.BaseTerm, S x1.st.Snap, .slice a1 x1.st.Log.length c1, I x1.role, I x1.leader, I x1.commit, I x1.applied, I x1.timer, .bool (x1.votes 0), .bool (x1.votes 1), .bool (x1.votes 2), .bool (x1.votes 3), .bool (x1.votes 4), I (x1.next 0), I (x1.next 1), I (x1.next 2), I (x1.next 3), I (x1.next 4), I (x1.match_ 0), I (x1.match_ 1), I (x1.match_ 2), I (x1.match_ 3), I (x1.match_ 4), .slice a2 x1.out.length c2, I x1.broken] 66) :: blk p2 (cl [I x2, I x3, .bool x4, I x5, .map (some p3)] 79) :: mpr S (rPt r_T_platter_file) p3 x6 :: osl r_T_term_Entry 48 a1 c1 x1.st.Log :: osl r_T_raft_Msg 39 a2 c2 x1.out :: F)) (hr : raft_Node_tell k x1 x2 x3 x4 x5 x6 x7 = some r)
    (hR : ∀ (a19 : Option Addr) (c19 : Nat) (a20 : Option Addr) (c20 : Nat) w', St G w' (osl r_T_term_Entry 48 a19 c19 r.st.Log :: osl r_T_raft_Msg 39 a20 c20 r.out :: blk p1 (cl [I r.id, I r.n, pt p2 0, I r.st.Term, I r.st.Vote, I r.st.Base, I r.st.BaseTerm, S r.st.Snap, .slice a19 r.st.Log.length c19, I r.role, I r.leader, I r.commit, I r.applied, I r.timer, .bool (r.votes 0), .bool (r.votes 1), .bool (r.votes 2), .bool (r.votes 3), .bool (r.votes 4), I (r.next 0), I (r.next 1), I (r.next 2), I (r.next 3), I (r.next 4), I (r.match_ 0), I (r.match_ 1), I (r.match_ 2), I (r.match_ 3), I (r.match_ 4), .slice a20 r.out.length c20, I r.broken] 66) :: blk p2 (cl [I x2, I x3, .bool x4, I x5, .map (some p3)] 79) :: mpr S (rPt r_T_platter_file) p3 x6 :: F) → R (.returned (.tuple #[])) w') :
    Calls Tryz.prog 49 #[pt p1 0, I x7] w R := by
  unfold raft_Node_tell at hr
  refine enter Tryz.func49 rfl [(0, pt p1 0), (1, I x7)] rfl rfl fun b => ?_
  refine wp_seq ?_
  refine wp_reg ?_
  refine L_pure 4 [(0, pt p1 0), (1, I x7), (8, I x7), (10, pt p1 19)] (by kernel_rfl) fun b => ?_
  obtain ⟨hb2, hr⟩ := chk hr
  refine L_op rfl (O_run (v := pt p1 (19 + x7.toNat)) (w' := w) (R_iaA A64 rfl rfl hb2) rfl rfl ?_)
  refine L_op rfl (O_run (v := I (x1.next x7.toNat)) (w' := w) (R_load hst rfl (by rcases in5 (show 0 ≤ x7 ∧ x7 < 5 by omega) with h | h | h | h | h <;> rw [h] <;> rfl)) rfl rfl ?_)
  refine L_pure 2 [(0, pt p1 0), (1, I x7), (4, I (IntKind.i64.wrap ((x1.next x7.toNat) - 1)))] (by kernel_rfl) fun b => ?_
  refine wpL_nil ?_
  refine th_n ?_
  refine wp_seq ?_
  refine wp_reg ?_
  refine L_pure 4 [(0, pt p1 0), (1, I x7), (4, I (IntKind.i64.wrap ((x1.next x7.toNat) - 1))), (17, pt p1 3), (18, I (IntKind.i64.wrap ((x1.next x7.toNat) - 1)))] (by kernel_rfl) fun b => ?_
  obtain ⟨y12, hy12, hr⟩ := bnd hr
  refine L_op rfl (O_call (vs := #[pt p1 3, I (IntKind.i64.wrap ((x1.next x7.toNat) - 1))]) Tryz.call46 (by kernel_rfl) (term_State_TermAt_ok k x1 x2 x3 x4 x5 x6 (IntKind.i64.wrap ((x1.next x7.toNat) - 1)) p1 p2 p3 a1 c1 a2 c2 y12 (((((hst.pull 4).pull 4).pull 4).pull 4).pull 4) hy12 fun w hst => ?_))
  refine CK_ret rfl ?_
  refine L_pure 5 [(0, pt p1 0), (1, I x7), (4, I (IntKind.i64.wrap ((x1.next x7.toNat) - 1))), (5, I y12.1), (6, .bool y12.2)] (by kernel_rfl) fun b => ?_
  refine wpL_nil ?_
  refine th_n ?_
  refine wp_seq ?_
  refine wp_seq ?_
  refine wp_reg ?_
  refine L_pure 2 [(0, pt p1 0), (1, I x7), (4, I (IntKind.i64.wrap ((x1.next x7.toNat) - 1))), (5, I y12.1), (23, .bool (!y12.2))] (by kernel_rfl) fun b => ?_
  refine wpL_nil ?_
  refine th_n ?_
  refine wp_cond_mkF (t := (!y12.2)) rfl (fun h => ?_) (fun h => ?_)
  · have hr := (if_pos h).symm.trans hr
    refine wp_seq ?_
    refine wp_regG (SP 22 (fun w => St G w (blk p1 (cl [I x1.id, I x1.n, pt p2 0, I x1.st.Term, I x1.st.Vote, I x1.st.Base, I x1.st.BaseTerm, S x1.st.Snap, .slice a1 x1.st.Log.length c1, I x1.role, I x1.leader, I x1.commit, I x1.applied, I x1.timer, .bool (x1.votes 0), .bool (x1.votes 1), .bool (x1.votes 2), .bool (x1.votes 3), .bool (x1.votes 4), I (x1.next 0), I (x1.next 1), I (x1.next 2), I (x1.next 3), I (x1.next 4), I (x1.match_ 0), I (x1.match_ 1), I (x1.match_ 2), I (x1.match_ 3), I (x1.match_ 4), .slice a2 x1.out.length c2, I x1.broken] 66) :: blk p2 (cl [I x2, I x3, .bool x4, I x5, .map (some p3)] 79) :: mpr S (rPt r_T_platter_file) p3 x6 :: osl r_T_term_Entry 48 a1 c1 x1.st.Log :: osl r_T_raft_Msg 39 a2 c2 x1.out :: F))) rfl ?_
    have hst := hst.draw (n := w.drawn + 1)
    generalize { w with drawn := w.drawn + 1 } = w at hst ⊢
    refine P_pure (i := 0) (v := pt p1 0) 22 rfl rfl (by kernel_rfl) (fun _ _ _ h => h) rfl rfl rfl (by kernel_rfl) (.inr (((((hst.pull 4).pull 4).pull 4).pull 4).pull 4)) ?_
    refine P_pure (i := 1) (v := I x7) 22 rfl rfl (by kernel_rfl) (fun _ _ _ h => h) rfl rfl rfl (by kernel_rfl) (.inr (((((hst.pull 4).pull 4).pull 4).pull 4).pull 4)) ?_
    refine P_pure (i := 2) (v := pt p1 0) 22 rfl rfl (by kernel_rfl) (fun _ _ _ h => h) rfl rfl rfl (by kernel_rfl) (.inr (((((hst.pull 4).pull 4).pull 4).pull 4).pull 4)) ?_
    refine P_pure (i := 3) (v := pt p1 0) 22 rfl rfl (by kernel_rfl) (fun _ _ _ h => h) rfl rfl rfl (by kernel_rfl) (.inr (((((hst.pull 4).pull 4).pull 4).pull 4).pull 4)) ?_
    refine P_pure (i := 4) (v := pt p1 3) 22 rfl rfl (by kernel_rfl) (fun _ _ _ h => h) rfl rfl rfl (by kernel_rfl) (.inr (((((hst.pull 4).pull 4).pull 4).pull 4).pull 4)) ?_
    refine P_pure (i := 5) (v := pt p1 5) 22 rfl rfl (by kernel_rfl) (fun _ _ _ h => h) rfl rfl rfl (by kernel_rfl) (.inr (((((hst.pull 4).pull 4).pull 4).pull 4).pull 4)) ?_
    refine P_take (i := 6) (v := I x1.st.Base) 22 [21, 6] (by kernel_rfl) rfl (by kernel_rfl) (fun _ _ _ h => h) rfl rfl rfl (fun w hst => R_load hst rfl rfl) ((((((hst.pull 4).pull 4).pull 4).pull 4).pull 4)) ?_
    refine P_pure (i := 7) (v := pt p1 0) 22 rfl rfl (by kernel_rfl) (fun _ _ _ h => h) rfl rfl rfl (by kernel_rfl) (.inr (((((hst.pull 4).pull 4).pull 4).pull 4).pull 4)) ?_
    refine P_pure (i := 8) (v := pt p1 0) 22 rfl rfl (by kernel_rfl) (fun _ _ _ h => h) rfl rfl rfl (by kernel_rfl) (.inr (((((hst.pull 4).pull 4).pull 4).pull 4).pull 4)) ?_
    refine P_pure (i := 9) (v := pt p1 3) 22 rfl rfl (by kernel_rfl) (fun _ _ _ h => h) rfl rfl rfl (by kernel_rfl) (.inr (((((hst.pull 4).pull 4).pull 4).pull 4).pull 4)) ?_
    refine P_pure (i := 10) (v := pt p1 6) 22 rfl rfl (by kernel_rfl) (fun _ _ _ h => h) rfl rfl rfl (by kernel_rfl) (.inr (((((hst.pull 4).pull 4).pull 4).pull 4).pull 4)) ?_
    refine P_take (i := 11) (v := I x1.st.BaseTerm) 22 [21, 11] (by kernel_rfl) rfl (by kernel_rfl) (fun _ _ _ h => h) rfl rfl rfl (fun w hst => R_load hst rfl rfl) ((((((hst.pull 4).pull 4).pull 4).pull 4).pull 4)) ?_
    refine P_pure (i := 12) (v := pt p1 0) 22 rfl rfl (by kernel_rfl) (fun _ _ _ h => h) rfl rfl rfl (by kernel_rfl) (.inr (((((hst.pull 4).pull 4).pull 4).pull 4).pull 4)) ?_
    refine P_pure (i := 13) (v := pt p1 0) 22 rfl rfl (by kernel_rfl) (fun _ _ _ h => h) rfl rfl rfl (by kernel_rfl) (.inr (((((hst.pull 4).pull 4).pull 4).pull 4).pull 4)) ?_
    refine P_pure (i := 14) (v := pt p1 3) 22 rfl rfl (by kernel_rfl) (fun _ _ _ h => h) rfl rfl rfl (by kernel_rfl) (.inr (((((hst.pull 4).pull 4).pull 4).pull 4).pull 4)) ?_
    refine P_pure (i := 15) (v := pt p1 7) 22 rfl rfl (by kernel_rfl) (fun _ _ _ h => h) rfl rfl rfl (by kernel_rfl) (.inr (((((hst.pull 4).pull 4).pull 4).pull 4).pull 4)) ?_
    refine P_take (i := 16) (v := S x1.st.Snap) 22 [21, 16] (by kernel_rfl) rfl (by kernel_rfl) (fun _ _ _ h => h) rfl rfl rfl (fun w hst => R_load hst rfl rfl) ((((((hst.pull 4).pull 4).pull 4).pull 4).pull 4)) ?_
    refine P_pure (i := 17) (v := pt p1 0) 22 rfl rfl (by kernel_rfl) (fun _ _ _ h => h) rfl rfl rfl (by kernel_rfl) (.inr (((((hst.pull 4).pull 4).pull 4).pull 4).pull 4)) ?_
    refine P_pure (i := 18) (v := pt p1 0) 22 rfl rfl (by kernel_rfl) (fun _ _ _ h => h) rfl rfl rfl (by kernel_rfl) (.inr (((((hst.pull 4).pull 4).pull 4).pull 4).pull 4)) ?_
    refine P_pure (i := 19) (v := pt p1 11) 22 rfl rfl (by kernel_rfl) (fun _ _ _ h => h) rfl rfl rfl (by kernel_rfl) (.inr (((((hst.pull 4).pull 4).pull 4).pull 4).pull 4)) ?_
    refine P_take (i := 20) (v := I x1.commit) 22 [21, 20] (by kernel_rfl) rfl (by kernel_rfl) (fun _ _ _ h => h) rfl rfl rfl (fun w hst => R_load hst rfl rfl) ((((((hst.pull 4).pull 4).pull 4).pull 4).pull 4)) ?_
    refine P_pure (i := 21) (v := .agg #[I 5, I 0, I x7, I 0, I x1.st.Base, I x1.st.BaseTerm, I x1.commit, .bool false, .slice none 0 0, S x1.st.Snap]) 22 rfl rfl (by kernel_rfl) (fun _ _ _ h => h) rfl rfl rfl (by kernel_rfl) (.inr (((((hst.pull 4).pull 4).pull 4).pull 4).pull 4)) ?_
    obtain ⟨y14, hy14, hr⟩ := bnd hr
    have hst := dsl_nil r_T_term_Entry hst
    refine P_act (i := 22) 22 (by kernel_rfl) rfl rfl (by kernel_rfl) (O_call (vs := #[pt p1 0, .agg #[I 5, I 0, I x7, I 0, I x1.st.Base, I x1.st.BaseTerm, I x1.commit, .bool false, .slice none 0 0, S x1.st.Snap]]) Tryz.call28 (by kernel_rfl) (raft_Node_send_ok k x1 x2 x3 x4 x5 x6 (T_raft_Msg.mk 5 0 x7 0 x1.st.Base x1.st.BaseTerm x1.commit false ([]) x1.st.Snap) p1 p2 p3 a1 c1 a2 c2 none 0 y14 (((((hst.pull 5).pull 5).pull 5).pull 5).pull 5) hy14 fun a23 c23 a24 c24 w hst => ?_))
    refine CK_ret rfl ?_
    refine wpG_done (by kernel_rfl) ?_ _
    refine C_keepQ [] rfl fun b => ?_
    refine th_n ?_
    refine wp_ret ?_
    refine th_r ?_
    refine ret0 rfl ?_
    obtain rfl := Option.some.inj hr
    have hst := ((((((hst.pull 4).pull 4).pull 4).pull 4).pull 4).cut 5 1)
    exact hR a23 c23 a24 c24 _ hst
  · have hr := (if_neg (by rw [h]; exact Bool.false_ne_true)).symm.trans hr
    refine wp_skip ?_
    refine th_n ?_
    refine wp_regG (SP 15 (fun w => St G w (blk p1 (cl [I x1.id, I x1.n, pt p2 0, I x1.st.Term, I x1.st.Vote, I x1.st.Base, I x1.st.BaseTerm, S x1.st.Snap, .slice a1 x1.st.Log.length c1, I x1.role, I x1.leader, I x1.commit, I x1.applied, I x1.timer, .bool (x1.votes 0), .bool (x1.votes 1), .bool (x1.votes 2), .bool (x1.votes 3), .bool (x1.votes 4), I (x1.next 0), I (x1.next 1), I (x1.next 2), I (x1.next 3), I (x1.next 4), I (x1.match_ 0), I (x1.match_ 1), I (x1.match_ 2), I (x1.match_ 3), I (x1.match_ 4), .slice a2 x1.out.length c2, I x1.broken] 66) :: blk p2 (cl [I x2, I x3, .bool x4, I x5, .map (some p3)] 79) :: mpr S (rPt r_T_platter_file) p3 x6 :: osl r_T_term_Entry 48 a1 c1 x1.st.Log :: osl r_T_raft_Msg 39 a2 c2 x1.out :: F))) rfl ?_
    have hst := hst.draw (n := w.drawn + 1)
    generalize { w with drawn := w.drawn + 1 } = w at hst ⊢
    refine P_pure (i := 0) (v := pt p1 0) 15 rfl rfl (by kernel_rfl) (fun _ _ _ h => h) rfl rfl rfl (by kernel_rfl) (.inr (((((hst.pull 4).pull 4).pull 4).pull 4).pull 4)) ?_
    refine P_pure (i := 1) (v := I x7) 15 rfl rfl (by kernel_rfl) (fun _ _ _ h => h) rfl rfl rfl (by kernel_rfl) (.inr (((((hst.pull 4).pull 4).pull 4).pull 4).pull 4)) ?_
    refine P_pure (i := 2) (v := I (IntKind.i64.wrap ((x1.next x7.toNat) - 1))) 15 rfl rfl (by kernel_rfl) (fun _ _ _ h => h) rfl rfl rfl (by kernel_rfl) (.inr (((((hst.pull 4).pull 4).pull 4).pull 4).pull 4)) ?_
    refine P_pure (i := 3) (v := I y12.1) 15 rfl rfl (by kernel_rfl) (fun _ _ _ h => h) rfl rfl rfl (by kernel_rfl) (.inr (((((hst.pull 4).pull 4).pull 4).pull 4).pull 4)) ?_
    refine P_pure (i := 4) (v := pt p1 0) 15 rfl rfl (by kernel_rfl) (fun _ _ _ h => h) rfl rfl rfl (by kernel_rfl) (.inr (((((hst.pull 4).pull 4).pull 4).pull 4).pull 4)) ?_
    refine P_pure (i := 5) (v := pt p1 0) 15 rfl rfl (by kernel_rfl) (fun _ _ _ h => h) rfl rfl rfl (by kernel_rfl) (.inr (((((hst.pull 4).pull 4).pull 4).pull 4).pull 4)) ?_
    refine P_pure (i := 6) (v := pt p1 11) 15 rfl rfl (by kernel_rfl) (fun _ _ _ h => h) rfl rfl rfl (by kernel_rfl) (.inr (((((hst.pull 4).pull 4).pull 4).pull 4).pull 4)) ?_
    refine P_take (i := 7) (v := I x1.commit) 15 [14, 7] (by kernel_rfl) rfl (by kernel_rfl) (fun _ _ _ h => h) rfl rfl rfl (fun w hst => R_load hst rfl rfl) ((((((hst.pull 4).pull 4).pull 4).pull 4).pull 4)) ?_
    refine P_pure (i := 8) (v := pt p1 0) 15 rfl rfl (by kernel_rfl) (fun _ _ _ h => h) rfl rfl rfl (by kernel_rfl) (.inr (((((hst.pull 4).pull 4).pull 4).pull 4).pull 4)) ?_
    refine P_pure (i := 9) (v := pt p1 0) 15 rfl rfl (by kernel_rfl) (fun _ _ _ h => h) rfl rfl rfl (by kernel_rfl) (.inr (((((hst.pull 4).pull 4).pull 4).pull 4).pull 4)) ?_
    refine P_pure (i := 10) (v := pt p1 3) 15 rfl rfl (by kernel_rfl) (fun _ _ _ h => h) rfl rfl rfl (by kernel_rfl) (.inr (((((hst.pull 4).pull 4).pull 4).pull 4).pull 4)) ?_
    refine P_pure (i := 11) (v := I (IntKind.i64.wrap ((x1.next x7.toNat) - 1))) 15 rfl rfl (by kernel_rfl) (fun _ _ _ h => h) rfl rfl rfl (by kernel_rfl) (.inr (((((hst.pull 4).pull 4).pull 4).pull 4).pull 4)) ?_
    refine P_pure (i := 12) (v := I (IntKind.i64.wrap ((IntKind.i64.wrap ((x1.next x7.toNat) - 1)) + 1))) 15 rfl rfl (by kernel_rfl) (fun _ _ _ h => h) rfl rfl rfl (by kernel_rfl) (.inr (((((hst.pull 4).pull 4).pull 4).pull 4).pull 4)) ?_
    obtain ⟨y21, hy21, hr⟩ := bnd hr
    refine P_one (i := 13) 15 (by kernel_rfl) rfl rfl (O_call (vs := #[pt p1 3, I (IntKind.i64.wrap ((IntKind.i64.wrap ((x1.next x7.toNat) - 1)) + 1)), I 4]) Tryz.call38 (by kernel_rfl) (term_State_From_ok k x1 x2 x3 x4 x5 x6 (IntKind.i64.wrap ((IntKind.i64.wrap ((x1.next x7.toNat) - 1)) + 1)) 4 p1 p2 p3 a1 c1 a2 c2 y21 (((((hst.pull 4).pull 4).pull 4).pull 4).pull 4) hy21 fun a34 c34 w hst => ?_))
    refine CK_ret rfl ?_
    refine ⟨((((((hst.pull 5).pull 5).pull 5).pull 5).pull 5).cut 5 1), ?_⟩
    refine P_pure (i := 14) (v := .agg #[I 3, I 0, I x7, I 0, I (IntKind.i64.wrap ((x1.next x7.toNat) - 1)), I y12.1, I x1.commit, .bool false, .slice a34 y21.length c34, S ([])]) 15 rfl rfl (by kernel_rfl) (fun _ _ _ h => h) rfl rfl rfl (by kernel_rfl) (.inr ((((((hst.pull 5).pull 5).pull 5).pull 5).pull 5).cut 5 1)) ?_
    obtain ⟨y22, hy22, hr⟩ := bnd hr
    have hst := osl_freeze hst
    refine P_act (i := 15) 15 (by kernel_rfl) rfl rfl (by kernel_rfl) (O_call (vs := #[pt p1 0, .agg #[I 3, I 0, I x7, I 0, I (IntKind.i64.wrap ((x1.next x7.toNat) - 1)), I y12.1, I x1.commit, .bool false, .slice a34 y21.length c34, S ([])]]) Tryz.call28 (by kernel_rfl) (raft_Node_send_ok k x1 x2 x3 x4 x5 x6 (T_raft_Msg.mk 3 0 x7 0 (IntKind.i64.wrap ((x1.next x7.toNat) - 1)) y12.1 x1.commit false y21 ([])) p1 p2 p3 a1 c1 a2 c2 a34 c34 y22 (((((hst.pull 5).pull 5).pull 5).pull 5).pull 5) hy22 fun a35 c35 a36 c36 w hst => ?_))
    refine CK_ret rfl ?_
    refine wpG_done (by kernel_rfl) ?_ _
    refine C_keepQ [] rfl fun b => ?_
    refine bp_normal ?_
    refine ret0 rfl ?_
    obtain rfl := Option.some.inj hr
    have hst := ((((((hst.pull 4).pull 4).pull 4).pull 4).pull 4).cut 5 1)
    exact hR a35 c35 a36 c36 _ hst
def raft_Node_spread_l1 (k : Nat) (x1 : T_raft_Node) (x2 : Int) (x3 : Int) (x4 : Bool) (x5 : Int) (x6 : (List ((List UInt8) × (Option T_platter_file)))) : Nat → Int → T_raft_Node → Option (T_raft_Node)
  | 0, _, _ => none
  | j + 1, v7, v8 => (if decide (v7 < x1.n) = true then (Option.bind (if (v7 != v8.id) = true then (Option.bind (raft_Node_tell k v8 x2 x3 x4 x5 x6 v7) fun y6 => some (y6)) else some (v8)) fun y5 => (raft_Node_spread_l1 k x1 x2 x3 x4 x5 x6 j (IntKind.i64.wrap (v7 + 1)) y5)) else some (v8))
def raft_Node_spread (k : Nat) (x1 : T_raft_Node) (x2 : Int) (x3 : Int) (x4 : Bool) (x5 : Int) (x6 : (List ((List UInt8) × (Option T_platter_file)))) : Option (T_raft_Node) := (Option.bind (raft_Node_spread_l1 k x1 x2 x3 x4 x5 x6 k (0 : Int) x1) fun y4 => some (y4))
set_option maxRecDepth 100000 in
set_option maxHeartbeats 4000000 in
theorem raft_Node_spread_ok {G w : World} {F : List HP} {R : Ending → World → Prop} (k : Nat) (x1 : T_raft_Node) (x2 : Int) (x3 : Int) (x4 : Bool) (x5 : Int) (x6 : (List ((List UInt8) × (Option T_platter_file)))) (p1 : Nat) (p2 : Nat) (p3 : Nat) (a1 : Option Addr) (c1 : Nat) (a2 : Option Addr) (c2 : Nat) (r : (T_raft_Node)) (hst : St G w (blk p1 (cl [I x1.id, I x1.n, pt p2 0, I x1.st.Term, I x1.st.Vote, I x1.st.Base, I x1.st.BaseTerm, S x1.st.Snap, .slice a1 x1.st.Log.length c1, I x1.role, I x1.leader, I x1.commit, I x1.applied, I x1.timer, .bool (x1.votes 0), .bool (x1.votes 1), .bool (x1.votes 2), .bool (x1.votes 3), .bool (x1.votes 4), I (x1.next 0), I (x1.next 1), I (x1.next 2), I (x1.next 3), I (x1.next 4), I (x1.match_ 0), I (x1.match_ 1), I (x1.match_ 2), I (x1.match_ 3), I (x1.match_ 4), .slice a2 x1.out.length c2, I x1.broken] 66) :: blk p2 (cl [I x2, I x3, .bool x4, I x5, .map (some p3)] 79) :: mpr S (rPt r_T_platter_file) p3 x6 :: osl r_T_term_Entry 48 a1 c1 x1.st.Log :: osl r_T_raft_Msg 39 a2 c2 x1.out :: F)) (hr : raft_Node_spread k x1 x2 x3 x4 x5 x6 = some r)
    (hR : ∀ (a13 : Option Addr) (c13 : Nat) (a14 : Option Addr) (c14 : Nat) w', St G w' (osl r_T_term_Entry 48 a13 c13 r.st.Log :: osl r_T_raft_Msg 39 a14 c14 r.out :: blk p1 (cl [I r.id, I r.n, pt p2 0, I r.st.Term, I r.st.Vote, I r.st.Base, I r.st.BaseTerm, S r.st.Snap, .slice a13 r.st.Log.length c13, I r.role, I r.leader, I r.commit, I r.applied, I r.timer, .bool (r.votes 0), .bool (r.votes 1), .bool (r.votes 2), .bool (r.votes 3), .bool (r.votes 4), I (r.next 0), I (r.next 1), I (r.next 2), I (r.next 3), I (r.next 4), I (r.match_ 0), I (r.match_ 1), I (r.match_ 2), I (r.match_ 3), I (r.match_ 4), .slice a14 r.out.length c14, I r.broken] 66) :: blk p2 (cl [I x2, I x3, .bool x4, I x5, .map (some p3)] 79) :: mpr S (rPt r_T_platter_file) p3 x6 :: F) → R (.returned (.tuple #[])) w') :
    Calls Tryz.prog 32 #[pt p1 0] w R := by
  unfold raft_Node_spread at hr
  refine enter Tryz.func32 rfl [(0, pt p1 0)] rfl rfl fun b => ?_
  refine wp_seq ?_
  refine wp_reg ?_
  refine L_pure 3 [(0, pt p1 0), (5, pt p1 1)] (by kernel_rfl) fun b => ?_
  refine L_op rfl (O_run (v := I x1.n) (w' := w) (R_load hst rfl rfl) rfl rfl ?_)
  refine L_pure 1 [(0, pt p1 0), (6, I x1.n), (7, I 0)] (by kernel_rfl) fun b => ?_
  refine wpL_nil ?_
  refine th_n ?_
  obtain ⟨y4, hy4, hk3⟩ := bnd hr
  clear hr
  refine Go.Hx.wp_cut (fun a w => ∃ (a19 : Option Addr) (c19 : Nat) (a20 : Option Addr) (c20 : Nat)(b : Nat → Value), a = mkF 20 b [] ∧ St G w (osl r_T_term_Entry 48 a19 c19 y4.st.Log :: osl r_T_raft_Msg 39 a20 c20 y4.out :: blk p1 (cl [I y4.id, I y4.n, pt p2 0, I y4.st.Term, I y4.st.Vote, I y4.st.Base, I y4.st.BaseTerm, S y4.st.Snap, .slice a19 y4.st.Log.length c19, I y4.role, I y4.leader, I y4.commit, I y4.applied, I y4.timer, .bool (y4.votes 0), .bool (y4.votes 1), .bool (y4.votes 2), .bool (y4.votes 3), .bool (y4.votes 4), I (y4.next 0), I (y4.next 1), I (y4.next 2), I (y4.next 3), I (y4.next 4), I (y4.match_ 0), I (y4.match_ 1), I (y4.match_ 2), I (y4.match_ 3), I (y4.match_ 4), .slice a20 y4.out.length c20, I y4.broken] 66) :: blk p2 (cl [I x2, I x3, .bool x4, I x5, .map (some p3)] 79) :: mpr S (rPt r_T_platter_file) p3 x6 :: F)) ?_ ?_
  · rintro _ w ⟨a19, c19, a20, c20, b, rfl, hst⟩
    have hr := hk3
    refine bp_normal ?_
    refine ret0 rfl ?_
    obtain rfl := Option.some.inj hr
    have hst := (((((hst.pull 4).pull 4).pull 4).pull 4).pull 4)
    exact hR a19 c19 a20 c20 _ hst
  · have hst := (((((hst.pull 2).pull 2).pull 2).pull 4).pull 4)
    refine wp_block ?_
    refine wp_loop_fuel (fun j a w => ∃ (v7 : Int) (v8 : T_raft_Node) (a15 : Option Addr) (c15 : Nat) (a16 : Option Addr) (c16 : Nat) (b : Nat → Value), a = mkF 20 b [(0, pt p1 0), (6, I x1.n), (7, I v7)] ∧ St G w (osl r_T_term_Entry 48 a15 c15 v8.st.Log :: osl r_T_raft_Msg 39 a16 c16 v8.out :: blk p1 (cl [I v8.id, I v8.n, pt p2 0, I v8.st.Term, I v8.st.Vote, I v8.st.Base, I v8.st.BaseTerm, S v8.st.Snap, .slice a15 v8.st.Log.length c15, I v8.role, I v8.leader, I v8.commit, I v8.applied, I v8.timer, .bool (v8.votes 0), .bool (v8.votes 1), .bool (v8.votes 2), .bool (v8.votes 3), .bool (v8.votes 4), I (v8.next 0), I (v8.next 1), I (v8.next 2), I (v8.next 3), I (v8.next 4), I (v8.match_ 0), I (v8.match_ 1), I (v8.match_ 2), I (v8.match_ 3), I (v8.match_ 4), .slice a16 v8.out.length c16, I v8.broken] 66) :: blk p2 (cl [I x2, I x3, .bool x4, I x5, .map (some p3)] 79) :: mpr S (rPt r_T_platter_file) p3 x6 :: F) ∧ raft_Node_spread_l1 k x1 x2 x3 x4 x5 x6 j v7 v8 = some y4) (k := k) ⟨(0 : Int), x1, a1, c1, a2, c2, (kpX [(0, pt p1 0), (6, I x1.n), (7, I 0)] rfl ⟨hst, hy4⟩)⟩ ?_ ?_
    · rintro _ _ ⟨_, _, _, _, _, _, _, _, _, h⟩
      rw [raft_Node_spread_l1] at h
      cases h
    · rintro j _ w ⟨v7, v8, a15, c15, a16, c16, b, rfl, hst, hr⟩
      rw [raft_Node_spread_l1] at hr
      refine wp_seq ?_
      refine wp_reg ?_
      refine L_pure 1 [(0, pt p1 0), (6, I x1.n), (7, I v7), (8, .bool (decide (v7 < x1.n)))] (by kernel_rfl) fun b => ?_
      refine wpL_nil ?_
      refine th_n ?_
      refine wp_seq ?_
      refine wp_cond_mkF (t := decide (v7 < x1.n)) rfl (fun h => ?_) (fun h => ?_)
      · have hr := (if_pos h).symm.trans hr
        refine wp_skip ?_
        refine th_n ?_
        obtain ⟨y5, hy5, hk4⟩ := bnd hr
        clear hr
        refine wp_seq_cut (fun a w => ∃ (a21 : Option Addr) (c21 : Nat) (a22 : Option Addr) (c22 : Nat)(b : Nat → Value), a = mkF 20 b [(0, pt p1 0), (6, I x1.n), (7, I v7)] ∧ St G w (osl r_T_term_Entry 48 a21 c21 y5.st.Log :: osl r_T_raft_Msg 39 a22 c22 y5.out :: blk p1 (cl [I y5.id, I y5.n, pt p2 0, I y5.st.Term, I y5.st.Vote, I y5.st.Base, I y5.st.BaseTerm, S y5.st.Snap, .slice a21 y5.st.Log.length c21, I y5.role, I y5.leader, I y5.commit, I y5.applied, I y5.timer, .bool (y5.votes 0), .bool (y5.votes 1), .bool (y5.votes 2), .bool (y5.votes 3), .bool (y5.votes 4), I (y5.next 0), I (y5.next 1), I (y5.next 2), I (y5.next 3), I (y5.next 4), I (y5.match_ 0), I (y5.match_ 1), I (y5.match_ 2), I (y5.match_ 3), I (y5.match_ 4), .slice a22 y5.out.length c22, I y5.broken] 66) :: blk p2 (cl [I x2, I x3, .bool x4, I x5, .map (some p3)] 79) :: mpr S (rPt r_T_platter_file) p3 x6 :: F)) ?_ ?_
        · rintro _ w ⟨a21, c21, a22, c22, b, rfl, hst⟩
          have hr := hk4
          refine wp_reg ?_
          refine L_pure 2 [(0, pt p1 0), (6, I x1.n), (7, I (IntKind.i64.wrap (v7 + 1)))] (by kernel_rfl) fun b => ?_
          refine wpL_nil ?_
          refine th_n ?_
          have hst := (((((hst.pull 4).pull 4).pull 4).pull 4).pull 4)
          exact ⟨(IntKind.i64.wrap (v7 + 1)), y5, a21, c21, a22, c22, (kpX [(0, pt p1 0), (6, I x1.n), (7, I (IntKind.i64.wrap (v7 + 1)))] rfl ⟨hst, hr⟩)⟩
        · have hr := hy5
          refine wp_block ?_
          refine wp_seq ?_
          refine wp_reg ?_
          refine L_pure 2 [(0, pt p1 0), (2, I v7), (6, I x1.n), (7, I v7)] (by kernel_rfl) fun b => ?_
          refine wpL_nil ?_
          refine th_n ?_
          refine wp_seq ?_
          refine wp_reg ?_
          refine L_pure 4 [(0, pt p1 0), (2, I v7), (6, I x1.n), (7, I v7), (10, I v7), (13, pt p1 0)] (by kernel_rfl) fun b => ?_
          refine L_op rfl (O_run (v := I v8.id) (w' := w) (R_load (hst.pull 2) rfl rfl) rfl rfl ?_)
          refine L_pure 1 [(0, pt p1 0), (2, I v7), (6, I x1.n), (7, I v7), (15, .bool (v7 != v8.id))] (by kernel_rfl) fun b => ?_
          refine wpL_nil ?_
          refine th_n ?_
          refine wp_cond_mkF (t := (v7 != v8.id)) rfl (fun h => ?_) (fun h => ?_)
          · have hr := (if_pos h).symm.trans hr
            refine wp_reg ?_
            refine L_pure 2 [(0, pt p1 0), (6, I x1.n), (7, I v7), (16, pt p1 0), (17, I v7)] (by kernel_rfl) fun b => ?_
            obtain ⟨y6, hy6, hr⟩ := bnd hr
            refine L_op rfl (O_call (vs := #[pt p1 0, I v7]) Tryz.call49 (by kernel_rfl) (raft_Node_tell_ok k v8 x2 x3 x4 x5 x6 v7 p1 p2 p3 a15 c15 a16 c16 y6 (((((hst.pull 1).pull 1).pull 4).pull 4).pull 4) hy6 fun a23 c23 a24 c24 w hst => ?_))
            refine CK_ret rfl ?_
            refine wpL_nil ?_
            refine ib_n (th_n ?_)
            obtain rfl := Option.some.inj hr
            have hst := (((((hst.pull 4).pull 4).pull 4).pull 4).pull 4)
            exact ⟨a23, c23, a24, c24, (kpX [(0, pt p1 0), (6, I x1.n), (7, I v7)] rfl hst)⟩
          · have hr := (if_neg (by rw [h]; exact Bool.false_ne_true)).symm.trans hr
            refine wp_skip ?_
            refine ib_n (th_n ?_)
            obtain rfl := Option.some.inj hr
            have hst := (((((hst.pull 4).pull 4).pull 4).pull 4).pull 4)
            exact ⟨a15, c15, a16, c16, (kpX [(0, pt p1 0), (6, I x1.n), (7, I v7)] rfl hst)⟩
      · have hr := (if_neg (by rw [h]; exact Bool.false_ne_true)).symm.trans hr
        refine wp_exit ?_
        refine th_x (th_x (ib_x (th_n ?_)))
        obtain rfl := Option.some.inj hr
        have hst := (((((hst.pull 4).pull 4).pull 4).pull 4).pull 4)
        exact ⟨a15, c15, a16, c16, (kpX [] rfl hst)⟩
def raft_Node_patience (_k : Nat) (x1 : T_raft_Node) (_x2 : Int) (_x3 : Int) (_x4 : Bool) (_x5 : Int) (_x6 : (List ((List UInt8) × (Option T_platter_file)))) : Option (Int) := some ((IntKind.i64.wrap (4 + (IntKind.i64.wrap (2 * x1.id)))))
set_option maxRecDepth 100000 in
set_option maxHeartbeats 4000000 in
theorem raft_Node_patience_ok {G w : World} {F : List HP} {R : Ending → World → Prop} (k : Nat) (x1 : T_raft_Node) (x2 : Int) (x3 : Int) (x4 : Bool) (x5 : Int) (x6 : (List ((List UInt8) × (Option T_platter_file)))) (p1 : Nat) (p2 : Nat) (p3 : Nat) (a1 : Option Addr) (c1 : Nat) (a2 : Option Addr) (c2 : Nat) (r : (Int)) (hst : St G w (blk p1 (cl [I x1.id, I x1.n, pt p2 0, I x1.st.Term, I x1.st.Vote, I x1.st.Base, I x1.st.BaseTerm, S x1.st.Snap, .slice a1 x1.st.Log.length c1, I x1.role, I x1.leader, I x1.commit, I x1.applied, I x1.timer, .bool (x1.votes 0), .bool (x1.votes 1), .bool (x1.votes 2), .bool (x1.votes 3), .bool (x1.votes 4), I (x1.next 0), I (x1.next 1), I (x1.next 2), I (x1.next 3), I (x1.next 4), I (x1.match_ 0), I (x1.match_ 1), I (x1.match_ 2), I (x1.match_ 3), I (x1.match_ 4), .slice a2 x1.out.length c2, I x1.broken] 66) :: blk p2 (cl [I x2, I x3, .bool x4, I x5, .map (some p3)] 79) :: mpr S (rPt r_T_platter_file) p3 x6 :: osl r_T_term_Entry 48 a1 c1 x1.st.Log :: osl r_T_raft_Msg 39 a2 c2 x1.out :: F)) (hr : raft_Node_patience k x1 x2 x3 x4 x5 x6 = some r)
    (hR : ∀ w', St G w' (blk p1 (cl [I x1.id, I x1.n, pt p2 0, I x1.st.Term, I x1.st.Vote, I x1.st.Base, I x1.st.BaseTerm, S x1.st.Snap, .slice a1 x1.st.Log.length c1, I x1.role, I x1.leader, I x1.commit, I x1.applied, I x1.timer, .bool (x1.votes 0), .bool (x1.votes 1), .bool (x1.votes 2), .bool (x1.votes 3), .bool (x1.votes 4), I (x1.next 0), I (x1.next 1), I (x1.next 2), I (x1.next 3), I (x1.next 4), I (x1.match_ 0), I (x1.match_ 1), I (x1.match_ 2), I (x1.match_ 3), I (x1.match_ 4), .slice a2 x1.out.length c2, I x1.broken] 66) :: blk p2 (cl [I x2, I x3, .bool x4, I x5, .map (some p3)] 79) :: mpr S (rPt r_T_platter_file) p3 x6 :: osl r_T_term_Entry 48 a1 c1 x1.st.Log :: osl r_T_raft_Msg 39 a2 c2 x1.out :: F) → R (.returned (I r)) w') :
    Calls Tryz.prog 33 #[pt p1 0] w R := by
  unfold raft_Node_patience at hr
  refine enter Tryz.func33 rfl [(0, pt p1 0)] rfl rfl fun b => ?_
  refine wp_seq ?_
  refine wp_reg ?_
  refine L_pure 1 [(0, pt p1 0)] (by kernel_rfl) fun b => ?_
  refine wpL_nil ?_
  refine th_n ?_
  refine wp_seq ?_
  refine wp_reg ?_
  refine L_pure 3 [(5, pt p1 0)] (by kernel_rfl) fun b => ?_
  refine L_op rfl (O_run (v := I x1.id) (w' := w) (R_load hst rfl rfl) rfl rfl ?_)
  refine L_pure 3 [(2, I (IntKind.i64.wrap (4 + (IntKind.i64.wrap (2 * x1.id)))))] (by kernel_rfl) fun b => ?_
  refine wpL_nil ?_
  refine th_n ?_
  refine wp_ret ?_
  refine ret1 rfl rfl ?_
  obtain rfl := Option.some.inj hr
  have hst := (((((hst.pull 4).pull 4).pull 4).pull 4).pull 4)
  exact hR _ hst
def wire_Enc_U_l2 (k : Nat) (x4 : Int) : Nat → Int → Option (Int)
  | 0, _ => none
  | j + 1, v16 => (if 0 ≤ v16 then (if decide ((shR .u64 x4 v16) > 127) = true then (wire_Enc_U_l2 k x4 j (IntKind.i64.wrap (v16 + 7))) else some (v16)) else none)
def wire_Enc_U_l3 (k : Nat) (x4 : Int) : Nat → Int → (List Int) → Option ((List Int))
  | 0, _, _ => none
  | j + 1, v19, v20 => (if decide (v19 > 0) = true then (if 0 ≤ v19 then (if room (v20.length + ([(bOr .u8 (IntKind.u8.wrap (shR .u64 x4 v19)) 128)]).length) 1 = true then (wire_Enc_U_l3 k x4 j (IntKind.i64.wrap (v19 - 7)) (v20 ++ ([(bOr .u8 (IntKind.u8.wrap (shR .u64 x4 v19)) 128)]))) else none) else none) else some (v20))
def wire_Enc_U_l1 (k : Nat) (x2 : (List Int)) : Nat → Int → (List Int) → Option ((List Int))
  | 0, _, _ => none
  | j + 1, v13, v14 => (if decide (v13 < (x2.length : Int)) = true then (Option.bind (gt x2 v13) fun x4 => (Option.bind (wire_Enc_U_l2 k x4 k (0 : Int)) fun y5 => (Option.bind (wire_Enc_U_l3 k x4 k y5 v14) fun y6 => (if room (y6.length + ([(IntKind.u8.wrap (bAnd .u64 x4 127))]).length) 1 = true then (wire_Enc_U_l1 k x2 j (IntKind.i64.wrap (v13 + 1)) (y6 ++ ([(IntKind.u8.wrap (bAnd .u64 x4 127))]))) else none)))) else some (v14))
def wire_Enc_U (k : Nat) (x1 : T_wire_Enc) (x2 : (List Int)) : Option ((List Int)) := (Option.bind (wire_Enc_U_l1 k x2 k (0 : Int) x1.b) fun y4 => some (y4))
set_option maxRecDepth 100000 in
set_option maxHeartbeats 4000000 in
theorem wire_Enc_U_ok {G w : World} {F : List HP} {R : Ending → World → Prop} (k : Nat) (x1 : T_wire_Enc) (x2 : (List Int)) (p1 : Nat) (a1 : Option Addr) (c1 : Nat) (a2 : Option Addr) (c2 : Nat) (r : ((List Int))) (hst : St G w (blk p1 (cl [.slice a1 x1.b.length c1] 85) :: osl (rI .u8) 5 a1 c1 x1.b :: osl (rI .u64) 118 a2 c2 x2 :: F)) (hr : wire_Enc_U k x1 x2 = some r)
    (hR : ∀ (a11 : Option Addr) (c11 : Nat) w', St G w' (osl (rI .u8) 5 a11 c11 r :: blk p1 (cl [.slice a11 r.length c11] 85) :: osl (rI .u64) 118 a2 c2 x2 :: F) → R (.returned (pt p1 0)) w') :
    Calls Tryz.prog 63 #[pt p1 0, .slice a2 x2.length c2] w R := by
  unfold wire_Enc_U at hr
  refine enter Tryz.func63 rfl [(0, pt p1 0), (1, .slice a2 x2.length c2)] rfl rfl fun b => ?_
  refine wp_seq ?_
  refine wp_reg ?_
  refine L_pure 1 [(0, pt p1 0), (1, .slice a2 x2.length c2)] (by kernel_rfl) fun b => ?_
  refine wpL_nil ?_
  refine th_n ?_
  refine wp_seq ?_
  refine wp_seq ?_
  refine wp_reg ?_
  refine L_pure 3 [(0, pt p1 0), (8, .slice a2 x2.length c2), (9, I (x2.length : Int)), (10, I 0)] (by kernel_rfl) fun b => ?_
  refine wpL_nil ?_
  refine th_n ?_
  obtain ⟨y4, hy4, hk4⟩ := bnd hr
  clear hr
  refine Go.Hx.wp_cut (fun a w => ∃ (a14 : Option Addr) (c14 : Nat)(b : Nat → Value), a = mkF 52 b [(0, pt p1 0)] ∧ St G w (osl (rI .u8) 5 a14 c14 y4 :: blk p1 (cl [.slice a14 y4.length c14] 85) :: osl (rI .u64) 118 a2 c2 x2 :: F)) ?_ ?_
  · rintro _ w ⟨a14, c14, b, rfl, hst⟩
    have hr := hk4
    refine th_n ?_
    refine wp_seq ?_
    refine wp_reg ?_
    refine L_pure 2 [(4, pt p1 0)] (by kernel_rfl) fun b => ?_
    refine wpL_nil ?_
    refine th_n ?_
    refine wp_ret ?_
    refine ret1 rfl rfl ?_
    obtain rfl := Option.some.inj hr
    have hst := (((hst.pull 2).pull 2).pull 2)
    exact hR a14 c14 _ hst
  · have hst := (((hst.pull 2).pull 1).pull 2)
    refine wp_block ?_
    refine wp_loop_fuel (fun j a w => ∃ (v13 : Int) (v14 : (List Int)) (a12 : Option Addr) (c12 : Nat) (b : Nat → Value), a = mkF 52 b [(0, pt p1 0), (8, .slice a2 x2.length c2), (9, I (x2.length : Int)), (10, I v13)] ∧ St G w (osl (rI .u8) 5 a12 c12 v14 :: blk p1 (cl [.slice a12 v14.length c12] 85) :: osl (rI .u64) 118 a2 c2 x2 :: F) ∧ wire_Enc_U_l1 k x2 j v13 v14 = some y4) (k := k) ⟨(0 : Int), x1.b, a1, c1, (kpX [(0, pt p1 0), (8, .slice a2 x2.length c2), (9, I (x2.length : Int)), (10, I 0)] rfl ⟨hst, hy4⟩)⟩ ?_ ?_
    · rintro _ _ ⟨_, _, _, _, _, _, _, h⟩
      rw [wire_Enc_U_l1] at h
      cases h
    · rintro j _ w ⟨v13, v14, a12, c12, b, rfl, hst, hr⟩
      rw [wire_Enc_U_l1] at hr
      refine wp_seq ?_
      refine wp_reg ?_
      refine L_pure 1 [(0, pt p1 0), (8, .slice a2 x2.length c2), (9, I (x2.length : Int)), (10, I v13), (11, .bool (decide (v13 < (x2.length : Int))))] (by kernel_rfl) fun b => ?_
      refine wpL_nil ?_
      refine th_n ?_
      refine wp_seq ?_
      refine wp_cond_mkF (t := decide (v13 < (x2.length : Int))) rfl (fun h => ?_) (fun h => ?_)
      · have hr := (if_pos h).symm.trans hr
        refine wp_skip ?_
        refine th_n ?_
        refine wp_seq ?_
        refine wp_block ?_
        refine wp_seq ?_
        refine wp_reg ?_
        obtain ⟨x4, hx2, hr⟩ := bnd hr
        refine L_op rfl (O_run (v := pt (ab a2) (ao a2 + v13.toNat * 1)) (w' := w) (R_ia L141 rfl rfl (osl_addr (hst.pull 2) hx2) (gt_some hx2).1 (gt_some hx2).2.1) rfl rfl ?_)
        obtain ⟨q2, hc2, hst⟩ := osl_cells (hst.pull 2) hx2
        have hst := hst.drop
        refine L_op rfl (O_run (v := .int .u64 x4) (w' := w) (R_loadAt (off := ao a2 + v13.toNat * 1) (j := 0) hc2 rfl rfl) rfl rfl ?_)
        refine L_pure 1 [(0, pt p1 0), (6, .int .u64 x4), (8, .slice a2 x2.length c2), (9, I (x2.length : Int)), (10, I v13)] (by kernel_rfl) fun b => ?_
        refine wpL_nil ?_
        refine th_n ?_
        refine wp_seq ?_
        refine wp_reg ?_
        refine L_pure 1 [(0, pt p1 0), (6, .int .u64 x4), (7, I 0), (8, .slice a2 x2.length c2), (9, I (x2.length : Int)), (10, I v13)] (by kernel_rfl) fun b => ?_
        refine wpL_nil ?_
        refine th_n ?_
        obtain ⟨y5, hy5, hk5⟩ := bnd hr
        clear hr
        refine wp_seq_cut (fun a w => ∃ (b : Nat → Value), a = mkF 52 b [(0, pt p1 0), (6, .int .u64 x4), (7, I y5), (8, .slice a2 x2.length c2), (9, I (x2.length : Int)), (10, I v13)] ∧ St G w (osl (rI .u64) 118 a2 c2 x2 :: osl (rI .u8) 5 a12 c12 v14 :: blk p1 (cl [.slice a12 v14.length c12] 85) :: F)) ?_ ?_
        · rintro _ w ⟨b, rfl, hst⟩
          have hr := hk5
          obtain ⟨y6, hy6, hk6⟩ := bnd hr
          clear hr
          refine wp_seq_cut (fun a w => ∃ (a17 : Option Addr) (c17 : Nat)(b : Nat → Value), a = mkF 52 b [(0, pt p1 0), (6, .int .u64 x4), (8, .slice a2 x2.length c2), (9, I (x2.length : Int)), (10, I v13)] ∧ St G w (osl (rI .u8) 5 a17 c17 y6 :: osl (rI .u64) 118 a2 c2 x2 :: blk p1 (cl [.slice a17 y6.length c17] 85) :: F)) ?_ ?_
          · rintro _ w ⟨a17, c17, b, rfl, hst⟩
            have hr := hk6
            refine wp_reg ?_
            refine L_pure 4 [(0, pt p1 0), (6, .int .u64 x4), (8, .slice a2 x2.length c2), (9, I (x2.length : Int)), (10, I v13), (38, pt p1 0), (41, pt p1 0)] (by kernel_rfl) fun b => ?_
            refine L_op rfl (O_run (v := .slice a17 y6.length c17) (w' := w) (R_load (hst.pull 2) rfl rfl) rfl rfl ?_)
            refine L_pure 3 [(0, pt p1 0), (8, .slice a2 x2.length c2), (9, I (x2.length : Int)), (10, I v13), (38, pt p1 0), (42, .slice a17 y6.length c17), (45, .int .u8 (IntKind.u8.wrap (bAnd .u64 x4 127)))] (by kernel_rfl) fun b => ?_
            refine L_op rfl (O_bs (T := 5) [.int .u8 (IntKind.u8.wrap (bAnd .u64 x4 127))] #[(0, .int .u8 (IntKind.u8.wrap (bAnd .u64 x4 127)))] hst (by kernel_rfl) (by kernel_rfl) rfl fun p5 w hst => ?_)
            have hst := osl_of_blk0 (ecs := [[.int .u8 (IntKind.u8.wrap (bAnd .u64 x4 127))]]) (rI .u8) [(IntKind.u8.wrap (bAnd .u64 x4 127))] rfl (fun m => ⟨⟨(), rfl, trivial⟩, trivial⟩) rfl hst
            obtain ⟨hb4, hr⟩ := chk hr
            refine L_op rfl (O_app_o L83 (hst.pull 1) rfl rfl hb4 rfl fun a19 c19 w hst => ?_)
            refine L_pure 2 [(0, pt p1 0), (8, .slice a2 x2.length c2), (9, I (x2.length : Int)), (10, I v13), (47, .slice a19 (y6 ++ ([(IntKind.u8.wrap (bAnd .u64 x4 127))])).length c19), (49, pt p1 0)] (by kernel_rfl) fun b => ?_
            refine L_op rfl (O_store [.slice a19 (y6 ++ ([(IntKind.u8.wrap (bAnd .u64 x4 127))])).length c19] (hst.pull 3) rfl rfl (by kernel_rfl) fun w hst => ?_)
            refine wpL_nil ?_
            refine ib_n (th_n ?_)
            refine wp_reg ?_
            refine L_pure 2 [(0, pt p1 0), (8, .slice a2 x2.length c2), (9, I (x2.length : Int)), (10, I (IntKind.i64.wrap (v13 + 1)))] (by kernel_rfl) fun b => ?_
            refine wpL_nil ?_
            refine th_n ?_
            have hst := ((((hst.pull 3).pull 1).pull 2).cut 3 1)
            exact ⟨(IntKind.i64.wrap (v13 + 1)), (y6 ++ ([(IntKind.u8.wrap (bAnd .u64 x4 127))])), a19, c19, (kpX [(0, pt p1 0), (8, .slice a2 x2.length c2), (9, I (x2.length : Int)), (10, I (IntKind.i64.wrap (v13 + 1)))] rfl ⟨hst, hr⟩)⟩
          · have hst := (((hst.pull 2).pull 1).pull 2)
            refine wp_block ?_
            refine wp_loop_fuel (fun j a w => ∃ (v19 : Int) (v20 : (List Int)) (a15 : Option Addr) (c15 : Nat) (b : Nat → Value), a = mkF 52 b [(0, pt p1 0), (6, .int .u64 x4), (7, I v19), (8, .slice a2 x2.length c2), (9, I (x2.length : Int)), (10, I v13)] ∧ St G w (osl (rI .u8) 5 a15 c15 v20 :: osl (rI .u64) 118 a2 c2 x2 :: blk p1 (cl [.slice a15 v20.length c15] 85) :: F) ∧ wire_Enc_U_l3 k x4 j v19 v20 = some y6) (k := k) ⟨y5, v14, a12, c12, (kpX [(0, pt p1 0), (6, .int .u64 x4), (7, I y5), (8, .slice a2 x2.length c2), (9, I (x2.length : Int)), (10, I v13)] rfl ⟨hst, hy6⟩)⟩ ?_ ?_
            · rintro _ _ ⟨_, _, _, _, _, _, _, h⟩
              rw [wire_Enc_U_l3] at h
              cases h
            · rintro j _ w ⟨v19, v20, a15, c15, b, rfl, hst, hr⟩
              rw [wire_Enc_U_l3] at hr
              refine wp_seq ?_
              refine wp_seq ?_
              refine wp_reg ?_
              refine L_pure 2 [(0, pt p1 0), (6, .int .u64 x4), (7, I v19), (8, .slice a2 x2.length c2), (9, I (x2.length : Int)), (10, I v13), (21, .bool (decide (v19 > 0)))] (by kernel_rfl) fun b => ?_
              refine wpL_nil ?_
              refine th_n ?_
              refine wp_cond_mkF (t := decide (v19 > 0)) rfl (fun h => ?_) (fun h => ?_)
              · have hr := (if_pos h).symm.trans hr
                refine wp_skip ?_
                refine th_n ?_
                refine wp_seq ?_
                refine wp_block ?_
                refine wp_regG (SP 11 (fun w => St G w (osl (rI .u8) 5 a15 c15 v20 :: osl (rI .u64) 118 a2 c2 x2 :: blk p1 (cl [.slice a15 v20.length c15] 85) :: F))) rfl ?_
                have hst := hst.draw (n := w.drawn + 1)
                generalize { w with drawn := w.drawn + 1 } = w at hst ⊢
                refine P_pure (i := 0) (v := pt p1 0) 11 rfl rfl (by kernel_rfl) (fun _ _ _ h => h) rfl rfl rfl (by kernel_rfl) (.inr (((hst.pull 2).pull 2).pull 2)) ?_
                refine P_pure (i := 1) (v := pt p1 0) 11 rfl rfl (by kernel_rfl) (fun _ _ _ h => h) rfl rfl rfl (by kernel_rfl) (.inr (((hst.pull 2).pull 2).pull 2)) ?_
                refine P_pure (i := 2) (v := pt p1 0) 11 rfl rfl (by kernel_rfl) (fun _ _ _ h => h) rfl rfl rfl (by kernel_rfl) (.inr (((hst.pull 2).pull 2).pull 2)) ?_
                refine P_pure (i := 3) (v := pt p1 0) 11 rfl rfl (by kernel_rfl) (fun _ _ _ h => h) rfl rfl rfl (by kernel_rfl) (.inr (((hst.pull 2).pull 2).pull 2)) ?_
                refine P_take (i := 4) (v := .slice a15 v20.length c15) 11 [4] (by kernel_rfl) rfl (by kernel_rfl) (fun _ _ _ h => h) rfl rfl rfl (fun w hst => R_load (hst.pull 2) rfl rfl) ((((hst.pull 2).pull 2).pull 2)) ?_
                refine P_pure (i := 5) (v := .int .u64 x4) 11 rfl rfl (by kernel_rfl) (fun _ _ _ h => h) rfl rfl rfl (by kernel_rfl) (.inr (((hst.pull 2).pull 2).pull 2)) ?_
                refine P_pure (i := 6) (v := I v19) 11 rfl rfl (by kernel_rfl) (fun _ _ _ h => h) rfl rfl rfl (by kernel_rfl) (.inr (((hst.pull 2).pull 2).pull 2)) ?_
                obtain ⟨hy4, hr⟩ := chk hr
                refine P_any (i := 7) (v := .int .u64 (shR .u64 x4 v19)) 11 rfl rfl (by kernel_rfl) (fun _ _ _ h => h) rfl rfl rfl (fun w => (R_shr rfl rfl hy4)) (.inr (((hst.pull 2).pull 2).pull 2)) ?_
                refine P_pure (i := 8) (v := .int .u8 (IntKind.u8.wrap (shR .u64 x4 v19))) 11 rfl rfl (by kernel_rfl) (fun _ _ _ h => h) rfl rfl rfl (by kernel_rfl) (.inr (((hst.pull 2).pull 2).pull 2)) ?_
                refine P_pure (i := 9) (v := .int .u8 (bOr .u8 (IntKind.u8.wrap (shR .u64 x4 v19)) 128)) 11 rfl rfl (by kernel_rfl) (fun _ _ _ h => h) rfl rfl rfl (by kernel_rfl) (.inr (((hst.pull 2).pull 2).pull 2)) ?_
                refine P_one (i := 10) 11 (by kernel_rfl) rfl rfl (O_bs (T := 5) [.int .u8 (bOr .u8 (IntKind.u8.wrap (shR .u64 x4 v19)) 128)] #[(0, .int .u8 (bOr .u8 (IntKind.u8.wrap (shR .u64 x4 v19)) 128))] hst (by kernel_rfl) (by kernel_rfl) rfl fun p4 w hst => ?_)
                have hst := osl_of_blk0 (ecs := [[.int .u8 (bOr .u8 (IntKind.u8.wrap (shR .u64 x4 v19)) 128)]]) (rI .u8) [(bOr .u8 (IntKind.u8.wrap (shR .u64 x4 v19)) 128)] rfl (fun m => ⟨⟨(), rfl, trivial⟩, trivial⟩) rfl hst
                refine ⟨((((hst.pull 3).pull 3).pull 3).cut 3 1), ?_⟩
                obtain ⟨hb3, hr⟩ := chk hr
                refine P_act (i := 11) 11 (by kernel_rfl) rfl rfl (by kernel_rfl) (O_app_o L83 (hst.pull 1) rfl rfl hb3 rfl fun a18 c18 w hst => ?_)
                refine P_pure (i := 12) (v := pt p1 0) 11 rfl rfl (by kernel_rfl) (fun _ _ _ h => h) rfl rfl rfl (by kernel_rfl) (.inl (by kernel_rfl)) ?_
                refine P_pure (i := 13) (v := pt p1 0) 11 rfl rfl (by kernel_rfl) (fun _ _ _ h => h) rfl rfl rfl (by kernel_rfl) (.inl (by kernel_rfl)) ?_
                refine P_act (i := 14) 11 (by kernel_rfl) rfl rfl (by kernel_rfl) (O_store [.slice a18 (v20 ++ ([(bOr .u8 (IntKind.u8.wrap (shR .u64 x4 v19)) 128)])).length c18] (hst.pull 3) rfl rfl (by kernel_rfl) fun w hst => ?_)
                refine wpG_done (by kernel_rfl) ?_ _
                refine C_keepQ [(0, pt p1 0), (6, .int .u64 x4), (7, I v19), (8, .slice a2 x2.length c2), (9, I (x2.length : Int)), (10, I v13)] rfl fun b => ?_
                refine ib_n (th_n ?_)
                refine wp_reg ?_
                refine L_pure 3 [(0, pt p1 0), (6, .int .u64 x4), (7, I (IntKind.i64.wrap (v19 - 7))), (8, .slice a2 x2.length c2), (9, I (x2.length : Int)), (10, I v13)] (by kernel_rfl) fun b => ?_
                refine wpL_nil ?_
                refine th_n ?_
                have hst := (((hst.pull 3).pull 2).cut 3 1)
                exact ⟨(IntKind.i64.wrap (v19 - 7)), (v20 ++ ([(bOr .u8 (IntKind.u8.wrap (shR .u64 x4 v19)) 128)])), a18, c18, (kpX [(0, pt p1 0), (6, .int .u64 x4), (7, I (IntKind.i64.wrap (v19 - 7))), (8, .slice a2 x2.length c2), (9, I (x2.length : Int)), (10, I v13)] rfl ⟨hst, hr⟩)⟩
              · have hr := (if_neg (by rw [h]; exact Bool.false_ne_true)).symm.trans hr
                refine wp_exit ?_
                refine th_x (th_x (ib_x (th_n ?_)))
                obtain rfl := Option.some.inj hr
                have hst := (((hst.pull 2).pull 2).pull 2)
                exact ⟨a15, c15, (kpX [(0, pt p1 0), (6, .int .u64 x4), (8, .slice a2 x2.length c2), (9, I (x2.length : Int)), (10, I v13)] rfl hst)⟩
        · have hst := (((hst.pull 2).pull 2).pull 2)
          refine wp_block ?_
          refine wp_loop_fuel (fun j a w => ∃ (v16 : Int) (b : Nat → Value), a = mkF 52 b [(0, pt p1 0), (6, .int .u64 x4), (7, I v16), (8, .slice a2 x2.length c2), (9, I (x2.length : Int)), (10, I v13)] ∧ St G w (osl (rI .u64) 118 a2 c2 x2 :: osl (rI .u8) 5 a12 c12 v14 :: blk p1 (cl [.slice a12 v14.length c12] 85) :: F) ∧ wire_Enc_U_l2 k x4 j v16 = some y5) (k := k) ⟨(0 : Int), (kpX [(0, pt p1 0), (6, .int .u64 x4), (7, I 0), (8, .slice a2 x2.length c2), (9, I (x2.length : Int)), (10, I v13)] rfl ⟨hst, hy5⟩)⟩ ?_ ?_
          · rintro _ _ ⟨_, _, _, _, h⟩
            rw [wire_Enc_U_l2] at h
            cases h
          · rintro j _ w ⟨v16, b, rfl, hst, hr⟩
            rw [wire_Enc_U_l2] at hr
            refine wp_seq ?_
            refine wp_seq ?_
            refine wp_reg ?_
            refine L_pure 2 [(0, pt p1 0), (6, .int .u64 x4), (7, I v16), (8, .slice a2 x2.length c2), (9, I (x2.length : Int)), (10, I v13), (14, .int .u64 x4), (15, I v16)] (by kernel_rfl) fun b => ?_
            obtain ⟨hy3, hr⟩ := chk hr
            refine L_op rfl (O_run (v := .int .u64 (shR .u64 x4 v16)) (w' := w) (R_shr rfl rfl hy3) rfl rfl ?_)
            refine L_pure 1 [(0, pt p1 0), (6, .int .u64 x4), (7, I v16), (8, .slice a2 x2.length c2), (9, I (x2.length : Int)), (10, I v13), (17, .bool (decide ((shR .u64 x4 v16) > 127)))] (by kernel_rfl) fun b => ?_
            refine wpL_nil ?_
            refine th_n ?_
            refine wp_cond_mkF (t := decide ((shR .u64 x4 v16) > 127)) rfl (fun h => ?_) (fun h => ?_)
            · have hr := (if_pos h).symm.trans hr
              refine wp_skip ?_
              refine th_n ?_
              refine wp_block ?_
              refine wp_reg ?_
              refine L_pure 3 [(0, pt p1 0), (6, .int .u64 x4), (7, I (IntKind.i64.wrap (v16 + 7))), (8, .slice a2 x2.length c2), (9, I (x2.length : Int)), (10, I v13)] (by kernel_rfl) fun b => ?_
              refine wpL_nil ?_
              refine ib_n (th_n ?_)
              have hst := (((hst.pull 2).pull 2).pull 2)
              exact ⟨(IntKind.i64.wrap (v16 + 7)), (kpX [(0, pt p1 0), (6, .int .u64 x4), (7, I (IntKind.i64.wrap (v16 + 7))), (8, .slice a2 x2.length c2), (9, I (x2.length : Int)), (10, I v13)] rfl ⟨hst, hr⟩)⟩
            · have hr := (if_neg (by rw [h]; exact Bool.false_ne_true)).symm.trans hr
              refine wp_exit ?_
              refine th_x (th_x (ib_x (th_n ?_)))
              obtain rfl := Option.some.inj hr
              have hst := (((hst.pull 2).pull 2).pull 2)
              exact (kpX [(0, pt p1 0), (6, .int .u64 x4), (7, I v16), (8, .slice a2 x2.length c2), (9, I (x2.length : Int)), (10, I v13)] rfl hst)
      · have hr := (if_neg (by rw [h]; exact Bool.false_ne_true)).symm.trans hr
        refine wp_exit ?_
        refine th_x (th_x (ib_x (th_n ?_)))
        obtain rfl := Option.some.inj hr
        have hst := (((hst.pull 2).pull 2).pull 2)
        exact ⟨a12, c12, (kpX [(0, pt p1 0)] rfl hst)⟩
def wire_Enc_I_l1 (k : Nat) (x2 : (List Int)) : Nat → Int → (List Int) → Option ((List Int))
  | 0, _, _ => none
  | j + 1, v7, v8 => (if decide (v7 < (x2.length : Int)) = true then (Option.bind (gt x2 v7) fun x4 => (Option.bind (wire_Enc_U k (T_wire_Enc.mk v8) ([(IntKind.u64.wrap (mx2 x4 0))])) fun y4 => (wire_Enc_I_l1 k x2 j (IntKind.i64.wrap (v7 + 1)) y4))) else some (v8))
def wire_Enc_I (k : Nat) (x1 : T_wire_Enc) (x2 : (List Int)) : Option ((List Int)) := (Option.bind (wire_Enc_I_l1 k x2 k (0 : Int) x1.b) fun y3 => some (y3))
set_option maxRecDepth 100000 in
set_option maxHeartbeats 4000000 in
theorem wire_Enc_I_ok {G w : World} {F : List HP} {R : Ending → World → Prop} (k : Nat) (x1 : T_wire_Enc) (x2 : (List Int)) (p1 : Nat) (a1 : Option Addr) (c1 : Nat) (a2 : Option Addr) (c2 : Nat) (r : ((List Int))) (hst : St G w (blk p1 (cl [.slice a1 x1.b.length c1] 85) :: osl (rI .u8) 5 a1 c1 x1.b :: osl (rI .i64) 3 a2 c2 x2 :: F)) (hr : wire_Enc_I k x1 x2 = some r)
    (hR : ∀ (a7 : Option Addr) (c7 : Nat) w', St G w' (osl (rI .u8) 5 a7 c7 r :: blk p1 (cl [.slice a7 r.length c7] 85) :: osl (rI .i64) 3 a2 c2 x2 :: F) → R (.returned (pt p1 0)) w') :
    Calls Tryz.prog 41 #[pt p1 0, .slice a2 x2.length c2] w R := by
  unfold wire_Enc_I at hr
  refine enter Tryz.func41 rfl [(0, pt p1 0), (1, .slice a2 x2.length c2)] rfl rfl fun b => ?_
  refine wp_seq ?_
  refine wp_reg ?_
  refine L_pure 1 [(0, pt p1 0), (1, .slice a2 x2.length c2)] (by kernel_rfl) fun b => ?_
  refine wpL_nil ?_
  refine th_n ?_
  refine wp_seq ?_
  refine wp_seq ?_
  refine wp_reg ?_
  refine L_pure 3 [(0, pt p1 0), (7, .slice a2 x2.length c2), (8, I (x2.length : Int)), (9, I 0)] (by kernel_rfl) fun b => ?_
  refine wpL_nil ?_
  refine th_n ?_
  obtain ⟨y3, hy3, hk2⟩ := bnd hr
  clear hr
  refine Go.Hx.wp_cut (fun a w => ∃ (a10 : Option Addr) (c10 : Nat)(b : Nat → Value), a = mkF 21 b [(0, pt p1 0)] ∧ St G w (osl (rI .u8) 5 a10 c10 y3 :: blk p1 (cl [.slice a10 y3.length c10] 85) :: osl (rI .i64) 3 a2 c2 x2 :: F)) ?_ ?_
  · rintro _ w ⟨a10, c10, b, rfl, hst⟩
    have hr := hk2
    refine th_n ?_
    refine wp_seq ?_
    refine wp_reg ?_
    refine L_pure 2 [(4, pt p1 0)] (by kernel_rfl) fun b => ?_
    refine wpL_nil ?_
    refine th_n ?_
    refine wp_ret ?_
    refine ret1 rfl rfl ?_
    obtain rfl := Option.some.inj hr
    have hst := (((hst.pull 2).pull 2).pull 2)
    exact hR a10 c10 _ hst
  · have hst := (((hst.pull 2).pull 1).pull 2)
    refine wp_block ?_
    refine wp_loop_fuel (fun j a w => ∃ (v7 : Int) (v8 : (List Int)) (a8 : Option Addr) (c8 : Nat) (b : Nat → Value), a = mkF 21 b [(0, pt p1 0), (7, .slice a2 x2.length c2), (8, I (x2.length : Int)), (9, I v7)] ∧ St G w (osl (rI .u8) 5 a8 c8 v8 :: blk p1 (cl [.slice a8 v8.length c8] 85) :: osl (rI .i64) 3 a2 c2 x2 :: F) ∧ wire_Enc_I_l1 k x2 j v7 v8 = some y3) (k := k) ⟨(0 : Int), x1.b, a1, c1, (kpX [(0, pt p1 0), (7, .slice a2 x2.length c2), (8, I (x2.length : Int)), (9, I 0)] rfl ⟨hst, hy3⟩)⟩ ?_ ?_
    · rintro _ _ ⟨_, _, _, _, _, _, _, h⟩
      rw [wire_Enc_I_l1] at h
      cases h
    · rintro j _ w ⟨v7, v8, a8, c8, b, rfl, hst, hr⟩
      rw [wire_Enc_I_l1] at hr
      refine wp_seq ?_
      refine wp_reg ?_
      refine L_pure 1 [(0, pt p1 0), (7, .slice a2 x2.length c2), (8, I (x2.length : Int)), (9, I v7), (10, .bool (decide (v7 < (x2.length : Int))))] (by kernel_rfl) fun b => ?_
      refine wpL_nil ?_
      refine th_n ?_
      refine wp_seq ?_
      refine wp_cond_mkF (t := decide (v7 < (x2.length : Int))) rfl (fun h => ?_) (fun h => ?_)
      · have hr := (if_pos h).symm.trans hr
        refine wp_skip ?_
        refine th_n ?_
        refine wp_seq ?_
        refine wp_block ?_
        refine wp_seq ?_
        refine wp_reg ?_
        obtain ⟨x4, hx2, hr⟩ := bnd hr
        refine L_op rfl (O_run (v := pt (ab a2) (ao a2 + v7.toNat * 1)) (w' := w) (R_ia L22 rfl rfl (osl_addr (hst.pull 2) hx2) (gt_some hx2).1 (gt_some hx2).2.1) rfl rfl ?_)
        obtain ⟨q2, hc2, hst⟩ := osl_cells (hst.pull 2) hx2
        have hst := hst.drop
        refine L_op rfl (O_run (v := I x4) (w' := w) (R_loadAt (off := ao a2 + v7.toNat * 1) (j := 0) hc2 rfl rfl) rfl rfl ?_)
        refine L_pure 1 [(0, pt p1 0), (6, I x4), (7, .slice a2 x2.length c2), (8, I (x2.length : Int)), (9, I v7)] (by kernel_rfl) fun b => ?_
        refine wpL_nil ?_
        refine th_n ?_
        refine wp_reg ?_
        refine L_pure 4 [(0, pt p1 0), (7, .slice a2 x2.length c2), (8, I (x2.length : Int)), (9, I v7), (13, pt p1 0), (16, .int .u64 (IntKind.u64.wrap (mx2 x4 0)))] (by kernel_rfl) fun b => ?_
        refine L_op rfl (O_bs (T := 118) [.int .u64 (IntKind.u64.wrap (mx2 x4 0))] #[(0, .int .u64 (IntKind.u64.wrap (mx2 x4 0)))] hst (by kernel_rfl) (by kernel_rfl) rfl fun p3 w hst => ?_)
        have hst := osl_of_blk0 (ecs := [[.int .u64 (IntKind.u64.wrap (mx2 x4 0))]]) (rI .u64) [(IntKind.u64.wrap (mx2 x4 0))] rfl (fun m => ⟨⟨(), rfl, trivial⟩, trivial⟩) rfl hst
        obtain ⟨y4, hy4, hr⟩ := bnd hr
        refine L_op rfl (O_call (vs := #[pt p1 0, .slice (some ⟨p3, 0, none⟩) ([(IntKind.u64.wrap (mx2 x4 0))]).length 1]) Tryz.call63 (by kernel_rfl) (wire_Enc_U_ok k (T_wire_Enc.mk v8) ([(IntKind.u64.wrap (mx2 x4 0))]) p1 a8 c8 (some ⟨p3, 0, none⟩) 1 y4 ((hst.pull 2).pull 3) hy4 fun a11 c11 w hst => ?_))
        refine CK_ret rfl ?_
        refine wpL_nil ?_
        refine ib_n (th_n ?_)
        refine wp_reg ?_
        refine L_pure 2 [(0, pt p1 0), (7, .slice a2 x2.length c2), (8, I (x2.length : Int)), (9, I (IntKind.i64.wrap (v7 + 1)))] (by kernel_rfl) fun b => ?_
        refine wpL_nil ?_
        refine th_n ?_
        have hst := ((((hst.pull 3).pull 2).pull 2).cut 3 1)
        exact ⟨(IntKind.i64.wrap (v7 + 1)), y4, a11, c11, (kpX [(0, pt p1 0), (7, .slice a2 x2.length c2), (8, I (x2.length : Int)), (9, I (IntKind.i64.wrap (v7 + 1)))] rfl ⟨hst, hr⟩)⟩
      · have hr := (if_neg (by rw [h]; exact Bool.false_ne_true)).symm.trans hr
        refine wp_exit ?_
        refine th_x (th_x (ib_x (th_n ?_)))
        obtain rfl := Option.some.inj hr
        have hst := (((hst.pull 2).pull 2).pull 2)
        exact ⟨a8, c8, (kpX [(0, pt p1 0)] rfl hst)⟩
def wire_Enc_Bytes (_k : Nat) (x1 : T_wire_Enc) : Option ((List UInt8)) := some ((bS x1.b))
set_option maxRecDepth 100000 in
set_option maxHeartbeats 4000000 in
theorem wire_Enc_Bytes_ok {G w : World} {F : List HP} {R : Ending → World → Prop} (k : Nat) (x1 : T_wire_Enc) (p1 : Nat) (a1 : Option Addr) (c1 : Nat) (r : ((List UInt8))) (hst : St G w (blk p1 (cl [.slice a1 x1.b.length c1] 85) :: dsl (rI .u8) a1 c1 x1.b :: F)) (hr : wire_Enc_Bytes k x1 = some r)
    (hR : ∀ w', St G w' (blk p1 (cl [.slice a1 x1.b.length c1] 85) :: dsl (rI .u8) a1 c1 x1.b :: F) → R (.returned (S r)) w') :
    Calls Tryz.prog 42 #[pt p1 0] w R := by
  unfold wire_Enc_Bytes at hr
  refine enter Tryz.func42 rfl [(0, pt p1 0)] rfl rfl fun b => ?_
  refine wp_seq ?_
  refine wp_reg ?_
  refine L_pure 1 [(0, pt p1 0)] (by kernel_rfl) fun b => ?_
  refine wpL_nil ?_
  refine th_n ?_
  refine wp_seq ?_
  refine wp_reg ?_
  refine L_pure 3 [(5, pt p1 0)] (by kernel_rfl) fun b => ?_
  refine L_op rfl (O_run (v := .slice a1 x1.b.length c1) (w' := w) (R_load hst rfl rfl) rfl rfl ?_)
  refine L_op rfl (O_run (v := S (bS x1.b)) (w' := w) (R_b2s Tryz.underlying83 Tryz.underlying5 Tryz.underlying9 (dsl_b2s Tryz.underlying83 (hst.pull 1)).1 (dsl_b2s Tryz.underlying83 (hst.pull 1)).2 rfl) rfl rfl ?_)
  refine L_pure 1 [(2, S (bS x1.b))] (by kernel_rfl) fun b => ?_
  refine wpL_nil ?_
  refine th_n ?_
  refine wp_ret ?_
  refine ret1 rfl rfl ?_
  obtain rfl := Option.some.inj hr
  have hst := ((hst.pull 1).pull 1)
  exact hR _ hst
def seal_four (_k : Nat) (x1 : Int) : Option ((List UInt8)) := some ((bS ([(IntKind.u8.wrap (shR .u32 x1 24)), (IntKind.u8.wrap (shR .u32 x1 16)), (IntKind.u8.wrap (shR .u32 x1 8)), (IntKind.u8.wrap x1)])))
set_option maxRecDepth 100000 in
set_option maxHeartbeats 4000000 in
theorem seal_four_ok {G w : World} {F : List HP} {R : Ending → World → Prop} (k : Nat) (x1 : Int) (r : ((List UInt8))) (hst : St G w (F)) (hr : seal_four k x1 = some r)
    (hR : ∀ w', St G w' (F) → R (.returned (S r)) w') :
    Calls Tryz.prog 61 #[.int .u32 x1] w R := by
  unfold seal_four at hr
  refine enter Tryz.func61 rfl [(0, .int .u32 x1)] rfl rfl fun b => ?_
  refine wp_seq ?_
  refine wp_reg ?_
  refine L_pure 1 [(0, .int .u32 x1)] (by kernel_rfl) fun b => ?_
  refine wpL_nil ?_
  refine th_n ?_
  refine wp_seq ?_
  refine wp_reg ?_
  refine L_pure 11 [(5, .int .u8 (IntKind.u8.wrap (shR .u32 x1 24))), (8, .int .u8 (IntKind.u8.wrap (shR .u32 x1 16))), (11, .int .u8 (IntKind.u8.wrap (shR .u32 x1 8))), (13, .int .u8 (IntKind.u8.wrap x1))] (by kernel_rfl) fun b => ?_
  refine L_op rfl (O_bs (T := 5) [.int .u8 (IntKind.u8.wrap (shR .u32 x1 24)), .int .u8 (IntKind.u8.wrap (shR .u32 x1 16)), .int .u8 (IntKind.u8.wrap (shR .u32 x1 8)), .int .u8 (IntKind.u8.wrap x1)] #[(0, .int .u8 (IntKind.u8.wrap (shR .u32 x1 24))), (1, .int .u8 (IntKind.u8.wrap (shR .u32 x1 16))), (2, .int .u8 (IntKind.u8.wrap (shR .u32 x1 8))), (3, .int .u8 (IntKind.u8.wrap x1))] hst (by kernel_rfl) (by kernel_rfl) rfl fun p2 w hst => ?_)
  have hst := osl_of_blk0 (ecs := [[.int .u8 (IntKind.u8.wrap (shR .u32 x1 24))], [.int .u8 (IntKind.u8.wrap (shR .u32 x1 16))], [.int .u8 (IntKind.u8.wrap (shR .u32 x1 8))], [.int .u8 (IntKind.u8.wrap x1)]]) (rI .u8) [(IntKind.u8.wrap (shR .u32 x1 24)), (IntKind.u8.wrap (shR .u32 x1 16)), (IntKind.u8.wrap (shR .u32 x1 8)), (IntKind.u8.wrap x1)] rfl (fun m => ⟨⟨(), rfl, trivial⟩, ⟨(), rfl, trivial⟩, ⟨(), rfl, trivial⟩, ⟨(), rfl, trivial⟩, trivial⟩) rfl hst
  refine L_op rfl (O_run (v := S (bS ([(IntKind.u8.wrap (shR .u32 x1 24)), (IntKind.u8.wrap (shR .u32 x1 16)), (IntKind.u8.wrap (shR .u32 x1 8)), (IntKind.u8.wrap x1)]))) (w' := w) (R_b2s Tryz.underlying83 Tryz.underlying5 Tryz.underlying9 (osl_b2s Tryz.underlying83 hst).1 (osl_b2s Tryz.underlying83 hst).2 rfl) rfl rfl ?_)
  refine L_pure 1 [(2, S (bS ([(IntKind.u8.wrap (shR .u32 x1 24)), (IntKind.u8.wrap (shR .u32 x1 16)), (IntKind.u8.wrap (shR .u32 x1 8)), (IntKind.u8.wrap x1)])))] (by kernel_rfl) fun b => ?_
  refine wpL_nil ?_
  refine th_n ?_
  refine wp_ret ?_
  refine ret1 rfl rfl ?_
  obtain rfl := Option.some.inj hr
  have hst := (hst.cut 0 1)
  exact hR _ hst
def seal_Frame_l1 (k : Nat) (x1 : (List (List UInt8))) : Nat → Int → Int → Option (Int)
  | 0, _, _ => none
  | j + 1, v11, v12 => (if decide (v12 < (x1.length : Int)) = true then (Option.bind (gt x1 v12) fun x6 => (seal_Frame_l1 k x1 j (IntKind.i64.wrap (v11 + (x6.length : Int))) (IntKind.i64.wrap (v12 + 1)))) else some (v11))
def seal_Frame_l2 (k : Nat) (x1 : (List (List UInt8))) : Nat → (List UInt8) → Int → Option ((List UInt8))
  | 0, _, _ => none
  | j + 1, v15, v16 => (if decide (v16 < (x1.length : Int)) = true then (Option.bind (gt x1 v16) fun x8 => (Option.bind (cat v15 x8) fun x9 => (seal_Frame_l2 k x1 j x9 (IntKind.i64.wrap (v16 + 1))))) else some (v15))
def seal_Frame (k : Nat) (x1 : (List (List UInt8))) : Option ((List UInt8)) := (Option.bind (seal_Frame_l1 k x1 k (0 : Int) (0 : Int)) fun y6 => (Option.bind (seal_four k (IntKind.u32.wrap y6)) fun y7 => (if room (([y7]).length + x1.length) 16 = true then (Option.bind (seal_Sum k (([y7]) ++ x1)) fun y8 => (Option.bind (seal_four k y8) fun y9 => (Option.bind (cat y7 y9) fun x7 => (Option.bind (seal_Frame_l2 k x1 k x7 (0 : Int)) fun y10 => some (y10))))) else none)))
set_option maxRecDepth 100000 in
set_option maxHeartbeats 4000000 in
theorem seal_Frame_ok {G w : World} {F : List HP} {R : Ending → World → Prop} (k : Nat) (x1 : (List (List UInt8))) (a1 : Option Addr) (c1 : Nat) (r : ((List UInt8))) (hst : St G w (dsl rS a1 c1 x1 :: F)) (hr : seal_Frame k x1 = some r)
    (hR : ∀ w', St G w' (dsl rS a1 c1 x1 :: F) → R (.returned (S r)) w') :
    Calls Tryz.prog 40 #[.slice a1 x1.length c1] w R := by
  unfold seal_Frame at hr
  refine enter Tryz.func40 rfl [(0, .slice a1 x1.length c1)] rfl rfl fun b => ?_
  refine wp_seq ?_
  refine wp_reg ?_
  refine L_pure 1 [(0, .slice a1 x1.length c1)] (by kernel_rfl) fun b => ?_
  refine wpL_nil ?_
  refine th_n ?_
  refine wp_seq ?_
  refine wp_reg ?_
  refine L_pure 1 [(0, .slice a1 x1.length c1), (3, I 0)] (by kernel_rfl) fun b => ?_
  refine wpL_nil ?_
  refine th_n ?_
  refine wp_seq ?_
  refine wp_seq ?_
  refine wp_reg ?_
  refine L_pure 3 [(0, .slice a1 x1.length c1), (3, I 0), (10, .slice a1 x1.length c1), (11, I (x1.length : Int)), (12, I 0)] (by kernel_rfl) fun b => ?_
  refine wpL_nil ?_
  refine th_n ?_
  obtain ⟨y6, hy6, hk3⟩ := bnd hr
  clear hr
  refine Go.Hx.wp_cut (fun a w => ∃ (b : Nat → Value), a = mkF 43 b [(0, .slice a1 x1.length c1), (3, I y6)] ∧ St G w (dsl rS a1 c1 x1 :: F)) ?_ ?_
  · rintro _ w ⟨b, rfl, hst⟩
    have hr := hk3
    refine th_n ?_
    refine wp_seq ?_
    refine wp_reg ?_
    refine L_pure 2 [(0, .slice a1 x1.length c1), (22, .int .u32 (IntKind.u32.wrap y6))] (by kernel_rfl) fun b => ?_
    obtain ⟨y7, hy7, hr⟩ := bnd hr
    refine L_op rfl (O_call (vs := #[.int .u32 (IntKind.u32.wrap y6)]) Tryz.call61 (by kernel_rfl) (seal_four_ok k (IntKind.u32.wrap y6) y7 hst hy7 fun w hst => ?_))
    refine CK_ret rfl ?_
    refine L_pure 1 [(0, .slice a1 x1.length c1), (6, S y7)] (by kernel_rfl) fun b => ?_
    refine wpL_nil ?_
    refine th_n ?_
    refine wp_seq ?_
    refine wp_reg ?_
    refine L_pure 2 [(0, .slice a1 x1.length c1), (24, S y7), (25, S y7)] (by kernel_rfl) fun b => ?_
    refine L_op rfl (O_bs (T := 9) [S y7] #[(0, S y7)] hst (by kernel_rfl) (by kernel_rfl) rfl fun p2 w hst => ?_)
    have hst := osl_of_blk0 (ecs := [[S y7]]) rS [y7] rfl (fun m => ⟨⟨(), rfl, trivial⟩, trivial⟩) rfl hst
    refine L_pure 1 [(0, .slice a1 x1.length c1), (24, S y7), (26, .slice (some ⟨p2, 0, none⟩) ([y7]).length 1), (27, .slice a1 x1.length c1)] (by kernel_rfl) fun b => ?_
    obtain ⟨hb2, hr⟩ := chk hr
    refine L_op rfl (O_app_d L25 ((hst.pull 1).pull 1) rfl rfl hb2 rfl fun a3 c3 w hst => ?_)
    obtain ⟨y8, hy8, hr⟩ := bnd hr
    have hst := osl_freeze hst
    refine L_op rfl (O_call (vs := #[.slice a3 (([y7]) ++ x1).length c3]) Tryz.call62 (by kernel_rfl) (seal_Sum_ok k (([y7]) ++ x1) a3 c3 y8 hst hy8 fun w hst => ?_))
    refine CK_ret rfl ?_
    obtain ⟨y9, hy9, hr⟩ := bnd hr
    refine L_op rfl (O_call (vs := #[.int .u32 y8]) Tryz.call61 (by kernel_rfl) (seal_four_ok k y8 y9 hst hy9 fun w hst => ?_))
    refine CK_ret rfl ?_
    obtain ⟨x7, hx6, hr⟩ := bnd hr
    refine L_op rfl (O_run (v := S x7) (w' := w) (R_cat rfl rfl hx6) rfl rfl ?_)
    refine L_pure 1 [(0, .slice a1 x1.length c1), (7, S x7)] (by kernel_rfl) fun b => ?_
    refine wpL_nil ?_
    refine th_n ?_
    refine wp_seq ?_
    refine wp_seq ?_
    refine wp_reg ?_
    refine L_pure 3 [(7, S x7), (32, .slice a1 x1.length c1), (33, I (x1.length : Int)), (34, I 0)] (by kernel_rfl) fun b => ?_
    refine wpL_nil ?_
    refine th_n ?_
    obtain ⟨y10, hy10, hk4⟩ := bnd hr
    clear hr
    refine Go.Hx.wp_cut (fun a w => ∃ (b : Nat → Value), a = mkF 43 b [(7, S y10)] ∧ St G w (dsl rS a3 c3 (([y7]) ++ x1) :: dsl rS a1 c1 x1 :: F)) ?_ ?_
    · rintro _ w ⟨b, rfl, hst⟩
      have hr := hk4
      refine th_n ?_
      refine wp_seq ?_
      refine wp_reg ?_
      refine L_pure 2 [(2, S y10)] (by kernel_rfl) fun b => ?_
      refine wpL_nil ?_
      refine th_n ?_
      refine wp_ret ?_
      refine ret1 rfl rfl ?_
      obtain rfl := Option.some.inj hr
      have hst := ((hst.pull 1).cut 1 1)
      exact hR _ hst
    · have hst := ((hst.pull 1).pull 1)
      refine wp_block ?_
      refine wp_loop_fuel (fun j a w => ∃ (v15 : (List UInt8)) (v16 : Int) (b : Nat → Value), a = mkF 43 b [(7, S v15), (32, .slice a1 x1.length c1), (33, I (x1.length : Int)), (34, I v16)] ∧ St G w (dsl rS a3 c3 (([y7]) ++ x1) :: dsl rS a1 c1 x1 :: F) ∧ seal_Frame_l2 k x1 j v15 v16 = some y10) (k := k) ⟨x7, (0 : Int), (kpX [(7, S x7), (32, .slice a1 x1.length c1), (33, I (x1.length : Int)), (34, I 0)] rfl ⟨hst, hy10⟩)⟩ ?_ ?_
      · rintro _ _ ⟨_, _, _, _, _, h⟩
        rw [seal_Frame_l2] at h
        cases h
      · rintro j _ w ⟨v15, v16, b, rfl, hst, hr⟩
        rw [seal_Frame_l2] at hr
        refine wp_seq ?_
        refine wp_reg ?_
        refine L_pure 1 [(7, S v15), (32, .slice a1 x1.length c1), (33, I (x1.length : Int)), (34, I v16), (35, .bool (decide (v16 < (x1.length : Int))))] (by kernel_rfl) fun b => ?_
        refine wpL_nil ?_
        refine th_n ?_
        refine wp_seq ?_
        refine wp_cond_mkF (t := decide (v16 < (x1.length : Int))) rfl (fun h => ?_) (fun h => ?_)
        · have hr := (if_pos h).symm.trans hr
          refine wp_skip ?_
          refine th_n ?_
          refine wp_seq ?_
          refine wp_block ?_
          refine wp_seq ?_
          refine wp_reg ?_
          obtain ⟨x8, hx7, hr⟩ := bnd hr
          refine L_op rfl (O_run (v := pt (ab a1) (ao a1 + v16.toNat * 1)) (w' := w) (R_ia L25 rfl rfl (dsl_addr (hst.pull 1) hx7) (gt_some hx7).1 (gt_some hx7).2.1) rfl rfl ?_)
          obtain ⟨q4, hc4, hst⟩ := dsl_cells (hst.pull 1) hx7
          have hst := hst.drop
          refine L_op rfl (O_run (v := S x8) (w' := w) (R_loadAt (off := ao a1 + v16.toNat * 1) (j := 0) hc4 rfl rfl) rfl rfl ?_)
          refine L_pure 1 [(7, S v15), (9, S x8), (32, .slice a1 x1.length c1), (33, I (x1.length : Int)), (34, I v16)] (by kernel_rfl) fun b => ?_
          refine wpL_nil ?_
          refine th_n ?_
          refine wp_reg ?_
          refine L_pure 2 [(32, .slice a1 x1.length c1), (33, I (x1.length : Int)), (34, I v16), (38, S v15), (39, S x8)] (by kernel_rfl) fun b => ?_
          obtain ⟨x9, hx8, hr⟩ := bnd hr
          refine L_op rfl (O_run (v := S x9) (w' := w) (R_cat rfl rfl hx8) rfl rfl ?_)
          refine L_pure 1 [(7, S x9), (32, .slice a1 x1.length c1), (33, I (x1.length : Int)), (34, I v16)] (by kernel_rfl) fun b => ?_
          refine wpL_nil ?_
          refine ib_n (th_n ?_)
          refine wp_reg ?_
          refine L_pure 2 [(7, S x9), (32, .slice a1 x1.length c1), (33, I (x1.length : Int)), (34, I (IntKind.i64.wrap (v16 + 1)))] (by kernel_rfl) fun b => ?_
          refine wpL_nil ?_
          refine th_n ?_
          have hst := (hst.pull 1)
          exact ⟨x9, (IntKind.i64.wrap (v16 + 1)), (kpX [(7, S x9), (32, .slice a1 x1.length c1), (33, I (x1.length : Int)), (34, I (IntKind.i64.wrap (v16 + 1)))] rfl ⟨hst, hr⟩)⟩
        · have hr := (if_neg (by rw [h]; exact Bool.false_ne_true)).symm.trans hr
          refine wp_exit ?_
          refine th_x (th_x (ib_x (th_n ?_)))
          obtain rfl := Option.some.inj hr
          have hst := ((hst.pull 1).pull 1)
          exact (kpX [(7, S v15)] rfl hst)
  · refine wp_block ?_
    refine wp_loop_fuel (fun j a w => ∃ (v11 : Int) (v12 : Int) (b : Nat → Value), a = mkF 43 b [(0, .slice a1 x1.length c1), (3, I v11), (10, .slice a1 x1.length c1), (11, I (x1.length : Int)), (12, I v12)] ∧ St G w (dsl rS a1 c1 x1 :: F) ∧ seal_Frame_l1 k x1 j v11 v12 = some y6) (k := k) ⟨(0 : Int), (0 : Int), (kpX [(0, .slice a1 x1.length c1), (3, I 0), (10, .slice a1 x1.length c1), (11, I (x1.length : Int)), (12, I 0)] rfl ⟨hst, hy6⟩)⟩ ?_ ?_
    · rintro _ _ ⟨_, _, _, _, _, h⟩
      rw [seal_Frame_l1] at h
      cases h
    · rintro j _ w ⟨v11, v12, b, rfl, hst, hr⟩
      rw [seal_Frame_l1] at hr
      refine wp_seq ?_
      refine wp_reg ?_
      refine L_pure 1 [(0, .slice a1 x1.length c1), (3, I v11), (10, .slice a1 x1.length c1), (11, I (x1.length : Int)), (12, I v12), (13, .bool (decide (v12 < (x1.length : Int))))] (by kernel_rfl) fun b => ?_
      refine wpL_nil ?_
      refine th_n ?_
      refine wp_seq ?_
      refine wp_cond_mkF (t := decide (v12 < (x1.length : Int))) rfl (fun h => ?_) (fun h => ?_)
      · have hr := (if_pos h).symm.trans hr
        refine wp_skip ?_
        refine th_n ?_
        refine wp_seq ?_
        refine wp_block ?_
        refine wp_seq ?_
        refine wp_reg ?_
        obtain ⟨x6, hx5, hr⟩ := bnd hr
        refine L_op rfl (O_run (v := pt (ab a1) (ao a1 + v12.toNat * 1)) (w' := w) (R_ia L25 rfl rfl (dsl_addr hst hx5) (gt_some hx5).1 (gt_some hx5).2.1) rfl rfl ?_)
        obtain ⟨q3, hc3, hst⟩ := dsl_cells hst hx5
        have hst := hst.drop
        refine L_op rfl (O_run (v := S x6) (w' := w) (R_loadAt (off := ao a1 + v12.toNat * 1) (j := 0) hc3 rfl rfl) rfl rfl ?_)
        refine L_pure 1 [(0, .slice a1 x1.length c1), (3, I v11), (5, S x6), (10, .slice a1 x1.length c1), (11, I (x1.length : Int)), (12, I v12)] (by kernel_rfl) fun b => ?_
        refine wpL_nil ?_
        refine th_n ?_
        refine wp_reg ?_
        refine L_pure 5 [(0, .slice a1 x1.length c1), (3, I (IntKind.i64.wrap (v11 + (x6.length : Int)))), (10, .slice a1 x1.length c1), (11, I (x1.length : Int)), (12, I v12)] (by kernel_rfl) fun b => ?_
        refine wpL_nil ?_
        refine ib_n (th_n ?_)
        refine wp_reg ?_
        refine L_pure 2 [(0, .slice a1 x1.length c1), (3, I (IntKind.i64.wrap (v11 + (x6.length : Int)))), (10, .slice a1 x1.length c1), (11, I (x1.length : Int)), (12, I (IntKind.i64.wrap (v12 + 1)))] (by kernel_rfl) fun b => ?_
        refine wpL_nil ?_
        refine th_n ?_
        exact ⟨(IntKind.i64.wrap (v11 + (x6.length : Int))), (IntKind.i64.wrap (v12 + 1)), (kpX [(0, .slice a1 x1.length c1), (3, I (IntKind.i64.wrap (v11 + (x6.length : Int)))), (10, .slice a1 x1.length c1), (11, I (x1.length : Int)), (12, I (IntKind.i64.wrap (v12 + 1)))] rfl ⟨hst, hr⟩)⟩
      · have hr := (if_neg (by rw [h]; exact Bool.false_ne_true)).symm.trans hr
        refine wp_exit ?_
        refine th_x (th_x (ib_x (th_n ?_)))
        obtain rfl := Option.some.inj hr
        exact (kpX [(0, .slice a1 x1.length c1), (3, I v11)] rfl hst)
def term_SaveTerm (k : Nat) (x1 : Int) (x2 : Int) (x3 : Bool) (x4 : Int) (x5 : (List ((List UInt8) × (Option T_platter_file)))) (x6 : Int) (x7 : Int) : Option (Int × Int × Int × (List ((List UInt8) × (Option T_platter_file)))) := (Option.bind (wire_Enc_I k (T_wire_Enc.mk ([])) ([x6, x7])) fun y5 => (Option.bind (wire_Enc_Bytes k (T_wire_Enc.mk y5)) fun y6 => (Option.bind (seal_Frame k ([y6])) fun y7 => (Option.bind (term_keep k x1 x2 x3 x4 x5 ([116, 101, 114, 109]) y7) fun y8 => some (y8.1, y8.2.1, y8.2.2.1, y8.2.2.2)))))
set_option maxRecDepth 100000 in
set_option maxHeartbeats 4000000 in
theorem term_SaveTerm_ok {G w : World} {F : List HP} {R : Ending → World → Prop} (k : Nat) (x1 : Int) (x2 : Int) (x3 : Bool) (x4 : Int) (x5 : (List ((List UInt8) × (Option T_platter_file)))) (x6 : Int) (x7 : Int) (p1 : Nat) (p2 : Nat) (r : (Int × Int × Int × (List ((List UInt8) × (Option T_platter_file))))) (hst : St G w (blk p1 (cl [I x1, I x2, .bool x3, I x4, .map (some p2)] 79) :: mpr S (rPt r_T_platter_file) p2 x5 :: F)) (hr : term_SaveTerm k x1 x2 x3 x4 x5 x6 x7 = some r)
    (hR : ∀ w', St G w' (blk p1 (cl [I x1, I r.2.1, .bool x3, I r.2.2.1, .map (some p2)] 79) :: mpr S (rPt r_T_platter_file) p2 r.2.2.2 :: F) → R (.returned (I r.1)) w') :
    Calls Tryz.prog 22 #[pt p1 0, I x6, I x7] w R := by
  unfold term_SaveTerm at hr
  refine enter Tryz.func22 rfl [(0, pt p1 0), (1, I x6), (2, I x7)] rfl rfl fun b => ?_
  refine wp_seq ?_
  refine wp_reg ?_
  refine L_pure 1 [(0, pt p1 0), (1, I x6), (2, I x7)] (by kernel_rfl) fun b => ?_
  refine wpL_nil ?_
  refine th_n ?_
  refine wp_seq ?_
  refine wp_reg ?_
  refine L_op rfl (O_alloc (i := Tryz.t85) (z := .agg #[.slice none 0 0]) [.slice none 0 0] hst rfl rfl rfl rfl fun p6 w hst => ?_)
  refine wpL_nil ?_
  refine th_n ?_
  refine wp_seq ?_
  refine wp_reg ?_
  refine L_pure 3 [(7, pt p6 0), (8, pt p1 0), (9, I x6), (10, I x7)] (by kernel_rfl) fun b => ?_
  refine L_op rfl (O_bs (T := 3) [I x6, I x7] #[(0, I x6), (1, I x7)] hst (by kernel_rfl) (by kernel_rfl) rfl fun p7 w hst => ?_)
  have hst := osl_of_blk0 (ecs := [[I x6], [I x7]]) (rI .i64) [x6, x7] rfl (fun m => ⟨⟨(), rfl, trivial⟩, ⟨(), rfl, trivial⟩, trivial⟩) rfl hst
  obtain ⟨y5, hy5, hr⟩ := bnd hr
  have hst := osl_nil (rI .u8) 5 hst
  refine L_op rfl (O_call (vs := #[pt p6 0, .slice (some ⟨p7, 0, none⟩) ([x6, x7]).length 2]) Tryz.call41 (by kernel_rfl) (wire_Enc_I_ok k (T_wire_Enc.mk ([])) ([x6, x7]) p6 none 0 (some ⟨p7, 0, none⟩) 2 y5 (((hst.pull 1).pull 1).pull 2) hy5 fun a2 c2 w hst => ?_))
  refine CK_ret rfl ?_
  obtain ⟨y6, hy6, hr⟩ := bnd hr
  have hst := osl_freeze hst
  refine L_op rfl (O_call (vs := #[pt p6 0]) Tryz.call42 (by kernel_rfl) (wire_Enc_Bytes_ok k (T_wire_Enc.mk y5) p6 a2 c2 y6 (hst.pull 1) hy6 fun w hst => ?_))
  refine CK_ret rfl ?_
  refine L_op rfl (O_bs (T := 9) [S y6] #[(0, S y6)] hst (by kernel_rfl) (by kernel_rfl) rfl fun p8 w hst => ?_)
  have hst := osl_of_blk0 (ecs := [[S y6]]) rS [y6] rfl (fun m => ⟨⟨(), rfl, trivial⟩, trivial⟩) rfl hst
  obtain ⟨y7, hy7, hr⟩ := bnd hr
  have hst := osl_freeze hst
  refine L_op rfl (O_call (vs := #[.slice (some ⟨p8, 0, none⟩) ([y6]).length 1]) Tryz.call40 (by kernel_rfl) (seal_Frame_ok k ([y6]) (some ⟨p8, 0, none⟩) 1 y7 hst hy7 fun w hst => ?_))
  refine CK_ret rfl ?_
  obtain ⟨y8, hy8, hr⟩ := bnd hr
  refine L_op rfl (O_call (vs := #[pt p1 0, S ([116, 101, 114, 109]), S y7]) Tryz.call39 (by kernel_rfl) (term_keep_ok k x1 x2 x3 x4 x5 ([116, 101, 114, 109]) y7 p1 p2 y8 ((hst.pull 5).pull 5) hy8 fun w hst => ?_))
  refine CK_ret rfl ?_
  refine L_pure 1 [(6, I y8.1)] (by kernel_rfl) fun b => ?_
  refine wpL_nil ?_
  refine th_n ?_
  refine wp_ret ?_
  refine ret1 rfl rfl ?_
  obtain rfl := Option.some.inj hr
  have hst := (((hst.pull 1).pull 1).cut 2 4)
  exact hR _ hst
def raft_Node_check (_k : Nat) (x1 : T_raft_Node) (_x2 : Int) (_x3 : Int) (_x4 : Bool) (_x5 : Int) (_x6 : (List ((List UInt8) × (Option T_platter_file)))) (x7 : Int) : Option (Bool × T_raft_Node) := (Option.bind (Option.bind (if (x7 != 0) = true then some ((x1.broken == 0)) else some (false)) fun y4 => (if y4 = true then some ([], x7) else some (x1.out, x1.broken))) fun y3 => some ((y3.2 == 0), (T_raft_Node.mk x1.id x1.n x1.st x1.role x1.leader x1.commit x1.applied x1.timer x1.votes x1.next x1.match_ y3.1 y3.2)))
set_option maxRecDepth 100000 in
set_option maxHeartbeats 4000000 in
theorem raft_Node_check_ok {G w : World} {F : List HP} {R : Ending → World → Prop} (k : Nat) (x1 : T_raft_Node) (x2 : Int) (x3 : Int) (x4 : Bool) (x5 : Int) (x6 : (List ((List UInt8) × (Option T_platter_file)))) (x7 : Int) (p1 : Nat) (p2 : Nat) (p3 : Nat) (a1 : Option Addr) (c1 : Nat) (a2 : Option Addr) (c2 : Nat) (r : (Bool × T_raft_Node)) (hst : St G w (blk p1 (cl [I x1.id, I x1.n, pt p2 0, I x1.st.Term, I x1.st.Vote, I x1.st.Base, I x1.st.BaseTerm, S x1.st.Snap, .slice a1 x1.st.Log.length c1, I x1.role, I x1.leader, I x1.commit, I x1.applied, I x1.timer, .bool (x1.votes 0), .bool (x1.votes 1), .bool (x1.votes 2), .bool (x1.votes 3), .bool (x1.votes 4), I (x1.next 0), I (x1.next 1), I (x1.next 2), I (x1.next 3), I (x1.next 4), I (x1.match_ 0), I (x1.match_ 1), I (x1.match_ 2), I (x1.match_ 3), I (x1.match_ 4), .slice a2 x1.out.length c2, I x1.broken] 66) :: blk p2 (cl [I x2, I x3, .bool x4, I x5, .map (some p3)] 79) :: mpr S (rPt r_T_platter_file) p3 x6 :: osl r_T_term_Entry 48 a1 c1 x1.st.Log :: osl r_T_raft_Msg 39 a2 c2 x1.out :: F)) (hr : raft_Node_check k x1 x2 x3 x4 x5 x6 x7 = some r)
    (hR : ∀ (a4 : Option Addr) (c4 : Nat) (a5 : Option Addr) (c5 : Nat) w', St G w' (osl r_T_term_Entry 48 a4 c4 r.2.st.Log :: osl r_T_raft_Msg 39 a5 c5 r.2.out :: blk p1 (cl [I r.2.id, I r.2.n, pt p2 0, I r.2.st.Term, I r.2.st.Vote, I r.2.st.Base, I r.2.st.BaseTerm, S r.2.st.Snap, .slice a4 r.2.st.Log.length c4, I r.2.role, I r.2.leader, I r.2.commit, I r.2.applied, I r.2.timer, .bool (r.2.votes 0), .bool (r.2.votes 1), .bool (r.2.votes 2), .bool (r.2.votes 3), .bool (r.2.votes 4), I (r.2.next 0), I (r.2.next 1), I (r.2.next 2), I (r.2.next 3), I (r.2.next 4), I (r.2.match_ 0), I (r.2.match_ 1), I (r.2.match_ 2), I (r.2.match_ 3), I (r.2.match_ 4), .slice a5 r.2.out.length c5, I r.2.broken] 66) :: blk p2 (cl [I x2, I x3, .bool x4, I x5, .map (some p3)] 79) :: mpr S (rPt r_T_platter_file) p3 x6 :: F) → R (.returned (.bool r.1)) w') :
    Calls Tryz.prog 48 #[pt p1 0, I x7] w R := by
  unfold raft_Node_check at hr
  refine enter Tryz.func48 rfl [(0, pt p1 0), (1, I x7)] rfl rfl fun b => ?_
  refine wp_seq ?_
  refine wp_reg ?_
  refine L_pure 1 [(0, pt p1 0), (1, I x7)] (by kernel_rfl) fun b => ?_
  refine wpL_nil ?_
  refine th_n ?_
  obtain ⟨y3, hy3, hk3⟩ := bnd hr
  clear hr
  refine wp_seq_cut (fun a w => ∃ (a6 : Option Addr) (c6 : Nat)(b : Nat → Value), a = mkF 26 b [(0, pt p1 0)] ∧ St G w (osl r_T_raft_Msg 39 a6 c6 y3.1 :: blk p1 (cl [I x1.id, I x1.n, pt p2 0, I x1.st.Term, I x1.st.Vote, I x1.st.Base, I x1.st.BaseTerm, S x1.st.Snap, .slice a1 x1.st.Log.length c1, I x1.role, I x1.leader, I x1.commit, I x1.applied, I x1.timer, .bool (x1.votes 0), .bool (x1.votes 1), .bool (x1.votes 2), .bool (x1.votes 3), .bool (x1.votes 4), I (x1.next 0), I (x1.next 1), I (x1.next 2), I (x1.next 3), I (x1.next 4), I (x1.match_ 0), I (x1.match_ 1), I (x1.match_ 2), I (x1.match_ 3), I (x1.match_ 4), .slice a6 y3.1.length c6, I y3.2] 66) :: blk p2 (cl [I x2, I x3, .bool x4, I x5, .map (some p3)] 79) :: mpr S (rPt r_T_platter_file) p3 x6 :: osl r_T_term_Entry 48 a1 c1 x1.st.Log :: F)) ?_ ?_
  · rintro _ w ⟨a6, c6, b, rfl, hst⟩
    have hr := hk3
    refine wp_seq ?_
    refine wp_reg ?_
    refine L_pure 3 [(23, pt p1 30)] (by kernel_rfl) fun b => ?_
    refine L_op rfl (O_run (v := I y3.2) (w' := w) (R_load (hst.pull 1) rfl rfl) rfl rfl ?_)
    refine L_pure 2 [(4, .bool (y3.2 == 0))] (by kernel_rfl) fun b => ?_
    refine wpL_nil ?_
    refine th_n ?_
    refine wp_ret ?_
    refine ret1 rfl rfl ?_
    obtain rfl := Option.some.inj hr
    have hst := (((((hst.pull 3).pull 3).pull 3).pull 3).pull 4)
    exact hR a1 c1 a6 c6 _ hst
  · have hr := hy3
    obtain ⟨y4, hy4, hk4⟩ := bnd hr
    clear hr
    refine wp_seq_cut (fun a w => ∃ (b : Nat → Value), a = mkF 26 b [(0, pt p1 0), (1, I x7), (13, .bool y4)] ∧ St G w (blk p1 (cl [I x1.id, I x1.n, pt p2 0, I x1.st.Term, I x1.st.Vote, I x1.st.Base, I x1.st.BaseTerm, S x1.st.Snap, .slice a1 x1.st.Log.length c1, I x1.role, I x1.leader, I x1.commit, I x1.applied, I x1.timer, .bool (x1.votes 0), .bool (x1.votes 1), .bool (x1.votes 2), .bool (x1.votes 3), .bool (x1.votes 4), I (x1.next 0), I (x1.next 1), I (x1.next 2), I (x1.next 3), I (x1.next 4), I (x1.match_ 0), I (x1.match_ 1), I (x1.match_ 2), I (x1.match_ 3), I (x1.match_ 4), .slice a2 x1.out.length c2, I x1.broken] 66) :: blk p2 (cl [I x2, I x3, .bool x4, I x5, .map (some p3)] 79) :: mpr S (rPt r_T_platter_file) p3 x6 :: osl r_T_term_Entry 48 a1 c1 x1.st.Log :: osl r_T_raft_Msg 39 a2 c2 x1.out :: F)) ?_ ?_
    · rintro _ w ⟨b, rfl, hst⟩
      have hr := hk4
      refine wp_cond_mkF (t := y4) rfl (fun h => ?_) (fun h => ?_)
      · have hr := (if_pos h).symm.trans hr
        refine wp_seq ?_
        refine wp_reg ?_
        refine L_pure 4 [(0, pt p1 0), (15, I x7), (17, pt p1 30)] (by kernel_rfl) fun b => ?_
        refine L_op rfl (O_store [I x1.id, I x1.n, pt p2 0, I x1.st.Term, I x1.st.Vote, I x1.st.Base, I x1.st.BaseTerm, S x1.st.Snap, .slice a1 x1.st.Log.length c1, I x1.role, I x1.leader, I x1.commit, I x1.applied, I x1.timer, .bool (x1.votes 0), .bool (x1.votes 1), .bool (x1.votes 2), .bool (x1.votes 3), .bool (x1.votes 4), I (x1.next 0), I (x1.next 1), I (x1.next 2), I (x1.next 3), I (x1.next 4), I (x1.match_ 0), I (x1.match_ 1), I (x1.match_ 2), I (x1.match_ 3), I (x1.match_ 4), .slice a2 x1.out.length c2, I x7] hst rfl rfl (by kernel_rfl) fun w hst => ?_)
        refine wpL_nil ?_
        refine th_n ?_
        refine wp_reg ?_
        refine L_pure 3 [(0, pt p1 0), (20, pt p1 29)] (by kernel_rfl) fun b => ?_
        refine L_op rfl (O_store [I x1.id, I x1.n, pt p2 0, I x1.st.Term, I x1.st.Vote, I x1.st.Base, I x1.st.BaseTerm, S x1.st.Snap, .slice a1 x1.st.Log.length c1, I x1.role, I x1.leader, I x1.commit, I x1.applied, I x1.timer, .bool (x1.votes 0), .bool (x1.votes 1), .bool (x1.votes 2), .bool (x1.votes 3), .bool (x1.votes 4), I (x1.next 0), I (x1.next 1), I (x1.next 2), I (x1.next 3), I (x1.next 4), I (x1.match_ 0), I (x1.match_ 1), I (x1.match_ 2), I (x1.match_ 3), I (x1.match_ 4), .slice none 0 0, I x7] hst rfl rfl (by kernel_rfl) fun w hst => ?_)
        refine wpL_nil ?_
        refine th_n ?_
        obtain rfl := Option.some.inj hr
        have hst := osl_nil r_T_raft_Msg 39 hst
        have hst := ((((((hst.pull 4).pull 4).pull 4).pull 4).pull 4).cut 5 1)
        exact ⟨none, 0, (kpX [(0, pt p1 0)] rfl hst)⟩
      · have hr := (if_neg (by rw [h]; exact Bool.false_ne_true)).symm.trans hr
        refine wp_skip ?_
        refine th_n ?_
        obtain rfl := Option.some.inj hr
        have hst := (((((hst.pull 3).pull 3).pull 3).pull 3).pull 4)
        exact ⟨a2, c2, (kpX [(0, pt p1 0)] rfl hst)⟩
    · have hr := hy4
      refine wp_reg ?_
      refine L_pure 3 [(0, pt p1 0), (1, I x7), (7, .bool (x7 != 0))] (by kernel_rfl) fun b => ?_
      by_cases h : (x7 != 0) = true
      · have hr := (if_pos h).symm.trans hr
        refine L_keep ((7, .bool (x7 != 0)) :: [(0, pt p1 0), (1, I x7)]) rfl fun b => ?_
        refine L_bool h ?_
        refine L_pure 3 [(0, pt p1 0), (1, I x7), (7, .bool true), (10, pt p1 30)] (by kernel_rfl) fun b => ?_
        refine L_op rfl (O_run (v := I x1.broken) (w' := w) (R_load hst rfl rfl) rfl rfl ?_)
        refine L_pure 2 [(0, pt p1 0), (1, I x7), (13, .bool (x1.broken == 0))] (by kernel_rfl) fun b => ?_
        refine wpL_nil ?_
        refine th_n ?_
        obtain rfl := Option.some.inj hr
        have hst := (((((hst.pull 4).pull 4).pull 4).pull 4).pull 4)
        exact (kpX [(0, pt p1 0), (1, I x7), (13, .bool (x1.broken == 0))] rfl hst)
      · have hr := (if_neg h).symm.trans hr
        refine L_keep ((7, .bool (x7 != 0)) :: [(0, pt p1 0), (1, I x7)]) rfl fun b => ?_
        refine L_bool (eq_false_of_ne_true h) ?_
        refine L_pure 6 [(0, pt p1 0), (1, I x7), (13, .bool false)] (by kernel_rfl) fun b => ?_
        refine wpL_nil ?_
        refine th_n ?_
        obtain rfl := Option.some.inj hr
        have hst := (((((hst.pull 4).pull 4).pull 4).pull 4).pull 4)
        exact (kpX [(0, pt p1 0), (1, I x7), (13, .bool false)] rfl hst)
def raft_Node_turn (k : Nat) (x1 : T_raft_Node) (x2 : Int) (x3 : Int) (x4 : Bool) (x5 : Int) (x6 : (List ((List UInt8) × (Option T_platter_file)))) (x7 : Int) (x8 : Int) : Option (Bool × T_raft_Node × Int × Int × (List ((List UInt8) × (Option T_platter_file)))) := (Option.bind (term_SaveTerm k x2 x3 x4 x5 x6 x7 x8) fun y4 => (Option.bind (raft_Node_check k x1 x2 y4.2.1 x4 y4.2.2.1 y4.2.2.2 y4.1) fun y5 => (if (!y5.1) = true then some (false, y5.2, y4.2.1, y4.2.2.1, y4.2.2.2) else (Option.bind (if decide (x7 > y5.2.st.Term) = true then some ((0 : Int)) else some (y5.2.leader)) fun y6 => some (true, (T_raft_Node.mk y5.2.id y5.2.n (T_term_State.mk x7 x8 y5.2.st.Base y5.2.st.BaseTerm y5.2.st.Snap y5.2.st.Log) y5.2.role y6 y5.2.commit y5.2.applied y5.2.timer y5.2.votes y5.2.next y5.2.match_ y5.2.out y5.2.broken), y4.2.1, y4.2.2.1, y4.2.2.2)))))
set_option maxRecDepth 100000 in
set_option maxHeartbeats 4000000 in
theorem raft_Node_turn_ok {G w : World} {F : List HP} {R : Ending → World → Prop} (k : Nat) (x1 : T_raft_Node) (x2 : Int) (x3 : Int) (x4 : Bool) (x5 : Int) (x6 : (List ((List UInt8) × (Option T_platter_file)))) (x7 : Int) (x8 : Int) (p1 : Nat) (p2 : Nat) (p3 : Nat) (a1 : Option Addr) (c1 : Nat) (a2 : Option Addr) (c2 : Nat) (r : (Bool × T_raft_Node × Int × Int × (List ((List UInt8) × (Option T_platter_file))))) (hst : St G w (blk p1 (cl [I x1.id, I x1.n, pt p2 0, I x1.st.Term, I x1.st.Vote, I x1.st.Base, I x1.st.BaseTerm, S x1.st.Snap, .slice a1 x1.st.Log.length c1, I x1.role, I x1.leader, I x1.commit, I x1.applied, I x1.timer, .bool (x1.votes 0), .bool (x1.votes 1), .bool (x1.votes 2), .bool (x1.votes 3), .bool (x1.votes 4), I (x1.next 0), I (x1.next 1), I (x1.next 2), I (x1.next 3), I (x1.next 4), I (x1.match_ 0), I (x1.match_ 1), I (x1.match_ 2), I (x1.match_ 3), I (x1.match_ 4), .slice a2 x1.out.length c2, I x1.broken] 66) :: blk p2 (cl [I x2, I x3, .bool x4, I x5, .map (some p3)] 79) :: mpr S (rPt r_T_platter_file) p3 x6 :: osl r_T_term_Entry 48 a1 c1 x1.st.Log :: osl r_T_raft_Msg 39 a2 c2 x1.out :: F)) (hr : raft_Node_turn k x1 x2 x3 x4 x5 x6 x7 x8 = some r)
    (hR : ∀ (a5 : Option Addr) (c5 : Nat) (a6 : Option Addr) (c6 : Nat) w', St G w' (osl r_T_term_Entry 48 a5 c5 r.2.1.st.Log :: osl r_T_raft_Msg 39 a6 c6 r.2.1.out :: blk p1 (cl [I r.2.1.id, I r.2.1.n, pt p2 0, I r.2.1.st.Term, I r.2.1.st.Vote, I r.2.1.st.Base, I r.2.1.st.BaseTerm, S r.2.1.st.Snap, .slice a5 r.2.1.st.Log.length c5, I r.2.1.role, I r.2.1.leader, I r.2.1.commit, I r.2.1.applied, I r.2.1.timer, .bool (r.2.1.votes 0), .bool (r.2.1.votes 1), .bool (r.2.1.votes 2), .bool (r.2.1.votes 3), .bool (r.2.1.votes 4), I (r.2.1.next 0), I (r.2.1.next 1), I (r.2.1.next 2), I (r.2.1.next 3), I (r.2.1.next 4), I (r.2.1.match_ 0), I (r.2.1.match_ 1), I (r.2.1.match_ 2), I (r.2.1.match_ 3), I (r.2.1.match_ 4), .slice a6 r.2.1.out.length c6, I r.2.1.broken] 66) :: blk p2 (cl [I x2, I r.2.2.1, .bool x4, I r.2.2.2.1, .map (some p3)] 79) :: mpr S (rPt r_T_platter_file) p3 r.2.2.2.2 :: F) → R (.returned (.bool r.1)) w') :
    Calls Tryz.prog 45 #[pt p1 0, I x7, I x8] w R := by
  unfold raft_Node_turn at hr
  refine enter Tryz.func45 rfl [(0, pt p1 0), (1, I x7), (2, I x8)] rfl rfl fun b => ?_
  refine wp_seq ?_
  refine wp_reg ?_
  refine L_pure 1 [(0, pt p1 0), (1, I x7), (2, I x8)] (by kernel_rfl) fun b => ?_
  refine wpL_nil ?_
  refine th_n ?_
  refine wp_seq ?_
  refine wp_seq ?_
  refine wp_reg ?_
  refine L_pure 4 [(0, pt p1 0), (1, I x7), (2, I x8), (7, pt p1 0), (10, pt p1 2)] (by kernel_rfl) fun b => ?_
  refine L_op rfl (O_run (v := pt p2 0) (w' := w) (R_load hst rfl rfl) rfl rfl ?_)
  refine L_pure 2 [(0, pt p1 0), (1, I x7), (2, I x8), (7, pt p1 0), (11, pt p2 0), (12, I x7), (13, I x8)] (by kernel_rfl) fun b => ?_
  obtain ⟨y4, hy4, hr⟩ := bnd hr
  refine L_op rfl (O_call (vs := #[pt p2 0, I x7, I x8]) Tryz.call22 (by kernel_rfl) (term_SaveTerm_ok k x2 x3 x4 x5 x6 x7 x8 p2 p3 y4 ((hst.pull 2).pull 2) hy4 fun w hst => ?_))
  refine CK_ret rfl ?_
  obtain ⟨y5, hy5, hr⟩ := bnd hr
  refine L_op rfl (O_call (vs := #[pt p1 0, I y4.1]) Tryz.call48 (by kernel_rfl) (raft_Node_check_ok k x1 x2 y4.2.1 x4 y4.2.2.1 y4.2.2.2 y4.1 p1 p2 p3 a1 c1 a2 c2 y5 (((((hst.pull 4).pull 4).pull 3).pull 3).pull 4) hy5 fun a7 c7 a8 c8 w hst => ?_))
  refine CK_ret rfl ?_
  refine L_pure 1 [(0, pt p1 0), (1, I x7), (2, I x8), (16, .bool (!y5.1))] (by kernel_rfl) fun b => ?_
  refine wpL_nil ?_
  refine th_n ?_
  refine wp_cond_mkF (t := (!y5.1)) rfl (fun h => ?_) (fun h => ?_)
  · have hr := (if_pos h).symm.trans hr
    refine wp_seq ?_
    refine wp_reg ?_
    refine L_pure 1 [(6, .bool false)] (by kernel_rfl) fun b => ?_
    refine wpL_nil ?_
    refine th_n ?_
    refine wp_ret ?_
    refine th_r ?_
    refine ret1 rfl rfl ?_
    obtain rfl := Option.some.inj hr
    have hst := (((((hst.pull 4).pull 4).pull 4).pull 4).pull 4)
    exact hR a7 c7 a8 c8 _ hst
  · have hr := (if_neg (by rw [h]; exact Bool.false_ne_true)).symm.trans hr
    refine wp_skip ?_
    refine th_n ?_
    obtain ⟨y6, hy6, hk2⟩ := bnd hr
    clear hr
    refine wp_seq_cut (fun a w => ∃ (b : Nat → Value), a = mkF 37 b [(0, pt p1 0), (1, I x7), (2, I x8)] ∧ St G w (blk p1 (cl [I y5.2.id, I y5.2.n, pt p2 0, I y5.2.st.Term, I y5.2.st.Vote, I y5.2.st.Base, I y5.2.st.BaseTerm, S y5.2.st.Snap, .slice a7 y5.2.st.Log.length c7, I y5.2.role, I y6, I y5.2.commit, I y5.2.applied, I y5.2.timer, .bool (y5.2.votes 0), .bool (y5.2.votes 1), .bool (y5.2.votes 2), .bool (y5.2.votes 3), .bool (y5.2.votes 4), I (y5.2.next 0), I (y5.2.next 1), I (y5.2.next 2), I (y5.2.next 3), I (y5.2.next 4), I (y5.2.match_ 0), I (y5.2.match_ 1), I (y5.2.match_ 2), I (y5.2.match_ 3), I (y5.2.match_ 4), .slice a8 y5.2.out.length c8, I y5.2.broken] 66) :: osl r_T_term_Entry 48 a7 c7 y5.2.st.Log :: osl r_T_raft_Msg 39 a8 c8 y5.2.out :: blk p2 (cl [I x2, I y4.2.1, .bool x4, I y4.2.2.1, .map (some p3)] 79) :: mpr S (rPt r_T_platter_file) p3 y4.2.2.2 :: F)) ?_ ?_
    · rintro _ w ⟨b, rfl, hst⟩
      have hr := hk2
      refine wp_seq ?_
      refine wp_reg ?_
      refine L_pure 7 [(28, pt p1 0), (29, I x7), (30, I x8), (33, pt p1 3)] (by kernel_rfl) fun b => ?_
      refine L_op rfl (O_store [I y5.2.id, I y5.2.n, pt p2 0, I x7, I y5.2.st.Vote, I y5.2.st.Base, I y5.2.st.BaseTerm, S y5.2.st.Snap, .slice a7 y5.2.st.Log.length c7, I y5.2.role, I y6, I y5.2.commit, I y5.2.applied, I y5.2.timer, .bool (y5.2.votes 0), .bool (y5.2.votes 1), .bool (y5.2.votes 2), .bool (y5.2.votes 3), .bool (y5.2.votes 4), I (y5.2.next 0), I (y5.2.next 1), I (y5.2.next 2), I (y5.2.next 3), I (y5.2.next 4), I (y5.2.match_ 0), I (y5.2.match_ 1), I (y5.2.match_ 2), I (y5.2.match_ 3), I (y5.2.match_ 4), .slice a8 y5.2.out.length c8, I y5.2.broken] hst rfl rfl (by kernel_rfl) fun w hst => ?_)
      refine L_pure 3 [(30, I x8), (36, pt p1 4)] (by kernel_rfl) fun b => ?_
      refine L_op rfl (O_store [I y5.2.id, I y5.2.n, pt p2 0, I x7, I x8, I y5.2.st.Base, I y5.2.st.BaseTerm, S y5.2.st.Snap, .slice a7 y5.2.st.Log.length c7, I y5.2.role, I y6, I y5.2.commit, I y5.2.applied, I y5.2.timer, .bool (y5.2.votes 0), .bool (y5.2.votes 1), .bool (y5.2.votes 2), .bool (y5.2.votes 3), .bool (y5.2.votes 4), I (y5.2.next 0), I (y5.2.next 1), I (y5.2.next 2), I (y5.2.next 3), I (y5.2.next 4), I (y5.2.match_ 0), I (y5.2.match_ 1), I (y5.2.match_ 2), I (y5.2.match_ 3), I (y5.2.match_ 4), .slice a8 y5.2.out.length c8, I y5.2.broken] hst rfl rfl (by kernel_rfl) fun w hst => ?_)
      refine wpL_nil ?_
      refine th_n ?_
      refine wp_seq ?_
      refine wp_reg ?_
      refine L_pure 1 [(6, .bool true)] (by kernel_rfl) fun b => ?_
      refine wpL_nil ?_
      refine th_n ?_
      refine wp_ret ?_
      refine ret1 rfl rfl ?_
      obtain rfl := Option.some.inj hr
      have hst := (((((hst.pull 4).pull 4).pull 2).pull 4).pull 4)
      exact hR a7 c7 a8 c8 _ hst
    · have hr := hy6
      refine wp_seq ?_
      refine wp_reg ?_
      refine L_pure 5 [(0, pt p1 0), (1, I x7), (2, I x8), (17, I x7), (21, pt p1 3)] (by kernel_rfl) fun b => ?_
      refine L_op rfl (O_run (v := I y5.2.st.Term) (w' := w) (R_load (hst.pull 2) rfl rfl) rfl rfl ?_)
      refine L_pure 1 [(0, pt p1 0), (1, I x7), (2, I x8), (23, .bool (decide (x7 > y5.2.st.Term)))] (by kernel_rfl) fun b => ?_
      refine wpL_nil ?_
      refine th_n ?_
      refine wp_cond_mkF (t := decide (x7 > y5.2.st.Term)) rfl (fun h => ?_) (fun h => ?_)
      · have hr := (if_pos h).symm.trans hr
        refine wp_reg ?_
        refine L_pure 3 [(0, pt p1 0), (1, I x7), (2, I x8), (26, pt p1 10)] (by kernel_rfl) fun b => ?_
        refine L_op rfl (O_store [I y5.2.id, I y5.2.n, pt p2 0, I y5.2.st.Term, I y5.2.st.Vote, I y5.2.st.Base, I y5.2.st.BaseTerm, S y5.2.st.Snap, .slice a7 y5.2.st.Log.length c7, I y5.2.role, I 0, I y5.2.commit, I y5.2.applied, I y5.2.timer, .bool (y5.2.votes 0), .bool (y5.2.votes 1), .bool (y5.2.votes 2), .bool (y5.2.votes 3), .bool (y5.2.votes 4), I (y5.2.next 0), I (y5.2.next 1), I (y5.2.next 2), I (y5.2.next 3), I (y5.2.next 4), I (y5.2.match_ 0), I (y5.2.match_ 1), I (y5.2.match_ 2), I (y5.2.match_ 3), I (y5.2.match_ 4), .slice a8 y5.2.out.length c8, I y5.2.broken] (hst.pull 2) rfl rfl (by kernel_rfl) fun w hst => ?_)
        refine wpL_nil ?_
        refine th_n ?_
        obtain rfl := Option.some.inj hr
        have hst := (((((hst.pull 4).pull 4).pull 4).pull 4).pull 4)
        exact (kpX [(0, pt p1 0), (1, I x7), (2, I x8)] rfl hst)
      · have hr := (if_neg (by rw [h]; exact Bool.false_ne_true)).symm.trans hr
        refine wp_skip ?_
        refine th_n ?_
        obtain rfl := Option.some.inj hr
        have hst := (((((hst.pull 4).pull 4).pull 3).pull 3).pull 4)
        exact (kpX [(0, pt p1 0), (1, I x7), (2, I x8)] rfl hst)
def term_State_Last (_k : Nat) (x1 : T_raft_Node) (_x2 : Int) (_x3 : Int) (_x4 : Bool) (_x5 : Int) (_x6 : (List ((List UInt8) × (Option T_platter_file)))) : Option (Int × Int) := (if decide ((x1.st.Log.length : Int) > 0) = true then (Option.bind (gt x1.st.Log (IntKind.i64.wrap ((x1.st.Log.length : Int) - 1))) fun x9 => (Option.bind (gt x1.st.Log (IntKind.i64.wrap ((x1.st.Log.length : Int) - 1))) fun x10 => some (x9.Index, x10.Term))) else some (x1.st.Base, x1.st.BaseTerm))
set_option maxRecDepth 100000 in
set_option maxHeartbeats 4000000 in
theorem term_State_Last_ok {G w : World} {F : List HP} {R : Ending → World → Prop} (k : Nat) (x1 : T_raft_Node) (x2 : Int) (x3 : Int) (x4 : Bool) (x5 : Int) (x6 : (List ((List UInt8) × (Option T_platter_file)))) (p1 : Nat) (p2 : Nat) (p3 : Nat) (a1 : Option Addr) (c1 : Nat) (a2 : Option Addr) (c2 : Nat) (r : (Int × Int)) (hst : St G w (blk p1 (cl [I x1.id, I x1.n, pt p2 0, I x1.st.Term, I x1.st.Vote, I x1.st.Base, I x1.st.BaseTerm, S x1.st.Snap, .slice a1 x1.st.Log.length c1, I x1.role, I x1.leader, I x1.commit, I x1.applied, I x1.timer, .bool (x1.votes 0), .bool (x1.votes 1), .bool (x1.votes 2), .bool (x1.votes 3), .bool (x1.votes 4), I (x1.next 0), I (x1.next 1), I (x1.next 2), I (x1.next 3), I (x1.next 4), I (x1.match_ 0), I (x1.match_ 1), I (x1.match_ 2), I (x1.match_ 3), I (x1.match_ 4), .slice a2 x1.out.length c2, I x1.broken] 66) :: blk p2 (cl [I x2, I x3, .bool x4, I x5, .map (some p3)] 79) :: mpr S (rPt r_T_platter_file) p3 x6 :: osl r_T_term_Entry 48 a1 c1 x1.st.Log :: osl r_T_raft_Msg 39 a2 c2 x1.out :: F)) (hr : term_State_Last k x1 x2 x3 x4 x5 x6 = some r)
    (hR : ∀ w', St G w' (blk p1 (cl [I x1.id, I x1.n, pt p2 0, I x1.st.Term, I x1.st.Vote, I x1.st.Base, I x1.st.BaseTerm, S x1.st.Snap, .slice a1 x1.st.Log.length c1, I x1.role, I x1.leader, I x1.commit, I x1.applied, I x1.timer, .bool (x1.votes 0), .bool (x1.votes 1), .bool (x1.votes 2), .bool (x1.votes 3), .bool (x1.votes 4), I (x1.next 0), I (x1.next 1), I (x1.next 2), I (x1.next 3), I (x1.next 4), I (x1.match_ 0), I (x1.match_ 1), I (x1.match_ 2), I (x1.match_ 3), I (x1.match_ 4), .slice a2 x1.out.length c2, I x1.broken] 66) :: blk p2 (cl [I x2, I x3, .bool x4, I x5, .map (some p3)] 79) :: mpr S (rPt r_T_platter_file) p3 x6 :: osl r_T_term_Entry 48 a1 c1 x1.st.Log :: osl r_T_raft_Msg 39 a2 c2 x1.out :: F) → R (.returned (.tuple #[I r.1, I r.2])) w') :
    Calls Tryz.prog 24 #[pt p1 3] w R := by
  unfold term_State_Last at hr
  refine enter Tryz.func24 rfl [(0, pt p1 3)] rfl rfl fun b => ?_
  refine wp_seq ?_
  refine wp_reg ?_
  refine L_pure 2 [(0, pt p1 3)] (by kernel_rfl) fun b => ?_
  refine wpL_nil ?_
  refine th_n ?_
  refine wp_seq ?_
  refine wp_seq ?_
  refine wp_reg ?_
  refine L_pure 3 [(0, pt p1 3), (7, pt p1 8)] (by kernel_rfl) fun b => ?_
  refine L_op rfl (O_run (v := .slice a1 x1.st.Log.length c1) (w' := w) (R_load hst rfl rfl) rfl rfl ?_)
  refine L_pure 2 [(0, pt p1 3), (4, I (x1.st.Log.length : Int))] (by kernel_rfl) fun b => ?_
  refine wpL_nil ?_
  refine th_n ?_
  refine wp_seq ?_
  refine wp_reg ?_
  refine L_pure 2 [(0, pt p1 3), (4, I (x1.st.Log.length : Int)), (11, .bool (decide ((x1.st.Log.length : Int) > 0)))] (by kernel_rfl) fun b => ?_
  refine wpL_nil ?_
  refine th_n ?_
  refine wp_cond_mkF (t := decide ((x1.st.Log.length : Int) > 0)) rfl (fun h => ?_) (fun h => ?_)
  · have hr := (if_pos h).symm.trans hr
    refine wp_seq ?_
    refine wp_regG (SN { w with drawn := w.drawn + 1 }) rfl ?_
    have hst := hst.draw (n := w.drawn + 1)
    generalize { w with drawn := w.drawn + 1 } = w at hst ⊢
    refine C_take (i := 0) (v := pt p1 3) rfl (by kernel_rfl) (fun _ _ _ h => h) rfl rfl rfl (R_pure (by kernel_rfl)) ?_
    refine C_take (i := 1) (v := pt p1 3) rfl (by kernel_rfl) (fun _ _ _ h => h) rfl rfl rfl (R_pure (by kernel_rfl)) ?_
    refine C_take (i := 2) (v := pt p1 8) rfl (by kernel_rfl) (fun _ _ _ h => h) rfl rfl rfl (R_pure (by kernel_rfl)) ?_
    refine C_take (i := 3) (v := .slice a1 x1.st.Log.length c1) rfl (by kernel_rfl) (fun _ _ _ h => h) rfl rfl rfl (R_load hst rfl rfl) ?_
    refine C_take (i := 4) (v := I (x1.st.Log.length : Int)) rfl (by kernel_rfl) (fun _ _ _ h => h) rfl rfl rfl (R_pure (by kernel_rfl)) ?_
    refine C_take (i := 5) (v := I (IntKind.i64.wrap ((x1.st.Log.length : Int) - 1))) rfl (by kernel_rfl) (fun _ _ _ h => h) rfl rfl rfl (R_pure (by kernel_rfl)) ?_
    obtain ⟨x9, hx3, hr⟩ := bnd hr
    refine C_take (i := 6) (v := pt (ab a1) (ao a1 + (IntKind.i64.wrap ((x1.st.Log.length : Int) - 1)).toNat * 3)) rfl (by kernel_rfl) (fun _ _ _ h => h) rfl rfl rfl (R_ia L37 rfl rfl (osl_addr (hst.pull 3) hx3) (gt_some hx3).1 (gt_some hx3).2.1) ?_
    refine C_take (i := 7) (v := pt (ab a1) (ao a1 + (IntKind.i64.wrap ((x1.st.Log.length : Int) - 1)).toNat * 3)) rfl (by kernel_rfl) (fun _ _ _ h => h) rfl rfl rfl (R_pure (by kernel_rfl)) ?_
    obtain ⟨q3, hc3, hst⟩ := osl_cells (hst.pull 3) hx3
    have hst := hst.drop
    refine C_take (i := 8) (v := I x9.Index) rfl (by kernel_rfl) (fun _ _ _ h => h) rfl rfl rfl (R_loadAt (off := ao a1 + (IntKind.i64.wrap ((x1.st.Log.length : Int) - 1)).toNat * 3) (j := 0) hc3 rfl rfl) ?_
    refine C_take (i := 9) (v := pt p1 3) rfl (by kernel_rfl) (fun _ _ _ h => h) rfl rfl rfl (R_pure (by kernel_rfl)) ?_
    refine C_take (i := 10) (v := pt p1 3) rfl (by kernel_rfl) (fun _ _ _ h => h) rfl rfl rfl (R_pure (by kernel_rfl)) ?_
    refine C_take (i := 11) (v := pt p1 8) rfl (by kernel_rfl) (fun _ _ _ h => h) rfl rfl rfl (R_pure (by kernel_rfl)) ?_
    refine C_take (i := 12) (v := .slice a1 x1.st.Log.length c1) rfl (by kernel_rfl) (fun _ _ _ h => h) rfl rfl rfl (R_load (hst.pull 1) rfl rfl) ?_
    refine C_take (i := 13) (v := I (x1.st.Log.length : Int)) rfl (by kernel_rfl) (fun _ _ _ h => h) rfl rfl rfl (R_pure (by kernel_rfl)) ?_
    refine C_take (i := 14) (v := I (IntKind.i64.wrap ((x1.st.Log.length : Int) - 1))) rfl (by kernel_rfl) (fun _ _ _ h => h) rfl rfl rfl (R_pure (by kernel_rfl)) ?_
    obtain ⟨x10, hx4, hr⟩ := bnd hr
    refine C_take (i := 15) (v := pt (ab a1) (ao a1 + (IntKind.i64.wrap ((x1.st.Log.length : Int) - 1)).toNat * 3)) rfl (by kernel_rfl) (fun _ _ _ h => h) rfl rfl rfl (R_ia L37 rfl rfl (osl_addr hst hx4) (gt_some hx4).1 (gt_some hx4).2.1) ?_
    refine C_take (i := 16) (v := pt (ab a1) (ao a1 + (IntKind.i64.wrap ((x1.st.Log.length : Int) - 1)).toNat * 3 + 1)) rfl (by kernel_rfl) (fun _ _ _ h => h) rfl rfl rfl (R_pure (by kernel_rfl)) ?_
    obtain ⟨q4, hc4, hst⟩ := osl_cells hst hx4
    have hst := hst.drop
    refine C_take (i := 17) (v := I x10.Term) rfl (by kernel_rfl) (fun _ _ _ h => h) rfl rfl rfl (R_loadAt (off := ao a1 + (IntKind.i64.wrap ((x1.st.Log.length : Int) - 1)).toNat * 3) (j := 1) hc4 rfl rfl) ?_
    refine C_take (i := 18) (v := I x9.Index) rfl (by kernel_rfl) (fun _ _ _ h => h) rfl rfl rfl (R_pure (by kernel_rfl)) ?_
    refine C_take (i := 19) (v := I x10.Term) rfl (by kernel_rfl) (fun _ _ _ h => h) rfl rfl rfl (R_pure (by kernel_rfl)) ?_
    refine wpG_done (by kernel_rfl) ?_ _
    refine C_keepQ [(2, I x9.Index), (3, I x10.Term)] rfl fun b => ?_
    refine th_n ?_
    refine wp_ret ?_
    refine th_r ?_
    refine ret2 rfl rfl rfl ?_
    obtain rfl := Option.some.inj hr
    have hst := (((((hst.pull 4).pull 1).pull 4).pull 4).pull 4)
    exact hR _ hst
  · have hr := (if_neg (by rw [h]; exact Bool.false_ne_true)).symm.trans hr
    refine wp_skip ?_
    refine th_n ?_
    refine wp_seq ?_
    refine wp_regG (SN { w with drawn := w.drawn + 1 }) rfl ?_
    have hst := hst.draw (n := w.drawn + 1)
    generalize { w with drawn := w.drawn + 1 } = w at hst ⊢
    refine C_take (i := 0) (v := pt p1 3) rfl (by kernel_rfl) (fun _ _ _ h => h) rfl rfl rfl (R_pure (by kernel_rfl)) ?_
    refine C_take (i := 1) (v := pt p1 3) rfl (by kernel_rfl) (fun _ _ _ h => h) rfl rfl rfl (R_pure (by kernel_rfl)) ?_
    refine C_take (i := 2) (v := pt p1 5) rfl (by kernel_rfl) (fun _ _ _ h => h) rfl rfl rfl (R_pure (by kernel_rfl)) ?_
    refine C_take (i := 3) (v := I x1.st.Base) rfl (by kernel_rfl) (fun _ _ _ h => h) rfl rfl rfl (R_load hst rfl rfl) ?_
    refine C_take (i := 4) (v := pt p1 3) rfl (by kernel_rfl) (fun _ _ _ h => h) rfl rfl rfl (R_pure (by kernel_rfl)) ?_
    refine C_take (i := 5) (v := pt p1 3) rfl (by kernel_rfl) (fun _ _ _ h => h) rfl rfl rfl (R_pure (by kernel_rfl)) ?_
    refine C_take (i := 6) (v := pt p1 6) rfl (by kernel_rfl) (fun _ _ _ h => h) rfl rfl rfl (R_pure (by kernel_rfl)) ?_
    refine C_take (i := 7) (v := I x1.st.BaseTerm) rfl (by kernel_rfl) (fun _ _ _ h => h) rfl rfl rfl (R_load hst rfl rfl) ?_
    refine C_take (i := 8) (v := I x1.st.Base) rfl (by kernel_rfl) (fun _ _ _ h => h) rfl rfl rfl (R_pure (by kernel_rfl)) ?_
    refine C_take (i := 9) (v := I x1.st.BaseTerm) rfl (by kernel_rfl) (fun _ _ _ h => h) rfl rfl rfl (R_pure (by kernel_rfl)) ?_
    refine wpG_done (by kernel_rfl) ?_ _
    refine C_keepQ [(2, I x1.st.Base), (3, I x1.st.BaseTerm)] rfl fun b => ?_
    refine th_n ?_
    refine wp_ret ?_
    refine ret2 rfl rfl rfl ?_
    obtain rfl := Option.some.inj hr
    have hst := (((((hst.pull 4).pull 4).pull 4).pull 4).pull 4)
    exact hR _ hst
def raft_Node_Last (k : Nat) (x1 : T_raft_Node) (x2 : Int) (x3 : Int) (x4 : Bool) (x5 : Int) (x6 : (List ((List UInt8) × (Option T_platter_file)))) : Option (Int) := (Option.bind (term_State_Last k x1 x2 x3 x4 x5 x6) fun y2 => some (y2.1))
set_option maxRecDepth 100000 in
set_option maxHeartbeats 4000000 in
theorem raft_Node_Last_ok {G w : World} {F : List HP} {R : Ending → World → Prop} (k : Nat) (x1 : T_raft_Node) (x2 : Int) (x3 : Int) (x4 : Bool) (x5 : Int) (x6 : (List ((List UInt8) × (Option T_platter_file)))) (p1 : Nat) (p2 : Nat) (p3 : Nat) (a1 : Option Addr) (c1 : Nat) (a2 : Option Addr) (c2 : Nat) (r : (Int)) (hst : St G w (blk p1 (cl [I x1.id, I x1.n, pt p2 0, I x1.st.Term, I x1.st.Vote, I x1.st.Base, I x1.st.BaseTerm, S x1.st.Snap, .slice a1 x1.st.Log.length c1, I x1.role, I x1.leader, I x1.commit, I x1.applied, I x1.timer, .bool (x1.votes 0), .bool (x1.votes 1), .bool (x1.votes 2), .bool (x1.votes 3), .bool (x1.votes 4), I (x1.next 0), I (x1.next 1), I (x1.next 2), I (x1.next 3), I (x1.next 4), I (x1.match_ 0), I (x1.match_ 1), I (x1.match_ 2), I (x1.match_ 3), I (x1.match_ 4), .slice a2 x1.out.length c2, I x1.broken] 66) :: blk p2 (cl [I x2, I x3, .bool x4, I x5, .map (some p3)] 79) :: mpr S (rPt r_T_platter_file) p3 x6 :: osl r_T_term_Entry 48 a1 c1 x1.st.Log :: osl r_T_raft_Msg 39 a2 c2 x1.out :: F)) (hr : raft_Node_Last k x1 x2 x3 x4 x5 x6 = some r)
    (hR : ∀ w', St G w' (blk p1 (cl [I x1.id, I x1.n, pt p2 0, I x1.st.Term, I x1.st.Vote, I x1.st.Base, I x1.st.BaseTerm, S x1.st.Snap, .slice a1 x1.st.Log.length c1, I x1.role, I x1.leader, I x1.commit, I x1.applied, I x1.timer, .bool (x1.votes 0), .bool (x1.votes 1), .bool (x1.votes 2), .bool (x1.votes 3), .bool (x1.votes 4), I (x1.next 0), I (x1.next 1), I (x1.next 2), I (x1.next 3), I (x1.next 4), I (x1.match_ 0), I (x1.match_ 1), I (x1.match_ 2), I (x1.match_ 3), I (x1.match_ 4), .slice a2 x1.out.length c2, I x1.broken] 66) :: blk p2 (cl [I x2, I x3, .bool x4, I x5, .map (some p3)] 79) :: mpr S (rPt r_T_platter_file) p3 x6 :: osl r_T_term_Entry 48 a1 c1 x1.st.Log :: osl r_T_raft_Msg 39 a2 c2 x1.out :: F) → R (.returned (I r)) w') :
    Calls Tryz.prog 8 #[pt p1 0] w R := by
  unfold raft_Node_Last at hr
  refine enter Tryz.func8 rfl [(0, pt p1 0)] rfl rfl fun b => ?_
  refine wp_seq ?_
  refine wp_reg ?_
  refine L_pure 1 [(0, pt p1 0)] (by kernel_rfl) fun b => ?_
  refine wpL_nil ?_
  refine th_n ?_
  refine wp_seq ?_
  refine wp_reg ?_
  refine L_pure 3 [(8, pt p1 3)] (by kernel_rfl) fun b => ?_
  obtain ⟨y2, hy2, hr⟩ := bnd hr
  refine L_op rfl (O_call (vs := #[pt p1 3]) Tryz.call24 (by kernel_rfl) (term_State_Last_ok k x1 x2 x3 x4 x5 x6 p1 p2 p3 a1 c1 a2 c2 y2 (((((hst.pull 4).pull 4).pull 4).pull 4).pull 4) hy2 fun w hst => ?_))
  refine CK_ret rfl ?_
  refine L_pure 5 [(3, I y2.1)] (by kernel_rfl) fun b => ?_
  refine wpL_nil ?_
  refine th_n ?_
  refine wp_seq ?_
  refine wp_reg ?_
  refine L_pure 2 [(2, I y2.1)] (by kernel_rfl) fun b => ?_
  refine wpL_nil ?_
  refine th_n ?_
  refine wp_ret ?_
  refine ret1 rfl rfl ?_
  obtain rfl := Option.some.inj hr
  have hst := (((((hst.pull 4).pull 4).pull 4).pull 4).pull 4)
  exact hR _ hst
def wire_Enc_S_l1 (k : Nat) (x2 : (List (List UInt8))) : Nat → Int → (List Int) → Option ((List Int))
  | 0, _, _ => none
  | j + 1, v7, v8 => (if decide (v7 < (x2.length : Int)) = true then (Option.bind (gt x2 v7) fun x4 => (Option.bind (wire_Enc_U k (T_wire_Enc.mk v8) ([(IntKind.u64.wrap (x4.length : Int))])) fun y4 => (if room (y4.length + (sB x4).length) 1 = true then (wire_Enc_S_l1 k x2 j (IntKind.i64.wrap (v7 + 1)) (y4 ++ sB x4)) else none))) else some (v8))
def wire_Enc_S (k : Nat) (x1 : T_wire_Enc) (x2 : (List (List UInt8))) : Option ((List Int)) := (Option.bind (wire_Enc_S_l1 k x2 k (0 : Int) x1.b) fun y3 => some (y3))
set_option maxRecDepth 100000 in
set_option maxHeartbeats 4000000 in
theorem wire_Enc_S_ok {G w : World} {F : List HP} {R : Ending → World → Prop} (k : Nat) (x1 : T_wire_Enc) (x2 : (List (List UInt8))) (p1 : Nat) (a1 : Option Addr) (c1 : Nat) (a2 : Option Addr) (c2 : Nat) (r : ((List Int))) (hst : St G w (blk p1 (cl [.slice a1 x1.b.length c1] 85) :: osl (rI .u8) 5 a1 c1 x1.b :: osl rS 9 a2 c2 x2 :: F)) (hr : wire_Enc_S k x1 x2 = some r)
    (hR : ∀ (a8 : Option Addr) (c8 : Nat) w', St G w' (osl (rI .u8) 5 a8 c8 r :: blk p1 (cl [.slice a8 r.length c8] 85) :: osl rS 9 a2 c2 x2 :: F) → R (.returned (pt p1 0)) w') :
    Calls Tryz.prog 43 #[pt p1 0, .slice a2 x2.length c2] w R := by
  unfold wire_Enc_S at hr
  refine enter Tryz.func43 rfl [(0, pt p1 0), (1, .slice a2 x2.length c2)] rfl rfl fun b => ?_
  refine wp_seq ?_
  refine wp_reg ?_
  refine L_pure 1 [(0, pt p1 0), (1, .slice a2 x2.length c2)] (by kernel_rfl) fun b => ?_
  refine wpL_nil ?_
  refine th_n ?_
  refine wp_seq ?_
  refine wp_seq ?_
  refine wp_reg ?_
  refine L_pure 3 [(0, pt p1 0), (7, .slice a2 x2.length c2), (8, I (x2.length : Int)), (9, I 0)] (by kernel_rfl) fun b => ?_
  refine wpL_nil ?_
  refine th_n ?_
  obtain ⟨y3, hy3, hk2⟩ := bnd hr
  clear hr
  refine Go.Hx.wp_cut (fun a w => ∃ (a11 : Option Addr) (c11 : Nat)(b : Nat → Value), a = mkF 30 b [(0, pt p1 0)] ∧ St G w (osl (rI .u8) 5 a11 c11 y3 :: blk p1 (cl [.slice a11 y3.length c11] 85) :: osl rS 9 a2 c2 x2 :: F)) ?_ ?_
  · rintro _ w ⟨a11, c11, b, rfl, hst⟩
    have hr := hk2
    refine th_n ?_
    refine wp_seq ?_
    refine wp_reg ?_
    refine L_pure 2 [(4, pt p1 0)] (by kernel_rfl) fun b => ?_
    refine wpL_nil ?_
    refine th_n ?_
    refine wp_ret ?_
    refine ret1 rfl rfl ?_
    obtain rfl := Option.some.inj hr
    have hst := (((hst.pull 2).pull 2).pull 2)
    exact hR a11 c11 _ hst
  · have hst := (((hst.pull 2).pull 1).pull 2)
    refine wp_block ?_
    refine wp_loop_fuel (fun j a w => ∃ (v7 : Int) (v8 : (List Int)) (a9 : Option Addr) (c9 : Nat) (b : Nat → Value), a = mkF 30 b [(0, pt p1 0), (7, .slice a2 x2.length c2), (8, I (x2.length : Int)), (9, I v7)] ∧ St G w (osl (rI .u8) 5 a9 c9 v8 :: blk p1 (cl [.slice a9 v8.length c9] 85) :: osl rS 9 a2 c2 x2 :: F) ∧ wire_Enc_S_l1 k x2 j v7 v8 = some y3) (k := k) ⟨(0 : Int), x1.b, a1, c1, (kpX [(0, pt p1 0), (7, .slice a2 x2.length c2), (8, I (x2.length : Int)), (9, I 0)] rfl ⟨hst, hy3⟩)⟩ ?_ ?_
    · rintro _ _ ⟨_, _, _, _, _, _, _, h⟩
      rw [wire_Enc_S_l1] at h
      cases h
    · rintro j _ w ⟨v7, v8, a9, c9, b, rfl, hst, hr⟩
      rw [wire_Enc_S_l1] at hr
      refine wp_seq ?_
      refine wp_reg ?_
      refine L_pure 1 [(0, pt p1 0), (7, .slice a2 x2.length c2), (8, I (x2.length : Int)), (9, I v7), (10, .bool (decide (v7 < (x2.length : Int))))] (by kernel_rfl) fun b => ?_
      refine wpL_nil ?_
      refine th_n ?_
      refine wp_seq ?_
      refine wp_cond_mkF (t := decide (v7 < (x2.length : Int))) rfl (fun h => ?_) (fun h => ?_)
      · have hr := (if_pos h).symm.trans hr
        refine wp_skip ?_
        refine th_n ?_
        refine wp_seq ?_
        refine wp_block ?_
        refine wp_seq ?_
        refine wp_reg ?_
        obtain ⟨x4, hx2, hr⟩ := bnd hr
        refine L_op rfl (O_run (v := pt (ab a2) (ao a2 + v7.toNat * 1)) (w' := w) (R_ia L25 rfl rfl (osl_addr (hst.pull 2) hx2) (gt_some hx2).1 (gt_some hx2).2.1) rfl rfl ?_)
        obtain ⟨q2, hc2, hst⟩ := osl_cells (hst.pull 2) hx2
        have hst := hst.drop
        refine L_op rfl (O_run (v := S x4) (w' := w) (R_loadAt (off := ao a2 + v7.toNat * 1) (j := 0) hc2 rfl rfl) rfl rfl ?_)
        refine L_pure 1 [(0, pt p1 0), (6, S x4), (7, .slice a2 x2.length c2), (8, I (x2.length : Int)), (9, I v7)] (by kernel_rfl) fun b => ?_
        refine wpL_nil ?_
        refine th_n ?_
        refine wp_seq ?_
        refine wp_reg ?_
        refine L_pure 4 [(0, pt p1 0), (6, S x4), (7, .slice a2 x2.length c2), (8, I (x2.length : Int)), (9, I v7), (13, pt p1 0), (16, .int .u64 (IntKind.u64.wrap (x4.length : Int)))] (by kernel_rfl) fun b => ?_
        refine L_op rfl (O_bs (T := 118) [.int .u64 (IntKind.u64.wrap (x4.length : Int))] #[(0, .int .u64 (IntKind.u64.wrap (x4.length : Int)))] hst (by kernel_rfl) (by kernel_rfl) rfl fun p3 w hst => ?_)
        have hst := osl_of_blk0 (ecs := [[.int .u64 (IntKind.u64.wrap (x4.length : Int))]]) (rI .u64) [(IntKind.u64.wrap (x4.length : Int))] rfl (fun m => ⟨⟨(), rfl, trivial⟩, trivial⟩) rfl hst
        obtain ⟨y4, hy4, hr⟩ := bnd hr
        refine L_op rfl (O_call (vs := #[pt p1 0, .slice (some ⟨p3, 0, none⟩) ([(IntKind.u64.wrap (x4.length : Int))]).length 1]) Tryz.call63 (by kernel_rfl) (wire_Enc_U_ok k (T_wire_Enc.mk v8) ([(IntKind.u64.wrap (x4.length : Int))]) p1 a9 c9 (some ⟨p3, 0, none⟩) 1 y4 ((hst.pull 2).pull 3) hy4 fun a12 c12 w hst => ?_))
        refine CK_ret rfl ?_
        refine wpL_nil ?_
        refine th_n ?_
        refine wp_reg ?_
        refine L_pure 4 [(0, pt p1 0), (6, S x4), (7, .slice a2 x2.length c2), (8, I (x2.length : Int)), (9, I v7), (19, pt p1 0), (22, pt p1 0)] (by kernel_rfl) fun b => ?_
        refine L_op rfl (O_run (v := .slice a12 y4.length c12) (w' := w) (R_load (hst.pull 1) rfl rfl) rfl rfl ?_)
        refine L_pure 1 [(0, pt p1 0), (7, .slice a2 x2.length c2), (8, I (x2.length : Int)), (9, I v7), (19, pt p1 0), (23, .slice a12 y4.length c12), (24, S x4)] (by kernel_rfl) fun b => ?_
        obtain ⟨hb2, hr⟩ := chk hr
        refine L_op rfl (O_app_s L83 Tryz.underlying9 hst rfl rfl hb2 rfl fun a13 c13 w hst => ?_)
        refine L_pure 2 [(0, pt p1 0), (7, .slice a2 x2.length c2), (8, I (x2.length : Int)), (9, I v7), (25, .slice a13 (y4 ++ sB x4).length c13), (27, pt p1 0)] (by kernel_rfl) fun b => ?_
        refine L_op rfl (O_store [.slice a13 (y4 ++ sB x4).length c13] (hst.pull 1) rfl rfl (by kernel_rfl) fun w hst => ?_)
        refine wpL_nil ?_
        refine ib_n (th_n ?_)
        refine wp_reg ?_
        refine L_pure 2 [(0, pt p1 0), (7, .slice a2 x2.length c2), (8, I (x2.length : Int)), (9, I (IntKind.i64.wrap (v7 + 1)))] (by kernel_rfl) fun b => ?_
        refine wpL_nil ?_
        refine th_n ?_
        have hst := ((((hst.pull 3).pull 1).pull 2).cut 3 1)
        exact ⟨(IntKind.i64.wrap (v7 + 1)), (y4 ++ sB x4), a13, c13, (kpX [(0, pt p1 0), (7, .slice a2 x2.length c2), (8, I (x2.length : Int)), (9, I (IntKind.i64.wrap (v7 + 1)))] rfl ⟨hst, hr⟩)⟩
      · have hr := (if_neg (by rw [h]; exact Bool.false_ne_true)).symm.trans hr
        refine wp_exit ?_
        refine th_x (th_x (ib_x (th_n ?_)))
        obtain rfl := Option.some.inj hr
        have hst := (((hst.pull 2).pull 2).pull 2)
        exact ⟨a9, c9, (kpX [(0, pt p1 0)] rfl hst)⟩
def term_spell (k : Nat) (x1 : T_term_Entry) : Option ((List UInt8)) := (Option.bind (Option.bind (wire_Enc_I k (T_wire_Enc.mk ([])) ([x1.Index, x1.Term])) fun y7 => (Option.bind (wire_Enc_S k (T_wire_Enc.mk y7) ([x1.Cmd])) fun y8 => some (y8))) fun y6 => (Option.bind (wire_Enc_Bytes k (T_wire_Enc.mk y6)) fun y9 => (Option.bind (seal_Frame k ([y9])) fun y10 => some (y10))))
set_option maxRecDepth 100000 in
set_option maxHeartbeats 4000000 in
theorem term_spell_ok {G w : World} {F : List HP} {R : Ending → World → Prop} (k : Nat) (x1 : T_term_Entry) (r : ((List UInt8))) (hst : St G w (F)) (hr : term_spell k x1 = some r)
    (hR : ∀ w', St G w' (F) → R (.returned (S r)) w') :
    Calls Tryz.prog 64 #[.agg #[I x1.Index, I x1.Term, S x1.Cmd]] w R := by
  unfold term_spell at hr
  refine enter Tryz.func64 rfl [(0, .agg #[I x1.Index, I x1.Term, S x1.Cmd])] rfl rfl fun b => ?_
  refine wp_seq ?_
  refine wp_reg ?_
  refine L_op rfl (O_box [I x1.Index, I x1.Term, S x1.Cmd] hst rfl rfl fun p6 w hst => ?_)
  refine L_pure 1 [(1, pt p6 0)] (by kernel_rfl) fun b => ?_
  refine wpL_nil ?_
  refine th_n ?_
  refine wp_seq ?_
  refine wp_reg ?_
  refine L_op rfl (O_alloc (i := Tryz.t85) (z := .agg #[.slice none 0 0]) [.slice none 0 0] hst rfl rfl rfl rfl fun p7 w hst => ?_)
  refine wpL_nil ?_
  refine th_n ?_
  obtain ⟨y6, hy6, hk2⟩ := bnd hr
  clear hr
  refine wp_seq_cut (fun a w => ∃ (a4 : Option Addr) (c4 : Nat)(b : Nat → Value), a = mkF 17 b [(3, pt p7 0)] ∧ St G w (osl (rI .u8) 5 a4 c4 y6 :: blk p7 (cl [.slice a4 y6.length c4] 85) :: blk p6 (cl [I x1.Index, I x1.Term, S x1.Cmd] 48) :: F)) ?_ ?_
  · rintro _ w ⟨a4, c4, b, rfl, hst⟩
    have hr := hk2
    refine wp_seq ?_
    refine wp_reg ?_
    obtain ⟨y9, hy9, hr⟩ := bnd hr
    have hst := osl_freeze hst
    refine L_op rfl (O_call (vs := #[pt p7 0]) Tryz.call42 (by kernel_rfl) (wire_Enc_Bytes_ok k (T_wire_Enc.mk y6) p7 a4 c4 y9 (hst.pull 1) hy9 fun w hst => ?_))
    refine CK_ret rfl ?_
    refine L_op rfl (O_bs (T := 9) [S y9] #[(0, S y9)] hst (by kernel_rfl) (by kernel_rfl) rfl fun p10 w hst => ?_)
    have hst := osl_of_blk0 (ecs := [[S y9]]) rS [y9] rfl (fun m => ⟨⟨(), rfl, trivial⟩, trivial⟩) rfl hst
    obtain ⟨y10, hy10, hr⟩ := bnd hr
    have hst := osl_freeze hst
    refine L_op rfl (O_call (vs := #[.slice (some ⟨p10, 0, none⟩) ([y9]).length 1]) Tryz.call40 (by kernel_rfl) (seal_Frame_ok k ([y9]) (some ⟨p10, 0, none⟩) 1 y10 hst hy10 fun w hst => ?_))
    refine CK_ret rfl ?_
    refine L_pure 1 [(2, S y10)] (by kernel_rfl) fun b => ?_
    refine wpL_nil ?_
    refine th_n ?_
    refine wp_ret ?_
    refine ret1 rfl rfl ?_
    obtain rfl := Option.some.inj hr
    have hst := (hst.cut 0 4)
    exact hR _ hst
  · have hr := hy6
    refine wp_regG SA rfl ?_
    have hst := hst.draw (n := w.drawn + 1)
    generalize { w with drawn := w.drawn + 1 } = w at hst ⊢
    refine A_take (i := 0) (v := pt p6 0) rfl (by kernel_rfl) (fun _ _ _ h => h) rfl rfl rfl (fun _ => R_pure (by kernel_rfl)) ?_
    refine A_take (i := 2) (v := pt p6 1) rfl (by kernel_rfl) (fun _ _ _ h => h) rfl rfl rfl (fun _ => R_pure (by kernel_rfl)) ?_
    refine A_take (i := 6) (v := pt p6 2) rfl (by kernel_rfl) (fun _ _ _ h => h) rfl rfl rfl (fun _ => R_pure (by kernel_rfl)) ?_
    refine A_all [1, 3, 7] (by kernel_rfl) ⟨⟨_, rfl, rfl, ?_⟩, ⟨_, rfl, rfl, ?_⟩, ⟨_, rfl, rfl, ?_⟩, trivial⟩
    · refine O_run (v := I x1.Index) (w' := w) (R_load (hst.pull 1) rfl rfl) rfl rfl ?_
      refine A_all [3, 7] (by kernel_rfl) ⟨⟨_, rfl, rfl, ?_⟩, ⟨_, rfl, rfl, ?_⟩, trivial⟩
      · refine O_run (v := I x1.Term) (w' := w) (R_load (hst.pull 1) rfl rfl) rfl rfl ?_
        refine A_all [4, 7] (by kernel_rfl) ⟨⟨_, rfl, rfl, ?_⟩, ⟨_, rfl, rfl, ?_⟩, trivial⟩
        · refine O_bs (T := 3) [I x1.Index, I x1.Term] #[(0, I x1.Index), (1, I x1.Term)] hst (by kernel_rfl) (by kernel_rfl) rfl fun p8 w hst => ?_
          have hst := osl_of_blk0 (ecs := [[I x1.Index], [I x1.Term]]) (rI .i64) [x1.Index, x1.Term] rfl (fun m => ⟨⟨(), rfl, trivial⟩, ⟨(), rfl, trivial⟩, trivial⟩) rfl hst
          refine A_all [5, 7] (by kernel_rfl) ⟨⟨_, rfl, rfl, ?_⟩, ⟨_, rfl, rfl, ?_⟩, trivial⟩
          · obtain ⟨y7, hy7, hr⟩ := bnd hr
            have hst := osl_nil (rI .u8) 5 hst
            refine O_call (vs := #[pt p7 0, .slice (some ⟨p8, 0, none⟩) ([x1.Index, x1.Term]).length 2]) Tryz.call41 (by kernel_rfl) ?_
            refine (wire_Enc_I_ok k (T_wire_Enc.mk ([])) ([x1.Index, x1.Term]) p7 none 0 (some ⟨p8, 0, none⟩) 2 y7 (((hst.pull 1).pull 1).pull 2) hy7 fun a5 c5 w hst => ?_)
            refine CK_ret rfl ?_
            refine A_all [7] (by kernel_rfl) ⟨⟨_, rfl, rfl, ?_⟩, trivial⟩
            refine O_run (v := S x1.Cmd) (w' := w) (R_load (hst.pull 3) rfl rfl) rfl rfl ?_
            refine A_all [8] (by kernel_rfl) ⟨⟨_, rfl, rfl, ?_⟩, trivial⟩
            refine O_bs (T := 9) [S x1.Cmd] #[(0, S x1.Cmd)] hst (by kernel_rfl) (by kernel_rfl) rfl fun p9 w hst => ?_
            have hst := osl_of_blk0 (ecs := [[S x1.Cmd]]) rS [x1.Cmd] rfl (fun m => ⟨⟨(), rfl, trivial⟩, trivial⟩) rfl hst
            refine A_all [9] (by kernel_rfl) ⟨⟨_, rfl, rfl, ?_⟩, trivial⟩
            obtain ⟨y8, hy8, hr⟩ := bnd hr
            refine O_call (vs := #[pt p7 0, .slice (some ⟨p9, 0, none⟩) ([x1.Cmd]).length 1]) Tryz.call43 (by kernel_rfl) ?_
            refine (wire_Enc_S_ok k (T_wire_Enc.mk y7) ([x1.Cmd]) p7 a5 c5 (some ⟨p9, 0, none⟩) 1 y8 ((hst.pull 1).pull 2) hy8 fun a6 c6 w hst => ?_)
            refine CK_ret rfl ?_
            refine wpG_done (by kernel_rfl) ?_ _
            refine C_keepQ [(3, pt p7 0)] rfl fun b => ?_
            refine th_n ?_
            obtain rfl := Option.some.inj hr
            have hst := ((((hst.pull 4).pull 2).pull 2).cut 3 2)
            exact ⟨a6, c6, (kpX [(3, pt p7 0)] rfl hst)⟩
          · refine O_run (v := S x1.Cmd) (w' := w) (R_load (hst.pull 2) rfl rfl) rfl rfl ?_
            refine A_all [5, 8] (by kernel_rfl) ⟨⟨_, rfl, rfl, ?_⟩, ⟨_, rfl, rfl, ?_⟩, trivial⟩
            · obtain ⟨y7, hy7, hr⟩ := bnd hr
              have hst := osl_nil (rI .u8) 5 hst
              refine O_call (vs := #[pt p7 0, .slice (some ⟨p8, 0, none⟩) ([x1.Index, x1.Term]).length 2]) Tryz.call41 (by kernel_rfl) ?_
              refine (wire_Enc_I_ok k (T_wire_Enc.mk ([])) ([x1.Index, x1.Term]) p7 none 0 (some ⟨p8, 0, none⟩) 2 y7 (((hst.pull 1).pull 1).pull 2) hy7 fun a5 c5 w hst => ?_)
              refine CK_ret rfl ?_
              refine A_all [8] (by kernel_rfl) ⟨⟨_, rfl, rfl, ?_⟩, trivial⟩
              refine O_bs (T := 9) [S x1.Cmd] #[(0, S x1.Cmd)] hst (by kernel_rfl) (by kernel_rfl) rfl fun p9 w hst => ?_
              have hst := osl_of_blk0 (ecs := [[S x1.Cmd]]) rS [x1.Cmd] rfl (fun m => ⟨⟨(), rfl, trivial⟩, trivial⟩) rfl hst
              refine A_all [9] (by kernel_rfl) ⟨⟨_, rfl, rfl, ?_⟩, trivial⟩
              obtain ⟨y8, hy8, hr⟩ := bnd hr
              refine O_call (vs := #[pt p7 0, .slice (some ⟨p9, 0, none⟩) ([x1.Cmd]).length 1]) Tryz.call43 (by kernel_rfl) ?_
              refine (wire_Enc_S_ok k (T_wire_Enc.mk y7) ([x1.Cmd]) p7 a5 c5 (some ⟨p9, 0, none⟩) 1 y8 ((hst.pull 1).pull 2) hy8 fun a6 c6 w hst => ?_)
              refine CK_ret rfl ?_
              refine wpG_done (by kernel_rfl) ?_ _
              refine C_keepQ [(3, pt p7 0)] rfl fun b => ?_
              refine th_n ?_
              obtain rfl := Option.some.inj hr
              have hst := ((((hst.pull 4).pull 2).pull 2).cut 3 2)
              exact ⟨a6, c6, (kpX [(3, pt p7 0)] rfl hst)⟩
            · refine O_bs (T := 9) [S x1.Cmd] #[(0, S x1.Cmd)] hst (by kernel_rfl) (by kernel_rfl) rfl fun p9 w hst => ?_
              have hst := osl_of_blk0 (ecs := [[S x1.Cmd]]) rS [x1.Cmd] rfl (fun m => ⟨⟨(), rfl, trivial⟩, trivial⟩) rfl hst
              refine A_all [5] (by kernel_rfl) ⟨⟨_, rfl, rfl, ?_⟩, trivial⟩
              obtain ⟨y7, hy7, hr⟩ := bnd hr
              have hst := osl_nil (rI .u8) 5 hst
              refine O_call (vs := #[pt p7 0, .slice (some ⟨p8, 0, none⟩) ([x1.Index, x1.Term]).length 2]) Tryz.call41 (by kernel_rfl) ?_
              refine (wire_Enc_I_ok k (T_wire_Enc.mk ([])) ([x1.Index, x1.Term]) p7 none 0 (some ⟨p8, 0, none⟩) 2 y7 (((hst.pull 2).pull 1).pull 3) hy7 fun a5 c5 w hst => ?_)
              refine CK_ret rfl ?_
              refine A_all [9] (by kernel_rfl) ⟨⟨_, rfl, rfl, ?_⟩, trivial⟩
              obtain ⟨y8, hy8, hr⟩ := bnd hr
              refine O_call (vs := #[pt p7 0, .slice (some ⟨p9, 0, none⟩) ([x1.Cmd]).length 1]) Tryz.call43 (by kernel_rfl) ?_
              refine (wire_Enc_S_ok k (T_wire_Enc.mk y7) ([x1.Cmd]) p7 a5 c5 (some ⟨p9, 0, none⟩) 1 y8 (((hst.pull 3).pull 1).pull 2) hy8 fun a6 c6 w hst => ?_)
              refine CK_ret rfl ?_
              refine wpG_done (by kernel_rfl) ?_ _
              refine C_keepQ [(3, pt p7 0)] rfl fun b => ?_
              refine th_n ?_
              obtain rfl := Option.some.inj hr
              have hst := ((((hst.pull 4).pull 2).pull 2).cut 3 2)
              exact ⟨a6, c6, (kpX [(3, pt p7 0)] rfl hst)⟩
        · refine O_run (v := S x1.Cmd) (w' := w) (R_load (hst.pull 1) rfl rfl) rfl rfl ?_
          refine A_all [4, 8] (by kernel_rfl) ⟨⟨_, rfl, rfl, ?_⟩, ⟨_, rfl, rfl, ?_⟩, trivial⟩
          · refine O_bs (T := 3) [I x1.Index, I x1.Term] #[(0, I x1.Index), (1, I x1.Term)] hst (by kernel_rfl) (by kernel_rfl) rfl fun p8 w hst => ?_
            have hst := osl_of_blk0 (ecs := [[I x1.Index], [I x1.Term]]) (rI .i64) [x1.Index, x1.Term] rfl (fun m => ⟨⟨(), rfl, trivial⟩, ⟨(), rfl, trivial⟩, trivial⟩) rfl hst
            refine A_all [5, 8] (by kernel_rfl) ⟨⟨_, rfl, rfl, ?_⟩, ⟨_, rfl, rfl, ?_⟩, trivial⟩
            · obtain ⟨y7, hy7, hr⟩ := bnd hr
              have hst := osl_nil (rI .u8) 5 hst
              refine O_call (vs := #[pt p7 0, .slice (some ⟨p8, 0, none⟩) ([x1.Index, x1.Term]).length 2]) Tryz.call41 (by kernel_rfl) ?_
              refine (wire_Enc_I_ok k (T_wire_Enc.mk ([])) ([x1.Index, x1.Term]) p7 none 0 (some ⟨p8, 0, none⟩) 2 y7 (((hst.pull 1).pull 1).pull 2) hy7 fun a5 c5 w hst => ?_)
              refine CK_ret rfl ?_
              refine A_all [8] (by kernel_rfl) ⟨⟨_, rfl, rfl, ?_⟩, trivial⟩
              refine O_bs (T := 9) [S x1.Cmd] #[(0, S x1.Cmd)] hst (by kernel_rfl) (by kernel_rfl) rfl fun p9 w hst => ?_
              have hst := osl_of_blk0 (ecs := [[S x1.Cmd]]) rS [x1.Cmd] rfl (fun m => ⟨⟨(), rfl, trivial⟩, trivial⟩) rfl hst
              refine A_all [9] (by kernel_rfl) ⟨⟨_, rfl, rfl, ?_⟩, trivial⟩
              obtain ⟨y8, hy8, hr⟩ := bnd hr
              refine O_call (vs := #[pt p7 0, .slice (some ⟨p9, 0, none⟩) ([x1.Cmd]).length 1]) Tryz.call43 (by kernel_rfl) ?_
              refine (wire_Enc_S_ok k (T_wire_Enc.mk y7) ([x1.Cmd]) p7 a5 c5 (some ⟨p9, 0, none⟩) 1 y8 ((hst.pull 1).pull 2) hy8 fun a6 c6 w hst => ?_)
              refine CK_ret rfl ?_
              refine wpG_done (by kernel_rfl) ?_ _
              refine C_keepQ [(3, pt p7 0)] rfl fun b => ?_
              refine th_n ?_
              obtain rfl := Option.some.inj hr
              have hst := ((((hst.pull 4).pull 2).pull 2).cut 3 2)
              exact ⟨a6, c6, (kpX [(3, pt p7 0)] rfl hst)⟩
            · refine O_bs (T := 9) [S x1.Cmd] #[(0, S x1.Cmd)] hst (by kernel_rfl) (by kernel_rfl) rfl fun p9 w hst => ?_
              have hst := osl_of_blk0 (ecs := [[S x1.Cmd]]) rS [x1.Cmd] rfl (fun m => ⟨⟨(), rfl, trivial⟩, trivial⟩) rfl hst
              refine A_all [5] (by kernel_rfl) ⟨⟨_, rfl, rfl, ?_⟩, trivial⟩
              obtain ⟨y7, hy7, hr⟩ := bnd hr
              have hst := osl_nil (rI .u8) 5 hst
              refine O_call (vs := #[pt p7 0, .slice (some ⟨p8, 0, none⟩) ([x1.Index, x1.Term]).length 2]) Tryz.call41 (by kernel_rfl) ?_
              refine (wire_Enc_I_ok k (T_wire_Enc.mk ([])) ([x1.Index, x1.Term]) p7 none 0 (some ⟨p8, 0, none⟩) 2 y7 (((hst.pull 2).pull 1).pull 3) hy7 fun a5 c5 w hst => ?_)
              refine CK_ret rfl ?_
              refine A_all [9] (by kernel_rfl) ⟨⟨_, rfl, rfl, ?_⟩, trivial⟩
              obtain ⟨y8, hy8, hr⟩ := bnd hr
              refine O_call (vs := #[pt p7 0, .slice (some ⟨p9, 0, none⟩) ([x1.Cmd]).length 1]) Tryz.call43 (by kernel_rfl) ?_
              refine (wire_Enc_S_ok k (T_wire_Enc.mk y7) ([x1.Cmd]) p7 a5 c5 (some ⟨p9, 0, none⟩) 1 y8 (((hst.pull 3).pull 1).pull 2) hy8 fun a6 c6 w hst => ?_)
              refine CK_ret rfl ?_
              refine wpG_done (by kernel_rfl) ?_ _
              refine C_keepQ [(3, pt p7 0)] rfl fun b => ?_
              refine th_n ?_
              obtain rfl := Option.some.inj hr
              have hst := ((((hst.pull 4).pull 2).pull 2).cut 3 2)
              exact ⟨a6, c6, (kpX [(3, pt p7 0)] rfl hst)⟩
          · refine O_bs (T := 9) [S x1.Cmd] #[(0, S x1.Cmd)] hst (by kernel_rfl) (by kernel_rfl) rfl fun p8 w hst => ?_
            have hst := osl_of_blk0 (ecs := [[S x1.Cmd]]) rS [x1.Cmd] rfl (fun m => ⟨⟨(), rfl, trivial⟩, trivial⟩) rfl hst
            refine A_all [4] (by kernel_rfl) ⟨⟨_, rfl, rfl, ?_⟩, trivial⟩
            refine O_bs (T := 3) [I x1.Index, I x1.Term] #[(0, I x1.Index), (1, I x1.Term)] hst (by kernel_rfl) (by kernel_rfl) rfl fun p9 w hst => ?_
            have hst := osl_of_blk0 (ecs := [[I x1.Index], [I x1.Term]]) (rI .i64) [x1.Index, x1.Term] rfl (fun m => ⟨⟨(), rfl, trivial⟩, ⟨(), rfl, trivial⟩, trivial⟩) rfl hst
            refine A_all [5] (by kernel_rfl) ⟨⟨_, rfl, rfl, ?_⟩, trivial⟩
            obtain ⟨y7, hy7, hr⟩ := bnd hr
            have hst := osl_nil (rI .u8) 5 hst
            refine O_call (vs := #[pt p7 0, .slice (some ⟨p9, 0, none⟩) ([x1.Index, x1.Term]).length 2]) Tryz.call41 (by kernel_rfl) ?_
            refine (wire_Enc_I_ok k (T_wire_Enc.mk ([])) ([x1.Index, x1.Term]) p7 none 0 (some ⟨p9, 0, none⟩) 2 y7 (((hst.pull 1).pull 1).pull 3) hy7 fun a5 c5 w hst => ?_)
            refine CK_ret rfl ?_
            refine A_all [9] (by kernel_rfl) ⟨⟨_, rfl, rfl, ?_⟩, trivial⟩
            obtain ⟨y8, hy8, hr⟩ := bnd hr
            refine O_call (vs := #[pt p7 0, .slice (some ⟨p8, 0, none⟩) ([x1.Cmd]).length 1]) Tryz.call43 (by kernel_rfl) ?_
            refine (wire_Enc_S_ok k (T_wire_Enc.mk y7) ([x1.Cmd]) p7 a5 c5 (some ⟨p8, 0, none⟩) 1 y8 (((hst.pull 3).pull 1).pull 2) hy8 fun a6 c6 w hst => ?_)
            refine CK_ret rfl ?_
            refine wpG_done (by kernel_rfl) ?_ _
            refine C_keepQ [(3, pt p7 0)] rfl fun b => ?_
            refine th_n ?_
            obtain rfl := Option.some.inj hr
            have hst := ((((hst.pull 4).pull 2).pull 2).cut 3 2)
            exact ⟨a6, c6, (kpX [(3, pt p7 0)] rfl hst)⟩
      · refine O_run (v := S x1.Cmd) (w' := w) (R_load (hst.pull 1) rfl rfl) rfl rfl ?_
        refine A_all [3, 8] (by kernel_rfl) ⟨⟨_, rfl, rfl, ?_⟩, ⟨_, rfl, rfl, ?_⟩, trivial⟩
        · refine O_run (v := I x1.Term) (w' := w) (R_load (hst.pull 1) rfl rfl) rfl rfl ?_
          refine A_all [4, 8] (by kernel_rfl) ⟨⟨_, rfl, rfl, ?_⟩, ⟨_, rfl, rfl, ?_⟩, trivial⟩
          · refine O_bs (T := 3) [I x1.Index, I x1.Term] #[(0, I x1.Index), (1, I x1.Term)] hst (by kernel_rfl) (by kernel_rfl) rfl fun p8 w hst => ?_
            have hst := osl_of_blk0 (ecs := [[I x1.Index], [I x1.Term]]) (rI .i64) [x1.Index, x1.Term] rfl (fun m => ⟨⟨(), rfl, trivial⟩, ⟨(), rfl, trivial⟩, trivial⟩) rfl hst
            refine A_all [5, 8] (by kernel_rfl) ⟨⟨_, rfl, rfl, ?_⟩, ⟨_, rfl, rfl, ?_⟩, trivial⟩
            · obtain ⟨y7, hy7, hr⟩ := bnd hr
              have hst := osl_nil (rI .u8) 5 hst
              refine O_call (vs := #[pt p7 0, .slice (some ⟨p8, 0, none⟩) ([x1.Index, x1.Term]).length 2]) Tryz.call41 (by kernel_rfl) ?_
              refine (wire_Enc_I_ok k (T_wire_Enc.mk ([])) ([x1.Index, x1.Term]) p7 none 0 (some ⟨p8, 0, none⟩) 2 y7 (((hst.pull 1).pull 1).pull 2) hy7 fun a5 c5 w hst => ?_)
              refine CK_ret rfl ?_
              refine A_all [8] (by kernel_rfl) ⟨⟨_, rfl, rfl, ?_⟩, trivial⟩
              refine O_bs (T := 9) [S x1.Cmd] #[(0, S x1.Cmd)] hst (by kernel_rfl) (by kernel_rfl) rfl fun p9 w hst => ?_
              have hst := osl_of_blk0 (ecs := [[S x1.Cmd]]) rS [x1.Cmd] rfl (fun m => ⟨⟨(), rfl, trivial⟩, trivial⟩) rfl hst
              refine A_all [9] (by kernel_rfl) ⟨⟨_, rfl, rfl, ?_⟩, trivial⟩
              obtain ⟨y8, hy8, hr⟩ := bnd hr
              refine O_call (vs := #[pt p7 0, .slice (some ⟨p9, 0, none⟩) ([x1.Cmd]).length 1]) Tryz.call43 (by kernel_rfl) ?_
              refine (wire_Enc_S_ok k (T_wire_Enc.mk y7) ([x1.Cmd]) p7 a5 c5 (some ⟨p9, 0, none⟩) 1 y8 ((hst.pull 1).pull 2) hy8 fun a6 c6 w hst => ?_)
              refine CK_ret rfl ?_
              refine wpG_done (by kernel_rfl) ?_ _
              refine C_keepQ [(3, pt p7 0)] rfl fun b => ?_
              refine th_n ?_
              obtain rfl := Option.some.inj hr
              have hst := ((((hst.pull 4).pull 2).pull 2).cut 3 2)
              exact ⟨a6, c6, (kpX [(3, pt p7 0)] rfl hst)⟩
            · refine O_bs (T := 9) [S x1.Cmd] #[(0, S x1.Cmd)] hst (by kernel_rfl) (by kernel_rfl) rfl fun p9 w hst => ?_
              have hst := osl_of_blk0 (ecs := [[S x1.Cmd]]) rS [x1.Cmd] rfl (fun m => ⟨⟨(), rfl, trivial⟩, trivial⟩) rfl hst
              refine A_all [5] (by kernel_rfl) ⟨⟨_, rfl, rfl, ?_⟩, trivial⟩
              obtain ⟨y7, hy7, hr⟩ := bnd hr
              have hst := osl_nil (rI .u8) 5 hst
              refine O_call (vs := #[pt p7 0, .slice (some ⟨p8, 0, none⟩) ([x1.Index, x1.Term]).length 2]) Tryz.call41 (by kernel_rfl) ?_
              refine (wire_Enc_I_ok k (T_wire_Enc.mk ([])) ([x1.Index, x1.Term]) p7 none 0 (some ⟨p8, 0, none⟩) 2 y7 (((hst.pull 2).pull 1).pull 3) hy7 fun a5 c5 w hst => ?_)
              refine CK_ret rfl ?_
              refine A_all [9] (by kernel_rfl) ⟨⟨_, rfl, rfl, ?_⟩, trivial⟩
              obtain ⟨y8, hy8, hr⟩ := bnd hr
              refine O_call (vs := #[pt p7 0, .slice (some ⟨p9, 0, none⟩) ([x1.Cmd]).length 1]) Tryz.call43 (by kernel_rfl) ?_
              refine (wire_Enc_S_ok k (T_wire_Enc.mk y7) ([x1.Cmd]) p7 a5 c5 (some ⟨p9, 0, none⟩) 1 y8 (((hst.pull 3).pull 1).pull 2) hy8 fun a6 c6 w hst => ?_)
              refine CK_ret rfl ?_
              refine wpG_done (by kernel_rfl) ?_ _
              refine C_keepQ [(3, pt p7 0)] rfl fun b => ?_
              refine th_n ?_
              obtain rfl := Option.some.inj hr
              have hst := ((((hst.pull 4).pull 2).pull 2).cut 3 2)
              exact ⟨a6, c6, (kpX [(3, pt p7 0)] rfl hst)⟩
          · refine O_bs (T := 9) [S x1.Cmd] #[(0, S x1.Cmd)] hst (by kernel_rfl) (by kernel_rfl) rfl fun p8 w hst => ?_
            have hst := osl_of_blk0 (ecs := [[S x1.Cmd]]) rS [x1.Cmd] rfl (fun m => ⟨⟨(), rfl, trivial⟩, trivial⟩) rfl hst
            refine A_all [4] (by kernel_rfl) ⟨⟨_, rfl, rfl, ?_⟩, trivial⟩
            refine O_bs (T := 3) [I x1.Index, I x1.Term] #[(0, I x1.Index), (1, I x1.Term)] hst (by kernel_rfl) (by kernel_rfl) rfl fun p9 w hst => ?_
            have hst := osl_of_blk0 (ecs := [[I x1.Index], [I x1.Term]]) (rI .i64) [x1.Index, x1.Term] rfl (fun m => ⟨⟨(), rfl, trivial⟩, ⟨(), rfl, trivial⟩, trivial⟩) rfl hst
            refine A_all [5] (by kernel_rfl) ⟨⟨_, rfl, rfl, ?_⟩, trivial⟩
            obtain ⟨y7, hy7, hr⟩ := bnd hr
            have hst := osl_nil (rI .u8) 5 hst
            refine O_call (vs := #[pt p7 0, .slice (some ⟨p9, 0, none⟩) ([x1.Index, x1.Term]).length 2]) Tryz.call41 (by kernel_rfl) ?_
            refine (wire_Enc_I_ok k (T_wire_Enc.mk ([])) ([x1.Index, x1.Term]) p7 none 0 (some ⟨p9, 0, none⟩) 2 y7 (((hst.pull 1).pull 1).pull 3) hy7 fun a5 c5 w hst => ?_)
            refine CK_ret rfl ?_
            refine A_all [9] (by kernel_rfl) ⟨⟨_, rfl, rfl, ?_⟩, trivial⟩
            obtain ⟨y8, hy8, hr⟩ := bnd hr
            refine O_call (vs := #[pt p7 0, .slice (some ⟨p8, 0, none⟩) ([x1.Cmd]).length 1]) Tryz.call43 (by kernel_rfl) ?_
            refine (wire_Enc_S_ok k (T_wire_Enc.mk y7) ([x1.Cmd]) p7 a5 c5 (some ⟨p8, 0, none⟩) 1 y8 (((hst.pull 3).pull 1).pull 2) hy8 fun a6 c6 w hst => ?_)
            refine CK_ret rfl ?_
            refine wpG_done (by kernel_rfl) ?_ _
            refine C_keepQ [(3, pt p7 0)] rfl fun b => ?_
            refine th_n ?_
            obtain rfl := Option.some.inj hr
            have hst := ((((hst.pull 4).pull 2).pull 2).cut 3 2)
            exact ⟨a6, c6, (kpX [(3, pt p7 0)] rfl hst)⟩
        · refine O_bs (T := 9) [S x1.Cmd] #[(0, S x1.Cmd)] hst (by kernel_rfl) (by kernel_rfl) rfl fun p8 w hst => ?_
          have hst := osl_of_blk0 (ecs := [[S x1.Cmd]]) rS [x1.Cmd] rfl (fun m => ⟨⟨(), rfl, trivial⟩, trivial⟩) rfl hst
          refine A_all [3] (by kernel_rfl) ⟨⟨_, rfl, rfl, ?_⟩, trivial⟩
          refine O_run (v := I x1.Term) (w' := w) (R_load (hst.pull 2) rfl rfl) rfl rfl ?_
          refine A_all [4] (by kernel_rfl) ⟨⟨_, rfl, rfl, ?_⟩, trivial⟩
          refine O_bs (T := 3) [I x1.Index, I x1.Term] #[(0, I x1.Index), (1, I x1.Term)] hst (by kernel_rfl) (by kernel_rfl) rfl fun p9 w hst => ?_
          have hst := osl_of_blk0 (ecs := [[I x1.Index], [I x1.Term]]) (rI .i64) [x1.Index, x1.Term] rfl (fun m => ⟨⟨(), rfl, trivial⟩, ⟨(), rfl, trivial⟩, trivial⟩) rfl hst
          refine A_all [5] (by kernel_rfl) ⟨⟨_, rfl, rfl, ?_⟩, trivial⟩
          obtain ⟨y7, hy7, hr⟩ := bnd hr
          have hst := osl_nil (rI .u8) 5 hst
          refine O_call (vs := #[pt p7 0, .slice (some ⟨p9, 0, none⟩) ([x1.Index, x1.Term]).length 2]) Tryz.call41 (by kernel_rfl) ?_
          refine (wire_Enc_I_ok k (T_wire_Enc.mk ([])) ([x1.Index, x1.Term]) p7 none 0 (some ⟨p9, 0, none⟩) 2 y7 (((hst.pull 1).pull 1).pull 3) hy7 fun a5 c5 w hst => ?_)
          refine CK_ret rfl ?_
          refine A_all [9] (by kernel_rfl) ⟨⟨_, rfl, rfl, ?_⟩, trivial⟩
          obtain ⟨y8, hy8, hr⟩ := bnd hr
          refine O_call (vs := #[pt p7 0, .slice (some ⟨p8, 0, none⟩) ([x1.Cmd]).length 1]) Tryz.call43 (by kernel_rfl) ?_
          refine (wire_Enc_S_ok k (T_wire_Enc.mk y7) ([x1.Cmd]) p7 a5 c5 (some ⟨p8, 0, none⟩) 1 y8 (((hst.pull 3).pull 1).pull 2) hy8 fun a6 c6 w hst => ?_)
          refine CK_ret rfl ?_
          refine wpG_done (by kernel_rfl) ?_ _
          refine C_keepQ [(3, pt p7 0)] rfl fun b => ?_
          refine th_n ?_
          obtain rfl := Option.some.inj hr
          have hst := ((((hst.pull 4).pull 2).pull 2).cut 3 2)
          exact ⟨a6, c6, (kpX [(3, pt p7 0)] rfl hst)⟩
    · refine O_run (v := I x1.Term) (w' := w) (R_load (hst.pull 1) rfl rfl) rfl rfl ?_
      refine A_all [1, 7] (by kernel_rfl) ⟨⟨_, rfl, rfl, ?_⟩, ⟨_, rfl, rfl, ?_⟩, trivial⟩
      · refine O_run (v := I x1.Index) (w' := w) (R_load (hst.pull 1) rfl rfl) rfl rfl ?_
        refine A_all [4, 7] (by kernel_rfl) ⟨⟨_, rfl, rfl, ?_⟩, ⟨_, rfl, rfl, ?_⟩, trivial⟩
        · refine O_bs (T := 3) [I x1.Index, I x1.Term] #[(0, I x1.Index), (1, I x1.Term)] hst (by kernel_rfl) (by kernel_rfl) rfl fun p8 w hst => ?_
          have hst := osl_of_blk0 (ecs := [[I x1.Index], [I x1.Term]]) (rI .i64) [x1.Index, x1.Term] rfl (fun m => ⟨⟨(), rfl, trivial⟩, ⟨(), rfl, trivial⟩, trivial⟩) rfl hst
          refine A_all [5, 7] (by kernel_rfl) ⟨⟨_, rfl, rfl, ?_⟩, ⟨_, rfl, rfl, ?_⟩, trivial⟩
          · obtain ⟨y7, hy7, hr⟩ := bnd hr
            have hst := osl_nil (rI .u8) 5 hst
            refine O_call (vs := #[pt p7 0, .slice (some ⟨p8, 0, none⟩) ([x1.Index, x1.Term]).length 2]) Tryz.call41 (by kernel_rfl) ?_
            refine (wire_Enc_I_ok k (T_wire_Enc.mk ([])) ([x1.Index, x1.Term]) p7 none 0 (some ⟨p8, 0, none⟩) 2 y7 (((hst.pull 1).pull 1).pull 2) hy7 fun a5 c5 w hst => ?_)
            refine CK_ret rfl ?_
            refine A_all [7] (by kernel_rfl) ⟨⟨_, rfl, rfl, ?_⟩, trivial⟩
            refine O_run (v := S x1.Cmd) (w' := w) (R_load (hst.pull 3) rfl rfl) rfl rfl ?_
            refine A_all [8] (by kernel_rfl) ⟨⟨_, rfl, rfl, ?_⟩, trivial⟩
            refine O_bs (T := 9) [S x1.Cmd] #[(0, S x1.Cmd)] hst (by kernel_rfl) (by kernel_rfl) rfl fun p9 w hst => ?_
            have hst := osl_of_blk0 (ecs := [[S x1.Cmd]]) rS [x1.Cmd] rfl (fun m => ⟨⟨(), rfl, trivial⟩, trivial⟩) rfl hst
            refine A_all [9] (by kernel_rfl) ⟨⟨_, rfl, rfl, ?_⟩, trivial⟩
            obtain ⟨y8, hy8, hr⟩ := bnd hr
            refine O_call (vs := #[pt p7 0, .slice (some ⟨p9, 0, none⟩) ([x1.Cmd]).length 1]) Tryz.call43 (by kernel_rfl) ?_
            refine (wire_Enc_S_ok k (T_wire_Enc.mk y7) ([x1.Cmd]) p7 a5 c5 (some ⟨p9, 0, none⟩) 1 y8 ((hst.pull 1).pull 2) hy8 fun a6 c6 w hst => ?_)
            refine CK_ret rfl ?_
            refine wpG_done (by kernel_rfl) ?_ _
            refine C_keepQ [(3, pt p7 0)] rfl fun b => ?_
            refine th_n ?_
            obtain rfl := Option.some.inj hr
            have hst := ((((hst.pull 4).pull 2).pull 2).cut 3 2)
            exact ⟨a6, c6, (kpX [(3, pt p7 0)] rfl hst)⟩
          · refine O_run (v := S x1.Cmd) (w' := w) (R_load (hst.pull 2) rfl rfl) rfl rfl ?_
            refine A_all [5, 8] (by kernel_rfl) ⟨⟨_, rfl, rfl, ?_⟩, ⟨_, rfl, rfl, ?_⟩, trivial⟩
            · obtain ⟨y7, hy7, hr⟩ := bnd hr
              have hst := osl_nil (rI .u8) 5 hst
              refine O_call (vs := #[pt p7 0, .slice (some ⟨p8, 0, none⟩) ([x1.Index, x1.Term]).length 2]) Tryz.call41 (by kernel_rfl) ?_
              refine (wire_Enc_I_ok k (T_wire_Enc.mk ([])) ([x1.Index, x1.Term]) p7 none 0 (some ⟨p8, 0, none⟩) 2 y7 (((hst.pull 1).pull 1).pull 2) hy7 fun a5 c5 w hst => ?_)
              refine CK_ret rfl ?_
              refine A_all [8] (by kernel_rfl) ⟨⟨_, rfl, rfl, ?_⟩, trivial⟩
              refine O_bs (T := 9) [S x1.Cmd] #[(0, S x1.Cmd)] hst (by kernel_rfl) (by kernel_rfl) rfl fun p9 w hst => ?_
              have hst := osl_of_blk0 (ecs := [[S x1.Cmd]]) rS [x1.Cmd] rfl (fun m => ⟨⟨(), rfl, trivial⟩, trivial⟩) rfl hst
              refine A_all [9] (by kernel_rfl) ⟨⟨_, rfl, rfl, ?_⟩, trivial⟩
              obtain ⟨y8, hy8, hr⟩ := bnd hr
              refine O_call (vs := #[pt p7 0, .slice (some ⟨p9, 0, none⟩) ([x1.Cmd]).length 1]) Tryz.call43 (by kernel_rfl) ?_
              refine (wire_Enc_S_ok k (T_wire_Enc.mk y7) ([x1.Cmd]) p7 a5 c5 (some ⟨p9, 0, none⟩) 1 y8 ((hst.pull 1).pull 2) hy8 fun a6 c6 w hst => ?_)
              refine CK_ret rfl ?_
              refine wpG_done (by kernel_rfl) ?_ _
              refine C_keepQ [(3, pt p7 0)] rfl fun b => ?_
              refine th_n ?_
              obtain rfl := Option.some.inj hr
              have hst := ((((hst.pull 4).pull 2).pull 2).cut 3 2)
              exact ⟨a6, c6, (kpX [(3, pt p7 0)] rfl hst)⟩
            · refine O_bs (T := 9) [S x1.Cmd] #[(0, S x1.Cmd)] hst (by kernel_rfl) (by kernel_rfl) rfl fun p9 w hst => ?_
              have hst := osl_of_blk0 (ecs := [[S x1.Cmd]]) rS [x1.Cmd] rfl (fun m => ⟨⟨(), rfl, trivial⟩, trivial⟩) rfl hst
              refine A_all [5] (by kernel_rfl) ⟨⟨_, rfl, rfl, ?_⟩, trivial⟩
              obtain ⟨y7, hy7, hr⟩ := bnd hr
              have hst := osl_nil (rI .u8) 5 hst
              refine O_call (vs := #[pt p7 0, .slice (some ⟨p8, 0, none⟩) ([x1.Index, x1.Term]).length 2]) Tryz.call41 (by kernel_rfl) ?_
              refine (wire_Enc_I_ok k (T_wire_Enc.mk ([])) ([x1.Index, x1.Term]) p7 none 0 (some ⟨p8, 0, none⟩) 2 y7 (((hst.pull 2).pull 1).pull 3) hy7 fun a5 c5 w hst => ?_)
              refine CK_ret rfl ?_
              refine A_all [9] (by kernel_rfl) ⟨⟨_, rfl, rfl, ?_⟩, trivial⟩
              obtain ⟨y8, hy8, hr⟩ := bnd hr
              refine O_call (vs := #[pt p7 0, .slice (some ⟨p9, 0, none⟩) ([x1.Cmd]).length 1]) Tryz.call43 (by kernel_rfl) ?_
              refine (wire_Enc_S_ok k (T_wire_Enc.mk y7) ([x1.Cmd]) p7 a5 c5 (some ⟨p9, 0, none⟩) 1 y8 (((hst.pull 3).pull 1).pull 2) hy8 fun a6 c6 w hst => ?_)
              refine CK_ret rfl ?_
              refine wpG_done (by kernel_rfl) ?_ _
              refine C_keepQ [(3, pt p7 0)] rfl fun b => ?_
              refine th_n ?_
              obtain rfl := Option.some.inj hr
              have hst := ((((hst.pull 4).pull 2).pull 2).cut 3 2)
              exact ⟨a6, c6, (kpX [(3, pt p7 0)] rfl hst)⟩
        · refine O_run (v := S x1.Cmd) (w' := w) (R_load (hst.pull 1) rfl rfl) rfl rfl ?_
          refine A_all [4, 8] (by kernel_rfl) ⟨⟨_, rfl, rfl, ?_⟩, ⟨_, rfl, rfl, ?_⟩, trivial⟩
          · refine O_bs (T := 3) [I x1.Index, I x1.Term] #[(0, I x1.Index), (1, I x1.Term)] hst (by kernel_rfl) (by kernel_rfl) rfl fun p8 w hst => ?_
            have hst := osl_of_blk0 (ecs := [[I x1.Index], [I x1.Term]]) (rI .i64) [x1.Index, x1.Term] rfl (fun m => ⟨⟨(), rfl, trivial⟩, ⟨(), rfl, trivial⟩, trivial⟩) rfl hst
            refine A_all [5, 8] (by kernel_rfl) ⟨⟨_, rfl, rfl, ?_⟩, ⟨_, rfl, rfl, ?_⟩, trivial⟩
            · obtain ⟨y7, hy7, hr⟩ := bnd hr
              have hst := osl_nil (rI .u8) 5 hst
              refine O_call (vs := #[pt p7 0, .slice (some ⟨p8, 0, none⟩) ([x1.Index, x1.Term]).length 2]) Tryz.call41 (by kernel_rfl) ?_
              refine (wire_Enc_I_ok k (T_wire_Enc.mk ([])) ([x1.Index, x1.Term]) p7 none 0 (some ⟨p8, 0, none⟩) 2 y7 (((hst.pull 1).pull 1).pull 2) hy7 fun a5 c5 w hst => ?_)
              refine CK_ret rfl ?_
              refine A_all [8] (by kernel_rfl) ⟨⟨_, rfl, rfl, ?_⟩, trivial⟩
              refine O_bs (T := 9) [S x1.Cmd] #[(0, S x1.Cmd)] hst (by kernel_rfl) (by kernel_rfl) rfl fun p9 w hst => ?_
              have hst := osl_of_blk0 (ecs := [[S x1.Cmd]]) rS [x1.Cmd] rfl (fun m => ⟨⟨(), rfl, trivial⟩, trivial⟩) rfl hst
              refine A_all [9] (by kernel_rfl) ⟨⟨_, rfl, rfl, ?_⟩, trivial⟩
              obtain ⟨y8, hy8, hr⟩ := bnd hr
              refine O_call (vs := #[pt p7 0, .slice (some ⟨p9, 0, none⟩) ([x1.Cmd]).length 1]) Tryz.call43 (by kernel_rfl) ?_
              refine (wire_Enc_S_ok k (T_wire_Enc.mk y7) ([x1.Cmd]) p7 a5 c5 (some ⟨p9, 0, none⟩) 1 y8 ((hst.pull 1).pull 2) hy8 fun a6 c6 w hst => ?_)
              refine CK_ret rfl ?_
              refine wpG_done (by kernel_rfl) ?_ _
              refine C_keepQ [(3, pt p7 0)] rfl fun b => ?_
              refine th_n ?_
              obtain rfl := Option.some.inj hr
              have hst := ((((hst.pull 4).pull 2).pull 2).cut 3 2)
              exact ⟨a6, c6, (kpX [(3, pt p7 0)] rfl hst)⟩
            · refine O_bs (T := 9) [S x1.Cmd] #[(0, S x1.Cmd)] hst (by kernel_rfl) (by kernel_rfl) rfl fun p9 w hst => ?_
              have hst := osl_of_blk0 (ecs := [[S x1.Cmd]]) rS [x1.Cmd] rfl (fun m => ⟨⟨(), rfl, trivial⟩, trivial⟩) rfl hst
              refine A_all [5] (by kernel_rfl) ⟨⟨_, rfl, rfl, ?_⟩, trivial⟩
              obtain ⟨y7, hy7, hr⟩ := bnd hr
              have hst := osl_nil (rI .u8) 5 hst
              refine O_call (vs := #[pt p7 0, .slice (some ⟨p8, 0, none⟩) ([x1.Index, x1.Term]).length 2]) Tryz.call41 (by kernel_rfl) ?_
              refine (wire_Enc_I_ok k (T_wire_Enc.mk ([])) ([x1.Index, x1.Term]) p7 none 0 (some ⟨p8, 0, none⟩) 2 y7 (((hst.pull 2).pull 1).pull 3) hy7 fun a5 c5 w hst => ?_)
              refine CK_ret rfl ?_
              refine A_all [9] (by kernel_rfl) ⟨⟨_, rfl, rfl, ?_⟩, trivial⟩
              obtain ⟨y8, hy8, hr⟩ := bnd hr
              refine O_call (vs := #[pt p7 0, .slice (some ⟨p9, 0, none⟩) ([x1.Cmd]).length 1]) Tryz.call43 (by kernel_rfl) ?_
              refine (wire_Enc_S_ok k (T_wire_Enc.mk y7) ([x1.Cmd]) p7 a5 c5 (some ⟨p9, 0, none⟩) 1 y8 (((hst.pull 3).pull 1).pull 2) hy8 fun a6 c6 w hst => ?_)
              refine CK_ret rfl ?_
              refine wpG_done (by kernel_rfl) ?_ _
              refine C_keepQ [(3, pt p7 0)] rfl fun b => ?_
              refine th_n ?_
              obtain rfl := Option.some.inj hr
              have hst := ((((hst.pull 4).pull 2).pull 2).cut 3 2)
              exact ⟨a6, c6, (kpX [(3, pt p7 0)] rfl hst)⟩
          · refine O_bs (T := 9) [S x1.Cmd] #[(0, S x1.Cmd)] hst (by kernel_rfl) (by kernel_rfl) rfl fun p8 w hst => ?_
            have hst := osl_of_blk0 (ecs := [[S x1.Cmd]]) rS [x1.Cmd] rfl (fun m => ⟨⟨(), rfl, trivial⟩, trivial⟩) rfl hst
            refine A_all [4] (by kernel_rfl) ⟨⟨_, rfl, rfl, ?_⟩, trivial⟩
            refine O_bs (T := 3) [I x1.Index, I x1.Term] #[(0, I x1.Index), (1, I x1.Term)] hst (by kernel_rfl) (by kernel_rfl) rfl fun p9 w hst => ?_
            have hst := osl_of_blk0 (ecs := [[I x1.Index], [I x1.Term]]) (rI .i64) [x1.Index, x1.Term] rfl (fun m => ⟨⟨(), rfl, trivial⟩, ⟨(), rfl, trivial⟩, trivial⟩) rfl hst
            refine A_all [5] (by kernel_rfl) ⟨⟨_, rfl, rfl, ?_⟩, trivial⟩
            obtain ⟨y7, hy7, hr⟩ := bnd hr
            have hst := osl_nil (rI .u8) 5 hst
            refine O_call (vs := #[pt p7 0, .slice (some ⟨p9, 0, none⟩) ([x1.Index, x1.Term]).length 2]) Tryz.call41 (by kernel_rfl) ?_
            refine (wire_Enc_I_ok k (T_wire_Enc.mk ([])) ([x1.Index, x1.Term]) p7 none 0 (some ⟨p9, 0, none⟩) 2 y7 (((hst.pull 1).pull 1).pull 3) hy7 fun a5 c5 w hst => ?_)
            refine CK_ret rfl ?_
            refine A_all [9] (by kernel_rfl) ⟨⟨_, rfl, rfl, ?_⟩, trivial⟩
            obtain ⟨y8, hy8, hr⟩ := bnd hr
            refine O_call (vs := #[pt p7 0, .slice (some ⟨p8, 0, none⟩) ([x1.Cmd]).length 1]) Tryz.call43 (by kernel_rfl) ?_
            refine (wire_Enc_S_ok k (T_wire_Enc.mk y7) ([x1.Cmd]) p7 a5 c5 (some ⟨p8, 0, none⟩) 1 y8 (((hst.pull 3).pull 1).pull 2) hy8 fun a6 c6 w hst => ?_)
            refine CK_ret rfl ?_
            refine wpG_done (by kernel_rfl) ?_ _
            refine C_keepQ [(3, pt p7 0)] rfl fun b => ?_
            refine th_n ?_
            obtain rfl := Option.some.inj hr
            have hst := ((((hst.pull 4).pull 2).pull 2).cut 3 2)
            exact ⟨a6, c6, (kpX [(3, pt p7 0)] rfl hst)⟩
      · refine O_run (v := S x1.Cmd) (w' := w) (R_load (hst.pull 1) rfl rfl) rfl rfl ?_
        refine A_all [1, 8] (by kernel_rfl) ⟨⟨_, rfl, rfl, ?_⟩, ⟨_, rfl, rfl, ?_⟩, trivial⟩
        · refine O_run (v := I x1.Index) (w' := w) (R_load (hst.pull 1) rfl rfl) rfl rfl ?_
          refine A_all [4, 8] (by kernel_rfl) ⟨⟨_, rfl, rfl, ?_⟩, ⟨_, rfl, rfl, ?_⟩, trivial⟩
          · refine O_bs (T := 3) [I x1.Index, I x1.Term] #[(0, I x1.Index), (1, I x1.Term)] hst (by kernel_rfl) (by kernel_rfl) rfl fun p8 w hst => ?_
            have hst := osl_of_blk0 (ecs := [[I x1.Index], [I x1.Term]]) (rI .i64) [x1.Index, x1.Term] rfl (fun m => ⟨⟨(), rfl, trivial⟩, ⟨(), rfl, trivial⟩, trivial⟩) rfl hst
            refine A_all [5, 8] (by kernel_rfl) ⟨⟨_, rfl, rfl, ?_⟩, ⟨_, rfl, rfl, ?_⟩, trivial⟩
            · obtain ⟨y7, hy7, hr⟩ := bnd hr
              have hst := osl_nil (rI .u8) 5 hst
              refine O_call (vs := #[pt p7 0, .slice (some ⟨p8, 0, none⟩) ([x1.Index, x1.Term]).length 2]) Tryz.call41 (by kernel_rfl) ?_
              refine (wire_Enc_I_ok k (T_wire_Enc.mk ([])) ([x1.Index, x1.Term]) p7 none 0 (some ⟨p8, 0, none⟩) 2 y7 (((hst.pull 1).pull 1).pull 2) hy7 fun a5 c5 w hst => ?_)
              refine CK_ret rfl ?_
              refine A_all [8] (by kernel_rfl) ⟨⟨_, rfl, rfl, ?_⟩, trivial⟩
              refine O_bs (T := 9) [S x1.Cmd] #[(0, S x1.Cmd)] hst (by kernel_rfl) (by kernel_rfl) rfl fun p9 w hst => ?_
              have hst := osl_of_blk0 (ecs := [[S x1.Cmd]]) rS [x1.Cmd] rfl (fun m => ⟨⟨(), rfl, trivial⟩, trivial⟩) rfl hst
              refine A_all [9] (by kernel_rfl) ⟨⟨_, rfl, rfl, ?_⟩, trivial⟩
              obtain ⟨y8, hy8, hr⟩ := bnd hr
              refine O_call (vs := #[pt p7 0, .slice (some ⟨p9, 0, none⟩) ([x1.Cmd]).length 1]) Tryz.call43 (by kernel_rfl) ?_
              refine (wire_Enc_S_ok k (T_wire_Enc.mk y7) ([x1.Cmd]) p7 a5 c5 (some ⟨p9, 0, none⟩) 1 y8 ((hst.pull 1).pull 2) hy8 fun a6 c6 w hst => ?_)
              refine CK_ret rfl ?_
              refine wpG_done (by kernel_rfl) ?_ _
              refine C_keepQ [(3, pt p7 0)] rfl fun b => ?_
              refine th_n ?_
              obtain rfl := Option.some.inj hr
              have hst := ((((hst.pull 4).pull 2).pull 2).cut 3 2)
              exact ⟨a6, c6, (kpX [(3, pt p7 0)] rfl hst)⟩
            · refine O_bs (T := 9) [S x1.Cmd] #[(0, S x1.Cmd)] hst (by kernel_rfl) (by kernel_rfl) rfl fun p9 w hst => ?_
              have hst := osl_of_blk0 (ecs := [[S x1.Cmd]]) rS [x1.Cmd] rfl (fun m => ⟨⟨(), rfl, trivial⟩, trivial⟩) rfl hst
              refine A_all [5] (by kernel_rfl) ⟨⟨_, rfl, rfl, ?_⟩, trivial⟩
              obtain ⟨y7, hy7, hr⟩ := bnd hr
              have hst := osl_nil (rI .u8) 5 hst
              refine O_call (vs := #[pt p7 0, .slice (some ⟨p8, 0, none⟩) ([x1.Index, x1.Term]).length 2]) Tryz.call41 (by kernel_rfl) ?_
              refine (wire_Enc_I_ok k (T_wire_Enc.mk ([])) ([x1.Index, x1.Term]) p7 none 0 (some ⟨p8, 0, none⟩) 2 y7 (((hst.pull 2).pull 1).pull 3) hy7 fun a5 c5 w hst => ?_)
              refine CK_ret rfl ?_
              refine A_all [9] (by kernel_rfl) ⟨⟨_, rfl, rfl, ?_⟩, trivial⟩
              obtain ⟨y8, hy8, hr⟩ := bnd hr
              refine O_call (vs := #[pt p7 0, .slice (some ⟨p9, 0, none⟩) ([x1.Cmd]).length 1]) Tryz.call43 (by kernel_rfl) ?_
              refine (wire_Enc_S_ok k (T_wire_Enc.mk y7) ([x1.Cmd]) p7 a5 c5 (some ⟨p9, 0, none⟩) 1 y8 (((hst.pull 3).pull 1).pull 2) hy8 fun a6 c6 w hst => ?_)
              refine CK_ret rfl ?_
              refine wpG_done (by kernel_rfl) ?_ _
              refine C_keepQ [(3, pt p7 0)] rfl fun b => ?_
              refine th_n ?_
              obtain rfl := Option.some.inj hr
              have hst := ((((hst.pull 4).pull 2).pull 2).cut 3 2)
              exact ⟨a6, c6, (kpX [(3, pt p7 0)] rfl hst)⟩
          · refine O_bs (T := 9) [S x1.Cmd] #[(0, S x1.Cmd)] hst (by kernel_rfl) (by kernel_rfl) rfl fun p8 w hst => ?_
            have hst := osl_of_blk0 (ecs := [[S x1.Cmd]]) rS [x1.Cmd] rfl (fun m => ⟨⟨(), rfl, trivial⟩, trivial⟩) rfl hst
            refine A_all [4] (by kernel_rfl) ⟨⟨_, rfl, rfl, ?_⟩, trivial⟩
            refine O_bs (T := 3) [I x1.Index, I x1.Term] #[(0, I x1.Index), (1, I x1.Term)] hst (by kernel_rfl) (by kernel_rfl) rfl fun p9 w hst => ?_
            have hst := osl_of_blk0 (ecs := [[I x1.Index], [I x1.Term]]) (rI .i64) [x1.Index, x1.Term] rfl (fun m => ⟨⟨(), rfl, trivial⟩, ⟨(), rfl, trivial⟩, trivial⟩) rfl hst
            refine A_all [5] (by kernel_rfl) ⟨⟨_, rfl, rfl, ?_⟩, trivial⟩
            obtain ⟨y7, hy7, hr⟩ := bnd hr
            have hst := osl_nil (rI .u8) 5 hst
            refine O_call (vs := #[pt p7 0, .slice (some ⟨p9, 0, none⟩) ([x1.Index, x1.Term]).length 2]) Tryz.call41 (by kernel_rfl) ?_
            refine (wire_Enc_I_ok k (T_wire_Enc.mk ([])) ([x1.Index, x1.Term]) p7 none 0 (some ⟨p9, 0, none⟩) 2 y7 (((hst.pull 1).pull 1).pull 3) hy7 fun a5 c5 w hst => ?_)
            refine CK_ret rfl ?_
            refine A_all [9] (by kernel_rfl) ⟨⟨_, rfl, rfl, ?_⟩, trivial⟩
            obtain ⟨y8, hy8, hr⟩ := bnd hr
            refine O_call (vs := #[pt p7 0, .slice (some ⟨p8, 0, none⟩) ([x1.Cmd]).length 1]) Tryz.call43 (by kernel_rfl) ?_
            refine (wire_Enc_S_ok k (T_wire_Enc.mk y7) ([x1.Cmd]) p7 a5 c5 (some ⟨p8, 0, none⟩) 1 y8 (((hst.pull 3).pull 1).pull 2) hy8 fun a6 c6 w hst => ?_)
            refine CK_ret rfl ?_
            refine wpG_done (by kernel_rfl) ?_ _
            refine C_keepQ [(3, pt p7 0)] rfl fun b => ?_
            refine th_n ?_
            obtain rfl := Option.some.inj hr
            have hst := ((((hst.pull 4).pull 2).pull 2).cut 3 2)
            exact ⟨a6, c6, (kpX [(3, pt p7 0)] rfl hst)⟩
        · refine O_bs (T := 9) [S x1.Cmd] #[(0, S x1.Cmd)] hst (by kernel_rfl) (by kernel_rfl) rfl fun p8 w hst => ?_
          have hst := osl_of_blk0 (ecs := [[S x1.Cmd]]) rS [x1.Cmd] rfl (fun m => ⟨⟨(), rfl, trivial⟩, trivial⟩) rfl hst
          refine A_all [1] (by kernel_rfl) ⟨⟨_, rfl, rfl, ?_⟩, trivial⟩
          refine O_run (v := I x1.Index) (w' := w) (R_load (hst.pull 2) rfl rfl) rfl rfl ?_
          refine A_all [4] (by kernel_rfl) ⟨⟨_, rfl, rfl, ?_⟩, trivial⟩
          refine O_bs (T := 3) [I x1.Index, I x1.Term] #[(0, I x1.Index), (1, I x1.Term)] hst (by kernel_rfl) (by kernel_rfl) rfl fun p9 w hst => ?_
          have hst := osl_of_blk0 (ecs := [[I x1.Index], [I x1.Term]]) (rI .i64) [x1.Index, x1.Term] rfl (fun m => ⟨⟨(), rfl, trivial⟩, ⟨(), rfl, trivial⟩, trivial⟩) rfl hst
          refine A_all [5] (by kernel_rfl) ⟨⟨_, rfl, rfl, ?_⟩, trivial⟩
          obtain ⟨y7, hy7, hr⟩ := bnd hr
          have hst := osl_nil (rI .u8) 5 hst
          refine O_call (vs := #[pt p7 0, .slice (some ⟨p9, 0, none⟩) ([x1.Index, x1.Term]).length 2]) Tryz.call41 (by kernel_rfl) ?_
          refine (wire_Enc_I_ok k (T_wire_Enc.mk ([])) ([x1.Index, x1.Term]) p7 none 0 (some ⟨p9, 0, none⟩) 2 y7 (((hst.pull 1).pull 1).pull 3) hy7 fun a5 c5 w hst => ?_)
          refine CK_ret rfl ?_
          refine A_all [9] (by kernel_rfl) ⟨⟨_, rfl, rfl, ?_⟩, trivial⟩
          obtain ⟨y8, hy8, hr⟩ := bnd hr
          refine O_call (vs := #[pt p7 0, .slice (some ⟨p8, 0, none⟩) ([x1.Cmd]).length 1]) Tryz.call43 (by kernel_rfl) ?_
          refine (wire_Enc_S_ok k (T_wire_Enc.mk y7) ([x1.Cmd]) p7 a5 c5 (some ⟨p8, 0, none⟩) 1 y8 (((hst.pull 3).pull 1).pull 2) hy8 fun a6 c6 w hst => ?_)
          refine CK_ret rfl ?_
          refine wpG_done (by kernel_rfl) ?_ _
          refine C_keepQ [(3, pt p7 0)] rfl fun b => ?_
          refine th_n ?_
          obtain rfl := Option.some.inj hr
          have hst := ((((hst.pull 4).pull 2).pull 2).cut 3 2)
          exact ⟨a6, c6, (kpX [(3, pt p7 0)] rfl hst)⟩
    · refine O_run (v := S x1.Cmd) (w' := w) (R_load (hst.pull 1) rfl rfl) rfl rfl ?_
      refine A_all [1, 3, 8] (by kernel_rfl) ⟨⟨_, rfl, rfl, ?_⟩, ⟨_, rfl, rfl, ?_⟩, ⟨_, rfl, rfl, ?_⟩, trivial⟩
      · refine O_run (v := I x1.Index) (w' := w) (R_load (hst.pull 1) rfl rfl) rfl rfl ?_
        refine A_all [3, 8] (by kernel_rfl) ⟨⟨_, rfl, rfl, ?_⟩, ⟨_, rfl, rfl, ?_⟩, trivial⟩
        · refine O_run (v := I x1.Term) (w' := w) (R_load (hst.pull 1) rfl rfl) rfl rfl ?_
          refine A_all [4, 8] (by kernel_rfl) ⟨⟨_, rfl, rfl, ?_⟩, ⟨_, rfl, rfl, ?_⟩, trivial⟩
          · refine O_bs (T := 3) [I x1.Index, I x1.Term] #[(0, I x1.Index), (1, I x1.Term)] hst (by kernel_rfl) (by kernel_rfl) rfl fun p8 w hst => ?_
            have hst := osl_of_blk0 (ecs := [[I x1.Index], [I x1.Term]]) (rI .i64) [x1.Index, x1.Term] rfl (fun m => ⟨⟨(), rfl, trivial⟩, ⟨(), rfl, trivial⟩, trivial⟩) rfl hst
            refine A_all [5, 8] (by kernel_rfl) ⟨⟨_, rfl, rfl, ?_⟩, ⟨_, rfl, rfl, ?_⟩, trivial⟩
            · obtain ⟨y7, hy7, hr⟩ := bnd hr
              have hst := osl_nil (rI .u8) 5 hst
              refine O_call (vs := #[pt p7 0, .slice (some ⟨p8, 0, none⟩) ([x1.Index, x1.Term]).length 2]) Tryz.call41 (by kernel_rfl) ?_
              refine (wire_Enc_I_ok k (T_wire_Enc.mk ([])) ([x1.Index, x1.Term]) p7 none 0 (some ⟨p8, 0, none⟩) 2 y7 (((hst.pull 1).pull 1).pull 2) hy7 fun a5 c5 w hst => ?_)
              refine CK_ret rfl ?_
              refine A_all [8] (by kernel_rfl) ⟨⟨_, rfl, rfl, ?_⟩, trivial⟩
              refine O_bs (T := 9) [S x1.Cmd] #[(0, S x1.Cmd)] hst (by kernel_rfl) (by kernel_rfl) rfl fun p9 w hst => ?_
              have hst := osl_of_blk0 (ecs := [[S x1.Cmd]]) rS [x1.Cmd] rfl (fun m => ⟨⟨(), rfl, trivial⟩, trivial⟩) rfl hst
              refine A_all [9] (by kernel_rfl) ⟨⟨_, rfl, rfl, ?_⟩, trivial⟩
              obtain ⟨y8, hy8, hr⟩ := bnd hr
              refine O_call (vs := #[pt p7 0, .slice (some ⟨p9, 0, none⟩) ([x1.Cmd]).length 1]) Tryz.call43 (by kernel_rfl) ?_
              refine (wire_Enc_S_ok k (T_wire_Enc.mk y7) ([x1.Cmd]) p7 a5 c5 (some ⟨p9, 0, none⟩) 1 y8 ((hst.pull 1).pull 2) hy8 fun a6 c6 w hst => ?_)
              refine CK_ret rfl ?_
              refine wpG_done (by kernel_rfl) ?_ _
              refine C_keepQ [(3, pt p7 0)] rfl fun b => ?_
              refine th_n ?_
              obtain rfl := Option.some.inj hr
              have hst := ((((hst.pull 4).pull 2).pull 2).cut 3 2)
              exact ⟨a6, c6, (kpX [(3, pt p7 0)] rfl hst)⟩
            · refine O_bs (T := 9) [S x1.Cmd] #[(0, S x1.Cmd)] hst (by kernel_rfl) (by kernel_rfl) rfl fun p9 w hst => ?_
              have hst := osl_of_blk0 (ecs := [[S x1.Cmd]]) rS [x1.Cmd] rfl (fun m => ⟨⟨(), rfl, trivial⟩, trivial⟩) rfl hst
              refine A_all [5] (by kernel_rfl) ⟨⟨_, rfl, rfl, ?_⟩, trivial⟩
              obtain ⟨y7, hy7, hr⟩ := bnd hr
              have hst := osl_nil (rI .u8) 5 hst
              refine O_call (vs := #[pt p7 0, .slice (some ⟨p8, 0, none⟩) ([x1.Index, x1.Term]).length 2]) Tryz.call41 (by kernel_rfl) ?_
              refine (wire_Enc_I_ok k (T_wire_Enc.mk ([])) ([x1.Index, x1.Term]) p7 none 0 (some ⟨p8, 0, none⟩) 2 y7 (((hst.pull 2).pull 1).pull 3) hy7 fun a5 c5 w hst => ?_)
              refine CK_ret rfl ?_
              refine A_all [9] (by kernel_rfl) ⟨⟨_, rfl, rfl, ?_⟩, trivial⟩
              obtain ⟨y8, hy8, hr⟩ := bnd hr
              refine O_call (vs := #[pt p7 0, .slice (some ⟨p9, 0, none⟩) ([x1.Cmd]).length 1]) Tryz.call43 (by kernel_rfl) ?_
              refine (wire_Enc_S_ok k (T_wire_Enc.mk y7) ([x1.Cmd]) p7 a5 c5 (some ⟨p9, 0, none⟩) 1 y8 (((hst.pull 3).pull 1).pull 2) hy8 fun a6 c6 w hst => ?_)
              refine CK_ret rfl ?_
              refine wpG_done (by kernel_rfl) ?_ _
              refine C_keepQ [(3, pt p7 0)] rfl fun b => ?_
              refine th_n ?_
              obtain rfl := Option.some.inj hr
              have hst := ((((hst.pull 4).pull 2).pull 2).cut 3 2)
              exact ⟨a6, c6, (kpX [(3, pt p7 0)] rfl hst)⟩
          · refine O_bs (T := 9) [S x1.Cmd] #[(0, S x1.Cmd)] hst (by kernel_rfl) (by kernel_rfl) rfl fun p8 w hst => ?_
            have hst := osl_of_blk0 (ecs := [[S x1.Cmd]]) rS [x1.Cmd] rfl (fun m => ⟨⟨(), rfl, trivial⟩, trivial⟩) rfl hst
            refine A_all [4] (by kernel_rfl) ⟨⟨_, rfl, rfl, ?_⟩, trivial⟩
            refine O_bs (T := 3) [I x1.Index, I x1.Term] #[(0, I x1.Index), (1, I x1.Term)] hst (by kernel_rfl) (by kernel_rfl) rfl fun p9 w hst => ?_
            have hst := osl_of_blk0 (ecs := [[I x1.Index], [I x1.Term]]) (rI .i64) [x1.Index, x1.Term] rfl (fun m => ⟨⟨(), rfl, trivial⟩, ⟨(), rfl, trivial⟩, trivial⟩) rfl hst
            refine A_all [5] (by kernel_rfl) ⟨⟨_, rfl, rfl, ?_⟩, trivial⟩
            obtain ⟨y7, hy7, hr⟩ := bnd hr
            have hst := osl_nil (rI .u8) 5 hst
            refine O_call (vs := #[pt p7 0, .slice (some ⟨p9, 0, none⟩) ([x1.Index, x1.Term]).length 2]) Tryz.call41 (by kernel_rfl) ?_
            refine (wire_Enc_I_ok k (T_wire_Enc.mk ([])) ([x1.Index, x1.Term]) p7 none 0 (some ⟨p9, 0, none⟩) 2 y7 (((hst.pull 1).pull 1).pull 3) hy7 fun a5 c5 w hst => ?_)
            refine CK_ret rfl ?_
            refine A_all [9] (by kernel_rfl) ⟨⟨_, rfl, rfl, ?_⟩, trivial⟩
            obtain ⟨y8, hy8, hr⟩ := bnd hr
            refine O_call (vs := #[pt p7 0, .slice (some ⟨p8, 0, none⟩) ([x1.Cmd]).length 1]) Tryz.call43 (by kernel_rfl) ?_
            refine (wire_Enc_S_ok k (T_wire_Enc.mk y7) ([x1.Cmd]) p7 a5 c5 (some ⟨p8, 0, none⟩) 1 y8 (((hst.pull 3).pull 1).pull 2) hy8 fun a6 c6 w hst => ?_)
            refine CK_ret rfl ?_
            refine wpG_done (by kernel_rfl) ?_ _
            refine C_keepQ [(3, pt p7 0)] rfl fun b => ?_
            refine th_n ?_
            obtain rfl := Option.some.inj hr
            have hst := ((((hst.pull 4).pull 2).pull 2).cut 3 2)
            exact ⟨a6, c6, (kpX [(3, pt p7 0)] rfl hst)⟩
        · refine O_bs (T := 9) [S x1.Cmd] #[(0, S x1.Cmd)] hst (by kernel_rfl) (by kernel_rfl) rfl fun p8 w hst => ?_
          have hst := osl_of_blk0 (ecs := [[S x1.Cmd]]) rS [x1.Cmd] rfl (fun m => ⟨⟨(), rfl, trivial⟩, trivial⟩) rfl hst
          refine A_all [3] (by kernel_rfl) ⟨⟨_, rfl, rfl, ?_⟩, trivial⟩
          refine O_run (v := I x1.Term) (w' := w) (R_load (hst.pull 2) rfl rfl) rfl rfl ?_
          refine A_all [4] (by kernel_rfl) ⟨⟨_, rfl, rfl, ?_⟩, trivial⟩
          refine O_bs (T := 3) [I x1.Index, I x1.Term] #[(0, I x1.Index), (1, I x1.Term)] hst (by kernel_rfl) (by kernel_rfl) rfl fun p9 w hst => ?_
          have hst := osl_of_blk0 (ecs := [[I x1.Index], [I x1.Term]]) (rI .i64) [x1.Index, x1.Term] rfl (fun m => ⟨⟨(), rfl, trivial⟩, ⟨(), rfl, trivial⟩, trivial⟩) rfl hst
          refine A_all [5] (by kernel_rfl) ⟨⟨_, rfl, rfl, ?_⟩, trivial⟩
          obtain ⟨y7, hy7, hr⟩ := bnd hr
          have hst := osl_nil (rI .u8) 5 hst
          refine O_call (vs := #[pt p7 0, .slice (some ⟨p9, 0, none⟩) ([x1.Index, x1.Term]).length 2]) Tryz.call41 (by kernel_rfl) ?_
          refine (wire_Enc_I_ok k (T_wire_Enc.mk ([])) ([x1.Index, x1.Term]) p7 none 0 (some ⟨p9, 0, none⟩) 2 y7 (((hst.pull 1).pull 1).pull 3) hy7 fun a5 c5 w hst => ?_)
          refine CK_ret rfl ?_
          refine A_all [9] (by kernel_rfl) ⟨⟨_, rfl, rfl, ?_⟩, trivial⟩
          obtain ⟨y8, hy8, hr⟩ := bnd hr
          refine O_call (vs := #[pt p7 0, .slice (some ⟨p8, 0, none⟩) ([x1.Cmd]).length 1]) Tryz.call43 (by kernel_rfl) ?_
          refine (wire_Enc_S_ok k (T_wire_Enc.mk y7) ([x1.Cmd]) p7 a5 c5 (some ⟨p8, 0, none⟩) 1 y8 (((hst.pull 3).pull 1).pull 2) hy8 fun a6 c6 w hst => ?_)
          refine CK_ret rfl ?_
          refine wpG_done (by kernel_rfl) ?_ _
          refine C_keepQ [(3, pt p7 0)] rfl fun b => ?_
          refine th_n ?_
          obtain rfl := Option.some.inj hr
          have hst := ((((hst.pull 4).pull 2).pull 2).cut 3 2)
          exact ⟨a6, c6, (kpX [(3, pt p7 0)] rfl hst)⟩
      · refine O_run (v := I x1.Term) (w' := w) (R_load (hst.pull 1) rfl rfl) rfl rfl ?_
        refine A_all [1, 8] (by kernel_rfl) ⟨⟨_, rfl, rfl, ?_⟩, ⟨_, rfl, rfl, ?_⟩, trivial⟩
        · refine O_run (v := I x1.Index) (w' := w) (R_load (hst.pull 1) rfl rfl) rfl rfl ?_
          refine A_all [4, 8] (by kernel_rfl) ⟨⟨_, rfl, rfl, ?_⟩, ⟨_, rfl, rfl, ?_⟩, trivial⟩
          · refine O_bs (T := 3) [I x1.Index, I x1.Term] #[(0, I x1.Index), (1, I x1.Term)] hst (by kernel_rfl) (by kernel_rfl) rfl fun p8 w hst => ?_
            have hst := osl_of_blk0 (ecs := [[I x1.Index], [I x1.Term]]) (rI .i64) [x1.Index, x1.Term] rfl (fun m => ⟨⟨(), rfl, trivial⟩, ⟨(), rfl, trivial⟩, trivial⟩) rfl hst
            refine A_all [5, 8] (by kernel_rfl) ⟨⟨_, rfl, rfl, ?_⟩, ⟨_, rfl, rfl, ?_⟩, trivial⟩
            · obtain ⟨y7, hy7, hr⟩ := bnd hr
              have hst := osl_nil (rI .u8) 5 hst
              refine O_call (vs := #[pt p7 0, .slice (some ⟨p8, 0, none⟩) ([x1.Index, x1.Term]).length 2]) Tryz.call41 (by kernel_rfl) ?_
              refine (wire_Enc_I_ok k (T_wire_Enc.mk ([])) ([x1.Index, x1.Term]) p7 none 0 (some ⟨p8, 0, none⟩) 2 y7 (((hst.pull 1).pull 1).pull 2) hy7 fun a5 c5 w hst => ?_)
              refine CK_ret rfl ?_
              refine A_all [8] (by kernel_rfl) ⟨⟨_, rfl, rfl, ?_⟩, trivial⟩
              refine O_bs (T := 9) [S x1.Cmd] #[(0, S x1.Cmd)] hst (by kernel_rfl) (by kernel_rfl) rfl fun p9 w hst => ?_
              have hst := osl_of_blk0 (ecs := [[S x1.Cmd]]) rS [x1.Cmd] rfl (fun m => ⟨⟨(), rfl, trivial⟩, trivial⟩) rfl hst
              refine A_all [9] (by kernel_rfl) ⟨⟨_, rfl, rfl, ?_⟩, trivial⟩
              obtain ⟨y8, hy8, hr⟩ := bnd hr
              refine O_call (vs := #[pt p7 0, .slice (some ⟨p9, 0, none⟩) ([x1.Cmd]).length 1]) Tryz.call43 (by kernel_rfl) ?_
              refine (wire_Enc_S_ok k (T_wire_Enc.mk y7) ([x1.Cmd]) p7 a5 c5 (some ⟨p9, 0, none⟩) 1 y8 ((hst.pull 1).pull 2) hy8 fun a6 c6 w hst => ?_)
              refine CK_ret rfl ?_
              refine wpG_done (by kernel_rfl) ?_ _
              refine C_keepQ [(3, pt p7 0)] rfl fun b => ?_
              refine th_n ?_
              obtain rfl := Option.some.inj hr
              have hst := ((((hst.pull 4).pull 2).pull 2).cut 3 2)
              exact ⟨a6, c6, (kpX [(3, pt p7 0)] rfl hst)⟩
            · refine O_bs (T := 9) [S x1.Cmd] #[(0, S x1.Cmd)] hst (by kernel_rfl) (by kernel_rfl) rfl fun p9 w hst => ?_
              have hst := osl_of_blk0 (ecs := [[S x1.Cmd]]) rS [x1.Cmd] rfl (fun m => ⟨⟨(), rfl, trivial⟩, trivial⟩) rfl hst
              refine A_all [5] (by kernel_rfl) ⟨⟨_, rfl, rfl, ?_⟩, trivial⟩
              obtain ⟨y7, hy7, hr⟩ := bnd hr
              have hst := osl_nil (rI .u8) 5 hst
              refine O_call (vs := #[pt p7 0, .slice (some ⟨p8, 0, none⟩) ([x1.Index, x1.Term]).length 2]) Tryz.call41 (by kernel_rfl) ?_
              refine (wire_Enc_I_ok k (T_wire_Enc.mk ([])) ([x1.Index, x1.Term]) p7 none 0 (some ⟨p8, 0, none⟩) 2 y7 (((hst.pull 2).pull 1).pull 3) hy7 fun a5 c5 w hst => ?_)
              refine CK_ret rfl ?_
              refine A_all [9] (by kernel_rfl) ⟨⟨_, rfl, rfl, ?_⟩, trivial⟩
              obtain ⟨y8, hy8, hr⟩ := bnd hr
              refine O_call (vs := #[pt p7 0, .slice (some ⟨p9, 0, none⟩) ([x1.Cmd]).length 1]) Tryz.call43 (by kernel_rfl) ?_
              refine (wire_Enc_S_ok k (T_wire_Enc.mk y7) ([x1.Cmd]) p7 a5 c5 (some ⟨p9, 0, none⟩) 1 y8 (((hst.pull 3).pull 1).pull 2) hy8 fun a6 c6 w hst => ?_)
              refine CK_ret rfl ?_
              refine wpG_done (by kernel_rfl) ?_ _
              refine C_keepQ [(3, pt p7 0)] rfl fun b => ?_
              refine th_n ?_
              obtain rfl := Option.some.inj hr
              have hst := ((((hst.pull 4).pull 2).pull 2).cut 3 2)
              exact ⟨a6, c6, (kpX [(3, pt p7 0)] rfl hst)⟩
          · refine O_bs (T := 9) [S x1.Cmd] #[(0, S x1.Cmd)] hst (by kernel_rfl) (by kernel_rfl) rfl fun p8 w hst => ?_
            have hst := osl_of_blk0 (ecs := [[S x1.Cmd]]) rS [x1.Cmd] rfl (fun m => ⟨⟨(), rfl, trivial⟩, trivial⟩) rfl hst
            refine A_all [4] (by kernel_rfl) ⟨⟨_, rfl, rfl, ?_⟩, trivial⟩
            refine O_bs (T := 3) [I x1.Index, I x1.Term] #[(0, I x1.Index), (1, I x1.Term)] hst (by kernel_rfl) (by kernel_rfl) rfl fun p9 w hst => ?_
            have hst := osl_of_blk0 (ecs := [[I x1.Index], [I x1.Term]]) (rI .i64) [x1.Index, x1.Term] rfl (fun m => ⟨⟨(), rfl, trivial⟩, ⟨(), rfl, trivial⟩, trivial⟩) rfl hst
            refine A_all [5] (by kernel_rfl) ⟨⟨_, rfl, rfl, ?_⟩, trivial⟩
            obtain ⟨y7, hy7, hr⟩ := bnd hr
            have hst := osl_nil (rI .u8) 5 hst
            refine O_call (vs := #[pt p7 0, .slice (some ⟨p9, 0, none⟩) ([x1.Index, x1.Term]).length 2]) Tryz.call41 (by kernel_rfl) ?_
            refine (wire_Enc_I_ok k (T_wire_Enc.mk ([])) ([x1.Index, x1.Term]) p7 none 0 (some ⟨p9, 0, none⟩) 2 y7 (((hst.pull 1).pull 1).pull 3) hy7 fun a5 c5 w hst => ?_)
            refine CK_ret rfl ?_
            refine A_all [9] (by kernel_rfl) ⟨⟨_, rfl, rfl, ?_⟩, trivial⟩
            obtain ⟨y8, hy8, hr⟩ := bnd hr
            refine O_call (vs := #[pt p7 0, .slice (some ⟨p8, 0, none⟩) ([x1.Cmd]).length 1]) Tryz.call43 (by kernel_rfl) ?_
            refine (wire_Enc_S_ok k (T_wire_Enc.mk y7) ([x1.Cmd]) p7 a5 c5 (some ⟨p8, 0, none⟩) 1 y8 (((hst.pull 3).pull 1).pull 2) hy8 fun a6 c6 w hst => ?_)
            refine CK_ret rfl ?_
            refine wpG_done (by kernel_rfl) ?_ _
            refine C_keepQ [(3, pt p7 0)] rfl fun b => ?_
            refine th_n ?_
            obtain rfl := Option.some.inj hr
            have hst := ((((hst.pull 4).pull 2).pull 2).cut 3 2)
            exact ⟨a6, c6, (kpX [(3, pt p7 0)] rfl hst)⟩
        · refine O_bs (T := 9) [S x1.Cmd] #[(0, S x1.Cmd)] hst (by kernel_rfl) (by kernel_rfl) rfl fun p8 w hst => ?_
          have hst := osl_of_blk0 (ecs := [[S x1.Cmd]]) rS [x1.Cmd] rfl (fun m => ⟨⟨(), rfl, trivial⟩, trivial⟩) rfl hst
          refine A_all [1] (by kernel_rfl) ⟨⟨_, rfl, rfl, ?_⟩, trivial⟩
          refine O_run (v := I x1.Index) (w' := w) (R_load (hst.pull 2) rfl rfl) rfl rfl ?_
          refine A_all [4] (by kernel_rfl) ⟨⟨_, rfl, rfl, ?_⟩, trivial⟩
          refine O_bs (T := 3) [I x1.Index, I x1.Term] #[(0, I x1.Index), (1, I x1.Term)] hst (by kernel_rfl) (by kernel_rfl) rfl fun p9 w hst => ?_
          have hst := osl_of_blk0 (ecs := [[I x1.Index], [I x1.Term]]) (rI .i64) [x1.Index, x1.Term] rfl (fun m => ⟨⟨(), rfl, trivial⟩, ⟨(), rfl, trivial⟩, trivial⟩) rfl hst
          refine A_all [5] (by kernel_rfl) ⟨⟨_, rfl, rfl, ?_⟩, trivial⟩
          obtain ⟨y7, hy7, hr⟩ := bnd hr
          have hst := osl_nil (rI .u8) 5 hst
          refine O_call (vs := #[pt p7 0, .slice (some ⟨p9, 0, none⟩) ([x1.Index, x1.Term]).length 2]) Tryz.call41 (by kernel_rfl) ?_
          refine (wire_Enc_I_ok k (T_wire_Enc.mk ([])) ([x1.Index, x1.Term]) p7 none 0 (some ⟨p9, 0, none⟩) 2 y7 (((hst.pull 1).pull 1).pull 3) hy7 fun a5 c5 w hst => ?_)
          refine CK_ret rfl ?_
          refine A_all [9] (by kernel_rfl) ⟨⟨_, rfl, rfl, ?_⟩, trivial⟩
          obtain ⟨y8, hy8, hr⟩ := bnd hr
          refine O_call (vs := #[pt p7 0, .slice (some ⟨p8, 0, none⟩) ([x1.Cmd]).length 1]) Tryz.call43 (by kernel_rfl) ?_
          refine (wire_Enc_S_ok k (T_wire_Enc.mk y7) ([x1.Cmd]) p7 a5 c5 (some ⟨p8, 0, none⟩) 1 y8 (((hst.pull 3).pull 1).pull 2) hy8 fun a6 c6 w hst => ?_)
          refine CK_ret rfl ?_
          refine wpG_done (by kernel_rfl) ?_ _
          refine C_keepQ [(3, pt p7 0)] rfl fun b => ?_
          refine th_n ?_
          obtain rfl := Option.some.inj hr
          have hst := ((((hst.pull 4).pull 2).pull 2).cut 3 2)
          exact ⟨a6, c6, (kpX [(3, pt p7 0)] rfl hst)⟩
      · refine O_bs (T := 9) [S x1.Cmd] #[(0, S x1.Cmd)] hst (by kernel_rfl) (by kernel_rfl) rfl fun p8 w hst => ?_
        have hst := osl_of_blk0 (ecs := [[S x1.Cmd]]) rS [x1.Cmd] rfl (fun m => ⟨⟨(), rfl, trivial⟩, trivial⟩) rfl hst
        refine A_all [1, 3] (by kernel_rfl) ⟨⟨_, rfl, rfl, ?_⟩, ⟨_, rfl, rfl, ?_⟩, trivial⟩
        · refine O_run (v := I x1.Index) (w' := w) (R_load (hst.pull 2) rfl rfl) rfl rfl ?_
          refine A_all [3] (by kernel_rfl) ⟨⟨_, rfl, rfl, ?_⟩, trivial⟩
          refine O_run (v := I x1.Term) (w' := w) (R_load (hst.pull 2) rfl rfl) rfl rfl ?_
          refine A_all [4] (by kernel_rfl) ⟨⟨_, rfl, rfl, ?_⟩, trivial⟩
          refine O_bs (T := 3) [I x1.Index, I x1.Term] #[(0, I x1.Index), (1, I x1.Term)] hst (by kernel_rfl) (by kernel_rfl) rfl fun p9 w hst => ?_
          have hst := osl_of_blk0 (ecs := [[I x1.Index], [I x1.Term]]) (rI .i64) [x1.Index, x1.Term] rfl (fun m => ⟨⟨(), rfl, trivial⟩, ⟨(), rfl, trivial⟩, trivial⟩) rfl hst
          refine A_all [5] (by kernel_rfl) ⟨⟨_, rfl, rfl, ?_⟩, trivial⟩
          obtain ⟨y7, hy7, hr⟩ := bnd hr
          have hst := osl_nil (rI .u8) 5 hst
          refine O_call (vs := #[pt p7 0, .slice (some ⟨p9, 0, none⟩) ([x1.Index, x1.Term]).length 2]) Tryz.call41 (by kernel_rfl) ?_
          refine (wire_Enc_I_ok k (T_wire_Enc.mk ([])) ([x1.Index, x1.Term]) p7 none 0 (some ⟨p9, 0, none⟩) 2 y7 (((hst.pull 1).pull 1).pull 3) hy7 fun a5 c5 w hst => ?_)
          refine CK_ret rfl ?_
          refine A_all [9] (by kernel_rfl) ⟨⟨_, rfl, rfl, ?_⟩, trivial⟩
          obtain ⟨y8, hy8, hr⟩ := bnd hr
          refine O_call (vs := #[pt p7 0, .slice (some ⟨p8, 0, none⟩) ([x1.Cmd]).length 1]) Tryz.call43 (by kernel_rfl) ?_
          refine (wire_Enc_S_ok k (T_wire_Enc.mk y7) ([x1.Cmd]) p7 a5 c5 (some ⟨p8, 0, none⟩) 1 y8 (((hst.pull 3).pull 1).pull 2) hy8 fun a6 c6 w hst => ?_)
          refine CK_ret rfl ?_
          refine wpG_done (by kernel_rfl) ?_ _
          refine C_keepQ [(3, pt p7 0)] rfl fun b => ?_
          refine th_n ?_
          obtain rfl := Option.some.inj hr
          have hst := ((((hst.pull 4).pull 2).pull 2).cut 3 2)
          exact ⟨a6, c6, (kpX [(3, pt p7 0)] rfl hst)⟩
        · refine O_run (v := I x1.Term) (w' := w) (R_load (hst.pull 2) rfl rfl) rfl rfl ?_
          refine A_all [1] (by kernel_rfl) ⟨⟨_, rfl, rfl, ?_⟩, trivial⟩
          refine O_run (v := I x1.Index) (w' := w) (R_load (hst.pull 2) rfl rfl) rfl rfl ?_
          refine A_all [4] (by kernel_rfl) ⟨⟨_, rfl, rfl, ?_⟩, trivial⟩
          refine O_bs (T := 3) [I x1.Index, I x1.Term] #[(0, I x1.Index), (1, I x1.Term)] hst (by kernel_rfl) (by kernel_rfl) rfl fun p9 w hst => ?_
          have hst := osl_of_blk0 (ecs := [[I x1.Index], [I x1.Term]]) (rI .i64) [x1.Index, x1.Term] rfl (fun m => ⟨⟨(), rfl, trivial⟩, ⟨(), rfl, trivial⟩, trivial⟩) rfl hst
          refine A_all [5] (by kernel_rfl) ⟨⟨_, rfl, rfl, ?_⟩, trivial⟩
          obtain ⟨y7, hy7, hr⟩ := bnd hr
          have hst := osl_nil (rI .u8) 5 hst
          refine O_call (vs := #[pt p7 0, .slice (some ⟨p9, 0, none⟩) ([x1.Index, x1.Term]).length 2]) Tryz.call41 (by kernel_rfl) ?_
          refine (wire_Enc_I_ok k (T_wire_Enc.mk ([])) ([x1.Index, x1.Term]) p7 none 0 (some ⟨p9, 0, none⟩) 2 y7 (((hst.pull 1).pull 1).pull 3) hy7 fun a5 c5 w hst => ?_)
          refine CK_ret rfl ?_
          refine A_all [9] (by kernel_rfl) ⟨⟨_, rfl, rfl, ?_⟩, trivial⟩
          obtain ⟨y8, hy8, hr⟩ := bnd hr
          refine O_call (vs := #[pt p7 0, .slice (some ⟨p8, 0, none⟩) ([x1.Cmd]).length 1]) Tryz.call43 (by kernel_rfl) ?_
          refine (wire_Enc_S_ok k (T_wire_Enc.mk y7) ([x1.Cmd]) p7 a5 c5 (some ⟨p8, 0, none⟩) 1 y8 (((hst.pull 3).pull 1).pull 2) hy8 fun a6 c6 w hst => ?_)
          refine CK_ret rfl ?_
          refine wpG_done (by kernel_rfl) ?_ _
          refine C_keepQ [(3, pt p7 0)] rfl fun b => ?_
          refine th_n ?_
          obtain rfl := Option.some.inj hr
          have hst := ((((hst.pull 4).pull 2).pull 2).cut 3 2)
          exact ⟨a6, c6, (kpX [(3, pt p7 0)] rfl hst)⟩
end Go.Proofs.YtpldjopnhhbjpaaGreat
