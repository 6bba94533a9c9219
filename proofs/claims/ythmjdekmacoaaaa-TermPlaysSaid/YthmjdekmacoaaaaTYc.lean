/- TY, one part more. -/
import Derived.Test.YthmjdekmacoaaaaTYb
namespace Go.Proofs.Ythmjdekmacoaaaa
open Go.Hx Go.RowKit
def glacierlaw09_may_l1 (k : Nat) (x1 : T_glacierref09_State) (x2 : T_glacierlaw09_Act) : Nat → (List T_glacierref09_State) → Int → (List T_glacierref09_Entry) → Option ((List T_glacierref09_State) × (List T_glacierref09_Entry))
  | 0, _, _, _ => none
  | j + 1, v14, v15, v16 => (Option.bind (if decide (v15 < (x2.Texts.length : Int)) = true then some (decide (v15 < 4)) else some (false)) fun y12 => (if y12 = true then (Option.bind (Option.bind (gt x2.Texts v15) fun x14 => (if room (([] : List T_glacierref09_Entry).length + v16.length) 32 = true then (Option.bind (glacierlaw01_Cut k x14 20) fun y17 => (if room (([] ++ v16).length + ([(T_glacierref09_Entry.mk (IntKind.i64.wrap ((IntKind.i64.wrap ((IntKind.i64.wrap (x1.Base + (x1.Log.length : Int))) + 1)) + v15)) x2.M y17)]).length) 32 = true then some ((([] ++ v16) ++ ([(T_glacierref09_Entry.mk (IntKind.i64.wrap ((IntKind.i64.wrap ((IntKind.i64.wrap (x1.Base + (x1.Log.length : Int))) + 1)) + v15)) x2.M y17)]))) else none)) else none)) fun y13 => (if room (v14.length + ([(T_glacierref09_State.mk x1.Term x1.Vote x1.Base x1.BaseTerm x1.Snap y13)]).length) 72 = true then (glacierlaw09_may_l1 k x1 x2 j (v14 ++ ([(T_glacierref09_State.mk x1.Term x1.Vote x1.Base x1.BaseTerm x1.Snap y13)])) (IntKind.i64.wrap (v15 + 1)) y13) else none)) else some (v14, v16)))
def glacierlaw09_may_l2 (k : Nat) (x1 : T_glacierref09_State) : Nat → (List T_glacierref09_State) → Int → Option ((List T_glacierref09_State))
  | 0, _, _ => none
  | j + 1, v19, v20 => (if decide (v20 < (x1.Log.length : Int)) = true then (Option.bind (sl x1.Log 0 v20) fun x16 => (if room (v19.length + ([(T_glacierref09_State.mk x1.Term x1.Vote x1.Base x1.BaseTerm x1.Snap x16)]).length) 72 = true then (glacierlaw09_may_l2 k x1 j (v19 ++ ([(T_glacierref09_State.mk x1.Term x1.Vote x1.Base x1.BaseTerm x1.Snap x16)])) (IntKind.i64.wrap (v20 + 1))) else none)) else some (v19))
def glacierlaw09_may (k : Nat) (x1 : T_glacierref09_State) (x2 : T_glacierlaw09_Act) : Option ((List T_glacierref09_Entry) × T_glacierref09_State × (List T_glacierref09_State)) := (if (x2.Kind == 1) = true then some (x1.Log, (T_glacierref09_State.mk x2.N x2.M x1.Base x1.BaseTerm x1.Snap x1.Log), []) else (if (x2.Kind == 2) = true then (Option.bind (glacierlaw09_may_l1 k x1 x2 k ([]) (0 : Int) x1.Log) fun y11 => some (y11.2, (T_glacierref09_State.mk x1.Term x1.Vote x1.Base x1.BaseTerm x1.Snap y11.2), y11.1)) else (if (x2.Kind == 3) = true then (Option.bind (sl x1.Log 0 (mn2 x2.N (x1.Log.length : Int))) fun x15 => (Option.bind (glacierlaw09_may_l2 k x1 k ([]) (0 : Int)) fun y18 => some (x15, (T_glacierref09_State.mk x1.Term x1.Vote x1.Base x1.BaseTerm x1.Snap x15), y18))) else (Option.bind (if decide ((mn2 x2.N (x1.Log.length : Int)) > 0) = true then (Option.bind (gt x1.Log (IntKind.i64.wrap ((mn2 x2.N (x1.Log.length : Int)) - 1))) fun x17 => some (x17.Term)) else some (x1.BaseTerm)) fun y19 => (Option.bind (glacierlaw01_Cut k x2.S 30) fun y20 => (Option.bind (sl x1.Log (mn2 x2.N (x1.Log.length : Int)) (x1.Log.length : Int)) fun x18 => some (x18, (T_glacierref09_State.mk x1.Term x1.Vote (IntKind.i64.wrap (x1.Base + (mn2 x2.N (x1.Log.length : Int)))) y19 y20 x18), [])))))))
set_option maxRecDepth 100000 in
set_option maxHeartbeats 4000000 in
theorem glacierlaw09_may_ok {G w : World} {F : List HP} {R : Ending → World → Prop} (k : Nat) (x1 : T_glacierref09_State) (x2 : T_glacierlaw09_Act) (a1 : Option Addr) (c1 : Nat) (a2 : Option Addr) (c2 : Nat) (a3 : Option Addr) (c3 : Nat) (r : ((List T_glacierref09_Entry) × T_glacierref09_State × (List T_glacierref09_State))) (hst : St G w (dsl r_T_glacierref09_Entry a1 c1 x1.Log :: dsl rS a2 c2 x2.Texts :: dsl (rI .i64) a3 c3 x2.Choice :: F)) (hr : glacierlaw09_may k x1 x2 = some r)
    (hR : ∀ (a27 : Option Addr) (c27 : Nat) (a28 : Option Addr) (c28 : Nat) w', St G w' (dsl r_T_glacierref09_Entry a27 c27 r.1 :: osl r_T_glacierref09_State 71 a28 c28 r.2.2 :: dsl r_T_glacierref09_Entry a1 c1 x1.Log :: dsl rS a2 c2 x2.Texts :: dsl (rI .i64) a3 c3 x2.Choice :: F) → R (.returned (.tuple #[.agg #[I r.2.1.Term, I r.2.1.Vote, I r.2.1.Base, I r.2.1.BaseTerm, S r.2.1.Snap, .slice a27 r.1.length c27], .slice a28 r.2.2.length c28])) w') :
    Calls Try.prog 35 #[.agg #[I x1.Term, I x1.Vote, I x1.Base, I x1.BaseTerm, S x1.Snap, .slice a1 x1.Log.length c1], .agg #[I x2.Kind, I x2.N, I x2.M, S x2.S, .slice a2 x2.Texts.length c2, .slice a3 x2.Choice.length c3]] w R := by
  unfold glacierlaw09_may at hr
  refine enter Try.func35 rfl [(0, .agg #[I x1.Term, I x1.Vote, I x1.Base, I x1.BaseTerm, S x1.Snap, .slice a1 x1.Log.length c1]), (1, .agg #[I x2.Kind, I x2.N, I x2.M, S x2.S, .slice a2 x2.Texts.length c2, .slice a3 x2.Choice.length c3])] rfl rfl fun b => ?_
  refine wp_seq ?_
  refine wp_reg ?_
  refine L_op rfl (O_box [I x1.Term, I x1.Vote, I x1.Base, I x1.BaseTerm, S x1.Snap, .slice a1 x1.Log.length c1] hst rfl rfl fun p21 w hst => ?_)
  refine L_op rfl (O_box [I x2.Kind, I x2.N, I x2.M, S x2.S, .slice a2 x2.Texts.length c2, .slice a3 x2.Choice.length c3] hst rfl rfl fun p22 w hst => ?_)
  refine L_op rfl (O_alloc (i := Try.t71) (z := .agg #[I 0, I 0, I 0, I 0, S ([]), .slice none 0 0]) [I 0, I 0, I 0, I 0, S ([]), .slice none 0 0] hst rfl rfl rfl rfl fun p23 w hst => ?_)
  refine L_pure 1 [(2, pt p21 0), (3, pt p22 0), (4, pt p23 0)] (by kernel_rfl) fun b => ?_
  refine wpL_nil ?_
  refine th_n ?_
  refine wp_seq ?_
  refine wp_seq ?_
  refine wp_reg ?_
  refine L_pure 1 [(2, pt p21 0), (3, pt p22 0), (4, pt p23 0), (17, pt p22 0)] (by kernel_rfl) fun b => ?_
  refine L_op rfl (O_run (v := I x2.Kind) (w' := w) (R_load (hst.pull 1) rfl rfl) rfl rfl ?_)
  refine wpL_nil ?_
  refine th_n ?_
  refine wp_block ?_
  refine wp_seq ?_
  refine wp_reg ?_
  refine L_pure 2 [(2, pt p21 0), (3, pt p22 0), (4, pt p23 0), (18, I x2.Kind), (19, .bool (x2.Kind == 1))] (by kernel_rfl) fun b => ?_
  refine wpL_nil ?_
  refine th_n ?_
  refine wp_cond_mkF (t := (x2.Kind == 1)) rfl (fun h => ?_) (fun h => ?_)
  · have hr := (if_pos h).symm.trans hr
    refine wp_seq ?_
    refine wp_reg ?_
    refine L_op rfl (O_run (v := .agg #[I x1.Term, I x1.Vote, I x1.Base, I x1.BaseTerm, S x1.Snap, .slice a1 x1.Log.length c1]) (w' := w) (R_load (hst.pull 2) rfl rfl) rfl rfl ?_)
    refine L_op rfl (O_alloc (i := Try.t71) (z := .agg #[I 0, I 0, I 0, I 0, S ([]), .slice none 0 0]) [I 0, I 0, I 0, I 0, S ([]), .slice none 0 0] hst rfl rfl rfl rfl fun p24 w hst => ?_)
    refine L_op rfl (O_store [I x1.Term, I x1.Vote, I x1.Base, I x1.BaseTerm, S x1.Snap, .slice a1 x1.Log.length c1] hst rfl rfl (by kernel_rfl) fun w hst => ?_)
    refine wpL_nil ?_
    refine th_n ?_
    refine wp_seq ?_
    refine wp_reg ?_
    refine L_pure 1 [(3, pt p22 0), (4, pt p23 0), (6, pt p24 0), (22, pt p22 1)] (by kernel_rfl) fun b => ?_
    refine L_op rfl (O_run (v := I x2.N) (w' := w) (R_load (hst.pull 2) rfl rfl) rfl rfl ?_)
    refine L_pure 1 [(3, pt p22 0), (4, pt p23 0), (6, pt p24 0), (23, I x2.N), (24, pt p24 0)] (by kernel_rfl) fun b => ?_
    refine L_op rfl (O_store [I x2.N, I x1.Vote, I x1.Base, I x1.BaseTerm, S x1.Snap, .slice a1 x1.Log.length c1] hst rfl rfl (by kernel_rfl) fun w hst => ?_)
    refine wpL_nil ?_
    refine th_n ?_
    refine wp_seq ?_
    refine wp_reg ?_
    refine L_pure 1 [(4, pt p23 0), (6, pt p24 0), (25, pt p22 2)] (by kernel_rfl) fun b => ?_
    refine L_op rfl (O_run (v := I x2.M) (w' := w) (R_load (hst.pull 2) rfl rfl) rfl rfl ?_)
    refine L_pure 1 [(4, pt p23 0), (6, pt p24 0), (26, I x2.M), (27, pt p24 1)] (by kernel_rfl) fun b => ?_
    refine L_op rfl (O_store [I x2.N, I x2.M, I x1.Base, I x1.BaseTerm, S x1.Snap, .slice a1 x1.Log.length c1] hst rfl rfl (by kernel_rfl) fun w hst => ?_)
    refine wpL_nil ?_
    refine th_n ?_
    refine wp_seq ?_
    refine wp_reg ?_
    refine L_op rfl (O_run (v := .agg #[I x2.N, I x2.M, I x1.Base, I x1.BaseTerm, S x1.Snap, .slice a1 x1.Log.length c1]) (w' := w) (R_load hst rfl rfl) rfl rfl ?_)
    refine L_op rfl (O_store [I x2.N, I x2.M, I x1.Base, I x1.BaseTerm, S x1.Snap, .slice a1 x1.Log.length c1] (hst.pull 1) rfl rfl (by kernel_rfl) fun w hst => ?_)
    refine L_pure 1 [(4, pt p23 0), (5, .slice none 0 0)] (by kernel_rfl) fun b => ?_
    refine wpL_nil ?_
    refine th_n ?_
    refine wp_ret ?_
    refine ib_r (th_r ?_)
    refine retCT (v := .agg #[I x2.N, I x2.M, I x1.Base, I x1.BaseTerm, S x1.Snap, .slice a1 x1.Log.length c1]) (p := p23) (off := 0) (cs := [I x2.N, I x2.M, I x1.Base, I x1.BaseTerm, S x1.Snap, .slice a1 x1.Log.length c1]) (T' := 71) rfl rfl hst (by kernel_rfl) rfl ?_
    obtain rfl := Option.some.inj hr
    have hst := osl_nil r_T_glacierref09_State 71 hst
    have hst := (hst.pull 5).dup
    have hst := ((((((hst.pull 8).pull 8).pull 2).pull 4).pull 4).cut 5 4)
    exact hR a1 c1 none 0 _ hst
  · have hr := (if_neg (by rw [h]; exact Bool.false_ne_true)).symm.trans hr
    refine wp_seq ?_
    refine wp_reg ?_
    refine L_pure 2 [(2, pt p21 0), (3, pt p22 0), (4, pt p23 0), (18, I x2.Kind), (29, .bool (x2.Kind == 2))] (by kernel_rfl) fun b => ?_
    refine wpL_nil ?_
    refine th_n ?_
    refine wp_cond_mkF (t := (x2.Kind == 2)) rfl (fun h => ?_) (fun h => ?_)
    · have hr := (if_pos h).symm.trans hr
      refine wp_seq ?_
      refine wp_reg ?_
      refine L_op rfl (O_bs (T := 71) [] #[] hst (by kernel_rfl) (by kernel_rfl) rfl fun p25 w hst => ?_)
      have hst := osl_of_blk0 (ecs := []) r_T_glacierref09_State [] rfl (fun m => trivial) rfl hst
      refine L_pure 1 [(2, pt p21 0), (3, pt p22 0), (4, pt p23 0), (7, .slice (some ⟨p25, 0, none⟩) 0 0)] (by kernel_rfl) fun b => ?_
      refine wpL_nil ?_
      refine th_n ?_
      refine wp_seq ?_
      refine wp_reg ?_
      refine L_op rfl (O_run (v := .agg #[I x1.Term, I x1.Vote, I x1.Base, I x1.BaseTerm, S x1.Snap, .slice a1 x1.Log.length c1]) (w' := w) (R_load (hst.pull 3) rfl rfl) rfl rfl ?_)
      refine L_op rfl (O_alloc (i := Try.t71) (z := .agg #[I 0, I 0, I 0, I 0, S ([]), .slice none 0 0]) [I 0, I 0, I 0, I 0, S ([]), .slice none 0 0] hst rfl rfl rfl rfl fun p26 w hst => ?_)
      refine L_op rfl (O_store [I x1.Term, I x1.Vote, I x1.Base, I x1.BaseTerm, S x1.Snap, .slice a1 x1.Log.length c1] hst rfl rfl (by kernel_rfl) fun w hst => ?_)
      refine wpL_nil ?_
      refine th_n ?_
      refine wp_seq ?_
      refine wp_reg ?_
      refine L_pure 1 [(2, pt p21 0), (3, pt p22 0), (4, pt p23 0), (7, .slice (some ⟨p25, 0, none⟩) 0 0), (8, pt p26 0), (33, pt p21 2)] (by kernel_rfl) fun b => ?_
      refine L_op rfl (O_run (v := I x1.Base) (w' := w) (R_load (hst.pull 4) rfl rfl) rfl rfl ?_)
      refine L_pure 1 [(3, pt p22 0), (4, pt p23 0), (7, .slice (some ⟨p25, 0, none⟩) 0 0), (8, pt p26 0), (34, I x1.Base), (35, pt p21 5)] (by kernel_rfl) fun b => ?_
      refine L_op rfl (O_run (v := .slice a1 x1.Log.length c1) (w' := w) (R_load (hst.pull 4) rfl rfl) rfl rfl ?_)
      refine L_pure 3 [(3, pt p22 0), (4, pt p23 0), (7, .slice (some ⟨p25, 0, none⟩) 0 0), (8, pt p26 0), (9, I (IntKind.i64.wrap (x1.Base + (x1.Log.length : Int))))] (by kernel_rfl) fun b => ?_
      refine wpL_nil ?_
      refine th_n ?_
      refine wp_seq ?_
      refine wp_seq ?_
      refine wp_reg ?_
      refine L_pure 1 [(3, pt p22 0), (4, pt p23 0), (7, .slice (some ⟨p25, 0, none⟩) 0 0), (8, pt p26 0), (9, I (IntKind.i64.wrap (x1.Base + (x1.Log.length : Int)))), (10, I 0)] (by kernel_rfl) fun b => ?_
      refine wpL_nil ?_
      refine th_n ?_
      obtain ⟨y11, hy11, hk6⟩ := bnd hr
      clear hr
      refine Go.Hx.wp_cut (fun a w => ∃ (a33 : Option Addr) (c33 : Nat) (a34 : Option Addr) (c34 : Nat)(b : Nat → Value), a = mkF 141 b [(4, pt p23 0), (7, .slice a33 y11.1.length c33), (8, pt p26 0)] ∧ St G w (osl r_T_glacierref09_State 71 a33 c33 y11.1 :: dsl r_T_glacierref09_Entry a34 c34 y11.2 :: blk p26 (cl [I x1.Term, I x1.Vote, I x1.Base, I x1.BaseTerm, S x1.Snap, .slice a34 y11.2.length c34] 71) :: blk p23 (cl [I 0, I 0, I 0, I 0, S ([]), .slice none 0 0] 71) :: blk p22 (cl [I x2.Kind, I x2.N, I x2.M, S x2.S, .slice a2 x2.Texts.length c2, .slice a3 x2.Choice.length c3] 77) :: blk p21 (cl [I x1.Term, I x1.Vote, I x1.Base, I x1.BaseTerm, S x1.Snap, .slice a1 x1.Log.length c1] 71) :: dsl r_T_glacierref09_Entry a1 c1 x1.Log :: dsl rS a2 c2 x2.Texts :: dsl (rI .i64) a3 c3 x2.Choice :: F)) ?_ ?_
      · rintro _ w ⟨a33, c33, a34, c34, b, rfl, hst⟩
        have hr := hk6
        refine th_n ?_
        refine wp_seq ?_
        refine wp_reg ?_
        refine L_op rfl (O_run (v := .agg #[I x1.Term, I x1.Vote, I x1.Base, I x1.BaseTerm, S x1.Snap, .slice a34 y11.2.length c34]) (w' := w) (R_load (hst.pull 2) rfl rfl) rfl rfl ?_)
        refine L_pure 1 [(4, pt p23 0), (74, .agg #[I x1.Term, I x1.Vote, I x1.Base, I x1.BaseTerm, S x1.Snap, .slice a34 y11.2.length c34]), (75, .slice a33 y11.1.length c33)] (by kernel_rfl) fun b => ?_
        refine L_op rfl (O_store [I x1.Term, I x1.Vote, I x1.Base, I x1.BaseTerm, S x1.Snap, .slice a34 y11.2.length c34] (hst.pull 3) rfl rfl (by kernel_rfl) fun w hst => ?_)
        refine L_pure 1 [(4, pt p23 0), (5, .slice a33 y11.1.length c33)] (by kernel_rfl) fun b => ?_
        refine wpL_nil ?_
        refine th_n ?_
        refine wp_ret ?_
        refine ib_r (th_r ?_)
        refine retCT (v := .agg #[I x1.Term, I x1.Vote, I x1.Base, I x1.BaseTerm, S x1.Snap, .slice a34 y11.2.length c34]) (p := p23) (off := 0) (cs := [I x1.Term, I x1.Vote, I x1.Base, I x1.BaseTerm, S x1.Snap, .slice a34 y11.2.length c34]) (T' := 71) rfl rfl hst (by kernel_rfl) rfl ?_
        obtain rfl := Option.some.inj hr
        have hst := ((((((hst.pull 8).pull 8).pull 8).pull 4).pull 5).cut 5 4)
        exact hR a34 c34 a33 c33 _ hst
      · have hst := (hst.pull 5).dup
        have hst := (((((((((hst.pull 8).pull 8).pull 2).pull 8).pull 8).pull 8).pull 7).pull 7).pull 8)
        refine wp_block ?_
        refine wp_loop_fuel (fun j a w => ∃ (v14 : (List T_glacierref09_State)) (v15 : Int) (v16 : (List T_glacierref09_Entry)) (a29 : Option Addr) (c29 : Nat) (a30 : Option Addr) (c30 : Nat) (b : Nat → Value), a = mkF 141 b [(3, pt p22 0), (4, pt p23 0), (7, .slice a29 v14.length c29), (8, pt p26 0), (9, I (IntKind.i64.wrap (x1.Base + (x1.Log.length : Int)))), (10, I v15)] ∧ St G w (osl r_T_glacierref09_State 71 a29 c29 v14 :: dsl r_T_glacierref09_Entry a30 c30 v16 :: blk p26 (cl [I x1.Term, I x1.Vote, I x1.Base, I x1.BaseTerm, S x1.Snap, .slice a30 v16.length c30] 71) :: blk p23 (cl [I 0, I 0, I 0, I 0, S ([]), .slice none 0 0] 71) :: blk p22 (cl [I x2.Kind, I x2.N, I x2.M, S x2.S, .slice a2 x2.Texts.length c2, .slice a3 x2.Choice.length c3] 77) :: blk p21 (cl [I x1.Term, I x1.Vote, I x1.Base, I x1.BaseTerm, S x1.Snap, .slice a1 x1.Log.length c1] 71) :: dsl r_T_glacierref09_Entry a1 c1 x1.Log :: dsl rS a2 c2 x2.Texts :: dsl (rI .i64) a3 c3 x2.Choice :: F) ∧ glacierlaw09_may_l1 k x1 x2 j v14 v15 v16 = some y11) (k := k) ⟨[], (0 : Int), x1.Log, (some ⟨p25, 0, none⟩), 0, a1, c1, (kpX [(3, pt p22 0), (4, pt p23 0), (7, .slice (some ⟨p25, 0, none⟩) 0 0), (8, pt p26 0), (9, I (IntKind.i64.wrap (x1.Base + (x1.Log.length : Int)))), (10, I 0)] rfl ⟨hst, hy11⟩)⟩ ?_ ?_
        · rintro _ _ ⟨_, _, _, _, _, _, _, _, _, _, h⟩
          rw [glacierlaw09_may_l1] at h
          cases h
        · rintro j _ w ⟨v14, v15, v16, a29, c29, a30, c30, b, rfl, hst, hr⟩
          rw [glacierlaw09_may_l1] at hr
          refine wp_seq ?_
          obtain ⟨y12, hy12, hk7⟩ := bnd hr
          clear hr
          refine wp_seq_cut (fun a w => ∃ (b : Nat → Value), a = mkF 141 b [(3, pt p22 0), (4, pt p23 0), (7, .slice a29 v14.length c29), (8, pt p26 0), (9, I (IntKind.i64.wrap (x1.Base + (x1.Log.length : Int)))), (10, I v15), (47, .bool y12)] ∧ St G w (osl r_T_glacierref09_State 71 a29 c29 v14 :: dsl r_T_glacierref09_Entry a30 c30 v16 :: blk p26 (cl [I x1.Term, I x1.Vote, I x1.Base, I x1.BaseTerm, S x1.Snap, .slice a30 v16.length c30] 71) :: blk p23 (cl [I 0, I 0, I 0, I 0, S ([]), .slice none 0 0] 71) :: blk p22 (cl [I x2.Kind, I x2.N, I x2.M, S x2.S, .slice a2 x2.Texts.length c2, .slice a3 x2.Choice.length c3] 77) :: blk p21 (cl [I x1.Term, I x1.Vote, I x1.Base, I x1.BaseTerm, S x1.Snap, .slice a1 x1.Log.length c1] 71) :: dsl r_T_glacierref09_Entry a1 c1 x1.Log :: dsl rS a2 c2 x2.Texts :: dsl (rI .i64) a3 c3 x2.Choice :: F)) ?_ ?_
          · rintro _ w ⟨b, rfl, hst⟩
            have hr := hk7
            refine wp_cond_mkF (t := y12) rfl (fun h => ?_) (fun h => ?_)
            · have hr := (if_pos h).symm.trans hr
              refine wp_skip ?_
              refine th_n ?_
              refine wp_seq ?_
              refine wp_block ?_
              obtain ⟨y13, hy13, hk8⟩ := bnd hr
              clear hr
              refine wp_seq_cut (fun a w => ∃ (a35 : Option Addr) (c35 : Nat)(b : Nat → Value), a = mkF 141 b [(3, pt p22 0), (4, pt p23 0), (7, .slice a29 v14.length c29), (8, pt p26 0), (9, I (IntKind.i64.wrap (x1.Base + (x1.Log.length : Int)))), (10, I v15)] ∧ St G w (osl r_T_glacierref09_Entry 119 a35 c35 y13 :: blk p26 (cl [I x1.Term, I x1.Vote, I x1.Base, I x1.BaseTerm, S x1.Snap, .slice a35 y13.length c35] 71) :: dsl r_T_glacierref09_Entry a30 c30 v16 :: dsl rS a2 c2 x2.Texts :: osl r_T_glacierref09_State 71 a29 c29 v14 :: blk p23 (cl [I 0, I 0, I 0, I 0, S ([]), .slice none 0 0] 71) :: blk p22 (cl [I x2.Kind, I x2.N, I x2.M, S x2.S, .slice a2 x2.Texts.length c2, .slice a3 x2.Choice.length c3] 77) :: blk p21 (cl [I x1.Term, I x1.Vote, I x1.Base, I x1.BaseTerm, S x1.Snap, .slice a1 x1.Log.length c1] 71) :: dsl r_T_glacierref09_Entry a1 c1 x1.Log :: dsl (rI .i64) a3 c3 x2.Choice :: F)) ?_ ?_
              · rintro _ w ⟨a35, c35, b, rfl, hst⟩
                have hr := hk8
                refine wp_reg ?_
                refine L_pure 1 [(3, pt p22 0), (4, pt p23 0), (8, pt p26 0), (9, I (IntKind.i64.wrap (x1.Base + (x1.Log.length : Int)))), (10, I v15), (70, .slice a29 v14.length c29)] (by kernel_rfl) fun b => ?_
                refine L_op rfl (O_run (v := .agg #[I x1.Term, I x1.Vote, I x1.Base, I x1.BaseTerm, S x1.Snap, .slice a35 y13.length c35]) (w' := w) (R_load (hst.pull 1) rfl rfl) rfl rfl ?_)
                have hst := osl_freeze hst
                refine L_op rfl (O_bs (T := 71) [I x1.Term, I x1.Vote, I x1.Base, I x1.BaseTerm, S x1.Snap, .slice a35 y13.length c35] #[(0, .agg #[I x1.Term, I x1.Vote, I x1.Base, I x1.BaseTerm, S x1.Snap, .slice a35 y13.length c35])] hst (by kernel_rfl) (by kernel_rfl) rfl fun p35 w hst => ?_)
                have hst := (hst.pull 1).dup
                have hst := ((hst.pull 2).pull 1)
                have hst := osl_of_blk (ecs := [[I x1.Term, I x1.Vote, I x1.Base, I x1.BaseTerm, S x1.Snap, .slice a35 y13.length c35]]) r_T_glacierref09_State [(T_glacierref09_State.mk x1.Term x1.Vote x1.Base x1.BaseTerm x1.Snap y13)] rfl (fun m h => ⟨⟨((a35, c35)), rfl, h⟩, trivial⟩) rfl hst
                obtain ⟨hb19, hr⟩ := chk hr
                refine L_op rfl (O_app_o L75 (hst.pull 5) rfl rfl hb19 rfl fun a44 c44 w hst => ?_)
                refine L_pure 1 [(3, pt p22 0), (4, pt p23 0), (7, .slice a44 (v14 ++ ([(T_glacierref09_State.mk x1.Term x1.Vote x1.Base x1.BaseTerm x1.Snap y13)])).length c44), (8, pt p26 0), (9, I (IntKind.i64.wrap (x1.Base + (x1.Log.length : Int)))), (10, I v15)] (by kernel_rfl) fun b => ?_
                refine wpL_nil ?_
                refine ib_n (th_n ?_)
                refine wp_reg ?_
                refine L_pure 3 [(3, pt p22 0), (4, pt p23 0), (7, .slice a44 (v14 ++ ([(T_glacierref09_State.mk x1.Term x1.Vote x1.Base x1.BaseTerm x1.Snap y13)])).length c44), (8, pt p26 0), (9, I (IntKind.i64.wrap (x1.Base + (x1.Log.length : Int)))), (10, I (IntKind.i64.wrap (v15 + 1)))] (by kernel_rfl) fun b => ?_
                refine wpL_nil ?_
                refine th_n ?_
                have hst := ((((((((((hst.pull 10).pull 6).pull 10).pull 10).pull 10).pull 10).pull 9).pull 9).pull 8).cut 9 2)
                exact ⟨(v14 ++ ([(T_glacierref09_State.mk x1.Term x1.Vote x1.Base x1.BaseTerm x1.Snap y13)])), (IntKind.i64.wrap (v15 + 1)), y13, a44, c44, a35, c35, (kpX [(3, pt p22 0), (4, pt p23 0), (7, .slice a44 (v14 ++ ([(T_glacierref09_State.mk x1.Term x1.Vote x1.Base x1.BaseTerm x1.Snap y13)])).length c44), (8, pt p26 0), (9, I (IntKind.i64.wrap (x1.Base + (x1.Log.length : Int)))), (10, I (IntKind.i64.wrap (v15 + 1)))] rfl ⟨hst, hr⟩)⟩
              · have hr := hy13
                refine wp_regG (SP 20 (fun w => St G w (osl r_T_glacierref09_State 71 a29 c29 v14 :: dsl r_T_glacierref09_Entry a30 c30 v16 :: blk p26 (cl [I x1.Term, I x1.Vote, I x1.Base, I x1.BaseTerm, S x1.Snap, .slice a30 v16.length c30] 71) :: blk p23 (cl [I 0, I 0, I 0, I 0, S ([]), .slice none 0 0] 71) :: blk p22 (cl [I x2.Kind, I x2.N, I x2.M, S x2.S, .slice a2 x2.Texts.length c2, .slice a3 x2.Choice.length c3] 77) :: blk p21 (cl [I x1.Term, I x1.Vote, I x1.Base, I x1.BaseTerm, S x1.Snap, .slice a1 x1.Log.length c1] 71) :: dsl r_T_glacierref09_Entry a1 c1 x1.Log :: dsl rS a2 c2 x2.Texts :: dsl (rI .i64) a3 c3 x2.Choice :: F))) rfl ?_
                have hst := hst.draw (n := w.drawn + 1)
                generalize { w with drawn := w.drawn + 1 } = w at hst ⊢
                refine P_pure (i := 1) (v := pt p26 5) 20 rfl rfl (by kernel_rfl) (fun _ _ _ h => h) rfl rfl rfl (by kernel_rfl) (.inr (((((((((hst.pull 8).pull 8).pull 8).pull 8).pull 8).pull 8).pull 8).pull 8).pull 8)) ?_
                refine P_take (i := 2) (v := .slice a30 v16.length c30) 20 [2] (by kernel_rfl) rfl (by kernel_rfl) (fun _ _ _ h => h) rfl rfl rfl (fun w hst => R_load (hst.pull 2) rfl rfl) ((((((((((hst.pull 8).pull 8).pull 8).pull 8).pull 8).pull 8).pull 8).pull 8).pull 8)) ?_
                refine P_pure (i := 4) (v := I (IntKind.i64.wrap (x1.Base + (x1.Log.length : Int)))) 20 rfl rfl (by kernel_rfl) (fun _ _ _ h => h) rfl rfl rfl (by kernel_rfl) (.inr (((((((((hst.pull 8).pull 8).pull 8).pull 8).pull 8).pull 8).pull 8).pull 8).pull 8)) ?_
                refine P_pure (i := 5) (v := I (IntKind.i64.wrap ((IntKind.i64.wrap (x1.Base + (x1.Log.length : Int))) + 1))) 20 rfl rfl (by kernel_rfl) (fun _ _ _ h => h) rfl rfl rfl (by kernel_rfl) (.inr (((((((((hst.pull 8).pull 8).pull 8).pull 8).pull 8).pull 8).pull 8).pull 8).pull 8)) ?_
                refine P_pure (i := 6) (v := I v15) 20 rfl rfl (by kernel_rfl) (fun _ _ _ h => h) rfl rfl rfl (by kernel_rfl) (.inr (((((((((hst.pull 8).pull 8).pull 8).pull 8).pull 8).pull 8).pull 8).pull 8).pull 8)) ?_
                refine P_pure (i := 7) (v := I (IntKind.i64.wrap ((IntKind.i64.wrap ((IntKind.i64.wrap (x1.Base + (x1.Log.length : Int))) + 1)) + v15))) 20 rfl rfl (by kernel_rfl) (fun _ _ _ h => h) rfl rfl rfl (by kernel_rfl) (.inr (((((((((hst.pull 8).pull 8).pull 8).pull 8).pull 8).pull 8).pull 8).pull 8).pull 8)) ?_
                refine P_pure (i := 8) (v := pt p22 2) 20 rfl rfl (by kernel_rfl) (fun _ _ _ h => h) rfl rfl rfl (by kernel_rfl) (.inr (((((((((hst.pull 8).pull 8).pull 8).pull 8).pull 8).pull 8).pull 8).pull 8).pull 8)) ?_
                refine P_take (i := 9) (v := I x2.M) 20 [9] (by kernel_rfl) rfl (by kernel_rfl) (fun _ _ _ h => h) rfl rfl rfl (fun w hst => R_load (hst.pull 4) rfl rfl) ((((((((((hst.pull 8).pull 8).pull 8).pull 8).pull 8).pull 8).pull 8).pull 8).pull 8)) ?_
                refine P_pure (i := 10) (v := pt p22 4) 20 rfl rfl (by kernel_rfl) (fun _ _ _ h => h) rfl rfl rfl (by kernel_rfl) (.inr (((((((((hst.pull 8).pull 8).pull 8).pull 8).pull 8).pull 8).pull 8).pull 8).pull 8)) ?_
                refine P_take (i := 11) (v := .slice a2 x2.Texts.length c2) 20 [11] (by kernel_rfl) rfl (by kernel_rfl) (fun _ _ _ h => h) rfl rfl rfl (fun w hst => R_load (hst.pull 4) rfl rfl) ((((((((((hst.pull 8).pull 8).pull 8).pull 8).pull 8).pull 8).pull 8).pull 8).pull 8)) ?_
                refine P_pure (i := 12) (v := I v15) 20 rfl rfl (by kernel_rfl) (fun _ _ _ h => h) rfl rfl rfl (by kernel_rfl) (.inr (((((((((hst.pull 8).pull 8).pull 8).pull 8).pull 8).pull 8).pull 8).pull 8).pull 8)) ?_
                obtain ⟨x14, hx12, hr⟩ := bnd hr
                refine P_any (i := 13) (v := pt (ab a2) (ao a2 + v15.toNat * 1)) 20 rfl rfl (by kernel_rfl) (fun _ _ _ h => h) rfl rfl rfl (fun w => (R_ia L34 rfl rfl (dsl_addr (hst.pull 7) hx12) (gt_some hx12).1 (gt_some hx12).2.1)) (.inr (((((((((hst.pull 8).pull 8).pull 8).pull 8).pull 8).pull 8).pull 8).pull 8).pull 8)) ?_
                obtain ⟨q9, hc9, hst⟩ := dsl_cells (hst.pull 7) hx12
                have hst := hst.drop
                refine P_take (i := 14) (v := S x14) 20 [14] (by kernel_rfl) rfl (by kernel_rfl) (fun _ _ _ h => h) rfl rfl rfl (fun w hst => by obtain ⟨_, hc, _⟩ := dsl_cells (hst.pull 7) hx12; exact R_loadAt (off := ao a2 + v15.toNat * 1) (j := 0) hc rfl rfl) ((((((((((hst.pull 8).pull 1).pull 8).pull 8).pull 8).pull 8).pull 8).pull 8).pull 8)) ?_
                refine P_one (i := 0) 20 (by kernel_rfl) rfl rfl (O_bs (T := 119) [] #[] hst (by kernel_rfl) (by kernel_rfl) rfl fun p33 w hst => ?_)
                have hst := osl_of_blk0 (ecs := []) r_T_glacierref09_Entry [] rfl (fun m => trivial) rfl hst
                refine ⟨((((((((((hst.pull 9).pull 2).pull 9).pull 9).pull 9).pull 9).pull 9).pull 9).pull 9).cut 9 1), ?_⟩
                obtain ⟨hb17, hr⟩ := chk hr
                refine P_one (i := 3) 20 (by kernel_rfl) rfl rfl (O_app_d L69 ((hst.pull 3).pull 1) rfl rfl hb17 rfl fun a42 c42 w hst => ?_)
                refine ⟨((((((((((hst.pull 9).pull 3).pull 9).pull 9).pull 9).pull 9).pull 9).pull 8).pull 9).cut 9 1), ?_⟩
                obtain ⟨y17, hy17, hr⟩ := bnd hr
                refine P_one (i := 15) 20 (by kernel_rfl) rfl rfl (O_call (vs := #[S x14, I 20]) Try.call13 (by kernel_rfl) (glacierlaw01_Cut_ok k x14 20 y17 hst hy17 fun w hst => ?_))
                refine CK_ret rfl ?_
                refine ⟨((((((((((hst.pull 9).pull 3).pull 9).pull 9).pull 9).pull 9).pull 9).pull 8).pull 9).cut 9 1), ?_⟩
                refine P_pure (i := 16) (v := .agg #[I (IntKind.i64.wrap ((IntKind.i64.wrap ((IntKind.i64.wrap (x1.Base + (x1.Log.length : Int))) + 1)) + v15)), I x2.M, S y17]) 20 rfl rfl (by kernel_rfl) (fun _ _ _ h => h) rfl rfl rfl (by kernel_rfl) (.inr ((((((((((hst.pull 9).pull 3).pull 9).pull 9).pull 9).pull 9).pull 9).pull 8).pull 9).cut 9 1)) ?_
                refine P_one (i := 17) 20 (by kernel_rfl) rfl rfl (O_bs (T := 119) [I (IntKind.i64.wrap ((IntKind.i64.wrap ((IntKind.i64.wrap (x1.Base + (x1.Log.length : Int))) + 1)) + v15)), I x2.M, S y17] #[(0, .agg #[I (IntKind.i64.wrap ((IntKind.i64.wrap ((IntKind.i64.wrap (x1.Base + (x1.Log.length : Int))) + 1)) + v15)), I x2.M, S y17])] hst (by kernel_rfl) (by kernel_rfl) rfl fun p34 w hst => ?_)
                have hst := osl_of_blk0 (ecs := [[I (IntKind.i64.wrap ((IntKind.i64.wrap ((IntKind.i64.wrap (x1.Base + (x1.Log.length : Int))) + 1)) + v15)), I x2.M, S y17]]) r_T_glacierref09_Entry [(T_glacierref09_Entry.mk (IntKind.i64.wrap ((IntKind.i64.wrap ((IntKind.i64.wrap (x1.Base + (x1.Log.length : Int))) + 1)) + v15)) x2.M y17)] rfl (fun m => ⟨⟨(), rfl, trivial⟩, trivial⟩) rfl hst
                refine ⟨((((((((((hst.pull 10).pull 4).pull 10).pull 10).pull 10).pull 10).pull 10).pull 9).pull 10).cut 9 2), ?_⟩
                obtain ⟨hb18, hr⟩ := chk hr
                refine P_one (i := 18) 20 (by kernel_rfl) rfl rfl (O_app_o L69 (hst.pull 1) rfl rfl hb18 rfl fun a43 c43 w hst => ?_)
                refine ⟨((((((((((hst.pull 10).pull 4).pull 10).pull 10).pull 10).pull 10).pull 10).pull 9).pull 10).cut 9 2), ?_⟩
                refine P_pure (i := 19) (v := pt p26 5) 20 rfl rfl (by kernel_rfl) (fun _ _ _ h => h) rfl rfl rfl (by kernel_rfl) (.inr ((((((((((hst.pull 10).pull 4).pull 10).pull 10).pull 10).pull 10).pull 10).pull 9).pull 10).cut 9 2)) ?_
                refine P_act (i := 20) 20 (by kernel_rfl) rfl rfl (by kernel_rfl) (O_store [I x1.Term, I x1.Vote, I x1.Base, I x1.BaseTerm, S x1.Snap, .slice a43 (([] ++ v16) ++ ([(T_glacierref09_Entry.mk (IntKind.i64.wrap ((IntKind.i64.wrap ((IntKind.i64.wrap (x1.Base + (x1.Log.length : Int))) + 1)) + v15)) x2.M y17)])).length c43] (hst.pull 5) rfl rfl (by kernel_rfl) fun w hst => ?_)
                refine wpG_done (by kernel_rfl) ?_ _
                refine C_keepQ [(3, pt p22 0), (4, pt p23 0), (7, .slice a29 v14.length c29), (8, pt p26 0), (9, I (IntKind.i64.wrap (x1.Base + (x1.Log.length : Int)))), (10, I v15)] rfl fun b => ?_
                refine th_n ?_
                obtain rfl := Option.some.inj hr
                have hst := (((((((((((hst.pull 10).pull 10).pull 10).pull 10).pull 10).pull 10).pull 10).pull 10).pull 8).pull 9).cut 10 1)
                exact ⟨a43, c43, (kpX [(3, pt p22 0), (4, pt p23 0), (7, .slice a29 v14.length c29), (8, pt p26 0), (9, I (IntKind.i64.wrap (x1.Base + (x1.Log.length : Int)))), (10, I v15)] rfl hst)⟩
            · have hr := (if_neg (by rw [h]; exact Bool.false_ne_true)).symm.trans hr
              refine wp_exit ?_
              refine th_x (th_x (ib_x (th_n ?_)))
              obtain rfl := Option.some.inj hr
              have hst := (((((((((hst.pull 8).pull 8).pull 8).pull 8).pull 8).pull 8).pull 8).pull 8).pull 8)
              exact ⟨a29, c29, a30, c30, (kpX [(4, pt p23 0), (7, .slice a29 v14.length c29), (8, pt p26 0)] rfl hst)⟩
          · have hr := hy12
            refine wp_reg ?_
            refine L_pure 2 [(3, pt p22 0), (4, pt p23 0), (7, .slice a29 v14.length c29), (8, pt p26 0), (9, I (IntKind.i64.wrap (x1.Base + (x1.Log.length : Int)))), (10, I v15), (39, I v15), (40, pt p22 4)] (by kernel_rfl) fun b => ?_
            refine L_op rfl (O_run (v := .slice a2 x2.Texts.length c2) (w' := w) (R_load (hst.pull 4) rfl rfl) rfl rfl ?_)
            refine L_pure 3 [(3, pt p22 0), (4, pt p23 0), (7, .slice a29 v14.length c29), (8, pt p26 0), (9, I (IntKind.i64.wrap (x1.Base + (x1.Log.length : Int)))), (10, I v15), (44, .bool (decide (v15 < (x2.Texts.length : Int))))] (by kernel_rfl) fun b => ?_
            by_cases h : (decide (v15 < (x2.Texts.length : Int))) = true
            · have hr := (if_pos h).symm.trans hr
              refine L_keep ((44, .bool (decide (v15 < (x2.Texts.length : Int)))) :: [(3, pt p22 0), (4, pt p23 0), (7, .slice a29 v14.length c29), (8, pt p26 0), (9, I (IntKind.i64.wrap (x1.Base + (x1.Log.length : Int)))), (10, I v15)]) rfl fun b => ?_
              refine L_bool h ?_
              refine L_pure 3 [(3, pt p22 0), (4, pt p23 0), (7, .slice a29 v14.length c29), (8, pt p26 0), (9, I (IntKind.i64.wrap (x1.Base + (x1.Log.length : Int)))), (10, I v15), (47, .bool (decide (v15 < 4)))] (by kernel_rfl) fun b => ?_
              refine wpL_nil ?_
              refine th_n ?_
              obtain rfl := Option.some.inj hr
              have hst := (((((((((hst.pull 8).pull 8).pull 8).pull 8).pull 8).pull 8).pull 8).pull 8).pull 8)
              exact (kpX [(3, pt p22 0), (4, pt p23 0), (7, .slice a29 v14.length c29), (8, pt p26 0), (9, I (IntKind.i64.wrap (x1.Base + (x1.Log.length : Int)))), (10, I v15), (47, .bool (decide (v15 < 4)))] rfl hst)
            · have hr := (if_neg h).symm.trans hr
              refine L_keep ((44, .bool (decide (v15 < (x2.Texts.length : Int)))) :: [(3, pt p22 0), (4, pt p23 0), (7, .slice a29 v14.length c29), (8, pt p26 0), (9, I (IntKind.i64.wrap (x1.Base + (x1.Log.length : Int)))), (10, I v15)]) rfl fun b => ?_
              refine L_bool (eq_false_of_ne_true h) ?_
              refine L_pure 3 [(3, pt p22 0), (4, pt p23 0), (7, .slice a29 v14.length c29), (8, pt p26 0), (9, I (IntKind.i64.wrap (x1.Base + (x1.Log.length : Int)))), (10, I v15), (47, .bool false)] (by kernel_rfl) fun b => ?_
              refine wpL_nil ?_
              refine th_n ?_
              obtain rfl := Option.some.inj hr
              have hst := (((((((((hst.pull 8).pull 8).pull 8).pull 8).pull 8).pull 8).pull 8).pull 8).pull 8)
              exact (kpX [(3, pt p22 0), (4, pt p23 0), (7, .slice a29 v14.length c29), (8, pt p26 0), (9, I (IntKind.i64.wrap (x1.Base + (x1.Log.length : Int)))), (10, I v15), (47, .bool false)] rfl hst)
    · have hr := (if_neg (by rw [h]; exact Bool.false_ne_true)).symm.trans hr
      refine wp_seq ?_
      refine wp_reg ?_
      refine L_pure 2 [(2, pt p21 0), (3, pt p22 0), (4, pt p23 0), (76, .bool (x2.Kind == 3))] (by kernel_rfl) fun b => ?_
      refine wpL_nil ?_
      refine th_n ?_
      refine wp_cond_mkF (t := (x2.Kind == 3)) rfl (fun h => ?_) (fun h => ?_)
      · have hr := (if_pos h).symm.trans hr
        refine wp_seq ?_
        refine wp_reg ?_
        refine L_op rfl (O_run (v := .agg #[I x1.Term, I x1.Vote, I x1.Base, I x1.BaseTerm, S x1.Snap, .slice a1 x1.Log.length c1]) (w' := w) (R_load (hst.pull 2) rfl rfl) rfl rfl ?_)
        refine L_op rfl (O_alloc (i := Try.t71) (z := .agg #[I 0, I 0, I 0, I 0, S ([]), .slice none 0 0]) [I 0, I 0, I 0, I 0, S ([]), .slice none 0 0] hst rfl rfl rfl rfl fun p36 w hst => ?_)
        refine L_op rfl (O_store [I x1.Term, I x1.Vote, I x1.Base, I x1.BaseTerm, S x1.Snap, .slice a1 x1.Log.length c1] hst rfl rfl (by kernel_rfl) fun w hst => ?_)
        refine wpL_nil ?_
        refine th_n ?_
        refine wp_seq ?_
        refine wp_reg ?_
        refine L_pure 1 [(2, pt p21 0), (3, pt p22 0), (4, pt p23 0), (11, pt p36 0), (79, pt p21 5)] (by kernel_rfl) fun b => ?_
        refine L_op rfl (O_run (v := .slice a1 x1.Log.length c1) (w' := w) (R_load (hst.pull 3) rfl rfl) rfl rfl ?_)
        refine L_pure 1 [(2, pt p21 0), (4, pt p23 0), (11, pt p36 0), (80, .slice a1 x1.Log.length c1), (81, pt p22 1)] (by kernel_rfl) fun b => ?_
        refine L_op rfl (O_run (v := I x2.N) (w' := w) (R_load (hst.pull 2) rfl rfl) rfl rfl ?_)
        refine L_pure 1 [(2, pt p21 0), (4, pt p23 0), (11, pt p36 0), (80, .slice a1 x1.Log.length c1), (82, I x2.N), (83, pt p21 5)] (by kernel_rfl) fun b => ?_
        refine L_op rfl (O_run (v := .slice a1 x1.Log.length c1) (w' := w) (R_load (hst.pull 3) rfl rfl) rfl rfl ?_)
        refine L_pure 2 [(2, pt p21 0), (4, pt p23 0), (11, pt p36 0), (80, .slice a1 x1.Log.length c1), (86, I (mn2 x2.N (x1.Log.length : Int)))] (by kernel_rfl) fun b => ?_
        obtain ⟨x15, hx13, hr⟩ := bnd hr
        refine L_op rfl (O_slice_d L69 (hst.pull 4) rfl rfl rfl hx13 rfl fun a45 c45 hst => ?_)
        refine L_pure 1 [(2, pt p21 0), (4, pt p23 0), (11, pt p36 0), (87, .slice a45 x15.length c45), (88, pt p36 5)] (by kernel_rfl) fun b => ?_
        refine L_op rfl (O_store [I x1.Term, I x1.Vote, I x1.Base, I x1.BaseTerm, S x1.Snap, .slice a45 x15.length c45] (hst.pull 2) rfl rfl (by kernel_rfl) fun w hst => ?_)
        refine wpL_nil ?_
        refine th_n ?_
        refine wp_seq ?_
        refine wp_reg ?_
        refine L_op rfl (O_bs (T := 71) [] #[] hst (by kernel_rfl) (by kernel_rfl) rfl fun p37 w hst => ?_)
        have hst := osl_of_blk0 (ecs := []) r_T_glacierref09_State [] rfl (fun m => trivial) rfl hst
        refine L_pure 1 [(2, pt p21 0), (4, pt p23 0), (11, pt p36 0), (12, .slice (some ⟨p37, 0, none⟩) 0 0)] (by kernel_rfl) fun b => ?_
        refine wpL_nil ?_
        refine th_n ?_
        refine wp_seq ?_
        refine wp_seq ?_
        refine wp_reg ?_
        refine L_pure 1 [(2, pt p21 0), (4, pt p23 0), (11, pt p36 0), (12, .slice (some ⟨p37, 0, none⟩) 0 0), (90, pt p21 5)] (by kernel_rfl) fun b => ?_
        refine L_op rfl (O_run (v := .slice a1 x1.Log.length c1) (w' := w) (R_load (hst.pull 6) rfl rfl) rfl rfl ?_)
        refine L_pure 2 [(2, pt p21 0), (4, pt p23 0), (11, pt p36 0), (12, .slice (some ⟨p37, 0, none⟩) 0 0), (92, I (x1.Log.length : Int)), (93, I 0)] (by kernel_rfl) fun b => ?_
        refine wpL_nil ?_
        refine th_n ?_
        obtain ⟨y18, hy18, hk9⟩ := bnd hr
        clear hr
        refine Go.Hx.wp_cut (fun a w => ∃ (a48 : Option Addr) (c48 : Nat)(b : Nat → Value), a = mkF 141 b [(4, pt p23 0), (11, pt p36 0), (12, .slice a48 y18.length c48)] ∧ St G w (osl r_T_glacierref09_State 71 a48 c48 y18 :: blk p36 (cl [I x1.Term, I x1.Vote, I x1.Base, I x1.BaseTerm, S x1.Snap, .slice a45 x15.length c45] 71) :: dsl r_T_glacierref09_Entry a45 c45 x15 :: dsl r_T_glacierref09_Entry a1 c1 x1.Log :: blk p23 (cl [I 0, I 0, I 0, I 0, S ([]), .slice none 0 0] 71) :: blk p22 (cl [I x2.Kind, I x2.N, I x2.M, S x2.S, .slice a2 x2.Texts.length c2, .slice a3 x2.Choice.length c3] 77) :: blk p21 (cl [I x1.Term, I x1.Vote, I x1.Base, I x1.BaseTerm, S x1.Snap, .slice a1 x1.Log.length c1] 71) :: dsl rS a2 c2 x2.Texts :: dsl (rI .i64) a3 c3 x2.Choice :: F)) ?_ ?_
        · rintro _ w ⟨a48, c48, b, rfl, hst⟩
          have hr := hk9
          refine th_n ?_
          refine wp_seq ?_
          refine wp_reg ?_
          refine L_op rfl (O_run (v := .agg #[I x1.Term, I x1.Vote, I x1.Base, I x1.BaseTerm, S x1.Snap, .slice a45 x15.length c45]) (w' := w) (R_load (hst.pull 1) rfl rfl) rfl rfl ?_)
          refine L_pure 1 [(4, pt p23 0), (107, .agg #[I x1.Term, I x1.Vote, I x1.Base, I x1.BaseTerm, S x1.Snap, .slice a45 x15.length c45]), (108, .slice a48 y18.length c48)] (by kernel_rfl) fun b => ?_
          refine L_op rfl (O_store [I x1.Term, I x1.Vote, I x1.Base, I x1.BaseTerm, S x1.Snap, .slice a45 x15.length c45] (hst.pull 4) rfl rfl (by kernel_rfl) fun w hst => ?_)
          refine L_pure 1 [(4, pt p23 0), (5, .slice a48 y18.length c48)] (by kernel_rfl) fun b => ?_
          refine wpL_nil ?_
          refine th_n ?_
          refine wp_ret ?_
          refine ib_r (th_r ?_)
          refine retCT (v := .agg #[I x1.Term, I x1.Vote, I x1.Base, I x1.BaseTerm, S x1.Snap, .slice a45 x15.length c45]) (p := p23) (off := 0) (cs := [I x1.Term, I x1.Vote, I x1.Base, I x1.BaseTerm, S x1.Snap, .slice a45 x15.length c45]) (T' := 71) rfl rfl hst (by kernel_rfl) rfl ?_
          obtain rfl := Option.some.inj hr
          have hst := ((((((hst.pull 8).pull 8).pull 6).pull 4).pull 6).cut 5 4)
          exact hR a45 c45 a48 c48 _ hst
        · have hst := (((((((((hst.pull 8).pull 8).pull 8).pull 8).pull 8).pull 8).pull 8).pull 8).pull 8)
          refine wp_block ?_
          refine wp_loop_fuel (fun j a w => ∃ (v19 : (List T_glacierref09_State)) (v20 : Int) (a46 : Option Addr) (c46 : Nat) (b : Nat → Value), a = mkF 141 b [(2, pt p21 0), (4, pt p23 0), (11, pt p36 0), (12, .slice a46 v19.length c46), (92, I (x1.Log.length : Int)), (93, I v20)] ∧ St G w (osl r_T_glacierref09_State 71 a46 c46 v19 :: blk p36 (cl [I x1.Term, I x1.Vote, I x1.Base, I x1.BaseTerm, S x1.Snap, .slice a45 x15.length c45] 71) :: dsl r_T_glacierref09_Entry a45 c45 x15 :: dsl r_T_glacierref09_Entry a1 c1 x1.Log :: blk p23 (cl [I 0, I 0, I 0, I 0, S ([]), .slice none 0 0] 71) :: blk p22 (cl [I x2.Kind, I x2.N, I x2.M, S x2.S, .slice a2 x2.Texts.length c2, .slice a3 x2.Choice.length c3] 77) :: blk p21 (cl [I x1.Term, I x1.Vote, I x1.Base, I x1.BaseTerm, S x1.Snap, .slice a1 x1.Log.length c1] 71) :: dsl rS a2 c2 x2.Texts :: dsl (rI .i64) a3 c3 x2.Choice :: F) ∧ glacierlaw09_may_l2 k x1 j v19 v20 = some y18) (k := k) ⟨[], (0 : Int), (some ⟨p37, 0, none⟩), 0, (kpX [(2, pt p21 0), (4, pt p23 0), (11, pt p36 0), (12, .slice (some ⟨p37, 0, none⟩) 0 0), (92, I (x1.Log.length : Int)), (93, I 0)] rfl ⟨hst, hy18⟩)⟩ ?_ ?_
          · rintro _ _ ⟨_, _, _, _, _, _, _, h⟩
            rw [glacierlaw09_may_l2] at h
            cases h
          · rintro j _ w ⟨v19, v20, a46, c46, b, rfl, hst, hr⟩
            rw [glacierlaw09_may_l2] at hr
            refine wp_seq ?_
            refine wp_reg ?_
            refine L_pure 1 [(2, pt p21 0), (4, pt p23 0), (11, pt p36 0), (12, .slice a46 v19.length c46), (92, I (x1.Log.length : Int)), (93, I v20), (94, .bool (decide (v20 < (x1.Log.length : Int))))] (by kernel_rfl) fun b => ?_
            refine wpL_nil ?_
            refine th_n ?_
            refine wp_seq ?_
            refine wp_cond_mkF (t := decide (v20 < (x1.Log.length : Int))) rfl (fun h => ?_) (fun h => ?_)
            · have hr := (if_pos h).symm.trans hr
              refine wp_skip ?_
              refine th_n ?_
              refine wp_seq ?_
              refine wp_block ?_
              refine wp_seq ?_
              refine wp_reg ?_
              refine L_pure 2 [(2, pt p21 0), (4, pt p23 0), (11, pt p36 0), (12, .slice a46 v19.length c46), (13, I v20), (92, I (x1.Log.length : Int)), (93, I v20)] (by kernel_rfl) fun b => ?_
              refine wpL_nil ?_
              refine th_n ?_
              refine wp_seq ?_
              refine wp_reg ?_
              refine L_op rfl (O_run (v := .agg #[I x1.Term, I x1.Vote, I x1.Base, I x1.BaseTerm, S x1.Snap, .slice a1 x1.Log.length c1]) (w' := w) (R_load (hst.pull 6) rfl rfl) rfl rfl ?_)
              refine L_op rfl (O_alloc (i := Try.t71) (z := .agg #[I 0, I 0, I 0, I 0, S ([]), .slice none 0 0]) [I 0, I 0, I 0, I 0, S ([]), .slice none 0 0] hst rfl rfl rfl rfl fun p38 w hst => ?_)
              refine L_op rfl (O_store [I x1.Term, I x1.Vote, I x1.Base, I x1.BaseTerm, S x1.Snap, .slice a1 x1.Log.length c1] hst rfl rfl (by kernel_rfl) fun w hst => ?_)
              refine wpL_nil ?_
              refine th_n ?_
              refine wp_seq ?_
              refine wp_reg ?_
              refine L_pure 1 [(2, pt p21 0), (4, pt p23 0), (11, pt p36 0), (12, .slice a46 v19.length c46), (13, I v20), (14, pt p38 0), (92, I (x1.Log.length : Int)), (93, I v20), (97, pt p21 5)] (by kernel_rfl) fun b => ?_
              refine L_op rfl (O_run (v := .slice a1 x1.Log.length c1) (w' := w) (R_load (hst.pull 7) rfl rfl) rfl rfl ?_)
              refine L_pure 1 [(2, pt p21 0), (4, pt p23 0), (11, pt p36 0), (12, .slice a46 v19.length c46), (14, pt p38 0), (92, I (x1.Log.length : Int)), (93, I v20), (98, .slice a1 x1.Log.length c1), (99, I v20)] (by kernel_rfl) fun b => ?_
              obtain ⟨x16, hx14, hr⟩ := bnd hr
              refine L_op rfl (O_slice_d L69 (hst.pull 4) rfl rfl rfl hx14 rfl fun a49 c49 hst => ?_)
              refine L_pure 1 [(2, pt p21 0), (4, pt p23 0), (11, pt p36 0), (12, .slice a46 v19.length c46), (14, pt p38 0), (92, I (x1.Log.length : Int)), (93, I v20), (100, .slice a49 x16.length c49), (101, pt p38 5)] (by kernel_rfl) fun b => ?_
              refine L_op rfl (O_store [I x1.Term, I x1.Vote, I x1.Base, I x1.BaseTerm, S x1.Snap, .slice a49 x16.length c49] (hst.pull 2) rfl rfl (by kernel_rfl) fun w hst => ?_)
              refine wpL_nil ?_
              refine th_n ?_
              refine wp_reg ?_
              refine L_pure 1 [(2, pt p21 0), (4, pt p23 0), (11, pt p36 0), (14, pt p38 0), (92, I (x1.Log.length : Int)), (93, I v20), (102, .slice a46 v19.length c46)] (by kernel_rfl) fun b => ?_
              refine L_op rfl (O_run (v := .agg #[I x1.Term, I x1.Vote, I x1.Base, I x1.BaseTerm, S x1.Snap, .slice a49 x16.length c49]) (w' := w) (R_load hst rfl rfl) rfl rfl ?_)
              refine L_op rfl (O_bs (T := 71) [I x1.Term, I x1.Vote, I x1.Base, I x1.BaseTerm, S x1.Snap, .slice a49 x16.length c49] #[(0, .agg #[I x1.Term, I x1.Vote, I x1.Base, I x1.BaseTerm, S x1.Snap, .slice a49 x16.length c49])] hst (by kernel_rfl) (by kernel_rfl) rfl fun p39 w hst => ?_)
              have hst := (hst.pull 2).dup
              have hst := ((hst.pull 2).pull 1)
              have hst := osl_of_blk (ecs := [[I x1.Term, I x1.Vote, I x1.Base, I x1.BaseTerm, S x1.Snap, .slice a49 x16.length c49]]) r_T_glacierref09_State [(T_glacierref09_State.mk x1.Term x1.Vote x1.Base x1.BaseTerm x1.Snap x16)] rfl (fun m h => ⟨⟨((a49, c49)), rfl, h⟩, trivial⟩) rfl hst
              obtain ⟨hb20, hr⟩ := chk hr
              refine L_op rfl (O_app_o L75 (hst.pull 4) rfl rfl hb20 rfl fun a50 c50 w hst => ?_)
              refine L_pure 1 [(2, pt p21 0), (4, pt p23 0), (11, pt p36 0), (12, .slice a50 (v19 ++ ([(T_glacierref09_State.mk x1.Term x1.Vote x1.Base x1.BaseTerm x1.Snap x16)])).length c50), (92, I (x1.Log.length : Int)), (93, I v20)] (by kernel_rfl) fun b => ?_
              refine wpL_nil ?_
              refine ib_n (th_n ?_)
              refine wp_reg ?_
              refine L_pure 2 [(2, pt p21 0), (4, pt p23 0), (11, pt p36 0), (12, .slice a50 (v19 ++ ([(T_glacierref09_State.mk x1.Term x1.Vote x1.Base x1.BaseTerm x1.Snap x16)])).length c50), (92, I (x1.Log.length : Int)), (93, I (IntKind.i64.wrap (v20 + 1)))] (by kernel_rfl) fun b => ?_
              refine wpL_nil ?_
              refine th_n ?_
              have hst := ((((((((((hst.pull 11).pull 11).pull 11).pull 11).pull 11).pull 9).pull 11).pull 11).pull 8).cut 9 3)
              exact ⟨(v19 ++ ([(T_glacierref09_State.mk x1.Term x1.Vote x1.Base x1.BaseTerm x1.Snap x16)])), (IntKind.i64.wrap (v20 + 1)), a50, c50, (kpX [(2, pt p21 0), (4, pt p23 0), (11, pt p36 0), (12, .slice a50 (v19 ++ ([(T_glacierref09_State.mk x1.Term x1.Vote x1.Base x1.BaseTerm x1.Snap x16)])).length c50), (92, I (x1.Log.length : Int)), (93, I (IntKind.i64.wrap (v20 + 1)))] rfl ⟨hst, hr⟩)⟩
            · have hr := (if_neg (by rw [h]; exact Bool.false_ne_true)).symm.trans hr
              refine wp_exit ?_
              refine th_x (th_x (ib_x (th_n ?_)))
              obtain rfl := Option.some.inj hr
              have hst := (((((((((hst.pull 8).pull 8).pull 8).pull 8).pull 8).pull 8).pull 8).pull 8).pull 8)
              exact ⟨a46, c46, (kpX [(4, pt p23 0), (11, pt p36 0), (12, .slice a46 v19.length c46)] rfl hst)⟩
      · have hr := (if_neg (by rw [h]; exact Bool.false_ne_true)).symm.trans hr
        refine wp_skip ?_
        refine ib_n (th_n ?_)
        refine wp_seq ?_
        refine wp_reg ?_
        refine L_pure 1 [(2, pt p21 0), (3, pt p22 0), (4, pt p23 0), (109, pt p22 1)] (by kernel_rfl) fun b => ?_
        refine L_op rfl (O_run (v := I x2.N) (w' := w) (R_load (hst.pull 1) rfl rfl) rfl rfl ?_)
        refine L_pure 1 [(2, pt p21 0), (3, pt p22 0), (4, pt p23 0), (110, I x2.N), (111, pt p21 5)] (by kernel_rfl) fun b => ?_
        refine L_op rfl (O_run (v := .slice a1 x1.Log.length c1) (w' := w) (R_load (hst.pull 2) rfl rfl) rfl rfl ?_)
        refine L_pure 3 [(2, pt p21 0), (3, pt p22 0), (4, pt p23 0), (15, I (mn2 x2.N (x1.Log.length : Int)))] (by kernel_rfl) fun b => ?_
        refine wpL_nil ?_
        refine th_n ?_
        refine wp_seq ?_
        refine wp_reg ?_
        refine L_op rfl (O_run (v := .agg #[I x1.Term, I x1.Vote, I x1.Base, I x1.BaseTerm, S x1.Snap, .slice a1 x1.Log.length c1]) (w' := w) (R_load (hst.pull 2) rfl rfl) rfl rfl ?_)
        refine L_op rfl (O_alloc (i := Try.t71) (z := .agg #[I 0, I 0, I 0, I 0, S ([]), .slice none 0 0]) [I 0, I 0, I 0, I 0, S ([]), .slice none 0 0] hst rfl rfl rfl rfl fun p40 w hst => ?_)
        refine L_op rfl (O_store [I x1.Term, I x1.Vote, I x1.Base, I x1.BaseTerm, S x1.Snap, .slice a1 x1.Log.length c1] hst rfl rfl (by kernel_rfl) fun w hst => ?_)
        refine wpL_nil ?_
        refine th_n ?_
        refine wp_seq ?_
        refine wp_reg ?_
        refine L_pure 1 [(2, pt p21 0), (3, pt p22 0), (4, pt p23 0), (15, I (mn2 x2.N (x1.Log.length : Int))), (16, pt p40 0), (116, pt p21 2)] (by kernel_rfl) fun b => ?_
        refine L_op rfl (O_run (v := I x1.Base) (w' := w) (R_load (hst.pull 3) rfl rfl) rfl rfl ?_)
        refine L_pure 3 [(2, pt p21 0), (3, pt p22 0), (4, pt p23 0), (15, I (mn2 x2.N (x1.Log.length : Int))), (16, pt p40 0), (119, I (IntKind.i64.wrap (x1.Base + (mn2 x2.N (x1.Log.length : Int))))), (120, pt p40 2)] (by kernel_rfl) fun b => ?_
        refine L_op rfl (O_store [I x1.Term, I x1.Vote, I (IntKind.i64.wrap (x1.Base + (mn2 x2.N (x1.Log.length : Int)))), I x1.BaseTerm, S x1.Snap, .slice a1 x1.Log.length c1] hst rfl rfl (by kernel_rfl) fun w hst => ?_)
        refine wpL_nil ?_
        refine th_n ?_
        obtain ⟨y19, hy19, hk10⟩ := bnd hr
        clear hr
        refine wp_seq_cut (fun a w => ∃ (b : Nat → Value), a = mkF 141 b [(2, pt p21 0), (3, pt p22 0), (4, pt p23 0), (15, I (mn2 x2.N (x1.Log.length : Int))), (16, pt p40 0)] ∧ St G w (blk p40 (cl [I x1.Term, I x1.Vote, I (IntKind.i64.wrap (x1.Base + (mn2 x2.N (x1.Log.length : Int)))), I y19, S x1.Snap, .slice a1 x1.Log.length c1] 71) :: dsl r_T_glacierref09_Entry a1 c1 x1.Log :: blk p23 (cl [I 0, I 0, I 0, I 0, S ([]), .slice none 0 0] 71) :: blk p22 (cl [I x2.Kind, I x2.N, I x2.M, S x2.S, .slice a2 x2.Texts.length c2, .slice a3 x2.Choice.length c3] 77) :: blk p21 (cl [I x1.Term, I x1.Vote, I x1.Base, I x1.BaseTerm, S x1.Snap, .slice a1 x1.Log.length c1] 71) :: dsl rS a2 c2 x2.Texts :: dsl (rI .i64) a3 c3 x2.Choice :: F)) ?_ ?_
        · rintro _ w ⟨b, rfl, hst⟩
          have hr := hk10
          refine wp_seq ?_
          refine wp_reg ?_
          refine L_pure 1 [(2, pt p21 0), (4, pt p23 0), (15, I (mn2 x2.N (x1.Log.length : Int))), (16, pt p40 0), (131, pt p22 3)] (by kernel_rfl) fun b => ?_
          refine L_op rfl (O_run (v := S x2.S) (w' := w) (R_load (hst.pull 3) rfl rfl) rfl rfl ?_)
          obtain ⟨y20, hy20, hr⟩ := bnd hr
          refine L_op rfl (O_call (vs := #[S x2.S, I 30]) Try.call13 (by kernel_rfl) (glacierlaw01_Cut_ok k x2.S 30 y20 hst hy20 fun w hst => ?_))
          refine CK_ret rfl ?_
          refine L_pure 1 [(2, pt p21 0), (4, pt p23 0), (15, I (mn2 x2.N (x1.Log.length : Int))), (16, pt p40 0), (133, S y20), (134, pt p40 4)] (by kernel_rfl) fun b => ?_
          refine L_op rfl (O_store [I x1.Term, I x1.Vote, I (IntKind.i64.wrap (x1.Base + (mn2 x2.N (x1.Log.length : Int)))), I y19, S y20, .slice a1 x1.Log.length c1] hst rfl rfl (by kernel_rfl) fun w hst => ?_)
          refine wpL_nil ?_
          refine th_n ?_
          refine wp_seq ?_
          refine wp_reg ?_
          refine L_pure 1 [(4, pt p23 0), (15, I (mn2 x2.N (x1.Log.length : Int))), (16, pt p40 0), (135, pt p21 5)] (by kernel_rfl) fun b => ?_
          refine L_op rfl (O_run (v := .slice a1 x1.Log.length c1) (w' := w) (R_load (hst.pull 4) rfl rfl) rfl rfl ?_)
          refine L_pure 1 [(4, pt p23 0), (16, pt p40 0), (136, .slice a1 x1.Log.length c1), (137, I (mn2 x2.N (x1.Log.length : Int)))] (by kernel_rfl) fun b => ?_
          obtain ⟨x18, hx16, hr⟩ := bnd hr
          refine L_op rfl (O_slice_d L69 (hst.pull 1) rfl rfl rfl hx16 rfl fun a51 c51 hst => ?_)
          refine L_pure 1 [(4, pt p23 0), (16, pt p40 0), (138, .slice a51 x18.length c51), (139, pt p40 5)] (by kernel_rfl) fun b => ?_
          refine L_op rfl (O_store [I x1.Term, I x1.Vote, I (IntKind.i64.wrap (x1.Base + (mn2 x2.N (x1.Log.length : Int)))), I y19, S y20, .slice a51 x18.length c51] (hst.pull 2) rfl rfl (by kernel_rfl) fun w hst => ?_)
          refine wpL_nil ?_
          refine th_n ?_
          refine wp_seq ?_
          refine wp_reg ?_
          refine L_op rfl (O_run (v := .agg #[I x1.Term, I x1.Vote, I (IntKind.i64.wrap (x1.Base + (mn2 x2.N (x1.Log.length : Int)))), I y19, S y20, .slice a51 x18.length c51]) (w' := w) (R_load hst rfl rfl) rfl rfl ?_)
          refine L_op rfl (O_store [I x1.Term, I x1.Vote, I (IntKind.i64.wrap (x1.Base + (mn2 x2.N (x1.Log.length : Int)))), I y19, S y20, .slice a51 x18.length c51] (hst.pull 3) rfl rfl (by kernel_rfl) fun w hst => ?_)
          refine L_pure 1 [(4, pt p23 0), (5, .slice none 0 0)] (by kernel_rfl) fun b => ?_
          refine wpL_nil ?_
          refine th_n ?_
          refine wp_ret ?_
          refine retCT (v := .agg #[I x1.Term, I x1.Vote, I (IntKind.i64.wrap (x1.Base + (mn2 x2.N (x1.Log.length : Int)))), I y19, S y20, .slice a51 x18.length c51]) (p := p23) (off := 0) (cs := [I x1.Term, I x1.Vote, I (IntKind.i64.wrap (x1.Base + (mn2 x2.N (x1.Log.length : Int)))), I y19, S y20, .slice a51 x18.length c51]) (T' := 71) rfl rfl hst (by kernel_rfl) rfl ?_
          obtain rfl := Option.some.inj hr
          have hst := osl_nil r_T_glacierref09_State 71 hst
          have hst := ((((((hst.pull 8).pull 8).pull 6).pull 3).pull 6).cut 5 4)
          exact hR a51 c51 none 0 _ hst
        · have hr := hy19
          refine wp_seq ?_
          refine wp_reg ?_
          refine L_pure 2 [(2, pt p21 0), (3, pt p22 0), (4, pt p23 0), (15, I (mn2 x2.N (x1.Log.length : Int))), (16, pt p40 0), (122, .bool (decide ((mn2 x2.N (x1.Log.length : Int)) > 0)))] (by kernel_rfl) fun b => ?_
          refine wpL_nil ?_
          refine th_n ?_
          refine wp_cond_mkF (t := decide ((mn2 x2.N (x1.Log.length : Int)) > 0)) rfl (fun h => ?_) (fun h => ?_)
          · have hr := (if_pos h).symm.trans hr
            refine wp_reg ?_
            refine L_pure 1 [(2, pt p21 0), (3, pt p22 0), (4, pt p23 0), (15, I (mn2 x2.N (x1.Log.length : Int))), (16, pt p40 0), (123, pt p21 5)] (by kernel_rfl) fun b => ?_
            refine L_op rfl (O_run (v := .slice a1 x1.Log.length c1) (w' := w) (R_load (hst.pull 3) rfl rfl) rfl rfl ?_)
            refine L_pure 2 [(2, pt p21 0), (3, pt p22 0), (4, pt p23 0), (15, I (mn2 x2.N (x1.Log.length : Int))), (16, pt p40 0), (124, .slice a1 x1.Log.length c1), (126, I (IntKind.i64.wrap ((mn2 x2.N (x1.Log.length : Int)) - 1)))] (by kernel_rfl) fun b => ?_
            obtain ⟨x17, hx15, hr⟩ := bnd hr
            refine L_op rfl (O_run (v := pt (ab a1) (ao a1 + (IntKind.i64.wrap ((mn2 x2.N (x1.Log.length : Int)) - 1)).toNat * 3)) (w' := w) (R_ia L69 rfl rfl (dsl_addr (hst.pull 4) hx15) (gt_some hx15).1 (gt_some hx15).2.1) rfl rfl ?_)
            refine L_pure 1 [(2, pt p21 0), (3, pt p22 0), (4, pt p23 0), (15, I (mn2 x2.N (x1.Log.length : Int))), (16, pt p40 0), (128, pt (ab a1) (ao a1 + (IntKind.i64.wrap ((mn2 x2.N (x1.Log.length : Int)) - 1)).toNat * 3 + 1))] (by kernel_rfl) fun b => ?_
            obtain ⟨q10, hc10, hst⟩ := dsl_cells (hst.pull 4) hx15
            have hst := hst.drop
            refine L_op rfl (O_run (v := I x17.Term) (w' := w) (R_loadAt (off := ao a1 + (IntKind.i64.wrap ((mn2 x2.N (x1.Log.length : Int)) - 1)).toNat * 3) (j := 1) hc10 rfl rfl) rfl rfl ?_)
            refine L_pure 1 [(2, pt p21 0), (3, pt p22 0), (4, pt p23 0), (15, I (mn2 x2.N (x1.Log.length : Int))), (16, pt p40 0), (129, I x17.Term), (130, pt p40 3)] (by kernel_rfl) fun b => ?_
            refine L_op rfl (O_store [I x1.Term, I x1.Vote, I (IntKind.i64.wrap (x1.Base + (mn2 x2.N (x1.Log.length : Int)))), I x17.Term, S x1.Snap, .slice a1 x1.Log.length c1] (hst.pull 1) rfl rfl (by kernel_rfl) fun w hst => ?_)
            refine wpL_nil ?_
            refine th_n ?_
            obtain rfl := Option.some.inj hr
            have hst := (((((((hst.pull 6).pull 6).pull 6).pull 6).pull 6).pull 6).pull 6)
            exact (kpX [(2, pt p21 0), (3, pt p22 0), (4, pt p23 0), (15, I (mn2 x2.N (x1.Log.length : Int))), (16, pt p40 0)] rfl hst)
          · have hr := (if_neg (by rw [h]; exact Bool.false_ne_true)).symm.trans hr
            refine wp_skip ?_
            refine th_n ?_
            obtain rfl := Option.some.inj hr
            have hst := (((((((hst.pull 6).pull 6).pull 5).pull 5).pull 5).pull 6).pull 6)
            exact (kpX [(2, pt p21 0), (3, pt p22 0), (4, pt p23 0), (15, I (mn2 x2.N (x1.Log.length : Int))), (16, pt p40 0)] rfl hst)
def glacierlaw09_entries_l1 (k : Nat) (x1 : (List T_glacierref09_Entry)) : Nat → (List T_term_Entry) → Int → Option ((List T_term_Entry))
  | 0, _, _ => none
  | j + 1, v7, v8 => (if decide (v8 < (x1.length : Int)) = true then (Option.bind (gt x1 v8) fun x3 => (if room (v7.length + ([(T_term_Entry.mk x3.Index x3.Term x3.Cmd)]).length) 32 = true then (glacierlaw09_entries_l1 k x1 j (v7 ++ ([(T_term_Entry.mk x3.Index x3.Term x3.Cmd)])) (IntKind.i64.wrap (v8 + 1))) else none)) else some (v7))
def glacierlaw09_entries (k : Nat) (x1 : (List T_glacierref09_Entry)) : Option ((List T_term_Entry)) := (Option.bind (glacierlaw09_entries_l1 k x1 k ([]) (0 : Int)) fun y2 => some (y2))
set_option maxRecDepth 100000 in
set_option maxHeartbeats 4000000 in
theorem glacierlaw09_entries_ok {G w : World} {F : List HP} {R : Ending → World → Prop} (k : Nat) (x1 : (List T_glacierref09_Entry)) (a1 : Option Addr) (c1 : Nat) (r : ((List T_term_Entry))) (hst : St G w (dsl r_T_glacierref09_Entry a1 c1 x1 :: F)) (hr : glacierlaw09_entries k x1 = some r)
    (hR : ∀ (a6 : Option Addr) (c6 : Nat) w', St G w' (osl r_T_term_Entry 52 a6 c6 r :: dsl r_T_glacierref09_Entry a1 c1 x1 :: F) → R (.returned (.slice a6 r.length c6)) w') :
    Calls Try.prog 36 #[.slice a1 x1.length c1] w R := by
  unfold glacierlaw09_entries at hr
  refine enter Try.func36 rfl [(0, .slice a1 x1.length c1)] rfl rfl fun b => ?_
  refine wp_seq ?_
  refine wp_reg ?_
  refine L_pure 1 [(0, .slice a1 x1.length c1)] (by kernel_rfl) fun b => ?_
  refine wpL_nil ?_
  refine th_n ?_
  refine wp_seq ?_
  refine wp_reg ?_
  refine L_op rfl (O_bs (T := 52) [] #[] hst (by kernel_rfl) (by kernel_rfl) rfl fun p4 w hst => ?_)
  have hst := osl_of_blk0 (ecs := []) r_T_term_Entry [] rfl (fun m => trivial) rfl hst
  refine L_pure 1 [(0, .slice a1 x1.length c1), (3, .slice (some ⟨p4, 0, none⟩) 0 0)] (by kernel_rfl) fun b => ?_
  refine wpL_nil ?_
  refine th_n ?_
  refine wp_seq ?_
  refine wp_seq ?_
  refine wp_reg ?_
  refine L_pure 3 [(3, .slice (some ⟨p4, 0, none⟩) 0 0), (7, .slice a1 x1.length c1), (8, I (x1.length : Int)), (9, I 0)] (by kernel_rfl) fun b => ?_
  refine wpL_nil ?_
  refine th_n ?_
  obtain ⟨y2, hy2, hk2⟩ := bnd hr
  clear hr
  refine Go.Hx.wp_cut (fun a w => ∃ (a9 : Option Addr) (c9 : Nat)(b : Nat → Value), a = mkF 19 b [(3, .slice a9 y2.length c9)] ∧ St G w (osl r_T_term_Entry 52 a9 c9 y2 :: dsl r_T_glacierref09_Entry a1 c1 x1 :: F)) ?_ ?_
  · rintro _ w ⟨a9, c9, b, rfl, hst⟩
    have hr := hk2
    refine th_n ?_
    refine wp_seq ?_
    refine wp_reg ?_
    refine L_pure 2 [(2, .slice a9 y2.length c9)] (by kernel_rfl) fun b => ?_
    refine wpL_nil ?_
    refine th_n ?_
    refine wp_ret ?_
    refine ret1 rfl rfl ?_
    obtain rfl := Option.some.inj hr
    have hst := ((hst.pull 1).pull 1)
    exact hR a9 c9 _ hst
  · have hst := ((hst.pull 1).pull 1)
    refine wp_block ?_
    refine wp_loop_fuel (fun j a w => ∃ (v7 : (List T_term_Entry)) (v8 : Int) (a7 : Option Addr) (c7 : Nat) (b : Nat → Value), a = mkF 19 b [(3, .slice a7 v7.length c7), (7, .slice a1 x1.length c1), (8, I (x1.length : Int)), (9, I v8)] ∧ St G w (osl r_T_term_Entry 52 a7 c7 v7 :: dsl r_T_glacierref09_Entry a1 c1 x1 :: F) ∧ glacierlaw09_entries_l1 k x1 j v7 v8 = some y2) (k := k) ⟨[], (0 : Int), (some ⟨p4, 0, none⟩), 0, (kpX [(3, .slice (some ⟨p4, 0, none⟩) 0 0), (7, .slice a1 x1.length c1), (8, I (x1.length : Int)), (9, I 0)] rfl ⟨hst, hy2⟩)⟩ ?_ ?_
    · rintro _ _ ⟨_, _, _, _, _, _, _, h⟩
      rw [glacierlaw09_entries_l1] at h
      cases h
    · rintro j _ w ⟨v7, v8, a7, c7, b, rfl, hst, hr⟩
      rw [glacierlaw09_entries_l1] at hr
      refine wp_seq ?_
      refine wp_reg ?_
      refine L_pure 1 [(3, .slice a7 v7.length c7), (7, .slice a1 x1.length c1), (8, I (x1.length : Int)), (9, I v8), (10, .bool (decide (v8 < (x1.length : Int))))] (by kernel_rfl) fun b => ?_
      refine wpL_nil ?_
      refine th_n ?_
      refine wp_seq ?_
      refine wp_cond_mkF (t := decide (v8 < (x1.length : Int))) rfl (fun h => ?_) (fun h => ?_)
      · have hr := (if_pos h).symm.trans hr
        refine wp_skip ?_
        refine th_n ?_
        refine wp_seq ?_
        refine wp_block ?_
        refine wp_seq ?_
        refine wp_reg ?_
        obtain ⟨x3, hx2, hr⟩ := bnd hr
        refine L_op rfl (O_run (v := pt (ab a1) (ao a1 + v8.toNat * 3)) (w' := w) (R_ia L69 rfl rfl (dsl_addr (hst.pull 1) hx2) (gt_some hx2).1 (gt_some hx2).2.1) rfl rfl ?_)
        obtain ⟨q2, hc2, hst⟩ := dsl_cells (hst.pull 1) hx2
        have hst := hst.drop
        refine L_op rfl (O_run (v := .agg #[I x3.Index, I x3.Term, S x3.Cmd]) (w' := w) (R_loadAt (off := ao a1 + v8.toNat * 3) (j := 0) hc2 rfl rfl) rfl rfl ?_)
        refine L_op rfl (O_alloc (i := Try.t119) (z := .agg #[I 0, I 0, S ([])]) [I 0, I 0, S ([])] hst rfl rfl rfl rfl fun p5 w hst => ?_)
        refine L_op rfl (O_store [I x3.Index, I x3.Term, S x3.Cmd] hst rfl rfl (by kernel_rfl) fun w hst => ?_)
        refine wpL_nil ?_
        refine th_n ?_
        refine wp_reg ?_
        refine L_pure 1 [(5, pt p5 0), (7, .slice a1 x1.length c1), (8, I (x1.length : Int)), (9, I v8), (13, .slice a7 v7.length c7)] (by kernel_rfl) fun b => ?_
        refine L_op rfl (O_run (v := .agg #[I x3.Index, I x3.Term, S x3.Cmd]) (w' := w) (R_load hst rfl rfl) rfl rfl ?_)
        refine L_op rfl (O_bs (T := 52) [I x3.Index, I x3.Term, S x3.Cmd] #[(0, .agg #[I x3.Index, I x3.Term, S x3.Cmd])] hst (by kernel_rfl) (by kernel_rfl) rfl fun p6 w hst => ?_)
        have hst := osl_of_blk0 (ecs := [[I x3.Index, I x3.Term, S x3.Cmd]]) r_T_term_Entry [(T_term_Entry.mk x3.Index x3.Term x3.Cmd)] rfl (fun m => ⟨⟨(), rfl, trivial⟩, trivial⟩) rfl hst
        obtain ⟨hb2, hr⟩ := chk hr
        refine L_op rfl (O_app_o L50 (hst.pull 3) rfl rfl hb2 rfl fun a10 c10 w hst => ?_)
        refine L_pure 1 [(3, .slice a10 (v7 ++ ([(T_term_Entry.mk x3.Index x3.Term x3.Cmd)])).length c10), (7, .slice a1 x1.length c1), (8, I (x1.length : Int)), (9, I v8)] (by kernel_rfl) fun b => ?_
        refine wpL_nil ?_
        refine ib_n (th_n ?_)
        refine wp_reg ?_
        refine L_pure 2 [(3, .slice a10 (v7 ++ ([(T_term_Entry.mk x3.Index x3.Term x3.Cmd)])).length c10), (7, .slice a1 x1.length c1), (8, I (x1.length : Int)), (9, I (IntKind.i64.wrap (v8 + 1)))] (by kernel_rfl) fun b => ?_
        refine wpL_nil ?_
        refine th_n ?_
        have hst := (((hst.pull 3).pull 1).cut 2 2)
        exact ⟨(v7 ++ ([(T_term_Entry.mk x3.Index x3.Term x3.Cmd)])), (IntKind.i64.wrap (v8 + 1)), a10, c10, (kpX [(3, .slice a10 (v7 ++ ([(T_term_Entry.mk x3.Index x3.Term x3.Cmd)])).length c10), (7, .slice a1 x1.length c1), (8, I (x1.length : Int)), (9, I (IntKind.i64.wrap (v8 + 1)))] rfl ⟨hst, hr⟩)⟩
      · have hr := (if_neg (by rw [h]; exact Bool.false_ne_true)).symm.trans hr
        refine wp_exit ?_
        refine th_x (th_x (ib_x (th_n ?_)))
        obtain rfl := Option.some.inj hr
        have hst := ((hst.pull 1).pull 1)
        exact ⟨a7, c7, (kpX [(3, .slice a7 v7.length c7)] rfl hst)⟩
def meter_Pick (_k : Nat) (x1 : (List Int)) (x2 : Int) (x3 : Int) : Option (Int) := (Option.bind (if decide (x2 < 0) = true then some (true) else (if decide (x2 ≥ (x1.length : Int)) = true then some (true) else some (decide (x3 < 1)))) fun y3 => (if y3 = true then some ((0 : Int)) else (Option.bind (gt x1 x2) fun x5 => (if x3 ≠ 0 then (Option.bind (if decide ((x5.tmod x3) < 0) = true then some ((IntKind.i64.wrap ((x5.tmod x3) + x3))) else some ((x5.tmod x3))) fun y4 => some (y4)) else none))))
set_option maxRecDepth 100000 in
set_option maxHeartbeats 4000000 in
theorem meter_Pick_ok {G w : World} {F : List HP} {R : Ending → World → Prop} (k : Nat) (x1 : (List Int)) (x2 : Int) (x3 : Int) (a1 : Option Addr) (c1 : Nat) (r : (Int)) (hst : St G w (osl (rI .i64) 3 a1 c1 x1 :: F)) (hr : meter_Pick k x1 x2 x3 = some r)
    (hR : ∀ w', St G w' (osl (rI .i64) 3 a1 c1 x1 :: F) → R (.returned (I r)) w') :
    Calls Try.prog 64 #[.slice a1 x1.length c1, I x2, I x3] w R := by
  unfold meter_Pick at hr
  refine enter Try.func64 rfl [(0, .slice a1 x1.length c1), (1, I x2), (2, I x3)] rfl rfl fun b => ?_
  refine wp_seq ?_
  refine wp_reg ?_
  refine L_pure 1 [(0, .slice a1 x1.length c1), (1, I x2), (2, I x3)] (by kernel_rfl) fun b => ?_
  refine wpL_nil ?_
  refine th_n ?_
  refine wp_seq ?_
  obtain ⟨y3, hy3, hk3⟩ := bnd hr
  clear hr
  refine wp_seq_cut (fun a w => ∃ (b : Nat → Value), a = mkF 32 b [(0, .slice a1 x1.length c1), (1, I x2), (2, I x3), (19, .bool y3)] ∧ St G w (osl (rI .i64) 3 a1 c1 x1 :: F)) ?_ ?_
  · rintro _ w ⟨b, rfl, hst⟩
    have hr := hk3
    refine wp_cond_mkF (t := y3) rfl (fun h => ?_) (fun h => ?_)
    · have hr := (if_pos h).symm.trans hr
      refine wp_seq ?_
      refine wp_reg ?_
      refine L_pure 1 [(6, I 0)] (by kernel_rfl) fun b => ?_
      refine wpL_nil ?_
      refine th_n ?_
      refine wp_ret ?_
      refine th_r ?_
      refine ret1 rfl rfl ?_
      obtain rfl := Option.some.inj hr
      exact hR _ hst
    · have hr := (if_neg (by rw [h]; exact Bool.false_ne_true)).symm.trans hr
      refine wp_skip ?_
      refine th_n ?_
      refine wp_seq ?_
      refine wp_reg ?_
      refine L_pure 2 [(2, I x3), (20, .slice a1 x1.length c1), (21, I x2)] (by kernel_rfl) fun b => ?_
      obtain ⟨x5, hx2, hr⟩ := bnd hr
      refine L_op rfl (O_run (v := pt (ab a1) (ao a1 + x2.toNat * 1)) (w' := w) (R_ia L30 rfl rfl (osl_addr hst hx2) (gt_some hx2).1 (gt_some hx2).2.1) rfl rfl ?_)
      obtain ⟨q2, hc2, hst⟩ := osl_cells hst hx2
      have hst := hst.drop
      refine L_op rfl (O_run (v := I x5) (w' := w) (R_loadAt (off := ao a1 + x2.toNat * 1) (j := 0) hc2 rfl rfl) rfl rfl ?_)
      refine L_pure 1 [(2, I x3), (23, I x5), (24, I x3)] (by kernel_rfl) fun b => ?_
      obtain ⟨hy2, hr⟩ := chk hr
      refine L_op rfl (O_run (v := I (x5.tmod x3)) (w' := w) (R_rem rfl rfl hy2) rfl rfl ?_)
      refine L_pure 1 [(2, I x3), (7, I (x5.tmod x3))] (by kernel_rfl) fun b => ?_
      refine wpL_nil ?_
      refine th_n ?_
      obtain ⟨y4, hy4, hk4⟩ := bnd hr
      clear hr
      refine wp_seq_cut (fun a w => ∃ (b : Nat → Value), a = mkF 32 b [(7, I y4)] ∧ St G w (osl (rI .i64) 3 a1 c1 x1 :: F)) ?_ ?_
      · rintro _ w ⟨b, rfl, hst⟩
        have hr := hk4
        refine wp_seq ?_
        refine wp_reg ?_
        refine L_pure 2 [(6, I y4)] (by kernel_rfl) fun b => ?_
        refine wpL_nil ?_
        refine th_n ?_
        refine wp_ret ?_
        refine ret1 rfl rfl ?_
        obtain rfl := Option.some.inj hr
        exact hR _ hst
      · have hr := hy4
        refine wp_seq ?_
        refine wp_reg ?_
        refine L_pure 2 [(2, I x3), (7, I (x5.tmod x3)), (27, .bool (decide ((x5.tmod x3) < 0)))] (by kernel_rfl) fun b => ?_
        refine wpL_nil ?_
        refine th_n ?_
        refine wp_cond_mkF (t := decide ((x5.tmod x3) < 0)) rfl (fun h => ?_) (fun h => ?_)
        · have hr := (if_pos h).symm.trans hr
          refine wp_reg ?_
          refine L_pure 4 [(7, I (IntKind.i64.wrap ((x5.tmod x3) + x3)))] (by kernel_rfl) fun b => ?_
          refine wpL_nil ?_
          refine th_n ?_
          obtain rfl := Option.some.inj hr
          exact (kpX [(7, I (IntKind.i64.wrap ((x5.tmod x3) + x3)))] rfl hst)
        · have hr := (if_neg (by rw [h]; exact Bool.false_ne_true)).symm.trans hr
          refine wp_skip ?_
          refine th_n ?_
          obtain rfl := Option.some.inj hr
          exact (kpX [(7, I (x5.tmod x3))] rfl hst)
  · have hr := hy3
    refine wp_reg ?_
    refine L_pure 3 [(0, .slice a1 x1.length c1), (1, I x2), (2, I x3), (10, .bool (decide (x2 < 0)))] (by kernel_rfl) fun b => ?_
    by_cases h : (decide (x2 < 0)) = true
    · have hr := (if_pos h).symm.trans hr
      refine L_keep ((10, .bool (decide (x2 < 0))) :: [(0, .slice a1 x1.length c1), (1, I x2), (2, I x3)]) rfl fun b => ?_
      refine L_bool h ?_
      refine L_pure 9 [(0, .slice a1 x1.length c1), (1, I x2), (2, I x3), (19, .bool true)] (by kernel_rfl) fun b => ?_
      refine wpL_nil ?_
      refine th_n ?_
      obtain rfl := Option.some.inj hr
      exact (kpX [(0, .slice a1 x1.length c1), (1, I x2), (2, I x3), (19, .bool true)] rfl hst)
    · have hr := (if_neg h).symm.trans hr
      refine L_keep ((10, .bool (decide (x2 < 0))) :: [(0, .slice a1 x1.length c1), (1, I x2), (2, I x3)]) rfl fun b => ?_
      refine L_bool (eq_false_of_ne_true h) ?_
      refine L_pure 6 [(0, .slice a1 x1.length c1), (1, I x2), (2, I x3), (16, .bool (decide (x2 ≥ (x1.length : Int))))] (by kernel_rfl) fun b => ?_
      by_cases h : (decide (x2 ≥ (x1.length : Int))) = true
      · have hr := (if_pos h).symm.trans hr
        refine L_keep ((16, .bool (decide (x2 ≥ (x1.length : Int)))) :: [(0, .slice a1 x1.length c1), (1, I x2), (2, I x3)]) rfl fun b => ?_
        refine L_bool h ?_
        refine L_pure 3 [(0, .slice a1 x1.length c1), (1, I x2), (2, I x3), (19, .bool true)] (by kernel_rfl) fun b => ?_
        refine wpL_nil ?_
        refine th_n ?_
        obtain rfl := Option.some.inj hr
        exact (kpX [(0, .slice a1 x1.length c1), (1, I x2), (2, I x3), (19, .bool true)] rfl hst)
      · have hr := (if_neg h).symm.trans hr
        refine L_keep ((16, .bool (decide (x2 ≥ (x1.length : Int)))) :: [(0, .slice a1 x1.length c1), (1, I x2), (2, I x3)]) rfl fun b => ?_
        refine L_bool (eq_false_of_ne_true h) ?_
        refine L_pure 3 [(0, .slice a1 x1.length c1), (1, I x2), (2, I x3), (19, .bool (decide (x3 < 1)))] (by kernel_rfl) fun b => ?_
        refine wpL_nil ?_
        refine th_n ?_
        obtain rfl := Option.some.inj hr
        exact (kpX [(0, .slice a1 x1.length c1), (1, I x2), (2, I x3), (19, .bool (decide (x3 < 1)))] rfl hst)
def platter_file_left (k : Nat) (x1 : (Option T_platter_file)) (x2 : Int) : Option (T_platter_text) := (Option.bind x1 fun x6 => (if (decide (x6.now = x6.safe)) = true then some (x6.safe) else (Option.bind (if x6.now.there = true then (if decide ((x6.now.s.length : Int) > (x6.safe.s.length : Int)) = true then (Option.bind (sl x6.now.s 0 (x6.safe.s.length : Int)) fun x7 => some ((sEq x7 x6.safe.s))) else some (false)) else some (false)) fun y4 => (if y4 = true then (Option.bind (meter_Pick k ([x2]) 0 (IntKind.i64.wrap ((IntKind.i64.wrap ((x6.now.s.length : Int) - (x6.safe.s.length : Int))) + 1))) fun y5 => (if (y5 == 0) = true then some (x6.safe) else (Option.bind (sl x6.now.s 0 (IntKind.i64.wrap ((x6.safe.s.length : Int) + y5))) fun x8 => some ((T_platter_text.mk true x8))))) else (Option.bind (meter_Pick k ([x2]) 0 2) fun y6 => (if (y6 == 0) = true then some (x6.safe) else some (x6.now)))))))
set_option maxRecDepth 100000 in
set_option maxHeartbeats 4000000 in
theorem platter_file_left_ok {G w : World} {F : List HP} {R : Ending → World → Prop} (k : Nat) (x1 : (Option T_platter_file)) (x2 : Int) (a1 : Option Addr) (r : (T_platter_text)) (hst : St G w (dpt r_T_platter_file a1 x1 :: F)) (hr : platter_file_left k x1 x2 = some r)
    (hR : ∀ w', St G w' (dpt r_T_platter_file a1 x1 :: F) → R (.returned (.agg #[.bool r.there, S r.s])) w') :
    Calls Try.prog 45 #[.pointer a1, I x2] w R := by
  unfold platter_file_left at hr
  refine enter Try.func45 rfl [(0, .pointer a1), (1, I x2)] rfl rfl fun b => ?_
  refine wp_seq ?_
  refine wp_reg ?_
  refine L_op rfl (O_alloc (i := Try.t86) (z := .agg #[.bool false, S ([])]) [.bool false, S ([])] hst rfl rfl rfl rfl fun p4 w hst => ?_)
  refine wpL_nil ?_
  refine th_n ?_
  refine wp_seq ?_
  refine wp_seq ?_
  refine wp_regG (SN { w with drawn := w.drawn + 1 }) rfl ?_
  have hst := hst.draw (n := w.drawn + 1)
  generalize { w with drawn := w.drawn + 1 } = w at hst ⊢
  refine C_take (i := 0) (v := .pointer a1) rfl (by kernel_rfl) (fun _ _ _ h => h) rfl rfl rfl (R_pure (by kernel_rfl)) ?_
  obtain ⟨x6, hx4, hr⟩ := bnd hr
  have hst := dpt_pick hx4 (hst.pull 1)
  refine C_take (i := 1) (v := pt (ab a1) (ao a1 + (0 : Int).toNat * 4)) rfl (by kernel_rfl) (fun _ _ _ h => h) rfl rfl rfl (R_nilc hst rfl) ?_
  refine C_take (i := 2) (v := pt (ab a1) (ao a1 + (0 : Int).toNat * 4)) rfl (by kernel_rfl) (fun _ _ _ h => h) rfl rfl rfl (R_pure (by kernel_rfl)) ?_
  obtain ⟨q14, hc14, hst⟩ := dsl_cells hst (show gt [x6] 0 = some x6 from rfl)
  have hst := hst.drop
  refine C_take (i := 3) (v := .agg #[.bool x6.now.there, S x6.now.s]) rfl (by kernel_rfl) (fun _ _ _ h => h) rfl rfl rfl (R_loadAt (off := ao a1 + (0 : Int).toNat * 4) (j := 0) hc14 rfl rfl) ?_
  refine C_take (i := 4) (v := .pointer a1) rfl (by kernel_rfl) (fun _ _ _ h => h) rfl rfl rfl (R_pure (by kernel_rfl)) ?_
  refine C_take (i := 5) (v := pt (ab a1) (ao a1 + (0 : Int).toNat * 4)) rfl (by kernel_rfl) (fun _ _ _ h => h) rfl rfl rfl (R_nilc hst rfl) ?_
  refine C_take (i := 6) (v := pt (ab a1) (ao a1 + (0 : Int).toNat * 4 + 2)) rfl (by kernel_rfl) (fun _ _ _ h => h) rfl rfl rfl (R_pure (by kernel_rfl)) ?_
  obtain ⟨q15, hc15, hst⟩ := dsl_cells hst (show gt [x6] 0 = some x6 from rfl)
  have hst := hst.drop
  refine C_take (i := 7) (v := .agg #[.bool x6.safe.there, S x6.safe.s]) rfl (by kernel_rfl) (fun _ _ _ h => h) rfl rfl rfl (R_loadAt (off := ao a1 + (0 : Int).toNat * 4) (j := 2) hc15 rfl rfl) ?_
  refine C_take (i := 8) (v := .bool (decide (x6.now = x6.safe))) rfl (by kernel_rfl) (fun _ _ _ h => h) rfl rfl rfl (R_seq rfl rfl G86 (EQ86 x6.now x6.safe _)) ?_
  refine wpG_done (by kernel_rfl) ?_ _
  refine C_keepQ [(0, .pointer a1), (1, I x2), (4, pt p4 0), (15, .bool (decide (x6.now = x6.safe)))] rfl fun b => ?_
  refine th_n ?_
  refine wp_cond_mkF (t := (decide (x6.now = x6.safe))) rfl (fun h => ?_) (fun h => ?_)
  · have hr := (if_pos h).symm.trans hr
    refine wp_seq ?_
    refine wp_reg ?_
    refine L_pure 1 [(4, pt p4 0), (16, .pointer a1)] (by kernel_rfl) fun b => ?_
    refine L_op rfl (O_run (v := pt (ab a1) (ao a1 + (0 : Int).toNat * 4)) (w' := w) (R_nilc hst rfl) rfl rfl ?_)
    refine L_pure 1 [(4, pt p4 0), (18, pt (ab a1) (ao a1 + (0 : Int).toNat * 4 + 2))] (by kernel_rfl) fun b => ?_
    obtain ⟨q16, hc16, hst⟩ := dsl_cells hst (show gt [x6] 0 = some x6 from rfl)
    have hst := hst.drop
    refine L_op rfl (O_run (v := .agg #[.bool x6.safe.there, S x6.safe.s]) (w' := w) (R_loadAt (off := ao a1 + (0 : Int).toNat * 4) (j := 2) hc16 rfl rfl) rfl rfl ?_)
    refine L_op rfl (O_store [.bool x6.safe.there, S x6.safe.s] (hst.pull 2) rfl rfl (by kernel_rfl) fun w hst => ?_)
    refine wpL_nil ?_
    refine th_n ?_
    refine wp_ret ?_
    refine th_r ?_
    refine retC (v := .agg #[.bool x6.safe.there, S x6.safe.s]) (p := p4) (off := 0) (cs := [.bool x6.safe.there, S x6.safe.s]) (T' := 86) rfl rfl hst (by kernel_rfl) ?_
    obtain rfl := Option.some.inj hr
    have hst := ((hst.pull 2).cut 1 2)
    exact hR _ hst
  · have hr := (if_neg (by rw [h]; exact Bool.false_ne_true)).symm.trans hr
    refine wp_skip ?_
    refine th_n ?_
    refine wp_seq ?_
    refine wp_reg ?_
    refine L_pure 1 [(0, .pointer a1), (1, I x2), (4, pt p4 0), (20, .pointer a1)] (by kernel_rfl) fun b => ?_
    refine L_op rfl (O_run (v := pt (ab a1) (ao a1 + (0 : Int).toNat * 4)) (w' := w) (R_nilc hst rfl) rfl rfl ?_)
    refine L_pure 2 [(0, .pointer a1), (1, I x2), (4, pt p4 0), (23, pt (ab a1) (ao a1 + (0 : Int).toNat * 4 + 3))] (by kernel_rfl) fun b => ?_
    obtain ⟨q17, hc17, hst⟩ := dsl_cells hst (show gt [x6] 0 = some x6 from rfl)
    have hst := hst.drop
    refine L_op rfl (O_run (v := S x6.safe.s) (w' := w) (R_loadAt (off := ao a1 + (0 : Int).toNat * 4) (j := 3) hc17 rfl rfl) rfl rfl ?_)
    refine L_pure 2 [(0, .pointer a1), (1, I x2), (4, pt p4 0), (5, I (x6.safe.s.length : Int))] (by kernel_rfl) fun b => ?_
    refine wpL_nil ?_
    refine th_n ?_
    refine wp_seq ?_
    obtain ⟨y4, hy4, hk2⟩ := bnd hr
    clear hr
    refine wp_seq_cut (fun a w => ∃ (b : Nat → Value), a = mkF 96 b [(0, .pointer a1), (1, I x2), (4, pt p4 0), (5, I (x6.safe.s.length : Int)), (55, .bool y4)] ∧ St G w (dsl r_T_platter_file a1 1 ([x6]) :: dpt r_T_platter_file a1 x1 :: blk p4 (cl [.bool false, S ([])] 86) :: F)) ?_ ?_
    · rintro _ w ⟨b, rfl, hst⟩
      have hr := hk2
      refine wp_cond_mkF (t := y4) rfl (fun h => ?_) (fun h => ?_)
      · have hr := (if_pos h).symm.trans hr
        refine wp_seq ?_
        refine wp_reg ?_
        refine L_pure 1 [(0, .pointer a1), (4, pt p4 0), (5, I (x6.safe.s.length : Int)), (56, I x2)] (by kernel_rfl) fun b => ?_
        refine L_op rfl (O_bs (T := 3) [I x2] #[(0, I x2)] hst (by kernel_rfl) (by kernel_rfl) rfl fun p5 w hst => ?_)
        have hst := osl_of_blk0 (ecs := [[I x2]]) (rI .i64) [x2] rfl (fun m => ⟨⟨(), rfl, trivial⟩, trivial⟩) rfl hst
        refine L_pure 1 [(0, .pointer a1), (4, pt p4 0), (5, I (x6.safe.s.length : Int)), (57, .slice (some ⟨p5, 0, none⟩) ([x2]).length 1), (58, .pointer a1)] (by kernel_rfl) fun b => ?_
        refine L_op rfl (O_run (v := pt (ab a1) (ao a1 + (0 : Int).toNat * 4)) (w' := w) (R_nilc (hst.pull 1) rfl) rfl rfl ?_)
        refine L_pure 2 [(0, .pointer a1), (4, pt p4 0), (5, I (x6.safe.s.length : Int)), (57, .slice (some ⟨p5, 0, none⟩) ([x2]).length 1), (61, pt (ab a1) (ao a1 + (0 : Int).toNat * 4 + 1))] (by kernel_rfl) fun b => ?_
        obtain ⟨q22, hc22, hst⟩ := dsl_cells (hst.pull 1) (show gt [x6] 0 = some x6 from rfl)
        have hst := hst.drop
        refine L_op rfl (O_run (v := S x6.now.s) (w' := w) (R_loadAt (off := ao a1 + (0 : Int).toNat * 4) (j := 1) hc22 rfl rfl) rfl rfl ?_)
        refine L_pure 4 [(0, .pointer a1), (4, pt p4 0), (5, I (x6.safe.s.length : Int)), (57, .slice (some ⟨p5, 0, none⟩) ([x2]).length 1), (66, I (IntKind.i64.wrap ((IntKind.i64.wrap ((x6.now.s.length : Int) - (x6.safe.s.length : Int))) + 1)))] (by kernel_rfl) fun b => ?_
        obtain ⟨y5, hy5, hr⟩ := bnd hr
        refine L_op rfl (O_call (vs := #[.slice (some ⟨p5, 0, none⟩) ([x2]).length 1, I 0, I (IntKind.i64.wrap ((IntKind.i64.wrap ((x6.now.s.length : Int) - (x6.safe.s.length : Int))) + 1))]) Try.call64 (by kernel_rfl) (meter_Pick_ok k ([x2]) 0 (IntKind.i64.wrap ((IntKind.i64.wrap ((x6.now.s.length : Int) - (x6.safe.s.length : Int))) + 1)) (some ⟨p5, 0, none⟩) 1 y5 (hst.pull 1) hy5 fun w hst => ?_))
        refine CK_ret rfl ?_
        refine L_pure 1 [(0, .pointer a1), (4, pt p4 0), (5, I (x6.safe.s.length : Int)), (6, I y5)] (by kernel_rfl) fun b => ?_
        refine wpL_nil ?_
        refine th_n ?_
        refine wp_seq ?_
        refine wp_seq ?_
        refine wp_reg ?_
        refine L_pure 2 [(0, .pointer a1), (4, pt p4 0), (5, I (x6.safe.s.length : Int)), (6, I y5), (69, .bool (y5 == 0))] (by kernel_rfl) fun b => ?_
        refine wpL_nil ?_
        refine th_n ?_
        refine wp_cond_mkF (t := (y5 == 0)) rfl (fun h => ?_) (fun h => ?_)
        · have hr := (if_pos h).symm.trans hr
          refine wp_seq ?_
          refine wp_reg ?_
          refine L_pure 1 [(4, pt p4 0), (70, .pointer a1)] (by kernel_rfl) fun b => ?_
          refine L_op rfl (O_run (v := pt (ab a1) (ao a1 + (0 : Int).toNat * 4)) (w' := w) (R_nilc (hst.pull 1) rfl) rfl rfl ?_)
          refine L_pure 1 [(4, pt p4 0), (72, pt (ab a1) (ao a1 + (0 : Int).toNat * 4 + 2))] (by kernel_rfl) fun b => ?_
          obtain ⟨q23, hc23, hst⟩ := dsl_cells (hst.pull 1) (show gt [x6] 0 = some x6 from rfl)
          have hst := hst.drop
          refine L_op rfl (O_run (v := .agg #[.bool x6.safe.there, S x6.safe.s]) (w' := w) (R_loadAt (off := ao a1 + (0 : Int).toNat * 4) (j := 2) hc23 rfl rfl) rfl rfl ?_)
          refine L_op rfl (O_store [.bool x6.safe.there, S x6.safe.s] (hst.pull 3) rfl rfl (by kernel_rfl) fun w hst => ?_)
          refine wpL_nil ?_
          refine th_n ?_
          refine wp_ret ?_
          refine th_r (th_r ?_)
          refine retC (v := .agg #[.bool x6.safe.there, S x6.safe.s]) (p := p4) (off := 0) (cs := [.bool x6.safe.there, S x6.safe.s]) (T' := 86) rfl rfl hst (by kernel_rfl) ?_
          obtain rfl := Option.some.inj hr
          have hst := ((hst.pull 3).cut 1 3)
          exact hR _ hst
        · have hr := (if_neg (by rw [h]; exact Bool.false_ne_true)).symm.trans hr
          refine wp_skip ?_
          refine th_n ?_
          refine wp_seq ?_
          refine wp_reg ?_
          refine L_pure 1 [(4, pt p4 0), (5, I (x6.safe.s.length : Int)), (6, I y5), (74, .pointer a1)] (by kernel_rfl) fun b => ?_
          refine L_op rfl (O_run (v := pt (ab a1) (ao a1 + (0 : Int).toNat * 4)) (w' := w) (R_nilc (hst.pull 1) rfl) rfl rfl ?_)
          refine L_pure 2 [(4, pt p4 0), (5, I (x6.safe.s.length : Int)), (6, I y5), (77, pt (ab a1) (ao a1 + (0 : Int).toNat * 4 + 1))] (by kernel_rfl) fun b => ?_
          obtain ⟨q24, hc24, hst⟩ := dsl_cells (hst.pull 1) (show gt [x6] 0 = some x6 from rfl)
          have hst := hst.drop
          refine L_op rfl (O_run (v := S x6.now.s) (w' := w) (R_loadAt (off := ao a1 + (0 : Int).toNat * 4) (j := 1) hc24 rfl rfl) rfl rfl ?_)
          refine L_pure 3 [(4, pt p4 0), (78, S x6.now.s), (81, I (IntKind.i64.wrap ((x6.safe.s.length : Int) + y5)))] (by kernel_rfl) fun b => ?_
          obtain ⟨x8, hx6, hr⟩ := bnd hr
          refine L_op rfl (O_run (v := S x8) (w' := w) (R_slice_s Try.underlying9 rfl rfl rfl hx6) rfl rfl ?_)
          refine L_pure 1 [(4, pt p4 0), (83, .agg #[.bool true, S x8])] (by kernel_rfl) fun b => ?_
          refine L_op rfl (O_store [.bool true, S x8] (hst.pull 3) rfl rfl (by kernel_rfl) fun w hst => ?_)
          refine wpL_nil ?_
          refine th_n ?_
          refine wp_ret ?_
          refine th_r ?_
          refine retC (v := .agg #[.bool true, S x8]) (p := p4) (off := 0) (cs := [.bool true, S x8]) (T' := 86) rfl rfl hst (by kernel_rfl) ?_
          obtain rfl := Option.some.inj hr
          have hst := ((hst.pull 3).cut 1 3)
          exact hR _ hst
      · have hr := (if_neg (by rw [h]; exact Bool.false_ne_true)).symm.trans hr
        refine wp_skip ?_
        refine th_n ?_
        refine wp_seq ?_
        refine wp_seq ?_
        refine wp_reg ?_
        refine L_pure 1 [(0, .pointer a1), (4, pt p4 0), (84, I x2)] (by kernel_rfl) fun b => ?_
        refine L_op rfl (O_bs (T := 3) [I x2] #[(0, I x2)] hst (by kernel_rfl) (by kernel_rfl) rfl fun p6 w hst => ?_)
        have hst := osl_of_blk0 (ecs := [[I x2]]) (rI .i64) [x2] rfl (fun m => ⟨⟨(), rfl, trivial⟩, trivial⟩) rfl hst
        obtain ⟨y6, hy6, hr⟩ := bnd hr
        refine L_op rfl (O_call (vs := #[.slice (some ⟨p6, 0, none⟩) ([x2]).length 1, I 0, I 2]) Try.call64 (by kernel_rfl) (meter_Pick_ok k ([x2]) 0 2 (some ⟨p6, 0, none⟩) 1 y6 hst hy6 fun w hst => ?_))
        refine CK_ret rfl ?_
        refine L_pure 1 [(0, .pointer a1), (4, pt p4 0), (87, .bool (y6 == 0))] (by kernel_rfl) fun b => ?_
        refine wpL_nil ?_
        refine th_n ?_
        refine wp_cond_mkF (t := (y6 == 0)) rfl (fun h => ?_) (fun h => ?_)
        · have hr := (if_pos h).symm.trans hr
          refine wp_seq ?_
          refine wp_reg ?_
          refine L_pure 1 [(4, pt p4 0), (88, .pointer a1)] (by kernel_rfl) fun b => ?_
          refine L_op rfl (O_run (v := pt (ab a1) (ao a1 + (0 : Int).toNat * 4)) (w' := w) (R_nilc (hst.pull 1) rfl) rfl rfl ?_)
          refine L_pure 1 [(4, pt p4 0), (90, pt (ab a1) (ao a1 + (0 : Int).toNat * 4 + 2))] (by kernel_rfl) fun b => ?_
          obtain ⟨q25, hc25, hst⟩ := dsl_cells (hst.pull 1) (show gt [x6] 0 = some x6 from rfl)
          have hst := hst.drop
          refine L_op rfl (O_run (v := .agg #[.bool x6.safe.there, S x6.safe.s]) (w' := w) (R_loadAt (off := ao a1 + (0 : Int).toNat * 4) (j := 2) hc25 rfl rfl) rfl rfl ?_)
          refine L_op rfl (O_store [.bool x6.safe.there, S x6.safe.s] (hst.pull 3) rfl rfl (by kernel_rfl) fun w hst => ?_)
          refine wpL_nil ?_
          refine th_n ?_
          refine wp_ret ?_
          refine th_r ?_
          refine retC (v := .agg #[.bool x6.safe.there, S x6.safe.s]) (p := p4) (off := 0) (cs := [.bool x6.safe.there, S x6.safe.s]) (T' := 86) rfl rfl hst (by kernel_rfl) ?_
          obtain rfl := Option.some.inj hr
          have hst := ((hst.pull 3).cut 1 3)
          exact hR _ hst
        · have hr := (if_neg (by rw [h]; exact Bool.false_ne_true)).symm.trans hr
          refine wp_skip ?_
          refine th_n ?_
          refine wp_seq ?_
          refine wp_reg ?_
          refine L_pure 1 [(4, pt p4 0), (92, .pointer a1)] (by kernel_rfl) fun b => ?_
          refine L_op rfl (O_run (v := pt (ab a1) (ao a1 + (0 : Int).toNat * 4)) (w' := w) (R_nilc (hst.pull 1) rfl) rfl rfl ?_)
          refine L_pure 1 [(4, pt p4 0), (94, pt (ab a1) (ao a1 + (0 : Int).toNat * 4))] (by kernel_rfl) fun b => ?_
          obtain ⟨q26, hc26, hst⟩ := dsl_cells (hst.pull 1) (show gt [x6] 0 = some x6 from rfl)
          have hst := hst.drop
          refine L_op rfl (O_run (v := .agg #[.bool x6.now.there, S x6.now.s]) (w' := w) (R_loadAt (off := ao a1 + (0 : Int).toNat * 4) (j := 0) hc26 rfl rfl) rfl rfl ?_)
          refine L_op rfl (O_store [.bool x6.now.there, S x6.now.s] (hst.pull 3) rfl rfl (by kernel_rfl) fun w hst => ?_)
          refine wpL_nil ?_
          refine th_n ?_
          refine wp_ret ?_
          refine retC (v := .agg #[.bool x6.now.there, S x6.now.s]) (p := p4) (off := 0) (cs := [.bool x6.now.there, S x6.now.s]) (T' := 86) rfl rfl hst (by kernel_rfl) ?_
          obtain rfl := Option.some.inj hr
          have hst := ((hst.pull 3).cut 1 3)
          exact hR _ hst
    · have hr := hy4
      refine wp_regG (SN { w with drawn := w.drawn + 1 }) rfl ?_
      have hst := hst.draw (n := w.drawn + 1)
      generalize { w with drawn := w.drawn + 1 } = w at hst ⊢
      refine C_take (i := 0) (v := .pointer a1) rfl (by kernel_rfl) (fun _ _ _ h => h) rfl rfl rfl (R_pure (by kernel_rfl)) ?_
      refine C_take (i := 1) (v := pt (ab a1) (ao a1 + (0 : Int).toNat * 4)) rfl (by kernel_rfl) (fun _ _ _ h => h) rfl rfl rfl (R_nilc hst rfl) ?_
      refine C_take (i := 2) (v := pt (ab a1) (ao a1 + (0 : Int).toNat * 4)) rfl (by kernel_rfl) (fun _ _ _ h => h) rfl rfl rfl (R_pure (by kernel_rfl)) ?_
      refine C_take (i := 3) (v := pt (ab a1) (ao a1 + (0 : Int).toNat * 4)) rfl (by kernel_rfl) (fun _ _ _ h => h) rfl rfl rfl (R_pure (by kernel_rfl)) ?_
      obtain ⟨q18, hc18, hst⟩ := dsl_cells hst (show gt [x6] 0 = some x6 from rfl)
      have hst := hst.drop
      refine C_take (i := 4) (v := .bool x6.now.there) rfl (by kernel_rfl) (fun _ _ _ h => h) rfl rfl rfl (R_loadAt (off := ao a1 + (0 : Int).toNat * 4) (j := 0) hc18 rfl rfl) ?_
      refine C_take (i := 5) (v := .bool x6.now.there) rfl (by kernel_rfl) (fun _ _ _ h => h) rfl rfl rfl (R_pure (by kernel_rfl)) ?_
      by_cases h : x6.now.there = true
      · have hr := (if_pos h).symm.trans hr
        refine C_keep ((31, .bool x6.now.there) :: [(0, .pointer a1), (1, I x2), (4, pt p4 0), (5, I (x6.safe.s.length : Int)), (26, .pointer a1), (27, pt (ab a1) (ao a1 + (0 : Int).toNat * 4)), (28, pt (ab a1) (ao a1 + (0 : Int).toNat * 4)), (29, pt (ab a1) (ao a1 + (0 : Int).toNat * 4)), (30, .bool x6.now.there)]) rfl fun b => ?_
        refine C_bool h ?_
        refine C_take (i := 6) (v := .pointer a1) rfl (by kernel_rfl) (fun _ _ _ h => h) rfl rfl rfl (R_pure (by kernel_rfl)) ?_
        refine C_take (i := 7) (v := pt (ab a1) (ao a1 + (0 : Int).toNat * 4)) rfl (by kernel_rfl) (fun _ _ _ h => h) rfl rfl rfl (R_nilc hst rfl) ?_
        refine C_take (i := 8) (v := pt (ab a1) (ao a1 + (0 : Int).toNat * 4)) rfl (by kernel_rfl) (fun _ _ _ h => h) rfl rfl rfl (R_pure (by kernel_rfl)) ?_
        refine C_take (i := 9) (v := pt (ab a1) (ao a1 + (0 : Int).toNat * 4 + 1)) rfl (by kernel_rfl) (fun _ _ _ h => h) rfl rfl rfl (R_pure (by kernel_rfl)) ?_
        obtain ⟨q19, hc19, hst⟩ := dsl_cells hst (show gt [x6] 0 = some x6 from rfl)
        have hst := hst.drop
        refine C_take (i := 10) (v := S x6.now.s) rfl (by kernel_rfl) (fun _ _ _ h => h) rfl rfl rfl (R_loadAt (off := ao a1 + (0 : Int).toNat * 4) (j := 1) hc19 rfl rfl) ?_
        refine C_take (i := 11) (v := I (x6.now.s.length : Int)) rfl (by kernel_rfl) (fun _ _ _ h => h) rfl rfl rfl (R_pure (by kernel_rfl)) ?_
        refine C_take (i := 12) (v := I (x6.safe.s.length : Int)) rfl (by kernel_rfl) (fun _ _ _ h => h) rfl rfl rfl (R_pure (by kernel_rfl)) ?_
        refine C_take (i := 13) (v := .bool (decide ((x6.now.s.length : Int) > (x6.safe.s.length : Int)))) rfl (by kernel_rfl) (fun _ _ _ h => h) rfl rfl rfl (R_pure (by kernel_rfl)) ?_
        refine C_take (i := 14) (v := .bool (decide ((x6.now.s.length : Int) > (x6.safe.s.length : Int)))) rfl (by kernel_rfl) (fun _ _ _ h => h) rfl rfl rfl (R_pure (by kernel_rfl)) ?_
        refine C_take (i := 15) (v := .bool (decide ((x6.now.s.length : Int) > (x6.safe.s.length : Int)))) rfl (by kernel_rfl) (fun _ _ _ h => h) rfl rfl rfl (R_pure (by kernel_rfl)) ?_
        by_cases h : (decide ((x6.now.s.length : Int) > (x6.safe.s.length : Int))) = true
        · have hr := (if_pos h).symm.trans hr
          refine C_keep ((41, .bool (decide ((x6.now.s.length : Int) > (x6.safe.s.length : Int)))) :: [(0, .pointer a1), (1, I x2), (4, pt p4 0), (5, I (x6.safe.s.length : Int)), (26, .pointer a1), (27, pt (ab a1) (ao a1 + (0 : Int).toNat * 4)), (28, pt (ab a1) (ao a1 + (0 : Int).toNat * 4)), (29, pt (ab a1) (ao a1 + (0 : Int).toNat * 4)), (30, .bool x6.now.there), (31, .bool true), (32, .pointer a1), (33, pt (ab a1) (ao a1 + (0 : Int).toNat * 4)), (34, pt (ab a1) (ao a1 + (0 : Int).toNat * 4)), (35, pt (ab a1) (ao a1 + (0 : Int).toNat * 4 + 1)), (36, S x6.now.s), (37, I (x6.now.s.length : Int)), (38, I (x6.safe.s.length : Int)), (39, .bool (decide ((x6.now.s.length : Int) > (x6.safe.s.length : Int)))), (40, .bool (decide ((x6.now.s.length : Int) > (x6.safe.s.length : Int))))]) rfl fun b => ?_
          refine C_bool h ?_
          refine C_take (i := 16) (v := .pointer a1) rfl (by kernel_rfl) (fun _ _ _ h => h) rfl rfl rfl (R_pure (by kernel_rfl)) ?_
          refine C_take (i := 17) (v := pt (ab a1) (ao a1 + (0 : Int).toNat * 4)) rfl (by kernel_rfl) (fun _ _ _ h => h) rfl rfl rfl (R_nilc hst rfl) ?_
          refine C_take (i := 18) (v := pt (ab a1) (ao a1 + (0 : Int).toNat * 4)) rfl (by kernel_rfl) (fun _ _ _ h => h) rfl rfl rfl (R_pure (by kernel_rfl)) ?_
          refine C_take (i := 19) (v := pt (ab a1) (ao a1 + (0 : Int).toNat * 4 + 1)) rfl (by kernel_rfl) (fun _ _ _ h => h) rfl rfl rfl (R_pure (by kernel_rfl)) ?_
          obtain ⟨q20, hc20, hst⟩ := dsl_cells hst (show gt [x6] 0 = some x6 from rfl)
          have hst := hst.drop
          refine C_take (i := 20) (v := S x6.now.s) rfl (by kernel_rfl) (fun _ _ _ h => h) rfl rfl rfl (R_loadAt (off := ao a1 + (0 : Int).toNat * 4) (j := 1) hc20 rfl rfl) ?_
          refine C_take (i := 21) (v := I (x6.safe.s.length : Int)) rfl (by kernel_rfl) (fun _ _ _ h => h) rfl rfl rfl (R_pure (by kernel_rfl)) ?_
          obtain ⟨x7, hx5, hr⟩ := bnd hr
          refine C_take (i := 22) (v := S x7) rfl (by kernel_rfl) (fun _ _ _ h => h) rfl rfl rfl (R_slice_s Try.underlying9 rfl rfl rfl hx5) ?_
          refine C_take (i := 23) (v := .pointer a1) rfl (by kernel_rfl) (fun _ _ _ h => h) rfl rfl rfl (R_pure (by kernel_rfl)) ?_
          refine C_take (i := 24) (v := pt (ab a1) (ao a1 + (0 : Int).toNat * 4)) rfl (by kernel_rfl) (fun _ _ _ h => h) rfl rfl rfl (R_nilc hst rfl) ?_
          refine C_take (i := 25) (v := pt (ab a1) (ao a1 + (0 : Int).toNat * 4 + 2)) rfl (by kernel_rfl) (fun _ _ _ h => h) rfl rfl rfl (R_pure (by kernel_rfl)) ?_
          refine C_take (i := 26) (v := pt (ab a1) (ao a1 + (0 : Int).toNat * 4 + 3)) rfl (by kernel_rfl) (fun _ _ _ h => h) rfl rfl rfl (R_pure (by kernel_rfl)) ?_
          obtain ⟨q21, hc21, hst⟩ := dsl_cells hst (show gt [x6] 0 = some x6 from rfl)
          have hst := hst.drop
          refine C_take (i := 27) (v := S x6.safe.s) rfl (by kernel_rfl) (fun _ _ _ h => h) rfl rfl rfl (R_loadAt (off := ao a1 + (0 : Int).toNat * 4) (j := 3) hc21 rfl rfl) ?_
          refine C_take (i := 28) (v := .bool (sEq x7 x6.safe.s)) rfl (by kernel_rfl) (fun _ _ _ h => h) rfl rfl rfl (R_pure (by kernel_rfl)) ?_
          refine C_take (i := 29) (v := .bool (sEq x7 x6.safe.s)) rfl (by kernel_rfl) (fun _ _ _ h => h) rfl rfl rfl (R_pure (by kernel_rfl)) ?_
          refine wpG_done (by kernel_rfl) ?_ _
          refine C_keepQ [(0, .pointer a1), (1, I x2), (4, pt p4 0), (5, I (x6.safe.s.length : Int)), (55, .bool (sEq x7 x6.safe.s))] rfl fun b => ?_
          refine th_n ?_
          obtain rfl := Option.some.inj hr
          have hst := (((hst.pull 2).pull 2).pull 2)
          exact (kpX [(0, .pointer a1), (1, I x2), (4, pt p4 0), (5, I (x6.safe.s.length : Int)), (55, .bool (sEq x7 x6.safe.s))] rfl hst)
        · have hr := (if_neg h).symm.trans hr
          refine C_keep ((41, .bool (decide ((x6.now.s.length : Int) > (x6.safe.s.length : Int)))) :: [(0, .pointer a1), (1, I x2), (4, pt p4 0), (5, I (x6.safe.s.length : Int)), (26, .pointer a1), (27, pt (ab a1) (ao a1 + (0 : Int).toNat * 4)), (28, pt (ab a1) (ao a1 + (0 : Int).toNat * 4)), (29, pt (ab a1) (ao a1 + (0 : Int).toNat * 4)), (30, .bool x6.now.there), (31, .bool true), (32, .pointer a1), (33, pt (ab a1) (ao a1 + (0 : Int).toNat * 4)), (34, pt (ab a1) (ao a1 + (0 : Int).toNat * 4)), (35, pt (ab a1) (ao a1 + (0 : Int).toNat * 4 + 1)), (36, S x6.now.s), (37, I (x6.now.s.length : Int)), (38, I (x6.safe.s.length : Int)), (39, .bool (decide ((x6.now.s.length : Int) > (x6.safe.s.length : Int)))), (40, .bool (decide ((x6.now.s.length : Int) > (x6.safe.s.length : Int))))]) rfl fun b => ?_
          refine C_bool (eq_false_of_ne_true h) ?_
          refine C_skip (i := 16) rfl (by kernel_rfl) (fun _ _ _ h => h) rfl rfl rfl ?_
          refine C_skip (i := 17) rfl (by kernel_rfl) (fun _ _ _ h => h) rfl rfl rfl ?_
          refine C_skip (i := 18) rfl (by kernel_rfl) (fun _ _ _ h => h) rfl rfl rfl ?_
          refine C_skip (i := 19) rfl (by kernel_rfl) (fun _ _ _ h => h) rfl rfl rfl ?_
          refine C_skip (i := 20) rfl (by kernel_rfl) (fun _ _ _ h => h) rfl rfl rfl ?_
          refine C_skip (i := 21) rfl (by kernel_rfl) (fun _ _ _ h => h) rfl rfl rfl ?_
          refine C_skip (i := 22) rfl (by kernel_rfl) (fun _ _ _ h => h) rfl rfl rfl ?_
          refine C_skip (i := 23) rfl (by kernel_rfl) (fun _ _ _ h => h) rfl rfl rfl ?_
          refine C_skip (i := 24) rfl (by kernel_rfl) (fun _ _ _ h => h) rfl rfl rfl ?_
          refine C_skip (i := 25) rfl (by kernel_rfl) (fun _ _ _ h => h) rfl rfl rfl ?_
          refine C_skip (i := 26) rfl (by kernel_rfl) (fun _ _ _ h => h) rfl rfl rfl ?_
          refine C_skip (i := 27) rfl (by kernel_rfl) (fun _ _ _ h => h) rfl rfl rfl ?_
          refine C_skip (i := 28) rfl (by kernel_rfl) (fun _ _ _ h => h) rfl rfl rfl ?_
          refine C_take (i := 29) (v := .bool false) rfl (by kernel_rfl) (fun _ _ _ h => h) rfl rfl rfl (R_pure (by kernel_rfl)) ?_
          refine wpG_done (by kernel_rfl) ?_ _
          refine C_keepQ [(0, .pointer a1), (1, I x2), (4, pt p4 0), (5, I (x6.safe.s.length : Int)), (55, .bool false)] rfl fun b => ?_
          refine th_n ?_
          obtain rfl := Option.some.inj hr
          have hst := (((hst.pull 2).pull 2).pull 2)
          exact (kpX [(0, .pointer a1), (1, I x2), (4, pt p4 0), (5, I (x6.safe.s.length : Int)), (55, .bool false)] rfl hst)
      · have hr := (if_neg h).symm.trans hr
        refine C_keep ((31, .bool x6.now.there) :: [(0, .pointer a1), (1, I x2), (4, pt p4 0), (5, I (x6.safe.s.length : Int)), (26, .pointer a1), (27, pt (ab a1) (ao a1 + (0 : Int).toNat * 4)), (28, pt (ab a1) (ao a1 + (0 : Int).toNat * 4)), (29, pt (ab a1) (ao a1 + (0 : Int).toNat * 4)), (30, .bool x6.now.there)]) rfl fun b => ?_
        refine C_bool (eq_false_of_ne_true h) ?_
        refine C_skip (i := 6) rfl (by kernel_rfl) (fun _ _ _ h => h) rfl rfl rfl ?_
        refine C_skip (i := 7) rfl (by kernel_rfl) (fun _ _ _ h => h) rfl rfl rfl ?_
        refine C_skip (i := 8) rfl (by kernel_rfl) (fun _ _ _ h => h) rfl rfl rfl ?_
        refine C_skip (i := 9) rfl (by kernel_rfl) (fun _ _ _ h => h) rfl rfl rfl ?_
        refine C_skip (i := 10) rfl (by kernel_rfl) (fun _ _ _ h => h) rfl rfl rfl ?_
        refine C_skip (i := 11) rfl (by kernel_rfl) (fun _ _ _ h => h) rfl rfl rfl ?_
        refine C_skip (i := 12) rfl (by kernel_rfl) (fun _ _ _ h => h) rfl rfl rfl ?_
        refine C_skip (i := 13) rfl (by kernel_rfl) (fun _ _ _ h => h) rfl rfl rfl ?_
        refine C_take (i := 14) (v := .bool false) rfl (by kernel_rfl) (fun _ _ _ h => h) rfl rfl rfl (R_pure (by kernel_rfl)) ?_
        refine C_take (i := 15) (v := .bool false) rfl (by kernel_rfl) (fun _ _ _ h => h) rfl rfl rfl (R_pure (by kernel_rfl)) ?_
        refine C_skip (i := 16) rfl (by kernel_rfl) (fun _ _ _ h => h) rfl rfl rfl ?_
        refine C_skip (i := 17) rfl (by kernel_rfl) (fun _ _ _ h => h) rfl rfl rfl ?_
        refine C_skip (i := 18) rfl (by kernel_rfl) (fun _ _ _ h => h) rfl rfl rfl ?_
        refine C_skip (i := 19) rfl (by kernel_rfl) (fun _ _ _ h => h) rfl rfl rfl ?_
        refine C_skip (i := 20) rfl (by kernel_rfl) (fun _ _ _ h => h) rfl rfl rfl ?_
        refine C_skip (i := 21) rfl (by kernel_rfl) (fun _ _ _ h => h) rfl rfl rfl ?_
        refine C_skip (i := 22) rfl (by kernel_rfl) (fun _ _ _ h => h) rfl rfl rfl ?_
        refine C_skip (i := 23) rfl (by kernel_rfl) (fun _ _ _ h => h) rfl rfl rfl ?_
        refine C_skip (i := 24) rfl (by kernel_rfl) (fun _ _ _ h => h) rfl rfl rfl ?_
        refine C_skip (i := 25) rfl (by kernel_rfl) (fun _ _ _ h => h) rfl rfl rfl ?_
        refine C_skip (i := 26) rfl (by kernel_rfl) (fun _ _ _ h => h) rfl rfl rfl ?_
        refine C_skip (i := 27) rfl (by kernel_rfl) (fun _ _ _ h => h) rfl rfl rfl ?_
        refine C_skip (i := 28) rfl (by kernel_rfl) (fun _ _ _ h => h) rfl rfl rfl ?_
        refine C_take (i := 29) (v := .bool false) rfl (by kernel_rfl) (fun _ _ _ h => h) rfl rfl rfl (R_pure (by kernel_rfl)) ?_
        refine wpG_done (by kernel_rfl) ?_ _
        refine C_keepQ [(0, .pointer a1), (1, I x2), (4, pt p4 0), (5, I (x6.safe.s.length : Int)), (55, .bool false)] rfl fun b => ?_
        refine th_n ?_
        obtain rfl := Option.some.inj hr
        have hst := (((hst.pull 2).pull 2).pull 2)
        exact (kpX [(0, .pointer a1), (1, I x2), (4, pt p4 0), (5, I (x6.safe.s.length : Int)), (55, .bool false)] rfl hst)
def platter_Disk_Crash_l1 (k : Nat) (x1 : Int) (x3 : Bool) (x4 : Int) (x6 : (List Int)) (y9 : (List (List UInt8))) : Nat → Int → Int → (List ((List UInt8) × (Option T_platter_file))) → Int → Option ((List ((List UInt8) × (Option T_platter_file))) × Int)
  | 0, _, _, _, _ => none
  | j + 1, v13, v14, v15, v16 => (if decide (v14 < (y9.length : Int)) = true then (Option.bind (Option.bind (gt y9 v14) fun x10 => (Option.bind ((mget v15 x10).getD none) fun x11 => (if (!(decide (x11.now = x11.safe))) = true then (Option.bind (if decide (v13 < (x6.length : Int)) = true then (Option.bind (gt x6 v13) fun x12 => some (x12)) else some ((0 : Int))) fun y12 => (Option.bind (platter_file_left k ((mget v15 x10).getD none) y12) fun y13 => (Option.bind (platter_Disk_settle k x1 v16 x3 x4 v15 x10 y13) fun y14 => some ((IntKind.i64.wrap (v13 + 1)), y14.1, y14.2)))) else some (v13, v16, v15)))) fun y11 => (platter_Disk_Crash_l1 k x1 x3 x4 x6 y9 j y11.1 (IntKind.i64.wrap (v14 + 1)) y11.2.2 y11.2.1)) else some (v15, v16))
def platter_Disk_Crash (k : Nat) (x1 : Int) (x2 : Int) (x3 : Bool) (x4 : Int) (x5 : (List ((List UInt8) × (Option T_platter_file)))) (x6 : (List Int)) : Option (Int × (List ((List UInt8) × (Option T_platter_file)))) := (Option.bind (maps_Keys k x5) fun _ => (Option.bind (slices_Sorted k x5) fun y9 => (Option.bind (platter_Disk_Crash_l1 k x1 x3 x4 x6 y9 k (0 : Int) (0 : Int) x5 x2) fun y10 => some (y10.2, y10.1))))
set_option maxRecDepth 100000 in
set_option maxHeartbeats 4000000 in
theorem platter_Disk_Crash_ok {G w : World} {F : List HP} {R : Ending → World → Prop} (k : Nat) (x1 : Int) (x2 : Int) (x3 : Bool) (x4 : Int) (x5 : (List ((List UInt8) × (Option T_platter_file)))) (x6 : (List Int)) (p1 : Nat) (p2 : Nat) (a1 : Option Addr) (c1 : Nat) (r : (Int × (List ((List UInt8) × (Option T_platter_file))))) (hst : St G w (blk p1 (cl [I x1, I x2, .bool x3, I x4, .map (some p2)] 42) :: mpr S (rPt r_T_platter_file) p2 x5 :: dsl (rI .i64) a1 c1 x6 :: F)) (hr : platter_Disk_Crash k x1 x2 x3 x4 x5 x6 = some r)
    (hR : ∀ w', St G w' (blk p1 (cl [I x1, I r.1, .bool x3, I x4, .map (some p2)] 42) :: mpr S (rPt r_T_platter_file) p2 r.2 :: dsl (rI .i64) a1 c1 x6 :: F) → R (.returned (.tuple #[])) w') :
    Calls Try.prog 19 #[pt p1 0, .slice a1 x6.length c1] w R := by
  unfold platter_Disk_Crash at hr
  refine enter Try.func19 rfl [(0, pt p1 0), (1, .slice a1 x6.length c1)] rfl rfl fun b => ?_
  refine wp_seq ?_
  refine wp_reg ?_
  refine L_pure 1 [(0, pt p1 0), (1, .slice a1 x6.length c1), (4, I 0)] (by kernel_rfl) fun b => ?_
  refine wpL_nil ?_
  refine th_n ?_
  refine wp_seq ?_
  refine wp_reg ?_
  refine L_pure 3 [(0, pt p1 0), (1, .slice a1 x6.length c1), (4, I 0), (11, pt p1 4)] (by kernel_rfl) fun b => ?_
  refine L_op rfl (O_run (v := .map (some p2)) (w' := w) (R_load hst rfl rfl) rfl rfl ?_)
  obtain ⟨y8, hy8, hr⟩ := bnd hr
  refine L_op rfl (O_call (vs := #[.map (some p2)]) Try.call42 (by kernel_rfl) (maps_Keys_ok k x5 p2 y8 (hst.pull 1) hy8 fun p4 w hst => ?_))
  refine CK_ret rfl ?_
  obtain ⟨y9, hy9, hr⟩ := bnd hr
  refine L_op rfl (O_call (vs := #[.func (.func 63) #[] #[pt p4 0]]) Try.call41 (by kernel_rfl) (slices_Sorted_ok k x5 p4 p2 y9 ((hst.pull 1).pull 1) hy9 fun a4 c3 w hst => ?_))
  refine CK_ret rfl ?_
  refine L_pure 2 [(0, pt p1 0), (1, .slice a1 x6.length c1), (4, I 0), (14, .slice a4 y9.length c3), (15, I (y9.length : Int)), (16, I 0)] (by kernel_rfl) fun b => ?_
  refine wpL_nil ?_
  refine th_n ?_
  obtain ⟨y10, hy10, hk4⟩ := bnd hr
  clear hr
  refine Go.Hx.wp_cut (fun a w => ∃ (b : Nat → Value), a = mkF 52 b [] ∧ St G w (osl rS 9 a4 c3 y9 :: blk p4 (cl [.map (some p2)] 40) :: mpr S (rPt r_T_platter_file) p2 y10.1 :: blk p1 (cl [I x1, I y10.2, .bool x3, I x4, .map (some p2)] 42) :: dsl (rI .i64) a1 c1 x6 :: F)) ?_ ?_
  · rintro _ w ⟨b, rfl, hst⟩
    have hr := hk4
    refine bp_normal ?_
    refine ret0 rfl ?_
    obtain rfl := Option.some.inj hr
    have hst := ((((hst.pull 4).pull 3).pull 4).cut 3 2)
    exact hR _ hst
  · have hst := (((((hst.pull 4).pull 4).pull 4).pull 4).pull 4)
    refine wp_block ?_
    refine wp_loop_fuel (fun j a w => ∃ (v13 : Int) (v14 : Int) (v15 : (List ((List UInt8) × (Option T_platter_file)))) (v16 : Int) (b : Nat → Value), a = mkF 52 b [(0, pt p1 0), (1, .slice a1 x6.length c1), (4, I v13), (14, .slice a4 y9.length c3), (15, I (y9.length : Int)), (16, I v14)] ∧ St G w (osl rS 9 a4 c3 y9 :: blk p4 (cl [.map (some p2)] 40) :: mpr S (rPt r_T_platter_file) p2 v15 :: blk p1 (cl [I x1, I v16, .bool x3, I x4, .map (some p2)] 42) :: dsl (rI .i64) a1 c1 x6 :: F) ∧ platter_Disk_Crash_l1 k x1 x3 x4 x6 y9 j v13 v14 v15 v16 = some y10) (k := k) ⟨(0 : Int), (0 : Int), x5, x2, (kpX [(0, pt p1 0), (1, .slice a1 x6.length c1), (4, I 0), (14, .slice a4 y9.length c3), (15, I (y9.length : Int)), (16, I 0)] rfl ⟨hst, hy10⟩)⟩ ?_ ?_
    · rintro _ _ ⟨_, _, _, _, _, _, _, h⟩
      rw [platter_Disk_Crash_l1] at h
      cases h
    · rintro j _ w ⟨v13, v14, v15, v16, b, rfl, hst, hr⟩
      rw [platter_Disk_Crash_l1] at hr
      refine wp_seq ?_
      refine wp_reg ?_
      refine L_pure 1 [(0, pt p1 0), (1, .slice a1 x6.length c1), (4, I v13), (14, .slice a4 y9.length c3), (15, I (y9.length : Int)), (16, I v14), (17, .bool (decide (v14 < (y9.length : Int))))] (by kernel_rfl) fun b => ?_
      refine wpL_nil ?_
      refine th_n ?_
      refine wp_seq ?_
      refine wp_cond_mkF (t := decide (v14 < (y9.length : Int))) rfl (fun h => ?_) (fun h => ?_)
      · have hr := (if_pos h).symm.trans hr
        refine wp_skip ?_
        refine th_n ?_
        obtain ⟨y11, hy11, hk5⟩ := bnd hr
        clear hr
        refine wp_seq_cut (fun a w => ∃ (b : Nat → Value), a = mkF 52 b [(0, pt p1 0), (1, .slice a1 x6.length c1), (4, I y11.1), (14, .slice a4 y9.length c3), (15, I (y9.length : Int)), (16, I v14)] ∧ St G w (blk p1 (cl [I x1, I y11.2.1, .bool x3, I x4, .map (some p2)] 42) :: mpr S (rPt r_T_platter_file) p2 y11.2.2 :: dsl (rI .i64) a1 c1 x6 :: osl rS 9 a4 c3 y9 :: blk p4 (cl [.map (some p2)] 40) :: F)) ?_ ?_
        · rintro _ w ⟨b, rfl, hst⟩
          have hr := hk5
          refine wp_reg ?_
          refine L_pure 2 [(0, pt p1 0), (1, .slice a1 x6.length c1), (4, I y11.1), (14, .slice a4 y9.length c3), (15, I (y9.length : Int)), (16, I (IntKind.i64.wrap (v14 + 1)))] (by kernel_rfl) fun b => ?_
          refine wpL_nil ?_
          refine th_n ?_
          have hst := (((((hst.pull 2).pull 1).pull 2).pull 4).pull 4)
          exact ⟨y11.1, (IntKind.i64.wrap (v14 + 1)), y11.2.2, y11.2.1, (kpX [(0, pt p1 0), (1, .slice a1 x6.length c1), (4, I y11.1), (14, .slice a4 y9.length c3), (15, I (y9.length : Int)), (16, I (IntKind.i64.wrap (v14 + 1)))] rfl ⟨hst, hr⟩)⟩
        · have hr := hy11
          refine wp_block ?_
          refine wp_seq ?_
          refine wp_reg ?_
          obtain ⟨x10, hx4, hr⟩ := bnd hr
          refine L_op rfl (O_run (v := pt (ab a4) (ao a4 + v14.toNat * 1)) (w' := w) (R_ia L34 rfl rfl (osl_addr hst hx4) (gt_some hx4).1 (gt_some hx4).2.1) rfl rfl ?_)
          obtain ⟨q5, hc5, hst⟩ := osl_cells hst hx4
          have hst := hst.drop
          refine L_op rfl (O_run (v := S x10) (w' := w) (R_loadAt (off := ao a4 + v14.toNat * 1) (j := 0) hc5 rfl rfl) rfl rfl ?_)
          refine L_pure 1 [(0, pt p1 0), (1, .slice a1 x6.length c1), (4, I v13), (6, S x10), (14, .slice a4 y9.length c3), (15, I (y9.length : Int)), (16, I v14)] (by kernel_rfl) fun b => ?_
          refine wpL_nil ?_
          refine th_n ?_
          refine wp_seq ?_
          refine wp_reg ?_
          refine L_pure 3 [(0, pt p1 0), (1, .slice a1 x6.length c1), (4, I v13), (6, S x10), (14, .slice a4 y9.length c3), (15, I (y9.length : Int)), (16, I v14), (22, pt p1 4)] (by kernel_rfl) fun b => ?_
          refine L_op rfl (O_run (v := .map (some p2)) (w' := w) (R_load (hst.pull 3) rfl rfl) rfl rfl ?_)
          refine L_pure 1 [(0, pt p1 0), (1, .slice a1 x6.length c1), (4, I v13), (6, S x10), (14, .slice a4 y9.length c3), (15, I (y9.length : Int)), (16, I v14), (23, .map (some p2)), (24, S x10)] (by kernel_rfl) fun b => ?_
          refine L_op rfl (O_lookP M40 x10 (hst.pull 2) rfl rfl rfl fun a5 hst => ?_)
          refine L_pure 1 [(0, pt p1 0), (1, .slice a1 x6.length c1), (4, I v13), (6, S x10), (7, .pointer a5), (14, .slice a4 y9.length c3), (15, I (y9.length : Int)), (16, I v14)] (by kernel_rfl) fun b => ?_
          refine wpL_nil ?_
          refine th_n ?_
          refine wp_seq ?_
          refine wp_regG (SN { w with drawn := w.drawn + 1 }) rfl ?_
          have hst := hst.draw (n := w.drawn + 1)
          generalize { w with drawn := w.drawn + 1 } = w at hst ⊢
          refine C_take (i := 0) (v := .pointer a5) rfl (by kernel_rfl) (fun _ _ _ h => h) rfl rfl rfl (R_pure (by kernel_rfl)) ?_
          obtain ⟨x11, hx5, hr⟩ := bnd hr
          have hst := dpt_pick hx5 hst
          refine C_take (i := 1) (v := pt (ab a5) (ao a5 + (0 : Int).toNat * 4)) rfl (by kernel_rfl) (fun _ _ _ h => h) rfl rfl rfl (R_nilc hst rfl) ?_
          refine C_take (i := 2) (v := pt (ab a5) (ao a5 + (0 : Int).toNat * 4)) rfl (by kernel_rfl) (fun _ _ _ h => h) rfl rfl rfl (R_pure (by kernel_rfl)) ?_
          obtain ⟨q6, hc6, hst⟩ := dsl_cells hst (show gt [x11] 0 = some x11 from rfl)
          have hst := hst.drop
          refine C_take (i := 3) (v := .agg #[.bool x11.now.there, S x11.now.s]) rfl (by kernel_rfl) (fun _ _ _ h => h) rfl rfl rfl (R_loadAt (off := ao a5 + (0 : Int).toNat * 4) (j := 0) hc6 rfl rfl) ?_
          refine C_take (i := 4) (v := .pointer a5) rfl (by kernel_rfl) (fun _ _ _ h => h) rfl rfl rfl (R_pure (by kernel_rfl)) ?_
          refine C_take (i := 5) (v := pt (ab a5) (ao a5 + (0 : Int).toNat * 4)) rfl (by kernel_rfl) (fun _ _ _ h => h) rfl rfl rfl (R_nilc hst rfl) ?_
          refine C_take (i := 6) (v := pt (ab a5) (ao a5 + (0 : Int).toNat * 4 + 2)) rfl (by kernel_rfl) (fun _ _ _ h => h) rfl rfl rfl (R_pure (by kernel_rfl)) ?_
          obtain ⟨q7, hc7, hst⟩ := dsl_cells hst (show gt [x11] 0 = some x11 from rfl)
          have hst := hst.drop
          refine C_take (i := 7) (v := .agg #[.bool x11.safe.there, S x11.safe.s]) rfl (by kernel_rfl) (fun _ _ _ h => h) rfl rfl rfl (R_loadAt (off := ao a5 + (0 : Int).toNat * 4) (j := 2) hc7 rfl rfl) ?_
          refine C_take (i := 8) (v := .bool (!(decide (x11.now = x11.safe)))) rfl (by kernel_rfl) (fun _ _ _ h => h) rfl rfl rfl (R_sne rfl rfl G86 (EQ86 x11.now x11.safe _)) ?_
          refine wpG_done (by kernel_rfl) ?_ _
          refine C_keepQ [(0, pt p1 0), (1, .slice a1 x6.length c1), (4, I v13), (6, S x10), (7, .pointer a5), (14, .slice a4 y9.length c3), (15, I (y9.length : Int)), (16, I v14), (34, .bool (!(decide (x11.now = x11.safe))))] rfl fun b => ?_
          refine th_n ?_
          refine wp_cond_mkF (t := (!(decide (x11.now = x11.safe)))) rfl (fun h => ?_) (fun h => ?_)
          · have hr := (if_pos h).symm.trans hr
            refine wp_seq ?_
            refine wp_reg ?_
            refine L_pure 1 [(0, pt p1 0), (1, .slice a1 x6.length c1), (4, I v13), (6, S x10), (7, .pointer a5), (8, I 0), (14, .slice a4 y9.length c3), (15, I (y9.length : Int)), (16, I v14)] (by kernel_rfl) fun b => ?_
            refine wpL_nil ?_
            refine th_n ?_
            obtain ⟨y12, hy12, hk6⟩ := bnd hr
            clear hr
            refine wp_seq_cut (fun a w => ∃ (b : Nat → Value), a = mkF 52 b [(0, pt p1 0), (1, .slice a1 x6.length c1), (4, I v13), (6, S x10), (7, .pointer a5), (8, I y12), (14, .slice a4 y9.length c3), (15, I (y9.length : Int)), (16, I v14)] ∧ St G w (dsl (rI .i64) a1 c1 x6 :: dsl r_T_platter_file a5 1 ([x11]) :: dpt r_T_platter_file a5 ((mget v15 x10).getD none) :: mpr S (rPt r_T_platter_file) p2 v15 :: osl rS 9 a4 c3 y9 :: blk p4 (cl [.map (some p2)] 40) :: blk p1 (cl [I x1, I v16, .bool x3, I x4, .map (some p2)] 42) :: F)) ?_ ?_
            · rintro _ w ⟨b, rfl, hst⟩
              have hr := hk6
              refine wp_seq ?_
              refine wp_reg ?_
              refine L_pure 3 [(0, pt p1 0), (1, .slice a1 x6.length c1), (4, I (IntKind.i64.wrap (v13 + 1))), (6, S x10), (7, .pointer a5), (8, I y12), (14, .slice a4 y9.length c3), (15, I (y9.length : Int)), (16, I v14)] (by kernel_rfl) fun b => ?_
              refine wpL_nil ?_
              refine th_n ?_
              refine wp_reg ?_
              refine L_pure 4 [(0, pt p1 0), (1, .slice a1 x6.length c1), (4, I (IntKind.i64.wrap (v13 + 1))), (14, .slice a4 y9.length c3), (15, I (y9.length : Int)), (16, I v14), (45, pt p1 0), (46, S x10), (47, .pointer a5), (48, I y12)] (by kernel_rfl) fun b => ?_
              obtain ⟨y13, hy13, hr⟩ := bnd hr
              have hst := (hst.pull 2).dup
              refine L_op rfl (O_call (vs := #[.pointer a5, I y12]) Try.call45 (by kernel_rfl) (platter_file_left_ok k ((mget v15 x10).getD none) y12 a5 y13 hst hy13 fun w hst => ?_))
              refine CK_ret rfl ?_
              obtain ⟨y14, hy14, hr⟩ := bnd hr
              refine L_op rfl (O_call (vs := #[pt p1 0, S x10, .agg #[.bool y13.there, S y13.s]]) Try.call44 (by kernel_rfl) (platter_Disk_settle_ok k x1 v16 x3 x4 v15 x10 y13 p1 p2 y14 ((hst.pull 4).pull 7) hy14 fun w hst => ?_))
              refine CK_ret rfl ?_
              refine wpL_nil ?_
              refine ib_n (th_n ?_)
              obtain rfl := Option.some.inj hr
              have hst := ((((((hst.pull 7).pull 7).pull 6).pull 4).pull 4).cut 5 3)
              exact (kpX [(0, pt p1 0), (1, .slice a1 x6.length c1), (4, I (IntKind.i64.wrap (v13 + 1))), (14, .slice a4 y9.length c3), (15, I (y9.length : Int)), (16, I v14)] rfl hst)
            · have hr := hy12
              refine wp_seq ?_
              refine wp_reg ?_
              refine L_pure 4 [(0, pt p1 0), (1, .slice a1 x6.length c1), (4, I v13), (6, S x10), (7, .pointer a5), (8, I 0), (14, .slice a4 y9.length c3), (15, I (y9.length : Int)), (16, I v14), (38, .bool (decide (v13 < (x6.length : Int))))] (by kernel_rfl) fun b => ?_
              refine wpL_nil ?_
              refine th_n ?_
              refine wp_cond_mkF (t := decide (v13 < (x6.length : Int))) rfl (fun h => ?_) (fun h => ?_)
              · have hr := (if_pos h).symm.trans hr
                refine wp_reg ?_
                refine L_pure 2 [(0, pt p1 0), (1, .slice a1 x6.length c1), (4, I v13), (6, S x10), (7, .pointer a5), (14, .slice a4 y9.length c3), (15, I (y9.length : Int)), (16, I v14), (39, .slice a1 x6.length c1), (40, I v13)] (by kernel_rfl) fun b => ?_
                obtain ⟨x12, hx6, hr⟩ := bnd hr
                refine L_op rfl (O_run (v := pt (ab a1) (ao a1 + v13.toNat * 1)) (w' := w) (R_ia L30 rfl rfl (dsl_addr (hst.pull 6) hx6) (gt_some hx6).1 (gt_some hx6).2.1) rfl rfl ?_)
                obtain ⟨q8, hc8, hst⟩ := dsl_cells (hst.pull 6) hx6
                have hst := hst.drop
                refine L_op rfl (O_run (v := I x12) (w' := w) (R_loadAt (off := ao a1 + v13.toNat * 1) (j := 0) hc8 rfl rfl) rfl rfl ?_)
                refine L_pure 1 [(0, pt p1 0), (1, .slice a1 x6.length c1), (4, I v13), (6, S x10), (7, .pointer a5), (8, I x12), (14, .slice a4 y9.length c3), (15, I (y9.length : Int)), (16, I v14)] (by kernel_rfl) fun b => ?_
                refine wpL_nil ?_
                refine th_n ?_
                obtain rfl := Option.some.inj hr
                have hst := (((((((hst.pull 6).pull 6).pull 6).pull 6).pull 6).pull 6).pull 6)
                exact (kpX [(0, pt p1 0), (1, .slice a1 x6.length c1), (4, I v13), (6, S x10), (7, .pointer a5), (8, I x12), (14, .slice a4 y9.length c3), (15, I (y9.length : Int)), (16, I v14)] rfl hst)
              · have hr := (if_neg (by rw [h]; exact Bool.false_ne_true)).symm.trans hr
                refine wp_skip ?_
                refine th_n ?_
                obtain rfl := Option.some.inj hr
                have hst := (((((((hst.pull 5).pull 5).pull 5).pull 5).pull 5).pull 5).pull 6)
                exact (kpX [(0, pt p1 0), (1, .slice a1 x6.length c1), (4, I v13), (6, S x10), (7, .pointer a5), (8, I 0), (14, .slice a4 y9.length c3), (15, I (y9.length : Int)), (16, I v14)] rfl hst)
          · have hr := (if_neg (by rw [h]; exact Bool.false_ne_true)).symm.trans hr
            refine wp_skip ?_
            refine ib_n (th_n ?_)
            obtain rfl := Option.some.inj hr
            have hst := ((((((hst.pull 4).pull 4).pull 6).pull 5).pull 6).cut 5 2)
            exact (kpX [(0, pt p1 0), (1, .slice a1 x6.length c1), (4, I v13), (14, .slice a4 y9.length c3), (15, I (y9.length : Int)), (16, I v14)] rfl hst)
      · have hr := (if_neg (by rw [h]; exact Bool.false_ne_true)).symm.trans hr
        refine wp_exit ?_
        refine th_x (th_x (ib_x (th_n ?_)))
        obtain rfl := Option.some.inj hr
        have hst := (((((hst.pull 4).pull 4).pull 4).pull 4).pull 4)
        exact (kpX [] rfl hst)
def meter_Luck_Fail (_k : Nat) (_x1 : Int) (_x2 : Int) (_x3 : Bool) (_x4 : Int) (_x5 : (List ((List UInt8) × (Option T_platter_file)))) (x6 : Int) : Option (Int) := some ((IntKind.i64.wrap ((mx2 (mn2 x6 1073741824) (-1)) + 1)))
set_option maxRecDepth 100000 in
set_option maxHeartbeats 4000000 in
theorem meter_Luck_Fail_ok {G w : World} {F : List HP} {R : Ending → World → Prop} (k : Nat) (x1 : Int) (x2 : Int) (x3 : Bool) (x4 : Int) (x5 : (List ((List UInt8) × (Option T_platter_file)))) (x6 : Int) (p1 : Nat) (p2 : Nat) (r : (Int)) (hst : St G w (blk p1 (cl [I x1, I x2, .bool x3, I x4, .map (some p2)] 42) :: mpr S (rPt r_T_platter_file) p2 x5 :: F)) (hr : meter_Luck_Fail k x1 x2 x3 x4 x5 x6 = some r)
    (hR : ∀ w', St G w' (blk p1 (cl [I x1, I x2, .bool x3, I r, .map (some p2)] 42) :: mpr S (rPt r_T_platter_file) p2 x5 :: F) → R (.returned (.tuple #[])) w') :
    Calls Try.prog 24 #[pt p1 2, I x6] w R := by
  unfold meter_Luck_Fail at hr
  refine enter Try.func24 rfl [(0, pt p1 2), (1, I x6)] rfl rfl fun b => ?_
  refine wp_reg ?_
  refine L_pure 7 [(8, I (IntKind.i64.wrap ((mx2 (mn2 x6 1073741824) (-1)) + 1))), (10, pt p1 3)] (by kernel_rfl) fun b => ?_
  refine L_op rfl (O_store [I x1, I x2, .bool x3, I (IntKind.i64.wrap ((mx2 (mn2 x6 1073741824) (-1)) + 1)), .map (some p2)] hst rfl rfl (by kernel_rfl) fun w hst => ?_)
  refine wpL_nil ?_
  refine bp_normal ?_
  refine ret0 rfl ?_
  obtain rfl := Option.some.inj hr
  have hst := ((hst.pull 1).pull 1)
  exact hR _ hst
def glacierlaw09_Told_l1 (k : Nat) (x1 : T_term_State) : Nat → Int → (List T_glacierref09_Entry) → Option ((List T_glacierref09_Entry))
  | 0, _, _ => none
  | j + 1, v7, v8 => (if decide (v7 < (x1.Log.length : Int)) = true then (Option.bind (gt x1.Log v7) fun x3 => (if room (v8.length + ([(T_glacierref09_Entry.mk x3.Index x3.Term x3.Cmd)]).length) 32 = true then (glacierlaw09_Told_l1 k x1 j (IntKind.i64.wrap (v7 + 1)) (v8 ++ ([(T_glacierref09_Entry.mk x3.Index x3.Term x3.Cmd)]))) else none)) else some (v8))
def glacierlaw09_Told (k : Nat) (x1 : T_term_State) : Option ((List T_glacierref09_Entry) × T_glacierref09_State) := (Option.bind (glacierlaw09_Told_l1 k x1 k (0 : Int) ([])) fun y2 => some (y2, (T_glacierref09_State.mk x1.Term x1.Vote x1.Base x1.BaseTerm x1.Snap y2)))
set_option maxRecDepth 100000 in
set_option maxHeartbeats 4000000 in
theorem glacierlaw09_Told_ok {G w : World} {F : List HP} {R : Ending → World → Prop} (k : Nat) (x1 : T_term_State) (a1 : Option Addr) (c1 : Nat) (r : ((List T_glacierref09_Entry) × T_glacierref09_State)) (hst : St G w (dsl r_T_term_Entry a1 c1 x1.Log :: F)) (hr : glacierlaw09_Told k x1 = some r)
    (hR : ∀ (a6 : Option Addr) (c6 : Nat) w', St G w' (osl r_T_glacierref09_Entry 119 a6 c6 r.1 :: dsl r_T_term_Entry a1 c1 x1.Log :: F) → R (.returned (.agg #[I r.2.Term, I r.2.Vote, I r.2.Base, I r.2.BaseTerm, S r.2.Snap, .slice a6 r.1.length c6])) w') :
    Calls Try.prog 34 #[.agg #[I x1.Term, I x1.Vote, I x1.Base, I x1.BaseTerm, S x1.Snap, .slice a1 x1.Log.length c1]] w R := by
  unfold glacierlaw09_Told at hr
  refine enter Try.func34 rfl [(0, .agg #[I x1.Term, I x1.Vote, I x1.Base, I x1.BaseTerm, S x1.Snap, .slice a1 x1.Log.length c1])] rfl rfl fun b => ?_
  refine wp_seq ?_
  refine wp_reg ?_
  refine L_op rfl (O_box [I x1.Term, I x1.Vote, I x1.Base, I x1.BaseTerm, S x1.Snap, .slice a1 x1.Log.length c1] hst rfl rfl fun p6 w hst => ?_)
  refine L_op rfl (O_alloc (i := Try.t71) (z := .agg #[I 0, I 0, I 0, I 0, S ([]), .slice none 0 0]) [I 0, I 0, I 0, I 0, S ([]), .slice none 0 0] hst rfl rfl rfl rfl fun p7 w hst => ?_)
  refine wpL_nil ?_
  refine th_n ?_
  refine wp_seq ?_
  refine wp_reg ?_
  refine L_pure 1 [(1, pt p6 0), (2, pt p7 0), (6, pt p6 0)] (by kernel_rfl) fun b => ?_
  refine L_op rfl (O_run (v := I x1.Term) (w' := w) (R_load (hst.pull 1) rfl rfl) rfl rfl ?_)
  refine L_pure 1 [(1, pt p6 0), (2, pt p7 0), (7, I x1.Term), (8, pt p6 1)] (by kernel_rfl) fun b => ?_
  refine L_op rfl (O_run (v := I x1.Vote) (w' := w) (R_load (hst.pull 1) rfl rfl) rfl rfl ?_)
  refine L_pure 1 [(1, pt p6 0), (2, pt p7 0), (7, I x1.Term), (9, I x1.Vote), (10, pt p6 2)] (by kernel_rfl) fun b => ?_
  refine L_op rfl (O_run (v := I x1.Base) (w' := w) (R_load (hst.pull 1) rfl rfl) rfl rfl ?_)
  refine L_pure 1 [(1, pt p6 0), (2, pt p7 0), (7, I x1.Term), (9, I x1.Vote), (11, I x1.Base), (12, pt p6 3)] (by kernel_rfl) fun b => ?_
  refine L_op rfl (O_run (v := I x1.BaseTerm) (w' := w) (R_load (hst.pull 1) rfl rfl) rfl rfl ?_)
  refine L_pure 1 [(1, pt p6 0), (2, pt p7 0), (7, I x1.Term), (9, I x1.Vote), (11, I x1.Base), (13, I x1.BaseTerm), (14, pt p6 4)] (by kernel_rfl) fun b => ?_
  refine L_op rfl (O_run (v := S x1.Snap) (w' := w) (R_load (hst.pull 1) rfl rfl) rfl rfl ?_)
  refine L_pure 1 [(1, pt p6 0), (2, pt p7 0), (16, .agg #[I x1.Term, I x1.Vote, I x1.Base, I x1.BaseTerm, S x1.Snap, .slice none 0 0])] (by kernel_rfl) fun b => ?_
  refine L_op rfl (O_alloc (i := Try.t71) (z := .agg #[I 0, I 0, I 0, I 0, S ([]), .slice none 0 0]) [I 0, I 0, I 0, I 0, S ([]), .slice none 0 0] hst rfl rfl rfl rfl fun p8 w hst => ?_)
  refine L_op rfl (O_store [I x1.Term, I x1.Vote, I x1.Base, I x1.BaseTerm, S x1.Snap, .slice none 0 0] hst rfl rfl (by kernel_rfl) fun w hst => ?_)
  refine wpL_nil ?_
  refine th_n ?_
  refine wp_seq ?_
  refine wp_seq ?_
  refine wp_reg ?_
  refine L_pure 1 [(2, pt p7 0), (3, pt p8 0), (17, pt p6 5)] (by kernel_rfl) fun b => ?_
  refine L_op rfl (O_run (v := .slice a1 x1.Log.length c1) (w' := w) (R_load (hst.pull 2) rfl rfl) rfl rfl ?_)
  refine L_pure 2 [(2, pt p7 0), (3, pt p8 0), (18, .slice a1 x1.Log.length c1), (19, I (x1.Log.length : Int)), (20, I 0)] (by kernel_rfl) fun b => ?_
  refine wpL_nil ?_
  refine th_n ?_
  obtain ⟨y2, hy2, hk2⟩ := bnd hr
  clear hr
  refine Go.Hx.wp_cut (fun a w => ∃ (a9 : Option Addr) (c9 : Nat)(b : Nat → Value), a = mkF 32 b [(2, pt p7 0), (3, pt p8 0)] ∧ St G w (osl r_T_glacierref09_Entry 119 a9 c9 y2 :: blk p8 (cl [I x1.Term, I x1.Vote, I x1.Base, I x1.BaseTerm, S x1.Snap, .slice a9 y2.length c9] 71) :: blk p7 (cl [I 0, I 0, I 0, I 0, S ([]), .slice none 0 0] 71) :: blk p6 (cl [I x1.Term, I x1.Vote, I x1.Base, I x1.BaseTerm, S x1.Snap, .slice a1 x1.Log.length c1] 55) :: dsl r_T_term_Entry a1 c1 x1.Log :: F)) ?_ ?_
  · rintro _ w ⟨a9, c9, b, rfl, hst⟩
    have hr := hk2
    refine th_n ?_
    refine wp_seq ?_
    refine wp_reg ?_
    refine L_op rfl (O_run (v := .agg #[I x1.Term, I x1.Vote, I x1.Base, I x1.BaseTerm, S x1.Snap, .slice a9 y2.length c9]) (w' := w) (R_load (hst.pull 1) rfl rfl) rfl rfl ?_)
    refine L_op rfl (O_store [I x1.Term, I x1.Vote, I x1.Base, I x1.BaseTerm, S x1.Snap, .slice a9 y2.length c9] (hst.pull 2) rfl rfl (by kernel_rfl) fun w hst => ?_)
    refine wpL_nil ?_
    refine th_n ?_
    refine wp_ret ?_
    refine retC (v := .agg #[I x1.Term, I x1.Vote, I x1.Base, I x1.BaseTerm, S x1.Snap, .slice a9 y2.length c9]) (p := p7) (off := 0) (cs := [I x1.Term, I x1.Vote, I x1.Base, I x1.BaseTerm, S x1.Snap, .slice a9 y2.length c9]) (T' := 71) rfl rfl hst (by kernel_rfl) ?_
    obtain rfl := Option.some.inj hr
    have hst := (((hst.pull 4).pull 2).cut 2 3)
    exact hR a9 c9 _ hst
  · have hst := osl_nil r_T_glacierref09_Entry 119 hst
    have hst := (((((hst.pull 4).pull 4).pull 4).pull 4).pull 4)
    refine wp_block ?_
    refine wp_loop_fuel (fun j a w => ∃ (v7 : Int) (v8 : (List T_glacierref09_Entry)) (a7 : Option Addr) (c7 : Nat) (b : Nat → Value), a = mkF 32 b [(2, pt p7 0), (3, pt p8 0), (18, .slice a1 x1.Log.length c1), (19, I (x1.Log.length : Int)), (20, I v7)] ∧ St G w (osl r_T_glacierref09_Entry 119 a7 c7 v8 :: blk p8 (cl [I x1.Term, I x1.Vote, I x1.Base, I x1.BaseTerm, S x1.Snap, .slice a7 v8.length c7] 71) :: blk p7 (cl [I 0, I 0, I 0, I 0, S ([]), .slice none 0 0] 71) :: blk p6 (cl [I x1.Term, I x1.Vote, I x1.Base, I x1.BaseTerm, S x1.Snap, .slice a1 x1.Log.length c1] 55) :: dsl r_T_term_Entry a1 c1 x1.Log :: F) ∧ glacierlaw09_Told_l1 k x1 j v7 v8 = some y2) (k := k) ⟨(0 : Int), [], none, 0, (kpX [(2, pt p7 0), (3, pt p8 0), (18, .slice a1 x1.Log.length c1), (19, I (x1.Log.length : Int)), (20, I 0)] rfl ⟨hst, hy2⟩)⟩ ?_ ?_
    · rintro _ _ ⟨_, _, _, _, _, _, _, h⟩
      rw [glacierlaw09_Told_l1] at h
      cases h
    · rintro j _ w ⟨v7, v8, a7, c7, b, rfl, hst, hr⟩
      rw [glacierlaw09_Told_l1] at hr
      refine wp_seq ?_
      refine wp_reg ?_
      refine L_pure 1 [(2, pt p7 0), (3, pt p8 0), (18, .slice a1 x1.Log.length c1), (19, I (x1.Log.length : Int)), (20, I v7), (21, .bool (decide (v7 < (x1.Log.length : Int))))] (by kernel_rfl) fun b => ?_
      refine wpL_nil ?_
      refine th_n ?_
      refine wp_seq ?_
      refine wp_cond_mkF (t := decide (v7 < (x1.Log.length : Int))) rfl (fun h => ?_) (fun h => ?_)
      · have hr := (if_pos h).symm.trans hr
        refine wp_skip ?_
        refine th_n ?_
        refine wp_seq ?_
        refine wp_block ?_
        refine wp_seq ?_
        refine wp_reg ?_
        obtain ⟨x3, hx2, hr⟩ := bnd hr
        refine L_op rfl (O_run (v := pt (ab a1) (ao a1 + v7.toNat * 3)) (w' := w) (R_ia L50 rfl rfl (dsl_addr (hst.pull 4) hx2) (gt_some hx2).1 (gt_some hx2).2.1) rfl rfl ?_)
        obtain ⟨q2, hc2, hst⟩ := dsl_cells (hst.pull 4) hx2
        have hst := hst.drop
        refine L_op rfl (O_run (v := .agg #[I x3.Index, I x3.Term, S x3.Cmd]) (w' := w) (R_loadAt (off := ao a1 + v7.toNat * 3) (j := 0) hc2 rfl rfl) rfl rfl ?_)
        refine L_op rfl (O_alloc (i := Try.t52) (z := .agg #[I 0, I 0, S ([])]) [I 0, I 0, S ([])] hst rfl rfl rfl rfl fun p9 w hst => ?_)
        refine L_op rfl (O_store [I x3.Index, I x3.Term, S x3.Cmd] hst rfl rfl (by kernel_rfl) fun w hst => ?_)
        refine wpL_nil ?_
        refine th_n ?_
        refine wp_reg ?_
        refine L_pure 1 [(2, pt p7 0), (3, pt p8 0), (5, pt p9 0), (18, .slice a1 x1.Log.length c1), (19, I (x1.Log.length : Int)), (20, I v7), (24, pt p8 5)] (by kernel_rfl) fun b => ?_
        refine L_op rfl (O_run (v := .slice a7 v8.length c7) (w' := w) (R_load (hst.pull 3) rfl rfl) rfl rfl ?_)
        refine L_op rfl (O_run (v := .agg #[I x3.Index, I x3.Term, S x3.Cmd]) (w' := w) (R_load hst rfl rfl) rfl rfl ?_)
        refine L_op rfl (O_bs (T := 119) [I x3.Index, I x3.Term, S x3.Cmd] #[(0, .agg #[I x3.Index, I x3.Term, S x3.Cmd])] hst (by kernel_rfl) (by kernel_rfl) rfl fun p10 w hst => ?_)
        have hst := osl_of_blk0 (ecs := [[I x3.Index, I x3.Term, S x3.Cmd]]) r_T_glacierref09_Entry [(T_glacierref09_Entry.mk x3.Index x3.Term x3.Cmd)] rfl (fun m => ⟨⟨(), rfl, trivial⟩, trivial⟩) rfl hst
        obtain ⟨hb2, hr⟩ := chk hr
        refine L_op rfl (O_app_o L69 (hst.pull 3) rfl rfl hb2 rfl fun a10 c10 w hst => ?_)
        refine L_pure 1 [(2, pt p7 0), (3, pt p8 0), (18, .slice a1 x1.Log.length c1), (19, I (x1.Log.length : Int)), (20, I v7), (28, .slice a10 (v8 ++ ([(T_glacierref09_Entry.mk x3.Index x3.Term x3.Cmd)])).length c10), (29, pt p8 5)] (by kernel_rfl) fun b => ?_
        refine L_op rfl (O_store [I x1.Term, I x1.Vote, I x1.Base, I x1.BaseTerm, S x1.Snap, .slice a10 (v8 ++ ([(T_glacierref09_Entry.mk x3.Index x3.Term x3.Cmd)])).length c10] (hst.pull 4) rfl rfl (by kernel_rfl) fun w hst => ?_)
        refine wpL_nil ?_
        refine ib_n (th_n ?_)
        refine wp_reg ?_
        refine L_pure 2 [(2, pt p7 0), (3, pt p8 0), (18, .slice a1 x1.Log.length c1), (19, I (x1.Log.length : Int)), (20, I (IntKind.i64.wrap (v7 + 1)))] (by kernel_rfl) fun b => ?_
        refine wpL_nil ?_
        refine th_n ?_
        have hst := ((((((hst.pull 4).pull 6).pull 6).pull 3).pull 4).cut 5 2)
        exact ⟨(IntKind.i64.wrap (v7 + 1)), (v8 ++ ([(T_glacierref09_Entry.mk x3.Index x3.Term x3.Cmd)])), a10, c10, (kpX [(2, pt p7 0), (3, pt p8 0), (18, .slice a1 x1.Log.length c1), (19, I (x1.Log.length : Int)), (20, I (IntKind.i64.wrap (v7 + 1)))] rfl ⟨hst, hr⟩)⟩
      · have hr := (if_neg (by rw [h]; exact Bool.false_ne_true)).symm.trans hr
        refine wp_exit ?_
        refine th_x (th_x (ib_x (th_n ?_)))
        obtain rfl := Option.some.inj hr
        have hst := (((((hst.pull 4).pull 4).pull 4).pull 4).pull 4)
        exact ⟨a7, c7, (kpX [(2, pt p7 0), (3, pt p8 0)] rfl hst)⟩
def glacierref09_Same_l1 (k : Nat) (x1 : T_glacierref09_State) (x2 : T_glacierref09_State) : Nat → Int → Option (Flow (Bool) (Unit))
  | 0, _ => none
  | j + 1, v4 => (if decide (v4 < (x1.Log.length : Int)) = true then (Option.bind (gt x1.Log v4) fun x5 => (Option.bind (gt x2.Log v4) fun x6 => (if (!(decide (x5 = x6))) = true then some (Flow.ret (false)) else (glacierref09_Same_l1 k x1 x2 j (IntKind.i64.wrap (v4 + 1)))))) else some (Flow.go ()))
def glacierref09_Same (k : Nat) (x1 : T_glacierref09_State) (x2 : T_glacierref09_State) : Option (Bool) := (Option.bind (if (x1.Term != x2.Term) = true then some (true) else (if (x1.Vote != x2.Vote) = true then some (true) else (if (x1.Base != x2.Base) = true then some (true) else (if (x1.BaseTerm != x2.BaseTerm) = true then some (true) else (if (!sEq x1.Snap x2.Snap) = true then some (true) else some (((x1.Log.length : Int) != (x2.Log.length : Int)))))))) fun y3 => (if y3 = true then some (false) else (Option.bind (glacierref09_Same_l1 k x1 x2 k (0 : Int)) fun y4 => (match y4 with | Flow.ret r => some r | Flow.go _ => some (true)))))
set_option maxRecDepth 100000 in
set_option maxHeartbeats 4000000 in
theorem glacierref09_Same_ok {G w : World} {F : List HP} {R : Ending → World → Prop} (k : Nat) (x1 : T_glacierref09_State) (x2 : T_glacierref09_State) (a1 : Option Addr) (c1 : Nat) (a2 : Option Addr) (c2 : Nat) (r : (Bool)) (hst : St G w (dsl r_T_glacierref09_Entry a1 c1 x1.Log :: dsl r_T_glacierref09_Entry a2 c2 x2.Log :: F)) (hr : glacierref09_Same k x1 x2 = some r)
    (hR : ∀ w', St G w' (dsl r_T_glacierref09_Entry a1 c1 x1.Log :: dsl r_T_glacierref09_Entry a2 c2 x2.Log :: F) → R (.returned (.bool r)) w') :
    Calls Try.prog 33 #[.agg #[I x1.Term, I x1.Vote, I x1.Base, I x1.BaseTerm, S x1.Snap, .slice a1 x1.Log.length c1], .agg #[I x2.Term, I x2.Vote, I x2.Base, I x2.BaseTerm, S x2.Snap, .slice a2 x2.Log.length c2]] w R := by
  unfold glacierref09_Same at hr
  refine enter Try.func33 rfl [(0, .agg #[I x1.Term, I x1.Vote, I x1.Base, I x1.BaseTerm, S x1.Snap, .slice a1 x1.Log.length c1]), (1, .agg #[I x2.Term, I x2.Vote, I x2.Base, I x2.BaseTerm, S x2.Snap, .slice a2 x2.Log.length c2])] rfl rfl fun b => ?_
  refine wp_seq ?_
  refine wp_reg ?_
  refine L_op rfl (O_box [I x1.Term, I x1.Vote, I x1.Base, I x1.BaseTerm, S x1.Snap, .slice a1 x1.Log.length c1] hst rfl rfl fun p3 w hst => ?_)
  refine L_op rfl (O_box [I x2.Term, I x2.Vote, I x2.Base, I x2.BaseTerm, S x2.Snap, .slice a2 x2.Log.length c2] hst rfl rfl fun p4 w hst => ?_)
  refine L_pure 1 [(2, pt p3 0), (3, pt p4 0)] (by kernel_rfl) fun b => ?_
  refine wpL_nil ?_
  refine th_n ?_
  refine wp_seq ?_
  obtain ⟨y3, hy3, hk3⟩ := bnd hr
  clear hr
  refine wp_seq_cut (fun a w => ∃ (b : Nat → Value), a = mkF 66 b [(2, pt p3 0), (3, pt p4 0), (47, .bool y3)] ∧ St G w (blk p4 (cl [I x2.Term, I x2.Vote, I x2.Base, I x2.BaseTerm, S x2.Snap, .slice a2 x2.Log.length c2] 71) :: blk p3 (cl [I x1.Term, I x1.Vote, I x1.Base, I x1.BaseTerm, S x1.Snap, .slice a1 x1.Log.length c1] 71) :: dsl r_T_glacierref09_Entry a1 c1 x1.Log :: dsl r_T_glacierref09_Entry a2 c2 x2.Log :: F)) ?_ ?_
  · rintro _ w ⟨b, rfl, hst⟩
    have hr := hk3
    refine wp_cond_mkF (t := y3) rfl (fun h => ?_) (fun h => ?_)
    · have hr := (if_pos h).symm.trans hr
      refine wp_seq ?_
      refine wp_reg ?_
      refine L_pure 1 [(4, .bool false)] (by kernel_rfl) fun b => ?_
      refine wpL_nil ?_
      refine th_n ?_
      refine wp_ret ?_
      refine th_r ?_
      refine ret1 rfl rfl ?_
      obtain rfl := Option.some.inj hr
      have hst := (((hst.pull 3).pull 3).cut 2 2)
      exact hR _ hst
    · have hr := (if_neg (by rw [h]; exact Bool.false_ne_true)).symm.trans hr
      refine wp_skip ?_
      refine th_n ?_
      refine wp_seq ?_
      refine wp_seq ?_
      refine wp_reg ?_
      refine L_pure 1 [(2, pt p3 0), (3, pt p4 0), (48, pt p3 5)] (by kernel_rfl) fun b => ?_
      refine L_op rfl (O_run (v := .slice a1 x1.Log.length c1) (w' := w) (R_load (hst.pull 1) rfl rfl) rfl rfl ?_)
      refine L_pure 2 [(2, pt p3 0), (3, pt p4 0), (50, I (x1.Log.length : Int)), (51, I 0)] (by kernel_rfl) fun b => ?_
      refine wpL_nil ?_
      refine th_n ?_
      obtain ⟨y4, hy4, hk4⟩ := bnd hr
      clear hr
      refine Go.Hx.wp_cut (fun a w => ∃ (z2 : Unit) (b : Nat → Value), y4 = .go z2 ∧ a = mkF 66 b [] ∧ St G w (blk p4 (cl [I x2.Term, I x2.Vote, I x2.Base, I x2.BaseTerm, S x2.Snap, .slice a2 x2.Log.length c2] 71) :: blk p3 (cl [I x1.Term, I x1.Vote, I x1.Base, I x1.BaseTerm, S x1.Snap, .slice a1 x1.Log.length c1] 71) :: dsl r_T_glacierref09_Entry a1 c1 x1.Log :: dsl r_T_glacierref09_Entry a2 c2 x2.Log :: F)) ?_ ?_
      · rintro _ w ⟨z2, b, rfl, rfl, hst⟩
        have hr := hk4
        refine th_n ?_
        refine wp_seq ?_
        refine wp_reg ?_
        refine L_pure 1 [(4, .bool true)] (by kernel_rfl) fun b => ?_
        refine wpL_nil ?_
        refine th_n ?_
        refine wp_ret ?_
        refine ret1 rfl rfl ?_
        obtain rfl := Option.some.inj hr
        have hst := (((hst.pull 3).pull 3).cut 2 2)
        exact hR _ hst
      · have hst := ((((hst.pull 3).pull 3).pull 3).pull 3)
        refine wp_block ?_
        refine wp_loop_fuel (fun j a w => ∃ (v4 : Int) (b : Nat → Value), a = mkF 66 b [(2, pt p3 0), (3, pt p4 0), (50, I (x1.Log.length : Int)), (51, I v4)] ∧ St G w (blk p4 (cl [I x2.Term, I x2.Vote, I x2.Base, I x2.BaseTerm, S x2.Snap, .slice a2 x2.Log.length c2] 71) :: blk p3 (cl [I x1.Term, I x1.Vote, I x1.Base, I x1.BaseTerm, S x1.Snap, .slice a1 x1.Log.length c1] 71) :: dsl r_T_glacierref09_Entry a1 c1 x1.Log :: dsl r_T_glacierref09_Entry a2 c2 x2.Log :: F) ∧ glacierref09_Same_l1 k x1 x2 j v4 = some y4) (k := k) ⟨(0 : Int), (kpX [(2, pt p3 0), (3, pt p4 0), (50, I (x1.Log.length : Int)), (51, I 0)] rfl ⟨hst, hy4⟩)⟩ ?_ ?_
        · rintro _ _ ⟨_, _, _, _, h⟩
          rw [glacierref09_Same_l1] at h
          cases h
        · rintro j _ w ⟨v4, b, rfl, hst, hr⟩
          rw [glacierref09_Same_l1] at hr
          refine wp_seq ?_
          refine wp_reg ?_
          refine L_pure 1 [(2, pt p3 0), (3, pt p4 0), (50, I (x1.Log.length : Int)), (51, I v4), (52, .bool (decide (v4 < (x1.Log.length : Int))))] (by kernel_rfl) fun b => ?_
          refine wpL_nil ?_
          refine th_n ?_
          refine wp_seq ?_
          refine wp_cond_mkF (t := decide (v4 < (x1.Log.length : Int))) rfl (fun h => ?_) (fun h => ?_)
          · have hr := (if_pos h).symm.trans hr
            refine wp_skip ?_
            refine th_n ?_
            refine wp_seq ?_
            refine wp_block ?_
            refine wp_seq ?_
            refine wp_reg ?_
            refine L_pure 2 [(2, pt p3 0), (3, pt p4 0), (5, I v4), (50, I (x1.Log.length : Int)), (51, I v4)] (by kernel_rfl) fun b => ?_
            refine wpL_nil ?_
            refine th_n ?_
            refine wp_seq ?_
            refine wp_regG (SN { w with drawn := w.drawn + 1 }) rfl ?_
            have hst := hst.draw (n := w.drawn + 1)
            generalize { w with drawn := w.drawn + 1 } = w at hst ⊢
            refine C_take (i := 0) (v := pt p3 5) rfl (by kernel_rfl) (fun _ _ _ h => h) rfl rfl rfl (R_pure (by kernel_rfl)) ?_
            refine C_take (i := 1) (v := .slice a1 x1.Log.length c1) rfl (by kernel_rfl) (fun _ _ _ h => h) rfl rfl rfl (R_load (hst.pull 1) rfl rfl) ?_
            refine C_take (i := 2) (v := I v4) rfl (by kernel_rfl) (fun _ _ _ h => h) rfl rfl rfl (R_pure (by kernel_rfl)) ?_
            obtain ⟨x5, hx3, hr⟩ := bnd hr
            refine C_take (i := 3) (v := pt (ab a1) (ao a1 + v4.toNat * 3)) rfl (by kernel_rfl) (fun _ _ _ h => h) rfl rfl rfl (R_ia L69 rfl rfl (dsl_addr (hst.pull 2) hx3) (gt_some hx3).1 (gt_some hx3).2.1) ?_
            obtain ⟨q3, hc3, hst⟩ := dsl_cells (hst.pull 2) hx3
            have hst := hst.drop
            refine C_take (i := 4) (v := .agg #[I x5.Index, I x5.Term, S x5.Cmd]) rfl (by kernel_rfl) (fun _ _ _ h => h) rfl rfl rfl (R_loadAt (off := ao a1 + v4.toNat * 3) (j := 0) hc3 rfl rfl) ?_
            refine C_take (i := 5) (v := pt p4 5) rfl (by kernel_rfl) (fun _ _ _ h => h) rfl rfl rfl (R_pure (by kernel_rfl)) ?_
            refine C_take (i := 6) (v := .slice a2 x2.Log.length c2) rfl (by kernel_rfl) (fun _ _ _ h => h) rfl rfl rfl (R_load (hst.pull 1) rfl rfl) ?_
            refine C_take (i := 7) (v := I v4) rfl (by kernel_rfl) (fun _ _ _ h => h) rfl rfl rfl (R_pure (by kernel_rfl)) ?_
            obtain ⟨x6, hx4, hr⟩ := bnd hr
            refine C_take (i := 8) (v := pt (ab a2) (ao a2 + v4.toNat * 3)) rfl (by kernel_rfl) (fun _ _ _ h => h) rfl rfl rfl (R_ia L69 rfl rfl (dsl_addr (hst.pull 3) hx4) (gt_some hx4).1 (gt_some hx4).2.1) ?_
            obtain ⟨q4, hc4, hst⟩ := dsl_cells (hst.pull 3) hx4
            have hst := hst.drop
            refine C_take (i := 9) (v := .agg #[I x6.Index, I x6.Term, S x6.Cmd]) rfl (by kernel_rfl) (fun _ _ _ h => h) rfl rfl rfl (R_loadAt (off := ao a2 + v4.toNat * 3) (j := 0) hc4 rfl rfl) ?_
            refine C_take (i := 10) (v := .bool (!(decide (x5 = x6)))) rfl (by kernel_rfl) (fun _ _ _ h => h) rfl rfl rfl (R_sne rfl rfl G119 (EQ119 x5 x6 _)) ?_
            refine wpG_done (by kernel_rfl) ?_ _
            refine C_keepQ [(2, pt p3 0), (3, pt p4 0), (50, I (x1.Log.length : Int)), (51, I v4), (64, .bool (!(decide (x5 = x6))))] rfl fun b => ?_
            refine th_n ?_
            refine wp_cond_mkF (t := (!(decide (x5 = x6)))) rfl (fun h => ?_) (fun h => ?_)
            · have hr := (if_pos h).symm.trans hr
              refine wp_seq ?_
              refine wp_reg ?_
              refine L_pure 1 [(4, .bool false)] (by kernel_rfl) fun b => ?_
              refine wpL_nil ?_
              refine th_n ?_
              refine wp_ret ?_
              refine ib_r (th_r (th_r (ib_r (th_r (th_r ?_)))))
              refine ret1 rfl rfl ?_
              obtain rfl := Option.some.inj hr
              obtain rfl := Option.some.inj hk4
              have hst := ((hst.pull 1).cut 2 2)
              exact hR _ hst
            · have hr := (if_neg (by rw [h]; exact Bool.false_ne_true)).symm.trans hr
              refine wp_skip ?_
              refine ib_n (th_n ?_)
              refine wp_reg ?_
              refine L_pure 2 [(2, pt p3 0), (3, pt p4 0), (50, I (x1.Log.length : Int)), (51, I (IntKind.i64.wrap (v4 + 1)))] (by kernel_rfl) fun b => ?_
              refine wpL_nil ?_
              refine th_n ?_
              have hst := (((hst.pull 1).pull 3).pull 3)
              exact ⟨(IntKind.i64.wrap (v4 + 1)), (kpX [(2, pt p3 0), (3, pt p4 0), (50, I (x1.Log.length : Int)), (51, I (IntKind.i64.wrap (v4 + 1)))] rfl ⟨hst, hr⟩)⟩
          · have hr := (if_neg (by rw [h]; exact Bool.false_ne_true)).symm.trans hr
            refine wp_exit ?_
            refine th_x (th_x (ib_x (th_n ?_)))
            obtain rfl := Option.some.inj hr
            have hst := ((((hst.pull 3).pull 3).pull 3).pull 3)
            exact ⟨(), (kpXf [] rfl hst)⟩
  · have hr := hy3
    refine wp_reg ?_
    refine L_pure 1 [(2, pt p3 0), (3, pt p4 0), (6, pt p3 0)] (by kernel_rfl) fun b => ?_
    refine L_op rfl (O_run (v := I x1.Term) (w' := w) (R_load (hst.pull 1) rfl rfl) rfl rfl ?_)
    refine L_pure 1 [(2, pt p3 0), (3, pt p4 0), (7, I x1.Term), (8, pt p4 0)] (by kernel_rfl) fun b => ?_
    refine L_op rfl (O_run (v := I x2.Term) (w' := w) (R_load hst rfl rfl) rfl rfl ?_)
    refine L_pure 2 [(2, pt p3 0), (3, pt p4 0), (11, .bool (x1.Term != x2.Term))] (by kernel_rfl) fun b => ?_
    by_cases h : (x1.Term != x2.Term) = true
    · have hr := (if_pos h).symm.trans hr
      refine L_keep ((11, .bool (x1.Term != x2.Term)) :: [(2, pt p3 0), (3, pt p4 0)]) rfl fun b => ?_
      refine L_bool h ?_
      refine L_pure 36 [(2, pt p3 0), (3, pt p4 0), (47, .bool true)] (by kernel_rfl) fun b => ?_
      refine wpL_nil ?_
      refine th_n ?_
      obtain rfl := Option.some.inj hr
      have hst := ((((hst.pull 3).pull 3).pull 3).pull 3)
      exact (kpX [(2, pt p3 0), (3, pt p4 0), (47, .bool true)] rfl hst)
    · have hr := (if_neg h).symm.trans hr
      refine L_keep ((11, .bool (x1.Term != x2.Term)) :: [(2, pt p3 0), (3, pt p4 0)]) rfl fun b => ?_
      refine L_bool (eq_false_of_ne_true h) ?_
      refine L_pure 1 [(2, pt p3 0), (3, pt p4 0), (11, .bool false), (12, pt p3 1)] (by kernel_rfl) fun b => ?_
      refine L_op rfl (O_run (v := I x1.Vote) (w' := w) (R_load (hst.pull 1) rfl rfl) rfl rfl ?_)
      refine L_pure 1 [(2, pt p3 0), (3, pt p4 0), (11, .bool false), (13, I x1.Vote), (14, pt p4 1)] (by kernel_rfl) fun b => ?_
      refine L_op rfl (O_run (v := I x2.Vote) (w' := w) (R_load hst rfl rfl) rfl rfl ?_)
      refine L_pure 3 [(2, pt p3 0), (3, pt p4 0), (18, .bool (x1.Vote != x2.Vote))] (by kernel_rfl) fun b => ?_
      by_cases h : (x1.Vote != x2.Vote) = true
      · have hr := (if_pos h).symm.trans hr
        refine L_keep ((18, .bool (x1.Vote != x2.Vote)) :: [(2, pt p3 0), (3, pt p4 0)]) rfl fun b => ?_
        refine L_bool h ?_
        refine L_pure 29 [(2, pt p3 0), (3, pt p4 0), (47, .bool true)] (by kernel_rfl) fun b => ?_
        refine wpL_nil ?_
        refine th_n ?_
        obtain rfl := Option.some.inj hr
        have hst := ((((hst.pull 3).pull 3).pull 3).pull 3)
        exact (kpX [(2, pt p3 0), (3, pt p4 0), (47, .bool true)] rfl hst)
      · have hr := (if_neg h).symm.trans hr
        refine L_keep ((18, .bool (x1.Vote != x2.Vote)) :: [(2, pt p3 0), (3, pt p4 0)]) rfl fun b => ?_
        refine L_bool (eq_false_of_ne_true h) ?_
        refine L_pure 1 [(2, pt p3 0), (3, pt p4 0), (18, .bool false), (19, pt p3 2)] (by kernel_rfl) fun b => ?_
        refine L_op rfl (O_run (v := I x1.Base) (w' := w) (R_load (hst.pull 1) rfl rfl) rfl rfl ?_)
        refine L_pure 1 [(2, pt p3 0), (3, pt p4 0), (18, .bool false), (20, I x1.Base), (21, pt p4 2)] (by kernel_rfl) fun b => ?_
        refine L_op rfl (O_run (v := I x2.Base) (w' := w) (R_load hst rfl rfl) rfl rfl ?_)
        refine L_pure 3 [(2, pt p3 0), (3, pt p4 0), (25, .bool (x1.Base != x2.Base))] (by kernel_rfl) fun b => ?_
        by_cases h : (x1.Base != x2.Base) = true
        · have hr := (if_pos h).symm.trans hr
          refine L_keep ((25, .bool (x1.Base != x2.Base)) :: [(2, pt p3 0), (3, pt p4 0)]) rfl fun b => ?_
          refine L_bool h ?_
          refine L_pure 22 [(2, pt p3 0), (3, pt p4 0), (47, .bool true)] (by kernel_rfl) fun b => ?_
          refine wpL_nil ?_
          refine th_n ?_
          obtain rfl := Option.some.inj hr
          have hst := ((((hst.pull 3).pull 3).pull 3).pull 3)
          exact (kpX [(2, pt p3 0), (3, pt p4 0), (47, .bool true)] rfl hst)
        · have hr := (if_neg h).symm.trans hr
          refine L_keep ((25, .bool (x1.Base != x2.Base)) :: [(2, pt p3 0), (3, pt p4 0)]) rfl fun b => ?_
          refine L_bool (eq_false_of_ne_true h) ?_
          refine L_pure 1 [(2, pt p3 0), (3, pt p4 0), (25, .bool false), (26, pt p3 3)] (by kernel_rfl) fun b => ?_
          refine L_op rfl (O_run (v := I x1.BaseTerm) (w' := w) (R_load (hst.pull 1) rfl rfl) rfl rfl ?_)
          refine L_pure 1 [(2, pt p3 0), (3, pt p4 0), (25, .bool false), (27, I x1.BaseTerm), (28, pt p4 3)] (by kernel_rfl) fun b => ?_
          refine L_op rfl (O_run (v := I x2.BaseTerm) (w' := w) (R_load hst rfl rfl) rfl rfl ?_)
          refine L_pure 3 [(2, pt p3 0), (3, pt p4 0), (32, .bool (x1.BaseTerm != x2.BaseTerm))] (by kernel_rfl) fun b => ?_
          by_cases h : (x1.BaseTerm != x2.BaseTerm) = true
          · have hr := (if_pos h).symm.trans hr
            refine L_keep ((32, .bool (x1.BaseTerm != x2.BaseTerm)) :: [(2, pt p3 0), (3, pt p4 0)]) rfl fun b => ?_
            refine L_bool h ?_
            refine L_pure 15 [(2, pt p3 0), (3, pt p4 0), (47, .bool true)] (by kernel_rfl) fun b => ?_
            refine wpL_nil ?_
            refine th_n ?_
            obtain rfl := Option.some.inj hr
            have hst := ((((hst.pull 3).pull 3).pull 3).pull 3)
            exact (kpX [(2, pt p3 0), (3, pt p4 0), (47, .bool true)] rfl hst)
          · have hr := (if_neg h).symm.trans hr
            refine L_keep ((32, .bool (x1.BaseTerm != x2.BaseTerm)) :: [(2, pt p3 0), (3, pt p4 0)]) rfl fun b => ?_
            refine L_bool (eq_false_of_ne_true h) ?_
            refine L_pure 1 [(2, pt p3 0), (3, pt p4 0), (32, .bool false), (33, pt p3 4)] (by kernel_rfl) fun b => ?_
            refine L_op rfl (O_run (v := S x1.Snap) (w' := w) (R_load (hst.pull 1) rfl rfl) rfl rfl ?_)
            refine L_pure 1 [(2, pt p3 0), (3, pt p4 0), (32, .bool false), (34, S x1.Snap), (35, pt p4 4)] (by kernel_rfl) fun b => ?_
            refine L_op rfl (O_run (v := S x2.Snap) (w' := w) (R_load hst rfl rfl) rfl rfl ?_)
            refine L_pure 3 [(2, pt p3 0), (3, pt p4 0), (39, .bool (!sEq x1.Snap x2.Snap))] (by kernel_rfl) fun b => ?_
            by_cases h : (!sEq x1.Snap x2.Snap) = true
            · have hr := (if_pos h).symm.trans hr
              refine L_keep ((39, .bool (!sEq x1.Snap x2.Snap)) :: [(2, pt p3 0), (3, pt p4 0)]) rfl fun b => ?_
              refine L_bool h ?_
              refine L_pure 8 [(2, pt p3 0), (3, pt p4 0), (47, .bool true)] (by kernel_rfl) fun b => ?_
              refine wpL_nil ?_
              refine th_n ?_
              obtain rfl := Option.some.inj hr
              have hst := ((((hst.pull 3).pull 3).pull 3).pull 3)
              exact (kpX [(2, pt p3 0), (3, pt p4 0), (47, .bool true)] rfl hst)
            · have hr := (if_neg h).symm.trans hr
              refine L_keep ((39, .bool (!sEq x1.Snap x2.Snap)) :: [(2, pt p3 0), (3, pt p4 0)]) rfl fun b => ?_
              refine L_bool (eq_false_of_ne_true h) ?_
              refine L_pure 1 [(2, pt p3 0), (3, pt p4 0), (39, .bool false), (40, pt p3 5)] (by kernel_rfl) fun b => ?_
              refine L_op rfl (O_run (v := .slice a1 x1.Log.length c1) (w' := w) (R_load (hst.pull 1) rfl rfl) rfl rfl ?_)
              refine L_pure 2 [(2, pt p3 0), (3, pt p4 0), (39, .bool false), (42, I (x1.Log.length : Int)), (43, pt p4 5)] (by kernel_rfl) fun b => ?_
              refine L_op rfl (O_run (v := .slice a2 x2.Log.length c2) (w' := w) (R_load hst rfl rfl) rfl rfl ?_)
              refine L_pure 3 [(2, pt p3 0), (3, pt p4 0), (47, .bool ((x1.Log.length : Int) != (x2.Log.length : Int)))] (by kernel_rfl) fun b => ?_
              refine wpL_nil ?_
              refine th_n ?_
              obtain rfl := Option.some.inj hr
              have hst := ((((hst.pull 3).pull 3).pull 3).pull 3)
              exact (kpX [(2, pt p3 0), (3, pt p4 0), (47, .bool ((x1.Log.length : Int) != (x2.Log.length : Int)))] rfl hst)
end Go.Proofs.Ythmjdekmacoaaaa
