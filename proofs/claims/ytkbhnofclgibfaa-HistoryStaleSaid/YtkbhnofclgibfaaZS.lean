/- ZS, one part more. -/
import Derived.Test.YtkbhnofclgibfaaZSa
namespace Go.Proofs.Ytkbhnofclgibfaa
open Go.Hx Go.RowKit
def glacierlaw18_awake (k : Nat) : Option (Bool) := (Option.bind (history_Check k ([(T_history_Op.mk 1 ([97]) 1 0 3 0 0 ([])), (T_history_Op.mk 2 ([97]) 0 1 2 0 1 ([]))])) fun y5 => (Option.bind (history_Check k ([(T_history_Op.mk 1 ([97]) 1 0 3 0 0 ([])), (T_history_Op.mk 2 ([97]) 0 1 2 5 0 ([]))])) fun y6 => (Option.bind (history_Check k ([(T_history_Op.mk 1 ([97]) 1 0 3 0 0 ([])), (T_history_Op.mk 2 ([97]) 0 4 5 5 0 ([]))])) fun y7 => (Option.bind (if y5.1 = true then (if y6.1 = true then (if (!y7.1) = true then (if (y5.2 == 0) = true then (if (y6.2 == 0) = true then some ((y7.2 == 0)) else some (false)) else some (false)) else some (false)) else some (false)) else some (false)) fun y8 => some (y8)))))
set_option maxRecDepth 100000 in
set_option maxHeartbeats 4000000 in
theorem glacierlaw18_awake_ok {G w : World} {F : List HP} {R : Ending → World → Prop} (k : Nat) (r : (Bool)) (hst : St G w (F)) (hr : glacierlaw18_awake k = some r)
    (hR : ∀ w', St G w' (F) → R (.returned (.bool r)) w') :
    Calls Try.prog 10 #[] w R := by
  unfold glacierlaw18_awake at hr
  refine enter Try.func10 rfl [] rfl rfl fun b => ?_
  refine wp_seq ?_
  refine wp_reg ?_
  refine L_pure 1 [] (by kernel_rfl) fun b => ?_
  refine wpL_nil ?_
  refine th_n ?_
  refine wp_seq ?_
  refine wp_reg ?_
  refine L_pure 1 [(11, .agg #[I 1, S ([97]), .int .u64 1, I 0, I 3, I 0, .int .u64 0, .slice none 0 0])] (by kernel_rfl) fun b => ?_
  refine L_op rfl (O_alloc (i := Try.t32) (z := .agg #[I 0, S ([]), .int .u64 0, I 0, I 0, I 0, .int .u64 0, .slice none 0 0]) [I 0, S ([]), .int .u64 0, I 0, I 0, I 0, .int .u64 0, .slice none 0 0] hst rfl rfl rfl rfl fun p8 w hst => ?_)
  refine L_op rfl (O_store [I 1, S ([97]), .int .u64 1, I 0, I 3, I 0, .int .u64 0, .slice none 0 0] hst rfl rfl (by kernel_rfl) fun w hst => ?_)
  refine wpL_nil ?_
  refine th_n ?_
  refine wp_seq ?_
  refine wp_reg ?_
  refine L_pure 1 [(1, pt p8 0), (12, .agg #[I 2, S ([97]), .int .u64 0, I 1, I 2, I 0, .int .u64 1, .slice none 0 0])] (by kernel_rfl) fun b => ?_
  refine L_op rfl (O_alloc (i := Try.t32) (z := .agg #[I 0, S ([]), .int .u64 0, I 0, I 0, I 0, .int .u64 0, .slice none 0 0]) [I 0, S ([]), .int .u64 0, I 0, I 0, I 0, .int .u64 0, .slice none 0 0] hst rfl rfl rfl rfl fun p9 w hst => ?_)
  refine L_op rfl (O_store [I 2, S ([97]), .int .u64 0, I 1, I 2, I 0, .int .u64 1, .slice none 0 0] hst rfl rfl (by kernel_rfl) fun w hst => ?_)
  refine wpL_nil ?_
  refine th_n ?_
  refine wp_seq ?_
  refine wp_reg ?_
  refine L_pure 1 [(1, pt p8 0), (2, pt p9 0), (13, .agg #[I 2, S ([97]), .int .u64 0, I 1, I 2, I 5, .int .u64 0, .slice none 0 0])] (by kernel_rfl) fun b => ?_
  refine L_op rfl (O_alloc (i := Try.t32) (z := .agg #[I 0, S ([]), .int .u64 0, I 0, I 0, I 0, .int .u64 0, .slice none 0 0]) [I 0, S ([]), .int .u64 0, I 0, I 0, I 0, .int .u64 0, .slice none 0 0] hst rfl rfl rfl rfl fun p10 w hst => ?_)
  refine L_op rfl (O_store [I 2, S ([97]), .int .u64 0, I 1, I 2, I 5, .int .u64 0, .slice none 0 0] hst rfl rfl (by kernel_rfl) fun w hst => ?_)
  refine wpL_nil ?_
  refine th_n ?_
  refine wp_seq ?_
  refine wp_reg ?_
  refine L_pure 1 [(1, pt p8 0), (2, pt p9 0), (3, pt p10 0), (14, .agg #[I 2, S ([97]), .int .u64 0, I 4, I 5, I 5, .int .u64 0, .slice none 0 0])] (by kernel_rfl) fun b => ?_
  refine L_op rfl (O_alloc (i := Try.t32) (z := .agg #[I 0, S ([]), .int .u64 0, I 0, I 0, I 0, .int .u64 0, .slice none 0 0]) [I 0, S ([]), .int .u64 0, I 0, I 0, I 0, .int .u64 0, .slice none 0 0] hst rfl rfl rfl rfl fun p11 w hst => ?_)
  refine L_op rfl (O_store [I 2, S ([97]), .int .u64 0, I 4, I 5, I 5, .int .u64 0, .slice none 0 0] hst rfl rfl (by kernel_rfl) fun w hst => ?_)
  refine wpL_nil ?_
  refine th_n ?_
  refine wp_seq ?_
  refine wp_reg ?_
  refine L_op rfl (O_run (v := .agg #[I 1, S ([97]), .int .u64 1, I 0, I 3, I 0, .int .u64 0, .slice none 0 0]) (w' := w) (R_load (hst.pull 3) rfl rfl) rfl rfl ?_)
  refine L_op rfl (O_run (v := .agg #[I 2, S ([97]), .int .u64 0, I 1, I 2, I 0, .int .u64 1, .slice none 0 0]) (w' := w) (R_load (hst.pull 2) rfl rfl) rfl rfl ?_)
  have hst := dsl_nil rS hst
  have hst := dsl_nil rS hst
  refine L_op rfl (O_bs (T := 32) [I 1, S ([97]), .int .u64 1, I 0, I 3, I 0, .int .u64 0, .slice none 0 0, I 2, S ([97]), .int .u64 0, I 1, I 2, I 0, .int .u64 1, .slice none 0 0] #[(0, .agg #[I 1, S ([97]), .int .u64 1, I 0, I 3, I 0, .int .u64 0, .slice none 0 0]), (1, .agg #[I 2, S ([97]), .int .u64 0, I 1, I 2, I 0, .int .u64 1, .slice none 0 0])] hst (by kernel_rfl) (by kernel_rfl) rfl fun p12 w hst => ?_)
  have hst := (hst.pull 1).dup
  have hst := hst.dup
  have hst := (((hst.pull 3).pull 1).pull 2).and
  have hst := osl_of_blk (ecs := [[I 1, S ([97]), .int .u64 1, I 0, I 3, I 0, .int .u64 0, .slice none 0 0], [I 2, S ([97]), .int .u64 0, I 1, I 2, I 0, .int .u64 1, .slice none 0 0]]) r_T_history_Op [(T_history_Op.mk 1 ([97]) 1 0 3 0 0 ([])), (T_history_Op.mk 2 ([97]) 0 1 2 0 1 ([]))] rfl (fun m h => ⟨⟨((none, 0)), rfl, h.1⟩, ⟨((none, 0)), rfl, h.2⟩, trivial⟩) rfl hst
  obtain ⟨y5, hy5, hr⟩ := bnd hr
  refine L_op rfl (O_call (vs := #[.slice (some ⟨p12, 0, none⟩) ([(T_history_Op.mk 1 ([97]) 1 0 3 0 0 ([])), (T_history_Op.mk 2 ([97]) 0 1 2 0 1 ([]))]).length 2]) Try.call9 (by kernel_rfl) (history_Check_ok k ([(T_history_Op.mk 1 ([97]) 1 0 3 0 0 ([])), (T_history_Op.mk 2 ([97]) 0 1 2 0 1 ([]))]) (some ⟨p12, 0, none⟩) 2 y5 hst hy5 fun w hst => ?_))
  refine CK_ret rfl ?_
  refine L_pure 5 [(1, pt p8 0), (3, pt p10 0), (4, pt p11 0), (5, .bool y5.1), (6, I y5.2)] (by kernel_rfl) fun b => ?_
  refine wpL_nil ?_
  refine th_n ?_
  refine wp_seq ?_
  refine wp_reg ?_
  refine L_op rfl (O_run (v := .agg #[I 1, S ([97]), .int .u64 1, I 0, I 3, I 0, .int .u64 0, .slice none 0 0]) (w' := w) (R_load (hst.pull 6) rfl rfl) rfl rfl ?_)
  refine L_op rfl (O_run (v := .agg #[I 2, S ([97]), .int .u64 0, I 1, I 2, I 5, .int .u64 0, .slice none 0 0]) (w' := w) (R_load (hst.pull 4) rfl rfl) rfl rfl ?_)
  have hst := dsl_nil rS hst
  have hst := dsl_nil rS hst
  refine L_op rfl (O_bs (T := 32) [I 1, S ([97]), .int .u64 1, I 0, I 3, I 0, .int .u64 0, .slice none 0 0, I 2, S ([97]), .int .u64 0, I 1, I 2, I 5, .int .u64 0, .slice none 0 0] #[(0, .agg #[I 1, S ([97]), .int .u64 1, I 0, I 3, I 0, .int .u64 0, .slice none 0 0]), (1, .agg #[I 2, S ([97]), .int .u64 0, I 1, I 2, I 5, .int .u64 0, .slice none 0 0])] hst (by kernel_rfl) (by kernel_rfl) rfl fun p13 w hst => ?_)
  have hst := (hst.pull 1).dup
  have hst := hst.dup
  have hst := (((hst.pull 3).pull 1).pull 2).and
  have hst := osl_of_blk (ecs := [[I 1, S ([97]), .int .u64 1, I 0, I 3, I 0, .int .u64 0, .slice none 0 0], [I 2, S ([97]), .int .u64 0, I 1, I 2, I 5, .int .u64 0, .slice none 0 0]]) r_T_history_Op [(T_history_Op.mk 1 ([97]) 1 0 3 0 0 ([])), (T_history_Op.mk 2 ([97]) 0 1 2 5 0 ([]))] rfl (fun m h => ⟨⟨((none, 0)), rfl, h.1⟩, ⟨((none, 0)), rfl, h.2⟩, trivial⟩) rfl hst
  obtain ⟨y6, hy6, hr⟩ := bnd hr
  refine L_op rfl (O_call (vs := #[.slice (some ⟨p13, 0, none⟩) ([(T_history_Op.mk 1 ([97]) 1 0 3 0 0 ([])), (T_history_Op.mk 2 ([97]) 0 1 2 5 0 ([]))]).length 2]) Try.call9 (by kernel_rfl) (history_Check_ok k ([(T_history_Op.mk 1 ([97]) 1 0 3 0 0 ([])), (T_history_Op.mk 2 ([97]) 0 1 2 5 0 ([]))]) (some ⟨p13, 0, none⟩) 2 y6 hst hy6 fun w hst => ?_))
  refine CK_ret rfl ?_
  refine L_pure 5 [(1, pt p8 0), (4, pt p11 0), (5, .bool y5.1), (6, I y5.2), (7, .bool y6.1), (8, I y6.2)] (by kernel_rfl) fun b => ?_
  refine wpL_nil ?_
  refine th_n ?_
  refine wp_seq ?_
  refine wp_reg ?_
  refine L_op rfl (O_run (v := .agg #[I 1, S ([97]), .int .u64 1, I 0, I 3, I 0, .int .u64 0, .slice none 0 0]) (w' := w) (R_load (hst.pull 9) rfl rfl) rfl rfl ?_)
  refine L_op rfl (O_run (v := .agg #[I 2, S ([97]), .int .u64 0, I 4, I 5, I 5, .int .u64 0, .slice none 0 0]) (w' := w) (R_load (hst.pull 6) rfl rfl) rfl rfl ?_)
  have hst := dsl_nil rS hst
  have hst := dsl_nil rS hst
  refine L_op rfl (O_bs (T := 32) [I 1, S ([97]), .int .u64 1, I 0, I 3, I 0, .int .u64 0, .slice none 0 0, I 2, S ([97]), .int .u64 0, I 4, I 5, I 5, .int .u64 0, .slice none 0 0] #[(0, .agg #[I 1, S ([97]), .int .u64 1, I 0, I 3, I 0, .int .u64 0, .slice none 0 0]), (1, .agg #[I 2, S ([97]), .int .u64 0, I 4, I 5, I 5, .int .u64 0, .slice none 0 0])] hst (by kernel_rfl) (by kernel_rfl) rfl fun p14 w hst => ?_)
  have hst := (hst.pull 1).dup
  have hst := hst.dup
  have hst := (((hst.pull 3).pull 1).pull 2).and
  have hst := osl_of_blk (ecs := [[I 1, S ([97]), .int .u64 1, I 0, I 3, I 0, .int .u64 0, .slice none 0 0], [I 2, S ([97]), .int .u64 0, I 4, I 5, I 5, .int .u64 0, .slice none 0 0]]) r_T_history_Op [(T_history_Op.mk 1 ([97]) 1 0 3 0 0 ([])), (T_history_Op.mk 2 ([97]) 0 4 5 5 0 ([]))] rfl (fun m h => ⟨⟨((none, 0)), rfl, h.1⟩, ⟨((none, 0)), rfl, h.2⟩, trivial⟩) rfl hst
  obtain ⟨y7, hy7, hr⟩ := bnd hr
  refine L_op rfl (O_call (vs := #[.slice (some ⟨p14, 0, none⟩) ([(T_history_Op.mk 1 ([97]) 1 0 3 0 0 ([])), (T_history_Op.mk 2 ([97]) 0 4 5 5 0 ([]))]).length 2]) Try.call9 (by kernel_rfl) (history_Check_ok k ([(T_history_Op.mk 1 ([97]) 1 0 3 0 0 ([])), (T_history_Op.mk 2 ([97]) 0 4 5 5 0 ([]))]) (some ⟨p14, 0, none⟩) 2 y7 hst hy7 fun w hst => ?_))
  refine CK_ret rfl ?_
  refine L_pure 5 [(5, .bool y5.1), (6, I y5.2), (7, .bool y6.1), (8, I y6.2), (9, .bool y7.1), (10, I y7.2)] (by kernel_rfl) fun b => ?_
  refine wpL_nil ?_
  refine th_n ?_
  obtain ⟨y8, hy8, hk2⟩ := bnd hr
  clear hr
  refine wp_seq_cut (fun a w => ∃ (b : Nat → Value), a = mkF 56 b [(0, .bool y8)] ∧ St G w (osl r_T_history_Op 32 (some ⟨p14, 0, none⟩) 2 ([(T_history_Op.mk 1 ([97]) 1 0 3 0 0 ([])), (T_history_Op.mk 2 ([97]) 0 4 5 5 0 ([]))]) :: dsl rS none 0 ([]) :: dsl rS none 0 ([]) :: osl r_T_history_Op 32 (some ⟨p13, 0, none⟩) 2 ([(T_history_Op.mk 1 ([97]) 1 0 3 0 0 ([])), (T_history_Op.mk 2 ([97]) 0 1 2 5 0 ([]))]) :: dsl rS none 0 ([]) :: dsl rS none 0 ([]) :: osl r_T_history_Op 32 (some ⟨p12, 0, none⟩) 2 ([(T_history_Op.mk 1 ([97]) 1 0 3 0 0 ([])), (T_history_Op.mk 2 ([97]) 0 1 2 0 1 ([]))]) :: dsl rS none 0 ([]) :: dsl rS none 0 ([]) :: blk p11 (cl [I 2, S ([97]), .int .u64 0, I 4, I 5, I 5, .int .u64 0, .slice none 0 0] 32) :: blk p10 (cl [I 2, S ([97]), .int .u64 0, I 1, I 2, I 5, .int .u64 0, .slice none 0 0] 32) :: blk p9 (cl [I 2, S ([97]), .int .u64 0, I 1, I 2, I 0, .int .u64 1, .slice none 0 0] 32) :: blk p8 (cl [I 1, S ([97]), .int .u64 1, I 0, I 3, I 0, .int .u64 0, .slice none 0 0] 32) :: F)) ?_ ?_
  · rintro _ w ⟨b, rfl, hst⟩
    have hr := hk2
    refine wp_ret ?_
    refine ret1 rfl rfl ?_
    obtain rfl := Option.some.inj hr
    have hst := (hst.cut 0 13)
    exact hR _ hst
  · have hr := hy8
    refine wp_reg ?_
    refine L_pure 2 [(6, I y5.2), (7, .bool y6.1), (8, I y6.2), (9, .bool y7.1), (10, I y7.2), (37, .bool y5.1)] (by kernel_rfl) fun b => ?_
    by_cases h : y5.1 = true
    · have hr := (if_pos h).symm.trans hr
      refine L_keep ((37, .bool y5.1) :: [(6, I y5.2), (7, .bool y6.1), (8, I y6.2), (9, .bool y7.1), (10, I y7.2)]) rfl fun b => ?_
      refine L_bool h ?_
      refine L_pure 3 [(6, I y5.2), (8, I y6.2), (9, .bool y7.1), (10, I y7.2), (40, .bool y6.1)] (by kernel_rfl) fun b => ?_
      by_cases h : y6.1 = true
      · have hr := (if_pos h).symm.trans hr
        refine L_keep ((40, .bool y6.1) :: [(6, I y5.2), (8, I y6.2), (9, .bool y7.1), (10, I y7.2)]) rfl fun b => ?_
        refine L_bool h ?_
        refine L_pure 4 [(6, I y5.2), (8, I y6.2), (10, I y7.2), (44, .bool (!y7.1))] (by kernel_rfl) fun b => ?_
        by_cases h : (!y7.1) = true
        · have hr := (if_pos h).symm.trans hr
          refine L_keep ((44, .bool (!y7.1)) :: [(6, I y5.2), (8, I y6.2), (10, I y7.2)]) rfl fun b => ?_
          refine L_bool h ?_
          refine L_pure 4 [(8, I y6.2), (10, I y7.2), (48, .bool (y5.2 == 0))] (by kernel_rfl) fun b => ?_
          by_cases h : (y5.2 == 0) = true
          · have hr := (if_pos h).symm.trans hr
            refine L_keep ((48, .bool (y5.2 == 0)) :: [(8, I y6.2), (10, I y7.2)]) rfl fun b => ?_
            refine L_bool h ?_
            refine L_pure 4 [(10, I y7.2), (52, .bool (y6.2 == 0))] (by kernel_rfl) fun b => ?_
            by_cases h : (y6.2 == 0) = true
            · have hr := (if_pos h).symm.trans hr
              refine L_keep ((52, .bool (y6.2 == 0)) :: [(10, I y7.2)]) rfl fun b => ?_
              refine L_bool h ?_
              refine L_pure 4 [(0, .bool (y7.2 == 0))] (by kernel_rfl) fun b => ?_
              refine wpL_nil ?_
              refine th_n ?_
              obtain rfl := Option.some.inj hr
              have hst := (((((((((((((hst.pull 12).pull 12).pull 12).pull 12).pull 12).pull 12).pull 12).pull 12).pull 12).pull 12).pull 12).pull 12).pull 12)
              exact (kpX [(0, .bool (y7.2 == 0))] rfl hst)
            · have hr := (if_neg h).symm.trans hr
              refine L_keep ((52, .bool (y6.2 == 0)) :: [(10, I y7.2)]) rfl fun b => ?_
              refine L_bool (eq_false_of_ne_true h) ?_
              refine L_pure 4 [(0, .bool false)] (by kernel_rfl) fun b => ?_
              refine wpL_nil ?_
              refine th_n ?_
              obtain rfl := Option.some.inj hr
              have hst := (((((((((((((hst.pull 12).pull 12).pull 12).pull 12).pull 12).pull 12).pull 12).pull 12).pull 12).pull 12).pull 12).pull 12).pull 12)
              exact (kpX [(0, .bool false)] rfl hst)
          · have hr := (if_neg h).symm.trans hr
            refine L_keep ((48, .bool (y5.2 == 0)) :: [(8, I y6.2), (10, I y7.2)]) rfl fun b => ?_
            refine L_bool (eq_false_of_ne_true h) ?_
            refine L_pure 8 [(0, .bool false)] (by kernel_rfl) fun b => ?_
            refine wpL_nil ?_
            refine th_n ?_
            obtain rfl := Option.some.inj hr
            have hst := (((((((((((((hst.pull 12).pull 12).pull 12).pull 12).pull 12).pull 12).pull 12).pull 12).pull 12).pull 12).pull 12).pull 12).pull 12)
            exact (kpX [(0, .bool false)] rfl hst)
        · have hr := (if_neg h).symm.trans hr
          refine L_keep ((44, .bool (!y7.1)) :: [(6, I y5.2), (8, I y6.2), (10, I y7.2)]) rfl fun b => ?_
          refine L_bool (eq_false_of_ne_true h) ?_
          refine L_pure 12 [(0, .bool false)] (by kernel_rfl) fun b => ?_
          refine wpL_nil ?_
          refine th_n ?_
          obtain rfl := Option.some.inj hr
          have hst := (((((((((((((hst.pull 12).pull 12).pull 12).pull 12).pull 12).pull 12).pull 12).pull 12).pull 12).pull 12).pull 12).pull 12).pull 12)
          exact (kpX [(0, .bool false)] rfl hst)
      · have hr := (if_neg h).symm.trans hr
        refine L_keep ((40, .bool y6.1) :: [(6, I y5.2), (8, I y6.2), (9, .bool y7.1), (10, I y7.2)]) rfl fun b => ?_
        refine L_bool (eq_false_of_ne_true h) ?_
        refine L_pure 16 [(0, .bool false)] (by kernel_rfl) fun b => ?_
        refine wpL_nil ?_
        refine th_n ?_
        obtain rfl := Option.some.inj hr
        have hst := (((((((((((((hst.pull 12).pull 12).pull 12).pull 12).pull 12).pull 12).pull 12).pull 12).pull 12).pull 12).pull 12).pull 12).pull 12)
        exact (kpX [(0, .bool false)] rfl hst)
    · have hr := (if_neg h).symm.trans hr
      refine L_keep ((37, .bool y5.1) :: [(6, I y5.2), (7, .bool y6.1), (8, I y6.2), (9, .bool y7.1), (10, I y7.2)]) rfl fun b => ?_
      refine L_bool (eq_false_of_ne_true h) ?_
      refine L_pure 19 [(0, .bool false)] (by kernel_rfl) fun b => ?_
      refine wpL_nil ?_
      refine th_n ?_
      obtain rfl := Option.some.inj hr
      have hst := (((((((((((((hst.pull 12).pull 12).pull 12).pull 12).pull 12).pull 12).pull 12).pull 12).pull 12).pull 12).pull 12).pull 12).pull 12)
      exact (kpX [(0, .bool false)] rfl hst)
def glacierlaw18_HistoryStale (k : Nat) (x1 : Int) (x2 : Int) (x3 : Int) : Option (Bool) := (Option.bind (Option.bind (glacierlaw18_awake k) fun y7 => (if (!y7) = true then some (true) else (if (x1 == x2) = true then some (true) else (if decide (x3 < 0) = true then some (true) else some (decide (x3 > 1000)))))) fun y6 => (if y6 = true then (Option.bind (glacierlaw18_awake k) fun y8 => some (y8)) else (Option.bind (history_Check k ([(T_history_Op.mk 1 ([97]) x1 0 1 0 0 ([])), (T_history_Op.mk 1 ([97]) x2 2 3 0 0 ([])), (T_history_Op.mk 2 ([97]) 0 (IntKind.i64.wrap (3 + x3)) (IntKind.i64.wrap (4 + x3)) 0 x1 ([]))])) fun y9 => (Option.bind (if (y9.2 == 0) = true then some ((y9.1 == (x3 == 0))) else some (false)) fun y10 => some (y10)))))
set_option maxRecDepth 100000 in
set_option maxHeartbeats 4000000 in
theorem glacierlaw18_HistoryStale_ok {G w : World} {F : List HP} {R : Ending → World → Prop} (k : Nat) (x1 : Int) (x2 : Int) (x3 : Int) (r : (Bool)) (hst : St G w (F)) (hr : glacierlaw18_HistoryStale k x1 x2 x3 = some r)
    (hR : ∀ w', St G w' (F) → R (.returned (.bool r)) w') :
    Calls Try.prog 4 #[.int .u64 x1, .int .u64 x2, I x3] w R := by
  unfold glacierlaw18_HistoryStale at hr
  refine enter Try.func4 rfl [(0, .int .u64 x1), (1, .int .u64 x2), (2, I x3)] rfl rfl fun b => ?_
  refine wp_seq ?_
  refine wp_reg ?_
  refine L_pure 1 [(0, .int .u64 x1), (1, .int .u64 x2), (2, I x3)] (by kernel_rfl) fun b => ?_
  refine wpL_nil ?_
  refine th_n ?_
  refine wp_seq ?_
  obtain ⟨y6, hy6, hk3⟩ := bnd hr
  clear hr
  refine wp_seq_cut (fun a w => ∃ (b : Nat → Value), a = mkF 50 b [(0, .int .u64 x1), (1, .int .u64 x2), (2, I x3), (24, .bool y6)] ∧ St G w (F)) ?_ ?_
  · rintro _ w ⟨b, rfl, hst⟩
    have hr := hk3
    refine wp_cond_mkF (t := y6) rfl (fun h => ?_) (fun h => ?_)
    · have hr := (if_pos h).symm.trans hr
      refine wp_seq ?_
      refine wp_reg ?_
      obtain ⟨y8, hy8, hr⟩ := bnd hr
      refine L_op rfl (O_call (vs := #[]) Try.call10 (by kernel_rfl) (glacierlaw18_awake_ok k y8 hst hy8 fun w hst => ?_))
      refine CK_ret rfl ?_
      refine L_pure 1 [(6, .bool y8)] (by kernel_rfl) fun b => ?_
      refine wpL_nil ?_
      refine th_n ?_
      refine wp_ret ?_
      refine th_r ?_
      refine ret1 rfl rfl ?_
      obtain rfl := Option.some.inj hr
      exact hR _ hst
    · have hr := (if_neg (by rw [h]; exact Bool.false_ne_true)).symm.trans hr
      refine wp_skip ?_
      refine th_n ?_
      refine wp_seq ?_
      refine wp_reg ?_
      refine L_pure 10 [(2, I x3), (27, .agg #[I 1, S ([97]), .int .u64 x1, I 0, I 1, I 0, .int .u64 0, .slice none 0 0]), (29, .agg #[I 1, S ([97]), .int .u64 x2, I 2, I 3, I 0, .int .u64 0, .slice none 0 0]), (35, .agg #[I 2, S ([97]), .int .u64 0, I (IntKind.i64.wrap (3 + x3)), I (IntKind.i64.wrap (4 + x3)), I 0, .int .u64 x1, .slice none 0 0])] (by kernel_rfl) fun b => ?_
      have hst := dsl_nil rS hst
      have hst := dsl_nil rS hst
      have hst := dsl_nil rS hst
      refine L_op rfl (O_bs (T := 32) [I 1, S ([97]), .int .u64 x1, I 0, I 1, I 0, .int .u64 0, .slice none 0 0, I 1, S ([97]), .int .u64 x2, I 2, I 3, I 0, .int .u64 0, .slice none 0 0, I 2, S ([97]), .int .u64 0, I (IntKind.i64.wrap (3 + x3)), I (IntKind.i64.wrap (4 + x3)), I 0, .int .u64 x1, .slice none 0 0] #[(0, .agg #[I 1, S ([97]), .int .u64 x1, I 0, I 1, I 0, .int .u64 0, .slice none 0 0]), (1, .agg #[I 1, S ([97]), .int .u64 x2, I 2, I 3, I 0, .int .u64 0, .slice none 0 0]), (2, .agg #[I 2, S ([97]), .int .u64 0, I (IntKind.i64.wrap (3 + x3)), I (IntKind.i64.wrap (4 + x3)), I 0, .int .u64 x1, .slice none 0 0])] hst (by kernel_rfl) (by kernel_rfl) rfl fun p2 w hst => ?_)
      have hst := (hst.pull 1).dup
      have hst := hst.dup
      have hst := hst.dup
      have hst := ((((hst.pull 4).pull 1).pull 2).pull 3).and.and
      have hst := osl_of_blk (ecs := [[I 1, S ([97]), .int .u64 x1, I 0, I 1, I 0, .int .u64 0, .slice none 0 0], [I 1, S ([97]), .int .u64 x2, I 2, I 3, I 0, .int .u64 0, .slice none 0 0], [I 2, S ([97]), .int .u64 0, I (IntKind.i64.wrap (3 + x3)), I (IntKind.i64.wrap (4 + x3)), I 0, .int .u64 x1, .slice none 0 0]]) r_T_history_Op [(T_history_Op.mk 1 ([97]) x1 0 1 0 0 ([])), (T_history_Op.mk 1 ([97]) x2 2 3 0 0 ([])), (T_history_Op.mk 2 ([97]) 0 (IntKind.i64.wrap (3 + x3)) (IntKind.i64.wrap (4 + x3)) 0 x1 ([]))] rfl (fun m h => ⟨⟨((none, 0)), rfl, h.1.1⟩, ⟨((none, 0)), rfl, h.1.2⟩, ⟨((none, 0)), rfl, h.2⟩, trivial⟩) rfl hst
      refine L_pure 1 [(2, I x3), (7, .slice (some ⟨p2, 0, none⟩) ([(T_history_Op.mk 1 ([97]) x1 0 1 0 0 ([])), (T_history_Op.mk 1 ([97]) x2 2 3 0 0 ([])), (T_history_Op.mk 2 ([97]) 0 (IntKind.i64.wrap (3 + x3)) (IntKind.i64.wrap (4 + x3)) 0 x1 ([]))]).length 3)] (by kernel_rfl) fun b => ?_
      refine wpL_nil ?_
      refine th_n ?_
      refine wp_seq ?_
      refine wp_reg ?_
      refine L_pure 1 [(2, I x3), (38, .slice (some ⟨p2, 0, none⟩) ([(T_history_Op.mk 1 ([97]) x1 0 1 0 0 ([])), (T_history_Op.mk 1 ([97]) x2 2 3 0 0 ([])), (T_history_Op.mk 2 ([97]) 0 (IntKind.i64.wrap (3 + x3)) (IntKind.i64.wrap (4 + x3)) 0 x1 ([]))]).length 3)] (by kernel_rfl) fun b => ?_
      obtain ⟨y9, hy9, hr⟩ := bnd hr
      refine L_op rfl (O_call (vs := #[.slice (some ⟨p2, 0, none⟩) ([(T_history_Op.mk 1 ([97]) x1 0 1 0 0 ([])), (T_history_Op.mk 1 ([97]) x2 2 3 0 0 ([])), (T_history_Op.mk 2 ([97]) 0 (IntKind.i64.wrap (3 + x3)) (IntKind.i64.wrap (4 + x3)) 0 x1 ([]))]).length 3]) Try.call9 (by kernel_rfl) (history_Check_ok k ([(T_history_Op.mk 1 ([97]) x1 0 1 0 0 ([])), (T_history_Op.mk 1 ([97]) x2 2 3 0 0 ([])), (T_history_Op.mk 2 ([97]) 0 (IntKind.i64.wrap (3 + x3)) (IntKind.i64.wrap (4 + x3)) 0 x1 ([]))]) (some ⟨p2, 0, none⟩) 3 y9 hst hy9 fun w hst => ?_))
      refine CK_ret rfl ?_
      refine L_pure 5 [(2, I x3), (8, .bool y9.1), (9, I y9.2)] (by kernel_rfl) fun b => ?_
      refine wpL_nil ?_
      refine th_n ?_
      obtain ⟨y10, hy10, hk4⟩ := bnd hr
      clear hr
      refine wp_seq_cut (fun a w => ∃ (b : Nat → Value), a = mkF 50 b [(6, .bool y10)] ∧ St G w (osl r_T_history_Op 32 (some ⟨p2, 0, none⟩) 3 ([(T_history_Op.mk 1 ([97]) x1 0 1 0 0 ([])), (T_history_Op.mk 1 ([97]) x2 2 3 0 0 ([])), (T_history_Op.mk 2 ([97]) 0 (IntKind.i64.wrap (3 + x3)) (IntKind.i64.wrap (4 + x3)) 0 x1 ([]))]) :: dsl rS none 0 ([]) :: dsl rS none 0 ([]) :: dsl rS none 0 ([]) :: F)) ?_ ?_
      · rintro _ w ⟨b, rfl, hst⟩
        have hr := hk4
        refine wp_ret ?_
        refine ret1 rfl rfl ?_
        obtain rfl := Option.some.inj hr
        have hst := (hst.cut 0 4)
        exact hR _ hst
      · have hr := hy10
        refine wp_reg ?_
        refine L_pure 3 [(2, I x3), (8, .bool y9.1), (44, .bool (y9.2 == 0))] (by kernel_rfl) fun b => ?_
        by_cases h : (y9.2 == 0) = true
        · have hr := (if_pos h).symm.trans hr
          refine L_keep ((44, .bool (y9.2 == 0)) :: [(2, I x3), (8, .bool y9.1)]) rfl fun b => ?_
          refine L_bool h ?_
          refine L_pure 6 [(6, .bool (y9.1 == (x3 == 0)))] (by kernel_rfl) fun b => ?_
          refine wpL_nil ?_
          refine th_n ?_
          obtain rfl := Option.some.inj hr
          have hst := ((((hst.pull 3).pull 3).pull 3).pull 3)
          exact (kpX [(6, .bool (y9.1 == (x3 == 0)))] rfl hst)
        · have hr := (if_neg h).symm.trans hr
          refine L_keep ((44, .bool (y9.2 == 0)) :: [(2, I x3), (8, .bool y9.1)]) rfl fun b => ?_
          refine L_bool (eq_false_of_ne_true h) ?_
          refine L_pure 6 [(6, .bool false)] (by kernel_rfl) fun b => ?_
          refine wpL_nil ?_
          refine th_n ?_
          obtain rfl := Option.some.inj hr
          have hst := ((((hst.pull 3).pull 3).pull 3).pull 3)
          exact (kpX [(6, .bool false)] rfl hst)
  · have hr := hy6
    refine wp_reg ?_
    obtain ⟨y7, hy7, hr⟩ := bnd hr
    refine L_op rfl (O_call (vs := #[]) Try.call10 (by kernel_rfl) (glacierlaw18_awake_ok k y7 hst hy7 fun w hst => ?_))
    refine CK_ret rfl ?_
    refine L_pure 2 [(0, .int .u64 x1), (1, .int .u64 x2), (2, I x3), (12, .bool (!y7))] (by kernel_rfl) fun b => ?_
    by_cases h : (!y7) = true
    · have hr := (if_pos h).symm.trans hr
      refine L_keep ((12, .bool (!y7)) :: [(0, .int .u64 x1), (1, .int .u64 x2), (2, I x3)]) rfl fun b => ?_
      refine L_bool h ?_
      refine L_pure 12 [(0, .int .u64 x1), (1, .int .u64 x2), (2, I x3), (24, .bool true)] (by kernel_rfl) fun b => ?_
      refine wpL_nil ?_
      refine th_n ?_
      obtain rfl := Option.some.inj hr
      exact (kpX [(0, .int .u64 x1), (1, .int .u64 x2), (2, I x3), (24, .bool true)] rfl hst)
    · have hr := (if_neg h).symm.trans hr
      refine L_keep ((12, .bool (!y7)) :: [(0, .int .u64 x1), (1, .int .u64 x2), (2, I x3)]) rfl fun b => ?_
      refine L_bool (eq_false_of_ne_true h) ?_
      refine L_pure 5 [(0, .int .u64 x1), (1, .int .u64 x2), (2, I x3), (17, .bool (x1 == x2))] (by kernel_rfl) fun b => ?_
      by_cases h : (x1 == x2) = true
      · have hr := (if_pos h).symm.trans hr
        refine L_keep ((17, .bool (x1 == x2)) :: [(0, .int .u64 x1), (1, .int .u64 x2), (2, I x3)]) rfl fun b => ?_
        refine L_bool h ?_
        refine L_pure 7 [(0, .int .u64 x1), (1, .int .u64 x2), (2, I x3), (24, .bool true)] (by kernel_rfl) fun b => ?_
        refine wpL_nil ?_
        refine th_n ?_
        obtain rfl := Option.some.inj hr
        exact (kpX [(0, .int .u64 x1), (1, .int .u64 x2), (2, I x3), (24, .bool true)] rfl hst)
      · have hr := (if_neg h).symm.trans hr
        refine L_keep ((17, .bool (x1 == x2)) :: [(0, .int .u64 x1), (1, .int .u64 x2), (2, I x3)]) rfl fun b => ?_
        refine L_bool (eq_false_of_ne_true h) ?_
        refine L_pure 4 [(0, .int .u64 x1), (1, .int .u64 x2), (2, I x3), (21, .bool (decide (x3 < 0)))] (by kernel_rfl) fun b => ?_
        by_cases h : (decide (x3 < 0)) = true
        · have hr := (if_pos h).symm.trans hr
          refine L_keep ((21, .bool (decide (x3 < 0))) :: [(0, .int .u64 x1), (1, .int .u64 x2), (2, I x3)]) rfl fun b => ?_
          refine L_bool h ?_
          refine L_pure 3 [(0, .int .u64 x1), (1, .int .u64 x2), (2, I x3), (24, .bool true)] (by kernel_rfl) fun b => ?_
          refine wpL_nil ?_
          refine th_n ?_
          obtain rfl := Option.some.inj hr
          exact (kpX [(0, .int .u64 x1), (1, .int .u64 x2), (2, I x3), (24, .bool true)] rfl hst)
        · have hr := (if_neg h).symm.trans hr
          refine L_keep ((21, .bool (decide (x3 < 0))) :: [(0, .int .u64 x1), (1, .int .u64 x2), (2, I x3)]) rfl fun b => ?_
          refine L_bool (eq_false_of_ne_true h) ?_
          refine L_pure 3 [(0, .int .u64 x1), (1, .int .u64 x2), (2, I x3), (24, .bool (decide (x3 > 1000)))] (by kernel_rfl) fun b => ?_
          refine wpL_nil ?_
          refine th_n ?_
          obtain rfl := Option.some.inj hr
          exact (kpX [(0, .int .u64 x1), (1, .int .u64 x2), (2, I x3), (24, .bool (decide (x3 > 1000)))] rfl hst)
end Go.Proofs.Ytkbhnofclgibfaa
