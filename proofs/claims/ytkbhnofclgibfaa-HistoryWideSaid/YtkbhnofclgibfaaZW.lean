/- ZW, one part more. -/
import Derived.Test.YtkbhnofclgibfaaZWa
namespace Go.Proofs.Ytkbhnofclgibfaa
open Go.Hx Go.RowKit
def history_Check_l1 (k : Nat) (x1 : (List T_history_Op)) : Nat → Int → Option (Flow (Bool × Int) (Unit))
  | 0, _ => none
  | j + 1, v4 => (if decide (v4 < (x1.length : Int)) = true then (Option.bind (gt x1 v4) fun x3 => (Option.bind (if decide (x3.Kind < 1) = true then some (true) else (if decide (x3.Kind > 5) = true then some (true) else (if decide ((x3.Name.length : Int) > 32) = true then some (true) else (if decide (x3.End ≥ 0) = true then some (decide (x3.End < x3.Start)) else some (false))))) fun y5 => (if y5 = true then some (Flow.ret (false, (1 : Int))) else (history_Check_l1 k x1 j (IntKind.i64.wrap (v4 + 1)))))) else some (Flow.go ()))
def history_Check (k : Nat) (x1 : (List T_history_Op)) : Option (Bool × Int) := (if decide ((x1.length : Int) > 20) = true then some (false, (11 : Int)) else (Option.bind (history_Check_l1 k x1 k (0 : Int)) fun y4 => (match y4 with | Flow.ret r => some r | Flow.go _ => (Option.bind (history_search_try k x1 ([] : (List (T_history_key × Int))) 0 ([])) fun y6 => some (y6.1, (0 : Int))))))
set_option maxRecDepth 100000 in
set_option maxHeartbeats 4000000 in
theorem history_Check_ok {G w : World} {F : List HP} {R : Ending → World → Prop} (k : Nat) (x1 : (List T_history_Op)) (a1 : Option Addr) (c1 : Nat) (r : (Bool × Int)) (hst : St G w (osl r_T_history_Op 32 a1 c1 x1 :: F)) (hr : history_Check k x1 = some r)
    (hR : ∀ w', St G w' (osl r_T_history_Op 32 a1 c1 x1 :: F) → R (.returned (.tuple #[.bool r.1, I r.2])) w') :
    Calls Try.prog 9 #[.slice a1 x1.length c1] w R := by
  unfold history_Check at hr
  refine enter Try.func9 rfl [(0, .slice a1 x1.length c1)] rfl rfl fun b => ?_
  refine wp_seq ?_
  refine wp_reg ?_
  refine L_pure 2 [(0, .slice a1 x1.length c1)] (by kernel_rfl) fun b => ?_
  refine wpL_nil ?_
  refine th_n ?_
  refine wp_seq ?_
  refine wp_seq ?_
  refine wp_reg ?_
  refine L_pure 3 [(0, .slice a1 x1.length c1), (9, .bool (decide ((x1.length : Int) > 20)))] (by kernel_rfl) fun b => ?_
  refine wpL_nil ?_
  refine th_n ?_
  refine wp_cond_mkF (t := decide ((x1.length : Int) > 20)) rfl (fun h => ?_) (fun h => ?_)
  · have hr := (if_pos h).symm.trans hr
    refine wp_seq ?_
    refine wp_reg ?_
    refine L_pure 2 [(2, .bool false), (3, I 11)] (by kernel_rfl) fun b => ?_
    refine wpL_nil ?_
    refine th_n ?_
    refine wp_ret ?_
    refine th_r ?_
    refine ret2 rfl rfl rfl ?_
    obtain rfl := Option.some.inj hr
    exact hR _ hst
  · have hr := (if_neg (by rw [h]; exact Bool.false_ne_true)).symm.trans hr
    refine wp_skip ?_
    refine th_n ?_
    refine wp_seq ?_
    refine wp_seq ?_
    refine wp_reg ?_
    refine L_pure 3 [(0, .slice a1 x1.length c1), (10, .slice a1 x1.length c1), (11, I (x1.length : Int)), (12, I 0)] (by kernel_rfl) fun b => ?_
    refine wpL_nil ?_
    refine th_n ?_
    obtain ⟨y4, hy4, hk3⟩ := bnd hr
    clear hr
    refine Go.Hx.wp_cut (fun a w => ∃ (z2 : Unit) (b : Nat → Value), y4 = .go z2 ∧ a = mkF 49 b [(0, .slice a1 x1.length c1)] ∧ St G w (osl r_T_history_Op 32 a1 c1 x1 :: F)) ?_ ?_
    · rintro _ w ⟨z2, b, rfl, rfl, hst⟩
      have hr := hk3
      refine th_n ?_
      refine wp_seq ?_
      refine wp_reg ?_
      refine L_pure 1 [(43, .slice a1 x1.length c1)] (by kernel_rfl) fun b => ?_
      refine L_op rfl (O_makeMap (fun x : T_history_key => .agg #[.int .u32 x.done, S x.world]) (fun n => .int .i64 n) hst rfl fun p5 w hst => ?_)
      refine L_pure 1 [(45, .agg #[.slice a1 x1.length c1, .map (some p5)])] (by kernel_rfl) fun b => ?_
      refine L_op rfl (O_box [.slice a1 x1.length c1, .map (some p5)] hst rfl rfl fun p6 w hst => ?_)
      refine L_pure 1 [(6, pt p6 0)] (by kernel_rfl) fun b => ?_
      refine wpL_nil ?_
      refine th_n ?_
      refine wp_seq ?_
      refine wp_reg ?_
      refine L_pure 1 [(47, pt p6 0)] (by kernel_rfl) fun b => ?_
      obtain ⟨y6, hy6, hr⟩ := bnd hr
      have hst := dsl_nil r_T_history_entry hst
      refine L_op rfl (O_call (vs := #[pt p6 0, .int .u32 0, .slice none 0 0]) Try.call15 (by kernel_rfl) (history_search_try_ok k x1 ([] : (List (T_history_key × Int))) 0 ([]) p6 a1 c1 p5 none 0 y6 (((hst.pull 2).pull 3).pull 3) hy6 fun w hst => ?_))
      refine CK_ret rfl ?_
      refine L_pure 2 [(2, .bool y6.1), (3, I 0)] (by kernel_rfl) fun b => ?_
      refine wpL_nil ?_
      refine th_n ?_
      refine wp_ret ?_
      refine ret2 rfl rfl rfl ?_
      obtain rfl := Option.some.inj hr
      have hst := ((hst.pull 1).cut 1 3)
      exact hR _ hst
    · refine wp_block ?_
      refine wp_loop_fuel (fun j a w => ∃ (v4 : Int) (b : Nat → Value), a = mkF 49 b [(0, .slice a1 x1.length c1), (10, .slice a1 x1.length c1), (11, I (x1.length : Int)), (12, I v4)] ∧ St G w (osl r_T_history_Op 32 a1 c1 x1 :: F) ∧ history_Check_l1 k x1 j v4 = some y4) (k := k) ⟨(0 : Int), (kpX [(0, .slice a1 x1.length c1), (10, .slice a1 x1.length c1), (11, I (x1.length : Int)), (12, I 0)] rfl ⟨hst, hy4⟩)⟩ ?_ ?_
      · rintro _ _ ⟨_, _, _, _, h⟩
        rw [history_Check_l1] at h
        cases h
      · rintro j _ w ⟨v4, b, rfl, hst, hr⟩
        rw [history_Check_l1] at hr
        refine wp_seq ?_
        refine wp_reg ?_
        refine L_pure 1 [(0, .slice a1 x1.length c1), (10, .slice a1 x1.length c1), (11, I (x1.length : Int)), (12, I v4), (13, .bool (decide (v4 < (x1.length : Int))))] (by kernel_rfl) fun b => ?_
        refine wpL_nil ?_
        refine th_n ?_
        refine wp_seq ?_
        refine wp_cond_mkF (t := decide (v4 < (x1.length : Int))) rfl (fun h => ?_) (fun h => ?_)
        · have hr := (if_pos h).symm.trans hr
          refine wp_skip ?_
          refine th_n ?_
          refine wp_seq ?_
          refine wp_block ?_
          refine wp_seq ?_
          refine wp_reg ?_
          obtain ⟨x3, hx2, hr⟩ := bnd hr
          refine L_op rfl (O_run (v := pt (ab a1) (ao a1 + v4.toNat * 8)) (w' := w) (R_ia L22 rfl rfl (osl_addr hst hx2) (gt_some hx2).1 (gt_some hx2).2.1) rfl rfl ?_)
          obtain ⟨q2, hc2, hst⟩ := osl_cells hst hx2
          refine L_op rfl (O_run (v := .agg #[I x3.Kind, S x3.Name, .int .u64 x3.Value, I x3.Start, I x3.End, I x3.Err, .int .u64 x3.Got, .slice q2.1 x3.Names.length q2.2]) (w' := w) (R_loadAt (off := ao a1 + v4.toNat * 8) (j := 0) hc2 rfl rfl) rfl rfl ?_)
          refine L_op rfl (O_alloc (i := Try.t32) (z := .agg #[I 0, S ([]), .int .u64 0, I 0, I 0, I 0, .int .u64 0, .slice none 0 0]) [I 0, S ([]), .int .u64 0, I 0, I 0, I 0, .int .u64 0, .slice none 0 0] hst rfl rfl rfl rfl fun p4 w hst => ?_)
          refine L_op rfl (O_store [I x3.Kind, S x3.Name, .int .u64 x3.Value, I x3.Start, I x3.End, I x3.Err, .int .u64 x3.Got, .slice q2.1 x3.Names.length q2.2] hst rfl rfl (by kernel_rfl) fun w hst => ?_)
          refine wpL_nil ?_
          refine th_n ?_
          obtain ⟨y5, hy5, hk4⟩ := bnd hr
          clear hr
          refine wp_seq_cut (fun a w => ∃ (b : Nat → Value), a = mkF 49 b [(0, .slice a1 x1.length c1), (10, .slice a1 x1.length c1), (11, I (x1.length : Int)), (12, I v4), (41, .bool y5)] ∧ St G w (blk p4 (cl [I x3.Kind, S x3.Name, .int .u64 x3.Value, I x3.Start, I x3.End, I x3.Err, .int .u64 x3.Got, .slice q2.1 x3.Names.length q2.2] 32) :: dsl rS q2.1 q2.2 x3.Names :: osl r_T_history_Op 32 a1 c1 x1 :: F)) ?_ ?_
          · rintro _ w ⟨b, rfl, hst⟩
            have hr := hk4
            refine wp_cond_mkF (t := y5) rfl (fun h => ?_) (fun h => ?_)
            · have hr := (if_pos h).symm.trans hr
              refine wp_seq ?_
              refine wp_reg ?_
              refine L_pure 2 [(2, .bool false), (3, I 1)] (by kernel_rfl) fun b => ?_
              refine wpL_nil ?_
              refine th_n ?_
              refine wp_ret ?_
              refine ib_r (th_r (th_r (ib_r (th_r (th_r ?_)))))
              refine ret2 rfl rfl rfl ?_
              obtain rfl := Option.some.inj hr
              obtain rfl := Option.some.inj hk3
              have hst := ((hst.pull 2).cut 1 2)
              exact hR _ hst
            · have hr := (if_neg (by rw [h]; exact Bool.false_ne_true)).symm.trans hr
              refine wp_skip ?_
              refine ib_n (th_n ?_)
              refine wp_reg ?_
              refine L_pure 2 [(0, .slice a1 x1.length c1), (10, .slice a1 x1.length c1), (11, I (x1.length : Int)), (12, I (IntKind.i64.wrap (v4 + 1)))] (by kernel_rfl) fun b => ?_
              refine wpL_nil ?_
              refine th_n ?_
              have hst := ((hst.pull 2).cut 1 2)
              exact ⟨(IntKind.i64.wrap (v4 + 1)), (kpX [(0, .slice a1 x1.length c1), (10, .slice a1 x1.length c1), (11, I (x1.length : Int)), (12, I (IntKind.i64.wrap (v4 + 1)))] rfl ⟨hst, hr⟩)⟩
          · have hr := hy5
            refine wp_reg ?_
            refine L_pure 1 [(0, .slice a1 x1.length c1), (5, pt p4 0), (10, .slice a1 x1.length c1), (11, I (x1.length : Int)), (12, I v4), (16, pt p4 0)] (by kernel_rfl) fun b => ?_
            refine L_op rfl (O_run (v := I x3.Kind) (w' := w) (R_load hst rfl rfl) rfl rfl ?_)
            refine L_pure 2 [(0, .slice a1 x1.length c1), (5, pt p4 0), (10, .slice a1 x1.length c1), (11, I (x1.length : Int)), (12, I v4), (19, .bool (decide (x3.Kind < 1)))] (by kernel_rfl) fun b => ?_
            by_cases h : (decide (x3.Kind < 1)) = true
            · have hr := (if_pos h).symm.trans hr
              refine L_keep ((19, .bool (decide (x3.Kind < 1))) :: [(0, .slice a1 x1.length c1), (5, pt p4 0), (10, .slice a1 x1.length c1), (11, I (x1.length : Int)), (12, I v4)]) rfl fun b => ?_
              refine L_bool h ?_
              refine L_pure 22 [(0, .slice a1 x1.length c1), (10, .slice a1 x1.length c1), (11, I (x1.length : Int)), (12, I v4), (41, .bool true)] (by kernel_rfl) fun b => ?_
              refine wpL_nil ?_
              refine th_n ?_
              obtain rfl := Option.some.inj hr
              have hst := (((hst.pull 2).pull 2).pull 2)
              exact (kpX [(0, .slice a1 x1.length c1), (10, .slice a1 x1.length c1), (11, I (x1.length : Int)), (12, I v4), (41, .bool true)] rfl hst)
            · have hr := (if_neg h).symm.trans hr
              refine L_keep ((19, .bool (decide (x3.Kind < 1))) :: [(0, .slice a1 x1.length c1), (5, pt p4 0), (10, .slice a1 x1.length c1), (11, I (x1.length : Int)), (12, I v4)]) rfl fun b => ?_
              refine L_bool (eq_false_of_ne_true h) ?_
              refine L_pure 1 [(0, .slice a1 x1.length c1), (5, pt p4 0), (10, .slice a1 x1.length c1), (11, I (x1.length : Int)), (12, I v4), (19, .bool false), (20, pt p4 0)] (by kernel_rfl) fun b => ?_
              refine L_op rfl (O_run (v := I x3.Kind) (w' := w) (R_load hst rfl rfl) rfl rfl ?_)
              refine L_pure 3 [(0, .slice a1 x1.length c1), (5, pt p4 0), (10, .slice a1 x1.length c1), (11, I (x1.length : Int)), (12, I v4), (24, .bool (decide (x3.Kind > 5)))] (by kernel_rfl) fun b => ?_
              by_cases h : (decide (x3.Kind > 5)) = true
              · have hr := (if_pos h).symm.trans hr
                refine L_keep ((24, .bool (decide (x3.Kind > 5))) :: [(0, .slice a1 x1.length c1), (5, pt p4 0), (10, .slice a1 x1.length c1), (11, I (x1.length : Int)), (12, I v4)]) rfl fun b => ?_
                refine L_bool h ?_
                refine L_pure 17 [(0, .slice a1 x1.length c1), (10, .slice a1 x1.length c1), (11, I (x1.length : Int)), (12, I v4), (41, .bool true)] (by kernel_rfl) fun b => ?_
                refine wpL_nil ?_
                refine th_n ?_
                obtain rfl := Option.some.inj hr
                have hst := (((hst.pull 2).pull 2).pull 2)
                exact (kpX [(0, .slice a1 x1.length c1), (10, .slice a1 x1.length c1), (11, I (x1.length : Int)), (12, I v4), (41, .bool true)] rfl hst)
              · have hr := (if_neg h).symm.trans hr
                refine L_keep ((24, .bool (decide (x3.Kind > 5))) :: [(0, .slice a1 x1.length c1), (5, pt p4 0), (10, .slice a1 x1.length c1), (11, I (x1.length : Int)), (12, I v4)]) rfl fun b => ?_
                refine L_bool (eq_false_of_ne_true h) ?_
                refine L_pure 1 [(0, .slice a1 x1.length c1), (5, pt p4 0), (10, .slice a1 x1.length c1), (11, I (x1.length : Int)), (12, I v4), (24, .bool false), (25, pt p4 1)] (by kernel_rfl) fun b => ?_
                refine L_op rfl (O_run (v := S x3.Name) (w' := w) (R_load hst rfl rfl) rfl rfl ?_)
                refine L_pure 4 [(0, .slice a1 x1.length c1), (5, pt p4 0), (10, .slice a1 x1.length c1), (11, I (x1.length : Int)), (12, I v4), (30, .bool (decide ((x3.Name.length : Int) > 32)))] (by kernel_rfl) fun b => ?_
                by_cases h : (decide ((x3.Name.length : Int) > 32)) = true
                · have hr := (if_pos h).symm.trans hr
                  refine L_keep ((30, .bool (decide ((x3.Name.length : Int) > 32))) :: [(0, .slice a1 x1.length c1), (5, pt p4 0), (10, .slice a1 x1.length c1), (11, I (x1.length : Int)), (12, I v4)]) rfl fun b => ?_
                  refine L_bool h ?_
                  refine L_pure 11 [(0, .slice a1 x1.length c1), (10, .slice a1 x1.length c1), (11, I (x1.length : Int)), (12, I v4), (41, .bool true)] (by kernel_rfl) fun b => ?_
                  refine wpL_nil ?_
                  refine th_n ?_
                  obtain rfl := Option.some.inj hr
                  have hst := (((hst.pull 2).pull 2).pull 2)
                  exact (kpX [(0, .slice a1 x1.length c1), (10, .slice a1 x1.length c1), (11, I (x1.length : Int)), (12, I v4), (41, .bool true)] rfl hst)
                · have hr := (if_neg h).symm.trans hr
                  refine L_keep ((30, .bool (decide ((x3.Name.length : Int) > 32))) :: [(0, .slice a1 x1.length c1), (5, pt p4 0), (10, .slice a1 x1.length c1), (11, I (x1.length : Int)), (12, I v4)]) rfl fun b => ?_
                  refine L_bool (eq_false_of_ne_true h) ?_
                  refine L_pure 1 [(0, .slice a1 x1.length c1), (5, pt p4 0), (10, .slice a1 x1.length c1), (11, I (x1.length : Int)), (12, I v4), (30, .bool false), (31, pt p4 4)] (by kernel_rfl) fun b => ?_
                  refine L_op rfl (O_run (v := I x3.End) (w' := w) (R_load hst rfl rfl) rfl rfl ?_)
                  refine L_pure 2 [(0, .slice a1 x1.length c1), (5, pt p4 0), (10, .slice a1 x1.length c1), (11, I (x1.length : Int)), (12, I v4), (30, .bool false), (34, .bool (decide (x3.End ≥ 0)))] (by kernel_rfl) fun b => ?_
                  by_cases h : (decide (x3.End ≥ 0)) = true
                  · have hr := (if_pos h).symm.trans hr
                    refine L_keep ((34, .bool (decide (x3.End ≥ 0))) :: [(0, .slice a1 x1.length c1), (5, pt p4 0), (10, .slice a1 x1.length c1), (11, I (x1.length : Int)), (12, I v4), (30, .bool false)]) rfl fun b => ?_
                    refine L_bool h ?_
                    refine L_pure 1 [(0, .slice a1 x1.length c1), (5, pt p4 0), (10, .slice a1 x1.length c1), (11, I (x1.length : Int)), (12, I v4), (30, .bool false), (34, .bool true), (35, pt p4 4)] (by kernel_rfl) fun b => ?_
                    refine L_op rfl (O_run (v := I x3.End) (w' := w) (R_load hst rfl rfl) rfl rfl ?_)
                    refine L_pure 1 [(0, .slice a1 x1.length c1), (10, .slice a1 x1.length c1), (11, I (x1.length : Int)), (12, I v4), (30, .bool false), (34, .bool true), (36, I x3.End), (37, pt p4 3)] (by kernel_rfl) fun b => ?_
                    refine L_op rfl (O_run (v := I x3.Start) (w' := w) (R_load hst rfl rfl) rfl rfl ?_)
                    refine L_pure 3 [(0, .slice a1 x1.length c1), (10, .slice a1 x1.length c1), (11, I (x1.length : Int)), (12, I v4), (41, .bool (decide (x3.End < x3.Start)))] (by kernel_rfl) fun b => ?_
                    refine wpL_nil ?_
                    refine th_n ?_
                    obtain rfl := Option.some.inj hr
                    have hst := (((hst.pull 2).pull 2).pull 2)
                    exact (kpX [(0, .slice a1 x1.length c1), (10, .slice a1 x1.length c1), (11, I (x1.length : Int)), (12, I v4), (41, .bool (decide (x3.End < x3.Start)))] rfl hst)
                  · have hr := (if_neg h).symm.trans hr
                    refine L_keep ((34, .bool (decide (x3.End ≥ 0))) :: [(0, .slice a1 x1.length c1), (5, pt p4 0), (10, .slice a1 x1.length c1), (11, I (x1.length : Int)), (12, I v4), (30, .bool false)]) rfl fun b => ?_
                    refine L_bool (eq_false_of_ne_true h) ?_
                    refine L_pure 7 [(0, .slice a1 x1.length c1), (10, .slice a1 x1.length c1), (11, I (x1.length : Int)), (12, I v4), (41, .bool false)] (by kernel_rfl) fun b => ?_
                    refine wpL_nil ?_
                    refine th_n ?_
                    obtain rfl := Option.some.inj hr
                    have hst := (((hst.pull 2).pull 2).pull 2)
                    exact (kpX [(0, .slice a1 x1.length c1), (10, .slice a1 x1.length c1), (11, I (x1.length : Int)), (12, I v4), (41, .bool false)] rfl hst)
        · have hr := (if_neg (by rw [h]; exact Bool.false_ne_true)).symm.trans hr
          refine wp_exit ?_
          refine th_x (th_x (ib_x (th_n ?_)))
          obtain rfl := Option.some.inj hr
          exact ⟨(), (kpXf [(0, .slice a1 x1.length c1)] rfl hst)⟩
def glacierlaw18_awake (k : Nat) : Option (Bool) := (Option.bind (history_Check k ([(T_history_Op.mk 1 ([97]) 1 0 3 0 0 ([])), (T_history_Op.mk 2 ([97]) 0 1 2 0 1 ([]))])) fun y5 => (Option.bind (history_Check k ([(T_history_Op.mk 1 ([97]) 1 0 3 0 0 ([])), (T_history_Op.mk 2 ([97]) 0 1 2 5 0 ([]))])) fun y6 => (Option.bind (history_Check k ([(T_history_Op.mk 1 ([97]) 1 0 3 0 0 ([])), (T_history_Op.mk 2 ([97]) 0 4 5 5 0 ([]))])) fun y7 => (Option.bind (if y5.1 = true then (if y6.1 = true then (if (!y7.1) = true then (if (y5.2 == 0) = true then (if (y6.2 == 0) = true then some ((y7.2 == 0)) else some (false)) else some (false)) else some (false)) else some (false)) else some (false)) fun y8 => some (y8)))))
set_option maxRecDepth 100000 in
set_option maxHeartbeats 4000000 in
theorem glacierlaw18_awake_ok {G w : World} {F : List HP} {R : Ending → World → Prop} (k : Nat) (r : (Bool)) (hst : St G w (F)) (hr : glacierlaw18_awake k = some r)
    (hR : ∀ w', St G w' (F) → R (.returned (.bool r)) w') :
    Calls Try.prog 10 #[] w R := by
  unfold glacierlaw18_awake at hr
  refine enter Try.func10 rfl [] rfl rfl fun b => ?_
  refine wp_seq ?_
  refine wp_reg ?_
  refine L_pure 1 [] (by kernel_rfl) fun b => ?_
  refine wpL_nil ?_
  refine th_n ?_
  refine wp_seq ?_
  refine wp_reg ?_
  refine L_pure 1 [(11, .agg #[I 1, S ([97]), .int .u64 1, I 0, I 3, I 0, .int .u64 0, .slice none 0 0])] (by kernel_rfl) fun b => ?_
  refine L_op rfl (O_alloc (i := Try.t32) (z := .agg #[I 0, S ([]), .int .u64 0, I 0, I 0, I 0, .int .u64 0, .slice none 0 0]) [I 0, S ([]), .int .u64 0, I 0, I 0, I 0, .int .u64 0, .slice none 0 0] hst rfl rfl rfl rfl fun p8 w hst => ?_)
  refine L_op rfl (O_store [I 1, S ([97]), .int .u64 1, I 0, I 3, I 0, .int .u64 0, .slice none 0 0] hst rfl rfl (by kernel_rfl) fun w hst => ?_)
  refine wpL_nil ?_
  refine th_n ?_
  refine wp_seq ?_
  refine wp_reg ?_
  refine L_pure 1 [(1, pt p8 0), (12, .agg #[I 2, S ([97]), .int .u64 0, I 1, I 2, I 0, .int .u64 1, .slice none 0 0])] (by kernel_rfl) fun b => ?_
  refine L_op rfl (O_alloc (i := Try.t32) (z := .agg #[I 0, S ([]), .int .u64 0, I 0, I 0, I 0, .int .u64 0, .slice none 0 0]) [I 0, S ([]), .int .u64 0, I 0, I 0, I 0, .int .u64 0, .slice none 0 0] hst rfl rfl rfl rfl fun p9 w hst => ?_)
  refine L_op rfl (O_store [I 2, S ([97]), .int .u64 0, I 1, I 2, I 0, .int .u64 1, .slice none 0 0] hst rfl rfl (by kernel_rfl) fun w hst => ?_)
  refine wpL_nil ?_
  refine th_n ?_
  refine wp_seq ?_
  refine wp_reg ?_
  refine L_pure 1 [(1, pt p8 0), (2, pt p9 0), (13, .agg #[I 2, S ([97]), .int .u64 0, I 1, I 2, I 5, .int .u64 0, .slice none 0 0])] (by kernel_rfl) fun b => ?_
  refine L_op rfl (O_alloc (i := Try.t32) (z := .agg #[I 0, S ([]), .int .u64 0, I 0, I 0, I 0, .int .u64 0, .slice none 0 0]) [I 0, S ([]), .int .u64 0, I 0, I 0, I 0, .int .u64 0, .slice none 0 0] hst rfl rfl rfl rfl fun p10 w hst => ?_)
  refine L_op rfl (O_store [I 2, S ([97]), .int .u64 0, I 1, I 2, I 5, .int .u64 0, .slice none 0 0] hst rfl rfl (by kernel_rfl) fun w hst => ?_)
  refine wpL_nil ?_
  refine th_n ?_
  refine wp_seq ?_
  refine wp_reg ?_
  refine L_pure 1 [(1, pt p8 0), (2, pt p9 0), (3, pt p10 0), (14, .agg #[I 2, S ([97]), .int .u64 0, I 4, I 5, I 5, .int .u64 0, .slice none 0 0])] (by kernel_rfl) fun b => ?_
  refine L_op rfl (O_alloc (i := Try.t32) (z := .agg #[I 0, S ([]), .int .u64 0, I 0, I 0, I 0, .int .u64 0, .slice none 0 0]) [I 0, S ([]), .int .u64 0, I 0, I 0, I 0, .int .u64 0, .slice none 0 0] hst rfl rfl rfl rfl fun p11 w hst => ?_)
  refine L_op rfl (O_store [I 2, S ([97]), .int .u64 0, I 4, I 5, I 5, .int .u64 0, .slice none 0 0] hst rfl rfl (by kernel_rfl) fun w hst => ?_)
  refine wpL_nil ?_
  refine th_n ?_
  refine wp_seq ?_
  refine wp_reg ?_
  refine L_op rfl (O_run (v := .agg #[I 1, S ([97]), .int .u64 1, I 0, I 3, I 0, .int .u64 0, .slice none 0 0]) (w' := w) (R_load (hst.pull 3) rfl rfl) rfl rfl ?_)
  refine L_op rfl (O_run (v := .agg #[I 2, S ([97]), .int .u64 0, I 1, I 2, I 0, .int .u64 1, .slice none 0 0]) (w' := w) (R_load (hst.pull 2) rfl rfl) rfl rfl ?_)
  have hst := dsl_nil rS hst
  have hst := dsl_nil rS hst
  refine L_op rfl (O_bs (T := 32) [I 1, S ([97]), .int .u64 1, I 0, I 3, I 0, .int .u64 0, .slice none 0 0, I 2, S ([97]), .int .u64 0, I 1, I 2, I 0, .int .u64 1, .slice none 0 0] #[(0, .agg #[I 1, S ([97]), .int .u64 1, I 0, I 3, I 0, .int .u64 0, .slice none 0 0]), (1, .agg #[I 2, S ([97]), .int .u64 0, I 1, I 2, I 0, .int .u64 1, .slice none 0 0])] hst (by kernel_rfl) (by kernel_rfl) rfl fun p12 w hst => ?_)
  have hst := (hst.pull 1).dup
  have hst := hst.dup
  have hst := (((hst.pull 3).pull 1).pull 2).and
  have hst := osl_of_blk (ecs := [[I 1, S ([97]), .int .u64 1, I 0, I 3, I 0, .int .u64 0, .slice none 0 0], [I 2, S ([97]), .int .u64 0, I 1, I 2, I 0, .int .u64 1, .slice none 0 0]]) r_T_history_Op [(T_history_Op.mk 1 ([97]) 1 0 3 0 0 ([])), (T_history_Op.mk 2 ([97]) 0 1 2 0 1 ([]))] rfl (fun m h => ⟨⟨((none, 0)), rfl, h.1⟩, ⟨((none, 0)), rfl, h.2⟩, trivial⟩) rfl hst
  obtain ⟨y5, hy5, hr⟩ := bnd hr
  refine L_op rfl (O_call (vs := #[.slice (some ⟨p12, 0, none⟩) ([(T_history_Op.mk 1 ([97]) 1 0 3 0 0 ([])), (T_history_Op.mk 2 ([97]) 0 1 2 0 1 ([]))]).length 2]) Try.call9 (by kernel_rfl) (history_Check_ok k ([(T_history_Op.mk 1 ([97]) 1 0 3 0 0 ([])), (T_history_Op.mk 2 ([97]) 0 1 2 0 1 ([]))]) (some ⟨p12, 0, none⟩) 2 y5 hst hy5 fun w hst => ?_))
  refine CK_ret rfl ?_
  refine L_pure 5 [(1, pt p8 0), (3, pt p10 0), (4, pt p11 0), (5, .bool y5.1), (6, I y5.2)] (by kernel_rfl) fun b => ?_
  refine wpL_nil ?_
  refine th_n ?_
  refine wp_seq ?_
  refine wp_reg ?_
  refine L_op rfl (O_run (v := .agg #[I 1, S ([97]), .int .u64 1, I 0, I 3, I 0, .int .u64 0, .slice none 0 0]) (w' := w) (R_load (hst.pull 6) rfl rfl) rfl rfl ?_)
  refine L_op rfl (O_run (v := .agg #[I 2, S ([97]), .int .u64 0, I 1, I 2, I 5, .int .u64 0, .slice none 0 0]) (w' := w) (R_load (hst.pull 4) rfl rfl) rfl rfl ?_)
  have hst := dsl_nil rS hst
  have hst := dsl_nil rS hst
  refine L_op rfl (O_bs (T := 32) [I 1, S ([97]), .int .u64 1, I 0, I 3, I 0, .int .u64 0, .slice none 0 0, I 2, S ([97]), .int .u64 0, I 1, I 2, I 5, .int .u64 0, .slice none 0 0] #[(0, .agg #[I 1, S ([97]), .int .u64 1, I 0, I 3, I 0, .int .u64 0, .slice none 0 0]), (1, .agg #[I 2, S ([97]), .int .u64 0, I 1, I 2, I 5, .int .u64 0, .slice none 0 0])] hst (by kernel_rfl) (by kernel_rfl) rfl fun p13 w hst => ?_)
  have hst := (hst.pull 1).dup
  have hst := hst.dup
  have hst := (((hst.pull 3).pull 1).pull 2).and
  have hst := osl_of_blk (ecs := [[I 1, S ([97]), .int .u64 1, I 0, I 3, I 0, .int .u64 0, .slice none 0 0], [I 2, S ([97]), .int .u64 0, I 1, I 2, I 5, .int .u64 0, .slice none 0 0]]) r_T_history_Op [(T_history_Op.mk 1 ([97]) 1 0 3 0 0 ([])), (T_history_Op.mk 2 ([97]) 0 1 2 5 0 ([]))] rfl (fun m h => ⟨⟨((none, 0)), rfl, h.1⟩, ⟨((none, 0)), rfl, h.2⟩, trivial⟩) rfl hst
  obtain ⟨y6, hy6, hr⟩ := bnd hr
  refine L_op rfl (O_call (vs := #[.slice (some ⟨p13, 0, none⟩) ([(T_history_Op.mk 1 ([97]) 1 0 3 0 0 ([])), (T_history_Op.mk 2 ([97]) 0 1 2 5 0 ([]))]).length 2]) Try.call9 (by kernel_rfl) (history_Check_ok k ([(T_history_Op.mk 1 ([97]) 1 0 3 0 0 ([])), (T_history_Op.mk 2 ([97]) 0 1 2 5 0 ([]))]) (some ⟨p13, 0, none⟩) 2 y6 hst hy6 fun w hst => ?_))
  refine CK_ret rfl ?_
  refine L_pure 5 [(1, pt p8 0), (4, pt p11 0), (5, .bool y5.1), (6, I y5.2), (7, .bool y6.1), (8, I y6.2)] (by kernel_rfl) fun b => ?_
  refine wpL_nil ?_
  refine th_n ?_
  refine wp_seq ?_
  refine wp_reg ?_
  refine L_op rfl (O_run (v := .agg #[I 1, S ([97]), .int .u64 1, I 0, I 3, I 0, .int .u64 0, .slice none 0 0]) (w' := w) (R_load (hst.pull 9) rfl rfl) rfl rfl ?_)
  refine L_op rfl (O_run (v := .agg #[I 2, S ([97]), .int .u64 0, I 4, I 5, I 5, .int .u64 0, .slice none 0 0]) (w' := w) (R_load (hst.pull 6) rfl rfl) rfl rfl ?_)
  have hst := dsl_nil rS hst
  have hst := dsl_nil rS hst
  refine L_op rfl (O_bs (T := 32) [I 1, S ([97]), .int .u64 1, I 0, I 3, I 0, .int .u64 0, .slice none 0 0, I 2, S ([97]), .int .u64 0, I 4, I 5, I 5, .int .u64 0, .slice none 0 0] #[(0, .agg #[I 1, S ([97]), .int .u64 1, I 0, I 3, I 0, .int .u64 0, .slice none 0 0]), (1, .agg #[I 2, S ([97]), .int .u64 0, I 4, I 5, I 5, .int .u64 0, .slice none 0 0])] hst (by kernel_rfl) (by kernel_rfl) rfl fun p14 w hst => ?_)
  have hst := (hst.pull 1).dup
  have hst := hst.dup
  have hst := (((hst.pull 3).pull 1).pull 2).and
  have hst := osl_of_blk (ecs := [[I 1, S ([97]), .int .u64 1, I 0, I 3, I 0, .int .u64 0, .slice none 0 0], [I 2, S ([97]), .int .u64 0, I 4, I 5, I 5, .int .u64 0, .slice none 0 0]]) r_T_history_Op [(T_history_Op.mk 1 ([97]) 1 0 3 0 0 ([])), (T_history_Op.mk 2 ([97]) 0 4 5 5 0 ([]))] rfl (fun m h => ⟨⟨((none, 0)), rfl, h.1⟩, ⟨((none, 0)), rfl, h.2⟩, trivial⟩) rfl hst
  obtain ⟨y7, hy7, hr⟩ := bnd hr
  refine L_op rfl (O_call (vs := #[.slice (some ⟨p14, 0, none⟩) ([(T_history_Op.mk 1 ([97]) 1 0 3 0 0 ([])), (T_history_Op.mk 2 ([97]) 0 4 5 5 0 ([]))]).length 2]) Try.call9 (by kernel_rfl) (history_Check_ok k ([(T_history_Op.mk 1 ([97]) 1 0 3 0 0 ([])), (T_history_Op.mk 2 ([97]) 0 4 5 5 0 ([]))]) (some ⟨p14, 0, none⟩) 2 y7 hst hy7 fun w hst => ?_))
  refine CK_ret rfl ?_
  refine L_pure 5 [(5, .bool y5.1), (6, I y5.2), (7, .bool y6.1), (8, I y6.2), (9, .bool y7.1), (10, I y7.2)] (by kernel_rfl) fun b => ?_
  refine wpL_nil ?_
  refine th_n ?_
  obtain ⟨y8, hy8, hk2⟩ := bnd hr
  clear hr
  refine wp_seq_cut (fun a w => ∃ (b : Nat → Value), a = mkF 56 b [(0, .bool y8)] ∧ St G w (osl r_T_history_Op 32 (some ⟨p14, 0, none⟩) 2 ([(T_history_Op.mk 1 ([97]) 1 0 3 0 0 ([])), (T_history_Op.mk 2 ([97]) 0 4 5 5 0 ([]))]) :: dsl rS none 0 ([]) :: dsl rS none 0 ([]) :: osl r_T_history_Op 32 (some ⟨p13, 0, none⟩) 2 ([(T_history_Op.mk 1 ([97]) 1 0 3 0 0 ([])), (T_history_Op.mk 2 ([97]) 0 1 2 5 0 ([]))]) :: dsl rS none 0 ([]) :: dsl rS none 0 ([]) :: osl r_T_history_Op 32 (some ⟨p12, 0, none⟩) 2 ([(T_history_Op.mk 1 ([97]) 1 0 3 0 0 ([])), (T_history_Op.mk 2 ([97]) 0 1 2 0 1 ([]))]) :: dsl rS none 0 ([]) :: dsl rS none 0 ([]) :: blk p11 (cl [I 2, S ([97]), .int .u64 0, I 4, I 5, I 5, .int .u64 0, .slice none 0 0] 32) :: blk p10 (cl [I 2, S ([97]), .int .u64 0, I 1, I 2, I 5, .int .u64 0, .slice none 0 0] 32) :: blk p9 (cl [I 2, S ([97]), .int .u64 0, I 1, I 2, I 0, .int .u64 1, .slice none 0 0] 32) :: blk p8 (cl [I 1, S ([97]), .int .u64 1, I 0, I 3, I 0, .int .u64 0, .slice none 0 0] 32) :: F)) ?_ ?_
  · rintro _ w ⟨b, rfl, hst⟩
    have hr := hk2
    refine wp_ret ?_
    refine ret1 rfl rfl ?_
    obtain rfl := Option.some.inj hr
    have hst := (hst.cut 0 13)
    exact hR _ hst
  · have hr := hy8
    refine wp_reg ?_
    refine L_pure 2 [(6, I y5.2), (7, .bool y6.1), (8, I y6.2), (9, .bool y7.1), (10, I y7.2), (37, .bool y5.1)] (by kernel_rfl) fun b => ?_
    by_cases h : y5.1 = true
    · have hr := (if_pos h).symm.trans hr
      refine L_keep ((37, .bool y5.1) :: [(6, I y5.2), (7, .bool y6.1), (8, I y6.2), (9, .bool y7.1), (10, I y7.2)]) rfl fun b => ?_
      refine L_bool h ?_
      refine L_pure 3 [(6, I y5.2), (8, I y6.2), (9, .bool y7.1), (10, I y7.2), (40, .bool y6.1)] (by kernel_rfl) fun b => ?_
      by_cases h : y6.1 = true
      · have hr := (if_pos h).symm.trans hr
        refine L_keep ((40, .bool y6.1) :: [(6, I y5.2), (8, I y6.2), (9, .bool y7.1), (10, I y7.2)]) rfl fun b => ?_
        refine L_bool h ?_
        refine L_pure 4 [(6, I y5.2), (8, I y6.2), (10, I y7.2), (44, .bool (!y7.1))] (by kernel_rfl) fun b => ?_
        by_cases h : (!y7.1) = true
        · have hr := (if_pos h).symm.trans hr
          refine L_keep ((44, .bool (!y7.1)) :: [(6, I y5.2), (8, I y6.2), (10, I y7.2)]) rfl fun b => ?_
          refine L_bool h ?_
          refine L_pure 4 [(8, I y6.2), (10, I y7.2), (48, .bool (y5.2 == 0))] (by kernel_rfl) fun b => ?_
          by_cases h : (y5.2 == 0) = true
          · have hr := (if_pos h).symm.trans hr
            refine L_keep ((48, .bool (y5.2 == 0)) :: [(8, I y6.2), (10, I y7.2)]) rfl fun b => ?_
            refine L_bool h ?_
            refine L_pure 4 [(10, I y7.2), (52, .bool (y6.2 == 0))] (by kernel_rfl) fun b => ?_
            by_cases h : (y6.2 == 0) = true
            · have hr := (if_pos h).symm.trans hr
              refine L_keep ((52, .bool (y6.2 == 0)) :: [(10, I y7.2)]) rfl fun b => ?_
              refine L_bool h ?_
              refine L_pure 4 [(0, .bool (y7.2 == 0))] (by kernel_rfl) fun b => ?_
              refine wpL_nil ?_
              refine th_n ?_
              obtain rfl := Option.some.inj hr
              have hst := (((((((((((((hst.pull 12).pull 12).pull 12).pull 12).pull 12).pull 12).pull 12).pull 12).pull 12).pull 12).pull 12).pull 12).pull 12)
              exact (kpX [(0, .bool (y7.2 == 0))] rfl hst)
            · have hr := (if_neg h).symm.trans hr
              refine L_keep ((52, .bool (y6.2 == 0)) :: [(10, I y7.2)]) rfl fun b => ?_
              refine L_bool (eq_false_of_ne_true h) ?_
              refine L_pure 4 [(0, .bool false)] (by kernel_rfl) fun b => ?_
              refine wpL_nil ?_
              refine th_n ?_
              obtain rfl := Option.some.inj hr
              have hst := (((((((((((((hst.pull 12).pull 12).pull 12).pull 12).pull 12).pull 12).pull 12).pull 12).pull 12).pull 12).pull 12).pull 12).pull 12)
              exact (kpX [(0, .bool false)] rfl hst)
          · have hr := (if_neg h).symm.trans hr
            refine L_keep ((48, .bool (y5.2 == 0)) :: [(8, I y6.2), (10, I y7.2)]) rfl fun b => ?_
            refine L_bool (eq_false_of_ne_true h) ?_
            refine L_pure 8 [(0, .bool false)] (by kernel_rfl) fun b => ?_
            refine wpL_nil ?_
            refine th_n ?_
            obtain rfl := Option.some.inj hr
            have hst := (((((((((((((hst.pull 12).pull 12).pull 12).pull 12).pull 12).pull 12).pull 12).pull 12).pull 12).pull 12).pull 12).pull 12).pull 12)
            exact (kpX [(0, .bool false)] rfl hst)
        · have hr := (if_neg h).symm.trans hr
          refine L_keep ((44, .bool (!y7.1)) :: [(6, I y5.2), (8, I y6.2), (10, I y7.2)]) rfl fun b => ?_
          refine L_bool (eq_false_of_ne_true h) ?_
          refine L_pure 12 [(0, .bool false)] (by kernel_rfl) fun b => ?_
          refine wpL_nil ?_
          refine th_n ?_
          obtain rfl := Option.some.inj hr
          have hst := (((((((((((((hst.pull 12).pull 12).pull 12).pull 12).pull 12).pull 12).pull 12).pull 12).pull 12).pull 12).pull 12).pull 12).pull 12)
          exact (kpX [(0, .bool false)] rfl hst)
      · have hr := (if_neg h).symm.trans hr
        refine L_keep ((40, .bool y6.1) :: [(6, I y5.2), (8, I y6.2), (9, .bool y7.1), (10, I y7.2)]) rfl fun b => ?_
        refine L_bool (eq_false_of_ne_true h) ?_
        refine L_pure 16 [(0, .bool false)] (by kernel_rfl) fun b => ?_
        refine wpL_nil ?_
        refine th_n ?_
        obtain rfl := Option.some.inj hr
        have hst := (((((((((((((hst.pull 12).pull 12).pull 12).pull 12).pull 12).pull 12).pull 12).pull 12).pull 12).pull 12).pull 12).pull 12).pull 12)
        exact (kpX [(0, .bool false)] rfl hst)
    · have hr := (if_neg h).symm.trans hr
      refine L_keep ((37, .bool y5.1) :: [(6, I y5.2), (7, .bool y6.1), (8, I y6.2), (9, .bool y7.1), (10, I y7.2)]) rfl fun b => ?_
      refine L_bool (eq_false_of_ne_true h) ?_
      refine L_pure 19 [(0, .bool false)] (by kernel_rfl) fun b => ?_
      refine wpL_nil ?_
      refine th_n ?_
      obtain rfl := Option.some.inj hr
      have hst := (((((((((((((hst.pull 12).pull 12).pull 12).pull 12).pull 12).pull 12).pull 12).pull 12).pull 12).pull 12).pull 12).pull 12).pull 12)
      exact (kpX [(0, .bool false)] rfl hst)
def glacierlaw18_HistoryWide (k : Nat) (x1 : (List T_history_Op)) (x2 : Int) (x3 : Int) (x4 : Int) : Option (Bool) := (Option.bind (glacierlaw18_few k x1 7) fun y10 => (Option.bind (history_Check k y10) fun y11 => (Option.bind (Option.bind (glacierlaw18_awake k) fun y13 => (if (!y13) = true then some (true) else (if (y11.2 != 0) = true then some (true) else (if (!y11.1) = true then some (true) else (if decide (x2 < 0) = true then some (true) else some (decide (x2 ≥ (y10.length : Int)))))))) fun y12 => (if y12 = true then (Option.bind (Option.bind (glacierlaw18_awake k) fun y15 => (if y15 = true then some ((y11.2 == 0)) else some (false))) fun y14 => some (y14)) else (Option.bind (gt y10 x2) fun x10 => (Option.bind (gt y10 x2) fun x11 => (Option.bind (Option.bind (gt (y10.set x2.toNat (T_history_Op.mk x11.Kind x11.Name x11.Value (mx2 (IntKind.i64.wrap (x10.Start - (mn2 (mx2 x3 0) 1000))) 0) x11.End x11.Err x11.Got x11.Names)) x2) fun x12 => (if decide (x12.End ≥ 0) = true then (Option.bind (gt (y10.set x2.toNat (T_history_Op.mk x11.Kind x11.Name x11.Value (mx2 (IntKind.i64.wrap (x10.Start - (mn2 (mx2 x3 0) 1000))) 0) x11.End x11.Err x11.Got x11.Names)) x2) fun x13 => (Option.bind (gt (y10.set x2.toNat (T_history_Op.mk x11.Kind x11.Name x11.Value (mx2 (IntKind.i64.wrap (x10.Start - (mn2 (mx2 x3 0) 1000))) 0) x11.End x11.Err x11.Got x11.Names)) x2) fun x14 => some (((y10.set x2.toNat (T_history_Op.mk x11.Kind x11.Name x11.Value (mx2 (IntKind.i64.wrap (x10.Start - (mn2 (mx2 x3 0) 1000))) 0) x11.End x11.Err x11.Got x11.Names)).set x2.toNat (T_history_Op.mk x14.Kind x14.Name x14.Value x14.Start (IntKind.i64.wrap (x13.End + (mn2 (mx2 x4 0) 1000))) x14.Err x14.Got x14.Names))))) else some ((y10.set x2.toNat (T_history_Op.mk x11.Kind x11.Name x11.Value (mx2 (IntKind.i64.wrap (x10.Start - (mn2 (mx2 x3 0) 1000))) 0) x11.End x11.Err x11.Got x11.Names))))) fun y16 => (Option.bind (history_Check k y16) fun y17 => (Option.bind (if (y17.2 == 0) = true then some (y17.1) else some (false)) fun y18 => some (y18))))))))))
set_option maxRecDepth 100000 in
set_option maxHeartbeats 4000000 in
theorem glacierlaw18_HistoryWide_ok {G w : World} {F : List HP} {R : Ending → World → Prop} (k : Nat) (x1 : (List T_history_Op)) (x2 : Int) (x3 : Int) (x4 : Int) (a1 : Option Addr) (c1 : Nat) (r : (Bool)) (hst : St G w (dsl r_T_history_Op a1 c1 x1 :: F)) (hr : glacierlaw18_HistoryWide k x1 x2 x3 x4 = some r)
    (hR : ∀ w', St G w' (dsl r_T_history_Op a1 c1 x1 :: F) → R (.returned (.bool r)) w') :
    Calls Try.prog 7 #[.slice a1 x1.length c1, I x2, I x3, I x4] w R := by
  unfold glacierlaw18_HistoryWide at hr
  refine enter Try.func7 rfl [(0, .slice a1 x1.length c1), (1, I x2), (2, I x3), (3, I x4)] rfl rfl fun b => ?_
  refine wp_seq ?_
  refine wp_reg ?_
  refine L_pure 1 [(0, .slice a1 x1.length c1), (1, I x2), (2, I x3), (3, I x4)] (by kernel_rfl) fun b => ?_
  refine wpL_nil ?_
  refine th_n ?_
  refine wp_seq ?_
  refine wp_reg ?_
  refine L_pure 1 [(1, I x2), (2, I x3), (3, I x4), (13, .slice a1 x1.length c1)] (by kernel_rfl) fun b => ?_
  obtain ⟨y10, hy10, hr⟩ := bnd hr
  refine L_op rfl (O_call (vs := #[.slice a1 x1.length c1, I 7]) Try.call11 (by kernel_rfl) (glacierlaw18_few_ok k x1 7 a1 c1 y10 hst hy10 fun a4 c4 w hst => ?_))
  refine CK_ret rfl ?_
  refine L_pure 1 [(0, .slice a4 y10.length c4), (1, I x2), (2, I x3), (3, I x4)] (by kernel_rfl) fun b => ?_
  refine wpL_nil ?_
  refine th_n ?_
  refine wp_seq ?_
  refine wp_reg ?_
  refine L_pure 1 [(0, .slice a4 y10.length c4), (1, I x2), (2, I x3), (3, I x4), (16, .slice a4 y10.length c4)] (by kernel_rfl) fun b => ?_
  obtain ⟨y11, hy11, hr⟩ := bnd hr
  refine L_op rfl (O_call (vs := #[.slice a4 y10.length c4]) Try.call9 (by kernel_rfl) (history_Check_ok k y10 a4 c4 y11 hst hy11 fun w hst => ?_))
  refine CK_ret rfl ?_
  refine L_pure 5 [(0, .slice a4 y10.length c4), (1, I x2), (2, I x3), (3, I x4), (9, .bool y11.1), (10, I y11.2)] (by kernel_rfl) fun b => ?_
  refine wpL_nil ?_
  refine th_n ?_
  refine wp_seq ?_
  obtain ⟨y12, hy12, hk5⟩ := bnd hr
  clear hr
  refine wp_seq_cut (fun a w => ∃ (b : Nat → Value), a = mkF 86 b [(0, .slice a4 y10.length c4), (1, I x2), (2, I x3), (3, I x4), (10, I y11.2), (39, .bool y12)] ∧ St G w (osl r_T_history_Op 32 a4 c4 y10 :: dsl r_T_history_Op a1 c1 x1 :: F)) ?_ ?_
  · rintro _ w ⟨b, rfl, hst⟩
    have hr := hk5
    refine wp_cond_mkF (t := y12) rfl (fun h => ?_) (fun h => ?_)
    · have hr := (if_pos h).symm.trans hr
      obtain ⟨y14, hy14, hk6⟩ := bnd hr
      clear hr
      refine wp_seq_cut (fun a w => ∃ (b : Nat → Value), a = mkF 86 b [(8, .bool y14)] ∧ St G w (osl r_T_history_Op 32 a4 c4 y10 :: dsl r_T_history_Op a1 c1 x1 :: F)) ?_ ?_
      · rintro _ w ⟨b, rfl, hst⟩
        have hr := hk6
        refine wp_ret ?_
        refine th_r ?_
        refine ret1 rfl rfl ?_
        obtain rfl := Option.some.inj hr
        have hst := ((hst.pull 1).cut 1 1)
        exact hR _ hst
      · have hr := hy14
        refine wp_reg ?_
        obtain ⟨y15, hy15, hr⟩ := bnd hr
        refine L_op rfl (O_call (vs := #[]) Try.call10 (by kernel_rfl) (glacierlaw18_awake_ok k y15 hst hy15 fun w hst => ?_))
        refine CK_ret rfl ?_
        refine L_pure 1 [(10, I y11.2), (41, .bool y15)] (by kernel_rfl) fun b => ?_
        by_cases h : y15 = true
        · have hr := (if_pos h).symm.trans hr
          refine L_keep ((41, .bool y15) :: [(10, I y11.2)]) rfl fun b => ?_
          refine L_bool h ?_
          refine L_pure 4 [(8, .bool (y11.2 == 0))] (by kernel_rfl) fun b => ?_
          refine wpL_nil ?_
          refine th_n ?_
          obtain rfl := Option.some.inj hr
          have hst := ((hst.pull 1).pull 1)
          exact (kpX [(8, .bool (y11.2 == 0))] rfl hst)
        · have hr := (if_neg h).symm.trans hr
          refine L_keep ((41, .bool y15) :: [(10, I y11.2)]) rfl fun b => ?_
          refine L_bool (eq_false_of_ne_true h) ?_
          refine L_pure 4 [(8, .bool false)] (by kernel_rfl) fun b => ?_
          refine wpL_nil ?_
          refine th_n ?_
          obtain rfl := Option.some.inj hr
          have hst := ((hst.pull 1).pull 1)
          exact (kpX [(8, .bool false)] rfl hst)
    · have hr := (if_neg (by rw [h]; exact Bool.false_ne_true)).symm.trans hr
      refine wp_skip ?_
      refine th_n ?_
      refine wp_seq ?_
      refine wp_reg ?_
      refine L_pure 4 [(0, .slice a4 y10.length c4), (1, I x2), (2, I x3), (3, I x4), (45, .slice a4 y10.length c4), (46, I x2), (47, .slice a4 y10.length c4), (48, I x2)] (by kernel_rfl) fun b => ?_
      obtain ⟨x10, hx6, hr⟩ := bnd hr
      refine L_op rfl (O_run (v := pt (ab a4) (ao a4 + x2.toNat * 8)) (w' := w) (R_ia L22 rfl rfl (osl_addr hst hx6) (gt_some hx6).1 (gt_some hx6).2.1) rfl rfl ?_)
      refine L_pure 1 [(0, .slice a4 y10.length c4), (1, I x2), (2, I x3), (3, I x4), (45, .slice a4 y10.length c4), (46, I x2), (50, pt (ab a4) (ao a4 + x2.toNat * 8 + 3))] (by kernel_rfl) fun b => ?_
      obtain ⟨q4, hc4, hst⟩ := osl_cells hst hx6
      refine L_op rfl (O_run (v := I x10.Start) (w' := w) (R_loadAt (off := ao a4 + x2.toNat * 8) (j := 3) hc4 rfl rfl) rfl rfl ?_)
      refine L_pure 5 [(0, .slice a4 y10.length c4), (1, I x2), (3, I x4), (45, .slice a4 y10.length c4), (46, I x2), (56, I (mx2 (IntKind.i64.wrap (x10.Start - (mn2 (mx2 x3 0) 1000))) 0))] (by kernel_rfl) fun b => ?_
      obtain ⟨x11, hx7, hr⟩ := bnd hr
      refine L_op rfl (O_run (v := pt (ab a4) (ao a4 + x2.toNat * 8)) (w' := w) (R_ia L22 rfl rfl (osl_addr (hst.pull 1) hx7) (gt_some hx7).1 (gt_some hx7).2.1) rfl rfl ?_)
      refine L_pure 1 [(0, .slice a4 y10.length c4), (1, I x2), (3, I x4), (56, I (mx2 (IntKind.i64.wrap (x10.Start - (mn2 (mx2 x3 0) 1000))) 0)), (58, pt (ab a4) (ao a4 + x2.toNat * 8 + 3))] (by kernel_rfl) fun b => ?_
      refine L_op rfl (O_store_osl (φ := fun _ => True) (hφ := fun _ _ _ h => h) (y := (T_history_Op.mk x11.Kind x11.Name x11.Value (mx2 (IntKind.i64.wrap (x10.Start - (mn2 (mx2 x3 0) 1000))) 0) x11.End x11.Err x11.Got x11.Names)) (j := 3) (hst := (St.triv (fun _ => trivial) (hst.pull 1))) hx7 rfl rfl (by rintro m cs - ⟨y, rfl, hy⟩; exact ⟨_, rfl, ⟨y, rfl, hy⟩⟩) fun w hst => ?_)
      refine wpL_nil ?_
      refine th_n ?_
      obtain ⟨y16, hy16, hk7⟩ := bnd hr
      clear hr
      refine wp_seq_cut (fun a w => ∃ (a5 : Option Addr) (c5 : Nat)(b : Nat → Value), a = mkF 86 b [(0, .slice a5 y16.length c5)] ∧ St G w (osl r_T_history_Op 32 a5 c5 y16 :: dsl rS q4.1 q4.2 x10.Names :: dsl r_T_history_Op a1 c1 x1 :: F)) ?_ ?_
      · rintro _ w ⟨a5, c5, b, rfl, hst⟩
        have hr := hk7
        refine wp_seq ?_
        refine wp_reg ?_
        refine L_pure 1 [(77, .slice a5 y16.length c5)] (by kernel_rfl) fun b => ?_
        obtain ⟨y17, hy17, hr⟩ := bnd hr
        refine L_op rfl (O_call (vs := #[.slice a5 y16.length c5]) Try.call9 (by kernel_rfl) (history_Check_ok k y16 a5 c5 y17 hst hy17 fun w hst => ?_))
        refine CK_ret rfl ?_
        refine L_pure 5 [(11, .bool y17.1), (12, I y17.2)] (by kernel_rfl) fun b => ?_
        refine wpL_nil ?_
        refine th_n ?_
        obtain ⟨y18, hy18, hk8⟩ := bnd hr
        clear hr
        refine wp_seq_cut (fun a w => ∃ (b : Nat → Value), a = mkF 86 b [(8, .bool y18)] ∧ St G w (osl r_T_history_Op 32 a5 c5 y16 :: dsl rS q4.1 q4.2 x10.Names :: dsl r_T_history_Op a1 c1 x1 :: F)) ?_ ?_
        · rintro _ w ⟨b, rfl, hst⟩
          have hr := hk8
          refine wp_ret ?_
          refine ret1 rfl rfl ?_
          obtain rfl := Option.some.inj hr
          have hst := ((hst.pull 2).cut 1 2)
          exact hR _ hst
        · have hr := hy18
          refine wp_reg ?_
          refine L_pure 3 [(11, .bool y17.1), (83, .bool (y17.2 == 0))] (by kernel_rfl) fun b => ?_
          by_cases h : (y17.2 == 0) = true
          · have hr := (if_pos h).symm.trans hr
            refine L_keep ((83, .bool (y17.2 == 0)) :: [(11, .bool y17.1)]) rfl fun b => ?_
            refine L_bool h ?_
            refine L_pure 3 [(8, .bool y17.1)] (by kernel_rfl) fun b => ?_
            refine wpL_nil ?_
            refine th_n ?_
            obtain rfl := Option.some.inj hr
            have hst := (((hst.pull 2).pull 2).pull 2)
            exact (kpX [(8, .bool y17.1)] rfl hst)
          · have hr := (if_neg h).symm.trans hr
            refine L_keep ((83, .bool (y17.2 == 0)) :: [(11, .bool y17.1)]) rfl fun b => ?_
            refine L_bool (eq_false_of_ne_true h) ?_
            refine L_pure 3 [(8, .bool false)] (by kernel_rfl) fun b => ?_
            refine wpL_nil ?_
            refine th_n ?_
            obtain rfl := Option.some.inj hr
            have hst := (((hst.pull 2).pull 2).pull 2)
            exact (kpX [(8, .bool false)] rfl hst)
      · have hr := hy16
        refine wp_seq ?_
        refine wp_reg ?_
        refine L_pure 2 [(0, .slice a4 y10.length c4), (1, I x2), (3, I x4), (59, .slice a4 y10.length c4), (60, I x2)] (by kernel_rfl) fun b => ?_
        obtain ⟨x12, hx8, hr⟩ := bnd hr
        refine L_op rfl (O_run (v := pt (ab a4) (ao a4 + x2.toNat * 8)) (w' := w) (R_ia L22 rfl rfl (osl_addr hst hx8) (gt_some hx8).1 (by have h0 := (gt_some hx8).2.1; simpa only [List.length_set] using h0)) rfl rfl ?_)
        refine L_pure 1 [(0, .slice a4 y10.length c4), (1, I x2), (3, I x4), (62, pt (ab a4) (ao a4 + x2.toNat * 8 + 4))] (by kernel_rfl) fun b => ?_
        obtain ⟨q5, hc5, hst⟩ := osl_cells hst hx8
        refine L_op rfl (O_run (v := I x12.End) (w' := w) (R_loadAt (off := ao a4 + x2.toNat * 8) (j := 4) hc5 rfl rfl) rfl rfl ?_)
        refine L_pure 1 [(0, .slice a4 y10.length c4), (1, I x2), (3, I x4), (64, .bool (decide (x12.End ≥ 0)))] (by kernel_rfl) fun b => ?_
        refine wpL_nil ?_
        refine th_n ?_
        refine wp_cond_mkF (t := decide (x12.End ≥ 0)) rfl (fun h => ?_) (fun h => ?_)
        · have hr := (if_pos h).symm.trans hr
          refine wp_reg ?_
          refine L_pure 2 [(0, .slice a4 y10.length c4), (3, I x4), (65, .slice a4 y10.length c4), (66, I x2)] (by kernel_rfl) fun b => ?_
          obtain ⟨x13, hx9, hr⟩ := bnd hr
          refine L_op rfl (O_run (v := pt (ab a4) (ao a4 + x2.toNat * 8)) (w' := w) (R_ia L22 rfl rfl (osl_addr (hst.pull 1) hx9) (gt_some hx9).1 (by have h0 := (gt_some hx9).2.1; simpa only [List.length_set] using h0)) rfl rfl ?_)
          refine L_pure 1 [(0, .slice a4 y10.length c4), (3, I x4), (65, .slice a4 y10.length c4), (66, I x2), (68, pt (ab a4) (ao a4 + x2.toNat * 8 + 4))] (by kernel_rfl) fun b => ?_
          obtain ⟨q6, hc6, hst⟩ := osl_cells (hst.pull 1) hx9
          refine L_op rfl (O_run (v := I x13.End) (w' := w) (R_loadAt (off := ao a4 + x2.toNat * 8) (j := 4) hc6 rfl rfl) rfl rfl ?_)
          refine L_pure 4 [(0, .slice a4 y10.length c4), (65, .slice a4 y10.length c4), (66, I x2), (73, I (IntKind.i64.wrap (x13.End + (mn2 (mx2 x4 0) 1000))))] (by kernel_rfl) fun b => ?_
          obtain ⟨x14, hx10, hr⟩ := bnd hr
          refine L_op rfl (O_run (v := pt (ab a4) (ao a4 + x2.toNat * 8)) (w' := w) (R_ia L22 rfl rfl (osl_addr (hst.pull 1) hx10) (gt_some hx10).1 (by have h0 := (gt_some hx10).2.1; simpa only [List.length_set] using h0)) rfl rfl ?_)
          refine L_pure 1 [(0, .slice a4 y10.length c4), (73, I (IntKind.i64.wrap (x13.End + (mn2 (mx2 x4 0) 1000)))), (75, pt (ab a4) (ao a4 + x2.toNat * 8 + 4))] (by kernel_rfl) fun b => ?_
          refine L_op rfl (O_store_osl (φ := fun _ => True) (hφ := fun _ _ _ h => h) (y := (T_history_Op.mk x14.Kind x14.Name x14.Value x14.Start (IntKind.i64.wrap (x13.End + (mn2 (mx2 x4 0) 1000))) x14.Err x14.Got x14.Names)) (j := 4) (hst := (St.triv (fun _ => trivial) (hst.pull 1))) hx10 rfl rfl (by rintro m cs - ⟨y, rfl, hy⟩; exact ⟨_, rfl, ⟨y, rfl, hy⟩⟩) fun w hst => ?_)
          refine wpL_nil ?_
          refine th_n ?_
          obtain rfl := Option.some.inj hr
          have hst := ((((hst.pull 4).pull 4).pull 2).cut 3 2)
          exact ⟨a4, c4, (kpY [(0, .slice a4 ((y10.set x2.toNat (T_history_Op.mk x11.Kind x11.Name x11.Value (mx2 (IntKind.i64.wrap (x10.Start - (mn2 (mx2 x3 0) 1000))) 0) x11.End x11.Err x11.Got x11.Names)).set x2.toNat (T_history_Op.mk x14.Kind x14.Name x14.Value x14.Start (IntKind.i64.wrap (x13.End + (mn2 (mx2 x4 0) 1000))) x14.Err x14.Got x14.Names)).length c4)] [.slice a4 y10.length c4] (by kernel_rfl) (by simp only [List.length_set, List.map]) hst)⟩
        · have hr := (if_neg (by rw [h]; exact Bool.false_ne_true)).symm.trans hr
          refine wp_skip ?_
          refine th_n ?_
          obtain rfl := Option.some.inj hr
          have hst := ((((hst.pull 3).pull 3).pull 3).cut 3 1)
          exact ⟨a4, c4, (kpY [(0, .slice a4 (y10.set x2.toNat (T_history_Op.mk x11.Kind x11.Name x11.Value (mx2 (IntKind.i64.wrap (x10.Start - (mn2 (mx2 x3 0) 1000))) 0) x11.End x11.Err x11.Got x11.Names)).length c4)] [.slice a4 y10.length c4] (by kernel_rfl) (by simp only [List.length_set, List.map]) hst)⟩
  · have hr := hy12
    refine wp_reg ?_
    obtain ⟨y13, hy13, hr⟩ := bnd hr
    refine L_op rfl (O_call (vs := #[]) Try.call10 (by kernel_rfl) (glacierlaw18_awake_ok k y13 hst hy13 fun w hst => ?_))
    refine CK_ret rfl ?_
    refine L_pure 2 [(0, .slice a4 y10.length c4), (1, I x2), (2, I x3), (3, I x4), (9, .bool y11.1), (10, I y11.2), (22, .bool (!y13))] (by kernel_rfl) fun b => ?_
    by_cases h : (!y13) = true
    · have hr := (if_pos h).symm.trans hr
      refine L_keep ((22, .bool (!y13)) :: [(0, .slice a4 y10.length c4), (1, I x2), (2, I x3), (3, I x4), (9, .bool y11.1), (10, I y11.2)]) rfl fun b => ?_
      refine L_bool h ?_
      refine L_pure 17 [(0, .slice a4 y10.length c4), (1, I x2), (2, I x3), (3, I x4), (10, I y11.2), (39, .bool true)] (by kernel_rfl) fun b => ?_
      refine wpL_nil ?_
      refine th_n ?_
      obtain rfl := Option.some.inj hr
      have hst := ((hst.pull 1).pull 1)
      exact (kpX [(0, .slice a4 y10.length c4), (1, I x2), (2, I x3), (3, I x4), (10, I y11.2), (39, .bool true)] rfl hst)
    · have hr := (if_neg h).symm.trans hr
      refine L_keep ((22, .bool (!y13)) :: [(0, .slice a4 y10.length c4), (1, I x2), (2, I x3), (3, I x4), (9, .bool y11.1), (10, I y11.2)]) rfl fun b => ?_
      refine L_bool (eq_false_of_ne_true h) ?_
      refine L_pure 4 [(0, .slice a4 y10.length c4), (1, I x2), (2, I x3), (3, I x4), (9, .bool y11.1), (10, I y11.2), (26, .bool (y11.2 != 0))] (by kernel_rfl) fun b => ?_
      by_cases h : (y11.2 != 0) = true
      · have hr := (if_pos h).symm.trans hr
        refine L_keep ((26, .bool (y11.2 != 0)) :: [(0, .slice a4 y10.length c4), (1, I x2), (2, I x3), (3, I x4), (9, .bool y11.1), (10, I y11.2)]) rfl fun b => ?_
        refine L_bool h ?_
        refine L_pure 13 [(0, .slice a4 y10.length c4), (1, I x2), (2, I x3), (3, I x4), (10, I y11.2), (39, .bool true)] (by kernel_rfl) fun b => ?_
        refine wpL_nil ?_
        refine th_n ?_
        obtain rfl := Option.some.inj hr
        have hst := ((hst.pull 1).pull 1)
        exact (kpX [(0, .slice a4 y10.length c4), (1, I x2), (2, I x3), (3, I x4), (10, I y11.2), (39, .bool true)] rfl hst)
      · have hr := (if_neg h).symm.trans hr
        refine L_keep ((26, .bool (y11.2 != 0)) :: [(0, .slice a4 y10.length c4), (1, I x2), (2, I x3), (3, I x4), (9, .bool y11.1), (10, I y11.2)]) rfl fun b => ?_
        refine L_bool (eq_false_of_ne_true h) ?_
        refine L_pure 4 [(0, .slice a4 y10.length c4), (1, I x2), (2, I x3), (3, I x4), (10, I y11.2), (30, .bool (!y11.1))] (by kernel_rfl) fun b => ?_
        by_cases h : (!y11.1) = true
        · have hr := (if_pos h).symm.trans hr
          refine L_keep ((30, .bool (!y11.1)) :: [(0, .slice a4 y10.length c4), (1, I x2), (2, I x3), (3, I x4), (10, I y11.2)]) rfl fun b => ?_
          refine L_bool h ?_
          refine L_pure 9 [(0, .slice a4 y10.length c4), (1, I x2), (2, I x3), (3, I x4), (10, I y11.2), (39, .bool true)] (by kernel_rfl) fun b => ?_
          refine wpL_nil ?_
          refine th_n ?_
          obtain rfl := Option.some.inj hr
          have hst := ((hst.pull 1).pull 1)
          exact (kpX [(0, .slice a4 y10.length c4), (1, I x2), (2, I x3), (3, I x4), (10, I y11.2), (39, .bool true)] rfl hst)
        · have hr := (if_neg h).symm.trans hr
          refine L_keep ((30, .bool (!y11.1)) :: [(0, .slice a4 y10.length c4), (1, I x2), (2, I x3), (3, I x4), (10, I y11.2)]) rfl fun b => ?_
          refine L_bool (eq_false_of_ne_true h) ?_
          refine L_pure 4 [(0, .slice a4 y10.length c4), (1, I x2), (2, I x3), (3, I x4), (10, I y11.2), (34, .bool (decide (x2 < 0)))] (by kernel_rfl) fun b => ?_
          by_cases h : (decide (x2 < 0)) = true
          · have hr := (if_pos h).symm.trans hr
            refine L_keep ((34, .bool (decide (x2 < 0))) :: [(0, .slice a4 y10.length c4), (1, I x2), (2, I x3), (3, I x4), (10, I y11.2)]) rfl fun b => ?_
            refine L_bool h ?_
            refine L_pure 5 [(0, .slice a4 y10.length c4), (1, I x2), (2, I x3), (3, I x4), (10, I y11.2), (39, .bool true)] (by kernel_rfl) fun b => ?_
            refine wpL_nil ?_
            refine th_n ?_
            obtain rfl := Option.some.inj hr
            have hst := ((hst.pull 1).pull 1)
            exact (kpX [(0, .slice a4 y10.length c4), (1, I x2), (2, I x3), (3, I x4), (10, I y11.2), (39, .bool true)] rfl hst)
          · have hr := (if_neg h).symm.trans hr
            refine L_keep ((34, .bool (decide (x2 < 0))) :: [(0, .slice a4 y10.length c4), (1, I x2), (2, I x3), (3, I x4), (10, I y11.2)]) rfl fun b => ?_
            refine L_bool (eq_false_of_ne_true h) ?_
            refine L_pure 5 [(0, .slice a4 y10.length c4), (1, I x2), (2, I x3), (3, I x4), (10, I y11.2), (39, .bool (decide (x2 ≥ (y10.length : Int))))] (by kernel_rfl) fun b => ?_
            refine wpL_nil ?_
            refine th_n ?_
            obtain rfl := Option.some.inj hr
            have hst := ((hst.pull 1).pull 1)
            exact (kpX [(0, .slice a4 y10.length c4), (1, I x2), (2, I x3), (3, I x4), (10, I y11.2), (39, .bool (decide (x2 ≥ (y10.length : Int))))] rfl hst)
end Go.Proofs.Ytkbhnofclgibfaa
