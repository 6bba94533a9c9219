/- RM, one part more. -/
import Derived.Test.YtpldjopnhhbjpaaGreatRMd
namespace Go.Proofs.YtpldjopnhhbjpaaGreat
open Go.Hx Go.RowKit
def glacierref10_Majority_l2 (k : Nat) (x1 : (List Int)) (x4 : Int) : Nat → Int → Int → Option (Int)
  | 0, _, _ => none
  | j + 1, v15, v16 => (if decide (v16 < (x1.length : Int)) = true then (Option.bind (Option.bind (gt x1 v16) fun x5 => (if decide (x5 ≥ x4) = true then some ((IntKind.i64.wrap (v15 + 1))) else some (v15))) fun y8 => (glacierref10_Majority_l2 k x1 x4 j y8 (IntKind.i64.wrap (v16 + 1)))) else some (v15))
def glacierref10_Majority_l1 (k : Nat) (x1 : (List Int)) : Nat → Int → Int → Option (Int)
  | 0, _, _ => none
  | j + 1, v11, v12 => (if decide (v12 < (x1.length : Int)) = true then (Option.bind (Option.bind (gt x1 v12) fun x4 => (Option.bind (glacierref10_Majority_l2 k x1 x4 k (0 : Int) (0 : Int)) fun y7 => (if decide ((IntKind.i64.wrap (2 * y7)) > (x1.length : Int)) = true then some ((mx2 v11 x4)) else some (v11)))) fun y6 => (glacierref10_Majority_l1 k x1 j y6 (IntKind.i64.wrap (v12 + 1)))) else some (v11))
def glacierref10_Majority (k : Nat) (x1 : (List Int)) : Option (Int) := (Option.bind (glacierref10_Majority_l1 k x1 k (0 : Int) (0 : Int)) fun y5 => some (y5))
set_option maxRecDepth 100000 in
set_option maxHeartbeats 4000000 in
theorem glacierref10_Majority_ok {G w : World} {F : List HP} {R : Ending → World → Prop} (k : Nat) (x1 : (List Int)) (a1 : Option Addr) (c1 : Nat) (r : (Int)) (hst : St G w (osl (rI .i64) 3 a1 c1 x1 :: F)) (hr : glacierref10_Majority k x1 = some r)
    (hR : ∀ w', St G w' (osl (rI .i64) 3 a1 c1 x1 :: F) → R (.returned (I r)) w') :
    Calls Tryz.prog 11 #[.slice a1 x1.length c1] w R := by
  unfold glacierref10_Majority at hr
  refine enter Tryz.func11 rfl [(0, .slice a1 x1.length c1)] rfl rfl fun b => ?_
  refine wp_seq ?_
  refine wp_reg ?_
  refine L_pure 1 [(0, .slice a1 x1.length c1)] (by kernel_rfl) fun b => ?_
  refine wpL_nil ?_
  refine th_n ?_
  refine wp_seq ?_
  refine wp_reg ?_
  refine L_pure 1 [(0, .slice a1 x1.length c1), (3, I 0)] (by kernel_rfl) fun b => ?_
  refine wpL_nil ?_
  refine th_n ?_
  refine wp_seq ?_
  refine wp_seq ?_
  refine wp_reg ?_
  refine L_pure 3 [(0, .slice a1 x1.length c1), (3, I 0), (9, .slice a1 x1.length c1), (10, I (x1.length : Int)), (11, I 0)] (by kernel_rfl) fun b => ?_
  refine wpL_nil ?_
  refine th_n ?_
  obtain ⟨y5, hy5, hk5⟩ := bnd hr
  clear hr
  refine Go.Hx.wp_cut (fun a w => ∃ (b : Nat → Value), a = mkF 37 b [(3, I y5)] ∧ St G w (osl (rI .i64) 3 a1 c1 x1 :: F)) ?_ ?_
  · rintro _ w ⟨b, rfl, hst⟩
    have hr := hk5
    refine th_n ?_
    refine wp_seq ?_
    refine wp_reg ?_
    refine L_pure 2 [(2, I y5)] (by kernel_rfl) fun b => ?_
    refine wpL_nil ?_
    refine th_n ?_
    refine wp_ret ?_
    refine ret1 rfl rfl ?_
    obtain rfl := Option.some.inj hr
    exact hR _ hst
  · refine wp_block ?_
    refine wp_loop_fuel (fun j a w => ∃ (v11 : Int) (v12 : Int) (b : Nat → Value), a = mkF 37 b [(0, .slice a1 x1.length c1), (3, I v11), (9, .slice a1 x1.length c1), (10, I (x1.length : Int)), (11, I v12)] ∧ St G w (osl (rI .i64) 3 a1 c1 x1 :: F) ∧ glacierref10_Majority_l1 k x1 j v11 v12 = some y5) (k := k) ⟨(0 : Int), (0 : Int), (kpX [(0, .slice a1 x1.length c1), (3, I 0), (9, .slice a1 x1.length c1), (10, I (x1.length : Int)), (11, I 0)] rfl ⟨hst, hy5⟩)⟩ ?_ ?_
    · rintro _ _ ⟨_, _, _, _, _, h⟩
      rw [glacierref10_Majority_l1] at h
      cases h
    · rintro j _ w ⟨v11, v12, b, rfl, hst, hr⟩
      rw [glacierref10_Majority_l1] at hr
      refine wp_seq ?_
      refine wp_reg ?_
      refine L_pure 1 [(0, .slice a1 x1.length c1), (3, I v11), (9, .slice a1 x1.length c1), (10, I (x1.length : Int)), (11, I v12), (12, .bool (decide (v12 < (x1.length : Int))))] (by kernel_rfl) fun b => ?_
      refine wpL_nil ?_
      refine th_n ?_
      refine wp_seq ?_
      refine wp_cond_mkF (t := decide (v12 < (x1.length : Int))) rfl (fun h => ?_) (fun h => ?_)
      · have hr := (if_pos h).symm.trans hr
        refine wp_skip ?_
        refine th_n ?_
        obtain ⟨y6, hy6, hk6⟩ := bnd hr
        clear hr
        refine wp_seq_cut (fun a w => ∃ (b : Nat → Value), a = mkF 37 b [(0, .slice a1 x1.length c1), (3, I y6), (9, .slice a1 x1.length c1), (10, I (x1.length : Int)), (11, I v12)] ∧ St G w (osl (rI .i64) 3 a1 c1 x1 :: F)) ?_ ?_
        · rintro _ w ⟨b, rfl, hst⟩
          have hr := hk6
          refine wp_reg ?_
          refine L_pure 2 [(0, .slice a1 x1.length c1), (3, I y6), (9, .slice a1 x1.length c1), (10, I (x1.length : Int)), (11, I (IntKind.i64.wrap (v12 + 1)))] (by kernel_rfl) fun b => ?_
          refine wpL_nil ?_
          refine th_n ?_
          exact ⟨y6, (IntKind.i64.wrap (v12 + 1)), (kpX [(0, .slice a1 x1.length c1), (3, I y6), (9, .slice a1 x1.length c1), (10, I (x1.length : Int)), (11, I (IntKind.i64.wrap (v12 + 1)))] rfl ⟨hst, hr⟩)⟩
        · have hr := hy6
          refine wp_block ?_
          refine wp_seq ?_
          refine wp_reg ?_
          obtain ⟨x4, hx3, hr⟩ := bnd hr
          refine L_op rfl (O_run (v := pt (ab a1) (ao a1 + v12.toNat * 1)) (w' := w) (R_ia L22 rfl rfl (osl_addr hst hx3) (gt_some hx3).1 (gt_some hx3).2.1) rfl rfl ?_)
          obtain ⟨q3, hc3, hst⟩ := osl_cells hst hx3
          have hst := hst.drop
          refine L_op rfl (O_run (v := I x4) (w' := w) (R_loadAt (off := ao a1 + v12.toNat * 1) (j := 0) hc3 rfl rfl) rfl rfl ?_)
          refine L_pure 1 [(0, .slice a1 x1.length c1), (3, I v11), (5, I x4), (9, .slice a1 x1.length c1), (10, I (x1.length : Int)), (11, I v12)] (by kernel_rfl) fun b => ?_
          refine wpL_nil ?_
          refine th_n ?_
          refine wp_seq ?_
          refine wp_reg ?_
          refine L_pure 1 [(0, .slice a1 x1.length c1), (3, I v11), (5, I x4), (6, I 0), (9, .slice a1 x1.length c1), (10, I (x1.length : Int)), (11, I v12)] (by kernel_rfl) fun b => ?_
          refine wpL_nil ?_
          refine th_n ?_
          refine wp_seq ?_
          refine wp_seq ?_
          refine wp_reg ?_
          refine L_pure 3 [(0, .slice a1 x1.length c1), (3, I v11), (5, I x4), (6, I 0), (9, .slice a1 x1.length c1), (10, I (x1.length : Int)), (11, I v12), (15, .slice a1 x1.length c1), (16, I (x1.length : Int)), (17, I 0)] (by kernel_rfl) fun b => ?_
          refine wpL_nil ?_
          refine th_n ?_
          obtain ⟨y7, hy7, hk7⟩ := bnd hr
          clear hr
          refine Go.Hx.wp_cut (fun a w => ∃ (b : Nat → Value), a = mkF 37 b [(0, .slice a1 x1.length c1), (3, I v11), (5, I x4), (6, I y7), (9, .slice a1 x1.length c1), (10, I (x1.length : Int)), (11, I v12)] ∧ St G w (osl (rI .i64) 3 a1 c1 x1 :: F)) ?_ ?_
          · rintro _ w ⟨b, rfl, hst⟩
            have hr := hk7
            refine th_n ?_
            refine wp_seq ?_
            refine wp_reg ?_
            refine L_pure 5 [(0, .slice a1 x1.length c1), (3, I v11), (5, I x4), (9, .slice a1 x1.length c1), (10, I (x1.length : Int)), (11, I v12), (31, .bool (decide ((IntKind.i64.wrap (2 * y7)) > (x1.length : Int))))] (by kernel_rfl) fun b => ?_
            refine wpL_nil ?_
            refine th_n ?_
            refine wp_cond_mkF (t := decide ((IntKind.i64.wrap (2 * y7)) > (x1.length : Int))) rfl (fun h => ?_) (fun h => ?_)
            · have hr := (if_pos h).symm.trans hr
              refine wp_reg ?_
              refine L_pure 4 [(0, .slice a1 x1.length c1), (3, I (mx2 v11 x4)), (9, .slice a1 x1.length c1), (10, I (x1.length : Int)), (11, I v12)] (by kernel_rfl) fun b => ?_
              refine wpL_nil ?_
              refine ib_n (th_n ?_)
              obtain rfl := Option.some.inj hr
              exact (kpX [(0, .slice a1 x1.length c1), (3, I (mx2 v11 x4)), (9, .slice a1 x1.length c1), (10, I (x1.length : Int)), (11, I v12)] rfl hst)
            · have hr := (if_neg (by rw [h]; exact Bool.false_ne_true)).symm.trans hr
              refine wp_skip ?_
              refine ib_n (th_n ?_)
              obtain rfl := Option.some.inj hr
              exact (kpX [(0, .slice a1 x1.length c1), (3, I v11), (9, .slice a1 x1.length c1), (10, I (x1.length : Int)), (11, I v12)] rfl hst)
          · refine wp_block ?_
            refine wp_loop_fuel (fun j a w => ∃ (v15 : Int) (v16 : Int) (b : Nat → Value), a = mkF 37 b [(0, .slice a1 x1.length c1), (3, I v11), (5, I x4), (6, I v15), (9, .slice a1 x1.length c1), (10, I (x1.length : Int)), (11, I v12), (15, .slice a1 x1.length c1), (16, I (x1.length : Int)), (17, I v16)] ∧ St G w (osl (rI .i64) 3 a1 c1 x1 :: F) ∧ glacierref10_Majority_l2 k x1 x4 j v15 v16 = some y7) (k := k) ⟨(0 : Int), (0 : Int), (kpX [(0, .slice a1 x1.length c1), (3, I v11), (5, I x4), (6, I 0), (9, .slice a1 x1.length c1), (10, I (x1.length : Int)), (11, I v12), (15, .slice a1 x1.length c1), (16, I (x1.length : Int)), (17, I 0)] rfl ⟨hst, hy7⟩)⟩ ?_ ?_
            · rintro _ _ ⟨_, _, _, _, _, h⟩
              rw [glacierref10_Majority_l2] at h
              cases h
            · rintro j _ w ⟨v15, v16, b, rfl, hst, hr⟩
              rw [glacierref10_Majority_l2] at hr
              refine wp_seq ?_
              refine wp_reg ?_
              refine L_pure 1 [(0, .slice a1 x1.length c1), (3, I v11), (5, I x4), (6, I v15), (9, .slice a1 x1.length c1), (10, I (x1.length : Int)), (11, I v12), (15, .slice a1 x1.length c1), (16, I (x1.length : Int)), (17, I v16), (18, .bool (decide (v16 < (x1.length : Int))))] (by kernel_rfl) fun b => ?_
              refine wpL_nil ?_
              refine th_n ?_
              refine wp_seq ?_
              refine wp_cond_mkF (t := decide (v16 < (x1.length : Int))) rfl (fun h => ?_) (fun h => ?_)
              · have hr := (if_pos h).symm.trans hr
                refine wp_skip ?_
                refine th_n ?_
                obtain ⟨y8, hy8, hk8⟩ := bnd hr
                clear hr
                refine wp_seq_cut (fun a w => ∃ (b : Nat → Value), a = mkF 37 b [(0, .slice a1 x1.length c1), (3, I v11), (5, I x4), (6, I y8), (9, .slice a1 x1.length c1), (10, I (x1.length : Int)), (11, I v12), (15, .slice a1 x1.length c1), (16, I (x1.length : Int)), (17, I v16)] ∧ St G w (osl (rI .i64) 3 a1 c1 x1 :: F)) ?_ ?_
                · rintro _ w ⟨b, rfl, hst⟩
                  have hr := hk8
                  refine wp_reg ?_
                  refine L_pure 2 [(0, .slice a1 x1.length c1), (3, I v11), (5, I x4), (6, I y8), (9, .slice a1 x1.length c1), (10, I (x1.length : Int)), (11, I v12), (15, .slice a1 x1.length c1), (16, I (x1.length : Int)), (17, I (IntKind.i64.wrap (v16 + 1)))] (by kernel_rfl) fun b => ?_
                  refine wpL_nil ?_
                  refine th_n ?_
                  exact ⟨y8, (IntKind.i64.wrap (v16 + 1)), (kpX [(0, .slice a1 x1.length c1), (3, I v11), (5, I x4), (6, I y8), (9, .slice a1 x1.length c1), (10, I (x1.length : Int)), (11, I v12), (15, .slice a1 x1.length c1), (16, I (x1.length : Int)), (17, I (IntKind.i64.wrap (v16 + 1)))] rfl ⟨hst, hr⟩)⟩
                · have hr := hy8
                  refine wp_block ?_
                  refine wp_seq ?_
                  refine wp_reg ?_
                  obtain ⟨x5, hx4, hr⟩ := bnd hr
                  refine L_op rfl (O_run (v := pt (ab a1) (ao a1 + v16.toNat * 1)) (w' := w) (R_ia L22 rfl rfl (osl_addr hst hx4) (gt_some hx4).1 (gt_some hx4).2.1) rfl rfl ?_)
                  obtain ⟨q4, hc4, hst⟩ := osl_cells hst hx4
                  have hst := hst.drop
                  refine L_op rfl (O_run (v := I x5) (w' := w) (R_loadAt (off := ao a1 + v16.toNat * 1) (j := 0) hc4 rfl rfl) rfl rfl ?_)
                  refine L_pure 1 [(0, .slice a1 x1.length c1), (3, I v11), (5, I x4), (6, I v15), (8, I x5), (9, .slice a1 x1.length c1), (10, I (x1.length : Int)), (11, I v12), (15, .slice a1 x1.length c1), (16, I (x1.length : Int)), (17, I v16)] (by kernel_rfl) fun b => ?_
                  refine wpL_nil ?_
                  refine th_n ?_
                  refine wp_seq ?_
                  refine wp_reg ?_
                  refine L_pure 3 [(0, .slice a1 x1.length c1), (3, I v11), (5, I x4), (6, I v15), (9, .slice a1 x1.length c1), (10, I (x1.length : Int)), (11, I v12), (15, .slice a1 x1.length c1), (16, I (x1.length : Int)), (17, I v16), (23, .bool (decide (x5 ≥ x4)))] (by kernel_rfl) fun b => ?_
                  refine wpL_nil ?_
                  refine th_n ?_
                  refine wp_cond_mkF (t := decide (x5 ≥ x4)) rfl (fun h => ?_) (fun h => ?_)
                  · have hr := (if_pos h).symm.trans hr
                    refine wp_reg ?_
                    refine L_pure 3 [(0, .slice a1 x1.length c1), (3, I v11), (5, I x4), (6, I (IntKind.i64.wrap (v15 + 1))), (9, .slice a1 x1.length c1), (10, I (x1.length : Int)), (11, I v12), (15, .slice a1 x1.length c1), (16, I (x1.length : Int)), (17, I v16)] (by kernel_rfl) fun b => ?_
                    refine wpL_nil ?_
                    refine ib_n (th_n ?_)
                    obtain rfl := Option.some.inj hr
                    exact (kpX [(0, .slice a1 x1.length c1), (3, I v11), (5, I x4), (6, I (IntKind.i64.wrap (v15 + 1))), (9, .slice a1 x1.length c1), (10, I (x1.length : Int)), (11, I v12), (15, .slice a1 x1.length c1), (16, I (x1.length : Int)), (17, I v16)] rfl hst)
                  · have hr := (if_neg (by rw [h]; exact Bool.false_ne_true)).symm.trans hr
                    refine wp_skip ?_
                    refine ib_n (th_n ?_)
                    obtain rfl := Option.some.inj hr
                    exact (kpX [(0, .slice a1 x1.length c1), (3, I v11), (5, I x4), (6, I v15), (9, .slice a1 x1.length c1), (10, I (x1.length : Int)), (11, I v12), (15, .slice a1 x1.length c1), (16, I (x1.length : Int)), (17, I v16)] rfl hst)
              · have hr := (if_neg (by rw [h]; exact Bool.false_ne_true)).symm.trans hr
                refine wp_exit ?_
                refine th_x (th_x (ib_x (th_n ?_)))
                obtain rfl := Option.some.inj hr
                exact (kpX [(0, .slice a1 x1.length c1), (3, I v11), (5, I x4), (6, I v15), (9, .slice a1 x1.length c1), (10, I (x1.length : Int)), (11, I v12)] rfl hst)
      · have hr := (if_neg (by rw [h]; exact Bool.false_ne_true)).symm.trans hr
        refine wp_exit ?_
        refine th_x (th_x (ib_x (th_n ?_)))
        obtain rfl := Option.some.inj hr
        exact (kpX [(3, I v11)] rfl hst)
def glacierlaw10_RaftCommits_l1 (k : Nat) (x2 : Int) (x4 : (List Int)) (y21 : (T_raft_Node × Int × Int × Bool × Int × (List ((List UInt8) × (Option T_platter_file))))) (y22 : (Int × Int × Bool × Int × (List ((List UInt8) × (Option T_platter_file))) × (List T_glacierref09_Entry) × T_glacierref09_State)) : Nat → (List Int) → Int → T_raft_Node → Int → Int → (List ((List UInt8) × (Option T_platter_file))) → Option (Flow (Bool) (T_raft_Node × Int × Int × (List ((List UInt8) × (Option T_platter_file)))))
  | 0, _, _, _, _, _, _ => none
  | j + 1, v31, v32, v33, v34, v35, v36 => (Option.bind (if decide (v32 < (x4.length : Int)) = true then (if decide (v32 < 12) = true then some (decide (x2 > 1)) else some (false)) else some (false)) fun y25 => (if y25 = true then (if (IntKind.i64.wrap (x2 - 1)) ≠ 0 then (Option.bind (gt x4 v32) fun x10 => (Option.bind (raft_Node_Last k v33 y21.2.1 v34 y21.2.2.2.1 v35 v36) fun y26 => (Option.bind (raft_Node_Term k v33 y21.2.1 v34 y21.2.2.2.1 v35 v36) fun y27 => (Option.bind (raft_Node_Step k v33 y21.2.1 v34 y21.2.2.2.1 v35 v36 (T_raft_Msg.mk 4 (IntKind.i64.wrap (1 + (v32.tmod (IntKind.i64.wrap (x2 - 1))))) 0 y27 (mn2 (mx2 x10 0) y26) 0 0 true ([]) ([]))) fun y28 => (Option.bind (gt v31 (IntKind.i64.wrap (1 + (v32.tmod (IntKind.i64.wrap (x2 - 1)))))) fun x11 => (Option.bind (gt v31 (IntKind.i64.wrap (1 + (v32.tmod (IntKind.i64.wrap (x2 - 1)))))) fun _ => (Option.bind (glacierref10_Majority k (v31.set (IntKind.i64.wrap (1 + (v32.tmod (IntKind.i64.wrap (x2 - 1))))).toNat (mx2 x11 (mn2 (mx2 x10 0) y26)))) fun y29 => (Option.bind (if decide (y29 < (IntKind.i64.wrap ((IntKind.i64.wrap (y22.2.2.2.2.2.2.Base + (y22.2.2.2.2.2.1.length : Int))) + 1))) = true then some (y22.2.2.2.2.2.2.Base) else some (y29)) fun y30 => (Option.bind (raft_Node_Commit k y28.1 y21.2.1 y28.2.1 y21.2.2.2.1 y28.2.2.1 y28.2.2.2) fun y31 => (if (y31 != y30) = true then some (Flow.ret (false)) else (glacierlaw10_RaftCommits_l1 k x2 x4 y21 y22 j (v31.set (IntKind.i64.wrap (1 + (v32.tmod (IntKind.i64.wrap (x2 - 1))))).toNat (mx2 x11 (mn2 (mx2 x10 0) y26))) (IntKind.i64.wrap (v32 + 1)) y28.1 y28.2.1 y28.2.2.1 y28.2.2.2))))))))))) else none) else some (Flow.go (v33, v34, v35, v36))))
def glacierlaw10_RaftCommits (k : Nat) (x1 : T_glacierlaw10_Start) (x2 : Int) (x3 : (List (List UInt8))) (x4 : (List Int)) : Option (Bool) := (Option.bind (Option.bind (glacierlaw10_awake k) fun y19 => (if (!y19) = true then some (true) else (if decide (x2 < 1) = true then some (true) else some (decide (x2 > 5))))) fun y18 => (if y18 = true then (Option.bind (glacierlaw10_awake k) fun y20 => some (y20)) else (Option.bind (glacierlaw10_leader k x1 x2 x3) fun y21 => (Option.bind (glacierlaw10_Kept k x1) fun y22 => (if 0 ≤ x2 ∧ x2 ≤ 1000000 then (Option.bind (raft_Node_Last k y21.1 y21.2.1 y21.2.2.1 y21.2.2.2.1 y21.2.2.2.2.1 y21.2.2.2.2.2) fun y23 => (Option.bind (gt (List.replicate x2.toNat (0 : Int)) 0) fun _ => (Option.bind (glacierlaw10_RaftCommits_l1 k x2 x4 y21 y22 k ((List.replicate x2.toNat (0 : Int)).set (0 : Int).toNat y23) (0 : Int) y21.1 y21.2.2.1 y21.2.2.2.2.1 y21.2.2.2.2.2) fun y24 => (match y24 with | Flow.ret r => some r | Flow.go z2 => (Option.bind (Option.bind (raft_Node_Commit k z2.1 y21.2.1 z2.2.1 y21.2.2.2.1 z2.2.2.1 z2.2.2.2) fun y33 => (Option.bind (raft_Node_Last k z2.1 y21.2.1 z2.2.1 y21.2.2.2.1 z2.2.2.1 z2.2.2.2) fun y34 => (if (y33 == y34) = true then some (true) else some (decide (x2 > 1))))) fun y32 => some (y32)))))) else none)))))
set_option maxRecDepth 100000 in
set_option maxHeartbeats 4000000 in
theorem glacierlaw10_RaftCommits_ok {G w : World} {F : List HP} {R : Ending → World → Prop} (k : Nat) (x1 : T_glacierlaw10_Start) (x2 : Int) (x3 : (List (List UInt8))) (x4 : (List Int)) (a1 : Option Addr) (c1 : Nat) (a2 : Option Addr) (c2 : Nat) (a3 : Option Addr) (c3 : Nat) (r : (Bool)) (hst : St G w (dsl (rI .i64) a1 c1 x1.Terms :: dsl rS a2 c2 x3 :: dsl (rI .i64) a3 c3 x4 :: F)) (hr : glacierlaw10_RaftCommits k x1 x2 x3 x4 = some r)
    (hR : ∀ w', St G w' (dsl (rI .i64) a1 c1 x1.Terms :: dsl rS a2 c2 x3 :: dsl (rI .i64) a3 c3 x4 :: F) → R (.returned (.bool r)) w') :
    Calls Tryz.prog 3 #[.agg #[I x1.Term, I x1.Vote, I x1.Base, .slice a1 x1.Terms.length c1], I x2, .slice a2 x3.length c2, .slice a3 x4.length c3] w R := by
  unfold glacierlaw10_RaftCommits at hr
  refine enter Tryz.func3 rfl [(0, .agg #[I x1.Term, I x1.Vote, I x1.Base, .slice a1 x1.Terms.length c1]), (1, I x2), (2, .slice a2 x3.length c2), (3, .slice a3 x4.length c3)] rfl rfl fun b => ?_
  refine wp_seq ?_
  refine wp_reg ?_
  refine L_op rfl (O_box [I x1.Term, I x1.Vote, I x1.Base, .slice a1 x1.Terms.length c1] hst rfl rfl fun p8 w hst => ?_)
  refine L_pure 1 [(1, I x2), (2, .slice a2 x3.length c2), (3, .slice a3 x4.length c3), (4, pt p8 0)] (by kernel_rfl) fun b => ?_
  refine wpL_nil ?_
  refine th_n ?_
  refine wp_seq ?_
  obtain ⟨y18, hy18, hk6⟩ := bnd hr
  clear hr
  refine wp_seq_cut (fun a w => ∃ (b : Nat → Value), a = mkF 116 b [(1, I x2), (2, .slice a2 x3.length c2), (3, .slice a3 x4.length c3), (4, pt p8 0), (27, .bool y18)] ∧ St G w (blk p8 (cl [I x1.Term, I x1.Vote, I x1.Base, .slice a1 x1.Terms.length c1] 24) :: dsl (rI .i64) a1 c1 x1.Terms :: dsl rS a2 c2 x3 :: dsl (rI .i64) a3 c3 x4 :: F)) ?_ ?_
  · rintro _ w ⟨b, rfl, hst⟩
    have hr := hk6
    refine wp_cond_mkF (t := y18) rfl (fun h => ?_) (fun h => ?_)
    · have hr := (if_pos h).symm.trans hr
      refine wp_seq ?_
      refine wp_reg ?_
      obtain ⟨y20, hy20, hr⟩ := bnd hr
      refine L_op rfl (O_call (vs := #[]) Tryz.call5 (by kernel_rfl) (glacierlaw10_awake_ok k y20 hst hy20 fun w hst => ?_))
      refine CK_ret rfl ?_
      refine L_pure 1 [(8, .bool y20)] (by kernel_rfl) fun b => ?_
      refine wpL_nil ?_
      refine th_n ?_
      refine wp_ret ?_
      refine th_r ?_
      refine ret1 rfl rfl ?_
      obtain rfl := Option.some.inj hr
      have hst := ((((hst.pull 3).pull 3).pull 3).cut 3 1)
      exact hR _ hst
    · have hr := (if_neg (by rw [h]; exact Bool.false_ne_true)).symm.trans hr
      refine wp_skip ?_
      refine th_n ?_
      refine wp_seq ?_
      refine wp_reg ?_
      refine L_op rfl (O_run (v := .agg #[I x1.Term, I x1.Vote, I x1.Base, .slice a1 x1.Terms.length c1]) (w' := w) (R_load hst rfl rfl) rfl rfl ?_)
      refine L_pure 2 [(1, I x2), (3, .slice a3 x4.length c3), (4, pt p8 0), (29, .agg #[I x1.Term, I x1.Vote, I x1.Base, .slice a1 x1.Terms.length c1]), (30, I x2), (31, .slice a2 x3.length c2)] (by kernel_rfl) fun b => ?_
      obtain ⟨y21, hy21, hr⟩ := bnd hr
      refine L_op rfl (O_call (vs := #[.agg #[I x1.Term, I x1.Vote, I x1.Base, .slice a1 x1.Terms.length c1], I x2, .slice a2 x3.length c2]) Tryz.call6 (by kernel_rfl) (glacierlaw10_leader_ok k x1 x2 x3 a1 c1 a2 c2 y21 ((hst.pull 2).pull 2) hy21 fun p9 p10 p11 a21 c21 a22 c22 w hst => ?_))
      refine CK_ret rfl ?_
      refine L_pure 1 [(1, I x2), (3, .slice a3 x4.length c3), (4, pt p8 0), (9, pt p9 0)] (by kernel_rfl) fun b => ?_
      refine wpL_nil ?_
      refine th_n ?_
      refine wp_seq ?_
      refine wp_seq ?_
      refine wp_reg ?_
      refine L_pure 2 [(1, I x2), (3, .slice a3 x4.length c3), (4, pt p8 0), (9, pt p9 0), (34, .bool false)] (by kernel_rfl) fun b => ?_
      refine wpL_nil ?_
      refine th_n ?_
      refine wp_cond_false (by rw [eval_mkF]; rfl) ?_
      refine wp_skip ?_
      refine th_n ?_
      refine wp_seq ?_
      refine wp_reg ?_
      refine L_op rfl (O_run (v := .agg #[I x1.Term, I x1.Vote, I x1.Base, .slice a1 x1.Terms.length c1]) (w' := w) (R_load (hst.pull 7) rfl rfl) rfl rfl ?_)
      obtain ⟨y22, hy22, hr⟩ := bnd hr
      refine L_op rfl (O_call (vs := #[.agg #[I x1.Term, I x1.Vote, I x1.Base, .slice a1 x1.Terms.length c1]]) Tryz.call7 (by kernel_rfl) (glacierlaw10_Kept_ok k x1 a1 c1 y22 (hst.pull 5) hy22 fun p12 p13 a23 c23 w hst => ?_))
      refine CK_ret rfl ?_
      refine L_pure 3 [(1, I x2), (3, .slice a3 x4.length c3), (9, pt p9 0), (38, pt p12 0), (39, .agg #[I y22.2.2.2.2.2.2.Term, I y22.2.2.2.2.2.2.Vote, I y22.2.2.2.2.2.2.Base, I y22.2.2.2.2.2.2.BaseTerm, S y22.2.2.2.2.2.2.Snap, .slice a23 y22.2.2.2.2.2.1.length c23])] (by kernel_rfl) fun b => ?_
      refine L_op rfl (O_alloc (i := Tryz.t32) (z := .agg #[I 0, I 0, I 0, I 0, S ([]), .slice none 0 0]) [I 0, I 0, I 0, I 0, S ([]), .slice none 0 0] hst rfl rfl rfl rfl fun p14 w hst => ?_)
      refine L_pure 1 [(1, I x2), (3, .slice a3 x4.length c3), (9, pt p9 0), (11, pt p14 0), (39, .agg #[I y22.2.2.2.2.2.2.Term, I y22.2.2.2.2.2.2.Vote, I y22.2.2.2.2.2.2.Base, I y22.2.2.2.2.2.2.BaseTerm, S y22.2.2.2.2.2.2.Snap, .slice a23 y22.2.2.2.2.2.1.length c23])] (by kernel_rfl) fun b => ?_
      refine L_op rfl (O_store [I y22.2.2.2.2.2.2.Term, I y22.2.2.2.2.2.2.Vote, I y22.2.2.2.2.2.2.Base, I y22.2.2.2.2.2.2.BaseTerm, S y22.2.2.2.2.2.2.Snap, .slice a23 y22.2.2.2.2.2.1.length c23] hst rfl rfl (by kernel_rfl) fun w hst => ?_)
      refine wpL_nil ?_
      refine th_n ?_
      refine wp_seq ?_
      refine wp_reg ?_
      refine L_pure 1 [(1, I x2), (3, .slice a3 x4.length c3), (9, pt p9 0), (11, pt p14 0), (40, pt p14 2)] (by kernel_rfl) fun b => ?_
      refine L_op rfl (O_run (v := I y22.2.2.2.2.2.2.Base) (w' := w) (R_load hst rfl rfl) rfl rfl ?_)
      refine L_pure 1 [(1, I x2), (3, .slice a3 x4.length c3), (9, pt p9 0), (11, pt p14 0), (41, I y22.2.2.2.2.2.2.Base), (42, pt p14 5)] (by kernel_rfl) fun b => ?_
      refine L_op rfl (O_run (v := .slice a23 y22.2.2.2.2.2.1.length c23) (w' := w) (R_load hst rfl rfl) rfl rfl ?_)
      refine L_pure 4 [(1, I x2), (3, .slice a3 x4.length c3), (9, pt p9 0), (11, pt p14 0), (12, I (IntKind.i64.wrap ((IntKind.i64.wrap (y22.2.2.2.2.2.2.Base + (y22.2.2.2.2.2.1.length : Int))) + 1)))] (by kernel_rfl) fun b => ?_
      refine wpL_nil ?_
      refine th_n ?_
      refine wp_seq ?_
      refine wp_reg ?_
      refine L_pure 1 [(1, I x2), (3, .slice a3 x4.length c3), (9, pt p9 0), (11, pt p14 0), (12, I (IntKind.i64.wrap ((IntKind.i64.wrap (y22.2.2.2.2.2.2.Base + (y22.2.2.2.2.2.1.length : Int))) + 1))), (47, I x2)] (by kernel_rfl) fun b => ?_
      obtain ⟨hb2, hr⟩ := chk hr
      refine L_op rfl (O_make (e := (rI .i64)) (v0 := I 0) (z0 := (0 : Int)) L22 rfl (by kernel_rfl) rfl (fun _ => ⟨(), rfl, trivial⟩) rfl hst rfl rfl hb2 rfl fun a24 c24 w hst => ?_)
      refine L_pure 1 [(1, I x2), (3, .slice a3 x4.length c3), (9, pt p9 0), (11, pt p14 0), (12, I (IntKind.i64.wrap ((IntKind.i64.wrap (y22.2.2.2.2.2.2.Base + (y22.2.2.2.2.2.1.length : Int))) + 1))), (13, .slice a24 (List.replicate x2.toNat (0 : Int)).length c24)] (by kernel_rfl) fun b => ?_
      refine wpL_nil ?_
      refine th_n ?_
      refine wp_seq ?_
      refine wp_reg ?_
      refine L_pure 2 [(1, I x2), (3, .slice a3 x4.length c3), (9, pt p9 0), (11, pt p14 0), (12, I (IntKind.i64.wrap ((IntKind.i64.wrap (y22.2.2.2.2.2.2.Base + (y22.2.2.2.2.2.1.length : Int))) + 1))), (13, .slice a24 (List.replicate x2.toNat (0 : Int)).length c24), (49, .slice a24 (List.replicate x2.toNat (0 : Int)).length c24), (50, pt p9 0)] (by kernel_rfl) fun b => ?_
      obtain ⟨y23, hy23, hr⟩ := bnd hr
      refine L_op rfl (O_call (vs := #[pt p9 0]) Tryz.call8 (by kernel_rfl) (raft_Node_Last_ok k y21.1 y21.2.1 y21.2.2.1 y21.2.2.2.1 y21.2.2.2.2.1 y21.2.2.2.2.2 p9 p10 p11 a21 c21 a22 c22 y23 (((((hst.pull 7).pull 7).pull 10).pull 10).pull 10) hy23 fun w hst => ?_))
      refine CK_ret rfl ?_
      obtain ⟨x9, hx5, hr⟩ := bnd hr
      refine L_op rfl (O_run (v := pt (ab a24) (ao a24 + (0 : Int).toNat * 1)) (w' := w) (R_ia L22 rfl rfl (osl_addr (hst.pull 5) hx5) (gt_some hx5).1 (gt_some hx5).2.1) rfl rfl ?_)
      refine L_op rfl (O_store_osl (φ := fun _ => True) (hφ := fun _ _ _ h => h) (y := y23) (j := 0) (hst := (St.triv (fun _ => trivial) (hst.pull 5))) hx5 rfl rfl (by rintro m cs - ⟨y, rfl, hy⟩; exact ⟨_, rfl, ⟨y, rfl, hy⟩⟩) fun w hst => ?_)
      refine wpL_nil ?_
      refine th_n ?_
      refine wp_seq ?_
      refine wp_seq ?_
      refine wp_reg ?_
      refine L_pure 1 [(1, I x2), (3, .slice a3 x4.length c3), (9, pt p9 0), (11, pt p14 0), (12, I (IntKind.i64.wrap ((IntKind.i64.wrap (y22.2.2.2.2.2.2.Base + (y22.2.2.2.2.2.1.length : Int))) + 1))), (13, .slice a24 (List.replicate x2.toNat (0 : Int)).length c24), (14, I 0)] (by kernel_rfl) fun b => ?_
      refine wpL_nil ?_
      refine th_n ?_
      obtain ⟨y24, hy24, hk7⟩ := bnd hr
      clear hr
      refine Go.Hx.wp_cut (fun a w => ∃ (z2 : T_raft_Node × Int × Int × (List ((List UInt8) × (Option T_platter_file)))) (a34 : Option Addr) (c34 : Nat) (a35 : Option Addr) (c35 : Nat)(b : Nat → Value), y24 = .go z2 ∧ a = mkF 116 b [(1, I x2), (9, pt p9 0)] ∧ St G w (osl r_T_term_Entry 48 a34 c34 z2.1.st.Log :: osl r_T_raft_Msg 39 a35 c35 z2.1.out :: blk p9 (cl [I z2.1.id, I z2.1.n, pt p10 0, I z2.1.st.Term, I z2.1.st.Vote, I z2.1.st.Base, I z2.1.st.BaseTerm, S z2.1.st.Snap, .slice a34 z2.1.st.Log.length c34, I z2.1.role, I z2.1.leader, I z2.1.commit, I z2.1.applied, I z2.1.timer, .bool (z2.1.votes 0), .bool (z2.1.votes 1), .bool (z2.1.votes 2), .bool (z2.1.votes 3), .bool (z2.1.votes 4), I (z2.1.next 0), I (z2.1.next 1), I (z2.1.next 2), I (z2.1.next 3), I (z2.1.next 4), I (z2.1.match_ 0), I (z2.1.match_ 1), I (z2.1.match_ 2), I (z2.1.match_ 3), I (z2.1.match_ 4), .slice a35 z2.1.out.length c35, I z2.1.broken] 66) :: blk p10 (cl [I y21.2.1, I z2.2.1, .bool y21.2.2.2.1, I z2.2.2.1, .map (some p11)] 79) :: mpr S (rPt r_T_platter_file) p11 z2.2.2.2 :: blk p14 (cl [I y22.2.2.2.2.2.2.Term, I y22.2.2.2.2.2.2.Vote, I y22.2.2.2.2.2.2.Base, I y22.2.2.2.2.2.2.BaseTerm, S y22.2.2.2.2.2.2.Snap, .slice a23 y22.2.2.2.2.2.1.length c23] 32) :: osl r_T_glacierref09_Entry 59 a23 c23 y22.2.2.2.2.2.1 :: blk p12 (cl [I y22.1, I y22.2.1, .bool y22.2.2.1, I y22.2.2.2.1, .map (some p13)] 79) :: mpr S (rPt r_T_platter_file) p13 y22.2.2.2.2.1 :: dsl (rI .i64) a1 c1 x1.Terms :: dsl rS a2 c2 x3 :: blk p8 (cl [I x1.Term, I x1.Vote, I x1.Base, .slice a1 x1.Terms.length c1] 24) :: dsl (rI .i64) a3 c3 x4 :: F)) ?_ ?_
      · rintro _ w ⟨z2, a34, c34, a35, c35, b, rfl, rfl, hst⟩
        have hr := hk7
        refine th_n ?_
        obtain ⟨y32, hy32, hk10⟩ := bnd hr
        clear hr
        refine wp_seq_cut (fun a w => ∃ (b : Nat → Value), a = mkF 116 b [(8, .bool y32)] ∧ St G w (blk p9 (cl [I z2.1.id, I z2.1.n, pt p10 0, I z2.1.st.Term, I z2.1.st.Vote, I z2.1.st.Base, I z2.1.st.BaseTerm, S z2.1.st.Snap, .slice a34 z2.1.st.Log.length c34, I z2.1.role, I z2.1.leader, I z2.1.commit, I z2.1.applied, I z2.1.timer, .bool (z2.1.votes 0), .bool (z2.1.votes 1), .bool (z2.1.votes 2), .bool (z2.1.votes 3), .bool (z2.1.votes 4), I (z2.1.next 0), I (z2.1.next 1), I (z2.1.next 2), I (z2.1.next 3), I (z2.1.next 4), I (z2.1.match_ 0), I (z2.1.match_ 1), I (z2.1.match_ 2), I (z2.1.match_ 3), I (z2.1.match_ 4), .slice a35 z2.1.out.length c35, I z2.1.broken] 66) :: blk p10 (cl [I y21.2.1, I z2.2.1, .bool y21.2.2.2.1, I z2.2.2.1, .map (some p11)] 79) :: mpr S (rPt r_T_platter_file) p11 z2.2.2.2 :: osl r_T_term_Entry 48 a34 c34 z2.1.st.Log :: osl r_T_raft_Msg 39 a35 c35 z2.1.out :: blk p14 (cl [I y22.2.2.2.2.2.2.Term, I y22.2.2.2.2.2.2.Vote, I y22.2.2.2.2.2.2.Base, I y22.2.2.2.2.2.2.BaseTerm, S y22.2.2.2.2.2.2.Snap, .slice a23 y22.2.2.2.2.2.1.length c23] 32) :: osl r_T_glacierref09_Entry 59 a23 c23 y22.2.2.2.2.2.1 :: blk p12 (cl [I y22.1, I y22.2.1, .bool y22.2.2.1, I y22.2.2.2.1, .map (some p13)] 79) :: mpr S (rPt r_T_platter_file) p13 y22.2.2.2.2.1 :: dsl (rI .i64) a1 c1 x1.Terms :: dsl rS a2 c2 x3 :: blk p8 (cl [I x1.Term, I x1.Vote, I x1.Base, .slice a1 x1.Terms.length c1] 24) :: dsl (rI .i64) a3 c3 x4 :: F)) ?_ ?_
        · rintro _ w ⟨b, rfl, hst⟩
          have hr := hk10
          refine wp_ret ?_
          refine ret1 rfl rfl ?_
          obtain rfl := Option.some.inj hr
          have hst := ((((hst.pull 12).pull 11).pull 11).cut 3 10)
          exact hR _ hst
        · have hr := hy32
          refine wp_reg ?_
          refine L_pure 1 [(1, I x2), (9, pt p9 0), (107, pt p9 0)] (by kernel_rfl) fun b => ?_
          obtain ⟨y33, hy33, hr⟩ := bnd hr
          refine L_op rfl (O_call (vs := #[pt p9 0]) Tryz.call12 (by kernel_rfl) (raft_Node_Commit_ok k z2.1 y21.2.1 z2.2.1 y21.2.2.2.1 z2.2.2.1 z2.2.2.2 p9 p10 p11 a34 c34 a35 c35 y33 (((((hst.pull 1).pull 1).pull 4).pull 4).pull 4) hy33 fun w hst => ?_))
          refine CK_ret rfl ?_
          refine L_pure 1 [(1, I x2), (108, I y33), (109, pt p9 0)] (by kernel_rfl) fun b => ?_
          obtain ⟨y34, hy34, hr⟩ := bnd hr
          refine L_op rfl (O_call (vs := #[pt p9 0]) Tryz.call8 (by kernel_rfl) (raft_Node_Last_ok k z2.1 y21.2.1 z2.2.1 y21.2.2.2.1 z2.2.2.1 z2.2.2.2 p9 p10 p11 a34 c34 a35 c35 y34 (((((hst.pull 4).pull 4).pull 4).pull 4).pull 4) hy34 fun w hst => ?_))
          refine CK_ret rfl ?_
          refine L_pure 2 [(1, I x2), (112, .bool (y33 == y34))] (by kernel_rfl) fun b => ?_
          by_cases h : (y33 == y34) = true
          · have hr := (if_pos h).symm.trans hr
            refine L_keep ((112, .bool (y33 == y34)) :: [(1, I x2)]) rfl fun b => ?_
            refine L_bool h ?_
            refine L_pure 4 [(8, .bool true)] (by kernel_rfl) fun b => ?_
            refine wpL_nil ?_
            refine th_n ?_
            obtain rfl := Option.some.inj hr
            have hst := (((((((((((((hst.pull 12).pull 12).pull 12).pull 12).pull 12).pull 12).pull 12).pull 12).pull 12).pull 12).pull 12).pull 12).pull 12)
            exact (kpX [(8, .bool true)] rfl hst)
          · have hr := (if_neg h).symm.trans hr
            refine L_keep ((112, .bool (y33 == y34)) :: [(1, I x2)]) rfl fun b => ?_
            refine L_bool (eq_false_of_ne_true h) ?_
            refine L_pure 4 [(8, .bool (decide (x2 > 1)))] (by kernel_rfl) fun b => ?_
            refine wpL_nil ?_
            refine th_n ?_
            obtain rfl := Option.some.inj hr
            have hst := (((((((((((((hst.pull 12).pull 12).pull 12).pull 12).pull 12).pull 12).pull 12).pull 12).pull 12).pull 12).pull 12).pull 12).pull 12)
            exact (kpX [(8, .bool (decide (x2 > 1)))] rfl hst)
      · have hst := ((((((((((((((hst.pull 13).pull 13).pull 13).pull 13).pull 13).pull 13).pull 13).pull 13).pull 11).pull 11).pull 11).pull 13).pull 13).pull 13)
        refine wp_block ?_
        refine wp_loop_fuel (fun j a w => ∃ (v31 : (List Int)) (v32 : Int) (v33 : T_raft_Node) (v34 : Int) (v35 : Int) (v36 : (List ((List UInt8) × (Option T_platter_file)))) (a28 : Option Addr) (c28 : Nat) (a29 : Option Addr) (c29 : Nat) (a30 : Option Addr) (c30 : Nat) (b : Nat → Value), a = mkF 116 b [(1, I x2), (3, .slice a3 x4.length c3), (9, pt p9 0), (11, pt p14 0), (12, I (IntKind.i64.wrap ((IntKind.i64.wrap (y22.2.2.2.2.2.2.Base + (y22.2.2.2.2.2.1.length : Int))) + 1))), (13, .slice a28 v31.length c28), (14, I v32)] ∧ St G w (osl (rI .i64) 3 a28 c28 v31 :: osl r_T_term_Entry 48 a29 c29 v33.st.Log :: osl r_T_raft_Msg 39 a30 c30 v33.out :: blk p9 (cl [I v33.id, I v33.n, pt p10 0, I v33.st.Term, I v33.st.Vote, I v33.st.Base, I v33.st.BaseTerm, S v33.st.Snap, .slice a29 v33.st.Log.length c29, I v33.role, I v33.leader, I v33.commit, I v33.applied, I v33.timer, .bool (v33.votes 0), .bool (v33.votes 1), .bool (v33.votes 2), .bool (v33.votes 3), .bool (v33.votes 4), I (v33.next 0), I (v33.next 1), I (v33.next 2), I (v33.next 3), I (v33.next 4), I (v33.match_ 0), I (v33.match_ 1), I (v33.match_ 2), I (v33.match_ 3), I (v33.match_ 4), .slice a30 v33.out.length c30, I v33.broken] 66) :: blk p10 (cl [I y21.2.1, I v34, .bool y21.2.2.2.1, I v35, .map (some p11)] 79) :: mpr S (rPt r_T_platter_file) p11 v36 :: blk p14 (cl [I y22.2.2.2.2.2.2.Term, I y22.2.2.2.2.2.2.Vote, I y22.2.2.2.2.2.2.Base, I y22.2.2.2.2.2.2.BaseTerm, S y22.2.2.2.2.2.2.Snap, .slice a23 y22.2.2.2.2.2.1.length c23] 32) :: osl r_T_glacierref09_Entry 59 a23 c23 y22.2.2.2.2.2.1 :: blk p12 (cl [I y22.1, I y22.2.1, .bool y22.2.2.1, I y22.2.2.2.1, .map (some p13)] 79) :: mpr S (rPt r_T_platter_file) p13 y22.2.2.2.2.1 :: dsl (rI .i64) a1 c1 x1.Terms :: dsl rS a2 c2 x3 :: blk p8 (cl [I x1.Term, I x1.Vote, I x1.Base, .slice a1 x1.Terms.length c1] 24) :: dsl (rI .i64) a3 c3 x4 :: F) ∧ glacierlaw10_RaftCommits_l1 k x2 x4 y21 y22 j v31 v32 v33 v34 v35 v36 = some y24) (k := k) ⟨((List.replicate x2.toNat (0 : Int)).set (0 : Int).toNat y23), (0 : Int), y21.1, y21.2.2.1, y21.2.2.2.2.1, y21.2.2.2.2.2, a24, c24, a21, c21, a22, c22, (kpY [(1, I x2), (3, .slice a3 x4.length c3), (9, pt p9 0), (11, pt p14 0), (12, I (IntKind.i64.wrap ((IntKind.i64.wrap (y22.2.2.2.2.2.2.Base + (y22.2.2.2.2.2.1.length : Int))) + 1))), (13, .slice a24 ((List.replicate x2.toNat (0 : Int)).set (0 : Int).toNat y23).length c24), (14, I 0)] [I x2, .slice a3 x4.length c3, pt p9 0, pt p14 0, I (IntKind.i64.wrap ((IntKind.i64.wrap (y22.2.2.2.2.2.2.Base + (y22.2.2.2.2.2.1.length : Int))) + 1)), .slice a24 (List.replicate x2.toNat (0 : Int)).length c24, I 0] (by kernel_rfl) (by simp only [List.length_set, List.map]) ⟨hst, hy24⟩)⟩ ?_ ?_
        · rintro _ _ ⟨_, _, _, _, _, _, _, _, _, _, _, _, _, _, _, h⟩
          rw [glacierlaw10_RaftCommits_l1] at h
          cases h
        · rintro j _ w ⟨v31, v32, v33, v34, v35, v36, a28, c28, a29, c29, a30, c30, b, rfl, hst, hr⟩
          rw [glacierlaw10_RaftCommits_l1] at hr
          refine wp_seq ?_
          obtain ⟨y25, hy25, hk8⟩ := bnd hr
          clear hr
          refine wp_seq_cut (fun a w => ∃ (b : Nat → Value), a = mkF 116 b [(1, I x2), (3, .slice a3 x4.length c3), (9, pt p9 0), (11, pt p14 0), (12, I (IntKind.i64.wrap ((IntKind.i64.wrap (y22.2.2.2.2.2.2.Base + (y22.2.2.2.2.2.1.length : Int))) + 1))), (13, .slice a28 v31.length c28), (14, I v32), (64, .bool y25)] ∧ St G w (osl (rI .i64) 3 a28 c28 v31 :: osl r_T_term_Entry 48 a29 c29 v33.st.Log :: osl r_T_raft_Msg 39 a30 c30 v33.out :: blk p9 (cl [I v33.id, I v33.n, pt p10 0, I v33.st.Term, I v33.st.Vote, I v33.st.Base, I v33.st.BaseTerm, S v33.st.Snap, .slice a29 v33.st.Log.length c29, I v33.role, I v33.leader, I v33.commit, I v33.applied, I v33.timer, .bool (v33.votes 0), .bool (v33.votes 1), .bool (v33.votes 2), .bool (v33.votes 3), .bool (v33.votes 4), I (v33.next 0), I (v33.next 1), I (v33.next 2), I (v33.next 3), I (v33.next 4), I (v33.match_ 0), I (v33.match_ 1), I (v33.match_ 2), I (v33.match_ 3), I (v33.match_ 4), .slice a30 v33.out.length c30, I v33.broken] 66) :: blk p10 (cl [I y21.2.1, I v34, .bool y21.2.2.2.1, I v35, .map (some p11)] 79) :: mpr S (rPt r_T_platter_file) p11 v36 :: blk p14 (cl [I y22.2.2.2.2.2.2.Term, I y22.2.2.2.2.2.2.Vote, I y22.2.2.2.2.2.2.Base, I y22.2.2.2.2.2.2.BaseTerm, S y22.2.2.2.2.2.2.Snap, .slice a23 y22.2.2.2.2.2.1.length c23] 32) :: osl r_T_glacierref09_Entry 59 a23 c23 y22.2.2.2.2.2.1 :: blk p12 (cl [I y22.1, I y22.2.1, .bool y22.2.2.1, I y22.2.2.2.1, .map (some p13)] 79) :: mpr S (rPt r_T_platter_file) p13 y22.2.2.2.2.1 :: dsl (rI .i64) a1 c1 x1.Terms :: dsl rS a2 c2 x3 :: blk p8 (cl [I x1.Term, I x1.Vote, I x1.Base, .slice a1 x1.Terms.length c1] 24) :: dsl (rI .i64) a3 c3 x4 :: F)) ?_ ?_
          · rintro _ w ⟨b, rfl, hst⟩
            have hr := hk8
            refine wp_cond_mkF (t := y25) rfl (fun h => ?_) (fun h => ?_)
            · have hr := (if_pos h).symm.trans hr
              refine wp_skip ?_
              refine th_n ?_
              refine wp_seq ?_
              refine wp_block ?_
              refine wp_seq ?_
              refine wp_reg ?_
              refine L_pure 3 [(1, I x2), (3, .slice a3 x4.length c3), (9, pt p9 0), (11, pt p14 0), (12, I (IntKind.i64.wrap ((IntKind.i64.wrap (y22.2.2.2.2.2.2.Base + (y22.2.2.2.2.2.1.length : Int))) + 1))), (13, .slice a28 v31.length c28), (14, I v32), (67, I v32), (69, I (IntKind.i64.wrap (x2 - 1)))] (by kernel_rfl) fun b => ?_
              obtain ⟨hy2, hr⟩ := chk hr
              refine L_op rfl (O_run (v := I (v32.tmod (IntKind.i64.wrap (x2 - 1)))) (w' := w) (R_rem rfl rfl hy2) rfl rfl ?_)
              refine L_pure 2 [(1, I x2), (3, .slice a3 x4.length c3), (9, pt p9 0), (11, pt p14 0), (12, I (IntKind.i64.wrap ((IntKind.i64.wrap (y22.2.2.2.2.2.2.Base + (y22.2.2.2.2.2.1.length : Int))) + 1))), (13, .slice a28 v31.length c28), (14, I v32), (15, I (IntKind.i64.wrap (1 + (v32.tmod (IntKind.i64.wrap (x2 - 1))))))] (by kernel_rfl) fun b => ?_
              refine wpL_nil ?_
              refine th_n ?_
              refine wp_seq ?_
              refine wp_regG (SQ (fun w => St G w (osl (rI .i64) 3 a28 c28 v31 :: osl r_T_term_Entry 48 a29 c29 v33.st.Log :: osl r_T_raft_Msg 39 a30 c30 v33.out :: blk p9 (cl [I v33.id, I v33.n, pt p10 0, I v33.st.Term, I v33.st.Vote, I v33.st.Base, I v33.st.BaseTerm, S v33.st.Snap, .slice a29 v33.st.Log.length c29, I v33.role, I v33.leader, I v33.commit, I v33.applied, I v33.timer, .bool (v33.votes 0), .bool (v33.votes 1), .bool (v33.votes 2), .bool (v33.votes 3), .bool (v33.votes 4), I (v33.next 0), I (v33.next 1), I (v33.next 2), I (v33.next 3), I (v33.next 4), I (v33.match_ 0), I (v33.match_ 1), I (v33.match_ 2), I (v33.match_ 3), I (v33.match_ 4), .slice a30 v33.out.length c30, I v33.broken] 66) :: blk p10 (cl [I y21.2.1, I v34, .bool y21.2.2.2.1, I v35, .map (some p11)] 79) :: mpr S (rPt r_T_platter_file) p11 v36 :: blk p14 (cl [I y22.2.2.2.2.2.2.Term, I y22.2.2.2.2.2.2.Vote, I y22.2.2.2.2.2.2.Base, I y22.2.2.2.2.2.2.BaseTerm, S y22.2.2.2.2.2.2.Snap, .slice a23 y22.2.2.2.2.2.1.length c23] 32) :: osl r_T_glacierref09_Entry 59 a23 c23 y22.2.2.2.2.2.1 :: blk p12 (cl [I y22.1, I y22.2.1, .bool y22.2.2.1, I y22.2.2.2.1, .map (some p13)] 79) :: mpr S (rPt r_T_platter_file) p13 y22.2.2.2.2.1 :: dsl (rI .i64) a1 c1 x1.Terms :: dsl rS a2 c2 x3 :: blk p8 (cl [I x1.Term, I x1.Vote, I x1.Base, .slice a1 x1.Terms.length c1] 24) :: dsl (rI .i64) a3 c3 x4 :: F))) rfl ?_
              have hst := hst.draw (n := w.drawn + 1)
              generalize { w with drawn := w.drawn + 1 } = w at hst ⊢
              refine Q_take (i := 0) (v := .slice a3 x4.length c3) rfl (by kernel_rfl) (fun _ _ _ h => h) rfl rfl rfl (fun _ _ => R_pure (by kernel_rfl)) ((((((((((((((hst.pull 13).pull 13).pull 13).pull 13).pull 13).pull 13).pull 13).pull 13).pull 13).pull 13).pull 13).pull 13).pull 13).pull 13) ?_
              refine Q_take (i := 1) (v := I v32) rfl (by kernel_rfl) (fun _ _ _ h => h) rfl rfl rfl (fun _ _ => R_pure (by kernel_rfl)) ((((((((((((((hst.pull 13).pull 13).pull 13).pull 13).pull 13).pull 13).pull 13).pull 13).pull 13).pull 13).pull 13).pull 13).pull 13).pull 13) ?_
              obtain ⟨x10, hx6, hr⟩ := bnd hr
              refine Q_take (i := 2) (v := pt (ab a3) (ao a3 + v32.toNat * 1)) rfl (by kernel_rfl) (fun _ _ _ h => h) rfl rfl rfl (fun _ _ => (R_ia L22 rfl rfl (dsl_addr (hst.pull 13) hx6) (gt_some hx6).1 (gt_some hx6).2.1)) ((((((((((((((hst.pull 13).pull 13).pull 13).pull 13).pull 13).pull 13).pull 13).pull 13).pull 13).pull 13).pull 13).pull 13).pull 13).pull 13) ?_
              obtain ⟨q3, hc3, hst⟩ := dsl_cells (hst.pull 13) hx6
              have hst := hst.drop
              refine Q_take (i := 3) (v := I x10) rfl (by kernel_rfl) (fun _ _ _ h => h) rfl rfl rfl (fun w hst => by obtain ⟨_, hc, _⟩ := dsl_cells (hst.pull 13) hx6; exact R_loadAt (off := ao a3 + v32.toNat * 1) (j := 0) hc rfl rfl) (((((((((((((hst.pull 13).pull 13).pull 13).pull 13).pull 13).pull 13).pull 13).pull 13).pull 13).pull 13).pull 13).pull 13).pull 13) ?_
              refine Q_take (i := 4) (v := I (mx2 x10 0)) rfl (by kernel_rfl) (fun _ _ _ h => h) rfl rfl rfl (fun _ _ => R_pure (by kernel_rfl)) (((((((((((((hst.pull 13).pull 13).pull 13).pull 13).pull 13).pull 13).pull 13).pull 13).pull 13).pull 13).pull 13).pull 13).pull 13) ?_
              refine Q_take (i := 5) (v := pt p9 0) rfl (by kernel_rfl) (fun _ _ _ h => h) rfl rfl rfl (fun _ _ => R_pure (by kernel_rfl)) (((((((((((((hst.pull 13).pull 13).pull 13).pull 13).pull 13).pull 13).pull 13).pull 13).pull 13).pull 13).pull 13).pull 13).pull 13) ?_
              obtain ⟨y26, hy26, hr⟩ := bnd hr
              refine Q_one (i := 6) (by kernel_rfl) rfl rfl (O_call (vs := #[pt p9 0]) Tryz.call8 (by kernel_rfl) (raft_Node_Last_ok k v33 y21.2.1 v34 y21.2.2.2.1 v35 v36 p9 p10 p11 a29 c29 a30 c30 y26 (((((hst.pull 3).pull 3).pull 6).pull 6).pull 6) hy26 fun w hst => ?_))
              refine CK_ret rfl ?_
              refine ⟨((((((((((((((hst.pull 5).pull 13).pull 13).pull 13).pull 13).pull 13).pull 13).pull 13).pull 10).pull 10).pull 10).pull 12).pull 12).pull 13), ?_⟩
              refine Q_take (i := 7) (v := I (mn2 (mx2 x10 0) y26)) rfl (by kernel_rfl) (fun _ _ _ h => h) rfl rfl rfl (fun _ _ => R_pure (by kernel_rfl)) ((((((((((((((hst.pull 5).pull 13).pull 13).pull 13).pull 13).pull 13).pull 13).pull 13).pull 10).pull 10).pull 10).pull 12).pull 12).pull 13) ?_
              refine Q_take (i := 8) (v := I (mn2 (mx2 x10 0) y26)) rfl (by kernel_rfl) (fun _ _ _ h => h) rfl rfl rfl (fun _ _ => R_pure (by kernel_rfl)) ((((((((((((((hst.pull 5).pull 13).pull 13).pull 13).pull 13).pull 13).pull 13).pull 13).pull 10).pull 10).pull 10).pull 12).pull 12).pull 13) ?_
              refine wpG_done (by kernel_rfl) ?_ _
              refine C_keepQ [(1, I x2), (3, .slice a3 x4.length c3), (9, pt p9 0), (11, pt p14 0), (12, I (IntKind.i64.wrap ((IntKind.i64.wrap (y22.2.2.2.2.2.2.Base + (y22.2.2.2.2.2.1.length : Int))) + 1))), (13, .slice a28 v31.length c28), (14, I v32), (15, I (IntKind.i64.wrap (1 + (v32.tmod (IntKind.i64.wrap (x2 - 1)))))), (16, I (mn2 (mx2 x10 0) y26))] rfl fun b => ?_
              refine th_n ?_
              refine wp_seq ?_
              refine wp_reg ?_
              refine L_pure 3 [(1, I x2), (3, .slice a3 x4.length c3), (9, pt p9 0), (11, pt p14 0), (12, I (IntKind.i64.wrap ((IntKind.i64.wrap (y22.2.2.2.2.2.2.Base + (y22.2.2.2.2.2.1.length : Int))) + 1))), (13, .slice a28 v31.length c28), (14, I v32), (15, I (IntKind.i64.wrap (1 + (v32.tmod (IntKind.i64.wrap (x2 - 1)))))), (16, I (mn2 (mx2 x10 0) y26)), (80, pt p9 0), (81, I (IntKind.i64.wrap (1 + (v32.tmod (IntKind.i64.wrap (x2 - 1)))))), (82, pt p9 0)] (by kernel_rfl) fun b => ?_
              obtain ⟨y27, hy27, hr⟩ := bnd hr
              refine L_op rfl (O_call (vs := #[pt p9 0]) Tryz.call10 (by kernel_rfl) (raft_Node_Term_ok k v33 y21.2.1 v34 y21.2.2.2.1 v35 v36 p9 p10 p11 a29 c29 a30 c30 y27 (((((hst.pull 4).pull 4).pull 4).pull 4).pull 4) hy27 fun w hst => ?_))
              refine CK_ret rfl ?_
              refine L_pure 2 [(1, I x2), (3, .slice a3 x4.length c3), (9, pt p9 0), (11, pt p14 0), (12, I (IntKind.i64.wrap ((IntKind.i64.wrap (y22.2.2.2.2.2.2.Base + (y22.2.2.2.2.2.1.length : Int))) + 1))), (13, .slice a28 v31.length c28), (14, I v32), (15, I (IntKind.i64.wrap (1 + (v32.tmod (IntKind.i64.wrap (x2 - 1)))))), (16, I (mn2 (mx2 x10 0) y26)), (80, pt p9 0), (85, .agg #[I 4, I (IntKind.i64.wrap (1 + (v32.tmod (IntKind.i64.wrap (x2 - 1))))), I 0, I y27, I (mn2 (mx2 x10 0) y26), I 0, I 0, .bool true, .slice none 0 0, S ([])])] (by kernel_rfl) fun b => ?_
              obtain ⟨y28, hy28, hr⟩ := bnd hr
              have hst := dsl_nil r_T_term_Entry hst
              refine L_op rfl (O_call (vs := #[pt p9 0, .agg #[I 4, I (IntKind.i64.wrap (1 + (v32.tmod (IntKind.i64.wrap (x2 - 1))))), I 0, I y27, I (mn2 (mx2 x10 0) y26), I 0, I 0, .bool true, .slice none 0 0, S ([])]]) Tryz.call9 (by kernel_rfl) (raft_Node_Step_ok k v33 y21.2.1 v34 y21.2.2.2.1 v35 v36 (T_raft_Msg.mk 4 (IntKind.i64.wrap (1 + (v32.tmod (IntKind.i64.wrap (x2 - 1))))) 0 y27 (mn2 (mx2 x10 0) y26) 0 0 true ([]) ([])) p9 p10 p11 a29 c29 a30 c30 none 0 y28 (((((hst.pull 5).pull 5).pull 5).pull 5).pull 5) hy28 fun a36 c36 a37 c37 w hst => ?_))
              refine CK_ret rfl ?_
              refine wpL_nil ?_
              refine th_n ?_
              refine wp_seq ?_
              refine wp_reg ?_
              refine L_pure 4 [(1, I x2), (3, .slice a3 x4.length c3), (9, pt p9 0), (11, pt p14 0), (12, I (IntKind.i64.wrap ((IntKind.i64.wrap (y22.2.2.2.2.2.2.Base + (y22.2.2.2.2.2.1.length : Int))) + 1))), (13, .slice a28 v31.length c28), (14, I v32), (16, I (mn2 (mx2 x10 0) y26)), (87, .slice a28 v31.length c28), (88, I (IntKind.i64.wrap (1 + (v32.tmod (IntKind.i64.wrap (x2 - 1)))))), (89, .slice a28 v31.length c28), (90, I (IntKind.i64.wrap (1 + (v32.tmod (IntKind.i64.wrap (x2 - 1))))))] (by kernel_rfl) fun b => ?_
              obtain ⟨x11, hx7, hr⟩ := bnd hr
              refine L_op rfl (O_run (v := pt (ab a28) (ao a28 + (IntKind.i64.wrap (1 + (v32.tmod (IntKind.i64.wrap (x2 - 1))))).toNat * 1)) (w' := w) (R_ia L22 rfl rfl (osl_addr (hst.pull 7) hx7) (gt_some hx7).1 (gt_some hx7).2.1) rfl rfl ?_)
              obtain ⟨q4, hc4, hst⟩ := osl_cells (hst.pull 7) hx7
              have hst := hst.drop
              refine L_op rfl (O_run (v := I x11) (w' := w) (R_loadAt (off := ao a28 + (IntKind.i64.wrap (1 + (v32.tmod (IntKind.i64.wrap (x2 - 1))))).toNat * 1) (j := 0) hc4 rfl rfl) rfl rfl ?_)
              refine L_pure 2 [(1, I x2), (3, .slice a3 x4.length c3), (9, pt p9 0), (11, pt p14 0), (12, I (IntKind.i64.wrap ((IntKind.i64.wrap (y22.2.2.2.2.2.2.Base + (y22.2.2.2.2.2.1.length : Int))) + 1))), (13, .slice a28 v31.length c28), (14, I v32), (87, .slice a28 v31.length c28), (88, I (IntKind.i64.wrap (1 + (v32.tmod (IntKind.i64.wrap (x2 - 1)))))), (94, I (mx2 x11 (mn2 (mx2 x10 0) y26)))] (by kernel_rfl) fun b => ?_
              obtain ⟨x12, hx8, hr⟩ := bnd hr
              refine L_op rfl (O_run (v := pt (ab a28) (ao a28 + (IntKind.i64.wrap (1 + (v32.tmod (IntKind.i64.wrap (x2 - 1))))).toNat * 1)) (w' := w) (R_ia L22 rfl rfl (osl_addr hst hx8) (gt_some hx8).1 (gt_some hx8).2.1) rfl rfl ?_)
              refine L_op rfl (O_store_osl (φ := fun _ => True) (hφ := fun _ _ _ h => h) (y := (mx2 x11 (mn2 (mx2 x10 0) y26))) (j := 0) (hst := (St.triv (fun _ => trivial) hst)) hx8 rfl rfl (by rintro m cs - ⟨y, rfl, hy⟩; exact ⟨_, rfl, ⟨y, rfl, hy⟩⟩) fun w hst => ?_)
              refine wpL_nil ?_
              refine th_n ?_
              refine wp_seq ?_
              refine wp_reg ?_
              refine L_pure 1 [(1, I x2), (3, .slice a3 x4.length c3), (9, pt p9 0), (11, pt p14 0), (12, I (IntKind.i64.wrap ((IntKind.i64.wrap (y22.2.2.2.2.2.2.Base + (y22.2.2.2.2.2.1.length : Int))) + 1))), (13, .slice a28 v31.length c28), (14, I v32), (96, .slice a28 v31.length c28)] (by kernel_rfl) fun b => ?_
              obtain ⟨y29, hy29, hr⟩ := bnd hr
              refine L_op rfl (O_call (vs := #[.slice a28 v31.length c28]) Tryz.call11 (by kernel_rfl) (calls_vs (show (#[.slice a28 v31.length c28] : Array Value) = #[.slice a28 (v31.set (IntKind.i64.wrap (1 + (v32.tmod (IntKind.i64.wrap (x2 - 1))))).toNat (mx2 x11 (mn2 (mx2 x10 0) y26))).length c28] by simp only [List.length_set]) (glacierref10_Majority_ok k (v31.set (IntKind.i64.wrap (1 + (v32.tmod (IntKind.i64.wrap (x2 - 1))))).toNat (mx2 x11 (mn2 (mx2 x10 0) y26))) a28 c28 y29 hst hy29 fun w hst => ?_)))
              refine CK_ret rfl ?_
              refine L_pure 1 [(1, I x2), (3, .slice a3 x4.length c3), (9, pt p9 0), (11, pt p14 0), (12, I (IntKind.i64.wrap ((IntKind.i64.wrap (y22.2.2.2.2.2.2.Base + (y22.2.2.2.2.2.1.length : Int))) + 1))), (13, .slice a28 v31.length c28), (14, I v32), (17, I y29)] (by kernel_rfl) fun b => ?_
              refine wpL_nil ?_
              refine th_n ?_
              obtain ⟨y30, hy30, hk9⟩ := bnd hr
              clear hr
              refine wp_seq_cut (fun a w => ∃ (b : Nat → Value), a = mkF 116 b [(1, I x2), (3, .slice a3 x4.length c3), (9, pt p9 0), (11, pt p14 0), (12, I (IntKind.i64.wrap ((IntKind.i64.wrap (y22.2.2.2.2.2.2.Base + (y22.2.2.2.2.2.1.length : Int))) + 1))), (13, .slice a28 v31.length c28), (14, I v32), (17, I y30)] ∧ St G w (osl (rI .i64) 3 a28 c28 (v31.set (IntKind.i64.wrap (1 + (v32.tmod (IntKind.i64.wrap (x2 - 1))))).toNat (mx2 x11 (mn2 (mx2 x10 0) y26))) :: osl r_T_term_Entry 48 a36 c36 y28.1.st.Log :: osl r_T_raft_Msg 39 a37 c37 y28.1.out :: blk p9 (cl [I y28.1.id, I y28.1.n, pt p10 0, I y28.1.st.Term, I y28.1.st.Vote, I y28.1.st.Base, I y28.1.st.BaseTerm, S y28.1.st.Snap, .slice a36 y28.1.st.Log.length c36, I y28.1.role, I y28.1.leader, I y28.1.commit, I y28.1.applied, I y28.1.timer, .bool (y28.1.votes 0), .bool (y28.1.votes 1), .bool (y28.1.votes 2), .bool (y28.1.votes 3), .bool (y28.1.votes 4), I (y28.1.next 0), I (y28.1.next 1), I (y28.1.next 2), I (y28.1.next 3), I (y28.1.next 4), I (y28.1.match_ 0), I (y28.1.match_ 1), I (y28.1.match_ 2), I (y28.1.match_ 3), I (y28.1.match_ 4), .slice a37 y28.1.out.length c37, I y28.1.broken] 66) :: blk p10 (cl [I y21.2.1, I y28.2.1, .bool y21.2.2.2.1, I y28.2.2.1, .map (some p11)] 79) :: mpr S (rPt r_T_platter_file) p11 y28.2.2.2 :: dsl r_T_term_Entry none 0 ([]) :: dsl (rI .i64) a3 c3 x4 :: blk p14 (cl [I y22.2.2.2.2.2.2.Term, I y22.2.2.2.2.2.2.Vote, I y22.2.2.2.2.2.2.Base, I y22.2.2.2.2.2.2.BaseTerm, S y22.2.2.2.2.2.2.Snap, .slice a23 y22.2.2.2.2.2.1.length c23] 32) :: osl r_T_glacierref09_Entry 59 a23 c23 y22.2.2.2.2.2.1 :: blk p12 (cl [I y22.1, I y22.2.1, .bool y22.2.2.1, I y22.2.2.2.1, .map (some p13)] 79) :: mpr S (rPt r_T_platter_file) p13 y22.2.2.2.2.1 :: dsl (rI .i64) a1 c1 x1.Terms :: dsl rS a2 c2 x3 :: blk p8 (cl [I x1.Term, I x1.Vote, I x1.Base, .slice a1 x1.Terms.length c1] 24) :: F)) ?_ ?_
              · rintro _ w ⟨b, rfl, hst⟩
                have hr := hk9
                refine wp_seq ?_
                refine wp_reg ?_
                refine L_pure 1 [(1, I x2), (3, .slice a3 x4.length c3), (9, pt p9 0), (11, pt p14 0), (12, I (IntKind.i64.wrap ((IntKind.i64.wrap (y22.2.2.2.2.2.2.Base + (y22.2.2.2.2.2.1.length : Int))) + 1))), (13, .slice a28 v31.length c28), (14, I v32), (17, I y30), (103, pt p9 0)] (by kernel_rfl) fun b => ?_
                obtain ⟨y31, hy31, hr⟩ := bnd hr
                refine L_op rfl (O_call (vs := #[pt p9 0]) Tryz.call12 (by kernel_rfl) (raft_Node_Commit_ok k y28.1 y21.2.1 y28.2.1 y21.2.2.2.1 y28.2.2.1 y28.2.2.2 p9 p10 p11 a36 c36 a37 c37 y31 (((((hst.pull 2).pull 2).pull 5).pull 5).pull 5) hy31 fun w hst => ?_))
                refine CK_ret rfl ?_
                refine L_pure 2 [(1, I x2), (3, .slice a3 x4.length c3), (9, pt p9 0), (11, pt p14 0), (12, I (IntKind.i64.wrap ((IntKind.i64.wrap (y22.2.2.2.2.2.2.Base + (y22.2.2.2.2.2.1.length : Int))) + 1))), (13, .slice a28 v31.length c28), (14, I v32), (106, .bool (y31 != y30))] (by kernel_rfl) fun b => ?_
                refine wpL_nil ?_
                refine th_n ?_
                refine wp_cond_mkF (t := (y31 != y30)) rfl (fun h => ?_) (fun h => ?_)
                · have hr := (if_pos h).symm.trans hr
                  refine wp_seq ?_
                  refine wp_reg ?_
                  refine L_pure 1 [(8, .bool false)] (by kernel_rfl) fun b => ?_
                  refine wpL_nil ?_
                  refine th_n ?_
                  refine wp_ret ?_
                  refine ib_r (th_r (th_r (ib_r (th_r (th_r ?_)))))
                  refine ret1 rfl rfl ?_
                  obtain rfl := Option.some.inj hr
                  obtain rfl := Option.some.inj hk7
                  have hst := ((((hst.pull 7).pull 13).pull 13).cut 3 12)
                  exact hR _ hst
                · have hr := (if_neg (by rw [h]; exact Bool.false_ne_true)).symm.trans hr
                  refine wp_skip ?_
                  refine ib_n (th_n ?_)
                  refine wp_reg ?_
                  refine L_pure 3 [(1, I x2), (3, .slice a3 x4.length c3), (9, pt p9 0), (11, pt p14 0), (12, I (IntKind.i64.wrap ((IntKind.i64.wrap (y22.2.2.2.2.2.2.Base + (y22.2.2.2.2.2.1.length : Int))) + 1))), (13, .slice a28 v31.length c28), (14, I (IntKind.i64.wrap (v32 + 1)))] (by kernel_rfl) fun b => ?_
                  refine wpL_nil ?_
                  refine th_n ?_
                  have hst := (((((((((((((((hst.pull 7).pull 14).pull 14).pull 14).pull 14).pull 14).pull 14).pull 14).pull 10).pull 10).pull 10).pull 12).pull 12).pull 13).cut 14 1)
                  exact ⟨(v31.set (IntKind.i64.wrap (1 + (v32.tmod (IntKind.i64.wrap (x2 - 1))))).toNat (mx2 x11 (mn2 (mx2 x10 0) y26))), (IntKind.i64.wrap (v32 + 1)), y28.1, y28.2.1, y28.2.2.1, y28.2.2.2, a28, c28, a36, c36, a37, c37, (kpY [(1, I x2), (3, .slice a3 x4.length c3), (9, pt p9 0), (11, pt p14 0), (12, I (IntKind.i64.wrap ((IntKind.i64.wrap (y22.2.2.2.2.2.2.Base + (y22.2.2.2.2.2.1.length : Int))) + 1))), (13, .slice a28 (v31.set (IntKind.i64.wrap (1 + (v32.tmod (IntKind.i64.wrap (x2 - 1))))).toNat (mx2 x11 (mn2 (mx2 x10 0) y26))).length c28), (14, I (IntKind.i64.wrap (v32 + 1)))] [I x2, .slice a3 x4.length c3, pt p9 0, pt p14 0, I (IntKind.i64.wrap ((IntKind.i64.wrap (y22.2.2.2.2.2.2.Base + (y22.2.2.2.2.2.1.length : Int))) + 1)), .slice a28 v31.length c28, I (IntKind.i64.wrap (v32 + 1))] (by kernel_rfl) (by simp only [List.length_set, List.map]) ⟨hst, hr⟩)⟩
              · have hr := hy30
                refine wp_seq ?_
                refine wp_reg ?_
                refine L_pure 3 [(1, I x2), (3, .slice a3 x4.length c3), (9, pt p9 0), (11, pt p14 0), (12, I (IntKind.i64.wrap ((IntKind.i64.wrap (y22.2.2.2.2.2.2.Base + (y22.2.2.2.2.2.1.length : Int))) + 1))), (13, .slice a28 v31.length c28), (14, I v32), (17, I y29), (100, .bool (decide (y29 < (IntKind.i64.wrap ((IntKind.i64.wrap (y22.2.2.2.2.2.2.Base + (y22.2.2.2.2.2.1.length : Int))) + 1)))))] (by kernel_rfl) fun b => ?_
                refine wpL_nil ?_
                refine th_n ?_
                refine wp_cond_mkF (t := decide (y29 < (IntKind.i64.wrap ((IntKind.i64.wrap (y22.2.2.2.2.2.2.Base + (y22.2.2.2.2.2.1.length : Int))) + 1)))) rfl (fun h => ?_) (fun h => ?_)
                · have hr := (if_pos h).symm.trans hr
                  refine wp_reg ?_
                  refine L_pure 1 [(1, I x2), (3, .slice a3 x4.length c3), (9, pt p9 0), (11, pt p14 0), (12, I (IntKind.i64.wrap ((IntKind.i64.wrap (y22.2.2.2.2.2.2.Base + (y22.2.2.2.2.2.1.length : Int))) + 1))), (13, .slice a28 v31.length c28), (14, I v32), (101, pt p14 2)] (by kernel_rfl) fun b => ?_
                  refine L_op rfl (O_run (v := I y22.2.2.2.2.2.2.Base) (w' := w) (R_load (hst.pull 8) rfl rfl) rfl rfl ?_)
                  refine L_pure 1 [(1, I x2), (3, .slice a3 x4.length c3), (9, pt p9 0), (11, pt p14 0), (12, I (IntKind.i64.wrap ((IntKind.i64.wrap (y22.2.2.2.2.2.2.Base + (y22.2.2.2.2.2.1.length : Int))) + 1))), (13, .slice a28 v31.length c28), (14, I v32), (17, I y22.2.2.2.2.2.2.Base)] (by kernel_rfl) fun b => ?_
                  refine wpL_nil ?_
                  refine th_n ?_
                  obtain rfl := Option.some.inj hr
                  have hst := (((((((((((((((hst.pull 14).pull 14).pull 14).pull 14).pull 14).pull 14).pull 14).pull 14).pull 14).pull 14).pull 14).pull 14).pull 14).pull 14).pull 14)
                  exact (kpX [(1, I x2), (3, .slice a3 x4.length c3), (9, pt p9 0), (11, pt p14 0), (12, I (IntKind.i64.wrap ((IntKind.i64.wrap (y22.2.2.2.2.2.2.Base + (y22.2.2.2.2.2.1.length : Int))) + 1))), (13, .slice a28 v31.length c28), (14, I v32), (17, I y22.2.2.2.2.2.2.Base)] rfl hst)
                · have hr := (if_neg (by rw [h]; exact Bool.false_ne_true)).symm.trans hr
                  refine wp_skip ?_
                  refine th_n ?_
                  obtain rfl := Option.some.inj hr
                  have hst := (((((((((((((((hst.pull 14).pull 14).pull 14).pull 14).pull 14).pull 14).pull 14).pull 14).pull 14).pull 14).pull 14).pull 14).pull 14).pull 14).pull 14)
                  exact (kpX [(1, I x2), (3, .slice a3 x4.length c3), (9, pt p9 0), (11, pt p14 0), (12, I (IntKind.i64.wrap ((IntKind.i64.wrap (y22.2.2.2.2.2.2.Base + (y22.2.2.2.2.2.1.length : Int))) + 1))), (13, .slice a28 v31.length c28), (14, I v32), (17, I y29)] rfl hst)
            · have hr := (if_neg (by rw [h]; exact Bool.false_ne_true)).symm.trans hr
              refine wp_exit ?_
              refine th_x (th_x (ib_x (th_n ?_)))
              obtain rfl := Option.some.inj hr
              have hst := ((((((((((((((hst.pull 13).pull 13).pull 13).pull 13).pull 13).pull 13).pull 13).pull 13).pull 13).pull 13).pull 13).pull 13).pull 13).cut 13 1)
              exact ⟨(v33, v34, v35, v36), a29, c29, a30, c30, (kpXf [(1, I x2), (9, pt p9 0)] rfl hst)⟩
          · have hr := hy25
            refine wp_reg ?_
            refine L_pure 5 [(1, I x2), (3, .slice a3 x4.length c3), (9, pt p9 0), (11, pt p14 0), (12, I (IntKind.i64.wrap ((IntKind.i64.wrap (y22.2.2.2.2.2.2.Base + (y22.2.2.2.2.2.1.length : Int))) + 1))), (13, .slice a28 v31.length c28), (14, I v32), (57, .bool (decide (v32 < (x4.length : Int))))] (by kernel_rfl) fun b => ?_
            by_cases h : (decide (v32 < (x4.length : Int))) = true
            · have hr := (if_pos h).symm.trans hr
              refine L_keep ((57, .bool (decide (v32 < (x4.length : Int)))) :: [(1, I x2), (3, .slice a3 x4.length c3), (9, pt p9 0), (11, pt p14 0), (12, I (IntKind.i64.wrap ((IntKind.i64.wrap (y22.2.2.2.2.2.2.Base + (y22.2.2.2.2.2.1.length : Int))) + 1))), (13, .slice a28 v31.length c28), (14, I v32)]) rfl fun b => ?_
              refine L_bool h ?_
              refine L_pure 4 [(1, I x2), (3, .slice a3 x4.length c3), (9, pt p9 0), (11, pt p14 0), (12, I (IntKind.i64.wrap ((IntKind.i64.wrap (y22.2.2.2.2.2.2.Base + (y22.2.2.2.2.2.1.length : Int))) + 1))), (13, .slice a28 v31.length c28), (14, I v32), (61, .bool (decide (v32 < 12)))] (by kernel_rfl) fun b => ?_
              by_cases h : (decide (v32 < 12)) = true
              · have hr := (if_pos h).symm.trans hr
                refine L_keep ((61, .bool (decide (v32 < 12))) :: [(1, I x2), (3, .slice a3 x4.length c3), (9, pt p9 0), (11, pt p14 0), (12, I (IntKind.i64.wrap ((IntKind.i64.wrap (y22.2.2.2.2.2.2.Base + (y22.2.2.2.2.2.1.length : Int))) + 1))), (13, .slice a28 v31.length c28), (14, I v32)]) rfl fun b => ?_
                refine L_bool h ?_
                refine L_pure 3 [(1, I x2), (3, .slice a3 x4.length c3), (9, pt p9 0), (11, pt p14 0), (12, I (IntKind.i64.wrap ((IntKind.i64.wrap (y22.2.2.2.2.2.2.Base + (y22.2.2.2.2.2.1.length : Int))) + 1))), (13, .slice a28 v31.length c28), (14, I v32), (64, .bool (decide (x2 > 1)))] (by kernel_rfl) fun b => ?_
                refine wpL_nil ?_
                refine th_n ?_
                obtain rfl := Option.some.inj hr
                have hst := ((((((((((((((hst.pull 13).pull 13).pull 13).pull 13).pull 13).pull 13).pull 13).pull 13).pull 13).pull 13).pull 13).pull 13).pull 13).pull 13)
                exact (kpX [(1, I x2), (3, .slice a3 x4.length c3), (9, pt p9 0), (11, pt p14 0), (12, I (IntKind.i64.wrap ((IntKind.i64.wrap (y22.2.2.2.2.2.2.Base + (y22.2.2.2.2.2.1.length : Int))) + 1))), (13, .slice a28 v31.length c28), (14, I v32), (64, .bool (decide (x2 > 1)))] rfl hst)
              · have hr := (if_neg h).symm.trans hr
                refine L_keep ((61, .bool (decide (v32 < 12))) :: [(1, I x2), (3, .slice a3 x4.length c3), (9, pt p9 0), (11, pt p14 0), (12, I (IntKind.i64.wrap ((IntKind.i64.wrap (y22.2.2.2.2.2.2.Base + (y22.2.2.2.2.2.1.length : Int))) + 1))), (13, .slice a28 v31.length c28), (14, I v32)]) rfl fun b => ?_
                refine L_bool (eq_false_of_ne_true h) ?_
                refine L_pure 3 [(1, I x2), (3, .slice a3 x4.length c3), (9, pt p9 0), (11, pt p14 0), (12, I (IntKind.i64.wrap ((IntKind.i64.wrap (y22.2.2.2.2.2.2.Base + (y22.2.2.2.2.2.1.length : Int))) + 1))), (13, .slice a28 v31.length c28), (14, I v32), (64, .bool false)] (by kernel_rfl) fun b => ?_
                refine wpL_nil ?_
                refine th_n ?_
                obtain rfl := Option.some.inj hr
                have hst := ((((((((((((((hst.pull 13).pull 13).pull 13).pull 13).pull 13).pull 13).pull 13).pull 13).pull 13).pull 13).pull 13).pull 13).pull 13).pull 13)
                exact (kpX [(1, I x2), (3, .slice a3 x4.length c3), (9, pt p9 0), (11, pt p14 0), (12, I (IntKind.i64.wrap ((IntKind.i64.wrap (y22.2.2.2.2.2.2.Base + (y22.2.2.2.2.2.1.length : Int))) + 1))), (13, .slice a28 v31.length c28), (14, I v32), (64, .bool false)] rfl hst)
            · have hr := (if_neg h).symm.trans hr
              refine L_keep ((57, .bool (decide (v32 < (x4.length : Int)))) :: [(1, I x2), (3, .slice a3 x4.length c3), (9, pt p9 0), (11, pt p14 0), (12, I (IntKind.i64.wrap ((IntKind.i64.wrap (y22.2.2.2.2.2.2.Base + (y22.2.2.2.2.2.1.length : Int))) + 1))), (13, .slice a28 v31.length c28), (14, I v32)]) rfl fun b => ?_
              refine L_bool (eq_false_of_ne_true h) ?_
              refine L_pure 7 [(1, I x2), (3, .slice a3 x4.length c3), (9, pt p9 0), (11, pt p14 0), (12, I (IntKind.i64.wrap ((IntKind.i64.wrap (y22.2.2.2.2.2.2.Base + (y22.2.2.2.2.2.1.length : Int))) + 1))), (13, .slice a28 v31.length c28), (14, I v32), (64, .bool false)] (by kernel_rfl) fun b => ?_
              refine wpL_nil ?_
              refine th_n ?_
              obtain rfl := Option.some.inj hr
              have hst := ((((((((((((((hst.pull 13).pull 13).pull 13).pull 13).pull 13).pull 13).pull 13).pull 13).pull 13).pull 13).pull 13).pull 13).pull 13).pull 13)
              exact (kpX [(1, I x2), (3, .slice a3 x4.length c3), (9, pt p9 0), (11, pt p14 0), (12, I (IntKind.i64.wrap ((IntKind.i64.wrap (y22.2.2.2.2.2.2.Base + (y22.2.2.2.2.2.1.length : Int))) + 1))), (13, .slice a28 v31.length c28), (14, I v32), (64, .bool false)] rfl hst)
  · have hr := hy18
    refine wp_reg ?_
    obtain ⟨y19, hy19, hr⟩ := bnd hr
    refine L_op rfl (O_call (vs := #[]) Tryz.call5 (by kernel_rfl) (glacierlaw10_awake_ok k y19 hst hy19 fun w hst => ?_))
    refine CK_ret rfl ?_
    refine L_pure 2 [(1, I x2), (2, .slice a2 x3.length c2), (3, .slice a3 x4.length c3), (4, pt p8 0), (20, .bool (!y19))] (by kernel_rfl) fun b => ?_
    by_cases h : (!y19) = true
    · have hr := (if_pos h).symm.trans hr
      refine L_keep ((20, .bool (!y19)) :: [(1, I x2), (2, .slice a2 x3.length c2), (3, .slice a3 x4.length c3), (4, pt p8 0)]) rfl fun b => ?_
      refine L_bool h ?_
      refine L_pure 7 [(1, I x2), (2, .slice a2 x3.length c2), (3, .slice a3 x4.length c3), (4, pt p8 0), (27, .bool true)] (by kernel_rfl) fun b => ?_
      refine wpL_nil ?_
      refine th_n ?_
      obtain rfl := Option.some.inj hr
      have hst := ((((hst.pull 3).pull 3).pull 3).pull 3)
      exact (kpX [(1, I x2), (2, .slice a2 x3.length c2), (3, .slice a3 x4.length c3), (4, pt p8 0), (27, .bool true)] rfl hst)
    · have hr := (if_neg h).symm.trans hr
      refine L_keep ((20, .bool (!y19)) :: [(1, I x2), (2, .slice a2 x3.length c2), (3, .slice a3 x4.length c3), (4, pt p8 0)]) rfl fun b => ?_
      refine L_bool (eq_false_of_ne_true h) ?_
      refine L_pure 4 [(1, I x2), (2, .slice a2 x3.length c2), (3, .slice a3 x4.length c3), (4, pt p8 0), (24, .bool (decide (x2 < 1)))] (by kernel_rfl) fun b => ?_
      by_cases h : (decide (x2 < 1)) = true
      · have hr := (if_pos h).symm.trans hr
        refine L_keep ((24, .bool (decide (x2 < 1))) :: [(1, I x2), (2, .slice a2 x3.length c2), (3, .slice a3 x4.length c3), (4, pt p8 0)]) rfl fun b => ?_
        refine L_bool h ?_
        refine L_pure 3 [(1, I x2), (2, .slice a2 x3.length c2), (3, .slice a3 x4.length c3), (4, pt p8 0), (27, .bool true)] (by kernel_rfl) fun b => ?_
        refine wpL_nil ?_
        refine th_n ?_
        obtain rfl := Option.some.inj hr
        have hst := ((((hst.pull 3).pull 3).pull 3).pull 3)
        exact (kpX [(1, I x2), (2, .slice a2 x3.length c2), (3, .slice a3 x4.length c3), (4, pt p8 0), (27, .bool true)] rfl hst)
      · have hr := (if_neg h).symm.trans hr
        refine L_keep ((24, .bool (decide (x2 < 1))) :: [(1, I x2), (2, .slice a2 x3.length c2), (3, .slice a3 x4.length c3), (4, pt p8 0)]) rfl fun b => ?_
        refine L_bool (eq_false_of_ne_true h) ?_
        refine L_pure 3 [(1, I x2), (2, .slice a2 x3.length c2), (3, .slice a3 x4.length c3), (4, pt p8 0), (27, .bool (decide (x2 > 5)))] (by kernel_rfl) fun b => ?_
        refine wpL_nil ?_
        refine th_n ?_
        obtain rfl := Option.some.inj hr
        have hst := ((((hst.pull 3).pull 3).pull 3).pull 3)
        exact (kpX [(1, I x2), (2, .slice a2 x3.length c2), (3, .slice a3 x4.length c3), (4, pt p8 0), (27, .bool (decide (x2 > 5)))] rfl hst)
end Go.Proofs.YtpldjopnhhbjpaaGreat
