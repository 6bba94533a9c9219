/- RM, one part more. -/
import Derived.Test.YtpldjopnhhbjpaaGreatRMb
namespace Go.Proofs.YtpldjopnhhbjpaaGreat
open Go.Hx Go.RowKit
def platter_Disk_Append (k : Nat) (x1 : Int) (x2 : Int) (x3 : Bool) (x4 : Int) (x5 : (List ((List UInt8) × (Option T_platter_file)))) (x6 : (List UInt8)) (x7 : (List UInt8)) : Option (Int × Int × Int × (List ((List UInt8) × (Option T_platter_file)))) := (Option.bind (meter_Luck_Try k x1 x2 x3 x4 x5) fun y4 => (if (y4.1 != 0) = true then some (y4.1, x2, y4.2, x5) else (if (sEq x6 ([])) = true then some ((1 : Int), x2, y4.2, x5) else (Option.bind (platter_Disk_get k x1 x2 x3 y4.2 x5 x6) fun y5 => (Option.bind y5 fun x10 => (Option.bind (cat x10.now.s x7) fun x11 => (Option.bind (platter_Disk_put k x1 x2 x3 y4.2 x5 x6 (T_platter_text.mk true x11)) fun y6 => some (y6.1, y6.2.1, y4.2, y6.2.2))))))))
set_option maxRecDepth 100000 in
set_option maxHeartbeats 4000000 in
theorem platter_Disk_Append_ok {G w : World} {F : List HP} {R : Ending → World → Prop} (k : Nat) (x1 : Int) (x2 : Int) (x3 : Bool) (x4 : Int) (x5 : (List ((List UInt8) × (Option T_platter_file)))) (x6 : (List UInt8)) (x7 : (List UInt8)) (p1 : Nat) (p2 : Nat) (r : (Int × Int × Int × (List ((List UInt8) × (Option T_platter_file))))) (hst : St G w (blk p1 (cl [I x1, I x2, .bool x3, I x4, .map (some p2)] 79) :: mpr S (rPt r_T_platter_file) p2 x5 :: F)) (hr : platter_Disk_Append k x1 x2 x3 x4 x5 x6 x7 = some r)
    (hR : ∀ w', St G w' (blk p1 (cl [I x1, I r.2.1, .bool x3, I r.2.2.1, .map (some p2)] 79) :: mpr S (rPt r_T_platter_file) p2 r.2.2.2 :: F) → R (.returned (I r.1)) w') :
    Calls Tryz.prog 72 #[pt p1 0, S x6, S x7] w R := by
  unfold platter_Disk_Append at hr
  refine enter Tryz.func72 rfl [(0, pt p1 0), (1, S x6), (2, S x7)] rfl rfl fun b => ?_
  refine wp_seq ?_
  refine wp_reg ?_
  refine L_pure 1 [(0, pt p1 0), (1, S x6), (2, S x7)] (by kernel_rfl) fun b => ?_
  refine wpL_nil ?_
  refine th_n ?_
  refine wp_seq ?_
  refine wp_seq ?_
  refine wp_reg ?_
  refine L_pure 3 [(0, pt p1 0), (1, S x6), (2, S x7), (10, pt p1 2)] (by kernel_rfl) fun b => ?_
  obtain ⟨y4, hy4, hr⟩ := bnd hr
  refine L_op rfl (O_call (vs := #[pt p1 2]) Tryz.call69 (by kernel_rfl) (meter_Luck_Try_ok k x1 x2 x3 x4 x5 p1 p2 y4 ((hst.pull 1).pull 1) hy4 fun w hst => ?_))
  refine CK_ret rfl ?_
  refine L_pure 1 [(0, pt p1 0), (1, S x6), (2, S x7), (7, I y4.1)] (by kernel_rfl) fun b => ?_
  refine wpL_nil ?_
  refine th_n ?_
  refine wp_seq ?_
  refine wp_reg ?_
  refine L_pure 2 [(0, pt p1 0), (1, S x6), (2, S x7), (7, I y4.1), (13, .bool (y4.1 != 0))] (by kernel_rfl) fun b => ?_
  refine wpL_nil ?_
  refine th_n ?_
  refine wp_cond_mkF (t := (y4.1 != 0)) rfl (fun h => ?_) (fun h => ?_)
  · have hr := (if_pos h).symm.trans hr
    refine wp_seq ?_
    refine wp_reg ?_
    refine L_pure 2 [(6, I y4.1)] (by kernel_rfl) fun b => ?_
    refine wpL_nil ?_
    refine th_n ?_
    refine wp_ret ?_
    refine th_r ?_
    refine ret1 rfl rfl ?_
    obtain rfl := Option.some.inj hr
    have hst := ((hst.pull 1).pull 1)
    exact hR _ hst
  · have hr := (if_neg (by rw [h]; exact Bool.false_ne_true)).symm.trans hr
    refine wp_skip ?_
    refine th_n ?_
    refine wp_seq ?_
    refine wp_seq ?_
    refine wp_reg ?_
    refine L_pure 2 [(0, pt p1 0), (1, S x6), (2, S x7), (16, .bool (sEq x6 ([])))] (by kernel_rfl) fun b => ?_
    refine wpL_nil ?_
    refine th_n ?_
    refine wp_cond_mkF (t := (sEq x6 ([]))) rfl (fun h => ?_) (fun h => ?_)
    · have hr := (if_pos h).symm.trans hr
      refine wp_seq ?_
      refine wp_reg ?_
      refine L_pure 1 [(6, I 1)] (by kernel_rfl) fun b => ?_
      refine wpL_nil ?_
      refine th_n ?_
      refine wp_ret ?_
      refine th_r ?_
      refine ret1 rfl rfl ?_
      obtain rfl := Option.some.inj hr
      have hst := ((hst.pull 1).pull 1)
      exact hR _ hst
    · have hr := (if_neg (by rw [h]; exact Bool.false_ne_true)).symm.trans hr
      refine wp_skip ?_
      refine th_n ?_
      refine wp_seq ?_
      refine wp_reg ?_
      refine L_pure 4 [(2, S x7), (17, pt p1 0), (18, S x6), (19, pt p1 0), (20, S x6)] (by kernel_rfl) fun b => ?_
      obtain ⟨y5, hy5, hr⟩ := bnd hr
      refine L_op rfl (O_call (vs := #[pt p1 0, S x6]) Tryz.call70 (by kernel_rfl) (platter_Disk_get_ok k x1 x2 x3 y4.2 x5 x6 p1 p2 y5 ((hst.pull 1).pull 1) hy5 fun a2 w hst => ?_))
      refine CK_ret rfl ?_
      obtain ⟨x10, hx3, hr⟩ := bnd hr
      have hst := dpt_pick hx3 hst
      refine L_op rfl (O_run (v := pt (ab a2) (ao a2 + (0 : Int).toNat * 4)) (w' := w) (R_nilc hst rfl) rfl rfl ?_)
      refine L_pure 2 [(2, S x7), (17, pt p1 0), (18, S x6), (24, pt (ab a2) (ao a2 + (0 : Int).toNat * 4 + 1))] (by kernel_rfl) fun b => ?_
      obtain ⟨q2, hc2, hst⟩ := dsl_cells hst (show gt [x10] 0 = some x10 from rfl)
      have hst := hst.drop
      refine L_op rfl (O_run (v := S x10.now.s) (w' := w) (R_loadAt (off := ao a2 + (0 : Int).toNat * 4) (j := 1) hc2 rfl rfl) rfl rfl ?_)
      refine L_pure 1 [(17, pt p1 0), (18, S x6), (25, S x10.now.s), (26, S x7)] (by kernel_rfl) fun b => ?_
      obtain ⟨x11, hx4, hr⟩ := bnd hr
      refine L_op rfl (O_run (v := S x11) (w' := w) (R_cat rfl rfl hx4) rfl rfl ?_)
      refine L_pure 1 [(17, pt p1 0), (18, S x6), (28, .agg #[.bool true, S x11])] (by kernel_rfl) fun b => ?_
      obtain ⟨y6, hy6, hr⟩ := bnd hr
      refine L_op rfl (O_call (vs := #[pt p1 0, S x6, .agg #[.bool true, S x11]]) Tryz.call73 (by kernel_rfl) (platter_Disk_put_ok k x1 x2 x3 y4.2 x5 x6 (T_platter_text.mk true x11) p1 p2 y6 ((hst.pull 3).pull 3) hy6 fun w hst => ?_))
      refine CK_ret rfl ?_
      refine L_pure 1 [(6, I y6.1)] (by kernel_rfl) fun b => ?_
      refine wpL_nil ?_
      refine th_n ?_
      refine wp_ret ?_
      refine ret1 rfl rfl ?_
      obtain rfl := Option.some.inj hr
      have hst := (((hst.pull 1).pull 1).cut 2 2)
      exact hR _ hst
def term_Append_l1 (k : Nat) (x6 : (List T_term_Entry)) : Nat → (List UInt8) → Int → Option ((List UInt8))
  | 0, _, _ => none
  | j + 1, v7, v8 => (if decide (v8 < (x6.length : Int)) = true then (Option.bind (gt x6 v8) fun x9 => (Option.bind (term_spell k x9) fun y6 => (Option.bind (cat v7 y6) fun x10 => (term_Append_l1 k x6 j x10 (IntKind.i64.wrap (v8 + 1)))))) else some (v7))
def term_Append (k : Nat) (x1 : Int) (x2 : Int) (x3 : Bool) (x4 : Int) (x5 : (List ((List UInt8) × (Option T_platter_file)))) (x6 : (List T_term_Entry)) : Option (Int × Int × Int × (List ((List UInt8) × (Option T_platter_file)))) := (Option.bind (term_Append_l1 k x6 k ([]) (0 : Int)) fun y5 => (Option.bind (platter_Disk_Append k x1 x2 x3 x4 x5 ([108, 111, 103]) y5) fun y7 => (if (y7.1 != 0) = true then some (y7.1, y7.2.1, y7.2.2.1, y7.2.2.2) else (Option.bind (platter_Disk_Sync k x1 y7.2.1 x3 y7.2.2.1 y7.2.2.2 ([[108, 111, 103]])) fun y8 => some (y8.1, y8.2.1, y8.2.2.1, y8.2.2.2)))))
set_option maxRecDepth 100000 in
set_option maxHeartbeats 4000000 in
theorem term_Append_ok {G w : World} {F : List HP} {R : Ending → World → Prop} (k : Nat) (x1 : Int) (x2 : Int) (x3 : Bool) (x4 : Int) (x5 : (List ((List UInt8) × (Option T_platter_file)))) (x6 : (List T_term_Entry)) (p1 : Nat) (p2 : Nat) (a1 : Option Addr) (c1 : Nat) (r : (Int × Int × Int × (List ((List UInt8) × (Option T_platter_file))))) (hst : St G w (blk p1 (cl [I x1, I x2, .bool x3, I x4, .map (some p2)] 79) :: mpr S (rPt r_T_platter_file) p2 x5 :: dsl r_T_term_Entry a1 c1 x6 :: F)) (hr : term_Append k x1 x2 x3 x4 x5 x6 = some r)
    (hR : ∀ w', St G w' (blk p1 (cl [I x1, I r.2.1, .bool x3, I r.2.2.1, .map (some p2)] 79) :: mpr S (rPt r_T_platter_file) p2 r.2.2.2 :: dsl r_T_term_Entry a1 c1 x6 :: F) → R (.returned (I r.1)) w') :
    Calls Tryz.prog 58 #[pt p1 0, .slice a1 x6.length c1] w R := by
  unfold term_Append at hr
  refine enter Tryz.func58 rfl [(0, pt p1 0), (1, .slice a1 x6.length c1)] rfl rfl fun b => ?_
  refine wp_seq ?_
  refine wp_reg ?_
  refine L_pure 1 [(0, pt p1 0), (1, .slice a1 x6.length c1)] (by kernel_rfl) fun b => ?_
  refine wpL_nil ?_
  refine th_n ?_
  refine wp_seq ?_
  refine wp_reg ?_
  refine L_pure 1 [(0, pt p1 0), (1, .slice a1 x6.length c1), (5, S ([]))] (by kernel_rfl) fun b => ?_
  refine wpL_nil ?_
  refine th_n ?_
  refine wp_seq ?_
  refine wp_seq ?_
  refine wp_reg ?_
  refine L_pure 3 [(0, pt p1 0), (5, S ([])), (9, .slice a1 x6.length c1), (10, I (x6.length : Int)), (11, I 0)] (by kernel_rfl) fun b => ?_
  refine wpL_nil ?_
  refine th_n ?_
  obtain ⟨y5, hy5, hk2⟩ := bnd hr
  clear hr
  refine Go.Hx.wp_cut (fun a w => ∃ (b : Nat → Value), a = mkF 29 b [(0, pt p1 0), (5, S y5)] ∧ St G w (blk p1 (cl [I x1, I x2, .bool x3, I x4, .map (some p2)] 79) :: mpr S (rPt r_T_platter_file) p2 x5 :: dsl r_T_term_Entry a1 c1 x6 :: F)) ?_ ?_
  · rintro _ w ⟨b, rfl, hst⟩
    have hr := hk2
    refine th_n ?_
    refine wp_seq ?_
    refine wp_seq ?_
    refine wp_reg ?_
    refine L_pure 2 [(0, pt p1 0), (20, pt p1 0), (21, S y5)] (by kernel_rfl) fun b => ?_
    obtain ⟨y7, hy7, hr⟩ := bnd hr
    refine L_op rfl (O_call (vs := #[pt p1 0, S ([108, 111, 103]), S y5]) Tryz.call72 (by kernel_rfl) (platter_Disk_Append_ok k x1 x2 x3 x4 x5 ([108, 111, 103]) y5 p1 p2 y7 ((hst.pull 1).pull 1) hy7 fun w hst => ?_))
    refine CK_ret rfl ?_
    refine L_pure 1 [(0, pt p1 0), (8, I y7.1)] (by kernel_rfl) fun b => ?_
    refine wpL_nil ?_
    refine th_n ?_
    refine wp_seq ?_
    refine wp_reg ?_
    refine L_pure 2 [(0, pt p1 0), (8, I y7.1), (24, .bool (y7.1 != 0))] (by kernel_rfl) fun b => ?_
    refine wpL_nil ?_
    refine th_n ?_
    refine wp_cond_mkF (t := (y7.1 != 0)) rfl (fun h => ?_) (fun h => ?_)
    · have hr := (if_pos h).symm.trans hr
      refine wp_seq ?_
      refine wp_reg ?_
      refine L_pure 2 [(4, I y7.1)] (by kernel_rfl) fun b => ?_
      refine wpL_nil ?_
      refine th_n ?_
      refine wp_ret ?_
      refine th_r ?_
      refine ret1 rfl rfl ?_
      obtain rfl := Option.some.inj hr
      have hst := (((hst.pull 2).pull 2).pull 2)
      exact hR _ hst
    · have hr := (if_neg (by rw [h]; exact Bool.false_ne_true)).symm.trans hr
      refine wp_skip ?_
      refine th_n ?_
      refine wp_seq ?_
      refine wp_reg ?_
      refine L_pure 1 [(26, pt p1 0)] (by kernel_rfl) fun b => ?_
      refine L_op rfl (O_bs (T := 9) [S ([108, 111, 103])] #[(0, S ([108, 111, 103]))] hst (by kernel_rfl) (by kernel_rfl) rfl fun p6 w hst => ?_)
      have hst := osl_of_blk0 (ecs := [[S ([108, 111, 103])]]) rS [[108, 111, 103]] rfl (fun m => ⟨⟨(), rfl, trivial⟩, trivial⟩) rfl hst
      obtain ⟨y8, hy8, hr⟩ := bnd hr
      have hst := osl_freeze hst
      refine L_op rfl (O_call (vs := #[pt p1 0, .slice (some ⟨p6, 0, none⟩) ([[108, 111, 103]]).length 1]) Tryz.call60 (by kernel_rfl) (platter_Disk_Sync_ok k x1 y7.2.1 x3 y7.2.2.1 y7.2.2.2 ([[108, 111, 103]]) p1 p2 (some ⟨p6, 0, none⟩) 1 y8 ((hst.pull 2).pull 2) hy8 fun w hst => ?_))
      refine CK_ret rfl ?_
      refine L_pure 1 [(4, I y8.1)] (by kernel_rfl) fun b => ?_
      refine wpL_nil ?_
      refine th_n ?_
      refine wp_ret ?_
      refine ret1 rfl rfl ?_
      obtain rfl := Option.some.inj hr
      have hst := ((((hst.pull 3).pull 2).pull 2).cut 3 1)
      exact hR _ hst
  · have hst := (((hst.pull 2).pull 2).pull 2)
    refine wp_block ?_
    refine wp_loop_fuel (fun j a w => ∃ (v7 : (List UInt8)) (v8 : Int) (b : Nat → Value), a = mkF 29 b [(0, pt p1 0), (5, S v7), (9, .slice a1 x6.length c1), (10, I (x6.length : Int)), (11, I v8)] ∧ St G w (blk p1 (cl [I x1, I x2, .bool x3, I x4, .map (some p2)] 79) :: mpr S (rPt r_T_platter_file) p2 x5 :: dsl r_T_term_Entry a1 c1 x6 :: F) ∧ term_Append_l1 k x6 j v7 v8 = some y5) (k := k) ⟨[], (0 : Int), (kpX [(0, pt p1 0), (5, S ([])), (9, .slice a1 x6.length c1), (10, I (x6.length : Int)), (11, I 0)] rfl ⟨hst, hy5⟩)⟩ ?_ ?_
    · rintro _ _ ⟨_, _, _, _, _, h⟩
      rw [term_Append_l1] at h
      cases h
    · rintro j _ w ⟨v7, v8, b, rfl, hst, hr⟩
      rw [term_Append_l1] at hr
      refine wp_seq ?_
      refine wp_reg ?_
      refine L_pure 1 [(0, pt p1 0), (5, S v7), (9, .slice a1 x6.length c1), (10, I (x6.length : Int)), (11, I v8), (12, .bool (decide (v8 < (x6.length : Int))))] (by kernel_rfl) fun b => ?_
      refine wpL_nil ?_
      refine th_n ?_
      refine wp_seq ?_
      refine wp_cond_mkF (t := decide (v8 < (x6.length : Int))) rfl (fun h => ?_) (fun h => ?_)
      · have hr := (if_pos h).symm.trans hr
        refine wp_skip ?_
        refine th_n ?_
        refine wp_seq ?_
        refine wp_block ?_
        refine wp_seq ?_
        refine wp_reg ?_
        obtain ⟨x9, hx3, hr⟩ := bnd hr
        refine L_op rfl (O_run (v := pt (ab a1) (ao a1 + v8.toNat * 3)) (w' := w) (R_ia L37 rfl rfl (dsl_addr (hst.pull 2) hx3) (gt_some hx3).1 (gt_some hx3).2.1) rfl rfl ?_)
        obtain ⟨q2, hc2, hst⟩ := dsl_cells (hst.pull 2) hx3
        have hst := hst.drop
        refine L_op rfl (O_run (v := .agg #[I x9.Index, I x9.Term, S x9.Cmd]) (w' := w) (R_loadAt (off := ao a1 + v8.toNat * 3) (j := 0) hc2 rfl rfl) rfl rfl ?_)
        refine L_op rfl (O_alloc (i := Tryz.t48) (z := .agg #[I 0, I 0, S ([])]) [I 0, I 0, S ([])] hst rfl rfl rfl rfl fun p5 w hst => ?_)
        refine L_op rfl (O_store [I x9.Index, I x9.Term, S x9.Cmd] hst rfl rfl (by kernel_rfl) fun w hst => ?_)
        refine wpL_nil ?_
        refine th_n ?_
        refine wp_reg ?_
        refine L_pure 1 [(0, pt p1 0), (7, pt p5 0), (9, .slice a1 x6.length c1), (10, I (x6.length : Int)), (11, I v8), (15, S v7)] (by kernel_rfl) fun b => ?_
        refine L_op rfl (O_run (v := .agg #[I x9.Index, I x9.Term, S x9.Cmd]) (w' := w) (R_load hst rfl rfl) rfl rfl ?_)
        obtain ⟨y6, hy6, hr⟩ := bnd hr
        refine L_op rfl (O_call (vs := #[.agg #[I x9.Index, I x9.Term, S x9.Cmd]]) Tryz.call64 (by kernel_rfl) (term_spell_ok k x9 y6 hst hy6 fun w hst => ?_))
        refine CK_ret rfl ?_
        obtain ⟨x10, hx4, hr⟩ := bnd hr
        refine L_op rfl (O_run (v := S x10) (w' := w) (R_cat rfl rfl hx4) rfl rfl ?_)
        refine L_pure 1 [(0, pt p1 0), (5, S x10), (9, .slice a1 x6.length c1), (10, I (x6.length : Int)), (11, I v8)] (by kernel_rfl) fun b => ?_
        refine wpL_nil ?_
        refine ib_n (th_n ?_)
        refine wp_reg ?_
        refine L_pure 2 [(0, pt p1 0), (5, S x10), (9, .slice a1 x6.length c1), (10, I (x6.length : Int)), (11, I (IntKind.i64.wrap (v8 + 1)))] (by kernel_rfl) fun b => ?_
        refine wpL_nil ?_
        refine th_n ?_
        have hst := ((((hst.pull 1).pull 3).pull 3).cut 3 1)
        exact ⟨x10, (IntKind.i64.wrap (v8 + 1)), (kpX [(0, pt p1 0), (5, S x10), (9, .slice a1 x6.length c1), (10, I (x6.length : Int)), (11, I (IntKind.i64.wrap (v8 + 1)))] rfl ⟨hst, hr⟩)⟩
      · have hr := (if_neg (by rw [h]; exact Bool.false_ne_true)).symm.trans hr
        refine wp_exit ?_
        refine th_x (th_x (ib_x (th_n ?_)))
        obtain rfl := Option.some.inj hr
        have hst := (((hst.pull 2).pull 2).pull 2)
        exact (kpX [(0, pt p1 0), (5, S v7)] rfl hst)
def raft_Node_settle_l2 (k : Nat) (v8 : Int) (x1 : T_raft_Node) : Nat → Int → Int → Option (Int)
  | 0, _, _ => none
  | j + 1, v11, v12 => (if decide (v12 < x1.n) = true then (Option.bind (if 0 ≤ v12 ∧ v12 < 5 then (if decide ((x1.match_ v12.toNat) ≥ v8) = true then some ((IntKind.i64.wrap (v11 + 1))) else some (v11)) else none) fun y10 => (raft_Node_settle_l2 k v8 x1 j y10 (IntKind.i64.wrap (v12 + 1)))) else some (v11))
def raft_Node_settle_l1 (k : Nat) (x1 : T_raft_Node) (x2 : Int) (x3 : Int) (x4 : Bool) (x5 : Int) (x6 : (List ((List UInt8) × (Option T_platter_file)))) : Nat → Int → Option (Flow (T_raft_Node) (Unit))
  | 0, _ => none
  | j + 1, v8 => (if decide (v8 > x1.commit) = true then (Option.bind (term_State_TermAt k x1 x2 x3 x4 x5 x6 v8) fun y8 => (if (y8.1 != x1.st.Term) = true then some (Flow.ret (x1)) else (Option.bind (raft_Node_settle_l2 k v8 x1 k (0 : Int) (0 : Int)) fun y9 => (if decide ((IntKind.i64.wrap (2 * y9)) > x1.n) = true then some (Flow.ret ((T_raft_Node.mk x1.id x1.n x1.st x1.role x1.leader v8 x1.applied x1.timer x1.votes x1.next x1.match_ x1.out x1.broken))) else (raft_Node_settle_l1 k x1 x2 x3 x4 x5 x6 j (IntKind.i64.wrap (v8 - 1))))))) else some (Flow.go ()))
def raft_Node_settle (k : Nat) (x1 : T_raft_Node) (x2 : Int) (x3 : Int) (x4 : Bool) (x5 : Int) (x6 : (List ((List UInt8) × (Option T_platter_file)))) : Option (T_raft_Node) := (Option.bind (raft_Node_Last k x1 x2 x3 x4 x5 x6) fun y6 => (Option.bind (raft_Node_settle_l1 k x1 x2 x3 x4 x5 x6 k y6) fun y7 => (match y7 with | Flow.ret r => some r | Flow.go _ => some (x1))))
set_option maxRecDepth 100000 in
set_option maxHeartbeats 4000000 in
theorem raft_Node_settle_ok {G w : World} {F : List HP} {R : Ending → World → Prop} (k : Nat) (x1 : T_raft_Node) (x2 : Int) (x3 : Int) (x4 : Bool) (x5 : Int) (x6 : (List ((List UInt8) × (Option T_platter_file)))) (p1 : Nat) (p2 : Nat) (p3 : Nat) (a1 : Option Addr) (c1 : Nat) (a2 : Option Addr) (c2 : Nat) (r : (T_raft_Node)) (hst : St G w (blk p1 (cl [I x1.id, I x1.n, pt p2 0, I x1.st.Term, I x1.st.Vote, I x1.st.Base, I x1.st.BaseTerm, S x1.st.Snap, .slice a1 x1.st.Log.length c1, I x1.role, I x1.leader, I x1.commit, I x1.applied, I x1.timer, .bool (x1.votes 0), .bool (x1.votes 1), .bool (x1.votes 2), .bool (x1.votes 3), .bool (x1.votes 4), I (x1.next 0), I (x1.next 1), I (x1.next 2), I (x1.next 3), I (x1.next 4), I (x1.match_ 0), I (x1.match_ 1), I (x1.match_ 2), I (x1.match_ 3), I (x1.match_ 4), .slice a2 x1.out.length c2, I x1.broken] 66) :: blk p2 (cl [I x2, I x3, .bool x4, I x5, .map (some p3)] 79) :: mpr S (rPt r_T_platter_file) p3 x6 :: osl r_T_term_Entry 48 a1 c1 x1.st.Log :: osl r_T_raft_Msg 39 a2 c2 x1.out :: F)) (hr : raft_Node_settle k x1 x2 x3 x4 x5 x6 = some r)
    (hR : ∀ (a3 : Option Addr) (c3 : Nat) (a4 : Option Addr) (c4 : Nat) w', St G w' (osl r_T_term_Entry 48 a3 c3 r.st.Log :: osl r_T_raft_Msg 39 a4 c4 r.out :: blk p1 (cl [I r.id, I r.n, pt p2 0, I r.st.Term, I r.st.Vote, I r.st.Base, I r.st.BaseTerm, S r.st.Snap, .slice a3 r.st.Log.length c3, I r.role, I r.leader, I r.commit, I r.applied, I r.timer, .bool (r.votes 0), .bool (r.votes 1), .bool (r.votes 2), .bool (r.votes 3), .bool (r.votes 4), I (r.next 0), I (r.next 1), I (r.next 2), I (r.next 3), I (r.next 4), I (r.match_ 0), I (r.match_ 1), I (r.match_ 2), I (r.match_ 3), I (r.match_ 4), .slice a4 r.out.length c4, I r.broken] 66) :: blk p2 (cl [I x2, I x3, .bool x4, I x5, .map (some p3)] 79) :: mpr S (rPt r_T_platter_file) p3 x6 :: F) → R (.returned (.tuple #[])) w') :
    Calls Tryz.prog 50 #[pt p1 0] w R := by
  unfold raft_Node_settle at hr
  refine enter Tryz.func50 rfl [(0, pt p1 0)] rfl rfl fun b => ?_
  refine wp_seq ?_
  refine wp_reg ?_
  refine L_pure 1 [(0, pt p1 0), (7, pt p1 0)] (by kernel_rfl) fun b => ?_
  obtain ⟨y6, hy6, hr⟩ := bnd hr
  refine L_op rfl (O_call (vs := #[pt p1 0]) Tryz.call8 (by kernel_rfl) (raft_Node_Last_ok k x1 x2 x3 x4 x5 x6 p1 p2 p3 a1 c1 a2 c2 y6 (((((hst.pull 4).pull 4).pull 4).pull 4).pull 4) hy6 fun w hst => ?_))
  refine CK_ret rfl ?_
  refine L_pure 1 [(0, pt p1 0), (2, I y6)] (by kernel_rfl) fun b => ?_
  refine wpL_nil ?_
  refine th_n ?_
  obtain ⟨y7, hy7, hk4⟩ := bnd hr
  clear hr
  refine Go.Hx.wp_cut (fun a w => ∃ (z2 : Unit) (b : Nat → Value), y7 = .go z2 ∧ a = mkF 61 b [] ∧ St G w (blk p1 (cl [I x1.id, I x1.n, pt p2 0, I x1.st.Term, I x1.st.Vote, I x1.st.Base, I x1.st.BaseTerm, S x1.st.Snap, .slice a1 x1.st.Log.length c1, I x1.role, I x1.leader, I x1.commit, I x1.applied, I x1.timer, .bool (x1.votes 0), .bool (x1.votes 1), .bool (x1.votes 2), .bool (x1.votes 3), .bool (x1.votes 4), I (x1.next 0), I (x1.next 1), I (x1.next 2), I (x1.next 3), I (x1.next 4), I (x1.match_ 0), I (x1.match_ 1), I (x1.match_ 2), I (x1.match_ 3), I (x1.match_ 4), .slice a2 x1.out.length c2, I x1.broken] 66) :: blk p2 (cl [I x2, I x3, .bool x4, I x5, .map (some p3)] 79) :: mpr S (rPt r_T_platter_file) p3 x6 :: osl r_T_term_Entry 48 a1 c1 x1.st.Log :: osl r_T_raft_Msg 39 a2 c2 x1.out :: F)) ?_ ?_
  · rintro _ w ⟨z2, b, rfl, rfl, hst⟩
    have hr := hk4
    refine bp_normal ?_
    refine ret0 rfl ?_
    obtain rfl := Option.some.inj hr
    have hst := (((((hst.pull 2).pull 2).pull 2).pull 4).pull 4)
    exact hR a1 c1 a2 c2 _ hst
  · have hst := (((((hst.pull 4).pull 4).pull 4).pull 4).pull 4)
    refine wp_block ?_
    refine wp_loop_fuel (fun j a w => ∃ (v8 : Int) (b : Nat → Value), a = mkF 61 b [(0, pt p1 0), (2, I v8)] ∧ St G w (blk p1 (cl [I x1.id, I x1.n, pt p2 0, I x1.st.Term, I x1.st.Vote, I x1.st.Base, I x1.st.BaseTerm, S x1.st.Snap, .slice a1 x1.st.Log.length c1, I x1.role, I x1.leader, I x1.commit, I x1.applied, I x1.timer, .bool (x1.votes 0), .bool (x1.votes 1), .bool (x1.votes 2), .bool (x1.votes 3), .bool (x1.votes 4), I (x1.next 0), I (x1.next 1), I (x1.next 2), I (x1.next 3), I (x1.next 4), I (x1.match_ 0), I (x1.match_ 1), I (x1.match_ 2), I (x1.match_ 3), I (x1.match_ 4), .slice a2 x1.out.length c2, I x1.broken] 66) :: blk p2 (cl [I x2, I x3, .bool x4, I x5, .map (some p3)] 79) :: mpr S (rPt r_T_platter_file) p3 x6 :: osl r_T_term_Entry 48 a1 c1 x1.st.Log :: osl r_T_raft_Msg 39 a2 c2 x1.out :: F) ∧ raft_Node_settle_l1 k x1 x2 x3 x4 x5 x6 j v8 = some y7) (k := k) ⟨y6, (kpX [(0, pt p1 0), (2, I y6)] rfl ⟨hst, hy7⟩)⟩ ?_ ?_
    · rintro _ _ ⟨_, _, _, _, h⟩
      rw [raft_Node_settle_l1] at h
      cases h
    · rintro j _ w ⟨v8, b, rfl, hst, hr⟩
      rw [raft_Node_settle_l1] at hr
      refine wp_seq ?_
      refine wp_seq ?_
      refine wp_reg ?_
      refine L_pure 4 [(0, pt p1 0), (2, I v8), (9, I v8), (12, pt p1 11)] (by kernel_rfl) fun b => ?_
      refine L_op rfl (O_run (v := I x1.commit) (w' := w) (R_load hst rfl rfl) rfl rfl ?_)
      refine L_pure 1 [(0, pt p1 0), (2, I v8), (14, .bool (decide (v8 > x1.commit)))] (by kernel_rfl) fun b => ?_
      refine wpL_nil ?_
      refine th_n ?_
      refine wp_cond_mkF (t := decide (v8 > x1.commit)) rfl (fun h => ?_) (fun h => ?_)
      · have hr := (if_pos h).symm.trans hr
        refine wp_skip ?_
        refine th_n ?_
        refine wp_seq ?_
        refine wp_block ?_
        refine wp_seq ?_
        refine wp_reg ?_
        refine L_pure 4 [(0, pt p1 0), (2, I v8), (20, pt p1 3), (21, I v8)] (by kernel_rfl) fun b => ?_
        obtain ⟨y8, hy8, hr⟩ := bnd hr
        refine L_op rfl (O_call (vs := #[pt p1 3, I v8]) Tryz.call46 (by kernel_rfl) (term_State_TermAt_ok k x1 x2 x3 x4 x5 x6 v8 p1 p2 p3 a1 c1 a2 c2 y8 (((((hst.pull 4).pull 4).pull 4).pull 4).pull 4) hy8 fun w hst => ?_))
        refine CK_ret rfl ?_
        refine L_pure 5 [(0, pt p1 0), (2, I v8), (3, I y8.1)] (by kernel_rfl) fun b => ?_
        refine wpL_nil ?_
        refine th_n ?_
        refine wp_seq ?_
        refine wp_seq ?_
        refine wp_reg ?_
        refine L_pure 5 [(0, pt p1 0), (2, I v8), (25, I y8.1), (29, pt p1 3)] (by kernel_rfl) fun b => ?_
        refine L_op rfl (O_run (v := I x1.st.Term) (w' := w) (R_load hst rfl rfl) rfl rfl ?_)
        refine L_pure 1 [(0, pt p1 0), (2, I v8), (31, .bool (y8.1 != x1.st.Term))] (by kernel_rfl) fun b => ?_
        refine wpL_nil ?_
        refine th_n ?_
        refine wp_cond_mkF (t := (y8.1 != x1.st.Term)) rfl (fun h => ?_) (fun h => ?_)
        · have hr := (if_pos h).symm.trans hr
          refine wp_ret ?_
          refine th_r (ib_r (th_r (th_r (ib_r (th_r ?_)))))
          refine ret0 rfl ?_
          obtain rfl := Option.some.inj hr
          obtain rfl := Option.some.inj hk4
          have hst := (((((hst.pull 2).pull 2).pull 2).pull 4).pull 4)
          exact hR a1 c1 a2 c2 _ hst
        · have hr := (if_neg (by rw [h]; exact Bool.false_ne_true)).symm.trans hr
          refine wp_skip ?_
          refine th_n ?_
          refine wp_seq ?_
          refine wp_reg ?_
          refine L_pure 1 [(0, pt p1 0), (2, I v8), (5, I 0)] (by kernel_rfl) fun b => ?_
          refine wpL_nil ?_
          refine th_n ?_
          refine wp_seq ?_
          refine wp_seq ?_
          refine wp_reg ?_
          refine L_pure 3 [(0, pt p1 0), (2, I v8), (5, I 0), (34, pt p1 1)] (by kernel_rfl) fun b => ?_
          refine L_op rfl (O_run (v := I x1.n) (w' := w) (R_load hst rfl rfl) rfl rfl ?_)
          refine L_pure 1 [(0, pt p1 0), (2, I v8), (5, I 0), (35, I x1.n), (36, I 0)] (by kernel_rfl) fun b => ?_
          refine wpL_nil ?_
          refine th_n ?_
          obtain ⟨y9, hy9, hk5⟩ := bnd hr
          clear hr
          refine Go.Hx.wp_cut (fun a w => ∃ (b : Nat → Value), a = mkF 61 b [(0, pt p1 0), (2, I v8), (5, I y9)] ∧ St G w (blk p1 (cl [I x1.id, I x1.n, pt p2 0, I x1.st.Term, I x1.st.Vote, I x1.st.Base, I x1.st.BaseTerm, S x1.st.Snap, .slice a1 x1.st.Log.length c1, I x1.role, I x1.leader, I x1.commit, I x1.applied, I x1.timer, .bool (x1.votes 0), .bool (x1.votes 1), .bool (x1.votes 2), .bool (x1.votes 3), .bool (x1.votes 4), I (x1.next 0), I (x1.next 1), I (x1.next 2), I (x1.next 3), I (x1.next 4), I (x1.match_ 0), I (x1.match_ 1), I (x1.match_ 2), I (x1.match_ 3), I (x1.match_ 4), .slice a2 x1.out.length c2, I x1.broken] 66) :: blk p2 (cl [I x2, I x3, .bool x4, I x5, .map (some p3)] 79) :: mpr S (rPt r_T_platter_file) p3 x6 :: osl r_T_term_Entry 48 a1 c1 x1.st.Log :: osl r_T_raft_Msg 39 a2 c2 x1.out :: F)) ?_ ?_
          · rintro _ w ⟨b, rfl, hst⟩
            have hr := hk5
            refine th_n ?_
            refine wp_seq ?_
            refine wp_reg ?_
            refine L_pure 5 [(0, pt p1 0), (2, I v8), (51, I (IntKind.i64.wrap (2 * y9))), (54, pt p1 1)] (by kernel_rfl) fun b => ?_
            refine L_op rfl (O_run (v := I x1.n) (w' := w) (R_load hst rfl rfl) rfl rfl ?_)
            refine L_pure 1 [(0, pt p1 0), (2, I v8), (56, .bool (decide ((IntKind.i64.wrap (2 * y9)) > x1.n)))] (by kernel_rfl) fun b => ?_
            refine wpL_nil ?_
            refine th_n ?_
            refine wp_cond_mkF (t := decide ((IntKind.i64.wrap (2 * y9)) > x1.n)) rfl (fun h => ?_) (fun h => ?_)
            · have hr := (if_pos h).symm.trans hr
              refine wp_seq ?_
              refine wp_reg ?_
              refine L_pure 4 [(58, I v8), (60, pt p1 11)] (by kernel_rfl) fun b => ?_
              refine L_op rfl (O_store [I x1.id, I x1.n, pt p2 0, I x1.st.Term, I x1.st.Vote, I x1.st.Base, I x1.st.BaseTerm, S x1.st.Snap, .slice a1 x1.st.Log.length c1, I x1.role, I x1.leader, I v8, I x1.applied, I x1.timer, .bool (x1.votes 0), .bool (x1.votes 1), .bool (x1.votes 2), .bool (x1.votes 3), .bool (x1.votes 4), I (x1.next 0), I (x1.next 1), I (x1.next 2), I (x1.next 3), I (x1.next 4), I (x1.match_ 0), I (x1.match_ 1), I (x1.match_ 2), I (x1.match_ 3), I (x1.match_ 4), .slice a2 x1.out.length c2, I x1.broken] hst rfl rfl (by kernel_rfl) fun w hst => ?_)
              refine wpL_nil ?_
              refine th_n ?_
              refine wp_ret ?_
              refine ib_r (th_r (th_r (ib_r (th_r ?_))))
              refine ret0 rfl ?_
              obtain rfl := Option.some.inj hr
              obtain rfl := Option.some.inj hk4
              have hst := (((((hst.pull 2).pull 2).pull 2).pull 4).pull 4)
              exact hR a1 c1 a2 c2 _ hst
            · have hr := (if_neg (by rw [h]; exact Bool.false_ne_true)).symm.trans hr
              refine wp_skip ?_
              refine ib_n (th_n ?_)
              refine wp_reg ?_
              refine L_pure 3 [(0, pt p1 0), (2, I (IntKind.i64.wrap (v8 - 1)))] (by kernel_rfl) fun b => ?_
              refine wpL_nil ?_
              refine th_n ?_
              have hst := (((((hst.pull 4).pull 4).pull 4).pull 4).pull 4)
              exact ⟨(IntKind.i64.wrap (v8 - 1)), (kpX [(0, pt p1 0), (2, I (IntKind.i64.wrap (v8 - 1)))] rfl ⟨hst, hr⟩)⟩
          · have hst := (((((hst.pull 4).pull 4).pull 4).pull 4).pull 4)
            refine wp_block ?_
            refine wp_loop_fuel (fun j a w => ∃ (v11 : Int) (v12 : Int) (b : Nat → Value), a = mkF 61 b [(0, pt p1 0), (2, I v8), (5, I v11), (35, I x1.n), (36, I v12)] ∧ St G w (blk p1 (cl [I x1.id, I x1.n, pt p2 0, I x1.st.Term, I x1.st.Vote, I x1.st.Base, I x1.st.BaseTerm, S x1.st.Snap, .slice a1 x1.st.Log.length c1, I x1.role, I x1.leader, I x1.commit, I x1.applied, I x1.timer, .bool (x1.votes 0), .bool (x1.votes 1), .bool (x1.votes 2), .bool (x1.votes 3), .bool (x1.votes 4), I (x1.next 0), I (x1.next 1), I (x1.next 2), I (x1.next 3), I (x1.next 4), I (x1.match_ 0), I (x1.match_ 1), I (x1.match_ 2), I (x1.match_ 3), I (x1.match_ 4), .slice a2 x1.out.length c2, I x1.broken] 66) :: blk p2 (cl [I x2, I x3, .bool x4, I x5, .map (some p3)] 79) :: mpr S (rPt r_T_platter_file) p3 x6 :: osl r_T_term_Entry 48 a1 c1 x1.st.Log :: osl r_T_raft_Msg 39 a2 c2 x1.out :: F) ∧ raft_Node_settle_l2 k v8 x1 j v11 v12 = some y9) (k := k) ⟨(0 : Int), (0 : Int), (kpX [(0, pt p1 0), (2, I v8), (5, I 0), (35, I x1.n), (36, I 0)] rfl ⟨hst, hy9⟩)⟩ ?_ ?_
            · rintro _ _ ⟨_, _, _, _, _, h⟩
              rw [raft_Node_settle_l2] at h
              cases h
            · rintro j _ w ⟨v11, v12, b, rfl, hst, hr⟩
              rw [raft_Node_settle_l2] at hr
              refine wp_seq ?_
              refine wp_reg ?_
              refine L_pure 1 [(0, pt p1 0), (2, I v8), (5, I v11), (35, I x1.n), (36, I v12), (37, .bool (decide (v12 < x1.n)))] (by kernel_rfl) fun b => ?_
              refine wpL_nil ?_
              refine th_n ?_
              refine wp_seq ?_
              refine wp_cond_mkF (t := decide (v12 < x1.n)) rfl (fun h => ?_) (fun h => ?_)
              · have hr := (if_pos h).symm.trans hr
                refine wp_skip ?_
                refine th_n ?_
                obtain ⟨y10, hy10, hk6⟩ := bnd hr
                clear hr
                refine wp_seq_cut (fun a w => ∃ (b : Nat → Value), a = mkF 61 b [(0, pt p1 0), (2, I v8), (5, I y10), (35, I x1.n), (36, I v12)] ∧ St G w (blk p1 (cl [I x1.id, I x1.n, pt p2 0, I x1.st.Term, I x1.st.Vote, I x1.st.Base, I x1.st.BaseTerm, S x1.st.Snap, .slice a1 x1.st.Log.length c1, I x1.role, I x1.leader, I x1.commit, I x1.applied, I x1.timer, .bool (x1.votes 0), .bool (x1.votes 1), .bool (x1.votes 2), .bool (x1.votes 3), .bool (x1.votes 4), I (x1.next 0), I (x1.next 1), I (x1.next 2), I (x1.next 3), I (x1.next 4), I (x1.match_ 0), I (x1.match_ 1), I (x1.match_ 2), I (x1.match_ 3), I (x1.match_ 4), .slice a2 x1.out.length c2, I x1.broken] 66) :: blk p2 (cl [I x2, I x3, .bool x4, I x5, .map (some p3)] 79) :: mpr S (rPt r_T_platter_file) p3 x6 :: osl r_T_term_Entry 48 a1 c1 x1.st.Log :: osl r_T_raft_Msg 39 a2 c2 x1.out :: F)) ?_ ?_
                · rintro _ w ⟨b, rfl, hst⟩
                  have hr := hk6
                  refine wp_reg ?_
                  refine L_pure 2 [(0, pt p1 0), (2, I v8), (5, I y10), (35, I x1.n), (36, I (IntKind.i64.wrap (v12 + 1)))] (by kernel_rfl) fun b => ?_
                  refine wpL_nil ?_
                  refine th_n ?_
                  have hst := (((((hst.pull 4).pull 4).pull 4).pull 4).pull 4)
                  exact ⟨y10, (IntKind.i64.wrap (v12 + 1)), (kpX [(0, pt p1 0), (2, I v8), (5, I y10), (35, I x1.n), (36, I (IntKind.i64.wrap (v12 + 1)))] rfl ⟨hst, hr⟩)⟩
                · have hr := hy10
                  refine wp_block ?_
                  refine wp_seq ?_
                  refine wp_reg ?_
                  refine L_pure 2 [(0, pt p1 0), (2, I v8), (5, I v11), (6, I v12), (35, I x1.n), (36, I v12)] (by kernel_rfl) fun b => ?_
                  refine wpL_nil ?_
                  refine th_n ?_
                  refine wp_seq ?_
                  refine wp_reg ?_
                  refine L_pure 4 [(0, pt p1 0), (2, I v8), (5, I v11), (35, I x1.n), (36, I v12), (40, I v12), (42, pt p1 24)] (by kernel_rfl) fun b => ?_
                  obtain ⟨hb2, hr⟩ := chk hr
                  refine L_op rfl (O_run (v := pt p1 (24 + v12.toNat)) (w' := w) (R_iaA A64 rfl rfl hb2) rfl rfl ?_)
                  refine L_op rfl (O_run (v := I (x1.match_ v12.toNat)) (w' := w) (R_load hst rfl (by rcases in5 (show 0 ≤ v12 ∧ v12 < 5 by omega) with h | h | h | h | h <;> rw [h] <;> rfl)) rfl rfl ?_)
                  refine L_pure 2 [(0, pt p1 0), (2, I v8), (5, I v11), (35, I x1.n), (36, I v12), (46, .bool (decide ((x1.match_ v12.toNat) ≥ v8)))] (by kernel_rfl) fun b => ?_
                  refine wpL_nil ?_
                  refine th_n ?_
                  refine wp_cond_mkF (t := decide ((x1.match_ v12.toNat) ≥ v8)) rfl (fun h => ?_) (fun h => ?_)
                  · have hr := (if_pos h).symm.trans hr
                    refine wp_reg ?_
                    refine L_pure 3 [(0, pt p1 0), (2, I v8), (5, I (IntKind.i64.wrap (v11 + 1))), (35, I x1.n), (36, I v12)] (by kernel_rfl) fun b => ?_
                    refine wpL_nil ?_
                    refine ib_n (th_n ?_)
                    obtain rfl := Option.some.inj hr
                    have hst := (((((hst.pull 4).pull 4).pull 4).pull 4).pull 4)
                    exact (kpX [(0, pt p1 0), (2, I v8), (5, I (IntKind.i64.wrap (v11 + 1))), (35, I x1.n), (36, I v12)] rfl hst)
                  · have hr := (if_neg (by rw [h]; exact Bool.false_ne_true)).symm.trans hr
                    refine wp_skip ?_
                    refine ib_n (th_n ?_)
                    obtain rfl := Option.some.inj hr
                    have hst := (((((hst.pull 4).pull 4).pull 4).pull 4).pull 4)
                    exact (kpX [(0, pt p1 0), (2, I v8), (5, I v11), (35, I x1.n), (36, I v12)] rfl hst)
              · have hr := (if_neg (by rw [h]; exact Bool.false_ne_true)).symm.trans hr
                refine wp_exit ?_
                refine th_x (th_x (ib_x (th_n ?_)))
                obtain rfl := Option.some.inj hr
                have hst := (((((hst.pull 4).pull 4).pull 4).pull 4).pull 4)
                exact (kpX [(0, pt p1 0), (2, I v8), (5, I v11)] rfl hst)
      · have hr := (if_neg (by rw [h]; exact Bool.false_ne_true)).symm.trans hr
        refine wp_exit ?_
        refine th_x (th_x (ib_x (th_n ?_)))
        obtain rfl := Option.some.inj hr
        have hst := (((((hst.pull 4).pull 4).pull 4).pull 4).pull 4)
        exact ⟨(), (kpXf [] rfl hst)⟩
def raft_Node_add (k : Nat) (x1 : T_raft_Node) (x2 : Int) (x3 : Int) (x4 : Bool) (x5 : Int) (x6 : (List ((List UInt8) × (Option T_platter_file)))) (x7 : (List UInt8)) : Option (Int × Bool × T_raft_Node × Int × Int × (List ((List UInt8) × (Option T_platter_file)))) := (Option.bind (raft_Node_Last k x1 x2 x3 x4 x5 x6) fun y8 => (Option.bind (term_Append k x2 x3 x4 x5 x6 ([(T_term_Entry.mk (IntKind.i64.wrap (y8 + 1)) x1.st.Term x7)])) fun y11 => (Option.bind (raft_Node_check k x1 x2 y11.2.1 x4 y11.2.2.1 y11.2.2.2 y11.1) fun y12 => (if (!y12.1) = true then some ((0 : Int), false, y12.2, y11.2.1, y11.2.2.1, y11.2.2.2) else (if room (y12.2.st.Log.length + ([(T_term_Entry.mk (IntKind.i64.wrap (y8 + 1)) x1.st.Term x7)]).length) 32 = true then (if 0 ≤ y12.2.id ∧ y12.2.id < 5 then (Option.bind (raft_Node_spread k (T_raft_Node.mk y12.2.id y12.2.n (T_term_State.mk y12.2.st.Term y12.2.st.Vote y12.2.st.Base y12.2.st.BaseTerm y12.2.st.Snap (y12.2.st.Log ++ ([(T_term_Entry.mk (IntKind.i64.wrap (y8 + 1)) x1.st.Term x7)]))) y12.2.role y12.2.leader y12.2.commit y12.2.applied y12.2.timer y12.2.votes y12.2.next (upd y12.2.match_ y12.2.id.toNat (IntKind.i64.wrap (y8 + 1))) y12.2.out y12.2.broken) x2 y11.2.1 x4 y11.2.2.1 y11.2.2.2) fun y13 => (Option.bind (raft_Node_settle k y13 x2 y11.2.1 x4 y11.2.2.1 y11.2.2.2) fun y14 => some ((IntKind.i64.wrap (y8 + 1)), true, y14, y11.2.1, y11.2.2.1, y11.2.2.2))) else none) else none)))))
set_option maxRecDepth 100000 in
set_option maxHeartbeats 4000000 in
theorem raft_Node_add_ok {G w : World} {F : List HP} {R : Ending → World → Prop} (k : Nat) (x1 : T_raft_Node) (x2 : Int) (x3 : Int) (x4 : Bool) (x5 : Int) (x6 : (List ((List UInt8) × (Option T_platter_file)))) (x7 : (List UInt8)) (p1 : Nat) (p2 : Nat) (p3 : Nat) (a1 : Option Addr) (c1 : Nat) (a2 : Option Addr) (c2 : Nat) (r : (Int × Bool × T_raft_Node × Int × Int × (List ((List UInt8) × (Option T_platter_file))))) (hst : St G w (blk p1 (cl [I x1.id, I x1.n, pt p2 0, I x1.st.Term, I x1.st.Vote, I x1.st.Base, I x1.st.BaseTerm, S x1.st.Snap, .slice a1 x1.st.Log.length c1, I x1.role, I x1.leader, I x1.commit, I x1.applied, I x1.timer, .bool (x1.votes 0), .bool (x1.votes 1), .bool (x1.votes 2), .bool (x1.votes 3), .bool (x1.votes 4), I (x1.next 0), I (x1.next 1), I (x1.next 2), I (x1.next 3), I (x1.next 4), I (x1.match_ 0), I (x1.match_ 1), I (x1.match_ 2), I (x1.match_ 3), I (x1.match_ 4), .slice a2 x1.out.length c2, I x1.broken] 66) :: blk p2 (cl [I x2, I x3, .bool x4, I x5, .map (some p3)] 79) :: mpr S (rPt r_T_platter_file) p3 x6 :: osl r_T_term_Entry 48 a1 c1 x1.st.Log :: osl r_T_raft_Msg 39 a2 c2 x1.out :: F)) (hr : raft_Node_add k x1 x2 x3 x4 x5 x6 x7 = some r)
    (hR : ∀ (a12 : Option Addr) (c12 : Nat) (a13 : Option Addr) (c13 : Nat) w', St G w' (osl r_T_term_Entry 48 a12 c12 r.2.2.1.st.Log :: osl r_T_raft_Msg 39 a13 c13 r.2.2.1.out :: blk p1 (cl [I r.2.2.1.id, I r.2.2.1.n, pt p2 0, I r.2.2.1.st.Term, I r.2.2.1.st.Vote, I r.2.2.1.st.Base, I r.2.2.1.st.BaseTerm, S r.2.2.1.st.Snap, .slice a12 r.2.2.1.st.Log.length c12, I r.2.2.1.role, I r.2.2.1.leader, I r.2.2.1.commit, I r.2.2.1.applied, I r.2.2.1.timer, .bool (r.2.2.1.votes 0), .bool (r.2.2.1.votes 1), .bool (r.2.2.1.votes 2), .bool (r.2.2.1.votes 3), .bool (r.2.2.1.votes 4), I (r.2.2.1.next 0), I (r.2.2.1.next 1), I (r.2.2.1.next 2), I (r.2.2.1.next 3), I (r.2.2.1.next 4), I (r.2.2.1.match_ 0), I (r.2.2.1.match_ 1), I (r.2.2.1.match_ 2), I (r.2.2.1.match_ 3), I (r.2.2.1.match_ 4), .slice a13 r.2.2.1.out.length c13, I r.2.2.1.broken] 66) :: blk p2 (cl [I x2, I r.2.2.2.1, .bool x4, I r.2.2.2.2.1, .map (some p3)] 79) :: mpr S (rPt r_T_platter_file) p3 r.2.2.2.2.2 :: F) → R (.returned (.tuple #[I r.1, .bool r.2.1])) w') :
    Calls Tryz.prog 37 #[pt p1 0, S x7] w R := by
  unfold raft_Node_add at hr
  refine enter Tryz.func37 rfl [(0, pt p1 0), (1, S x7)] rfl rfl fun b => ?_
  refine wp_seq ?_
  refine wp_reg ?_
  refine L_pure 2 [(0, pt p1 0), (1, S x7)] (by kernel_rfl) fun b => ?_
  refine wpL_nil ?_
  refine th_n ?_
  refine wp_seq ?_
  refine wp_regG (SP 11 (fun w => St G w (blk p1 (cl [I x1.id, I x1.n, pt p2 0, I x1.st.Term, I x1.st.Vote, I x1.st.Base, I x1.st.BaseTerm, S x1.st.Snap, .slice a1 x1.st.Log.length c1, I x1.role, I x1.leader, I x1.commit, I x1.applied, I x1.timer, .bool (x1.votes 0), .bool (x1.votes 1), .bool (x1.votes 2), .bool (x1.votes 3), .bool (x1.votes 4), I (x1.next 0), I (x1.next 1), I (x1.next 2), I (x1.next 3), I (x1.next 4), I (x1.match_ 0), I (x1.match_ 1), I (x1.match_ 2), I (x1.match_ 3), I (x1.match_ 4), .slice a2 x1.out.length c2, I x1.broken] 66) :: blk p2 (cl [I x2, I x3, .bool x4, I x5, .map (some p3)] 79) :: mpr S (rPt r_T_platter_file) p3 x6 :: osl r_T_term_Entry 48 a1 c1 x1.st.Log :: osl r_T_raft_Msg 39 a2 c2 x1.out :: F))) rfl ?_
  have hst := hst.draw (n := w.drawn + 1)
  generalize { w with drawn := w.drawn + 1 } = w at hst ⊢
  refine P_pure (i := 0) (v := pt p1 0) 11 rfl rfl (by kernel_rfl) (fun _ _ _ h => h) rfl rfl rfl (by kernel_rfl) (.inr (((((hst.pull 4).pull 4).pull 4).pull 4).pull 4)) ?_
  refine P_pure (i := 3) (v := pt p1 0) 11 rfl rfl (by kernel_rfl) (fun _ _ _ h => h) rfl rfl rfl (by kernel_rfl) (.inr (((((hst.pull 4).pull 4).pull 4).pull 4).pull 4)) ?_
  refine P_pure (i := 4) (v := pt p1 0) 11 rfl rfl (by kernel_rfl) (fun _ _ _ h => h) rfl rfl rfl (by kernel_rfl) (.inr (((((hst.pull 4).pull 4).pull 4).pull 4).pull 4)) ?_
  refine P_pure (i := 5) (v := pt p1 3) 11 rfl rfl (by kernel_rfl) (fun _ _ _ h => h) rfl rfl rfl (by kernel_rfl) (.inr (((((hst.pull 4).pull 4).pull 4).pull 4).pull 4)) ?_
  refine P_pure (i := 6) (v := pt p1 3) 11 rfl rfl (by kernel_rfl) (fun _ _ _ h => h) rfl rfl rfl (by kernel_rfl) (.inr (((((hst.pull 4).pull 4).pull 4).pull 4).pull 4)) ?_
  refine P_take (i := 7) (v := I x1.st.Term) 11 [7] (by kernel_rfl) rfl (by kernel_rfl) (fun _ _ _ h => h) rfl rfl rfl (fun w hst => R_load hst rfl rfl) ((((((hst.pull 4).pull 4).pull 4).pull 4).pull 4)) ?_
  refine P_pure (i := 8) (v := S x7) 11 rfl rfl (by kernel_rfl) (fun _ _ _ h => h) rfl rfl rfl (by kernel_rfl) (.inr (((((hst.pull 4).pull 4).pull 4).pull 4).pull 4)) ?_
  refine P_two (i := 1) (j := 10) 11 (by kernel_rfl) rfl rfl rfl rfl ?_ ?_
  · obtain ⟨y8, hy8, hr⟩ := bnd hr
    refine O_call (vs := #[pt p1 0]) Tryz.call8 (by kernel_rfl) (raft_Node_Last_ok k x1 x2 x3 x4 x5 x6 p1 p2 p3 a1 c1 a2 c2 y8 (((((hst.pull 4).pull 4).pull 4).pull 4).pull 4) hy8 fun w hst => ?_)
    refine CK_ret rfl ?_
    refine ⟨(((((hst.pull 4).pull 4).pull 4).pull 4).pull 4), ?_⟩
    refine P_pure (i := 2) (v := I (IntKind.i64.wrap (y8 + 1))) 11 rfl rfl (by kernel_rfl) (fun _ _ _ h => h) rfl rfl rfl (by kernel_rfl) (.inr (((((hst.pull 4).pull 4).pull 4).pull 4).pull 4)) ?_
    refine P_pure (i := 9) (v := .agg #[I (IntKind.i64.wrap (y8 + 1)), I x1.st.Term, S x7]) 11 rfl rfl (by kernel_rfl) (fun _ _ _ h => h) rfl rfl rfl (by kernel_rfl) (.inr (((((hst.pull 4).pull 4).pull 4).pull 4).pull 4)) ?_
    refine P_one (i := 10) 11 (by kernel_rfl) rfl rfl (O_alloc (i := Tryz.t48) (z := .agg #[I 0, I 0, S ([])]) [I 0, I 0, S ([])] hst rfl rfl rfl rfl fun p8 w hst => ?_)
    refine ⟨((((((hst.pull 5).pull 5).pull 5).pull 5).pull 5).cut 5 1), ?_⟩
    refine P_act (i := 11) 11 (by kernel_rfl) rfl rfl (by kernel_rfl) (O_store [I (IntKind.i64.wrap (y8 + 1)), I x1.st.Term, S x7] hst rfl rfl (by kernel_rfl) fun w hst => ?_)
    refine wpG_done (by kernel_rfl) ?_ _
    refine C_keepQ [(0, pt p1 0), (6, pt p8 0)] rfl fun b => ?_
    refine th_n ?_
    refine wp_seq ?_
    refine wp_seq ?_
    refine wp_regG (SP 7 (fun w => St G w (blk p8 (cl [I (IntKind.i64.wrap (y8 + 1)), I x1.st.Term, S x7] 48) :: blk p1 (cl [I x1.id, I x1.n, pt p2 0, I x1.st.Term, I x1.st.Vote, I x1.st.Base, I x1.st.BaseTerm, S x1.st.Snap, .slice a1 x1.st.Log.length c1, I x1.role, I x1.leader, I x1.commit, I x1.applied, I x1.timer, .bool (x1.votes 0), .bool (x1.votes 1), .bool (x1.votes 2), .bool (x1.votes 3), .bool (x1.votes 4), I (x1.next 0), I (x1.next 1), I (x1.next 2), I (x1.next 3), I (x1.next 4), I (x1.match_ 0), I (x1.match_ 1), I (x1.match_ 2), I (x1.match_ 3), I (x1.match_ 4), .slice a2 x1.out.length c2, I x1.broken] 66) :: blk p2 (cl [I x2, I x3, .bool x4, I x5, .map (some p3)] 79) :: mpr S (rPt r_T_platter_file) p3 x6 :: osl r_T_term_Entry 48 a1 c1 x1.st.Log :: osl r_T_raft_Msg 39 a2 c2 x1.out :: F))) rfl ?_
    have hst := hst.draw (n := w.drawn + 1)
    generalize { w with drawn := w.drawn + 1 } = w at hst ⊢
    refine P_pure (i := 0) (v := pt p1 0) 7 rfl rfl (by kernel_rfl) (fun _ _ _ h => h) rfl rfl rfl (by kernel_rfl) (.inr ((((((hst.pull 5).pull 5).pull 5).pull 5).pull 5).pull 5)) ?_
    refine P_pure (i := 1) (v := pt p1 0) 7 rfl rfl (by kernel_rfl) (fun _ _ _ h => h) rfl rfl rfl (by kernel_rfl) (.inr ((((((hst.pull 5).pull 5).pull 5).pull 5).pull 5).pull 5)) ?_
    refine P_pure (i := 2) (v := pt p1 0) 7 rfl rfl (by kernel_rfl) (fun _ _ _ h => h) rfl rfl rfl (by kernel_rfl) (.inr ((((((hst.pull 5).pull 5).pull 5).pull 5).pull 5).pull 5)) ?_
    refine P_pure (i := 3) (v := pt p1 2) 7 rfl rfl (by kernel_rfl) (fun _ _ _ h => h) rfl rfl rfl (by kernel_rfl) (.inr ((((((hst.pull 5).pull 5).pull 5).pull 5).pull 5).pull 5)) ?_
    refine P_take (i := 4) (v := pt p2 0) 7 [4] (by kernel_rfl) rfl (by kernel_rfl) (fun _ _ _ h => h) rfl rfl rfl (fun w hst => R_load (hst.pull 1) rfl rfl) (((((((hst.pull 5).pull 5).pull 5).pull 5).pull 5).pull 5)) ?_
    refine P_take (i := 5) (v := .agg #[I (IntKind.i64.wrap (y8 + 1)), I x1.st.Term, S x7]) 7 [6, 5] (by kernel_rfl) rfl (by kernel_rfl) (fun _ _ _ h => h) rfl rfl rfl (fun w hst => R_load hst rfl rfl) (((((((hst.pull 5).pull 5).pull 5).pull 5).pull 5).pull 5)) ?_
    refine P_one (i := 6) 7 (by kernel_rfl) rfl rfl (O_bs (T := 48) [I (IntKind.i64.wrap (y8 + 1)), I x1.st.Term, S x7] #[(0, .agg #[I (IntKind.i64.wrap (y8 + 1)), I x1.st.Term, S x7])] hst (by kernel_rfl) (by kernel_rfl) rfl fun p10 w hst => ?_)
    have hst := osl_of_blk0 (ecs := [[I (IntKind.i64.wrap (y8 + 1)), I x1.st.Term, S x7]]) r_T_term_Entry [(T_term_Entry.mk (IntKind.i64.wrap (y8 + 1)) x1.st.Term x7)] rfl (fun m => ⟨⟨(), rfl, trivial⟩, trivial⟩) rfl hst
    refine ⟨(((((((hst.pull 6).pull 6).pull 6).pull 6).pull 6).pull 6).cut 6 1), ?_⟩
    obtain ⟨y11, hy11, hr⟩ := bnd hr
    have hst := osl_freeze hst
    refine P_act (i := 7) 7 (by kernel_rfl) rfl rfl (by kernel_rfl) (O_call (vs := #[pt p2 0, .slice (some ⟨p10, 0, none⟩) ([(T_term_Entry.mk (IntKind.i64.wrap (y8 + 1)) x1.st.Term x7)]).length 1]) Tryz.call58 (by kernel_rfl) (term_Append_ok k x2 x3 x4 x5 x6 ([(T_term_Entry.mk (IntKind.i64.wrap (y8 + 1)) x1.st.Term x7)]) p2 p3 (some ⟨p10, 0, none⟩) 1 y11 ((hst.pull 4).pull 4) hy11 fun w hst => ?_))
    refine CK_ret rfl ?_
    obtain ⟨y12, hy12, hr⟩ := bnd hr
    refine P_act (i := 8) 7 (by kernel_rfl) rfl rfl (by kernel_rfl) (O_call (vs := #[pt p1 0, I y11.1]) Tryz.call48 (by kernel_rfl) (raft_Node_check_ok k x1 x2 y11.2.1 x4 y11.2.2.1 y11.2.2.2 y11.1 p1 p2 p3 a1 c1 a2 c2 y12 (((((hst.pull 6).pull 6).pull 3).pull 3).pull 6) hy12 fun a16 c16 a17 c17 w hst => ?_))
    refine CK_ret rfl ?_
    refine P_pure (i := 9) (v := .bool (!y12.1)) 7 rfl rfl (by kernel_rfl) (fun _ _ _ h => h) rfl rfl rfl (by kernel_rfl) (.inl (by kernel_rfl)) ?_
    refine wpG_done (by kernel_rfl) ?_ _
    refine C_keepQ [(0, pt p1 0), (6, pt p8 0), (26, .bool (!y12.1))] rfl fun b => ?_
    refine th_n ?_
    refine wp_cond_mkF (t := (!y12.1)) rfl (fun h => ?_) (fun h => ?_)
    · have hr := (if_pos h).symm.trans hr
      refine wp_seq ?_
      refine wp_reg ?_
      refine L_pure 2 [(4, I 0), (5, .bool false)] (by kernel_rfl) fun b => ?_
      refine wpL_nil ?_
      refine th_n ?_
      refine wp_ret ?_
      refine th_r ?_
      refine ret2 rfl rfl rfl ?_
      obtain rfl := Option.some.inj hr
      have hst := ((((((hst.pull 4).pull 4).pull 4).pull 4).pull 4).cut 5 2)
      exact hR a16 c16 a17 c17 _ hst
    · have hr := (if_neg (by rw [h]; exact Bool.false_ne_true)).symm.trans hr
      refine wp_skip ?_
      refine th_n ?_
      refine wp_seq ?_
      refine wp_regG (SP 8 (fun w => St G w (osl r_T_term_Entry 48 a16 c16 y12.2.st.Log :: osl r_T_raft_Msg 39 a17 c17 y12.2.out :: blk p1 (cl [I y12.2.id, I y12.2.n, pt p2 0, I y12.2.st.Term, I y12.2.st.Vote, I y12.2.st.Base, I y12.2.st.BaseTerm, S y12.2.st.Snap, .slice a16 y12.2.st.Log.length c16, I y12.2.role, I y12.2.leader, I y12.2.commit, I y12.2.applied, I y12.2.timer, .bool (y12.2.votes 0), .bool (y12.2.votes 1), .bool (y12.2.votes 2), .bool (y12.2.votes 3), .bool (y12.2.votes 4), I (y12.2.next 0), I (y12.2.next 1), I (y12.2.next 2), I (y12.2.next 3), I (y12.2.next 4), I (y12.2.match_ 0), I (y12.2.match_ 1), I (y12.2.match_ 2), I (y12.2.match_ 3), I (y12.2.match_ 4), .slice a17 y12.2.out.length c17, I y12.2.broken] 66) :: blk p2 (cl [I x2, I y11.2.1, .bool x4, I y11.2.2.1, .map (some p3)] 79) :: mpr S (rPt r_T_platter_file) p3 y11.2.2.2 :: dsl r_T_term_Entry (some ⟨p10, 0, none⟩) 1 ([(T_term_Entry.mk (IntKind.i64.wrap (y8 + 1)) x1.st.Term x7)]) :: blk p8 (cl [I (IntKind.i64.wrap (y8 + 1)), I x1.st.Term, S x7] 48) :: F))) rfl ?_
      have hst := hst.draw (n := w.drawn + 1)
      generalize { w with drawn := w.drawn + 1 } = w at hst ⊢
      refine P_pure (i := 0) (v := pt p1 0) 8 rfl rfl (by kernel_rfl) (fun _ _ _ h => h) rfl rfl rfl (by kernel_rfl) (.inr (((((((hst.pull 6).pull 6).pull 6).pull 6).pull 6).pull 6).pull 6)) ?_
      refine P_pure (i := 1) (v := pt p1 0) 8 rfl rfl (by kernel_rfl) (fun _ _ _ h => h) rfl rfl rfl (by kernel_rfl) (.inr (((((((hst.pull 6).pull 6).pull 6).pull 6).pull 6).pull 6).pull 6)) ?_
      refine P_pure (i := 2) (v := pt p1 0) 8 rfl rfl (by kernel_rfl) (fun _ _ _ h => h) rfl rfl rfl (by kernel_rfl) (.inr (((((((hst.pull 6).pull 6).pull 6).pull 6).pull 6).pull 6).pull 6)) ?_
      refine P_pure (i := 3) (v := pt p1 3) 8 rfl rfl (by kernel_rfl) (fun _ _ _ h => h) rfl rfl rfl (by kernel_rfl) (.inr (((((((hst.pull 6).pull 6).pull 6).pull 6).pull 6).pull 6).pull 6)) ?_
      refine P_pure (i := 4) (v := pt p1 8) 8 rfl rfl (by kernel_rfl) (fun _ _ _ h => h) rfl rfl rfl (by kernel_rfl) (.inr (((((((hst.pull 6).pull 6).pull 6).pull 6).pull 6).pull 6).pull 6)) ?_
      refine P_take (i := 5) (v := .slice a16 y12.2.st.Log.length c16) 8 [5] (by kernel_rfl) rfl (by kernel_rfl) (fun _ _ _ h => h) rfl rfl rfl (fun w hst => R_load (hst.pull 2) rfl rfl) ((((((((hst.pull 6).pull 6).pull 6).pull 6).pull 6).pull 6).pull 6)) ?_
      refine P_take (i := 6) (v := .agg #[I (IntKind.i64.wrap (y8 + 1)), I x1.st.Term, S x7]) 8 [7, 6] (by kernel_rfl) rfl (by kernel_rfl) (fun _ _ _ h => h) rfl rfl rfl (fun w hst => R_load (hst.pull 6) rfl rfl) ((((((((hst.pull 6).pull 6).pull 6).pull 6).pull 6).pull 6).pull 6)) ?_
      refine P_one (i := 7) 8 (by kernel_rfl) rfl rfl (O_bs (T := 48) [I (IntKind.i64.wrap (y8 + 1)), I x1.st.Term, S x7] #[(0, .agg #[I (IntKind.i64.wrap (y8 + 1)), I x1.st.Term, S x7])] hst (by kernel_rfl) (by kernel_rfl) rfl fun p11 w hst => ?_)
      have hst := osl_of_blk0 (ecs := [[I (IntKind.i64.wrap (y8 + 1)), I x1.st.Term, S x7]]) r_T_term_Entry [(T_term_Entry.mk (IntKind.i64.wrap (y8 + 1)) x1.st.Term x7)] rfl (fun m => ⟨⟨(), rfl, trivial⟩, trivial⟩) rfl hst
      refine ⟨((((((((hst.pull 7).pull 7).pull 7).pull 7).pull 7).pull 7).pull 7).cut 7 1), ?_⟩
      obtain ⟨hb3, hr⟩ := chk hr
      refine P_act (i := 8) 8 (by kernel_rfl) rfl rfl (by kernel_rfl) (O_app_o L37 (hst.pull 1) rfl rfl hb3 rfl fun a18 c18 w hst => ?_)
      refine P_pure (i := 9) (v := pt p1 0) 8 rfl rfl (by kernel_rfl) (fun _ _ _ h => h) rfl rfl rfl (by kernel_rfl) (.inl (by kernel_rfl)) ?_
      refine P_pure (i := 10) (v := pt p1 3) 8 rfl rfl (by kernel_rfl) (fun _ _ _ h => h) rfl rfl rfl (by kernel_rfl) (.inl (by kernel_rfl)) ?_
      refine P_pure (i := 11) (v := pt p1 8) 8 rfl rfl (by kernel_rfl) (fun _ _ _ h => h) rfl rfl rfl (by kernel_rfl) (.inl (by kernel_rfl)) ?_
      refine P_act (i := 12) 8 (by kernel_rfl) rfl rfl (by kernel_rfl) (O_store [I y12.2.id, I y12.2.n, pt p2 0, I y12.2.st.Term, I y12.2.st.Vote, I y12.2.st.Base, I y12.2.st.BaseTerm, S y12.2.st.Snap, .slice a18 (y12.2.st.Log ++ ([(T_term_Entry.mk (IntKind.i64.wrap (y8 + 1)) x1.st.Term x7)])).length c18, I y12.2.role, I y12.2.leader, I y12.2.commit, I y12.2.applied, I y12.2.timer, .bool (y12.2.votes 0), .bool (y12.2.votes 1), .bool (y12.2.votes 2), .bool (y12.2.votes 3), .bool (y12.2.votes 4), I (y12.2.next 0), I (y12.2.next 1), I (y12.2.next 2), I (y12.2.next 3), I (y12.2.next 4), I (y12.2.match_ 0), I (y12.2.match_ 1), I (y12.2.match_ 2), I (y12.2.match_ 3), I (y12.2.match_ 4), .slice a17 y12.2.out.length c17, I y12.2.broken] (hst.pull 3) rfl rfl (by kernel_rfl) fun w hst => ?_)
      refine wpG_done (by kernel_rfl) ?_ _
      refine C_keepQ [(0, pt p1 0), (6, pt p8 0)] rfl fun b => ?_
      refine th_n ?_
      refine wp_seq ?_
      refine wp_regG (SP 10 (fun w => St G w (blk p1 (cl [I y12.2.id, I y12.2.n, pt p2 0, I y12.2.st.Term, I y12.2.st.Vote, I y12.2.st.Base, I y12.2.st.BaseTerm, S y12.2.st.Snap, .slice a18 (y12.2.st.Log ++ ([(T_term_Entry.mk (IntKind.i64.wrap (y8 + 1)) x1.st.Term x7)])).length c18, I y12.2.role, I y12.2.leader, I y12.2.commit, I y12.2.applied, I y12.2.timer, .bool (y12.2.votes 0), .bool (y12.2.votes 1), .bool (y12.2.votes 2), .bool (y12.2.votes 3), .bool (y12.2.votes 4), I (y12.2.next 0), I (y12.2.next 1), I (y12.2.next 2), I (y12.2.next 3), I (y12.2.next 4), I (y12.2.match_ 0), I (y12.2.match_ 1), I (y12.2.match_ 2), I (y12.2.match_ 3), I (y12.2.match_ 4), .slice a17 y12.2.out.length c17, I y12.2.broken] 66) :: osl r_T_term_Entry 48 a18 c18 (y12.2.st.Log ++ ([(T_term_Entry.mk (IntKind.i64.wrap (y8 + 1)) x1.st.Term x7)])) :: osl r_T_term_Entry 48 (some ⟨p11, 0, none⟩) 1 ([(T_term_Entry.mk (IntKind.i64.wrap (y8 + 1)) x1.st.Term x7)]) :: osl r_T_raft_Msg 39 a17 c17 y12.2.out :: blk p2 (cl [I x2, I y11.2.1, .bool x4, I y11.2.2.1, .map (some p3)] 79) :: mpr S (rPt r_T_platter_file) p3 y11.2.2.2 :: dsl r_T_term_Entry (some ⟨p10, 0, none⟩) 1 ([(T_term_Entry.mk (IntKind.i64.wrap (y8 + 1)) x1.st.Term x7)]) :: blk p8 (cl [I (IntKind.i64.wrap (y8 + 1)), I x1.st.Term, S x7] 48) :: F))) rfl ?_
      have hst := hst.draw (n := w.drawn + 1)
      generalize { w with drawn := w.drawn + 1 } = w at hst ⊢
      refine P_pure (i := 0) (v := pt p1 0) 10 rfl rfl (by kernel_rfl) (fun _ _ _ h => h) rfl rfl rfl (by kernel_rfl) (.inr ((((((((hst.pull 7).pull 7).pull 7).pull 7).pull 7).pull 7).pull 7).pull 7)) ?_
      refine P_pure (i := 1) (v := pt p1 0) 10 rfl rfl (by kernel_rfl) (fun _ _ _ h => h) rfl rfl rfl (by kernel_rfl) (.inr ((((((((hst.pull 7).pull 7).pull 7).pull 7).pull 7).pull 7).pull 7).pull 7)) ?_
      refine P_pure (i := 2) (v := pt p1 0) 10 rfl rfl (by kernel_rfl) (fun _ _ _ h => h) rfl rfl rfl (by kernel_rfl) (.inr ((((((((hst.pull 7).pull 7).pull 7).pull 7).pull 7).pull 7).pull 7).pull 7)) ?_
      refine P_pure (i := 3) (v := pt p1 0) 10 rfl rfl (by kernel_rfl) (fun _ _ _ h => h) rfl rfl rfl (by kernel_rfl) (.inr ((((((((hst.pull 7).pull 7).pull 7).pull 7).pull 7).pull 7).pull 7).pull 7)) ?_
      refine P_take (i := 4) (v := I y12.2.id) 10 [4] (by kernel_rfl) rfl (by kernel_rfl) (fun _ _ _ h => h) rfl rfl rfl (fun w hst => R_load hst rfl rfl) (((((((((hst.pull 7).pull 7).pull 7).pull 7).pull 7).pull 7).pull 7).pull 7)) ?_
      refine P_pure (i := 5) (v := pt p8 0) 10 rfl rfl (by kernel_rfl) (fun _ _ _ h => h) rfl rfl rfl (by kernel_rfl) (.inr ((((((((hst.pull 7).pull 7).pull 7).pull 7).pull 7).pull 7).pull 7).pull 7)) ?_
      refine P_take (i := 6) (v := I (IntKind.i64.wrap (y8 + 1))) 10 [6] (by kernel_rfl) rfl (by kernel_rfl) (fun _ _ _ h => h) rfl rfl rfl (fun w hst => R_load (hst.pull 7) rfl rfl) (((((((((hst.pull 7).pull 7).pull 7).pull 7).pull 7).pull 7).pull 7).pull 7)) ?_
      refine P_pure (i := 7) (v := pt p1 0) 10 rfl rfl (by kernel_rfl) (fun _ _ _ h => h) rfl rfl rfl (by kernel_rfl) (.inr ((((((((hst.pull 7).pull 7).pull 7).pull 7).pull 7).pull 7).pull 7).pull 7)) ?_
      refine P_pure (i := 8) (v := pt p1 24) 10 rfl rfl (by kernel_rfl) (fun _ _ _ h => h) rfl rfl rfl (by kernel_rfl) (.inr ((((((((hst.pull 7).pull 7).pull 7).pull 7).pull 7).pull 7).pull 7).pull 7)) ?_
      obtain ⟨hb4, hr⟩ := chk hr
      refine P_any (i := 9) (v := pt p1 (24 + y12.2.id.toNat)) 10 rfl rfl (by kernel_rfl) (fun _ _ _ h => h) rfl rfl rfl (fun w => (R_iaA A64 rfl rfl hb4)) (.inr ((((((((hst.pull 7).pull 7).pull 7).pull 7).pull 7).pull 7).pull 7).pull 7)) ?_
      refine P_act (i := 10) 10 (by kernel_rfl) rfl rfl (by kernel_rfl) (O_store [I y12.2.id, I y12.2.n, pt p2 0, I y12.2.st.Term, I y12.2.st.Vote, I y12.2.st.Base, I y12.2.st.BaseTerm, S y12.2.st.Snap, .slice a18 (y12.2.st.Log ++ ([(T_term_Entry.mk (IntKind.i64.wrap (y8 + 1)) x1.st.Term x7)])).length c18, I y12.2.role, I y12.2.leader, I y12.2.commit, I y12.2.applied, I y12.2.timer, .bool (y12.2.votes 0), .bool (y12.2.votes 1), .bool (y12.2.votes 2), .bool (y12.2.votes 3), .bool (y12.2.votes 4), I (y12.2.next 0), I (y12.2.next 1), I (y12.2.next 2), I (y12.2.next 3), I (y12.2.next 4), I ((upd y12.2.match_ y12.2.id.toNat (IntKind.i64.wrap (y8 + 1))) 0), I ((upd y12.2.match_ y12.2.id.toNat (IntKind.i64.wrap (y8 + 1))) 1), I ((upd y12.2.match_ y12.2.id.toNat (IntKind.i64.wrap (y8 + 1))) 2), I ((upd y12.2.match_ y12.2.id.toNat (IntKind.i64.wrap (y8 + 1))) 3), I ((upd y12.2.match_ y12.2.id.toNat (IntKind.i64.wrap (y8 + 1))) 4), .slice a17 y12.2.out.length c17, I y12.2.broken] hst rfl rfl (by rcases in5 (show 0 ≤ y12.2.id ∧ y12.2.id < 5 by omega) with h | h | h | h | h <;> rw [h] <;> rfl) fun w hst => ?_)
      refine wpG_done (by kernel_rfl) ?_ _
      refine C_keepQ [(0, pt p1 0), (6, pt p8 0)] rfl fun b => ?_
      refine th_n ?_
      refine wp_seq ?_
      refine wp_reg ?_
      refine L_pure 1 [(0, pt p1 0), (6, pt p8 0), (49, pt p1 0)] (by kernel_rfl) fun b => ?_
      obtain ⟨y13, hy13, hr⟩ := bnd hr
      refine L_op rfl (O_call (vs := #[pt p1 0]) Tryz.call32 (by kernel_rfl) (raft_Node_spread_ok k (T_raft_Node.mk y12.2.id y12.2.n (T_term_State.mk y12.2.st.Term y12.2.st.Vote y12.2.st.Base y12.2.st.BaseTerm y12.2.st.Snap (y12.2.st.Log ++ ([(T_term_Entry.mk (IntKind.i64.wrap (y8 + 1)) x1.st.Term x7)]))) y12.2.role y12.2.leader y12.2.commit y12.2.applied y12.2.timer y12.2.votes y12.2.next (upd y12.2.match_ y12.2.id.toNat (IntKind.i64.wrap (y8 + 1))) y12.2.out y12.2.broken) x2 y11.2.1 x4 y11.2.2.1 y11.2.2.2 p1 p2 p3 a18 c18 a17 c17 y13 (((((hst.pull 3).pull 2).pull 5).pull 5).pull 4) hy13 fun a19 c19 a20 c20 w hst => ?_))
      refine CK_ret rfl ?_
      refine wpL_nil ?_
      refine th_n ?_
      refine wp_seq ?_
      refine wp_reg ?_
      refine L_pure 1 [(6, pt p8 0), (51, pt p1 0)] (by kernel_rfl) fun b => ?_
      obtain ⟨y14, hy14, hr⟩ := bnd hr
      refine L_op rfl (O_call (vs := #[pt p1 0]) Tryz.call50 (by kernel_rfl) (raft_Node_settle_ok k y13 x2 y11.2.1 x4 y11.2.2.1 y11.2.2.2 p1 p2 p3 a19 c19 a20 c20 y14 (((((hst.pull 1).pull 1).pull 4).pull 4).pull 4) hy14 fun a21 c21 a22 c22 w hst => ?_))
      refine CK_ret rfl ?_
      refine wpL_nil ?_
      refine th_n ?_
      refine wp_seq ?_
      refine wp_reg ?_
      refine L_pure 1 [(53, pt p8 0)] (by kernel_rfl) fun b => ?_
      refine L_op rfl (O_run (v := I (IntKind.i64.wrap (y8 + 1))) (w' := w) (R_load (hst.pull 7) rfl rfl) rfl rfl ?_)
      refine L_pure 2 [(4, I (IntKind.i64.wrap (y8 + 1))), (5, .bool true)] (by kernel_rfl) fun b => ?_
      refine wpL_nil ?_
      refine th_n ?_
      refine wp_ret ?_
      refine ret2 rfl rfl rfl ?_
      obtain rfl := Option.some.inj hr
      have hst := ((((((hst.pull 4).pull 4).pull 4).pull 4).pull 4).cut 5 3)
      exact hR a21 c21 a22 c22 _ hst
  · refine O_alloc (i := Tryz.t48) (z := .agg #[I 0, I 0, S ([])]) [I 0, I 0, S ([])] hst rfl rfl rfl rfl fun p8 w hst => ?_
    refine ⟨((((((hst.pull 5).pull 5).pull 5).pull 5).pull 5).cut 5 1), ?_⟩
    obtain ⟨y8, hy8, hr⟩ := bnd hr
    refine P_one (i := 1) 11 (by kernel_rfl) rfl rfl (O_call (vs := #[pt p1 0]) Tryz.call8 (by kernel_rfl) (raft_Node_Last_ok k x1 x2 x3 x4 x5 x6 p1 p2 p3 a1 c1 a2 c2 y8 (((((hst.pull 5).pull 5).pull 5).pull 5).pull 5) hy8 fun w hst => ?_))
    refine CK_ret rfl ?_
    refine ⟨((((((hst.pull 4).pull 4).pull 4).pull 4).pull 4).cut 5 1), ?_⟩
    refine P_pure (i := 2) (v := I (IntKind.i64.wrap (y8 + 1))) 11 rfl rfl (by kernel_rfl) (fun _ _ _ h => h) rfl rfl rfl (by kernel_rfl) (.inr ((((((hst.pull 4).pull 4).pull 4).pull 4).pull 4).cut 5 1)) ?_
    refine P_pure (i := 9) (v := .agg #[I (IntKind.i64.wrap (y8 + 1)), I x1.st.Term, S x7]) 11 rfl rfl (by kernel_rfl) (fun _ _ _ h => h) rfl rfl rfl (by kernel_rfl) (.inr ((((((hst.pull 4).pull 4).pull 4).pull 4).pull 4).cut 5 1)) ?_
    refine P_act (i := 11) 11 (by kernel_rfl) rfl rfl (by kernel_rfl) (O_store [I (IntKind.i64.wrap (y8 + 1)), I x1.st.Term, S x7] (hst.pull 5) rfl rfl (by kernel_rfl) fun w hst => ?_)
    refine wpG_done (by kernel_rfl) ?_ _
    refine C_keepQ [(0, pt p1 0), (6, pt p8 0)] rfl fun b => ?_
    refine th_n ?_
    refine wp_seq ?_
    refine wp_seq ?_
    refine wp_regG (SP 7 (fun w => St G w (blk p8 (cl [I (IntKind.i64.wrap (y8 + 1)), I x1.st.Term, S x7] 48) :: blk p1 (cl [I x1.id, I x1.n, pt p2 0, I x1.st.Term, I x1.st.Vote, I x1.st.Base, I x1.st.BaseTerm, S x1.st.Snap, .slice a1 x1.st.Log.length c1, I x1.role, I x1.leader, I x1.commit, I x1.applied, I x1.timer, .bool (x1.votes 0), .bool (x1.votes 1), .bool (x1.votes 2), .bool (x1.votes 3), .bool (x1.votes 4), I (x1.next 0), I (x1.next 1), I (x1.next 2), I (x1.next 3), I (x1.next 4), I (x1.match_ 0), I (x1.match_ 1), I (x1.match_ 2), I (x1.match_ 3), I (x1.match_ 4), .slice a2 x1.out.length c2, I x1.broken] 66) :: blk p2 (cl [I x2, I x3, .bool x4, I x5, .map (some p3)] 79) :: mpr S (rPt r_T_platter_file) p3 x6 :: osl r_T_term_Entry 48 a1 c1 x1.st.Log :: osl r_T_raft_Msg 39 a2 c2 x1.out :: F))) rfl ?_
    have hst := hst.draw (n := w.drawn + 1)
    generalize { w with drawn := w.drawn + 1 } = w at hst ⊢
    refine P_pure (i := 0) (v := pt p1 0) 7 rfl rfl (by kernel_rfl) (fun _ _ _ h => h) rfl rfl rfl (by kernel_rfl) (.inr ((((((hst.pull 5).pull 5).pull 5).pull 5).pull 5).pull 5)) ?_
    refine P_pure (i := 1) (v := pt p1 0) 7 rfl rfl (by kernel_rfl) (fun _ _ _ h => h) rfl rfl rfl (by kernel_rfl) (.inr ((((((hst.pull 5).pull 5).pull 5).pull 5).pull 5).pull 5)) ?_
    refine P_pure (i := 2) (v := pt p1 0) 7 rfl rfl (by kernel_rfl) (fun _ _ _ h => h) rfl rfl rfl (by kernel_rfl) (.inr ((((((hst.pull 5).pull 5).pull 5).pull 5).pull 5).pull 5)) ?_
    refine P_pure (i := 3) (v := pt p1 2) 7 rfl rfl (by kernel_rfl) (fun _ _ _ h => h) rfl rfl rfl (by kernel_rfl) (.inr ((((((hst.pull 5).pull 5).pull 5).pull 5).pull 5).pull 5)) ?_
    refine P_take (i := 4) (v := pt p2 0) 7 [4] (by kernel_rfl) rfl (by kernel_rfl) (fun _ _ _ h => h) rfl rfl rfl (fun w hst => R_load (hst.pull 1) rfl rfl) (((((((hst.pull 5).pull 5).pull 5).pull 5).pull 5).pull 5)) ?_
    refine P_take (i := 5) (v := .agg #[I (IntKind.i64.wrap (y8 + 1)), I x1.st.Term, S x7]) 7 [6, 5] (by kernel_rfl) rfl (by kernel_rfl) (fun _ _ _ h => h) rfl rfl rfl (fun w hst => R_load hst rfl rfl) (((((((hst.pull 5).pull 5).pull 5).pull 5).pull 5).pull 5)) ?_
    refine P_one (i := 6) 7 (by kernel_rfl) rfl rfl (O_bs (T := 48) [I (IntKind.i64.wrap (y8 + 1)), I x1.st.Term, S x7] #[(0, .agg #[I (IntKind.i64.wrap (y8 + 1)), I x1.st.Term, S x7])] hst (by kernel_rfl) (by kernel_rfl) rfl fun p10 w hst => ?_)
    have hst := osl_of_blk0 (ecs := [[I (IntKind.i64.wrap (y8 + 1)), I x1.st.Term, S x7]]) r_T_term_Entry [(T_term_Entry.mk (IntKind.i64.wrap (y8 + 1)) x1.st.Term x7)] rfl (fun m => ⟨⟨(), rfl, trivial⟩, trivial⟩) rfl hst
    refine ⟨(((((((hst.pull 6).pull 6).pull 6).pull 6).pull 6).pull 6).cut 6 1), ?_⟩
    obtain ⟨y11, hy11, hr⟩ := bnd hr
    have hst := osl_freeze hst
    refine P_act (i := 7) 7 (by kernel_rfl) rfl rfl (by kernel_rfl) (O_call (vs := #[pt p2 0, .slice (some ⟨p10, 0, none⟩) ([(T_term_Entry.mk (IntKind.i64.wrap (y8 + 1)) x1.st.Term x7)]).length 1]) Tryz.call58 (by kernel_rfl) (term_Append_ok k x2 x3 x4 x5 x6 ([(T_term_Entry.mk (IntKind.i64.wrap (y8 + 1)) x1.st.Term x7)]) p2 p3 (some ⟨p10, 0, none⟩) 1 y11 ((hst.pull 4).pull 4) hy11 fun w hst => ?_))
    refine CK_ret rfl ?_
    obtain ⟨y12, hy12, hr⟩ := bnd hr
    refine P_act (i := 8) 7 (by kernel_rfl) rfl rfl (by kernel_rfl) (O_call (vs := #[pt p1 0, I y11.1]) Tryz.call48 (by kernel_rfl) (raft_Node_check_ok k x1 x2 y11.2.1 x4 y11.2.2.1 y11.2.2.2 y11.1 p1 p2 p3 a1 c1 a2 c2 y12 (((((hst.pull 6).pull 6).pull 3).pull 3).pull 6) hy12 fun a16 c16 a17 c17 w hst => ?_))
    refine CK_ret rfl ?_
    refine P_pure (i := 9) (v := .bool (!y12.1)) 7 rfl rfl (by kernel_rfl) (fun _ _ _ h => h) rfl rfl rfl (by kernel_rfl) (.inl (by kernel_rfl)) ?_
    refine wpG_done (by kernel_rfl) ?_ _
    refine C_keepQ [(0, pt p1 0), (6, pt p8 0), (26, .bool (!y12.1))] rfl fun b => ?_
    refine th_n ?_
    refine wp_cond_mkF (t := (!y12.1)) rfl (fun h => ?_) (fun h => ?_)
    · have hr := (if_pos h).symm.trans hr
      refine wp_seq ?_
      refine wp_reg ?_
      refine L_pure 2 [(4, I 0), (5, .bool false)] (by kernel_rfl) fun b => ?_
      refine wpL_nil ?_
      refine th_n ?_
      refine wp_ret ?_
      refine th_r ?_
      refine ret2 rfl rfl rfl ?_
      obtain rfl := Option.some.inj hr
      have hst := ((((((hst.pull 4).pull 4).pull 4).pull 4).pull 4).cut 5 2)
      exact hR a16 c16 a17 c17 _ hst
    · have hr := (if_neg (by rw [h]; exact Bool.false_ne_true)).symm.trans hr
      refine wp_skip ?_
      refine th_n ?_
      refine wp_seq ?_
      refine wp_regG (SP 8 (fun w => St G w (osl r_T_term_Entry 48 a16 c16 y12.2.st.Log :: osl r_T_raft_Msg 39 a17 c17 y12.2.out :: blk p1 (cl [I y12.2.id, I y12.2.n, pt p2 0, I y12.2.st.Term, I y12.2.st.Vote, I y12.2.st.Base, I y12.2.st.BaseTerm, S y12.2.st.Snap, .slice a16 y12.2.st.Log.length c16, I y12.2.role, I y12.2.leader, I y12.2.commit, I y12.2.applied, I y12.2.timer, .bool (y12.2.votes 0), .bool (y12.2.votes 1), .bool (y12.2.votes 2), .bool (y12.2.votes 3), .bool (y12.2.votes 4), I (y12.2.next 0), I (y12.2.next 1), I (y12.2.next 2), I (y12.2.next 3), I (y12.2.next 4), I (y12.2.match_ 0), I (y12.2.match_ 1), I (y12.2.match_ 2), I (y12.2.match_ 3), I (y12.2.match_ 4), .slice a17 y12.2.out.length c17, I y12.2.broken] 66) :: blk p2 (cl [I x2, I y11.2.1, .bool x4, I y11.2.2.1, .map (some p3)] 79) :: mpr S (rPt r_T_platter_file) p3 y11.2.2.2 :: dsl r_T_term_Entry (some ⟨p10, 0, none⟩) 1 ([(T_term_Entry.mk (IntKind.i64.wrap (y8 + 1)) x1.st.Term x7)]) :: blk p8 (cl [I (IntKind.i64.wrap (y8 + 1)), I x1.st.Term, S x7] 48) :: F))) rfl ?_
      have hst := hst.draw (n := w.drawn + 1)
      generalize { w with drawn := w.drawn + 1 } = w at hst ⊢
      refine P_pure (i := 0) (v := pt p1 0) 8 rfl rfl (by kernel_rfl) (fun _ _ _ h => h) rfl rfl rfl (by kernel_rfl) (.inr (((((((hst.pull 6).pull 6).pull 6).pull 6).pull 6).pull 6).pull 6)) ?_
      refine P_pure (i := 1) (v := pt p1 0) 8 rfl rfl (by kernel_rfl) (fun _ _ _ h => h) rfl rfl rfl (by kernel_rfl) (.inr (((((((hst.pull 6).pull 6).pull 6).pull 6).pull 6).pull 6).pull 6)) ?_
      refine P_pure (i := 2) (v := pt p1 0) 8 rfl rfl (by kernel_rfl) (fun _ _ _ h => h) rfl rfl rfl (by kernel_rfl) (.inr (((((((hst.pull 6).pull 6).pull 6).pull 6).pull 6).pull 6).pull 6)) ?_
      refine P_pure (i := 3) (v := pt p1 3) 8 rfl rfl (by kernel_rfl) (fun _ _ _ h => h) rfl rfl rfl (by kernel_rfl) (.inr (((((((hst.pull 6).pull 6).pull 6).pull 6).pull 6).pull 6).pull 6)) ?_
      refine P_pure (i := 4) (v := pt p1 8) 8 rfl rfl (by kernel_rfl) (fun _ _ _ h => h) rfl rfl rfl (by kernel_rfl) (.inr (((((((hst.pull 6).pull 6).pull 6).pull 6).pull 6).pull 6).pull 6)) ?_
      refine P_take (i := 5) (v := .slice a16 y12.2.st.Log.length c16) 8 [5] (by kernel_rfl) rfl (by kernel_rfl) (fun _ _ _ h => h) rfl rfl rfl (fun w hst => R_load (hst.pull 2) rfl rfl) ((((((((hst.pull 6).pull 6).pull 6).pull 6).pull 6).pull 6).pull 6)) ?_
      refine P_take (i := 6) (v := .agg #[I (IntKind.i64.wrap (y8 + 1)), I x1.st.Term, S x7]) 8 [7, 6] (by kernel_rfl) rfl (by kernel_rfl) (fun _ _ _ h => h) rfl rfl rfl (fun w hst => R_load (hst.pull 6) rfl rfl) ((((((((hst.pull 6).pull 6).pull 6).pull 6).pull 6).pull 6).pull 6)) ?_
      refine P_one (i := 7) 8 (by kernel_rfl) rfl rfl (O_bs (T := 48) [I (IntKind.i64.wrap (y8 + 1)), I x1.st.Term, S x7] #[(0, .agg #[I (IntKind.i64.wrap (y8 + 1)), I x1.st.Term, S x7])] hst (by kernel_rfl) (by kernel_rfl) rfl fun p11 w hst => ?_)
      have hst := osl_of_blk0 (ecs := [[I (IntKind.i64.wrap (y8 + 1)), I x1.st.Term, S x7]]) r_T_term_Entry [(T_term_Entry.mk (IntKind.i64.wrap (y8 + 1)) x1.st.Term x7)] rfl (fun m => ⟨⟨(), rfl, trivial⟩, trivial⟩) rfl hst
      refine ⟨((((((((hst.pull 7).pull 7).pull 7).pull 7).pull 7).pull 7).pull 7).cut 7 1), ?_⟩
      obtain ⟨hb3, hr⟩ := chk hr
      refine P_act (i := 8) 8 (by kernel_rfl) rfl rfl (by kernel_rfl) (O_app_o L37 (hst.pull 1) rfl rfl hb3 rfl fun a18 c18 w hst => ?_)
      refine P_pure (i := 9) (v := pt p1 0) 8 rfl rfl (by kernel_rfl) (fun _ _ _ h => h) rfl rfl rfl (by kernel_rfl) (.inl (by kernel_rfl)) ?_
      refine P_pure (i := 10) (v := pt p1 3) 8 rfl rfl (by kernel_rfl) (fun _ _ _ h => h) rfl rfl rfl (by kernel_rfl) (.inl (by kernel_rfl)) ?_
      refine P_pure (i := 11) (v := pt p1 8) 8 rfl rfl (by kernel_rfl) (fun _ _ _ h => h) rfl rfl rfl (by kernel_rfl) (.inl (by kernel_rfl)) ?_
      refine P_act (i := 12) 8 (by kernel_rfl) rfl rfl (by kernel_rfl) (O_store [I y12.2.id, I y12.2.n, pt p2 0, I y12.2.st.Term, I y12.2.st.Vote, I y12.2.st.Base, I y12.2.st.BaseTerm, S y12.2.st.Snap, .slice a18 (y12.2.st.Log ++ ([(T_term_Entry.mk (IntKind.i64.wrap (y8 + 1)) x1.st.Term x7)])).length c18, I y12.2.role, I y12.2.leader, I y12.2.commit, I y12.2.applied, I y12.2.timer, .bool (y12.2.votes 0), .bool (y12.2.votes 1), .bool (y12.2.votes 2), .bool (y12.2.votes 3), .bool (y12.2.votes 4), I (y12.2.next 0), I (y12.2.next 1), I (y12.2.next 2), I (y12.2.next 3), I (y12.2.next 4), I (y12.2.match_ 0), I (y12.2.match_ 1), I (y12.2.match_ 2), I (y12.2.match_ 3), I (y12.2.match_ 4), .slice a17 y12.2.out.length c17, I y12.2.broken] (hst.pull 3) rfl rfl (by kernel_rfl) fun w hst => ?_)
      refine wpG_done (by kernel_rfl) ?_ _
      refine C_keepQ [(0, pt p1 0), (6, pt p8 0)] rfl fun b => ?_
      refine th_n ?_
      refine wp_seq ?_
      refine wp_regG (SP 10 (fun w => St G w (blk p1 (cl [I y12.2.id, I y12.2.n, pt p2 0, I y12.2.st.Term, I y12.2.st.Vote, I y12.2.st.Base, I y12.2.st.BaseTerm, S y12.2.st.Snap, .slice a18 (y12.2.st.Log ++ ([(T_term_Entry.mk (IntKind.i64.wrap (y8 + 1)) x1.st.Term x7)])).length c18, I y12.2.role, I y12.2.leader, I y12.2.commit, I y12.2.applied, I y12.2.timer, .bool (y12.2.votes 0), .bool (y12.2.votes 1), .bool (y12.2.votes 2), .bool (y12.2.votes 3), .bool (y12.2.votes 4), I (y12.2.next 0), I (y12.2.next 1), I (y12.2.next 2), I (y12.2.next 3), I (y12.2.next 4), I (y12.2.match_ 0), I (y12.2.match_ 1), I (y12.2.match_ 2), I (y12.2.match_ 3), I (y12.2.match_ 4), .slice a17 y12.2.out.length c17, I y12.2.broken] 66) :: osl r_T_term_Entry 48 a18 c18 (y12.2.st.Log ++ ([(T_term_Entry.mk (IntKind.i64.wrap (y8 + 1)) x1.st.Term x7)])) :: osl r_T_term_Entry 48 (some ⟨p11, 0, none⟩) 1 ([(T_term_Entry.mk (IntKind.i64.wrap (y8 + 1)) x1.st.Term x7)]) :: osl r_T_raft_Msg 39 a17 c17 y12.2.out :: blk p2 (cl [I x2, I y11.2.1, .bool x4, I y11.2.2.1, .map (some p3)] 79) :: mpr S (rPt r_T_platter_file) p3 y11.2.2.2 :: dsl r_T_term_Entry (some ⟨p10, 0, none⟩) 1 ([(T_term_Entry.mk (IntKind.i64.wrap (y8 + 1)) x1.st.Term x7)]) :: blk p8 (cl [I (IntKind.i64.wrap (y8 + 1)), I x1.st.Term, S x7] 48) :: F))) rfl ?_
      have hst := hst.draw (n := w.drawn + 1)
      generalize { w with drawn := w.drawn + 1 } = w at hst ⊢
      refine P_pure (i := 0) (v := pt p1 0) 10 rfl rfl (by kernel_rfl) (fun _ _ _ h => h) rfl rfl rfl (by kernel_rfl) (.inr ((((((((hst.pull 7).pull 7).pull 7).pull 7).pull 7).pull 7).pull 7).pull 7)) ?_
      refine P_pure (i := 1) (v := pt p1 0) 10 rfl rfl (by kernel_rfl) (fun _ _ _ h => h) rfl rfl rfl (by kernel_rfl) (.inr ((((((((hst.pull 7).pull 7).pull 7).pull 7).pull 7).pull 7).pull 7).pull 7)) ?_
      refine P_pure (i := 2) (v := pt p1 0) 10 rfl rfl (by kernel_rfl) (fun _ _ _ h => h) rfl rfl rfl (by kernel_rfl) (.inr ((((((((hst.pull 7).pull 7).pull 7).pull 7).pull 7).pull 7).pull 7).pull 7)) ?_
      refine P_pure (i := 3) (v := pt p1 0) 10 rfl rfl (by kernel_rfl) (fun _ _ _ h => h) rfl rfl rfl (by kernel_rfl) (.inr ((((((((hst.pull 7).pull 7).pull 7).pull 7).pull 7).pull 7).pull 7).pull 7)) ?_
      refine P_take (i := 4) (v := I y12.2.id) 10 [4] (by kernel_rfl) rfl (by kernel_rfl) (fun _ _ _ h => h) rfl rfl rfl (fun w hst => R_load hst rfl rfl) (((((((((hst.pull 7).pull 7).pull 7).pull 7).pull 7).pull 7).pull 7).pull 7)) ?_
      refine P_pure (i := 5) (v := pt p8 0) 10 rfl rfl (by kernel_rfl) (fun _ _ _ h => h) rfl rfl rfl (by kernel_rfl) (.inr ((((((((hst.pull 7).pull 7).pull 7).pull 7).pull 7).pull 7).pull 7).pull 7)) ?_
      refine P_take (i := 6) (v := I (IntKind.i64.wrap (y8 + 1))) 10 [6] (by kernel_rfl) rfl (by kernel_rfl) (fun _ _ _ h => h) rfl rfl rfl (fun w hst => R_load (hst.pull 7) rfl rfl) (((((((((hst.pull 7).pull 7).pull 7).pull 7).pull 7).pull 7).pull 7).pull 7)) ?_
      refine P_pure (i := 7) (v := pt p1 0) 10 rfl rfl (by kernel_rfl) (fun _ _ _ h => h) rfl rfl rfl (by kernel_rfl) (.inr ((((((((hst.pull 7).pull 7).pull 7).pull 7).pull 7).pull 7).pull 7).pull 7)) ?_
      refine P_pure (i := 8) (v := pt p1 24) 10 rfl rfl (by kernel_rfl) (fun _ _ _ h => h) rfl rfl rfl (by kernel_rfl) (.inr ((((((((hst.pull 7).pull 7).pull 7).pull 7).pull 7).pull 7).pull 7).pull 7)) ?_
      obtain ⟨hb4, hr⟩ := chk hr
      refine P_any (i := 9) (v := pt p1 (24 + y12.2.id.toNat)) 10 rfl rfl (by kernel_rfl) (fun _ _ _ h => h) rfl rfl rfl (fun w => (R_iaA A64 rfl rfl hb4)) (.inr ((((((((hst.pull 7).pull 7).pull 7).pull 7).pull 7).pull 7).pull 7).pull 7)) ?_
      refine P_act (i := 10) 10 (by kernel_rfl) rfl rfl (by kernel_rfl) (O_store [I y12.2.id, I y12.2.n, pt p2 0, I y12.2.st.Term, I y12.2.st.Vote, I y12.2.st.Base, I y12.2.st.BaseTerm, S y12.2.st.Snap, .slice a18 (y12.2.st.Log ++ ([(T_term_Entry.mk (IntKind.i64.wrap (y8 + 1)) x1.st.Term x7)])).length c18, I y12.2.role, I y12.2.leader, I y12.2.commit, I y12.2.applied, I y12.2.timer, .bool (y12.2.votes 0), .bool (y12.2.votes 1), .bool (y12.2.votes 2), .bool (y12.2.votes 3), .bool (y12.2.votes 4), I (y12.2.next 0), I (y12.2.next 1), I (y12.2.next 2), I (y12.2.next 3), I (y12.2.next 4), I ((upd y12.2.match_ y12.2.id.toNat (IntKind.i64.wrap (y8 + 1))) 0), I ((upd y12.2.match_ y12.2.id.toNat (IntKind.i64.wrap (y8 + 1))) 1), I ((upd y12.2.match_ y12.2.id.toNat (IntKind.i64.wrap (y8 + 1))) 2), I ((upd y12.2.match_ y12.2.id.toNat (IntKind.i64.wrap (y8 + 1))) 3), I ((upd y12.2.match_ y12.2.id.toNat (IntKind.i64.wrap (y8 + 1))) 4), .slice a17 y12.2.out.length c17, I y12.2.broken] hst rfl rfl (by rcases in5 (show 0 ≤ y12.2.id ∧ y12.2.id < 5 by omega) with h | h | h | h | h <;> rw [h] <;> rfl) fun w hst => ?_)
      refine wpG_done (by kernel_rfl) ?_ _
      refine C_keepQ [(0, pt p1 0), (6, pt p8 0)] rfl fun b => ?_
      refine th_n ?_
      refine wp_seq ?_
      refine wp_reg ?_
      refine L_pure 1 [(0, pt p1 0), (6, pt p8 0), (49, pt p1 0)] (by kernel_rfl) fun b => ?_
      obtain ⟨y13, hy13, hr⟩ := bnd hr
      refine L_op rfl (O_call (vs := #[pt p1 0]) Tryz.call32 (by kernel_rfl) (raft_Node_spread_ok k (T_raft_Node.mk y12.2.id y12.2.n (T_term_State.mk y12.2.st.Term y12.2.st.Vote y12.2.st.Base y12.2.st.BaseTerm y12.2.st.Snap (y12.2.st.Log ++ ([(T_term_Entry.mk (IntKind.i64.wrap (y8 + 1)) x1.st.Term x7)]))) y12.2.role y12.2.leader y12.2.commit y12.2.applied y12.2.timer y12.2.votes y12.2.next (upd y12.2.match_ y12.2.id.toNat (IntKind.i64.wrap (y8 + 1))) y12.2.out y12.2.broken) x2 y11.2.1 x4 y11.2.2.1 y11.2.2.2 p1 p2 p3 a18 c18 a17 c17 y13 (((((hst.pull 3).pull 2).pull 5).pull 5).pull 4) hy13 fun a19 c19 a20 c20 w hst => ?_))
      refine CK_ret rfl ?_
      refine wpL_nil ?_
      refine th_n ?_
      refine wp_seq ?_
      refine wp_reg ?_
      refine L_pure 1 [(6, pt p8 0), (51, pt p1 0)] (by kernel_rfl) fun b => ?_
      obtain ⟨y14, hy14, hr⟩ := bnd hr
      refine L_op rfl (O_call (vs := #[pt p1 0]) Tryz.call50 (by kernel_rfl) (raft_Node_settle_ok k y13 x2 y11.2.1 x4 y11.2.2.1 y11.2.2.2 p1 p2 p3 a19 c19 a20 c20 y14 (((((hst.pull 1).pull 1).pull 4).pull 4).pull 4) hy14 fun a21 c21 a22 c22 w hst => ?_))
      refine CK_ret rfl ?_
      refine wpL_nil ?_
      refine th_n ?_
      refine wp_seq ?_
      refine wp_reg ?_
      refine L_pure 1 [(53, pt p8 0)] (by kernel_rfl) fun b => ?_
      refine L_op rfl (O_run (v := I (IntKind.i64.wrap (y8 + 1))) (w' := w) (R_load (hst.pull 7) rfl rfl) rfl rfl ?_)
      refine L_pure 2 [(4, I (IntKind.i64.wrap (y8 + 1))), (5, .bool true)] (by kernel_rfl) fun b => ?_
      refine wpL_nil ?_
      refine th_n ?_
      refine wp_ret ?_
      refine ret2 rfl rfl rfl ?_
      obtain rfl := Option.some.inj hr
      have hst := ((((((hst.pull 4).pull 4).pull 4).pull 4).pull 4).cut 5 3)
      exact hR a21 c21 a22 c22 _ hst
def raft_Node_count_l1 (k : Nat) (x1 : T_raft_Node) : Nat → Int → Int → Option (Int)
  | 0, _, _ => none
  | j + 1, v13, v14 => (if decide (v14 < (x1.n.toNat : Int)) = true then (Option.bind (if 0 ≤ v14 ∧ v14 < (x1.n.toNat : Int) then (if (x1.votes v14.toNat) = true then some ((IntKind.i64.wrap (v13 + 1))) else some (v13)) else none) fun y7 => (raft_Node_count_l1 k x1 j y7 (IntKind.i64.wrap (v14 + 1)))) else some (v13))
def raft_Node_count_l2 (k : Nat) (x1 : T_raft_Node) (x2 : Int) (x3 : Int) (x4 : Bool) (x5 : Int) (x6 : (List ((List UInt8) × (Option T_platter_file)))) : Nat → Int → (Nat → Int) → (Nat → Int) → Option ((Nat → Int) × (Nat → Int))
  | 0, _, _, _ => none
  | j + 1, v18, v19, v20 => (if decide (v18 < x1.n) = true then (Option.bind (raft_Node_Last k (T_raft_Node.mk x1.id x1.n x1.st 2 (IntKind.i64.wrap (x1.id + 1)) x1.commit x1.applied 0 x1.votes v19 v20 x1.out x1.broken) x2 x3 x4 x5 x6) fun y9 => (if 0 ≤ v18 ∧ v18 < 5 then (if 0 ≤ v18 ∧ v18 < 5 then (raft_Node_count_l2 k x1 x2 x3 x4 x5 x6 j (IntKind.i64.wrap (v18 + 1)) (upd v19 v18.toNat (IntKind.i64.wrap (y9 + 1))) (upd v20 v18.toNat (0 : Int))) else none) else none)) else some (v19, v20))
def raft_Node_count (k : Nat) (x1 : T_raft_Node) (x2 : Int) (x3 : Int) (x4 : Bool) (x5 : Int) (x6 : (List ((List UInt8) × (Option T_platter_file)))) : Option (T_raft_Node × Int × Int × (List ((List UInt8) × (Option T_platter_file)))) := (if 0 ≤ x1.n ∧ x1.n ≤ 5 then (Option.bind (raft_Node_count_l1 k x1 k (0 : Int) (0 : Int)) fun y6 => (if decide ((IntKind.i64.wrap (2 * y6)) ≤ x1.n) = true then some (x1, x3, x5, x6) else (Option.bind (raft_Node_count_l2 k x1 x2 x3 x4 x5 x6 k (0 : Int) x1.next x1.match_) fun y8 => (Option.bind (raft_Node_add k (T_raft_Node.mk x1.id x1.n x1.st 2 (IntKind.i64.wrap (x1.id + 1)) x1.commit x1.applied 0 x1.votes y8.1 y8.2 x1.out x1.broken) x2 x3 x4 x5 x6 ([])) fun y10 => some (y10.2.2.1, y10.2.2.2.1, y10.2.2.2.2.1, y10.2.2.2.2.2))))) else none)
set_option maxRecDepth 100000 in
set_option maxHeartbeats 4000000 in
theorem raft_Node_count_ok {G w : World} {F : List HP} {R : Ending → World → Prop} (k : Nat) (x1 : T_raft_Node) (x2 : Int) (x3 : Int) (x4 : Bool) (x5 : Int) (x6 : (List ((List UInt8) × (Option T_platter_file)))) (p1 : Nat) (p2 : Nat) (p3 : Nat) (a1 : Option Addr) (c1 : Nat) (a2 : Option Addr) (c2 : Nat) (r : (T_raft_Node × Int × Int × (List ((List UInt8) × (Option T_platter_file))))) (hst : St G w (blk p1 (cl [I x1.id, I x1.n, pt p2 0, I x1.st.Term, I x1.st.Vote, I x1.st.Base, I x1.st.BaseTerm, S x1.st.Snap, .slice a1 x1.st.Log.length c1, I x1.role, I x1.leader, I x1.commit, I x1.applied, I x1.timer, .bool (x1.votes 0), .bool (x1.votes 1), .bool (x1.votes 2), .bool (x1.votes 3), .bool (x1.votes 4), I (x1.next 0), I (x1.next 1), I (x1.next 2), I (x1.next 3), I (x1.next 4), I (x1.match_ 0), I (x1.match_ 1), I (x1.match_ 2), I (x1.match_ 3), I (x1.match_ 4), .slice a2 x1.out.length c2, I x1.broken] 66) :: blk p2 (cl [I x2, I x3, .bool x4, I x5, .map (some p3)] 79) :: mpr S (rPt r_T_platter_file) p3 x6 :: osl r_T_term_Entry 48 a1 c1 x1.st.Log :: osl r_T_raft_Msg 39 a2 c2 x1.out :: F)) (hr : raft_Node_count k x1 x2 x3 x4 x5 x6 = some r)
    (hR : ∀ (a5 : Option Addr) (c5 : Nat) (a6 : Option Addr) (c6 : Nat) w', St G w' (osl r_T_term_Entry 48 a5 c5 r.1.st.Log :: osl r_T_raft_Msg 39 a6 c6 r.1.out :: blk p1 (cl [I r.1.id, I r.1.n, pt p2 0, I r.1.st.Term, I r.1.st.Vote, I r.1.st.Base, I r.1.st.BaseTerm, S r.1.st.Snap, .slice a5 r.1.st.Log.length c5, I r.1.role, I r.1.leader, I r.1.commit, I r.1.applied, I r.1.timer, .bool (r.1.votes 0), .bool (r.1.votes 1), .bool (r.1.votes 2), .bool (r.1.votes 3), .bool (r.1.votes 4), I (r.1.next 0), I (r.1.next 1), I (r.1.next 2), I (r.1.next 3), I (r.1.next 4), I (r.1.match_ 0), I (r.1.match_ 1), I (r.1.match_ 2), I (r.1.match_ 3), I (r.1.match_ 4), .slice a6 r.1.out.length c6, I r.1.broken] 66) :: blk p2 (cl [I x2, I r.2.1, .bool x4, I r.2.2.1, .map (some p3)] 79) :: mpr S (rPt r_T_platter_file) p3 r.2.2.2 :: F) → R (.returned (.tuple #[])) w') :
    Calls Tryz.prog 27 #[pt p1 0] w R := by
  unfold raft_Node_count at hr
  refine enter Tryz.func27 rfl [(0, pt p1 0)] rfl rfl fun b => ?_
  refine wp_seq ?_
  refine wp_reg ?_
  refine L_pure 1 [(0, pt p1 0), (2, I 0)] (by kernel_rfl) fun b => ?_
  refine wpL_nil ?_
  refine th_n ?_
  refine wp_seq ?_
  refine wp_seq ?_
  refine wp_regG (SN { w with drawn := w.drawn + 1 }) rfl ?_
  have hst := hst.draw (n := w.drawn + 1)
  generalize { w with drawn := w.drawn + 1 } = w at hst ⊢
  refine C_take (i := 0) (v := pt p1 0) rfl (by kernel_rfl) (fun _ _ _ h => h) rfl rfl rfl (R_pure (by kernel_rfl)) ?_
  refine C_take (i := 1) (v := pt p1 0) rfl (by kernel_rfl) (fun _ _ _ h => h) rfl rfl rfl (R_pure (by kernel_rfl)) ?_
  refine C_take (i := 2) (v := pt p1 14) rfl (by kernel_rfl) (fun _ _ _ h => h) rfl rfl rfl (R_pure (by kernel_rfl)) ?_
  refine C_take (i := 3) (v := pt p1 0) rfl (by kernel_rfl) (fun _ _ _ h => h) rfl rfl rfl (R_pure (by kernel_rfl)) ?_
  refine C_take (i := 4) (v := pt p1 0) rfl (by kernel_rfl) (fun _ _ _ h => h) rfl rfl rfl (R_pure (by kernel_rfl)) ?_
  refine C_take (i := 5) (v := pt p1 1) rfl (by kernel_rfl) (fun _ _ _ h => h) rfl rfl rfl (R_pure (by kernel_rfl)) ?_
  refine C_take (i := 6) (v := I x1.n) rfl (by kernel_rfl) (fun _ _ _ h => h) rfl rfl rfl (R_load hst rfl rfl) ?_
  obtain ⟨hb5, hr⟩ := chk hr
  refine C_take (i := 7) (v := .slice (some ⟨p1, 14, none⟩) x1.n.toNat 5) rfl (by kernel_rfl) (fun _ _ _ h => h) rfl rfl rfl (R_sliceA (zh := x1.n) A63 rfl (by exact rfl) hb5) ?_
  refine C_take (i := 8) (v := I (x1.n.toNat : Int)) rfl (by kernel_rfl) (fun _ _ _ h => h) rfl rfl rfl (R_pure (by kernel_rfl)) ?_
  refine C_take (i := 9) (v := I 0) rfl (by kernel_rfl) (fun _ _ _ h => h) rfl rfl rfl (R_pure (by kernel_rfl)) ?_
  refine wpG_done (by kernel_rfl) ?_ _
  refine C_keepQ [(0, pt p1 0), (2, I 0), (13, .slice (some ⟨p1, 14, none⟩) x1.n.toNat 5), (14, I (x1.n.toNat : Int)), (15, I 0)] rfl fun b => ?_
  refine th_n ?_
  obtain ⟨y6, hy6, hk4⟩ := bnd hr
  clear hr
  refine Go.Hx.wp_cut (fun a w => ∃ (b : Nat → Value), a = mkF 67 b [(0, pt p1 0), (2, I y6)] ∧ St G w (blk p1 (cl [I x1.id, I x1.n, pt p2 0, I x1.st.Term, I x1.st.Vote, I x1.st.Base, I x1.st.BaseTerm, S x1.st.Snap, .slice a1 x1.st.Log.length c1, I x1.role, I x1.leader, I x1.commit, I x1.applied, I x1.timer, .bool (x1.votes 0), .bool (x1.votes 1), .bool (x1.votes 2), .bool (x1.votes 3), .bool (x1.votes 4), I (x1.next 0), I (x1.next 1), I (x1.next 2), I (x1.next 3), I (x1.next 4), I (x1.match_ 0), I (x1.match_ 1), I (x1.match_ 2), I (x1.match_ 3), I (x1.match_ 4), .slice a2 x1.out.length c2, I x1.broken] 66) :: blk p2 (cl [I x2, I x3, .bool x4, I x5, .map (some p3)] 79) :: mpr S (rPt r_T_platter_file) p3 x6 :: osl r_T_term_Entry 48 a1 c1 x1.st.Log :: osl r_T_raft_Msg 39 a2 c2 x1.out :: F)) ?_ ?_
  · rintro _ w ⟨b, rfl, hst⟩
    have hr := hk4
    refine th_n ?_
    refine wp_seq ?_
    refine wp_seq ?_
    refine wp_reg ?_
    refine L_pure 5 [(0, pt p1 0), (24, I (IntKind.i64.wrap (2 * y6))), (27, pt p1 1)] (by kernel_rfl) fun b => ?_
    refine L_op rfl (O_run (v := I x1.n) (w' := w) (R_load hst rfl rfl) rfl rfl ?_)
    refine L_pure 1 [(0, pt p1 0), (29, .bool (decide ((IntKind.i64.wrap (2 * y6)) ≤ x1.n)))] (by kernel_rfl) fun b => ?_
    refine wpL_nil ?_
    refine th_n ?_
    refine wp_cond_mkF (t := decide ((IntKind.i64.wrap (2 * y6)) ≤ x1.n)) rfl (fun h => ?_) (fun h => ?_)
    · have hr := (if_pos h).symm.trans hr
      refine wp_ret ?_
      refine th_r ?_
      refine ret0 rfl ?_
      obtain rfl := Option.some.inj hr
      have hst := (((((hst.pull 2).pull 2).pull 2).pull 4).pull 4)
      exact hR a1 c1 a2 c2 _ hst
    · have hr := (if_neg (by rw [h]; exact Bool.false_ne_true)).symm.trans hr
      refine wp_skip ?_
      refine th_n ?_
      refine wp_seq ?_
      refine wp_reg ?_
      refine L_pure 6 [(0, pt p1 0), (30, pt p1 0), (31, pt p1 0), (32, pt p1 0), (35, pt p1 0)] (by kernel_rfl) fun b => ?_
      refine L_op rfl (O_run (v := I x1.id) (w' := w) (R_load hst rfl rfl) rfl rfl ?_)
      refine L_pure 3 [(0, pt p1 0), (31, pt p1 0), (32, pt p1 0), (37, I (IntKind.i64.wrap (x1.id + 1))), (39, pt p1 9)] (by kernel_rfl) fun b => ?_
      refine L_op rfl (O_store [I x1.id, I x1.n, pt p2 0, I x1.st.Term, I x1.st.Vote, I x1.st.Base, I x1.st.BaseTerm, S x1.st.Snap, .slice a1 x1.st.Log.length c1, I 2, I x1.leader, I x1.commit, I x1.applied, I x1.timer, .bool (x1.votes 0), .bool (x1.votes 1), .bool (x1.votes 2), .bool (x1.votes 3), .bool (x1.votes 4), I (x1.next 0), I (x1.next 1), I (x1.next 2), I (x1.next 3), I (x1.next 4), I (x1.match_ 0), I (x1.match_ 1), I (x1.match_ 2), I (x1.match_ 3), I (x1.match_ 4), .slice a2 x1.out.length c2, I x1.broken] hst rfl rfl (by kernel_rfl) fun w hst => ?_)
      refine L_pure 2 [(0, pt p1 0), (32, pt p1 0), (37, I (IntKind.i64.wrap (x1.id + 1))), (41, pt p1 10)] (by kernel_rfl) fun b => ?_
      refine L_op rfl (O_store [I x1.id, I x1.n, pt p2 0, I x1.st.Term, I x1.st.Vote, I x1.st.Base, I x1.st.BaseTerm, S x1.st.Snap, .slice a1 x1.st.Log.length c1, I 2, I (IntKind.i64.wrap (x1.id + 1)), I x1.commit, I x1.applied, I x1.timer, .bool (x1.votes 0), .bool (x1.votes 1), .bool (x1.votes 2), .bool (x1.votes 3), .bool (x1.votes 4), I (x1.next 0), I (x1.next 1), I (x1.next 2), I (x1.next 3), I (x1.next 4), I (x1.match_ 0), I (x1.match_ 1), I (x1.match_ 2), I (x1.match_ 3), I (x1.match_ 4), .slice a2 x1.out.length c2, I x1.broken] hst rfl rfl (by kernel_rfl) fun w hst => ?_)
      refine L_pure 2 [(0, pt p1 0), (43, pt p1 13)] (by kernel_rfl) fun b => ?_
      refine L_op rfl (O_store [I x1.id, I x1.n, pt p2 0, I x1.st.Term, I x1.st.Vote, I x1.st.Base, I x1.st.BaseTerm, S x1.st.Snap, .slice a1 x1.st.Log.length c1, I 2, I (IntKind.i64.wrap (x1.id + 1)), I x1.commit, I x1.applied, I 0, .bool (x1.votes 0), .bool (x1.votes 1), .bool (x1.votes 2), .bool (x1.votes 3), .bool (x1.votes 4), I (x1.next 0), I (x1.next 1), I (x1.next 2), I (x1.next 3), I (x1.next 4), I (x1.match_ 0), I (x1.match_ 1), I (x1.match_ 2), I (x1.match_ 3), I (x1.match_ 4), .slice a2 x1.out.length c2, I x1.broken] hst rfl rfl (by kernel_rfl) fun w hst => ?_)
      refine wpL_nil ?_
      refine th_n ?_
      refine wp_seq ?_
      refine wp_seq ?_
      refine wp_reg ?_
      refine L_pure 3 [(0, pt p1 0), (46, pt p1 1)] (by kernel_rfl) fun b => ?_
      refine L_op rfl (O_run (v := I x1.n) (w' := w) (R_load hst rfl rfl) rfl rfl ?_)
      refine L_pure 1 [(0, pt p1 0), (47, I x1.n), (48, I 0)] (by kernel_rfl) fun b => ?_
      refine wpL_nil ?_
      refine th_n ?_
      obtain ⟨y8, hy8, hk6⟩ := bnd hr
      clear hr
      refine Go.Hx.wp_cut (fun a w => ∃ (b : Nat → Value), a = mkF 67 b [(0, pt p1 0)] ∧ St G w (blk p1 (cl [I x1.id, I x1.n, pt p2 0, I x1.st.Term, I x1.st.Vote, I x1.st.Base, I x1.st.BaseTerm, S x1.st.Snap, .slice a1 x1.st.Log.length c1, I 2, I (IntKind.i64.wrap (x1.id + 1)), I x1.commit, I x1.applied, I 0, .bool (x1.votes 0), .bool (x1.votes 1), .bool (x1.votes 2), .bool (x1.votes 3), .bool (x1.votes 4), I (y8.1 0), I (y8.1 1), I (y8.1 2), I (y8.1 3), I (y8.1 4), I (y8.2 0), I (y8.2 1), I (y8.2 2), I (y8.2 3), I (y8.2 4), .slice a2 x1.out.length c2, I x1.broken] 66) :: blk p2 (cl [I x2, I x3, .bool x4, I x5, .map (some p3)] 79) :: mpr S (rPt r_T_platter_file) p3 x6 :: osl r_T_term_Entry 48 a1 c1 x1.st.Log :: osl r_T_raft_Msg 39 a2 c2 x1.out :: F)) ?_ ?_
      · rintro _ w ⟨b, rfl, hst⟩
        have hr := hk6
        refine th_n ?_
        refine wp_reg ?_
        refine L_pure 1 [(65, pt p1 0)] (by kernel_rfl) fun b => ?_
        obtain ⟨y10, hy10, hr⟩ := bnd hr
        refine L_op rfl (O_call (vs := #[pt p1 0, S ([])]) Tryz.call37 (by kernel_rfl) (raft_Node_add_ok k (T_raft_Node.mk x1.id x1.n x1.st 2 (IntKind.i64.wrap (x1.id + 1)) x1.commit x1.applied 0 x1.votes y8.1 y8.2 x1.out x1.broken) x2 x3 x4 x5 x6 ([]) p1 p2 p3 a1 c1 a2 c2 y10 (((((hst.pull 4).pull 4).pull 4).pull 4).pull 4) hy10 fun a7 c7 a8 c8 w hst => ?_))
        refine CK_ret rfl ?_
        refine wpL_nil ?_
        refine bp_normal ?_
        refine ret0 rfl ?_
        obtain rfl := Option.some.inj hr
        have hst := (((((hst.pull 4).pull 4).pull 4).pull 4).pull 4)
        exact hR a7 c7 a8 c8 _ hst
      · have hst := (((((hst.pull 4).pull 4).pull 4).pull 4).pull 4)
        refine wp_block ?_
        refine wp_loop_fuel (fun j a w => ∃ (v18 : Int) (v19 : (Nat → Int)) (v20 : (Nat → Int)) (b : Nat → Value), a = mkF 67 b [(0, pt p1 0), (47, I x1.n), (48, I v18)] ∧ St G w (blk p1 (cl [I x1.id, I x1.n, pt p2 0, I x1.st.Term, I x1.st.Vote, I x1.st.Base, I x1.st.BaseTerm, S x1.st.Snap, .slice a1 x1.st.Log.length c1, I 2, I (IntKind.i64.wrap (x1.id + 1)), I x1.commit, I x1.applied, I 0, .bool (x1.votes 0), .bool (x1.votes 1), .bool (x1.votes 2), .bool (x1.votes 3), .bool (x1.votes 4), I (v19 0), I (v19 1), I (v19 2), I (v19 3), I (v19 4), I (v20 0), I (v20 1), I (v20 2), I (v20 3), I (v20 4), .slice a2 x1.out.length c2, I x1.broken] 66) :: blk p2 (cl [I x2, I x3, .bool x4, I x5, .map (some p3)] 79) :: mpr S (rPt r_T_platter_file) p3 x6 :: osl r_T_term_Entry 48 a1 c1 x1.st.Log :: osl r_T_raft_Msg 39 a2 c2 x1.out :: F) ∧ raft_Node_count_l2 k x1 x2 x3 x4 x5 x6 j v18 v19 v20 = some y8) (k := k) ⟨(0 : Int), x1.next, x1.match_, (kpX [(0, pt p1 0), (47, I x1.n), (48, I 0)] rfl ⟨hst, hy8⟩)⟩ ?_ ?_
        · rintro _ _ ⟨_, _, _, _, _, _, h⟩
          rw [raft_Node_count_l2] at h
          cases h
        · rintro j _ w ⟨v18, v19, v20, b, rfl, hst, hr⟩
          rw [raft_Node_count_l2] at hr
          refine wp_seq ?_
          refine wp_reg ?_
          refine L_pure 1 [(0, pt p1 0), (47, I x1.n), (48, I v18), (49, .bool (decide (v18 < x1.n)))] (by kernel_rfl) fun b => ?_
          refine wpL_nil ?_
          refine th_n ?_
          refine wp_seq ?_
          refine wp_cond_mkF (t := decide (v18 < x1.n)) rfl (fun h => ?_) (fun h => ?_)
          · have hr := (if_pos h).symm.trans hr
            refine wp_skip ?_
            refine th_n ?_
            refine wp_seq ?_
            refine wp_block ?_
            refine wp_seq ?_
            refine wp_reg ?_
            refine L_pure 2 [(0, pt p1 0), (5, I v18), (47, I x1.n), (48, I v18)] (by kernel_rfl) fun b => ?_
            refine wpL_nil ?_
            refine th_n ?_
            refine wp_regG (SP 10 (fun w => St G w (blk p1 (cl [I x1.id, I x1.n, pt p2 0, I x1.st.Term, I x1.st.Vote, I x1.st.Base, I x1.st.BaseTerm, S x1.st.Snap, .slice a1 x1.st.Log.length c1, I 2, I (IntKind.i64.wrap (x1.id + 1)), I x1.commit, I x1.applied, I 0, .bool (x1.votes 0), .bool (x1.votes 1), .bool (x1.votes 2), .bool (x1.votes 3), .bool (x1.votes 4), I (v19 0), I (v19 1), I (v19 2), I (v19 3), I (v19 4), I (v20 0), I (v20 1), I (v20 2), I (v20 3), I (v20 4), .slice a2 x1.out.length c2, I x1.broken] 66) :: blk p2 (cl [I x2, I x3, .bool x4, I x5, .map (some p3)] 79) :: mpr S (rPt r_T_platter_file) p3 x6 :: osl r_T_term_Entry 48 a1 c1 x1.st.Log :: osl r_T_raft_Msg 39 a2 c2 x1.out :: F))) rfl ?_
            have hst := hst.draw (n := w.drawn + 1)
            generalize { w with drawn := w.drawn + 1 } = w at hst ⊢
            refine P_pure (i := 0) (v := pt p1 0) 10 rfl rfl (by kernel_rfl) (fun _ _ _ h => h) rfl rfl rfl (by kernel_rfl) (.inr (((((hst.pull 4).pull 4).pull 4).pull 4).pull 4)) ?_
            refine P_pure (i := 1) (v := I v18) 10 rfl rfl (by kernel_rfl) (fun _ _ _ h => h) rfl rfl rfl (by kernel_rfl) (.inr (((((hst.pull 4).pull 4).pull 4).pull 4).pull 4)) ?_
            refine P_pure (i := 2) (v := pt p1 0) 10 rfl rfl (by kernel_rfl) (fun _ _ _ h => h) rfl rfl rfl (by kernel_rfl) (.inr (((((hst.pull 4).pull 4).pull 4).pull 4).pull 4)) ?_
            refine P_pure (i := 3) (v := I v18) 10 rfl rfl (by kernel_rfl) (fun _ _ _ h => h) rfl rfl rfl (by kernel_rfl) (.inr (((((hst.pull 4).pull 4).pull 4).pull 4).pull 4)) ?_
            refine P_pure (i := 4) (v := pt p1 0) 10 rfl rfl (by kernel_rfl) (fun _ _ _ h => h) rfl rfl rfl (by kernel_rfl) (.inr (((((hst.pull 4).pull 4).pull 4).pull 4).pull 4)) ?_
            refine P_pure (i := 7) (v := pt p1 0) 10 rfl rfl (by kernel_rfl) (fun _ _ _ h => h) rfl rfl rfl (by kernel_rfl) (.inr (((((hst.pull 4).pull 4).pull 4).pull 4).pull 4)) ?_
            refine P_pure (i := 8) (v := pt p1 19) 10 rfl rfl (by kernel_rfl) (fun _ _ _ h => h) rfl rfl rfl (by kernel_rfl) (.inr (((((hst.pull 4).pull 4).pull 4).pull 4).pull 4)) ?_
            refine P_pure (i := 11) (v := pt p1 0) 10 rfl rfl (by kernel_rfl) (fun _ _ _ h => h) rfl rfl rfl (by kernel_rfl) (.inr (((((hst.pull 4).pull 4).pull 4).pull 4).pull 4)) ?_
            refine P_pure (i := 12) (v := pt p1 24) 10 rfl rfl (by kernel_rfl) (fun _ _ _ h => h) rfl rfl rfl (by kernel_rfl) (.inr (((((hst.pull 4).pull 4).pull 4).pull 4).pull 4)) ?_
            obtain ⟨y9, hy9, hr⟩ := bnd hr
            refine P_one (i := 5) 10 (by kernel_rfl) rfl rfl (O_call (vs := #[pt p1 0]) Tryz.call8 (by kernel_rfl) (raft_Node_Last_ok k (T_raft_Node.mk x1.id x1.n x1.st 2 (IntKind.i64.wrap (x1.id + 1)) x1.commit x1.applied 0 x1.votes v19 v20 x1.out x1.broken) x2 x3 x4 x5 x6 p1 p2 p3 a1 c1 a2 c2 y9 (((((hst.pull 4).pull 4).pull 4).pull 4).pull 4) hy9 fun w hst => ?_))
            refine CK_ret rfl ?_
            refine ⟨(((((hst.pull 4).pull 4).pull 4).pull 4).pull 4), ?_⟩
            refine P_pure (i := 6) (v := I (IntKind.i64.wrap (y9 + 1))) 10 rfl rfl (by kernel_rfl) (fun _ _ _ h => h) rfl rfl rfl (by kernel_rfl) (.inr (((((hst.pull 4).pull 4).pull 4).pull 4).pull 4)) ?_
            obtain ⟨hb7, hr⟩ := chk hr
            refine P_any (i := 9) (v := pt p1 (19 + v18.toNat)) 10 rfl rfl (by kernel_rfl) (fun _ _ _ h => h) rfl rfl rfl (fun w => (R_iaA A64 rfl rfl hb7)) (.inr (((((hst.pull 4).pull 4).pull 4).pull 4).pull 4)) ?_
            refine P_act (i := 10) 10 (by kernel_rfl) rfl rfl (by kernel_rfl) (O_store [I x1.id, I x1.n, pt p2 0, I x1.st.Term, I x1.st.Vote, I x1.st.Base, I x1.st.BaseTerm, S x1.st.Snap, .slice a1 x1.st.Log.length c1, I 2, I (IntKind.i64.wrap (x1.id + 1)), I x1.commit, I x1.applied, I 0, .bool (x1.votes 0), .bool (x1.votes 1), .bool (x1.votes 2), .bool (x1.votes 3), .bool (x1.votes 4), I ((upd v19 v18.toNat (IntKind.i64.wrap (y9 + 1))) 0), I ((upd v19 v18.toNat (IntKind.i64.wrap (y9 + 1))) 1), I ((upd v19 v18.toNat (IntKind.i64.wrap (y9 + 1))) 2), I ((upd v19 v18.toNat (IntKind.i64.wrap (y9 + 1))) 3), I ((upd v19 v18.toNat (IntKind.i64.wrap (y9 + 1))) 4), I (v20 0), I (v20 1), I (v20 2), I (v20 3), I (v20 4), .slice a2 x1.out.length c2, I x1.broken] hst rfl rfl (by rcases in5 (show 0 ≤ v18 ∧ v18 < 5 by omega) with h | h | h | h | h <;> rw [h] <;> rfl) fun w hst => ?_)
            obtain ⟨hb8, hr⟩ := chk hr
            refine P_any (i := 13) (v := pt p1 (24 + v18.toNat)) 10 rfl rfl (by kernel_rfl) (fun _ _ _ h => h) rfl rfl rfl (fun w => (R_iaA A64 rfl rfl hb8)) (.inl (by kernel_rfl)) ?_
            refine P_act (i := 14) 10 (by kernel_rfl) rfl rfl (by kernel_rfl) (O_store [I x1.id, I x1.n, pt p2 0, I x1.st.Term, I x1.st.Vote, I x1.st.Base, I x1.st.BaseTerm, S x1.st.Snap, .slice a1 x1.st.Log.length c1, I 2, I (IntKind.i64.wrap (x1.id + 1)), I x1.commit, I x1.applied, I 0, .bool (x1.votes 0), .bool (x1.votes 1), .bool (x1.votes 2), .bool (x1.votes 3), .bool (x1.votes 4), I ((upd v19 v18.toNat (IntKind.i64.wrap (y9 + 1))) 0), I ((upd v19 v18.toNat (IntKind.i64.wrap (y9 + 1))) 1), I ((upd v19 v18.toNat (IntKind.i64.wrap (y9 + 1))) 2), I ((upd v19 v18.toNat (IntKind.i64.wrap (y9 + 1))) 3), I ((upd v19 v18.toNat (IntKind.i64.wrap (y9 + 1))) 4), I ((upd v20 v18.toNat (0 : Int)) 0), I ((upd v20 v18.toNat (0 : Int)) 1), I ((upd v20 v18.toNat (0 : Int)) 2), I ((upd v20 v18.toNat (0 : Int)) 3), I ((upd v20 v18.toNat (0 : Int)) 4), .slice a2 x1.out.length c2, I x1.broken] hst rfl rfl (by rcases in5 (show 0 ≤ v18 ∧ v18 < 5 by omega) with h | h | h | h | h <;> rw [h] <;> rfl) fun w hst => ?_)
            refine wpG_done (by kernel_rfl) ?_ _
            refine C_keepQ [(0, pt p1 0), (47, I x1.n), (48, I v18)] rfl fun b => ?_
            refine ib_n (th_n ?_)
            refine wp_reg ?_
            refine L_pure 2 [(0, pt p1 0), (47, I x1.n), (48, I (IntKind.i64.wrap (v18 + 1)))] (by kernel_rfl) fun b => ?_
            refine wpL_nil ?_
            refine th_n ?_
            have hst := (((((hst.pull 4).pull 4).pull 4).pull 4).pull 4)
            exact ⟨(IntKind.i64.wrap (v18 + 1)), (upd v19 v18.toNat (IntKind.i64.wrap (y9 + 1))), (upd v20 v18.toNat (0 : Int)), (kpX [(0, pt p1 0), (47, I x1.n), (48, I (IntKind.i64.wrap (v18 + 1)))] rfl ⟨hst, hr⟩)⟩
          · have hr := (if_neg (by rw [h]; exact Bool.false_ne_true)).symm.trans hr
            refine wp_exit ?_
            refine th_x (th_x (ib_x (th_n ?_)))
            obtain rfl := Option.some.inj hr
            have hst := (((((hst.pull 4).pull 4).pull 4).pull 4).pull 4)
            exact (kpX [(0, pt p1 0)] rfl hst)
  · have hst := (((((hst.pull 4).pull 4).pull 4).pull 4).pull 4)
    refine wp_block ?_
    refine wp_loop_fuel (fun j a w => ∃ (v13 : Int) (v14 : Int) (b : Nat → Value), a = mkF 67 b [(0, pt p1 0), (2, I v13), (13, .slice (some ⟨p1, 14, none⟩) x1.n.toNat 5), (14, I (x1.n.toNat : Int)), (15, I v14)] ∧ St G w (blk p1 (cl [I x1.id, I x1.n, pt p2 0, I x1.st.Term, I x1.st.Vote, I x1.st.Base, I x1.st.BaseTerm, S x1.st.Snap, .slice a1 x1.st.Log.length c1, I x1.role, I x1.leader, I x1.commit, I x1.applied, I x1.timer, .bool (x1.votes 0), .bool (x1.votes 1), .bool (x1.votes 2), .bool (x1.votes 3), .bool (x1.votes 4), I (x1.next 0), I (x1.next 1), I (x1.next 2), I (x1.next 3), I (x1.next 4), I (x1.match_ 0), I (x1.match_ 1), I (x1.match_ 2), I (x1.match_ 3), I (x1.match_ 4), .slice a2 x1.out.length c2, I x1.broken] 66) :: blk p2 (cl [I x2, I x3, .bool x4, I x5, .map (some p3)] 79) :: mpr S (rPt r_T_platter_file) p3 x6 :: osl r_T_term_Entry 48 a1 c1 x1.st.Log :: osl r_T_raft_Msg 39 a2 c2 x1.out :: F) ∧ raft_Node_count_l1 k x1 j v13 v14 = some y6) (k := k) ⟨(0 : Int), (0 : Int), (kpX [(0, pt p1 0), (2, I 0), (13, .slice (some ⟨p1, 14, none⟩) x1.n.toNat 5), (14, I (x1.n.toNat : Int)), (15, I 0)] rfl ⟨hst, hy6⟩)⟩ ?_ ?_
    · rintro _ _ ⟨_, _, _, _, _, h⟩
      rw [raft_Node_count_l1] at h
      cases h
    · rintro j _ w ⟨v13, v14, b, rfl, hst, hr⟩
      rw [raft_Node_count_l1] at hr
      refine wp_seq ?_
      refine wp_reg ?_
      refine L_pure 1 [(0, pt p1 0), (2, I v13), (13, .slice (some ⟨p1, 14, none⟩) x1.n.toNat 5), (14, I (x1.n.toNat : Int)), (15, I v14), (16, .bool (decide (v14 < (x1.n.toNat : Int))))] (by kernel_rfl) fun b => ?_
      refine wpL_nil ?_
      refine th_n ?_
      refine wp_seq ?_
      refine wp_cond_mkF (t := decide (v14 < (x1.n.toNat : Int))) rfl (fun h => ?_) (fun h => ?_)
      · have hr := (if_pos h).symm.trans hr
        refine wp_skip ?_
        refine th_n ?_
        obtain ⟨y7, hy7, hk5⟩ := bnd hr
        clear hr
        refine wp_seq_cut (fun a w => ∃ (b : Nat → Value), a = mkF 67 b [(0, pt p1 0), (2, I y7), (13, .slice (some ⟨p1, 14, none⟩) x1.n.toNat 5), (14, I (x1.n.toNat : Int)), (15, I v14)] ∧ St G w (blk p1 (cl [I x1.id, I x1.n, pt p2 0, I x1.st.Term, I x1.st.Vote, I x1.st.Base, I x1.st.BaseTerm, S x1.st.Snap, .slice a1 x1.st.Log.length c1, I x1.role, I x1.leader, I x1.commit, I x1.applied, I x1.timer, .bool (x1.votes 0), .bool (x1.votes 1), .bool (x1.votes 2), .bool (x1.votes 3), .bool (x1.votes 4), I (x1.next 0), I (x1.next 1), I (x1.next 2), I (x1.next 3), I (x1.next 4), I (x1.match_ 0), I (x1.match_ 1), I (x1.match_ 2), I (x1.match_ 3), I (x1.match_ 4), .slice a2 x1.out.length c2, I x1.broken] 66) :: blk p2 (cl [I x2, I x3, .bool x4, I x5, .map (some p3)] 79) :: mpr S (rPt r_T_platter_file) p3 x6 :: osl r_T_term_Entry 48 a1 c1 x1.st.Log :: osl r_T_raft_Msg 39 a2 c2 x1.out :: F)) ?_ ?_
        · rintro _ w ⟨b, rfl, hst⟩
          have hr := hk5
          refine wp_reg ?_
          refine L_pure 2 [(0, pt p1 0), (2, I y7), (13, .slice (some ⟨p1, 14, none⟩) x1.n.toNat 5), (14, I (x1.n.toNat : Int)), (15, I (IntKind.i64.wrap (v14 + 1)))] (by kernel_rfl) fun b => ?_
          refine wpL_nil ?_
          refine th_n ?_
          have hst := (((((hst.pull 4).pull 4).pull 4).pull 4).pull 4)
          exact ⟨y7, (IntKind.i64.wrap (v14 + 1)), (kpX [(0, pt p1 0), (2, I y7), (13, .slice (some ⟨p1, 14, none⟩) x1.n.toNat 5), (14, I (x1.n.toNat : Int)), (15, I (IntKind.i64.wrap (v14 + 1)))] rfl ⟨hst, hr⟩)⟩
        · have hr := hy7
          refine wp_block ?_
          refine wp_seq ?_
          refine wp_reg ?_
          obtain ⟨hb6, hr⟩ := chk hr
          refine L_op rfl (O_run (v := pt p1 (14 + v14.toNat)) (w' := w) (R_iaS L95 rfl rfl hb6) rfl rfl ?_)
          refine L_op rfl (O_run (v := .bool (x1.votes v14.toNat)) (w' := w) (R_load hst rfl (by rcases in5 (show 0 ≤ v14 ∧ v14 < 5 by omega) with h | h | h | h | h <;> rw [h] <;> rfl)) rfl rfl ?_)
          refine L_pure 1 [(0, pt p1 0), (2, I v13), (4, .bool (x1.votes v14.toNat)), (13, .slice (some ⟨p1, 14, none⟩) x1.n.toNat 5), (14, I (x1.n.toNat : Int)), (15, I v14)] (by kernel_rfl) fun b => ?_
          refine wpL_nil ?_
          refine th_n ?_
          refine wp_seq ?_
          refine wp_reg ?_
          refine L_pure 1 [(0, pt p1 0), (2, I v13), (13, .slice (some ⟨p1, 14, none⟩) x1.n.toNat 5), (14, I (x1.n.toNat : Int)), (15, I v14), (19, .bool (x1.votes v14.toNat))] (by kernel_rfl) fun b => ?_
          refine wpL_nil ?_
          refine th_n ?_
          refine wp_cond_mkF (t := (x1.votes v14.toNat)) rfl (fun h => ?_) (fun h => ?_)
          · have hr := (if_pos h).symm.trans hr
            refine wp_reg ?_
            refine L_pure 3 [(0, pt p1 0), (2, I (IntKind.i64.wrap (v13 + 1))), (13, .slice (some ⟨p1, 14, none⟩) x1.n.toNat 5), (14, I (x1.n.toNat : Int)), (15, I v14)] (by kernel_rfl) fun b => ?_
            refine wpL_nil ?_
            refine ib_n (th_n ?_)
            obtain rfl := Option.some.inj hr
            have hst := (((((hst.pull 4).pull 4).pull 4).pull 4).pull 4)
            exact (kpX [(0, pt p1 0), (2, I (IntKind.i64.wrap (v13 + 1))), (13, .slice (some ⟨p1, 14, none⟩) x1.n.toNat 5), (14, I (x1.n.toNat : Int)), (15, I v14)] rfl hst)
          · have hr := (if_neg (by rw [h]; exact Bool.false_ne_true)).symm.trans hr
            refine wp_skip ?_
            refine ib_n (th_n ?_)
            obtain rfl := Option.some.inj hr
            have hst := (((((hst.pull 4).pull 4).pull 4).pull 4).pull 4)
            exact (kpX [(0, pt p1 0), (2, I v13), (13, .slice (some ⟨p1, 14, none⟩) x1.n.toNat 5), (14, I (x1.n.toNat : Int)), (15, I v14)] rfl hst)
      · have hr := (if_neg (by rw [h]; exact Bool.false_ne_true)).symm.trans hr
        refine wp_exit ?_
        refine th_x (th_x (ib_x (th_n ?_)))
        obtain rfl := Option.some.inj hr
        have hst := (((((hst.pull 4).pull 4).pull 4).pull 4).pull 4)
        exact (kpX [(0, pt p1 0), (2, I v13)] rfl hst)
def raft_Node_stand_l1 (k : Nat) (x2 : Int) (x4 : Bool) (y9 : (Bool × T_raft_Node × Int × Int × (List ((List UInt8) × (Option T_platter_file))))) (y10 : (Int × Int)) : Nat → Int → T_raft_Node → Option (T_raft_Node)
  | 0, _, _ => none
  | j + 1, v7, v8 => (if decide (v7 < y9.2.1.n) = true then (Option.bind (if (v7 != v8.id) = true then (Option.bind (raft_Node_send k v8 x2 y9.2.2.1 x4 y9.2.2.2.1 y9.2.2.2.2 (T_raft_Msg.mk 1 0 v7 0 y10.1 y10.2 0 false ([]) ([]))) fun y13 => some (y13)) else some (v8)) fun y12 => (raft_Node_stand_l1 k x2 x4 y9 y10 j (IntKind.i64.wrap (v7 + 1)) y12)) else some (v8))
def raft_Node_stand (k : Nat) (x1 : T_raft_Node) (x2 : Int) (x3 : Int) (x4 : Bool) (x5 : Int) (x6 : (List ((List UInt8) × (Option T_platter_file)))) : Option (T_raft_Node × Int × Int × (List ((List UInt8) × (Option T_platter_file)))) := (Option.bind (raft_Node_turn k x1 x2 x3 x4 x5 x6 (IntKind.i64.wrap (x1.st.Term + 1)) (IntKind.i64.wrap (x1.id + 1))) fun y9 => (if (!y9.1) = true then some (y9.2.1, y9.2.2.1, y9.2.2.2.1, y9.2.2.2.2) else (if 0 ≤ y9.2.1.id ∧ y9.2.1.id < 5 then (Option.bind (term_State_Last k (T_raft_Node.mk y9.2.1.id y9.2.1.n y9.2.1.st 1 y9.2.1.leader y9.2.1.commit y9.2.1.applied 0 (upd (fun _ => false) y9.2.1.id.toNat true) y9.2.1.next y9.2.1.match_ y9.2.1.out y9.2.1.broken) x2 y9.2.2.1 x4 y9.2.2.2.1 y9.2.2.2.2) fun y10 => (Option.bind (raft_Node_stand_l1 k x2 x4 y9 y10 k (0 : Int) (T_raft_Node.mk y9.2.1.id y9.2.1.n y9.2.1.st 1 y9.2.1.leader y9.2.1.commit y9.2.1.applied 0 (upd (fun _ => false) y9.2.1.id.toNat true) y9.2.1.next y9.2.1.match_ y9.2.1.out y9.2.1.broken)) fun y11 => (Option.bind (raft_Node_count k y11 x2 y9.2.2.1 x4 y9.2.2.2.1 y9.2.2.2.2) fun y14 => some (y14.1, y14.2.1, y14.2.2.1, y14.2.2.2)))) else none)))
set_option maxRecDepth 100000 in
set_option maxHeartbeats 4000000 in
theorem raft_Node_stand_ok {G w : World} {F : List HP} {R : Ending → World → Prop} (k : Nat) (x1 : T_raft_Node) (x2 : Int) (x3 : Int) (x4 : Bool) (x5 : Int) (x6 : (List ((List UInt8) × (Option T_platter_file)))) (p1 : Nat) (p2 : Nat) (p3 : Nat) (a1 : Option Addr) (c1 : Nat) (a2 : Option Addr) (c2 : Nat) (r : (T_raft_Node × Int × Int × (List ((List UInt8) × (Option T_platter_file))))) (hst : St G w (blk p1 (cl [I x1.id, I x1.n, pt p2 0, I x1.st.Term, I x1.st.Vote, I x1.st.Base, I x1.st.BaseTerm, S x1.st.Snap, .slice a1 x1.st.Log.length c1, I x1.role, I x1.leader, I x1.commit, I x1.applied, I x1.timer, .bool (x1.votes 0), .bool (x1.votes 1), .bool (x1.votes 2), .bool (x1.votes 3), .bool (x1.votes 4), I (x1.next 0), I (x1.next 1), I (x1.next 2), I (x1.next 3), I (x1.next 4), I (x1.match_ 0), I (x1.match_ 1), I (x1.match_ 2), I (x1.match_ 3), I (x1.match_ 4), .slice a2 x1.out.length c2, I x1.broken] 66) :: blk p2 (cl [I x2, I x3, .bool x4, I x5, .map (some p3)] 79) :: mpr S (rPt r_T_platter_file) p3 x6 :: osl r_T_term_Entry 48 a1 c1 x1.st.Log :: osl r_T_raft_Msg 39 a2 c2 x1.out :: F)) (hr : raft_Node_stand k x1 x2 x3 x4 x5 x6 = some r)
    (hR : ∀ (a19 : Option Addr) (c19 : Nat) (a20 : Option Addr) (c20 : Nat) w', St G w' (osl r_T_term_Entry 48 a19 c19 r.1.st.Log :: osl r_T_raft_Msg 39 a20 c20 r.1.out :: blk p1 (cl [I r.1.id, I r.1.n, pt p2 0, I r.1.st.Term, I r.1.st.Vote, I r.1.st.Base, I r.1.st.BaseTerm, S r.1.st.Snap, .slice a19 r.1.st.Log.length c19, I r.1.role, I r.1.leader, I r.1.commit, I r.1.applied, I r.1.timer, .bool (r.1.votes 0), .bool (r.1.votes 1), .bool (r.1.votes 2), .bool (r.1.votes 3), .bool (r.1.votes 4), I (r.1.next 0), I (r.1.next 1), I (r.1.next 2), I (r.1.next 3), I (r.1.next 4), I (r.1.match_ 0), I (r.1.match_ 1), I (r.1.match_ 2), I (r.1.match_ 3), I (r.1.match_ 4), .slice a20 r.1.out.length c20, I r.1.broken] 66) :: blk p2 (cl [I x2, I r.2.1, .bool x4, I r.2.2.1, .map (some p3)] 79) :: mpr S (rPt r_T_platter_file) p3 r.2.2.2 :: F) → R (.returned (.tuple #[])) w') :
    Calls Tryz.prog 34 #[pt p1 0] w R := by
  unfold raft_Node_stand at hr
  refine enter Tryz.func34 rfl [(0, pt p1 0)] rfl rfl fun b => ?_
  refine wp_seq ?_
  refine wp_seq ?_
  refine wp_regG (SP 12 (fun w => St G w (blk p1 (cl [I x1.id, I x1.n, pt p2 0, I x1.st.Term, I x1.st.Vote, I x1.st.Base, I x1.st.BaseTerm, S x1.st.Snap, .slice a1 x1.st.Log.length c1, I x1.role, I x1.leader, I x1.commit, I x1.applied, I x1.timer, .bool (x1.votes 0), .bool (x1.votes 1), .bool (x1.votes 2), .bool (x1.votes 3), .bool (x1.votes 4), I (x1.next 0), I (x1.next 1), I (x1.next 2), I (x1.next 3), I (x1.next 4), I (x1.match_ 0), I (x1.match_ 1), I (x1.match_ 2), I (x1.match_ 3), I (x1.match_ 4), .slice a2 x1.out.length c2, I x1.broken] 66) :: blk p2 (cl [I x2, I x3, .bool x4, I x5, .map (some p3)] 79) :: mpr S (rPt r_T_platter_file) p3 x6 :: osl r_T_term_Entry 48 a1 c1 x1.st.Log :: osl r_T_raft_Msg 39 a2 c2 x1.out :: F))) rfl ?_
  have hst := hst.draw (n := w.drawn + 1)
  generalize { w with drawn := w.drawn + 1 } = w at hst ⊢
  refine P_pure (i := 0) (v := pt p1 0) 12 rfl rfl (by kernel_rfl) (fun _ _ _ h => h) rfl rfl rfl (by kernel_rfl) (.inr (((((hst.pull 4).pull 4).pull 4).pull 4).pull 4)) ?_
  refine P_pure (i := 1) (v := pt p1 0) 12 rfl rfl (by kernel_rfl) (fun _ _ _ h => h) rfl rfl rfl (by kernel_rfl) (.inr (((((hst.pull 4).pull 4).pull 4).pull 4).pull 4)) ?_
  refine P_pure (i := 2) (v := pt p1 0) 12 rfl rfl (by kernel_rfl) (fun _ _ _ h => h) rfl rfl rfl (by kernel_rfl) (.inr (((((hst.pull 4).pull 4).pull 4).pull 4).pull 4)) ?_
  refine P_pure (i := 3) (v := pt p1 3) 12 rfl rfl (by kernel_rfl) (fun _ _ _ h => h) rfl rfl rfl (by kernel_rfl) (.inr (((((hst.pull 4).pull 4).pull 4).pull 4).pull 4)) ?_
  refine P_pure (i := 4) (v := pt p1 3) 12 rfl rfl (by kernel_rfl) (fun _ _ _ h => h) rfl rfl rfl (by kernel_rfl) (.inr (((((hst.pull 4).pull 4).pull 4).pull 4).pull 4)) ?_
  refine P_take (i := 5) (v := I x1.st.Term) 12 [6, 5] (by kernel_rfl) rfl (by kernel_rfl) (fun _ _ _ h => h) rfl rfl rfl (fun w hst => R_load hst rfl rfl) ((((((hst.pull 4).pull 4).pull 4).pull 4).pull 4)) ?_
  refine P_pure (i := 6) (v := I (IntKind.i64.wrap (x1.st.Term + 1))) 12 rfl rfl (by kernel_rfl) (fun _ _ _ h => h) rfl rfl rfl (by kernel_rfl) (.inr (((((hst.pull 4).pull 4).pull 4).pull 4).pull 4)) ?_
  refine P_pure (i := 7) (v := pt p1 0) 12 rfl rfl (by kernel_rfl) (fun _ _ _ h => h) rfl rfl rfl (by kernel_rfl) (.inr (((((hst.pull 4).pull 4).pull 4).pull 4).pull 4)) ?_
  refine P_pure (i := 8) (v := pt p1 0) 12 rfl rfl (by kernel_rfl) (fun _ _ _ h => h) rfl rfl rfl (by kernel_rfl) (.inr (((((hst.pull 4).pull 4).pull 4).pull 4).pull 4)) ?_
  refine P_pure (i := 9) (v := pt p1 0) 12 rfl rfl (by kernel_rfl) (fun _ _ _ h => h) rfl rfl rfl (by kernel_rfl) (.inr (((((hst.pull 4).pull 4).pull 4).pull 4).pull 4)) ?_
  refine P_take (i := 10) (v := I x1.id) 12 [11, 10] (by kernel_rfl) rfl (by kernel_rfl) (fun _ _ _ h => h) rfl rfl rfl (fun w hst => R_load hst rfl rfl) ((((((hst.pull 4).pull 4).pull 4).pull 4).pull 4)) ?_
  refine P_pure (i := 11) (v := I (IntKind.i64.wrap (x1.id + 1))) 12 rfl rfl (by kernel_rfl) (fun _ _ _ h => h) rfl rfl rfl (by kernel_rfl) (.inr (((((hst.pull 4).pull 4).pull 4).pull 4).pull 4)) ?_
  obtain ⟨y9, hy9, hr⟩ := bnd hr
  refine P_act (i := 12) 12 (by kernel_rfl) rfl rfl (by kernel_rfl) (O_call (vs := #[pt p1 0, I (IntKind.i64.wrap (x1.st.Term + 1)), I (IntKind.i64.wrap (x1.id + 1))]) Tryz.call45 (by kernel_rfl) (raft_Node_turn_ok k x1 x2 x3 x4 x5 x6 (IntKind.i64.wrap (x1.st.Term + 1)) (IntKind.i64.wrap (x1.id + 1)) p1 p2 p3 a1 c1 a2 c2 y9 (((((hst.pull 4).pull 4).pull 4).pull 4).pull 4) hy9 fun a23 c23 a24 c24 w hst => ?_))
  refine CK_ret rfl ?_
  refine P_pure (i := 13) (v := .bool (!y9.1)) 12 rfl rfl (by kernel_rfl) (fun _ _ _ h => h) rfl rfl rfl (by kernel_rfl) (.inl (by kernel_rfl)) ?_
  refine wpG_done (by kernel_rfl) ?_ _
  refine C_keepQ [(0, pt p1 0), (18, .bool (!y9.1))] rfl fun b => ?_
  refine th_n ?_
  refine wp_cond_mkF (t := (!y9.1)) rfl (fun h => ?_) (fun h => ?_)
  · have hr := (if_pos h).symm.trans hr
    refine wp_ret ?_
    refine th_r ?_
    refine ret0 rfl ?_
    obtain rfl := Option.some.inj hr
    have hst := (((((hst.pull 4).pull 4).pull 4).pull 4).pull 4)
    exact hR a23 c23 a24 c24 _ hst
  · have hr := (if_neg (by rw [h]; exact Bool.false_ne_true)).symm.trans hr
    refine wp_skip ?_
    refine th_n ?_
    refine wp_seq ?_
    refine wp_reg ?_
    refine L_pure 4 [(0, pt p1 0), (20, pt p1 0), (22, pt p1 9)] (by kernel_rfl) fun b => ?_
    refine L_op rfl (O_store [I y9.2.1.id, I y9.2.1.n, pt p2 0, I y9.2.1.st.Term, I y9.2.1.st.Vote, I y9.2.1.st.Base, I y9.2.1.st.BaseTerm, S y9.2.1.st.Snap, .slice a23 y9.2.1.st.Log.length c23, I 1, I y9.2.1.leader, I y9.2.1.commit, I y9.2.1.applied, I y9.2.1.timer, .bool (y9.2.1.votes 0), .bool (y9.2.1.votes 1), .bool (y9.2.1.votes 2), .bool (y9.2.1.votes 3), .bool (y9.2.1.votes 4), I (y9.2.1.next 0), I (y9.2.1.next 1), I (y9.2.1.next 2), I (y9.2.1.next 3), I (y9.2.1.next 4), I (y9.2.1.match_ 0), I (y9.2.1.match_ 1), I (y9.2.1.match_ 2), I (y9.2.1.match_ 3), I (y9.2.1.match_ 4), .slice a24 y9.2.1.out.length c24, I y9.2.1.broken] (hst.pull 2) rfl rfl (by kernel_rfl) fun w hst => ?_)
    refine L_pure 2 [(0, pt p1 0), (24, pt p1 13)] (by kernel_rfl) fun b => ?_
    refine L_op rfl (O_store [I y9.2.1.id, I y9.2.1.n, pt p2 0, I y9.2.1.st.Term, I y9.2.1.st.Vote, I y9.2.1.st.Base, I y9.2.1.st.BaseTerm, S y9.2.1.st.Snap, .slice a23 y9.2.1.st.Log.length c23, I 1, I y9.2.1.leader, I y9.2.1.commit, I y9.2.1.applied, I 0, .bool (y9.2.1.votes 0), .bool (y9.2.1.votes 1), .bool (y9.2.1.votes 2), .bool (y9.2.1.votes 3), .bool (y9.2.1.votes 4), I (y9.2.1.next 0), I (y9.2.1.next 1), I (y9.2.1.next 2), I (y9.2.1.next 3), I (y9.2.1.next 4), I (y9.2.1.match_ 0), I (y9.2.1.match_ 1), I (y9.2.1.match_ 2), I (y9.2.1.match_ 3), I (y9.2.1.match_ 4), .slice a24 y9.2.1.out.length c24, I y9.2.1.broken] hst rfl rfl (by kernel_rfl) fun w hst => ?_)
    refine wpL_nil ?_
    refine th_n ?_
    refine wp_seq ?_
    refine wp_reg ?_
    refine L_pure 4 [(0, pt p1 0), (26, .agg #[.bool false, .bool false, .bool false, .bool false, .bool false]), (28, pt p1 14)] (by kernel_rfl) fun b => ?_
    refine L_op rfl (O_store [I y9.2.1.id, I y9.2.1.n, pt p2 0, I y9.2.1.st.Term, I y9.2.1.st.Vote, I y9.2.1.st.Base, I y9.2.1.st.BaseTerm, S y9.2.1.st.Snap, .slice a23 y9.2.1.st.Log.length c23, I 1, I y9.2.1.leader, I y9.2.1.commit, I y9.2.1.applied, I 0, .bool false, .bool false, .bool false, .bool false, .bool false, I (y9.2.1.next 0), I (y9.2.1.next 1), I (y9.2.1.next 2), I (y9.2.1.next 3), I (y9.2.1.next 4), I (y9.2.1.match_ 0), I (y9.2.1.match_ 1), I (y9.2.1.match_ 2), I (y9.2.1.match_ 3), I (y9.2.1.match_ 4), .slice a24 y9.2.1.out.length c24, I y9.2.1.broken] hst rfl rfl (by kernel_rfl) fun w hst => ?_)
    refine wpL_nil ?_
    refine th_n ?_
    refine wp_seq ?_
    refine wp_regG (SP 8 (fun w => St G w (blk p1 (cl [I y9.2.1.id, I y9.2.1.n, pt p2 0, I y9.2.1.st.Term, I y9.2.1.st.Vote, I y9.2.1.st.Base, I y9.2.1.st.BaseTerm, S y9.2.1.st.Snap, .slice a23 y9.2.1.st.Log.length c23, I 1, I y9.2.1.leader, I y9.2.1.commit, I y9.2.1.applied, I 0, .bool false, .bool false, .bool false, .bool false, .bool false, I (y9.2.1.next 0), I (y9.2.1.next 1), I (y9.2.1.next 2), I (y9.2.1.next 3), I (y9.2.1.next 4), I (y9.2.1.match_ 0), I (y9.2.1.match_ 1), I (y9.2.1.match_ 2), I (y9.2.1.match_ 3), I (y9.2.1.match_ 4), .slice a24 y9.2.1.out.length c24, I y9.2.1.broken] 66) :: osl r_T_term_Entry 48 a23 c23 y9.2.1.st.Log :: osl r_T_raft_Msg 39 a24 c24 y9.2.1.out :: blk p2 (cl [I x2, I y9.2.2.1, .bool x4, I y9.2.2.2.1, .map (some p3)] 79) :: mpr S (rPt r_T_platter_file) p3 y9.2.2.2.2 :: F))) rfl ?_
    have hst := hst.draw (n := w.drawn + 1)
    generalize { w with drawn := w.drawn + 1 } = w at hst ⊢
    refine P_pure (i := 0) (v := pt p1 0) 8 rfl rfl (by kernel_rfl) (fun _ _ _ h => h) rfl rfl rfl (by kernel_rfl) (.inr (((((hst.pull 4).pull 4).pull 4).pull 4).pull 4)) ?_
    refine P_pure (i := 1) (v := pt p1 0) 8 rfl rfl (by kernel_rfl) (fun _ _ _ h => h) rfl rfl rfl (by kernel_rfl) (.inr (((((hst.pull 4).pull 4).pull 4).pull 4).pull 4)) ?_
    refine P_pure (i := 2) (v := pt p1 0) 8 rfl rfl (by kernel_rfl) (fun _ _ _ h => h) rfl rfl rfl (by kernel_rfl) (.inr (((((hst.pull 4).pull 4).pull 4).pull 4).pull 4)) ?_
    refine P_pure (i := 3) (v := pt p1 0) 8 rfl rfl (by kernel_rfl) (fun _ _ _ h => h) rfl rfl rfl (by kernel_rfl) (.inr (((((hst.pull 4).pull 4).pull 4).pull 4).pull 4)) ?_
    refine P_take (i := 4) (v := I y9.2.1.id) 8 [4] (by kernel_rfl) rfl (by kernel_rfl) (fun _ _ _ h => h) rfl rfl rfl (fun w hst => R_load hst rfl rfl) ((((((hst.pull 4).pull 4).pull 4).pull 4).pull 4)) ?_
    refine P_pure (i := 5) (v := pt p1 0) 8 rfl rfl (by kernel_rfl) (fun _ _ _ h => h) rfl rfl rfl (by kernel_rfl) (.inr (((((hst.pull 4).pull 4).pull 4).pull 4).pull 4)) ?_
    refine P_pure (i := 6) (v := pt p1 14) 8 rfl rfl (by kernel_rfl) (fun _ _ _ h => h) rfl rfl rfl (by kernel_rfl) (.inr (((((hst.pull 4).pull 4).pull 4).pull 4).pull 4)) ?_
    obtain ⟨hb2, hr⟩ := chk hr
    refine P_any (i := 7) (v := pt p1 (14 + y9.2.1.id.toNat)) 8 rfl rfl (by kernel_rfl) (fun _ _ _ h => h) rfl rfl rfl (fun w => (R_iaA A63 rfl rfl hb2)) (.inr (((((hst.pull 4).pull 4).pull 4).pull 4).pull 4)) ?_
    refine P_act (i := 8) 8 (by kernel_rfl) rfl rfl (by kernel_rfl) (O_store [I y9.2.1.id, I y9.2.1.n, pt p2 0, I y9.2.1.st.Term, I y9.2.1.st.Vote, I y9.2.1.st.Base, I y9.2.1.st.BaseTerm, S y9.2.1.st.Snap, .slice a23 y9.2.1.st.Log.length c23, I 1, I y9.2.1.leader, I y9.2.1.commit, I y9.2.1.applied, I 0, .bool ((upd (fun _ => false) y9.2.1.id.toNat true) 0), .bool ((upd (fun _ => false) y9.2.1.id.toNat true) 1), .bool ((upd (fun _ => false) y9.2.1.id.toNat true) 2), .bool ((upd (fun _ => false) y9.2.1.id.toNat true) 3), .bool ((upd (fun _ => false) y9.2.1.id.toNat true) 4), I (y9.2.1.next 0), I (y9.2.1.next 1), I (y9.2.1.next 2), I (y9.2.1.next 3), I (y9.2.1.next 4), I (y9.2.1.match_ 0), I (y9.2.1.match_ 1), I (y9.2.1.match_ 2), I (y9.2.1.match_ 3), I (y9.2.1.match_ 4), .slice a24 y9.2.1.out.length c24, I y9.2.1.broken] hst rfl rfl (by rcases in5 (show 0 ≤ y9.2.1.id ∧ y9.2.1.id < 5 by omega) with h | h | h | h | h <;> rw [h] <;> rfl) fun w hst => ?_)
    refine wpG_done (by kernel_rfl) ?_ _
    refine C_keepQ [(0, pt p1 0)] rfl fun b => ?_
    refine th_n ?_
    refine wp_seq ?_
    refine wp_reg ?_
    refine L_pure 3 [(0, pt p1 0), (40, pt p1 3)] (by kernel_rfl) fun b => ?_
    obtain ⟨y10, hy10, hr⟩ := bnd hr
    refine L_op rfl (O_call (vs := #[pt p1 3]) Tryz.call24 (by kernel_rfl) (term_State_Last_ok k (T_raft_Node.mk y9.2.1.id y9.2.1.n y9.2.1.st 1 y9.2.1.leader y9.2.1.commit y9.2.1.applied 0 (upd (fun _ => false) y9.2.1.id.toNat true) y9.2.1.next y9.2.1.match_ y9.2.1.out y9.2.1.broken) x2 y9.2.2.1 x4 y9.2.2.2.1 y9.2.2.2.2 p1 p2 p3 a23 c23 a24 c24 y10 (((((hst.pull 2).pull 2).pull 4).pull 4).pull 4) hy10 fun w hst => ?_))
    refine CK_ret rfl ?_
    refine L_pure 5 [(0, pt p1 0), (2, I y10.1), (3, I y10.2)] (by kernel_rfl) fun b => ?_
    refine wpL_nil ?_
    refine th_n ?_
    refine wp_seq ?_
    refine wp_seq ?_
    refine wp_reg ?_
    refine L_pure 3 [(0, pt p1 0), (2, I y10.1), (3, I y10.2), (46, pt p1 1)] (by kernel_rfl) fun b => ?_
    refine L_op rfl (O_run (v := I y9.2.1.n) (w' := w) (R_load hst rfl rfl) rfl rfl ?_)
    refine L_pure 1 [(0, pt p1 0), (2, I y10.1), (3, I y10.2), (47, I y9.2.1.n), (48, I 0)] (by kernel_rfl) fun b => ?_
    refine wpL_nil ?_
    refine th_n ?_
    obtain ⟨y11, hy11, hk3⟩ := bnd hr
    clear hr
    refine Go.Hx.wp_cut (fun a w => ∃ (a29 : Option Addr) (c29 : Nat) (a30 : Option Addr) (c30 : Nat)(b : Nat → Value), a = mkF 66 b [(0, pt p1 0)] ∧ St G w (osl r_T_term_Entry 48 a29 c29 y11.st.Log :: osl r_T_raft_Msg 39 a30 c30 y11.out :: blk p1 (cl [I y11.id, I y11.n, pt p2 0, I y11.st.Term, I y11.st.Vote, I y11.st.Base, I y11.st.BaseTerm, S y11.st.Snap, .slice a29 y11.st.Log.length c29, I y11.role, I y11.leader, I y11.commit, I y11.applied, I y11.timer, .bool (y11.votes 0), .bool (y11.votes 1), .bool (y11.votes 2), .bool (y11.votes 3), .bool (y11.votes 4), I (y11.next 0), I (y11.next 1), I (y11.next 2), I (y11.next 3), I (y11.next 4), I (y11.match_ 0), I (y11.match_ 1), I (y11.match_ 2), I (y11.match_ 3), I (y11.match_ 4), .slice a30 y11.out.length c30, I y11.broken] 66) :: blk p2 (cl [I x2, I y9.2.2.1, .bool x4, I y9.2.2.2.1, .map (some p3)] 79) :: mpr S (rPt r_T_platter_file) p3 y9.2.2.2.2 :: F)) ?_ ?_
    · rintro _ w ⟨a29, c29, a30, c30, b, rfl, hst⟩
      have hr := hk3
      refine th_n ?_
      refine wp_reg ?_
      refine L_pure 1 [(64, pt p1 0)] (by kernel_rfl) fun b => ?_
      obtain ⟨y14, hy14, hr⟩ := bnd hr
      refine L_op rfl (O_call (vs := #[pt p1 0]) Tryz.call27 (by kernel_rfl) (raft_Node_count_ok k y11 x2 y9.2.2.1 x4 y9.2.2.2.1 y9.2.2.2.2 p1 p2 p3 a29 c29 a30 c30 y14 (((((hst.pull 1).pull 1).pull 4).pull 4).pull 4) hy14 fun a35 c35 a36 c36 w hst => ?_))
      refine CK_ret rfl ?_
      refine wpL_nil ?_
      refine bp_normal ?_
      refine ret0 rfl ?_
      obtain rfl := Option.some.inj hr
      have hst := (((((hst.pull 4).pull 4).pull 4).pull 4).pull 4)
      exact hR a35 c35 a36 c36 _ hst
    · have hst := (((((hst.pull 2).pull 2).pull 2).pull 4).pull 4)
      refine wp_block ?_
      refine wp_loop_fuel (fun j a w => ∃ (v7 : Int) (v8 : T_raft_Node) (a25 : Option Addr) (c25 : Nat) (a26 : Option Addr) (c26 : Nat) (b : Nat → Value), a = mkF 66 b [(0, pt p1 0), (2, I y10.1), (3, I y10.2), (47, I y9.2.1.n), (48, I v7)] ∧ St G w (osl r_T_term_Entry 48 a25 c25 v8.st.Log :: osl r_T_raft_Msg 39 a26 c26 v8.out :: blk p1 (cl [I v8.id, I v8.n, pt p2 0, I v8.st.Term, I v8.st.Vote, I v8.st.Base, I v8.st.BaseTerm, S v8.st.Snap, .slice a25 v8.st.Log.length c25, I v8.role, I v8.leader, I v8.commit, I v8.applied, I v8.timer, .bool (v8.votes 0), .bool (v8.votes 1), .bool (v8.votes 2), .bool (v8.votes 3), .bool (v8.votes 4), I (v8.next 0), I (v8.next 1), I (v8.next 2), I (v8.next 3), I (v8.next 4), I (v8.match_ 0), I (v8.match_ 1), I (v8.match_ 2), I (v8.match_ 3), I (v8.match_ 4), .slice a26 v8.out.length c26, I v8.broken] 66) :: blk p2 (cl [I x2, I y9.2.2.1, .bool x4, I y9.2.2.2.1, .map (some p3)] 79) :: mpr S (rPt r_T_platter_file) p3 y9.2.2.2.2 :: F) ∧ raft_Node_stand_l1 k x2 x4 y9 y10 j v7 v8 = some y11) (k := k) ⟨(0 : Int), (T_raft_Node.mk y9.2.1.id y9.2.1.n y9.2.1.st 1 y9.2.1.leader y9.2.1.commit y9.2.1.applied 0 (upd (fun _ => false) y9.2.1.id.toNat true) y9.2.1.next y9.2.1.match_ y9.2.1.out y9.2.1.broken), a23, c23, a24, c24, (kpX [(0, pt p1 0), (2, I y10.1), (3, I y10.2), (47, I y9.2.1.n), (48, I 0)] rfl ⟨hst, hy11⟩)⟩ ?_ ?_
      · rintro _ _ ⟨_, _, _, _, _, _, _, _, _, h⟩
        rw [raft_Node_stand_l1] at h
        cases h
      · rintro j _ w ⟨v7, v8, a25, c25, a26, c26, b, rfl, hst, hr⟩
        rw [raft_Node_stand_l1] at hr
        refine wp_seq ?_
        refine wp_reg ?_
        refine L_pure 1 [(0, pt p1 0), (2, I y10.1), (3, I y10.2), (47, I y9.2.1.n), (48, I v7), (49, .bool (decide (v7 < y9.2.1.n)))] (by kernel_rfl) fun b => ?_
        refine wpL_nil ?_
        refine th_n ?_
        refine wp_seq ?_
        refine wp_cond_mkF (t := decide (v7 < y9.2.1.n)) rfl (fun h => ?_) (fun h => ?_)
        · have hr := (if_pos h).symm.trans hr
          refine wp_skip ?_
          refine th_n ?_
          obtain ⟨y12, hy12, hk4⟩ := bnd hr
          clear hr
          refine wp_seq_cut (fun a w => ∃ (a31 : Option Addr) (c31 : Nat) (a32 : Option Addr) (c32 : Nat)(b : Nat → Value), a = mkF 66 b [(0, pt p1 0), (2, I y10.1), (3, I y10.2), (47, I y9.2.1.n), (48, I v7)] ∧ St G w (osl r_T_term_Entry 48 a31 c31 y12.st.Log :: osl r_T_raft_Msg 39 a32 c32 y12.out :: blk p1 (cl [I y12.id, I y12.n, pt p2 0, I y12.st.Term, I y12.st.Vote, I y12.st.Base, I y12.st.BaseTerm, S y12.st.Snap, .slice a31 y12.st.Log.length c31, I y12.role, I y12.leader, I y12.commit, I y12.applied, I y12.timer, .bool (y12.votes 0), .bool (y12.votes 1), .bool (y12.votes 2), .bool (y12.votes 3), .bool (y12.votes 4), I (y12.next 0), I (y12.next 1), I (y12.next 2), I (y12.next 3), I (y12.next 4), I (y12.match_ 0), I (y12.match_ 1), I (y12.match_ 2), I (y12.match_ 3), I (y12.match_ 4), .slice a32 y12.out.length c32, I y12.broken] 66) :: blk p2 (cl [I x2, I y9.2.2.1, .bool x4, I y9.2.2.2.1, .map (some p3)] 79) :: mpr S (rPt r_T_platter_file) p3 y9.2.2.2.2 :: F)) ?_ ?_
          · rintro _ w ⟨a31, c31, a32, c32, b, rfl, hst⟩
            have hr := hk4
            refine wp_reg ?_
            refine L_pure 2 [(0, pt p1 0), (2, I y10.1), (3, I y10.2), (47, I y9.2.1.n), (48, I (IntKind.i64.wrap (v7 + 1)))] (by kernel_rfl) fun b => ?_
            refine wpL_nil ?_
            refine th_n ?_
            have hst := (((((hst.pull 4).pull 4).pull 4).pull 4).pull 4)
            exact ⟨(IntKind.i64.wrap (v7 + 1)), y12, a31, c31, a32, c32, (kpX [(0, pt p1 0), (2, I y10.1), (3, I y10.2), (47, I y9.2.1.n), (48, I (IntKind.i64.wrap (v7 + 1)))] rfl ⟨hst, hr⟩)⟩
          · have hr := hy12
            refine wp_block ?_
            refine wp_seq ?_
            refine wp_reg ?_
            refine L_pure 2 [(0, pt p1 0), (2, I y10.1), (3, I y10.2), (4, I v7), (47, I y9.2.1.n), (48, I v7)] (by kernel_rfl) fun b => ?_
            refine wpL_nil ?_
            refine th_n ?_
            refine wp_seq ?_
            refine wp_reg ?_
            refine L_pure 4 [(0, pt p1 0), (2, I y10.1), (3, I y10.2), (4, I v7), (47, I y9.2.1.n), (48, I v7), (51, I v7), (54, pt p1 0)] (by kernel_rfl) fun b => ?_
            refine L_op rfl (O_run (v := I v8.id) (w' := w) (R_load (hst.pull 2) rfl rfl) rfl rfl ?_)
            refine L_pure 1 [(0, pt p1 0), (2, I y10.1), (3, I y10.2), (4, I v7), (47, I y9.2.1.n), (48, I v7), (56, .bool (v7 != v8.id))] (by kernel_rfl) fun b => ?_
            refine wpL_nil ?_
            refine th_n ?_
            refine wp_cond_mkF (t := (v7 != v8.id)) rfl (fun h => ?_) (fun h => ?_)
            · have hr := (if_pos h).symm.trans hr
              refine wp_reg ?_
              refine L_pure 5 [(0, pt p1 0), (2, I y10.1), (3, I y10.2), (47, I y9.2.1.n), (48, I v7), (57, pt p1 0), (61, .agg #[I 1, I 0, I v7, I 0, I y10.1, I y10.2, I 0, .bool false, .slice none 0 0, S ([])])] (by kernel_rfl) fun b => ?_
              obtain ⟨y13, hy13, hr⟩ := bnd hr
              have hst := dsl_nil r_T_term_Entry hst
              refine L_op rfl (O_call (vs := #[pt p1 0, .agg #[I 1, I 0, I v7, I 0, I y10.1, I y10.2, I 0, .bool false, .slice none 0 0, S ([])]]) Tryz.call28 (by kernel_rfl) (raft_Node_send_ok k v8 x2 y9.2.2.1 x4 y9.2.2.2.1 y9.2.2.2.2 (T_raft_Msg.mk 1 0 v7 0 y10.1 y10.2 0 false ([]) ([])) p1 p2 p3 a25 c25 a26 c26 none 0 y13 (((((hst.pull 2).pull 2).pull 5).pull 5).pull 5) hy13 fun a33 c33 a34 c34 w hst => ?_))
              refine CK_ret rfl ?_
              refine wpL_nil ?_
              refine ib_n (th_n ?_)
              obtain rfl := Option.some.inj hr
              have hst := ((((((hst.pull 4).pull 4).pull 4).pull 4).pull 4).cut 5 1)
              exact ⟨a33, c33, a34, c34, (kpX [(0, pt p1 0), (2, I y10.1), (3, I y10.2), (47, I y9.2.1.n), (48, I v7)] rfl hst)⟩
            · have hr := (if_neg (by rw [h]; exact Bool.false_ne_true)).symm.trans hr
              refine wp_skip ?_
              refine ib_n (th_n ?_)
              obtain rfl := Option.some.inj hr
              have hst := (((((hst.pull 4).pull 4).pull 4).pull 4).pull 4)
              exact ⟨a25, c25, a26, c26, (kpX [(0, pt p1 0), (2, I y10.1), (3, I y10.2), (47, I y9.2.1.n), (48, I v7)] rfl hst)⟩
        · have hr := (if_neg (by rw [h]; exact Bool.false_ne_true)).symm.trans hr
          refine wp_exit ?_
          refine th_x (th_x (ib_x (th_n ?_)))
          obtain rfl := Option.some.inj hr
          have hst := (((((hst.pull 4).pull 4).pull 4).pull 4).pull 4)
          exact ⟨a25, c25, a26, c26, (kpX [(0, pt p1 0)] rfl hst)⟩
def raft_Node_Tick (k : Nat) (x1 : T_raft_Node) (x2 : Int) (x3 : Int) (x4 : Bool) (x5 : Int) (x6 : (List ((List UInt8) × (Option T_platter_file)))) : Option (T_raft_Node × Int × Int × (List ((List UInt8) × (Option T_platter_file)))) := (if (x1.broken != 0) = true then some (x1, x3, x5, x6) else (if (x1.role == 2) = true then (Option.bind (raft_Node_spread k (T_raft_Node.mk x1.id x1.n x1.st x1.role x1.leader x1.commit x1.applied 0 x1.votes x1.next x1.match_ x1.out x1.broken) x2 x3 x4 x5 x6) fun y4 => some (y4, x3, x5, x6)) else (Option.bind (raft_Node_patience k (T_raft_Node.mk x1.id x1.n x1.st x1.role x1.leader x1.commit x1.applied (IntKind.i64.wrap (x1.timer + 1)) x1.votes x1.next x1.match_ x1.out x1.broken) x2 x3 x4 x5 x6) fun y5 => (if decide ((IntKind.i64.wrap (x1.timer + 1)) ≥ y5) = true then (Option.bind (raft_Node_stand k (T_raft_Node.mk x1.id x1.n x1.st x1.role x1.leader x1.commit x1.applied (IntKind.i64.wrap (x1.timer + 1)) x1.votes x1.next x1.match_ x1.out x1.broken) x2 x3 x4 x5 x6) fun y6 => some (y6.1, y6.2.1, y6.2.2.1, y6.2.2.2)) else some ((T_raft_Node.mk x1.id x1.n x1.st x1.role x1.leader x1.commit x1.applied (IntKind.i64.wrap (x1.timer + 1)) x1.votes x1.next x1.match_ x1.out x1.broken), x3, x5, x6)))))
set_option maxRecDepth 100000 in
set_option maxHeartbeats 4000000 in
theorem raft_Node_Tick_ok {G w : World} {F : List HP} {R : Ending → World → Prop} (k : Nat) (x1 : T_raft_Node) (x2 : Int) (x3 : Int) (x4 : Bool) (x5 : Int) (x6 : (List ((List UInt8) × (Option T_platter_file)))) (p1 : Nat) (p2 : Nat) (p3 : Nat) (a1 : Option Addr) (c1 : Nat) (a2 : Option Addr) (c2 : Nat) (r : (T_raft_Node × Int × Int × (List ((List UInt8) × (Option T_platter_file))))) (hst : St G w (blk p1 (cl [I x1.id, I x1.n, pt p2 0, I x1.st.Term, I x1.st.Vote, I x1.st.Base, I x1.st.BaseTerm, S x1.st.Snap, .slice a1 x1.st.Log.length c1, I x1.role, I x1.leader, I x1.commit, I x1.applied, I x1.timer, .bool (x1.votes 0), .bool (x1.votes 1), .bool (x1.votes 2), .bool (x1.votes 3), .bool (x1.votes 4), I (x1.next 0), I (x1.next 1), I (x1.next 2), I (x1.next 3), I (x1.next 4), I (x1.match_ 0), I (x1.match_ 1), I (x1.match_ 2), I (x1.match_ 3), I (x1.match_ 4), .slice a2 x1.out.length c2, I x1.broken] 66) :: blk p2 (cl [I x2, I x3, .bool x4, I x5, .map (some p3)] 79) :: mpr S (rPt r_T_platter_file) p3 x6 :: osl r_T_term_Entry 48 a1 c1 x1.st.Log :: osl r_T_raft_Msg 39 a2 c2 x1.out :: F)) (hr : raft_Node_Tick k x1 x2 x3 x4 x5 x6 = some r)
    (hR : ∀ (a7 : Option Addr) (c7 : Nat) (a8 : Option Addr) (c8 : Nat) w', St G w' (osl r_T_term_Entry 48 a7 c7 r.1.st.Log :: osl r_T_raft_Msg 39 a8 c8 r.1.out :: blk p1 (cl [I r.1.id, I r.1.n, pt p2 0, I r.1.st.Term, I r.1.st.Vote, I r.1.st.Base, I r.1.st.BaseTerm, S r.1.st.Snap, .slice a7 r.1.st.Log.length c7, I r.1.role, I r.1.leader, I r.1.commit, I r.1.applied, I r.1.timer, .bool (r.1.votes 0), .bool (r.1.votes 1), .bool (r.1.votes 2), .bool (r.1.votes 3), .bool (r.1.votes 4), I (r.1.next 0), I (r.1.next 1), I (r.1.next 2), I (r.1.next 3), I (r.1.next 4), I (r.1.match_ 0), I (r.1.match_ 1), I (r.1.match_ 2), I (r.1.match_ 3), I (r.1.match_ 4), .slice a8 r.1.out.length c8, I r.1.broken] 66) :: blk p2 (cl [I x2, I r.2.1, .bool x4, I r.2.2.1, .map (some p3)] 79) :: mpr S (rPt r_T_platter_file) p3 r.2.2.2 :: F) → R (.returned (.tuple #[])) w') :
    Calls Tryz.prog 14 #[pt p1 0] w R := by
  unfold raft_Node_Tick at hr
  refine enter Tryz.func14 rfl [(0, pt p1 0)] rfl rfl fun b => ?_
  refine wp_seq ?_
  refine wp_seq ?_
  refine wp_reg ?_
  refine L_pure 3 [(0, pt p1 0), (4, pt p1 30)] (by kernel_rfl) fun b => ?_
  refine L_op rfl (O_run (v := I x1.broken) (w' := w) (R_load hst rfl rfl) rfl rfl ?_)
  refine L_pure 1 [(0, pt p1 0), (6, .bool (x1.broken != 0))] (by kernel_rfl) fun b => ?_
  refine wpL_nil ?_
  refine th_n ?_
  refine wp_cond_mkF (t := (x1.broken != 0)) rfl (fun h => ?_) (fun h => ?_)
  · have hr := (if_pos h).symm.trans hr
    refine wp_ret ?_
    refine th_r ?_
    refine ret0 rfl ?_
    obtain rfl := Option.some.inj hr
    have hst := (((((hst.pull 2).pull 2).pull 2).pull 4).pull 4)
    exact hR a1 c1 a2 c2 _ hst
  · have hr := (if_neg (by rw [h]; exact Bool.false_ne_true)).symm.trans hr
    refine wp_skip ?_
    refine th_n ?_
    refine wp_seq ?_
    refine wp_reg ?_
    refine L_pure 3 [(0, pt p1 0), (7, pt p1 0), (9, pt p1 13)] (by kernel_rfl) fun b => ?_
    refine L_op rfl (O_run (v := I x1.timer) (w' := w) (R_load hst rfl rfl) rfl rfl ?_)
    refine L_pure 3 [(0, pt p1 0), (11, I (IntKind.i64.wrap (x1.timer + 1))), (13, pt p1 13)] (by kernel_rfl) fun b => ?_
    refine L_op rfl (O_store [I x1.id, I x1.n, pt p2 0, I x1.st.Term, I x1.st.Vote, I x1.st.Base, I x1.st.BaseTerm, S x1.st.Snap, .slice a1 x1.st.Log.length c1, I x1.role, I x1.leader, I x1.commit, I x1.applied, I (IntKind.i64.wrap (x1.timer + 1)), .bool (x1.votes 0), .bool (x1.votes 1), .bool (x1.votes 2), .bool (x1.votes 3), .bool (x1.votes 4), I (x1.next 0), I (x1.next 1), I (x1.next 2), I (x1.next 3), I (x1.next 4), I (x1.match_ 0), I (x1.match_ 1), I (x1.match_ 2), I (x1.match_ 3), I (x1.match_ 4), .slice a2 x1.out.length c2, I x1.broken] hst rfl rfl (by kernel_rfl) fun w hst => ?_)
    refine wpL_nil ?_
    refine th_n ?_
    refine wp_block ?_
    refine wp_seq ?_
    refine wp_reg ?_
    refine L_pure 3 [(0, pt p1 0), (17, pt p1 9)] (by kernel_rfl) fun b => ?_
    refine L_op rfl (O_run (v := I x1.role) (w' := w) (R_load hst rfl rfl) rfl rfl ?_)
    refine L_pure 2 [(0, pt p1 0), (14, .bool (x1.role == 2))] (by kernel_rfl) fun b => ?_
    refine wpL_nil ?_
    refine th_n ?_
    refine wp_cond_mkF (t := (x1.role == 2)) rfl (fun h => ?_) (fun h => ?_)
    · have hr := (if_pos h).symm.trans hr
      refine wp_seq ?_
      refine wp_reg ?_
      refine L_pure 3 [(0, pt p1 0), (22, pt p1 13)] (by kernel_rfl) fun b => ?_
      refine L_op rfl (O_store [I x1.id, I x1.n, pt p2 0, I x1.st.Term, I x1.st.Vote, I x1.st.Base, I x1.st.BaseTerm, S x1.st.Snap, .slice a1 x1.st.Log.length c1, I x1.role, I x1.leader, I x1.commit, I x1.applied, I 0, .bool (x1.votes 0), .bool (x1.votes 1), .bool (x1.votes 2), .bool (x1.votes 3), .bool (x1.votes 4), I (x1.next 0), I (x1.next 1), I (x1.next 2), I (x1.next 3), I (x1.next 4), I (x1.match_ 0), I (x1.match_ 1), I (x1.match_ 2), I (x1.match_ 3), I (x1.match_ 4), .slice a2 x1.out.length c2, I x1.broken] hst rfl rfl (by kernel_rfl) fun w hst => ?_)
      refine wpL_nil ?_
      refine th_n ?_
      refine wp_reg ?_
      refine L_pure 1 [(23, pt p1 0)] (by kernel_rfl) fun b => ?_
      obtain ⟨y4, hy4, hr⟩ := bnd hr
      refine L_op rfl (O_call (vs := #[pt p1 0]) Tryz.call32 (by kernel_rfl) (raft_Node_spread_ok k (T_raft_Node.mk x1.id x1.n x1.st x1.role x1.leader x1.commit x1.applied 0 x1.votes x1.next x1.match_ x1.out x1.broken) x2 x3 x4 x5 x6 p1 p2 p3 a1 c1 a2 c2 y4 (((((hst.pull 4).pull 4).pull 4).pull 4).pull 4) hy4 fun a9 c9 a10 c10 w hst => ?_))
      refine CK_ret rfl ?_
      refine wpL_nil ?_
      refine ib_n (bp_normal ?_)
      refine ret0 rfl ?_
      obtain rfl := Option.some.inj hr
      have hst := (((((hst.pull 4).pull 4).pull 4).pull 4).pull 4)
      exact hR a9 c9 a10 c10 _ hst
    · have hr := (if_neg (by rw [h]; exact Bool.false_ne_true)).symm.trans hr
      refine wp_seq ?_
      refine wp_regG (SQ (fun w => St G w (blk p1 (cl [I x1.id, I x1.n, pt p2 0, I x1.st.Term, I x1.st.Vote, I x1.st.Base, I x1.st.BaseTerm, S x1.st.Snap, .slice a1 x1.st.Log.length c1, I x1.role, I x1.leader, I x1.commit, I x1.applied, I (IntKind.i64.wrap (x1.timer + 1)), .bool (x1.votes 0), .bool (x1.votes 1), .bool (x1.votes 2), .bool (x1.votes 3), .bool (x1.votes 4), I (x1.next 0), I (x1.next 1), I (x1.next 2), I (x1.next 3), I (x1.next 4), I (x1.match_ 0), I (x1.match_ 1), I (x1.match_ 2), I (x1.match_ 3), I (x1.match_ 4), .slice a2 x1.out.length c2, I x1.broken] 66) :: blk p2 (cl [I x2, I x3, .bool x4, I x5, .map (some p3)] 79) :: mpr S (rPt r_T_platter_file) p3 x6 :: osl r_T_term_Entry 48 a1 c1 x1.st.Log :: osl r_T_raft_Msg 39 a2 c2 x1.out :: F))) rfl ?_
      have hst := hst.draw (n := w.drawn + 1)
      generalize { w with drawn := w.drawn + 1 } = w at hst ⊢
      refine Q_take (i := 0) (v := pt p1 0) rfl (by kernel_rfl) (fun _ _ _ h => h) rfl rfl rfl (fun _ _ => R_pure (by kernel_rfl)) (((((hst.pull 4).pull 4).pull 4).pull 4).pull 4) ?_
      refine Q_take (i := 1) (v := pt p1 0) rfl (by kernel_rfl) (fun _ _ _ h => h) rfl rfl rfl (fun _ _ => R_pure (by kernel_rfl)) (((((hst.pull 4).pull 4).pull 4).pull 4).pull 4) ?_
      refine Q_take (i := 2) (v := pt p1 13) rfl (by kernel_rfl) (fun _ _ _ h => h) rfl rfl rfl (fun _ _ => R_pure (by kernel_rfl)) (((((hst.pull 4).pull 4).pull 4).pull 4).pull 4) ?_
      refine Q_take (i := 3) (v := I (IntKind.i64.wrap (x1.timer + 1))) rfl (by kernel_rfl) (fun _ _ _ h => h) rfl rfl rfl (fun w hst => R_load hst rfl rfl) (((((hst.pull 4).pull 4).pull 4).pull 4).pull 4) ?_
      refine Q_take (i := 4) (v := pt p1 0) rfl (by kernel_rfl) (fun _ _ _ h => h) rfl rfl rfl (fun _ _ => R_pure (by kernel_rfl)) (((((hst.pull 4).pull 4).pull 4).pull 4).pull 4) ?_
      obtain ⟨y5, hy5, hr⟩ := bnd hr
      refine Q_one (i := 5) (by kernel_rfl) rfl rfl (O_call (vs := #[pt p1 0]) Tryz.call33 (by kernel_rfl) (raft_Node_patience_ok k (T_raft_Node.mk x1.id x1.n x1.st x1.role x1.leader x1.commit x1.applied (IntKind.i64.wrap (x1.timer + 1)) x1.votes x1.next x1.match_ x1.out x1.broken) x2 x3 x4 x5 x6 p1 p2 p3 a1 c1 a2 c2 y5 (((((hst.pull 4).pull 4).pull 4).pull 4).pull 4) hy5 fun w hst => ?_))
      refine CK_ret rfl ?_
      refine ⟨(((((hst.pull 4).pull 4).pull 4).pull 4).pull 4), ?_⟩
      refine Q_take (i := 6) (v := .bool (decide ((IntKind.i64.wrap (x1.timer + 1)) ≥ y5))) rfl (by kernel_rfl) (fun _ _ _ h => h) rfl rfl rfl (fun _ _ => R_pure (by kernel_rfl)) (((((hst.pull 4).pull 4).pull 4).pull 4).pull 4) ?_
      refine Q_take (i := 7) (v := .bool (decide ((IntKind.i64.wrap (x1.timer + 1)) ≥ y5))) rfl (by kernel_rfl) (fun _ _ _ h => h) rfl rfl rfl (fun _ _ => R_pure (by kernel_rfl)) (((((hst.pull 4).pull 4).pull 4).pull 4).pull 4) ?_
      refine wpG_done (by kernel_rfl) ?_ _
      refine C_keepQ [(0, pt p1 0), (25, .bool (decide ((IntKind.i64.wrap (x1.timer + 1)) ≥ y5)))] rfl fun b => ?_
      refine th_n ?_
      refine wp_cond_mkF (t := decide ((IntKind.i64.wrap (x1.timer + 1)) ≥ y5)) rfl (fun h => ?_) (fun h => ?_)
      · have hr := (if_pos h).symm.trans hr
        refine wp_reg ?_
        refine L_pure 1 [(33, pt p1 0)] (by kernel_rfl) fun b => ?_
        obtain ⟨y6, hy6, hr⟩ := bnd hr
        refine L_op rfl (O_call (vs := #[pt p1 0]) Tryz.call34 (by kernel_rfl) (raft_Node_stand_ok k (T_raft_Node.mk x1.id x1.n x1.st x1.role x1.leader x1.commit x1.applied (IntKind.i64.wrap (x1.timer + 1)) x1.votes x1.next x1.match_ x1.out x1.broken) x2 x3 x4 x5 x6 p1 p2 p3 a1 c1 a2 c2 y6 (((((hst.pull 4).pull 4).pull 4).pull 4).pull 4) hy6 fun a11 c11 a12 c12 w hst => ?_))
        refine CK_ret rfl ?_
        refine wpL_nil ?_
        refine ib_n (bp_normal ?_)
        refine ret0 rfl ?_
        obtain rfl := Option.some.inj hr
        have hst := (((((hst.pull 4).pull 4).pull 4).pull 4).pull 4)
        exact hR a11 c11 a12 c12 _ hst
      · have hr := (if_neg (by rw [h]; exact Bool.false_ne_true)).symm.trans hr
        refine wp_skip ?_
        refine ib_n (bp_normal ?_)
        refine ret0 rfl ?_
        obtain rfl := Option.some.inj hr
        have hst := (((((hst.pull 2).pull 2).pull 2).pull 4).pull 4)
        exact hR a1 c1 a2 c2 _ hst
def raft_Node_Role (_k : Nat) (x1 : T_raft_Node) (_x2 : Int) (_x3 : Int) (_x4 : Bool) (_x5 : Int) (_x6 : (List ((List UInt8) × (Option T_platter_file)))) : Option (Int) := some (x1.role)
set_option maxRecDepth 100000 in
set_option maxHeartbeats 4000000 in
theorem raft_Node_Role_ok {G w : World} {F : List HP} {R : Ending → World → Prop} (k : Nat) (x1 : T_raft_Node) (x2 : Int) (x3 : Int) (x4 : Bool) (x5 : Int) (x6 : (List ((List UInt8) × (Option T_platter_file)))) (p1 : Nat) (p2 : Nat) (p3 : Nat) (a1 : Option Addr) (c1 : Nat) (a2 : Option Addr) (c2 : Nat) (r : (Int)) (hst : St G w (blk p1 (cl [I x1.id, I x1.n, pt p2 0, I x1.st.Term, I x1.st.Vote, I x1.st.Base, I x1.st.BaseTerm, S x1.st.Snap, .slice a1 x1.st.Log.length c1, I x1.role, I x1.leader, I x1.commit, I x1.applied, I x1.timer, .bool (x1.votes 0), .bool (x1.votes 1), .bool (x1.votes 2), .bool (x1.votes 3), .bool (x1.votes 4), I (x1.next 0), I (x1.next 1), I (x1.next 2), I (x1.next 3), I (x1.next 4), I (x1.match_ 0), I (x1.match_ 1), I (x1.match_ 2), I (x1.match_ 3), I (x1.match_ 4), .slice a2 x1.out.length c2, I x1.broken] 66) :: blk p2 (cl [I x2, I x3, .bool x4, I x5, .map (some p3)] 79) :: mpr S (rPt r_T_platter_file) p3 x6 :: osl r_T_term_Entry 48 a1 c1 x1.st.Log :: osl r_T_raft_Msg 39 a2 c2 x1.out :: F)) (hr : raft_Node_Role k x1 x2 x3 x4 x5 x6 = some r)
    (hR : ∀ w', St G w' (blk p1 (cl [I x1.id, I x1.n, pt p2 0, I x1.st.Term, I x1.st.Vote, I x1.st.Base, I x1.st.BaseTerm, S x1.st.Snap, .slice a1 x1.st.Log.length c1, I x1.role, I x1.leader, I x1.commit, I x1.applied, I x1.timer, .bool (x1.votes 0), .bool (x1.votes 1), .bool (x1.votes 2), .bool (x1.votes 3), .bool (x1.votes 4), I (x1.next 0), I (x1.next 1), I (x1.next 2), I (x1.next 3), I (x1.next 4), I (x1.match_ 0), I (x1.match_ 1), I (x1.match_ 2), I (x1.match_ 3), I (x1.match_ 4), .slice a2 x1.out.length c2, I x1.broken] 66) :: blk p2 (cl [I x2, I x3, .bool x4, I x5, .map (some p3)] 79) :: mpr S (rPt r_T_platter_file) p3 x6 :: osl r_T_term_Entry 48 a1 c1 x1.st.Log :: osl r_T_raft_Msg 39 a2 c2 x1.out :: F) → R (.returned (I r)) w') :
    Calls Tryz.prog 18 #[pt p1 0] w R := by
  unfold raft_Node_Role at hr
  refine enter Tryz.func18 rfl [(0, pt p1 0)] rfl rfl fun b => ?_
  refine wp_seq ?_
  refine wp_reg ?_
  refine L_pure 1 [(0, pt p1 0)] (by kernel_rfl) fun b => ?_
  refine wpL_nil ?_
  refine th_n ?_
  refine wp_seq ?_
  refine wp_reg ?_
  refine L_pure 3 [(5, pt p1 9)] (by kernel_rfl) fun b => ?_
  refine L_op rfl (O_run (v := I x1.role) (w' := w) (R_load hst rfl rfl) rfl rfl ?_)
  refine L_pure 1 [(2, I x1.role)] (by kernel_rfl) fun b => ?_
  refine wpL_nil ?_
  refine th_n ?_
  refine wp_ret ?_
  refine ret1 rfl rfl ?_
  obtain rfl := Option.some.inj hr
  have hst := (((((hst.pull 4).pull 4).pull 4).pull 4).pull 4)
  exact hR _ hst
def raft_Node_Propose (k : Nat) (x1 : T_raft_Node) (x2 : Int) (x3 : Int) (x4 : Bool) (x5 : Int) (x6 : (List ((List UInt8) × (Option T_platter_file)))) (x7 : (List UInt8)) : Option (Int × Int × Int × T_raft_Node × Int × Int × (List ((List UInt8) × (Option T_platter_file)))) := (if (x1.broken != 0) = true then some ((0 : Int), (0 : Int), x1.broken, x1, x3, x5, x6) else (if (x1.role != 2) = true then some ((0 : Int), (0 : Int), (12 : Int), x1, x3, x5, x6) else (if decide ((x7.length : Int) > 100000) = true then some ((0 : Int), (0 : Int), (11 : Int), x1, x3, x5, x6) else (Option.bind (raft_Node_add k x1 x2 x3 x4 x5 x6 x7) fun y2 => (if (!y2.2.1) = true then some ((0 : Int), (0 : Int), y2.2.2.1.broken, y2.2.2.1, y2.2.2.2.1, y2.2.2.2.2.1, y2.2.2.2.2.2) else some (y2.1, y2.2.2.1.st.Term, (0 : Int), y2.2.2.1, y2.2.2.2.1, y2.2.2.2.2.1, y2.2.2.2.2.2))))))
set_option maxRecDepth 100000 in
set_option maxHeartbeats 4000000 in
theorem raft_Node_Propose_ok {G w : World} {F : List HP} {R : Ending → World → Prop} (k : Nat) (x1 : T_raft_Node) (x2 : Int) (x3 : Int) (x4 : Bool) (x5 : Int) (x6 : (List ((List UInt8) × (Option T_platter_file)))) (x7 : (List UInt8)) (p1 : Nat) (p2 : Nat) (p3 : Nat) (a1 : Option Addr) (c1 : Nat) (a2 : Option Addr) (c2 : Nat) (r : (Int × Int × Int × T_raft_Node × Int × Int × (List ((List UInt8) × (Option T_platter_file))))) (hst : St G w (blk p1 (cl [I x1.id, I x1.n, pt p2 0, I x1.st.Term, I x1.st.Vote, I x1.st.Base, I x1.st.BaseTerm, S x1.st.Snap, .slice a1 x1.st.Log.length c1, I x1.role, I x1.leader, I x1.commit, I x1.applied, I x1.timer, .bool (x1.votes 0), .bool (x1.votes 1), .bool (x1.votes 2), .bool (x1.votes 3), .bool (x1.votes 4), I (x1.next 0), I (x1.next 1), I (x1.next 2), I (x1.next 3), I (x1.next 4), I (x1.match_ 0), I (x1.match_ 1), I (x1.match_ 2), I (x1.match_ 3), I (x1.match_ 4), .slice a2 x1.out.length c2, I x1.broken] 66) :: blk p2 (cl [I x2, I x3, .bool x4, I x5, .map (some p3)] 79) :: mpr S (rPt r_T_platter_file) p3 x6 :: osl r_T_term_Entry 48 a1 c1 x1.st.Log :: osl r_T_raft_Msg 39 a2 c2 x1.out :: F)) (hr : raft_Node_Propose k x1 x2 x3 x4 x5 x6 x7 = some r)
    (hR : ∀ (a5 : Option Addr) (c5 : Nat) (a6 : Option Addr) (c6 : Nat) w', St G w' (osl r_T_term_Entry 48 a5 c5 r.2.2.2.1.st.Log :: osl r_T_raft_Msg 39 a6 c6 r.2.2.2.1.out :: blk p1 (cl [I r.2.2.2.1.id, I r.2.2.2.1.n, pt p2 0, I r.2.2.2.1.st.Term, I r.2.2.2.1.st.Vote, I r.2.2.2.1.st.Base, I r.2.2.2.1.st.BaseTerm, S r.2.2.2.1.st.Snap, .slice a5 r.2.2.2.1.st.Log.length c5, I r.2.2.2.1.role, I r.2.2.2.1.leader, I r.2.2.2.1.commit, I r.2.2.2.1.applied, I r.2.2.2.1.timer, .bool (r.2.2.2.1.votes 0), .bool (r.2.2.2.1.votes 1), .bool (r.2.2.2.1.votes 2), .bool (r.2.2.2.1.votes 3), .bool (r.2.2.2.1.votes 4), I (r.2.2.2.1.next 0), I (r.2.2.2.1.next 1), I (r.2.2.2.1.next 2), I (r.2.2.2.1.next 3), I (r.2.2.2.1.next 4), I (r.2.2.2.1.match_ 0), I (r.2.2.2.1.match_ 1), I (r.2.2.2.1.match_ 2), I (r.2.2.2.1.match_ 3), I (r.2.2.2.1.match_ 4), .slice a6 r.2.2.2.1.out.length c6, I r.2.2.2.1.broken] 66) :: blk p2 (cl [I x2, I r.2.2.2.2.1, .bool x4, I r.2.2.2.2.2.1, .map (some p3)] 79) :: mpr S (rPt r_T_platter_file) p3 r.2.2.2.2.2.2 :: F) → R (.returned (.tuple #[I r.1, I r.2.1, I r.2.2.1])) w') :
    Calls Tryz.prog 19 #[pt p1 0, S x7] w R := by
  unfold raft_Node_Propose at hr
  refine enter Tryz.func19 rfl [(0, pt p1 0), (1, S x7)] rfl rfl fun b => ?_
  refine wp_seq ?_
  refine wp_reg ?_
  refine L_pure 3 [(0, pt p1 0), (1, S x7)] (by kernel_rfl) fun b => ?_
  refine wpL_nil ?_
  refine th_n ?_
  refine wp_seq ?_
  refine wp_seq ?_
  refine wp_reg ?_
  refine L_pure 3 [(0, pt p1 0), (1, S x7), (11, pt p1 30)] (by kernel_rfl) fun b => ?_
  refine L_op rfl (O_run (v := I x1.broken) (w' := w) (R_load hst rfl rfl) rfl rfl ?_)
  refine L_pure 1 [(0, pt p1 0), (1, S x7), (13, .bool (x1.broken != 0))] (by kernel_rfl) fun b => ?_
  refine wpL_nil ?_
  refine th_n ?_
  refine wp_cond_mkF (t := (x1.broken != 0)) rfl (fun h => ?_) (fun h => ?_)
  · have hr := (if_pos h).symm.trans hr
    refine wp_seq ?_
    refine wp_regG (SN { w with drawn := w.drawn + 1 }) rfl ?_
    have hst := hst.draw (n := w.drawn + 1)
    generalize { w with drawn := w.drawn + 1 } = w at hst ⊢
    refine C_take (i := 0) (v := pt p1 0) rfl (by kernel_rfl) (fun _ _ _ h => h) rfl rfl rfl (R_pure (by kernel_rfl)) ?_
    refine C_take (i := 1) (v := pt p1 0) rfl (by kernel_rfl) (fun _ _ _ h => h) rfl rfl rfl (R_pure (by kernel_rfl)) ?_
    refine C_take (i := 2) (v := pt p1 30) rfl (by kernel_rfl) (fun _ _ _ h => h) rfl rfl rfl (R_pure (by kernel_rfl)) ?_
    refine C_take (i := 3) (v := I x1.broken) rfl (by kernel_rfl) (fun _ _ _ h => h) rfl rfl rfl (R_load hst rfl rfl) ?_
    refine C_take (i := 4) (v := I 0) rfl (by kernel_rfl) (fun _ _ _ h => h) rfl rfl rfl (R_pure (by kernel_rfl)) ?_
    refine C_take (i := 5) (v := I 0) rfl (by kernel_rfl) (fun _ _ _ h => h) rfl rfl rfl (R_pure (by kernel_rfl)) ?_
    refine C_take (i := 6) (v := I x1.broken) rfl (by kernel_rfl) (fun _ _ _ h => h) rfl rfl rfl (R_pure (by kernel_rfl)) ?_
    refine wpG_done (by kernel_rfl) ?_ _
    refine C_keepQ [(4, I 0), (5, I 0), (6, I x1.broken)] rfl fun b => ?_
    refine th_n ?_
    refine wp_ret ?_
    refine th_r ?_
    refine ret3 rfl rfl rfl rfl ?_
    obtain rfl := Option.some.inj hr
    have hst := (((((hst.pull 2).pull 2).pull 2).pull 4).pull 4)
    exact hR a1 c1 a2 c2 _ hst
  · have hr := (if_neg (by rw [h]; exact Bool.false_ne_true)).symm.trans hr
    refine wp_skip ?_
    refine th_n ?_
    refine wp_seq ?_
    refine wp_seq ?_
    refine wp_reg ?_
    refine L_pure 3 [(0, pt p1 0), (1, S x7), (20, pt p1 9)] (by kernel_rfl) fun b => ?_
    refine L_op rfl (O_run (v := I x1.role) (w' := w) (R_load hst rfl rfl) rfl rfl ?_)
    refine L_pure 1 [(0, pt p1 0), (1, S x7), (22, .bool (x1.role != 2))] (by kernel_rfl) fun b => ?_
    refine wpL_nil ?_
    refine th_n ?_
    refine wp_cond_mkF (t := (x1.role != 2)) rfl (fun h => ?_) (fun h => ?_)
    · have hr := (if_pos h).symm.trans hr
      refine wp_seq ?_
      refine wp_reg ?_
      refine L_pure 3 [(4, I 0), (5, I 0), (6, I 12)] (by kernel_rfl) fun b => ?_
      refine wpL_nil ?_
      refine th_n ?_
      refine wp_ret ?_
      refine th_r ?_
      refine ret3 rfl rfl rfl rfl ?_
      obtain rfl := Option.some.inj hr
      have hst := (((((hst.pull 2).pull 2).pull 2).pull 4).pull 4)
      exact hR a1 c1 a2 c2 _ hst
    · have hr := (if_neg (by rw [h]; exact Bool.false_ne_true)).symm.trans hr
      refine wp_skip ?_
      refine th_n ?_
      refine wp_seq ?_
      refine wp_seq ?_
      refine wp_reg ?_
      refine L_pure 3 [(0, pt p1 0), (1, S x7), (25, .bool (decide ((x7.length : Int) > 100000)))] (by kernel_rfl) fun b => ?_
      refine wpL_nil ?_
      refine th_n ?_
      refine wp_cond_mkF (t := decide ((x7.length : Int) > 100000)) rfl (fun h => ?_) (fun h => ?_)
      · have hr := (if_pos h).symm.trans hr
        refine wp_seq ?_
        refine wp_reg ?_
        refine L_pure 3 [(4, I 0), (5, I 0), (6, I 11)] (by kernel_rfl) fun b => ?_
        refine wpL_nil ?_
        refine th_n ?_
        refine wp_ret ?_
        refine th_r ?_
        refine ret3 rfl rfl rfl rfl ?_
        obtain rfl := Option.some.inj hr
        have hst := (((((hst.pull 2).pull 2).pull 2).pull 4).pull 4)
        exact hR a1 c1 a2 c2 _ hst
      · have hr := (if_neg (by rw [h]; exact Bool.false_ne_true)).symm.trans hr
        refine wp_skip ?_
        refine th_n ?_
        refine wp_seq ?_
        refine wp_reg ?_
        refine L_pure 2 [(0, pt p1 0), (27, pt p1 0), (28, S x7)] (by kernel_rfl) fun b => ?_
        obtain ⟨y2, hy2, hr⟩ := bnd hr
        refine L_op rfl (O_call (vs := #[pt p1 0, S x7]) Tryz.call37 (by kernel_rfl) (raft_Node_add_ok k x1 x2 x3 x4 x5 x6 x7 p1 p2 p3 a1 c1 a2 c2 y2 (((((hst.pull 4).pull 4).pull 4).pull 4).pull 4) hy2 fun a7 c7 a8 c8 w hst => ?_))
        refine CK_ret rfl ?_
        refine L_pure 5 [(0, pt p1 0), (7, I y2.1), (8, .bool y2.2.1)] (by kernel_rfl) fun b => ?_
        refine wpL_nil ?_
        refine th_n ?_
        refine wp_seq ?_
        refine wp_seq ?_
        refine wp_reg ?_
        refine L_pure 2 [(0, pt p1 0), (7, I y2.1), (33, .bool (!y2.2.1))] (by kernel_rfl) fun b => ?_
        refine wpL_nil ?_
        refine th_n ?_
        refine wp_cond_mkF (t := (!y2.2.1)) rfl (fun h => ?_) (fun h => ?_)
        · have hr := (if_pos h).symm.trans hr
          refine wp_seq ?_
          refine wp_regG (SN { w with drawn := w.drawn + 1 }) rfl ?_
          have hst := hst.draw (n := w.drawn + 1)
          generalize { w with drawn := w.drawn + 1 } = w at hst ⊢
          refine C_take (i := 0) (v := pt p1 0) rfl (by kernel_rfl) (fun _ _ _ h => h) rfl rfl rfl (R_pure (by kernel_rfl)) ?_
          refine C_take (i := 1) (v := pt p1 0) rfl (by kernel_rfl) (fun _ _ _ h => h) rfl rfl rfl (R_pure (by kernel_rfl)) ?_
          refine C_take (i := 2) (v := pt p1 30) rfl (by kernel_rfl) (fun _ _ _ h => h) rfl rfl rfl (R_pure (by kernel_rfl)) ?_
          refine C_take (i := 3) (v := I y2.2.2.1.broken) rfl (by kernel_rfl) (fun _ _ _ h => h) rfl rfl rfl (R_load (hst.pull 2) rfl rfl) ?_
          refine C_take (i := 4) (v := I 0) rfl (by kernel_rfl) (fun _ _ _ h => h) rfl rfl rfl (R_pure (by kernel_rfl)) ?_
          refine C_take (i := 5) (v := I 0) rfl (by kernel_rfl) (fun _ _ _ h => h) rfl rfl rfl (R_pure (by kernel_rfl)) ?_
          refine C_take (i := 6) (v := I y2.2.2.1.broken) rfl (by kernel_rfl) (fun _ _ _ h => h) rfl rfl rfl (R_pure (by kernel_rfl)) ?_
          refine wpG_done (by kernel_rfl) ?_ _
          refine C_keepQ [(4, I 0), (5, I 0), (6, I y2.2.2.1.broken)] rfl fun b => ?_
          refine th_n ?_
          refine wp_ret ?_
          refine th_r ?_
          refine ret3 rfl rfl rfl rfl ?_
          obtain rfl := Option.some.inj hr
          have hst := (((((hst.pull 4).pull 4).pull 4).pull 4).pull 4)
          exact hR a7 c7 a8 c8 _ hst
        · have hr := (if_neg (by rw [h]; exact Bool.false_ne_true)).symm.trans hr
          refine wp_skip ?_
          refine th_n ?_
          refine wp_seq ?_
          refine wp_regG (SN { w with drawn := w.drawn + 1 }) rfl ?_
          have hst := hst.draw (n := w.drawn + 1)
          generalize { w with drawn := w.drawn + 1 } = w at hst ⊢
          refine C_take (i := 0) (v := I y2.1) rfl (by kernel_rfl) (fun _ _ _ h => h) rfl rfl rfl (R_pure (by kernel_rfl)) ?_
          refine C_take (i := 1) (v := pt p1 0) rfl (by kernel_rfl) (fun _ _ _ h => h) rfl rfl rfl (R_pure (by kernel_rfl)) ?_
          refine C_take (i := 2) (v := pt p1 0) rfl (by kernel_rfl) (fun _ _ _ h => h) rfl rfl rfl (R_pure (by kernel_rfl)) ?_
          refine C_take (i := 3) (v := pt p1 3) rfl (by kernel_rfl) (fun _ _ _ h => h) rfl rfl rfl (R_pure (by kernel_rfl)) ?_
          refine C_take (i := 4) (v := pt p1 3) rfl (by kernel_rfl) (fun _ _ _ h => h) rfl rfl rfl (R_pure (by kernel_rfl)) ?_
          refine C_take (i := 5) (v := I y2.2.2.1.st.Term) rfl (by kernel_rfl) (fun _ _ _ h => h) rfl rfl rfl (R_load (hst.pull 2) rfl rfl) ?_
          refine C_take (i := 6) (v := I y2.1) rfl (by kernel_rfl) (fun _ _ _ h => h) rfl rfl rfl (R_pure (by kernel_rfl)) ?_
          refine C_take (i := 7) (v := I y2.2.2.1.st.Term) rfl (by kernel_rfl) (fun _ _ _ h => h) rfl rfl rfl (R_pure (by kernel_rfl)) ?_
          refine C_take (i := 8) (v := I 0) rfl (by kernel_rfl) (fun _ _ _ h => h) rfl rfl rfl (R_pure (by kernel_rfl)) ?_
          refine wpG_done (by kernel_rfl) ?_ _
          refine C_keepQ [(4, I y2.1), (5, I y2.2.2.1.st.Term), (6, I 0)] rfl fun b => ?_
          refine th_n ?_
          refine wp_ret ?_
          refine ret3 rfl rfl rfl rfl ?_
          obtain rfl := Option.some.inj hr
          have hst := (((((hst.pull 4).pull 4).pull 4).pull 4).pull 4)
          exact hR a7 c7 a8 c8 _ hst
def raft_Node_Fresh (k : Nat) (x1 : T_raft_Node) (x2 : Int) (x3 : Int) (x4 : Bool) (x5 : Int) (x6 : (List ((List UInt8) × (Option T_platter_file)))) : Option ((List UInt8) × Bool × (List T_term_Entry) × T_raft_Node) := (if decide (x1.applied < x1.st.Base) = true then some (x1.st.Snap, true, [], (T_raft_Node.mk x1.id x1.n x1.st x1.role x1.leader x1.commit x1.st.Base x1.timer x1.votes x1.next x1.match_ x1.out x1.broken)) else (Option.bind (term_State_From k x1 x2 x3 x4 x5 x6 (IntKind.i64.wrap (x1.applied + 1)) (IntKind.i64.wrap (x1.commit - x1.applied))) fun y2 => some ([], false, y2, (T_raft_Node.mk x1.id x1.n x1.st x1.role x1.leader x1.commit (IntKind.i64.wrap (x1.applied + (y2.length : Int))) x1.timer x1.votes x1.next x1.match_ x1.out x1.broken))))
set_option maxRecDepth 100000 in
set_option maxHeartbeats 4000000 in
theorem raft_Node_Fresh_ok {G w : World} {F : List HP} {R : Ending → World → Prop} (k : Nat) (x1 : T_raft_Node) (x2 : Int) (x3 : Int) (x4 : Bool) (x5 : Int) (x6 : (List ((List UInt8) × (Option T_platter_file)))) (p1 : Nat) (p2 : Nat) (p3 : Nat) (a1 : Option Addr) (c1 : Nat) (a2 : Option Addr) (c2 : Nat) (r : ((List UInt8) × Bool × (List T_term_Entry) × T_raft_Node)) (hst : St G w (blk p1 (cl [I x1.id, I x1.n, pt p2 0, I x1.st.Term, I x1.st.Vote, I x1.st.Base, I x1.st.BaseTerm, S x1.st.Snap, .slice a1 x1.st.Log.length c1, I x1.role, I x1.leader, I x1.commit, I x1.applied, I x1.timer, .bool (x1.votes 0), .bool (x1.votes 1), .bool (x1.votes 2), .bool (x1.votes 3), .bool (x1.votes 4), I (x1.next 0), I (x1.next 1), I (x1.next 2), I (x1.next 3), I (x1.next 4), I (x1.match_ 0), I (x1.match_ 1), I (x1.match_ 2), I (x1.match_ 3), I (x1.match_ 4), .slice a2 x1.out.length c2, I x1.broken] 66) :: blk p2 (cl [I x2, I x3, .bool x4, I x5, .map (some p3)] 79) :: mpr S (rPt r_T_platter_file) p3 x6 :: osl r_T_term_Entry 48 a1 c1 x1.st.Log :: osl r_T_raft_Msg 39 a2 c2 x1.out :: F)) (hr : raft_Node_Fresh k x1 x2 x3 x4 x5 x6 = some r)
    (hR : ∀ (a4 : Option Addr) (c4 : Nat) (a5 : Option Addr) (c5 : Nat) (a6 : Option Addr) (c6 : Nat) w', St G w' (osl r_T_term_Entry 48 a4 c4 r.2.2.1 :: osl r_T_term_Entry 48 a5 c5 r.2.2.2.st.Log :: osl r_T_raft_Msg 39 a6 c6 r.2.2.2.out :: blk p1 (cl [I r.2.2.2.id, I r.2.2.2.n, pt p2 0, I r.2.2.2.st.Term, I r.2.2.2.st.Vote, I r.2.2.2.st.Base, I r.2.2.2.st.BaseTerm, S r.2.2.2.st.Snap, .slice a5 r.2.2.2.st.Log.length c5, I r.2.2.2.role, I r.2.2.2.leader, I r.2.2.2.commit, I r.2.2.2.applied, I r.2.2.2.timer, .bool (r.2.2.2.votes 0), .bool (r.2.2.2.votes 1), .bool (r.2.2.2.votes 2), .bool (r.2.2.2.votes 3), .bool (r.2.2.2.votes 4), I (r.2.2.2.next 0), I (r.2.2.2.next 1), I (r.2.2.2.next 2), I (r.2.2.2.next 3), I (r.2.2.2.next 4), I (r.2.2.2.match_ 0), I (r.2.2.2.match_ 1), I (r.2.2.2.match_ 2), I (r.2.2.2.match_ 3), I (r.2.2.2.match_ 4), .slice a6 r.2.2.2.out.length c6, I r.2.2.2.broken] 66) :: blk p2 (cl [I x2, I x3, .bool x4, I x5, .map (some p3)] 79) :: mpr S (rPt r_T_platter_file) p3 x6 :: F) → R (.returned (.tuple #[S r.1, .bool r.2.1, .slice a4 r.2.2.1.length c4])) w') :
    Calls Tryz.prog 20 #[pt p1 0] w R := by
  unfold raft_Node_Fresh at hr
  refine enter Tryz.func20 rfl [(0, pt p1 0)] rfl rfl fun b => ?_
  refine wp_seq ?_
  refine wp_reg ?_
  refine L_pure 3 [(0, pt p1 0)] (by kernel_rfl) fun b => ?_
  refine wpL_nil ?_
  refine th_n ?_
  refine wp_seq ?_
  refine wp_seq ?_
  refine wp_regG (SN { w with drawn := w.drawn + 1 }) rfl ?_
  have hst := hst.draw (n := w.drawn + 1)
  generalize { w with drawn := w.drawn + 1 } = w at hst ⊢
  refine C_take (i := 0) (v := pt p1 0) rfl (by kernel_rfl) (fun _ _ _ h => h) rfl rfl rfl (R_pure (by kernel_rfl)) ?_
  refine C_take (i := 1) (v := pt p1 0) rfl (by kernel_rfl) (fun _ _ _ h => h) rfl rfl rfl (R_pure (by kernel_rfl)) ?_
  refine C_take (i := 2) (v := pt p1 12) rfl (by kernel_rfl) (fun _ _ _ h => h) rfl rfl rfl (R_pure (by kernel_rfl)) ?_
  refine C_take (i := 3) (v := I x1.applied) rfl (by kernel_rfl) (fun _ _ _ h => h) rfl rfl rfl (R_load hst rfl rfl) ?_
  refine C_take (i := 4) (v := pt p1 0) rfl (by kernel_rfl) (fun _ _ _ h => h) rfl rfl rfl (R_pure (by kernel_rfl)) ?_
  refine C_take (i := 5) (v := pt p1 0) rfl (by kernel_rfl) (fun _ _ _ h => h) rfl rfl rfl (R_pure (by kernel_rfl)) ?_
  refine C_take (i := 6) (v := pt p1 3) rfl (by kernel_rfl) (fun _ _ _ h => h) rfl rfl rfl (R_pure (by kernel_rfl)) ?_
  refine C_take (i := 7) (v := pt p1 5) rfl (by kernel_rfl) (fun _ _ _ h => h) rfl rfl rfl (R_pure (by kernel_rfl)) ?_
  refine C_take (i := 8) (v := I x1.st.Base) rfl (by kernel_rfl) (fun _ _ _ h => h) rfl rfl rfl (R_load hst rfl rfl) ?_
  refine C_take (i := 9) (v := .bool (decide (x1.applied < x1.st.Base))) rfl (by kernel_rfl) (fun _ _ _ h => h) rfl rfl rfl (R_pure (by kernel_rfl)) ?_
  refine wpG_done (by kernel_rfl) ?_ _
  refine C_keepQ [(0, pt p1 0), (15, .bool (decide (x1.applied < x1.st.Base)))] rfl fun b => ?_
  refine th_n ?_
  refine wp_cond_mkF (t := decide (x1.applied < x1.st.Base)) rfl (fun h => ?_) (fun h => ?_)
  · have hr := (if_pos h).symm.trans hr
    refine wp_seq ?_
    refine wp_reg ?_
    refine L_pure 5 [(0, pt p1 0), (16, pt p1 0), (20, pt p1 5)] (by kernel_rfl) fun b => ?_
    refine L_op rfl (O_run (v := I x1.st.Base) (w' := w) (R_load hst rfl rfl) rfl rfl ?_)
    refine L_pure 2 [(0, pt p1 0), (21, I x1.st.Base), (23, pt p1 12)] (by kernel_rfl) fun b => ?_
    refine L_op rfl (O_store [I x1.id, I x1.n, pt p2 0, I x1.st.Term, I x1.st.Vote, I x1.st.Base, I x1.st.BaseTerm, S x1.st.Snap, .slice a1 x1.st.Log.length c1, I x1.role, I x1.leader, I x1.commit, I x1.st.Base, I x1.timer, .bool (x1.votes 0), .bool (x1.votes 1), .bool (x1.votes 2), .bool (x1.votes 3), .bool (x1.votes 4), I (x1.next 0), I (x1.next 1), I (x1.next 2), I (x1.next 3), I (x1.next 4), I (x1.match_ 0), I (x1.match_ 1), I (x1.match_ 2), I (x1.match_ 3), I (x1.match_ 4), .slice a2 x1.out.length c2, I x1.broken] hst rfl rfl (by kernel_rfl) fun w hst => ?_)
    refine wpL_nil ?_
    refine th_n ?_
    refine wp_seq ?_
    refine wp_reg ?_
    refine L_pure 4 [(27, pt p1 7)] (by kernel_rfl) fun b => ?_
    refine L_op rfl (O_run (v := S x1.st.Snap) (w' := w) (R_load hst rfl rfl) rfl rfl ?_)
    refine L_pure 3 [(2, S x1.st.Snap), (3, .bool true), (4, .slice none 0 0)] (by kernel_rfl) fun b => ?_
    refine wpL_nil ?_
    refine th_n ?_
    refine wp_ret ?_
    refine th_r ?_
    refine ret3 rfl rfl rfl rfl ?_
    obtain rfl := Option.some.inj hr
    have hst := osl_nil r_T_term_Entry 48 hst
    have hst := ((((((hst.pull 3).pull 3).pull 3).pull 5).pull 5).pull 5)
    exact hR none 0 a1 c1 a2 c2 _ hst
  · have hr := (if_neg (by rw [h]; exact Bool.false_ne_true)).symm.trans hr
    refine wp_skip ?_
    refine th_n ?_
    refine wp_seq ?_
    refine wp_regG (SQ (fun w => St G w (blk p1 (cl [I x1.id, I x1.n, pt p2 0, I x1.st.Term, I x1.st.Vote, I x1.st.Base, I x1.st.BaseTerm, S x1.st.Snap, .slice a1 x1.st.Log.length c1, I x1.role, I x1.leader, I x1.commit, I x1.applied, I x1.timer, .bool (x1.votes 0), .bool (x1.votes 1), .bool (x1.votes 2), .bool (x1.votes 3), .bool (x1.votes 4), I (x1.next 0), I (x1.next 1), I (x1.next 2), I (x1.next 3), I (x1.next 4), I (x1.match_ 0), I (x1.match_ 1), I (x1.match_ 2), I (x1.match_ 3), I (x1.match_ 4), .slice a2 x1.out.length c2, I x1.broken] 66) :: blk p2 (cl [I x2, I x3, .bool x4, I x5, .map (some p3)] 79) :: mpr S (rPt r_T_platter_file) p3 x6 :: osl r_T_term_Entry 48 a1 c1 x1.st.Log :: osl r_T_raft_Msg 39 a2 c2 x1.out :: F))) rfl ?_
    have hst := hst.draw (n := w.drawn + 1)
    generalize { w with drawn := w.drawn + 1 } = w at hst ⊢
    refine Q_take (i := 0) (v := pt p1 0) rfl (by kernel_rfl) (fun _ _ _ h => h) rfl rfl rfl (fun _ _ => R_pure (by kernel_rfl)) (((((hst.pull 4).pull 4).pull 4).pull 4).pull 4) ?_
    refine Q_take (i := 1) (v := pt p1 0) rfl (by kernel_rfl) (fun _ _ _ h => h) rfl rfl rfl (fun _ _ => R_pure (by kernel_rfl)) (((((hst.pull 4).pull 4).pull 4).pull 4).pull 4) ?_
    refine Q_take (i := 2) (v := pt p1 3) rfl (by kernel_rfl) (fun _ _ _ h => h) rfl rfl rfl (fun _ _ => R_pure (by kernel_rfl)) (((((hst.pull 4).pull 4).pull 4).pull 4).pull 4) ?_
    refine Q_take (i := 3) (v := pt p1 0) rfl (by kernel_rfl) (fun _ _ _ h => h) rfl rfl rfl (fun _ _ => R_pure (by kernel_rfl)) (((((hst.pull 4).pull 4).pull 4).pull 4).pull 4) ?_
    refine Q_take (i := 4) (v := pt p1 0) rfl (by kernel_rfl) (fun _ _ _ h => h) rfl rfl rfl (fun _ _ => R_pure (by kernel_rfl)) (((((hst.pull 4).pull 4).pull 4).pull 4).pull 4) ?_
    refine Q_take (i := 5) (v := pt p1 12) rfl (by kernel_rfl) (fun _ _ _ h => h) rfl rfl rfl (fun _ _ => R_pure (by kernel_rfl)) (((((hst.pull 4).pull 4).pull 4).pull 4).pull 4) ?_
    refine Q_take (i := 6) (v := I x1.applied) rfl (by kernel_rfl) (fun _ _ _ h => h) rfl rfl rfl (fun w hst => R_load hst rfl rfl) (((((hst.pull 4).pull 4).pull 4).pull 4).pull 4) ?_
    refine Q_take (i := 7) (v := I (IntKind.i64.wrap (x1.applied + 1))) rfl (by kernel_rfl) (fun _ _ _ h => h) rfl rfl rfl (fun _ _ => R_pure (by kernel_rfl)) (((((hst.pull 4).pull 4).pull 4).pull 4).pull 4) ?_
    refine Q_take (i := 8) (v := pt p1 0) rfl (by kernel_rfl) (fun _ _ _ h => h) rfl rfl rfl (fun _ _ => R_pure (by kernel_rfl)) (((((hst.pull 4).pull 4).pull 4).pull 4).pull 4) ?_
    refine Q_take (i := 9) (v := pt p1 0) rfl (by kernel_rfl) (fun _ _ _ h => h) rfl rfl rfl (fun _ _ => R_pure (by kernel_rfl)) (((((hst.pull 4).pull 4).pull 4).pull 4).pull 4) ?_
    refine Q_take (i := 10) (v := pt p1 11) rfl (by kernel_rfl) (fun _ _ _ h => h) rfl rfl rfl (fun _ _ => R_pure (by kernel_rfl)) (((((hst.pull 4).pull 4).pull 4).pull 4).pull 4) ?_
    refine Q_take (i := 11) (v := I x1.commit) rfl (by kernel_rfl) (fun _ _ _ h => h) rfl rfl rfl (fun w hst => R_load hst rfl rfl) (((((hst.pull 4).pull 4).pull 4).pull 4).pull 4) ?_
    refine Q_take (i := 12) (v := pt p1 0) rfl (by kernel_rfl) (fun _ _ _ h => h) rfl rfl rfl (fun _ _ => R_pure (by kernel_rfl)) (((((hst.pull 4).pull 4).pull 4).pull 4).pull 4) ?_
    refine Q_take (i := 13) (v := pt p1 0) rfl (by kernel_rfl) (fun _ _ _ h => h) rfl rfl rfl (fun _ _ => R_pure (by kernel_rfl)) (((((hst.pull 4).pull 4).pull 4).pull 4).pull 4) ?_
    refine Q_take (i := 14) (v := pt p1 12) rfl (by kernel_rfl) (fun _ _ _ h => h) rfl rfl rfl (fun _ _ => R_pure (by kernel_rfl)) (((((hst.pull 4).pull 4).pull 4).pull 4).pull 4) ?_
    refine Q_take (i := 15) (v := I x1.applied) rfl (by kernel_rfl) (fun _ _ _ h => h) rfl rfl rfl (fun w hst => R_load hst rfl rfl) (((((hst.pull 4).pull 4).pull 4).pull 4).pull 4) ?_
    refine Q_take (i := 16) (v := I (IntKind.i64.wrap (x1.commit - x1.applied))) rfl (by kernel_rfl) (fun _ _ _ h => h) rfl rfl rfl (fun _ _ => R_pure (by kernel_rfl)) (((((hst.pull 4).pull 4).pull 4).pull 4).pull 4) ?_
    obtain ⟨y2, hy2, hr⟩ := bnd hr
    refine Q_one (i := 17) (by kernel_rfl) rfl rfl (O_call (vs := #[pt p1 3, I (IntKind.i64.wrap (x1.applied + 1)), I (IntKind.i64.wrap (x1.commit - x1.applied))]) Tryz.call38 (by kernel_rfl) (term_State_From_ok k x1 x2 x3 x4 x5 x6 (IntKind.i64.wrap (x1.applied + 1)) (IntKind.i64.wrap (x1.commit - x1.applied)) p1 p2 p3 a1 c1 a2 c2 y2 (((((hst.pull 4).pull 4).pull 4).pull 4).pull 4) hy2 fun a7 c7 w hst => ?_))
    refine CK_ret rfl ?_
    refine ⟨((((((hst.pull 5).pull 5).pull 5).pull 5).pull 5).cut 5 1), ?_⟩
    refine Q_take (i := 18) (v := .slice a7 y2.length c7) rfl (by kernel_rfl) (fun _ _ _ h => h) rfl rfl rfl (fun _ _ => R_pure (by kernel_rfl)) ((((((hst.pull 5).pull 5).pull 5).pull 5).pull 5).cut 5 1) ?_
    refine wpG_done (by kernel_rfl) ?_ _
    refine C_keepQ [(0, pt p1 0), (5, .slice a7 y2.length c7)] rfl fun b => ?_
    refine th_n ?_
    refine wp_seq ?_
    refine wp_reg ?_
    refine L_pure 3 [(5, .slice a7 y2.length c7), (47, pt p1 0), (49, pt p1 12)] (by kernel_rfl) fun b => ?_
    refine L_op rfl (O_run (v := I x1.applied) (w' := w) (R_load (hst.pull 1) rfl rfl) rfl rfl ?_)
    refine L_pure 5 [(5, .slice a7 y2.length c7), (53, I (IntKind.i64.wrap (x1.applied + (y2.length : Int)))), (55, pt p1 12)] (by kernel_rfl) fun b => ?_
    refine L_op rfl (O_store [I x1.id, I x1.n, pt p2 0, I x1.st.Term, I x1.st.Vote, I x1.st.Base, I x1.st.BaseTerm, S x1.st.Snap, .slice a1 x1.st.Log.length c1, I x1.role, I x1.leader, I x1.commit, I (IntKind.i64.wrap (x1.applied + (y2.length : Int))), I x1.timer, .bool (x1.votes 0), .bool (x1.votes 1), .bool (x1.votes 2), .bool (x1.votes 3), .bool (x1.votes 4), I (x1.next 0), I (x1.next 1), I (x1.next 2), I (x1.next 3), I (x1.next 4), I (x1.match_ 0), I (x1.match_ 1), I (x1.match_ 2), I (x1.match_ 3), I (x1.match_ 4), .slice a2 x1.out.length c2, I x1.broken] (hst.pull 1) rfl rfl (by kernel_rfl) fun w hst => ?_)
    refine wpL_nil ?_
    refine th_n ?_
    refine wp_seq ?_
    refine wp_reg ?_
    refine L_pure 4 [(2, S ([])), (3, .bool false), (4, .slice a7 y2.length c7)] (by kernel_rfl) fun b => ?_
    refine wpL_nil ?_
    refine th_n ?_
    refine wp_ret ?_
    refine ret3 rfl rfl rfl rfl ?_
    obtain rfl := Option.some.inj hr
    have hst := ((((((hst.pull 3).pull 3).pull 2).pull 5).pull 5).pull 5)
    exact hR a7 c7 a1 c1 a2 c2 _ hst
def raft_Node_Commit (_k : Nat) (x1 : T_raft_Node) (_x2 : Int) (_x3 : Int) (_x4 : Bool) (_x5 : Int) (_x6 : (List ((List UInt8) × (Option T_platter_file)))) : Option (Int) := some (x1.commit)
set_option maxRecDepth 100000 in
set_option maxHeartbeats 4000000 in
theorem raft_Node_Commit_ok {G w : World} {F : List HP} {R : Ending → World → Prop} (k : Nat) (x1 : T_raft_Node) (x2 : Int) (x3 : Int) (x4 : Bool) (x5 : Int) (x6 : (List ((List UInt8) × (Option T_platter_file)))) (p1 : Nat) (p2 : Nat) (p3 : Nat) (a1 : Option Addr) (c1 : Nat) (a2 : Option Addr) (c2 : Nat) (r : (Int)) (hst : St G w (blk p1 (cl [I x1.id, I x1.n, pt p2 0, I x1.st.Term, I x1.st.Vote, I x1.st.Base, I x1.st.BaseTerm, S x1.st.Snap, .slice a1 x1.st.Log.length c1, I x1.role, I x1.leader, I x1.commit, I x1.applied, I x1.timer, .bool (x1.votes 0), .bool (x1.votes 1), .bool (x1.votes 2), .bool (x1.votes 3), .bool (x1.votes 4), I (x1.next 0), I (x1.next 1), I (x1.next 2), I (x1.next 3), I (x1.next 4), I (x1.match_ 0), I (x1.match_ 1), I (x1.match_ 2), I (x1.match_ 3), I (x1.match_ 4), .slice a2 x1.out.length c2, I x1.broken] 66) :: blk p2 (cl [I x2, I x3, .bool x4, I x5, .map (some p3)] 79) :: mpr S (rPt r_T_platter_file) p3 x6 :: osl r_T_term_Entry 48 a1 c1 x1.st.Log :: osl r_T_raft_Msg 39 a2 c2 x1.out :: F)) (hr : raft_Node_Commit k x1 x2 x3 x4 x5 x6 = some r)
    (hR : ∀ w', St G w' (blk p1 (cl [I x1.id, I x1.n, pt p2 0, I x1.st.Term, I x1.st.Vote, I x1.st.Base, I x1.st.BaseTerm, S x1.st.Snap, .slice a1 x1.st.Log.length c1, I x1.role, I x1.leader, I x1.commit, I x1.applied, I x1.timer, .bool (x1.votes 0), .bool (x1.votes 1), .bool (x1.votes 2), .bool (x1.votes 3), .bool (x1.votes 4), I (x1.next 0), I (x1.next 1), I (x1.next 2), I (x1.next 3), I (x1.next 4), I (x1.match_ 0), I (x1.match_ 1), I (x1.match_ 2), I (x1.match_ 3), I (x1.match_ 4), .slice a2 x1.out.length c2, I x1.broken] 66) :: blk p2 (cl [I x2, I x3, .bool x4, I x5, .map (some p3)] 79) :: mpr S (rPt r_T_platter_file) p3 x6 :: osl r_T_term_Entry 48 a1 c1 x1.st.Log :: osl r_T_raft_Msg 39 a2 c2 x1.out :: F) → R (.returned (I r)) w') :
    Calls Tryz.prog 12 #[pt p1 0] w R := by
  unfold raft_Node_Commit at hr
  refine enter Tryz.func12 rfl [(0, pt p1 0)] rfl rfl fun b => ?_
  refine wp_seq ?_
  refine wp_reg ?_
  refine L_pure 1 [(0, pt p1 0)] (by kernel_rfl) fun b => ?_
  refine wpL_nil ?_
  refine th_n ?_
  refine wp_seq ?_
  refine wp_reg ?_
  refine L_pure 3 [(5, pt p1 11)] (by kernel_rfl) fun b => ?_
  refine L_op rfl (O_run (v := I x1.commit) (w' := w) (R_load hst rfl rfl) rfl rfl ?_)
  refine L_pure 1 [(2, I x1.commit)] (by kernel_rfl) fun b => ?_
  refine wpL_nil ?_
  refine th_n ?_
  refine wp_ret ?_
  refine ret1 rfl rfl ?_
  obtain rfl := Option.some.inj hr
  have hst := (((((hst.pull 4).pull 4).pull 4).pull 4).pull 4)
  exact hR _ hst
def raft_Node_Term (_k : Nat) (x1 : T_raft_Node) (_x2 : Int) (_x3 : Int) (_x4 : Bool) (_x5 : Int) (_x6 : (List ((List UInt8) × (Option T_platter_file)))) : Option (Int) := some (x1.st.Term)
set_option maxRecDepth 100000 in
set_option maxHeartbeats 4000000 in
theorem raft_Node_Term_ok {G w : World} {F : List HP} {R : Ending → World → Prop} (k : Nat) (x1 : T_raft_Node) (x2 : Int) (x3 : Int) (x4 : Bool) (x5 : Int) (x6 : (List ((List UInt8) × (Option T_platter_file)))) (p1 : Nat) (p2 : Nat) (p3 : Nat) (a1 : Option Addr) (c1 : Nat) (a2 : Option Addr) (c2 : Nat) (r : (Int)) (hst : St G w (blk p1 (cl [I x1.id, I x1.n, pt p2 0, I x1.st.Term, I x1.st.Vote, I x1.st.Base, I x1.st.BaseTerm, S x1.st.Snap, .slice a1 x1.st.Log.length c1, I x1.role, I x1.leader, I x1.commit, I x1.applied, I x1.timer, .bool (x1.votes 0), .bool (x1.votes 1), .bool (x1.votes 2), .bool (x1.votes 3), .bool (x1.votes 4), I (x1.next 0), I (x1.next 1), I (x1.next 2), I (x1.next 3), I (x1.next 4), I (x1.match_ 0), I (x1.match_ 1), I (x1.match_ 2), I (x1.match_ 3), I (x1.match_ 4), .slice a2 x1.out.length c2, I x1.broken] 66) :: blk p2 (cl [I x2, I x3, .bool x4, I x5, .map (some p3)] 79) :: mpr S (rPt r_T_platter_file) p3 x6 :: osl r_T_term_Entry 48 a1 c1 x1.st.Log :: osl r_T_raft_Msg 39 a2 c2 x1.out :: F)) (hr : raft_Node_Term k x1 x2 x3 x4 x5 x6 = some r)
    (hR : ∀ w', St G w' (blk p1 (cl [I x1.id, I x1.n, pt p2 0, I x1.st.Term, I x1.st.Vote, I x1.st.Base, I x1.st.BaseTerm, S x1.st.Snap, .slice a1 x1.st.Log.length c1, I x1.role, I x1.leader, I x1.commit, I x1.applied, I x1.timer, .bool (x1.votes 0), .bool (x1.votes 1), .bool (x1.votes 2), .bool (x1.votes 3), .bool (x1.votes 4), I (x1.next 0), I (x1.next 1), I (x1.next 2), I (x1.next 3), I (x1.next 4), I (x1.match_ 0), I (x1.match_ 1), I (x1.match_ 2), I (x1.match_ 3), I (x1.match_ 4), .slice a2 x1.out.length c2, I x1.broken] 66) :: blk p2 (cl [I x2, I x3, .bool x4, I x5, .map (some p3)] 79) :: mpr S (rPt r_T_platter_file) p3 x6 :: osl r_T_term_Entry 48 a1 c1 x1.st.Log :: osl r_T_raft_Msg 39 a2 c2 x1.out :: F) → R (.returned (I r)) w') :
    Calls Tryz.prog 10 #[pt p1 0] w R := by
  unfold raft_Node_Term at hr
  refine enter Tryz.func10 rfl [(0, pt p1 0)] rfl rfl fun b => ?_
  refine wp_seq ?_
  refine wp_reg ?_
  refine L_pure 1 [(0, pt p1 0)] (by kernel_rfl) fun b => ?_
  refine wpL_nil ?_
  refine th_n ?_
  refine wp_seq ?_
  refine wp_reg ?_
  refine L_pure 4 [(6, pt p1 3)] (by kernel_rfl) fun b => ?_
  refine L_op rfl (O_run (v := I x1.st.Term) (w' := w) (R_load hst rfl rfl) rfl rfl ?_)
  refine L_pure 1 [(2, I x1.st.Term)] (by kernel_rfl) fun b => ?_
  refine wpL_nil ?_
  refine th_n ?_
  refine wp_ret ?_
  refine ret1 rfl rfl ?_
  obtain rfl := Option.some.inj hr
  have hst := (((((hst.pull 4).pull 4).pull 4).pull 4).pull 4)
  exact hR _ hst
def glacierlaw10_awake_l1 (k : Nat) (y14 : (Int × Int × Bool × Int × (List ((List UInt8) × (Option T_platter_file))))) : Nat → Int → T_raft_Node → Int → Int → (List ((List UInt8) × (Option T_platter_file))) → Option (T_raft_Node × Int × Int × (List ((List UInt8) × (Option T_platter_file))))
  | 0, _, _, _, _, _ => none
  | j + 1, v16, v17, v18, v19, v20 => (if decide (v16 < 3) = true then (Option.bind (raft_Node_Tick k v17 y14.1 v18 y14.2.2.1 v19 v20) fun y18 => (glacierlaw10_awake_l1 k y14 j (IntKind.i64.wrap (v16 + 1)) y18.1 y18.2.1 y18.2.2.1 y18.2.2.2)) else some (v17, v18, v19, v20))
def glacierlaw10_awake (k : Nat) : Option (Bool) := (Option.bind (platter_New k 10000) fun y14 => (Option.bind (raft_Open k y14.1 y14.2.1 y14.2.2.1 y14.2.2.2.1 y14.2.2.2.2 0 1) fun y15 => (Option.bind (if (y15.2.1 != 0) = true then some (true) else some (false)) fun y16 => (if y16 = true then some (false) else (Option.bind (glacierlaw10_awake_l1 k y14 k (0 : Int) y15.1 y15.2.2.1 y15.2.2.2.1 y15.2.2.2.2) fun y17 => (Option.bind (raft_Node_Role k y17.1 y14.1 y17.2.1 y14.2.2.1 y17.2.2.1 y17.2.2.2) fun y19 => (Option.bind (raft_Node_Tick k y17.1 y14.1 y17.2.1 y14.2.2.1 y17.2.2.1 y17.2.2.2) fun y20 => (Option.bind (raft_Node_Propose k y20.1 y14.1 y20.2.1 y14.2.2.1 y20.2.2.1 y20.2.2.2 ([120])) fun y21 => (Option.bind (raft_Node_Fresh k y21.2.2.2.1 y14.1 y21.2.2.2.2.1 y14.2.2.1 y21.2.2.2.2.2.1 y21.2.2.2.2.2.2) fun y22 => (Option.bind (if (y19 == 0) = true then (Option.bind (raft_Node_Role k y22.2.2.2 y14.1 y21.2.2.2.2.1 y14.2.2.1 y21.2.2.2.2.2.1 y21.2.2.2.2.2.2) fun y24 => (if (y24 == 2) = true then (if (y21.2.2.1 == 0) = true then (Option.bind (raft_Node_Commit k y22.2.2.2 y14.1 y21.2.2.2.2.1 y14.2.2.1 y21.2.2.2.2.2.1 y21.2.2.2.2.2.2) fun y25 => (if (y25 == 2) = true then (if ((y22.2.2.1.length : Int) == 2) = true then (Option.bind (gt y22.2.2.1 1) fun x2 => (if (sEq x2.Cmd ([120])) = true then (Option.bind (raft_Node_Term k y22.2.2.2 y14.1 y21.2.2.2.2.1 y14.2.2.1 y21.2.2.2.2.2.1 y21.2.2.2.2.2.2) fun y26 => some ((y26 == 1))) else some (false))) else some (false)) else some (false))) else some (false)) else some (false))) else some (false)) fun y23 => some (y23)))))))))))
set_option maxRecDepth 100000 in
set_option maxHeartbeats 4000000 in
theorem glacierlaw10_awake_ok {G w : World} {F : List HP} {R : Ending → World → Prop} (k : Nat) (r : (Bool)) (hst : St G w (F)) (hr : glacierlaw10_awake k = some r)
    (hR : ∀ w', St G w' (F) → R (.returned (.bool r)) w') :
    Calls Tryz.prog 5 #[] w R := by
  unfold glacierlaw10_awake at hr
  refine enter Tryz.func5 rfl [] rfl rfl fun b => ?_
  refine wp_seq ?_
  refine wp_reg ?_
  refine L_pure 1 [] (by kernel_rfl) fun b => ?_
  refine wpL_nil ?_
  refine th_n ?_
  refine wp_seq ?_
  refine wp_reg ?_
  obtain ⟨y14, hy14, hr⟩ := bnd hr
  refine L_op rfl (O_call (vs := #[I 10000]) Tryz.call17 (by kernel_rfl) (platter_New_ok k 10000 y14 hst hy14 fun p4 p5 w hst => ?_))
  refine CK_ret rfl ?_
  obtain ⟨y15, hy15, hr⟩ := bnd hr
  refine L_op rfl (O_call (vs := #[pt p4 0, I 0, I 1]) Tryz.call16 (by kernel_rfl) (raft_Open_ok k y14.1 y14.2.1 y14.2.2.1 y14.2.2.2.1 y14.2.2.2.2 0 1 p4 p5 y15 ((hst.pull 1).pull 1) hy15 fun p6 a18 c18 a19 c19 w hst => ?_))
  refine CK_ret rfl ?_
  refine L_pure 5 [(1, pt p6 0), (2, I y15.2.1)] (by kernel_rfl) fun b => ?_
  refine wpL_nil ?_
  refine th_n ?_
  refine wp_seq ?_
  obtain ⟨y16, hy16, hk4⟩ := bnd hr
  clear hr
  refine wp_seq_cut (fun a w => ∃ (b : Nat → Value), a = mkF 77 b [(1, pt p6 0), (21, .bool y16)] ∧ St G w (osl r_T_term_Entry 48 a18 c18 y15.1.st.Log :: osl r_T_raft_Msg 39 a19 c19 y15.1.out :: blk p6 (cl [I y15.1.id, I y15.1.n, pt p4 0, I y15.1.st.Term, I y15.1.st.Vote, I y15.1.st.Base, I y15.1.st.BaseTerm, S y15.1.st.Snap, .slice a18 y15.1.st.Log.length c18, I y15.1.role, I y15.1.leader, I y15.1.commit, I y15.1.applied, I y15.1.timer, .bool (y15.1.votes 0), .bool (y15.1.votes 1), .bool (y15.1.votes 2), .bool (y15.1.votes 3), .bool (y15.1.votes 4), I (y15.1.next 0), I (y15.1.next 1), I (y15.1.next 2), I (y15.1.next 3), I (y15.1.next 4), I (y15.1.match_ 0), I (y15.1.match_ 1), I (y15.1.match_ 2), I (y15.1.match_ 3), I (y15.1.match_ 4), .slice a19 y15.1.out.length c19, I y15.1.broken] 66) :: blk p4 (cl [I y14.1, I y15.2.2.1, .bool y14.2.2.1, I y15.2.2.2.1, .map (some p5)] 79) :: mpr S (rPt r_T_platter_file) p5 y15.2.2.2.2 :: F)) ?_ ?_
  · rintro _ w ⟨b, rfl, hst⟩
    have hr := hk4
    refine wp_cond_mkF (t := y16) rfl (fun h => ?_) (fun h => ?_)
    · have hr := (if_pos h).symm.trans hr
      refine wp_seq ?_
      refine wp_reg ?_
      refine L_pure 1 [(0, .bool false)] (by kernel_rfl) fun b => ?_
      refine wpL_nil ?_
      refine th_n ?_
      refine wp_ret ?_
      refine th_r ?_
      refine ret1 rfl rfl ?_
      obtain rfl := Option.some.inj hr
      have hst := (hst.cut 0 5)
      exact hR _ hst
    · have hr := (if_neg (by rw [h]; exact Bool.false_ne_true)).symm.trans hr
      refine wp_skip ?_
      refine th_n ?_
      refine wp_seq ?_
      refine wp_seq ?_
      refine wp_reg ?_
      refine L_pure 1 [(1, pt p6 0), (3, I 0)] (by kernel_rfl) fun b => ?_
      refine wpL_nil ?_
      refine th_n ?_
      obtain ⟨y17, hy17, hk5⟩ := bnd hr
      clear hr
      refine Go.Hx.wp_cut (fun a w => ∃ (a24 : Option Addr) (c24 : Nat) (a25 : Option Addr) (c25 : Nat)(b : Nat → Value), a = mkF 77 b [(1, pt p6 0)] ∧ St G w (osl r_T_term_Entry 48 a24 c24 y17.1.st.Log :: osl r_T_raft_Msg 39 a25 c25 y17.1.out :: blk p6 (cl [I y17.1.id, I y17.1.n, pt p4 0, I y17.1.st.Term, I y17.1.st.Vote, I y17.1.st.Base, I y17.1.st.BaseTerm, S y17.1.st.Snap, .slice a24 y17.1.st.Log.length c24, I y17.1.role, I y17.1.leader, I y17.1.commit, I y17.1.applied, I y17.1.timer, .bool (y17.1.votes 0), .bool (y17.1.votes 1), .bool (y17.1.votes 2), .bool (y17.1.votes 3), .bool (y17.1.votes 4), I (y17.1.next 0), I (y17.1.next 1), I (y17.1.next 2), I (y17.1.next 3), I (y17.1.next 4), I (y17.1.match_ 0), I (y17.1.match_ 1), I (y17.1.match_ 2), I (y17.1.match_ 3), I (y17.1.match_ 4), .slice a25 y17.1.out.length c25, I y17.1.broken] 66) :: blk p4 (cl [I y14.1, I y17.2.1, .bool y14.2.2.1, I y17.2.2.1, .map (some p5)] 79) :: mpr S (rPt r_T_platter_file) p5 y17.2.2.2 :: F)) ?_ ?_
      · rintro _ w ⟨a24, c24, a25, c25, b, rfl, hst⟩
        have hr := hk5
        refine th_n ?_
        refine wp_seq ?_
        refine wp_reg ?_
        refine L_pure 1 [(1, pt p6 0), (28, pt p6 0)] (by kernel_rfl) fun b => ?_
        obtain ⟨y19, hy19, hr⟩ := bnd hr
        refine L_op rfl (O_call (vs := #[pt p6 0]) Tryz.call18 (by kernel_rfl) (raft_Node_Role_ok k y17.1 y14.1 y17.2.1 y14.2.2.1 y17.2.2.1 y17.2.2.2 p6 p4 p5 a24 c24 a25 c25 y19 (((((hst.pull 1).pull 1).pull 4).pull 4).pull 4) hy19 fun w hst => ?_))
        refine CK_ret rfl ?_
        refine L_pure 1 [(1, pt p6 0), (4, I y19)] (by kernel_rfl) fun b => ?_
        refine wpL_nil ?_
        refine th_n ?_
        refine wp_seq ?_
        refine wp_reg ?_
        refine L_pure 1 [(1, pt p6 0), (4, I y19), (30, pt p6 0)] (by kernel_rfl) fun b => ?_
        obtain ⟨y20, hy20, hr⟩ := bnd hr
        refine L_op rfl (O_call (vs := #[pt p6 0]) Tryz.call14 (by kernel_rfl) (raft_Node_Tick_ok k y17.1 y14.1 y17.2.1 y14.2.2.1 y17.2.2.1 y17.2.2.2 p6 p4 p5 a24 c24 a25 c25 y20 (((((hst.pull 4).pull 4).pull 4).pull 4).pull 4) hy20 fun a28 c28 a29 c29 w hst => ?_))
        refine CK_ret rfl ?_
        refine wpL_nil ?_
        refine th_n ?_
        refine wp_seq ?_
        refine wp_reg ?_
        refine L_pure 1 [(1, pt p6 0), (4, I y19), (33, pt p6 0)] (by kernel_rfl) fun b => ?_
        obtain ⟨y21, hy21, hr⟩ := bnd hr
        refine L_op rfl (O_call (vs := #[pt p6 0, S ([120])]) Tryz.call19 (by kernel_rfl) (raft_Node_Propose_ok k y20.1 y14.1 y20.2.1 y14.2.2.1 y20.2.2.1 y20.2.2.2 ([120]) p6 p4 p5 a28 c28 a29 c29 y21 (((((hst.pull 1).pull 1).pull 4).pull 4).pull 4) hy21 fun a30 c30 a31 c31 w hst => ?_))
        refine CK_ret rfl ?_
        refine L_pure 7 [(1, pt p6 0), (4, I y19), (7, I y21.2.2.1)] (by kernel_rfl) fun b => ?_
        refine wpL_nil ?_
        refine th_n ?_
        refine wp_seq ?_
        refine wp_reg ?_
        refine L_pure 1 [(1, pt p6 0), (4, I y19), (7, I y21.2.2.1), (39, pt p6 0)] (by kernel_rfl) fun b => ?_
        obtain ⟨y22, hy22, hr⟩ := bnd hr
        refine L_op rfl (O_call (vs := #[pt p6 0]) Tryz.call20 (by kernel_rfl) (raft_Node_Fresh_ok k y21.2.2.2.1 y14.1 y21.2.2.2.2.1 y14.2.2.1 y21.2.2.2.2.2.1 y21.2.2.2.2.2.2 p6 p4 p5 a30 c30 a31 c31 y22 (((((hst.pull 1).pull 1).pull 4).pull 4).pull 4) hy22 fun a32 c32 a33 c33 a34 c34 w hst => ?_))
        refine CK_ret rfl ?_
        refine L_pure 7 [(1, pt p6 0), (4, I y19), (7, I y21.2.2.1), (10, .slice a32 y22.2.2.1.length c32)] (by kernel_rfl) fun b => ?_
        refine wpL_nil ?_
        refine th_n ?_
        obtain ⟨y23, hy23, hk6⟩ := bnd hr
        clear hr
        refine wp_seq_cut (fun a w => ∃ (b : Nat → Value), a = mkF 77 b [(0, .bool y23)] ∧ St G w (blk p6 (cl [I y22.2.2.2.id, I y22.2.2.2.n, pt p4 0, I y22.2.2.2.st.Term, I y22.2.2.2.st.Vote, I y22.2.2.2.st.Base, I y22.2.2.2.st.BaseTerm, S y22.2.2.2.st.Snap, .slice a33 y22.2.2.2.st.Log.length c33, I y22.2.2.2.role, I y22.2.2.2.leader, I y22.2.2.2.commit, I y22.2.2.2.applied, I y22.2.2.2.timer, .bool (y22.2.2.2.votes 0), .bool (y22.2.2.2.votes 1), .bool (y22.2.2.2.votes 2), .bool (y22.2.2.2.votes 3), .bool (y22.2.2.2.votes 4), I (y22.2.2.2.next 0), I (y22.2.2.2.next 1), I (y22.2.2.2.next 2), I (y22.2.2.2.next 3), I (y22.2.2.2.next 4), I (y22.2.2.2.match_ 0), I (y22.2.2.2.match_ 1), I (y22.2.2.2.match_ 2), I (y22.2.2.2.match_ 3), I (y22.2.2.2.match_ 4), .slice a34 y22.2.2.2.out.length c34, I y22.2.2.2.broken] 66) :: blk p4 (cl [I y14.1, I y21.2.2.2.2.1, .bool y14.2.2.1, I y21.2.2.2.2.2.1, .map (some p5)] 79) :: mpr S (rPt r_T_platter_file) p5 y21.2.2.2.2.2.2 :: osl r_T_term_Entry 48 a33 c33 y22.2.2.2.st.Log :: osl r_T_raft_Msg 39 a34 c34 y22.2.2.2.out :: osl r_T_term_Entry 48 a32 c32 y22.2.2.1 :: F)) ?_ ?_
        · rintro _ w ⟨b, rfl, hst⟩
          have hr := hk6
          refine wp_ret ?_
          refine ret1 rfl rfl ?_
          obtain rfl := Option.some.inj hr
          have hst := (hst.cut 0 6)
          exact hR _ hst
        · have hr := hy23
          refine wp_reg ?_
          refine L_pure 3 [(1, pt p6 0), (7, I y21.2.2.1), (10, .slice a32 y22.2.2.1.length c32), (46, .bool (y19 == 0))] (by kernel_rfl) fun b => ?_
          by_cases h : (y19 == 0) = true
          · have hr := (if_pos h).symm.trans hr
            refine L_keep ((46, .bool (y19 == 0)) :: [(1, pt p6 0), (7, I y21.2.2.1), (10, .slice a32 y22.2.2.1.length c32)]) rfl fun b => ?_
            refine L_bool h ?_
            refine L_pure 1 [(1, pt p6 0), (7, I y21.2.2.1), (10, .slice a32 y22.2.2.1.length c32), (46, .bool true), (47, pt p6 0)] (by kernel_rfl) fun b => ?_
            obtain ⟨y24, hy24, hr⟩ := bnd hr
            refine L_op rfl (O_call (vs := #[pt p6 0]) Tryz.call18 (by kernel_rfl) (raft_Node_Role_ok k y22.2.2.2 y14.1 y21.2.2.2.2.1 y14.2.2.1 y21.2.2.2.2.2.1 y21.2.2.2.2.2.2 p6 p4 p5 a33 c33 a34 c34 y24 (((((hst.pull 2).pull 2).pull 5).pull 5).pull 5) hy24 fun w hst => ?_))
            refine CK_ret rfl ?_
            refine L_pure 3 [(1, pt p6 0), (7, I y21.2.2.1), (10, .slice a32 y22.2.2.1.length c32), (51, .bool (y24 == 2))] (by kernel_rfl) fun b => ?_
            by_cases h : (y24 == 2) = true
            · have hr := (if_pos h).symm.trans hr
              refine L_keep ((51, .bool (y24 == 2)) :: [(1, pt p6 0), (7, I y21.2.2.1), (10, .slice a32 y22.2.2.1.length c32)]) rfl fun b => ?_
              refine L_bool h ?_
              refine L_pure 4 [(1, pt p6 0), (10, .slice a32 y22.2.2.1.length c32), (55, .bool (y21.2.2.1 == 0))] (by kernel_rfl) fun b => ?_
              by_cases h : (y21.2.2.1 == 0) = true
              · have hr := (if_pos h).symm.trans hr
                refine L_keep ((55, .bool (y21.2.2.1 == 0)) :: [(1, pt p6 0), (10, .slice a32 y22.2.2.1.length c32)]) rfl fun b => ?_
                refine L_bool h ?_
                refine L_pure 1 [(1, pt p6 0), (10, .slice a32 y22.2.2.1.length c32), (55, .bool true), (56, pt p6 0)] (by kernel_rfl) fun b => ?_
                obtain ⟨y25, hy25, hr⟩ := bnd hr
                refine L_op rfl (O_call (vs := #[pt p6 0]) Tryz.call12 (by kernel_rfl) (raft_Node_Commit_ok k y22.2.2.2 y14.1 y21.2.2.2.2.1 y14.2.2.1 y21.2.2.2.2.2.1 y21.2.2.2.2.2.2 p6 p4 p5 a33 c33 a34 c34 y25 (((((hst.pull 4).pull 4).pull 4).pull 4).pull 4) hy25 fun w hst => ?_))
                refine CK_ret rfl ?_
                refine L_pure 3 [(1, pt p6 0), (10, .slice a32 y22.2.2.1.length c32), (60, .bool (y25 == 2))] (by kernel_rfl) fun b => ?_
                by_cases h : (y25 == 2) = true
                · have hr := (if_pos h).symm.trans hr
                  refine L_keep ((60, .bool (y25 == 2)) :: [(1, pt p6 0), (10, .slice a32 y22.2.2.1.length c32)]) rfl fun b => ?_
                  refine L_bool h ?_
                  refine L_pure 5 [(1, pt p6 0), (10, .slice a32 y22.2.2.1.length c32), (65, .bool ((y22.2.2.1.length : Int) == 2))] (by kernel_rfl) fun b => ?_
                  by_cases h : ((y22.2.2.1.length : Int) == 2) = true
                  · have hr := (if_pos h).symm.trans hr
                    refine L_keep ((65, .bool ((y22.2.2.1.length : Int) == 2)) :: [(1, pt p6 0), (10, .slice a32 y22.2.2.1.length c32)]) rfl fun b => ?_
                    refine L_bool h ?_
                    refine L_pure 1 [(1, pt p6 0), (65, .bool true), (66, .slice a32 y22.2.2.1.length c32)] (by kernel_rfl) fun b => ?_
                    obtain ⟨x2, hx2, hr⟩ := bnd hr
                    refine L_op rfl (O_run (v := pt (ab a32) (ao a32 + (1 : Int).toNat * 3)) (w' := w) (R_ia L37 rfl rfl (osl_addr (hst.pull 5) hx2) (gt_some hx2).1 (gt_some hx2).2.1) rfl rfl ?_)
                    refine L_pure 1 [(1, pt p6 0), (65, .bool true), (68, pt (ab a32) (ao a32 + (1 : Int).toNat * 3 + 2))] (by kernel_rfl) fun b => ?_
                    obtain ⟨q2, hc2, hst⟩ := osl_cells (hst.pull 5) hx2
                    have hst := hst.drop
                    refine L_op rfl (O_run (v := S x2.Cmd) (w' := w) (R_loadAt (off := ao a32 + (1 : Int).toNat * 3) (j := 2) hc2 rfl rfl) rfl rfl ?_)
                    refine L_pure 3 [(1, pt p6 0), (72, .bool (sEq x2.Cmd ([120])))] (by kernel_rfl) fun b => ?_
                    by_cases h : (sEq x2.Cmd ([120])) = true
                    · have hr := (if_pos h).symm.trans hr
                      refine L_keep ((72, .bool (sEq x2.Cmd ([120]))) :: [(1, pt p6 0)]) rfl fun b => ?_
                      refine L_bool h ?_
                      refine L_pure 1 [(72, .bool true), (73, pt p6 0)] (by kernel_rfl) fun b => ?_
                      obtain ⟨y26, hy26, hr⟩ := bnd hr
                      refine L_op rfl (O_call (vs := #[pt p6 0]) Tryz.call10 (by kernel_rfl) (raft_Node_Term_ok k y22.2.2.2 y14.1 y21.2.2.2.2.1 y14.2.2.1 y21.2.2.2.2.2.1 y21.2.2.2.2.2.2 p6 p4 p5 a33 c33 a34 c34 y26 (((((hst.pull 5).pull 5).pull 5).pull 5).pull 5) hy26 fun w hst => ?_))
                      refine CK_ret rfl ?_
                      refine L_pure 3 [(0, .bool (y26 == 1))] (by kernel_rfl) fun b => ?_
                      refine wpL_nil ?_
                      refine th_n ?_
                      obtain rfl := Option.some.inj hr
                      have hst := ((((((hst.pull 5).pull 5).pull 5).pull 5).pull 5).pull 5)
                      exact (kpX [(0, .bool (y26 == 1))] rfl hst)
                    · have hr := (if_neg h).symm.trans hr
                      refine L_keep ((72, .bool (sEq x2.Cmd ([120]))) :: [(1, pt p6 0)]) rfl fun b => ?_
                      refine L_bool (eq_false_of_ne_true h) ?_
                      refine L_pure 5 [(0, .bool false)] (by kernel_rfl) fun b => ?_
                      refine wpL_nil ?_
                      refine th_n ?_
                      obtain rfl := Option.some.inj hr
                      have hst := (((((hst.pull 5).pull 5).pull 5).pull 5).pull 5)
                      exact (kpX [(0, .bool false)] rfl hst)
                  · have hr := (if_neg h).symm.trans hr
                    refine L_keep ((65, .bool ((y22.2.2.1.length : Int) == 2)) :: [(1, pt p6 0), (10, .slice a32 y22.2.2.1.length c32)]) rfl fun b => ?_
                    refine L_bool (eq_false_of_ne_true h) ?_
                    refine L_pure 12 [(0, .bool false)] (by kernel_rfl) fun b => ?_
                    refine wpL_nil ?_
                    refine th_n ?_
                    obtain rfl := Option.some.inj hr
                    have hst := ((((((hst.pull 5).pull 5).pull 5).pull 5).pull 5).pull 5)
                    exact (kpX [(0, .bool false)] rfl hst)
                · have hr := (if_neg h).symm.trans hr
                  refine L_keep ((60, .bool (y25 == 2)) :: [(1, pt p6 0), (10, .slice a32 y22.2.2.1.length c32)]) rfl fun b => ?_
                  refine L_bool (eq_false_of_ne_true h) ?_
                  refine L_pure 17 [(0, .bool false)] (by kernel_rfl) fun b => ?_
                  refine wpL_nil ?_
                  refine th_n ?_
                  obtain rfl := Option.some.inj hr
                  have hst := ((((((hst.pull 5).pull 5).pull 5).pull 5).pull 5).pull 5)
                  exact (kpX [(0, .bool false)] rfl hst)
              · have hr := (if_neg h).symm.trans hr
                refine L_keep ((55, .bool (y21.2.2.1 == 0)) :: [(1, pt p6 0), (10, .slice a32 y22.2.2.1.length c32)]) rfl fun b => ?_
                refine L_bool (eq_false_of_ne_true h) ?_
                refine L_pure 22 [(0, .bool false)] (by kernel_rfl) fun b => ?_
                refine wpL_nil ?_
                refine th_n ?_
                obtain rfl := Option.some.inj hr
                have hst := ((((((hst.pull 5).pull 5).pull 5).pull 5).pull 5).pull 5)
                exact (kpX [(0, .bool false)] rfl hst)
            · have hr := (if_neg h).symm.trans hr
              refine L_keep ((51, .bool (y24 == 2)) :: [(1, pt p6 0), (7, I y21.2.2.1), (10, .slice a32 y22.2.2.1.length c32)]) rfl fun b => ?_
              refine L_bool (eq_false_of_ne_true h) ?_
              refine L_pure 26 [(0, .bool false)] (by kernel_rfl) fun b => ?_
              refine wpL_nil ?_
              refine th_n ?_
              obtain rfl := Option.some.inj hr
              have hst := ((((((hst.pull 5).pull 5).pull 5).pull 5).pull 5).pull 5)
              exact (kpX [(0, .bool false)] rfl hst)
          · have hr := (if_neg h).symm.trans hr
            refine L_keep ((46, .bool (y19 == 0)) :: [(1, pt p6 0), (7, I y21.2.2.1), (10, .slice a32 y22.2.2.1.length c32)]) rfl fun b => ?_
            refine L_bool (eq_false_of_ne_true h) ?_
            refine L_pure 31 [(0, .bool false)] (by kernel_rfl) fun b => ?_
            refine wpL_nil ?_
            refine th_n ?_
            obtain rfl := Option.some.inj hr
            have hst := (((((hst.pull 2).pull 2).pull 5).pull 5).pull 5)
            exact (kpX [(0, .bool false)] rfl hst)
      · have hst := (((((hst.pull 4).pull 4).pull 4).pull 4).pull 4)
        refine wp_block ?_
        refine wp_loop_fuel (fun j a w => ∃ (v16 : Int) (v17 : T_raft_Node) (v18 : Int) (v19 : Int) (v20 : (List ((List UInt8) × (Option T_platter_file)))) (a20 : Option Addr) (c20 : Nat) (a21 : Option Addr) (c21 : Nat) (b : Nat → Value), a = mkF 77 b [(1, pt p6 0), (3, I v16)] ∧ St G w (osl r_T_term_Entry 48 a20 c20 v17.st.Log :: osl r_T_raft_Msg 39 a21 c21 v17.out :: blk p6 (cl [I v17.id, I v17.n, pt p4 0, I v17.st.Term, I v17.st.Vote, I v17.st.Base, I v17.st.BaseTerm, S v17.st.Snap, .slice a20 v17.st.Log.length c20, I v17.role, I v17.leader, I v17.commit, I v17.applied, I v17.timer, .bool (v17.votes 0), .bool (v17.votes 1), .bool (v17.votes 2), .bool (v17.votes 3), .bool (v17.votes 4), I (v17.next 0), I (v17.next 1), I (v17.next 2), I (v17.next 3), I (v17.next 4), I (v17.match_ 0), I (v17.match_ 1), I (v17.match_ 2), I (v17.match_ 3), I (v17.match_ 4), .slice a21 v17.out.length c21, I v17.broken] 66) :: blk p4 (cl [I y14.1, I v18, .bool y14.2.2.1, I v19, .map (some p5)] 79) :: mpr S (rPt r_T_platter_file) p5 v20 :: F) ∧ glacierlaw10_awake_l1 k y14 j v16 v17 v18 v19 v20 = some y17) (k := k) ⟨(0 : Int), y15.1, y15.2.2.1, y15.2.2.2.1, y15.2.2.2.2, a18, c18, a19, c19, (kpX [(1, pt p6 0), (3, I 0)] rfl ⟨hst, hy17⟩)⟩ ?_ ?_
        · rintro _ _ ⟨_, _, _, _, _, _, _, _, _, _, _, _, h⟩
          rw [glacierlaw10_awake_l1] at h
          cases h
        · rintro j _ w ⟨v16, v17, v18, v19, v20, a20, c20, a21, c21, b, rfl, hst, hr⟩
          rw [glacierlaw10_awake_l1] at hr
          refine wp_seq ?_
          refine wp_seq ?_
          refine wp_reg ?_
          refine L_pure 2 [(1, pt p6 0), (3, I v16), (23, .bool (decide (v16 < 3)))] (by kernel_rfl) fun b => ?_
          refine wpL_nil ?_
          refine th_n ?_
          refine wp_cond_mkF (t := decide (v16 < 3)) rfl (fun h => ?_) (fun h => ?_)
          · have hr := (if_pos h).symm.trans hr
            refine wp_skip ?_
            refine th_n ?_
            refine wp_seq ?_
            refine wp_block ?_
            refine wp_reg ?_
            refine L_pure 1 [(1, pt p6 0), (3, I v16), (26, pt p6 0)] (by kernel_rfl) fun b => ?_
            obtain ⟨y18, hy18, hr⟩ := bnd hr
            refine L_op rfl (O_call (vs := #[pt p6 0]) Tryz.call14 (by kernel_rfl) (raft_Node_Tick_ok k v17 y14.1 v18 y14.2.2.1 v19 v20 p6 p4 p5 a20 c20 a21 c21 y18 (((((hst.pull 1).pull 1).pull 4).pull 4).pull 4) hy18 fun a26 c26 a27 c27 w hst => ?_))
            refine CK_ret rfl ?_
            refine wpL_nil ?_
            refine ib_n (th_n ?_)
            refine wp_reg ?_
            refine L_pure 3 [(1, pt p6 0), (3, I (IntKind.i64.wrap (v16 + 1)))] (by kernel_rfl) fun b => ?_
            refine wpL_nil ?_
            refine th_n ?_
            have hst := (((((hst.pull 4).pull 4).pull 4).pull 4).pull 4)
            exact ⟨(IntKind.i64.wrap (v16 + 1)), y18.1, y18.2.1, y18.2.2.1, y18.2.2.2, a26, c26, a27, c27, (kpX [(1, pt p6 0), (3, I (IntKind.i64.wrap (v16 + 1)))] rfl ⟨hst, hr⟩)⟩
          · have hr := (if_neg (by rw [h]; exact Bool.false_ne_true)).symm.trans hr
            refine wp_exit ?_
            refine th_x (th_x (ib_x (th_n ?_)))
            obtain rfl := Option.some.inj hr
            have hst := (((((hst.pull 4).pull 4).pull 4).pull 4).pull 4)
            exact ⟨a20, c20, a21, c21, (kpX [(1, pt p6 0)] rfl hst)⟩
  · have hr := hy16
    refine wp_reg ?_
    refine L_pure 3 [(1, pt p6 0), (18, .bool (y15.2.1 != 0))] (by kernel_rfl) fun b => ?_
    by_cases h : (y15.2.1 != 0) = true
    · have hr := (if_pos h).symm.trans hr
      refine L_keep ((18, .bool (y15.2.1 != 0)) :: [(1, pt p6 0)]) rfl fun b => ?_
      refine L_bool h ?_
      refine L_pure 3 [(1, pt p6 0), (21, .bool true)] (by kernel_rfl) fun b => ?_
      refine wpL_nil ?_
      refine th_n ?_
      obtain rfl := Option.some.inj hr
      have hst := (((((hst.pull 4).pull 4).pull 4).pull 4).pull 4)
      exact (kpX [(1, pt p6 0), (21, .bool true)] rfl hst)
    · have hr := (if_neg h).symm.trans hr
      refine L_keep ((18, .bool (y15.2.1 != 0)) :: [(1, pt p6 0)]) rfl fun b => ?_
      refine L_bool (eq_false_of_ne_true h) ?_
      refine L_pure 3 [(1, pt p6 0), (21, .bool false)] (by kernel_rfl) fun b => ?_
      refine wpL_nil ?_
      refine th_n ?_
      obtain rfl := Option.some.inj hr
      have hst := (((((hst.pull 4).pull 4).pull 4).pull 4).pull 4)
      exact (kpX [(1, pt p6 0), (21, .bool false)] rfl hst)
def term_Rewrite_l1 (k : Nat) (x6 : (List T_term_Entry)) : Nat → (List UInt8) → Int → Option ((List UInt8))
  | 0, _, _ => none
  | j + 1, v7, v8 => (if decide (v8 < (x6.length : Int)) = true then (Option.bind (gt x6 v8) fun x9 => (Option.bind (term_spell k x9) fun y5 => (Option.bind (cat v7 y5) fun x10 => (term_Rewrite_l1 k x6 j x10 (IntKind.i64.wrap (v8 + 1)))))) else some (v7))
def term_Rewrite (k : Nat) (x1 : Int) (x2 : Int) (x3 : Bool) (x4 : Int) (x5 : (List ((List UInt8) × (Option T_platter_file)))) (x6 : (List T_term_Entry)) : Option (Int × Int × Int × (List ((List UInt8) × (Option T_platter_file)))) := (Option.bind (term_Rewrite_l1 k x6 k ([]) (0 : Int)) fun y4 => (Option.bind (term_keep k x1 x2 x3 x4 x5 ([108, 111, 103]) y4) fun y6 => some (y6.1, y6.2.1, y6.2.2.1, y6.2.2.2)))
set_option maxRecDepth 100000 in
set_option maxHeartbeats 4000000 in
theorem term_Rewrite_ok {G w : World} {F : List HP} {R : Ending → World → Prop} (k : Nat) (x1 : Int) (x2 : Int) (x3 : Bool) (x4 : Int) (x5 : (List ((List UInt8) × (Option T_platter_file)))) (x6 : (List T_term_Entry)) (p1 : Nat) (p2 : Nat) (a1 : Option Addr) (c1 : Nat) (r : (Int × Int × Int × (List ((List UInt8) × (Option T_platter_file))))) (hst : St G w (blk p1 (cl [I x1, I x2, .bool x3, I x4, .map (some p2)] 79) :: mpr S (rPt r_T_platter_file) p2 x5 :: dsl r_T_term_Entry a1 c1 x6 :: F)) (hr : term_Rewrite k x1 x2 x3 x4 x5 x6 = some r)
    (hR : ∀ w', St G w' (blk p1 (cl [I x1, I r.2.1, .bool x3, I r.2.2.1, .map (some p2)] 79) :: mpr S (rPt r_T_platter_file) p2 r.2.2.2 :: dsl r_T_term_Entry a1 c1 x6 :: F) → R (.returned (I r.1)) w') :
    Calls Tryz.prog 44 #[pt p1 0, .slice a1 x6.length c1] w R := by
  unfold term_Rewrite at hr
  refine enter Tryz.func44 rfl [(0, pt p1 0), (1, .slice a1 x6.length c1)] rfl rfl fun b => ?_
  refine wp_seq ?_
  refine wp_reg ?_
  refine L_pure 1 [(0, pt p1 0), (1, .slice a1 x6.length c1)] (by kernel_rfl) fun b => ?_
  refine wpL_nil ?_
  refine th_n ?_
  refine wp_seq ?_
  refine wp_reg ?_
  refine L_pure 1 [(0, pt p1 0), (1, .slice a1 x6.length c1), (5, S ([]))] (by kernel_rfl) fun b => ?_
  refine wpL_nil ?_
  refine th_n ?_
  refine wp_seq ?_
  refine wp_seq ?_
  refine wp_reg ?_
  refine L_pure 3 [(0, pt p1 0), (5, S ([])), (8, .slice a1 x6.length c1), (9, I (x6.length : Int)), (10, I 0)] (by kernel_rfl) fun b => ?_
  refine wpL_nil ?_
  refine th_n ?_
  obtain ⟨y4, hy4, hk2⟩ := bnd hr
  clear hr
  refine Go.Hx.wp_cut (fun a w => ∃ (b : Nat → Value), a = mkF 22 b [(0, pt p1 0), (5, S y4)] ∧ St G w (blk p1 (cl [I x1, I x2, .bool x3, I x4, .map (some p2)] 79) :: mpr S (rPt r_T_platter_file) p2 x5 :: dsl r_T_term_Entry a1 c1 x6 :: F)) ?_ ?_
  · rintro _ w ⟨b, rfl, hst⟩
    have hr := hk2
    refine th_n ?_
    refine wp_seq ?_
    refine wp_reg ?_
    refine L_pure 2 [(19, pt p1 0), (20, S y4)] (by kernel_rfl) fun b => ?_
    obtain ⟨y6, hy6, hr⟩ := bnd hr
    refine L_op rfl (O_call (vs := #[pt p1 0, S ([108, 111, 103]), S y4]) Tryz.call39 (by kernel_rfl) (term_keep_ok k x1 x2 x3 x4 x5 ([108, 111, 103]) y4 p1 p2 y6 ((hst.pull 1).pull 1) hy6 fun w hst => ?_))
    refine CK_ret rfl ?_
    refine L_pure 1 [(4, I y6.1)] (by kernel_rfl) fun b => ?_
    refine wpL_nil ?_
    refine th_n ?_
    refine wp_ret ?_
    refine ret1 rfl rfl ?_
    obtain rfl := Option.some.inj hr
    have hst := (((hst.pull 2).pull 2).pull 2)
    exact hR _ hst
  · have hst := (((hst.pull 2).pull 2).pull 2)
    refine wp_block ?_
    refine wp_loop_fuel (fun j a w => ∃ (v7 : (List UInt8)) (v8 : Int) (b : Nat → Value), a = mkF 22 b [(0, pt p1 0), (5, S v7), (8, .slice a1 x6.length c1), (9, I (x6.length : Int)), (10, I v8)] ∧ St G w (blk p1 (cl [I x1, I x2, .bool x3, I x4, .map (some p2)] 79) :: mpr S (rPt r_T_platter_file) p2 x5 :: dsl r_T_term_Entry a1 c1 x6 :: F) ∧ term_Rewrite_l1 k x6 j v7 v8 = some y4) (k := k) ⟨[], (0 : Int), (kpX [(0, pt p1 0), (5, S ([])), (8, .slice a1 x6.length c1), (9, I (x6.length : Int)), (10, I 0)] rfl ⟨hst, hy4⟩)⟩ ?_ ?_
    · rintro _ _ ⟨_, _, _, _, _, h⟩
      rw [term_Rewrite_l1] at h
      cases h
    · rintro j _ w ⟨v7, v8, b, rfl, hst, hr⟩
      rw [term_Rewrite_l1] at hr
      refine wp_seq ?_
      refine wp_reg ?_
      refine L_pure 1 [(0, pt p1 0), (5, S v7), (8, .slice a1 x6.length c1), (9, I (x6.length : Int)), (10, I v8), (11, .bool (decide (v8 < (x6.length : Int))))] (by kernel_rfl) fun b => ?_
      refine wpL_nil ?_
      refine th_n ?_
      refine wp_seq ?_
      refine wp_cond_mkF (t := decide (v8 < (x6.length : Int))) rfl (fun h => ?_) (fun h => ?_)
      · have hr := (if_pos h).symm.trans hr
        refine wp_skip ?_
        refine th_n ?_
        refine wp_seq ?_
        refine wp_block ?_
        refine wp_seq ?_
        refine wp_reg ?_
        obtain ⟨x9, hx3, hr⟩ := bnd hr
        refine L_op rfl (O_run (v := pt (ab a1) (ao a1 + v8.toNat * 3)) (w' := w) (R_ia L37 rfl rfl (dsl_addr (hst.pull 2) hx3) (gt_some hx3).1 (gt_some hx3).2.1) rfl rfl ?_)
        obtain ⟨q2, hc2, hst⟩ := dsl_cells (hst.pull 2) hx3
        have hst := hst.drop
        refine L_op rfl (O_run (v := .agg #[I x9.Index, I x9.Term, S x9.Cmd]) (w' := w) (R_loadAt (off := ao a1 + v8.toNat * 3) (j := 0) hc2 rfl rfl) rfl rfl ?_)
        refine L_op rfl (O_alloc (i := Tryz.t48) (z := .agg #[I 0, I 0, S ([])]) [I 0, I 0, S ([])] hst rfl rfl rfl rfl fun p4 w hst => ?_)
        refine L_op rfl (O_store [I x9.Index, I x9.Term, S x9.Cmd] hst rfl rfl (by kernel_rfl) fun w hst => ?_)
        refine wpL_nil ?_
        refine th_n ?_
        refine wp_reg ?_
        refine L_pure 1 [(0, pt p1 0), (7, pt p4 0), (8, .slice a1 x6.length c1), (9, I (x6.length : Int)), (10, I v8), (14, S v7)] (by kernel_rfl) fun b => ?_
        refine L_op rfl (O_run (v := .agg #[I x9.Index, I x9.Term, S x9.Cmd]) (w' := w) (R_load hst rfl rfl) rfl rfl ?_)
        obtain ⟨y5, hy5, hr⟩ := bnd hr
        refine L_op rfl (O_call (vs := #[.agg #[I x9.Index, I x9.Term, S x9.Cmd]]) Tryz.call64 (by kernel_rfl) (term_spell_ok k x9 y5 hst hy5 fun w hst => ?_))
        refine CK_ret rfl ?_
        obtain ⟨x10, hx4, hr⟩ := bnd hr
        refine L_op rfl (O_run (v := S x10) (w' := w) (R_cat rfl rfl hx4) rfl rfl ?_)
        refine L_pure 1 [(0, pt p1 0), (5, S x10), (8, .slice a1 x6.length c1), (9, I (x6.length : Int)), (10, I v8)] (by kernel_rfl) fun b => ?_
        refine wpL_nil ?_
        refine ib_n (th_n ?_)
        refine wp_reg ?_
        refine L_pure 2 [(0, pt p1 0), (5, S x10), (8, .slice a1 x6.length c1), (9, I (x6.length : Int)), (10, I (IntKind.i64.wrap (v8 + 1)))] (by kernel_rfl) fun b => ?_
        refine wpL_nil ?_
        refine th_n ?_
        have hst := ((((hst.pull 1).pull 3).pull 3).cut 3 1)
        exact ⟨x10, (IntKind.i64.wrap (v8 + 1)), (kpX [(0, pt p1 0), (5, S x10), (8, .slice a1 x6.length c1), (9, I (x6.length : Int)), (10, I (IntKind.i64.wrap (v8 + 1)))] rfl ⟨hst, hr⟩)⟩
      · have hr := (if_neg (by rw [h]; exact Bool.false_ne_true)).symm.trans hr
        refine wp_exit ?_
        refine th_x (th_x (ib_x (th_n ?_)))
        obtain rfl := Option.some.inj hr
        have hst := (((hst.pull 2).pull 2).pull 2)
        exact (kpX [(0, pt p1 0), (5, S v7)] rfl hst)
def term_SaveSnap (k : Nat) (x1 : Int) (x2 : Int) (x3 : Bool) (x4 : Int) (x5 : (List ((List UInt8) × (Option T_platter_file)))) (x6 : Int) (x7 : Int) (x8 : (List UInt8)) (x9 : (List T_term_Entry)) : Option (Int × Int × Int × (List ((List UInt8) × (Option T_platter_file)))) := (Option.bind (wire_Enc_I k (T_wire_Enc.mk ([])) ([x6, x7])) fun y7 => (Option.bind (wire_Enc_S k (T_wire_Enc.mk y7) ([x8])) fun y8 => (Option.bind (wire_Enc_Bytes k (T_wire_Enc.mk y8)) fun y9 => (Option.bind (seal_Frame k ([y9])) fun y10 => (Option.bind (term_keep k x1 x2 x3 x4 x5 ([115, 110, 97, 112]) y10) fun y11 => (if (y11.1 != 0) = true then some (y11.1, y11.2.1, y11.2.2.1, y11.2.2.2) else (Option.bind (term_Rewrite k x1 y11.2.1 x3 y11.2.2.1 y11.2.2.2 x9) fun y12 => some (y12.1, y12.2.1, y12.2.2.1, y12.2.2.2))))))))
set_option maxRecDepth 100000 in
set_option maxHeartbeats 4000000 in
theorem term_SaveSnap_ok {G w : World} {F : List HP} {R : Ending → World → Prop} (k : Nat) (x1 : Int) (x2 : Int) (x3 : Bool) (x4 : Int) (x5 : (List ((List UInt8) × (Option T_platter_file)))) (x6 : Int) (x7 : Int) (x8 : (List UInt8)) (x9 : (List T_term_Entry)) (p1 : Nat) (p2 : Nat) (a1 : Option Addr) (c1 : Nat) (r : (Int × Int × Int × (List ((List UInt8) × (Option T_platter_file))))) (hst : St G w (blk p1 (cl [I x1, I x2, .bool x3, I x4, .map (some p2)] 79) :: mpr S (rPt r_T_platter_file) p2 x5 :: dsl r_T_term_Entry a1 c1 x9 :: F)) (hr : term_SaveSnap k x1 x2 x3 x4 x5 x6 x7 x8 x9 = some r)
    (hR : ∀ w', St G w' (blk p1 (cl [I x1, I r.2.1, .bool x3, I r.2.2.1, .map (some p2)] 79) :: mpr S (rPt r_T_platter_file) p2 r.2.2.2 :: dsl r_T_term_Entry a1 c1 x9 :: F) → R (.returned (I r.1)) w') :
    Calls Tryz.prog 23 #[pt p1 0, I x6, I x7, S x8, .slice a1 x9.length c1] w R := by
  unfold term_SaveSnap at hr
  refine enter Tryz.func23 rfl [(0, pt p1 0), (1, I x6), (2, I x7), (3, S x8), (4, .slice a1 x9.length c1)] rfl rfl fun b => ?_
  refine wp_seq ?_
  refine wp_reg ?_
  refine L_pure 1 [(0, pt p1 0), (1, I x6), (2, I x7), (3, S x8), (4, .slice a1 x9.length c1)] (by kernel_rfl) fun b => ?_
  refine wpL_nil ?_
  refine th_n ?_
  refine wp_seq ?_
  refine wp_reg ?_
  refine L_op rfl (O_alloc (i := Tryz.t85) (z := .agg #[.slice none 0 0]) [.slice none 0 0] hst rfl rfl rfl rfl fun p7 w hst => ?_)
  refine wpL_nil ?_
  refine th_n ?_
  refine wp_seq ?_
  refine wp_seq ?_
  refine wp_reg ?_
  refine L_pure 3 [(0, pt p1 0), (3, S x8), (4, .slice a1 x9.length c1), (11, pt p7 0), (13, pt p1 0), (14, I x6), (15, I x7)] (by kernel_rfl) fun b => ?_
  refine L_op rfl (O_bs (T := 3) [I x6, I x7] #[(0, I x6), (1, I x7)] hst (by kernel_rfl) (by kernel_rfl) rfl fun p8 w hst => ?_)
  have hst := osl_of_blk0 (ecs := [[I x6], [I x7]]) (rI .i64) [x6, x7] rfl (fun m => ⟨⟨(), rfl, trivial⟩, ⟨(), rfl, trivial⟩, trivial⟩) rfl hst
  obtain ⟨y7, hy7, hr⟩ := bnd hr
  have hst := osl_nil (rI .u8) 5 hst
  refine L_op rfl (O_call (vs := #[pt p7 0, .slice (some ⟨p8, 0, none⟩) ([x6, x7]).length 2]) Tryz.call41 (by kernel_rfl) (wire_Enc_I_ok k (T_wire_Enc.mk ([])) ([x6, x7]) p7 none 0 (some ⟨p8, 0, none⟩) 2 y7 (((hst.pull 1).pull 1).pull 2) hy7 fun a4 c4 w hst => ?_))
  refine CK_ret rfl ?_
  refine L_pure 1 [(0, pt p1 0), (4, .slice a1 x9.length c1), (13, pt p1 0), (17, pt p7 0), (18, S x8)] (by kernel_rfl) fun b => ?_
  refine L_op rfl (O_bs (T := 9) [S x8] #[(0, S x8)] hst (by kernel_rfl) (by kernel_rfl) rfl fun p9 w hst => ?_)
  have hst := osl_of_blk0 (ecs := [[S x8]]) rS [x8] rfl (fun m => ⟨⟨(), rfl, trivial⟩, trivial⟩) rfl hst
  obtain ⟨y8, hy8, hr⟩ := bnd hr
  refine L_op rfl (O_call (vs := #[pt p7 0, .slice (some ⟨p9, 0, none⟩) ([x8]).length 1]) Tryz.call43 (by kernel_rfl) (wire_Enc_S_ok k (T_wire_Enc.mk y7) ([x8]) p7 a4 c4 (some ⟨p9, 0, none⟩) 1 y8 ((hst.pull 1).pull 2) hy8 fun a5 c5 w hst => ?_))
  refine CK_ret rfl ?_
  obtain ⟨y9, hy9, hr⟩ := bnd hr
  have hst := osl_freeze hst
  refine L_op rfl (O_call (vs := #[pt p7 0]) Tryz.call42 (by kernel_rfl) (wire_Enc_Bytes_ok k (T_wire_Enc.mk y8) p7 a5 c5 y9 (hst.pull 1) hy9 fun w hst => ?_))
  refine CK_ret rfl ?_
  refine L_op rfl (O_bs (T := 9) [S y9] #[(0, S y9)] hst (by kernel_rfl) (by kernel_rfl) rfl fun p10 w hst => ?_)
  have hst := osl_of_blk0 (ecs := [[S y9]]) rS [y9] rfl (fun m => ⟨⟨(), rfl, trivial⟩, trivial⟩) rfl hst
  obtain ⟨y10, hy10, hr⟩ := bnd hr
  have hst := osl_freeze hst
  refine L_op rfl (O_call (vs := #[.slice (some ⟨p10, 0, none⟩) ([y9]).length 1]) Tryz.call40 (by kernel_rfl) (seal_Frame_ok k ([y9]) (some ⟨p10, 0, none⟩) 1 y10 hst hy10 fun w hst => ?_))
  refine CK_ret rfl ?_
  obtain ⟨y11, hy11, hr⟩ := bnd hr
  refine L_op rfl (O_call (vs := #[pt p1 0, S ([115, 110, 97, 112]), S y10]) Tryz.call39 (by kernel_rfl) (term_keep_ok k x1 x2 x3 x4 x5 ([115, 110, 97, 112]) y10 p1 p2 y11 ((hst.pull 6).pull 6) hy11 fun w hst => ?_))
  refine CK_ret rfl ?_
  refine L_pure 1 [(0, pt p1 0), (4, .slice a1 x9.length c1), (12, I y11.1)] (by kernel_rfl) fun b => ?_
  refine wpL_nil ?_
  refine th_n ?_
  refine wp_seq ?_
  refine wp_reg ?_
  refine L_pure 2 [(0, pt p1 0), (4, .slice a1 x9.length c1), (12, I y11.1), (26, .bool (y11.1 != 0))] (by kernel_rfl) fun b => ?_
  refine wpL_nil ?_
  refine th_n ?_
  refine wp_cond_mkF (t := (y11.1 != 0)) rfl (fun h => ?_) (fun h => ?_)
  · have hr := (if_pos h).symm.trans hr
    refine wp_seq ?_
    refine wp_reg ?_
    refine L_pure 2 [(10, I y11.1)] (by kernel_rfl) fun b => ?_
    refine wpL_nil ?_
    refine th_n ?_
    refine wp_ret ?_
    refine th_r ?_
    refine ret1 rfl rfl ?_
    obtain rfl := Option.some.inj hr
    have hst := ((((hst.pull 7).pull 2).pull 2).cut 3 5)
    exact hR _ hst
  · have hr := (if_neg (by rw [h]; exact Bool.false_ne_true)).symm.trans hr
    refine wp_skip ?_
    refine th_n ?_
    refine wp_seq ?_
    refine wp_reg ?_
    refine L_pure 2 [(28, pt p1 0), (29, .slice a1 x9.length c1)] (by kernel_rfl) fun b => ?_
    obtain ⟨y12, hy12, hr⟩ := bnd hr
    refine L_op rfl (O_call (vs := #[pt p1 0, .slice a1 x9.length c1]) Tryz.call44 (by kernel_rfl) (term_Rewrite_ok k x1 y11.2.1 x3 y11.2.2.1 y11.2.2.2 x9 p1 p2 a1 c1 y12 (((hst.pull 7).pull 2).pull 2) hy12 fun w hst => ?_))
    refine CK_ret rfl ?_
    refine L_pure 1 [(10, I y12.1)] (by kernel_rfl) fun b => ?_
    refine wpL_nil ?_
    refine th_n ?_
    refine wp_ret ?_
    refine ret1 rfl rfl ?_
    obtain rfl := Option.some.inj hr
    have hst := ((((hst.pull 2).pull 2).pull 2).cut 3 5)
    exact hR _ hst
end Go.Proofs.YtpldjopnhhbjpaaGreat
