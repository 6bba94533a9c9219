/- TB, one part more. -/
import Derived.Test.YthmjdekmacoaaaaTBb
namespace Go.Proofs.Ythmjdekmacoaaaa
open Go.Hx Go.RowKit
def platter_Disk_Crash_l1 (k : Nat) (x1 : Int) (x3 : Bool) (x4 : Int) (x6 : (List Int)) (y9 : (List (List UInt8))) : Nat → Int → Int → (List ((List UInt8) × (Option T_platter_file))) → Int → Option ((List ((List UInt8) × (Option T_platter_file))) × Int)
  | 0, _, _, _, _ => none
  | j + 1, v13, v14, v15, v16 => (if decide (v14 < (y9.length : Int)) = true then (Option.bind (Option.bind (gt y9 v14) fun x10 => (Option.bind ((mget v15 x10).getD none) fun x11 => (if (!(decide (x11.now = x11.safe))) = true then (Option.bind (if decide (v13 < (x6.length : Int)) = true then (Option.bind (gt x6 v13) fun x12 => some (x12)) else some ((0 : Int))) fun y12 => (Option.bind (platter_file_left k ((mget v15 x10).getD none) y12) fun y13 => (Option.bind (platter_Disk_settle k x1 v16 x3 x4 v15 x10 y13) fun y14 => some ((IntKind.i64.wrap (v13 + 1)), y14.1, y14.2)))) else some (v13, v16, v15)))) fun y11 => (platter_Disk_Crash_l1 k x1 x3 x4 x6 y9 j y11.1 (IntKind.i64.wrap (v14 + 1)) y11.2.2 y11.2.1)) else some (v15, v16))
def platter_Disk_Crash (k : Nat) (x1 : Int) (x2 : Int) (x3 : Bool) (x4 : Int) (x5 : (List ((List UInt8) × (Option T_platter_file)))) (x6 : (List Int)) : Option (Int × (List ((List UInt8) × (Option T_platter_file)))) := (Option.bind (maps_Keys k x5) fun _ => (Option.bind (slices_Sorted k x5) fun y9 => (Option.bind (platter_Disk_Crash_l1 k x1 x3 x4 x6 y9 k (0 : Int) (0 : Int) x5 x2) fun y10 => some (y10.2, y10.1))))
set_option maxRecDepth 100000 in
set_option maxHeartbeats 4000000 in
theorem platter_Disk_Crash_ok {G w : World} {F : List HP} {R : Ending → World → Prop} (k : Nat) (x1 : Int) (x2 : Int) (x3 : Bool) (x4 : Int) (x5 : (List ((List UInt8) × (Option T_platter_file)))) (x6 : (List Int)) (p1 : Nat) (p2 : Nat) (a1 : Option Addr) (c1 : Nat) (r : (Int × (List ((List UInt8) × (Option T_platter_file))))) (hst : St G w (blk p1 (cl [I x1, I x2, .bool x3, I x4, .map (some p2)] 42) :: mpr S (rPt r_T_platter_file) p2 x5 :: dsl (rI .i64) a1 c1 x6 :: F)) (hr : platter_Disk_Crash k x1 x2 x3 x4 x5 x6 = some r)
    (hR : ∀ w', St G w' (blk p1 (cl [I x1, I r.1, .bool x3, I x4, .map (some p2)] 42) :: mpr S (rPt r_T_platter_file) p2 r.2 :: dsl (rI .i64) a1 c1 x6 :: F) → R (.returned (.tuple #[])) w') :
    Calls Try.prog 19 #[pt p1 0, .slice a1 x6.length c1] w R := by
  unfold platter_Disk_Crash at hr
  refine enter Try.func19 rfl [(0, pt p1 0), (1, .slice a1 x6.length c1)] rfl rfl fun b => ?_
  refine wp_seq ?_
  refine wp_reg ?_
  refine L_pure 1 [(0, pt p1 0), (1, .slice a1 x6.length c1), (4, I 0)] (by kernel_rfl) fun b => ?_
  refine wpL_nil ?_
  refine th_n ?_
  refine wp_seq ?_
  refine wp_reg ?_
  refine L_pure 3 [(0, pt p1 0), (1, .slice a1 x6.length c1), (4, I 0), (11, pt p1 4)] (by kernel_rfl) fun b => ?_
  refine L_op rfl (O_run (v := .map (some p2)) (w' := w) (R_load hst rfl rfl) rfl rfl ?_)
  obtain ⟨y8, hy8, hr⟩ := bnd hr
  refine L_op rfl (O_call (vs := #[.map (some p2)]) Try.call42 (by kernel_rfl) (maps_Keys_ok k x5 p2 y8 (hst.pull 1) hy8 fun p4 w hst => ?_))
  refine CK_ret rfl ?_
  obtain ⟨y9, hy9, hr⟩ := bnd hr
  refine L_op rfl (O_call (vs := #[.func (.func 63) #[] #[pt p4 0]]) Try.call41 (by kernel_rfl) (slices_Sorted_ok k x5 p4 p2 y9 ((hst.pull 1).pull 1) hy9 fun a4 c3 w hst => ?_))
  refine CK_ret rfl ?_
  refine L_pure 2 [(0, pt p1 0), (1, .slice a1 x6.length c1), (4, I 0), (14, .slice a4 y9.length c3), (15, I (y9.length : Int)), (16, I 0)] (by kernel_rfl) fun b => ?_
  refine wpL_nil ?_
  refine th_n ?_
  obtain ⟨y10, hy10, hk4⟩ := bnd hr
  clear hr
  refine Go.Hx.wp_cut (fun a w => ∃ (b : Nat → Value), a = mkF 52 b [] ∧ St G w (osl rS 9 a4 c3 y9 :: blk p4 (cl [.map (some p2)] 40) :: mpr S (rPt r_T_platter_file) p2 y10.1 :: blk p1 (cl [I x1, I y10.2, .bool x3, I x4, .map (some p2)] 42) :: dsl (rI .i64) a1 c1 x6 :: F)) ?_ ?_
  · rintro _ w ⟨b, rfl, hst⟩
    have hr := hk4
    refine bp_normal ?_
    refine ret0 rfl ?_
    obtain rfl := Option.some.inj hr
    have hst := ((((hst.pull 4).pull 3).pull 4).cut 3 2)
    exact hR _ hst
  · have hst := (((((hst.pull 4).pull 4).pull 4).pull 4).pull 4)
    refine wp_block ?_
    refine wp_loop_fuel (fun j a w => ∃ (v13 : Int) (v14 : Int) (v15 : (List ((List UInt8) × (Option T_platter_file)))) (v16 : Int) (b : Nat → Value), a = mkF 52 b [(0, pt p1 0), (1, .slice a1 x6.length c1), (4, I v13), (14, .slice a4 y9.length c3), (15, I (y9.length : Int)), (16, I v14)] ∧ St G w (osl rS 9 a4 c3 y9 :: blk p4 (cl [.map (some p2)] 40) :: mpr S (rPt r_T_platter_file) p2 v15 :: blk p1 (cl [I x1, I v16, .bool x3, I x4, .map (some p2)] 42) :: dsl (rI .i64) a1 c1 x6 :: F) ∧ platter_Disk_Crash_l1 k x1 x3 x4 x6 y9 j v13 v14 v15 v16 = some y10) (k := k) ⟨(0 : Int), (0 : Int), x5, x2, (kpX [(0, pt p1 0), (1, .slice a1 x6.length c1), (4, I 0), (14, .slice a4 y9.length c3), (15, I (y9.length : Int)), (16, I 0)] rfl ⟨hst, hy10⟩)⟩ ?_ ?_
    · rintro _ _ ⟨_, _, _, _, _, _, _, h⟩
      rw [platter_Disk_Crash_l1] at h
      cases h
    · rintro j _ w ⟨v13, v14, v15, v16, b, rfl, hst, hr⟩
      rw [platter_Disk_Crash_l1] at hr
      refine wp_seq ?_
      refine wp_reg ?_
      refine L_pure 1 [(0, pt p1 0), (1, .slice a1 x6.length c1), (4, I v13), (14, .slice a4 y9.length c3), (15, I (y9.length : Int)), (16, I v14), (17, .bool (decide (v14 < (y9.length : Int))))] (by kernel_rfl) fun b => ?_
      refine wpL_nil ?_
      refine th_n ?_
      refine wp_seq ?_
      refine wp_cond_mkF (t := decide (v14 < (y9.length : Int))) rfl (fun h => ?_) (fun h => ?_)
      · have hr := (if_pos h).symm.trans hr
        refine wp_skip ?_
        refine th_n ?_
        obtain ⟨y11, hy11, hk5⟩ := bnd hr
        clear hr
        refine wp_seq_cut (fun a w => ∃ (b : Nat → Value), a = mkF 52 b [(0, pt p1 0), (1, .slice a1 x6.length c1), (4, I y11.1), (14, .slice a4 y9.length c3), (15, I (y9.length : Int)), (16, I v14)] ∧ St G w (blk p1 (cl [I x1, I y11.2.1, .bool x3, I x4, .map (some p2)] 42) :: mpr S (rPt r_T_platter_file) p2 y11.2.2 :: dsl (rI .i64) a1 c1 x6 :: osl rS 9 a4 c3 y9 :: blk p4 (cl [.map (some p2)] 40) :: F)) ?_ ?_
        · rintro _ w ⟨b, rfl, hst⟩
          have hr := hk5
          refine wp_reg ?_
          refine L_pure 2 [(0, pt p1 0), (1, .slice a1 x6.length c1), (4, I y11.1), (14, .slice a4 y9.length c3), (15, I (y9.length : Int)), (16, I (IntKind.i64.wrap (v14 + 1)))] (by kernel_rfl) fun b => ?_
          refine wpL_nil ?_
          refine th_n ?_
          have hst := (((((hst.pull 2).pull 1).pull 2).pull 4).pull 4)
          exact ⟨y11.1, (IntKind.i64.wrap (v14 + 1)), y11.2.2, y11.2.1, (kpX [(0, pt p1 0), (1, .slice a1 x6.length c1), (4, I y11.1), (14, .slice a4 y9.length c3), (15, I (y9.length : Int)), (16, I (IntKind.i64.wrap (v14 + 1)))] rfl ⟨hst, hr⟩)⟩
        · have hr := hy11
          refine wp_block ?_
          refine wp_seq ?_
          refine wp_reg ?_
          obtain ⟨x10, hx4, hr⟩ := bnd hr
          refine L_op rfl (O_run (v := pt (ab a4) (ao a4 + v14.toNat * 1)) (w' := w) (R_ia L34 rfl rfl (osl_addr hst hx4) (gt_some hx4).1 (gt_some hx4).2.1) rfl rfl ?_)
          obtain ⟨q5, hc5, hst⟩ := osl_cells hst hx4
          have hst := hst.drop
          refine L_op rfl (O_run (v := S x10) (w' := w) (R_loadAt (off := ao a4 + v14.toNat * 1) (j := 0) hc5 rfl rfl) rfl rfl ?_)
          refine L_pure 1 [(0, pt p1 0), (1, .slice a1 x6.length c1), (4, I v13), (6, S x10), (14, .slice a4 y9.length c3), (15, I (y9.length : Int)), (16, I v14)] (by kernel_rfl) fun b => ?_
          refine wpL_nil ?_
          refine th_n ?_
          refine wp_seq ?_
          refine wp_reg ?_
          refine L_pure 3 [(0, pt p1 0), (1, .slice a1 x6.length c1), (4, I v13), (6, S x10), (14, .slice a4 y9.length c3), (15, I (y9.length : Int)), (16, I v14), (22, pt p1 4)] (by kernel_rfl) fun b => ?_
          refine L_op rfl (O_run (v := .map (some p2)) (w' := w) (R_load (hst.pull 3) rfl rfl) rfl rfl ?_)
          refine L_pure 1 [(0, pt p1 0), (1, .slice a1 x6.length c1), (4, I v13), (6, S x10), (14, .slice a4 y9.length c3), (15, I (y9.length : Int)), (16, I v14), (23, .map (some p2)), (24, S x10)] (by kernel_rfl) fun b => ?_
          refine L_op rfl (O_lookP M40 x10 (hst.pull 2) rfl rfl rfl fun a5 hst => ?_)
          refine L_pure 1 [(0, pt p1 0), (1, .slice a1 x6.length c1), (4, I v13), (6, S x10), (7, .pointer a5), (14, .slice a4 y9.length c3), (15, I (y9.length : Int)), (16, I v14)] (by kernel_rfl) fun b => ?_
          refine wpL_nil ?_
          refine th_n ?_
          refine wp_seq ?_
          refine wp_regG (SN { w with drawn := w.drawn + 1 }) rfl ?_
          have hst := hst.draw (n := w.drawn + 1)
          generalize { w with drawn := w.drawn + 1 } = w at hst ⊢
          refine C_take (i := 0) (v := .pointer a5) rfl (by kernel_rfl) (fun _ _ _ h => h) rfl rfl rfl (R_pure (by kernel_rfl)) ?_
          obtain ⟨x11, hx5, hr⟩ := bnd hr
          have hst := dpt_pick hx5 hst
          refine C_take (i := 1) (v := pt (ab a5) (ao a5 + (0 : Int).toNat * 4)) rfl (by kernel_rfl) (fun _ _ _ h => h) rfl rfl rfl (R_nilc hst rfl) ?_
          refine C_take (i := 2) (v := pt (ab a5) (ao a5 + (0 : Int).toNat * 4)) rfl (by kernel_rfl) (fun _ _ _ h => h) rfl rfl rfl (R_pure (by kernel_rfl)) ?_
          obtain ⟨q6, hc6, hst⟩ := dsl_cells hst (show gt [x11] 0 = some x11 from rfl)
          have hst := hst.drop
          refine C_take (i := 3) (v := .agg #[.bool x11.now.there, S x11.now.s]) rfl (by kernel_rfl) (fun _ _ _ h => h) rfl rfl rfl (R_loadAt (off := ao a5 + (0 : Int).toNat * 4) (j := 0) hc6 rfl rfl) ?_
          refine C_take (i := 4) (v := .pointer a5) rfl (by kernel_rfl) (fun _ _ _ h => h) rfl rfl rfl (R_pure (by kernel_rfl)) ?_
          refine C_take (i := 5) (v := pt (ab a5) (ao a5 + (0 : Int).toNat * 4)) rfl (by kernel_rfl) (fun _ _ _ h => h) rfl rfl rfl (R_nilc hst rfl) ?_
          refine C_take (i := 6) (v := pt (ab a5) (ao a5 + (0 : Int).toNat * 4 + 2)) rfl (by kernel_rfl) (fun _ _ _ h => h) rfl rfl rfl (R_pure (by kernel_rfl)) ?_
          obtain ⟨q7, hc7, hst⟩ := dsl_cells hst (show gt [x11] 0 = some x11 from rfl)
          have hst := hst.drop
          refine C_take (i := 7) (v := .agg #[.bool x11.safe.there, S x11.safe.s]) rfl (by kernel_rfl) (fun _ _ _ h => h) rfl rfl rfl (R_loadAt (off := ao a5 + (0 : Int).toNat * 4) (j := 2) hc7 rfl rfl) ?_
          refine C_take (i := 8) (v := .bool (!(decide (x11.now = x11.safe)))) rfl (by kernel_rfl) (fun _ _ _ h => h) rfl rfl rfl (R_sne rfl rfl G86 (EQ86 x11.now x11.safe _)) ?_
          refine wpG_done (by kernel_rfl) ?_ _
          refine C_keepQ [(0, pt p1 0), (1, .slice a1 x6.length c1), (4, I v13), (6, S x10), (7, .pointer a5), (14, .slice a4 y9.length c3), (15, I (y9.length : Int)), (16, I v14), (34, .bool (!(decide (x11.now = x11.safe))))] rfl fun b => ?_
          refine th_n ?_
          refine wp_cond_mkF (t := (!(decide (x11.now = x11.safe)))) rfl (fun h => ?_) (fun h => ?_)
          · have hr := (if_pos h).symm.trans hr
            refine wp_seq ?_
            refine wp_reg ?_
            refine L_pure 1 [(0, pt p1 0), (1, .slice a1 x6.length c1), (4, I v13), (6, S x10), (7, .pointer a5), (8, I 0), (14, .slice a4 y9.length c3), (15, I (y9.length : Int)), (16, I v14)] (by kernel_rfl) fun b => ?_
            refine wpL_nil ?_
            refine th_n ?_
            obtain ⟨y12, hy12, hk6⟩ := bnd hr
            clear hr
            refine wp_seq_cut (fun a w => ∃ (b : Nat → Value), a = mkF 52 b [(0, pt p1 0), (1, .slice a1 x6.length c1), (4, I v13), (6, S x10), (7, .pointer a5), (8, I y12), (14, .slice a4 y9.length c3), (15, I (y9.length : Int)), (16, I v14)] ∧ St G w (dsl (rI .i64) a1 c1 x6 :: dsl r_T_platter_file a5 1 ([x11]) :: dpt r_T_platter_file a5 ((mget v15 x10).getD none) :: mpr S (rPt r_T_platter_file) p2 v15 :: osl rS 9 a4 c3 y9 :: blk p4 (cl [.map (some p2)] 40) :: blk p1 (cl [I x1, I v16, .bool x3, I x4, .map (some p2)] 42) :: F)) ?_ ?_
            · rintro _ w ⟨b, rfl, hst⟩
              have hr := hk6
              refine wp_seq ?_
              refine wp_reg ?_
              refine L_pure 3 [(0, pt p1 0), (1, .slice a1 x6.length c1), (4, I (IntKind.i64.wrap (v13 + 1))), (6, S x10), (7, .pointer a5), (8, I y12), (14, .slice a4 y9.length c3), (15, I (y9.length : Int)), (16, I v14)] (by kernel_rfl) fun b => ?_
              refine wpL_nil ?_
              refine th_n ?_
              refine wp_reg ?_
              refine L_pure 4 [(0, pt p1 0), (1, .slice a1 x6.length c1), (4, I (IntKind.i64.wrap (v13 + 1))), (14, .slice a4 y9.length c3), (15, I (y9.length : Int)), (16, I v14), (45, pt p1 0), (46, S x10), (47, .pointer a5), (48, I y12)] (by kernel_rfl) fun b => ?_
              obtain ⟨y13, hy13, hr⟩ := bnd hr
              have hst := (hst.pull 2).dup
              refine L_op rfl (O_call (vs := #[.pointer a5, I y12]) Try.call45 (by kernel_rfl) (platter_file_left_ok k ((mget v15 x10).getD none) y12 a5 y13 hst hy13 fun w hst => ?_))
              refine CK_ret rfl ?_
              obtain ⟨y14, hy14, hr⟩ := bnd hr
              refine L_op rfl (O_call (vs := #[pt p1 0, S x10, .agg #[.bool y13.there, S y13.s]]) Try.call44 (by kernel_rfl) (platter_Disk_settle_ok k x1 v16 x3 x4 v15 x10 y13 p1 p2 y14 ((hst.pull 4).pull 7) hy14 fun w hst => ?_))
              refine CK_ret rfl ?_
              refine wpL_nil ?_
              refine ib_n (th_n ?_)
              obtain rfl := Option.some.inj hr
              have hst := ((((((hst.pull 7).pull 7).pull 6).pull 4).pull 4).cut 5 3)
              exact (kpX [(0, pt p1 0), (1, .slice a1 x6.length c1), (4, I (IntKind.i64.wrap (v13 + 1))), (14, .slice a4 y9.length c3), (15, I (y9.length : Int)), (16, I v14)] rfl hst)
            · have hr := hy12
              refine wp_seq ?_
              refine wp_reg ?_
              refine L_pure 4 [(0, pt p1 0), (1, .slice a1 x6.length c1), (4, I v13), (6, S x10), (7, .pointer a5), (8, I 0), (14, .slice a4 y9.length c3), (15, I (y9.length : Int)), (16, I v14), (38, .bool (decide (v13 < (x6.length : Int))))] (by kernel_rfl) fun b => ?_
              refine wpL_nil ?_
              refine th_n ?_
              refine wp_cond_mkF (t := decide (v13 < (x6.length : Int))) rfl (fun h => ?_) (fun h => ?_)
              · have hr := (if_pos h).symm.trans hr
                refine wp_reg ?_
                refine L_pure 2 [(0, pt p1 0), (1, .slice a1 x6.length c1), (4, I v13), (6, S x10), (7, .pointer a5), (14, .slice a4 y9.length c3), (15, I (y9.length : Int)), (16, I v14), (39, .slice a1 x6.length c1), (40, I v13)] (by kernel_rfl) fun b => ?_
                obtain ⟨x12, hx6, hr⟩ := bnd hr
                refine L_op rfl (O_run (v := pt (ab a1) (ao a1 + v13.toNat * 1)) (w' := w) (R_ia L30 rfl rfl (dsl_addr (hst.pull 6) hx6) (gt_some hx6).1 (gt_some hx6).2.1) rfl rfl ?_)
                obtain ⟨q8, hc8, hst⟩ := dsl_cells (hst.pull 6) hx6
                have hst := hst.drop
                refine L_op rfl (O_run (v := I x12) (w' := w) (R_loadAt (off := ao a1 + v13.toNat * 1) (j := 0) hc8 rfl rfl) rfl rfl ?_)
                refine L_pure 1 [(0, pt p1 0), (1, .slice a1 x6.length c1), (4, I v13), (6, S x10), (7, .pointer a5), (8, I x12), (14, .slice a4 y9.length c3), (15, I (y9.length : Int)), (16, I v14)] (by kernel_rfl) fun b => ?_
                refine wpL_nil ?_
                refine th_n ?_
                obtain rfl := Option.some.inj hr
                have hst := (((((((hst.pull 6).pull 6).pull 6).pull 6).pull 6).pull 6).pull 6)
                exact (kpX [(0, pt p1 0), (1, .slice a1 x6.length c1), (4, I v13), (6, S x10), (7, .pointer a5), (8, I x12), (14, .slice a4 y9.length c3), (15, I (y9.length : Int)), (16, I v14)] rfl hst)
              · have hr := (if_neg (by rw [h]; exact Bool.false_ne_true)).symm.trans hr
                refine wp_skip ?_
                refine th_n ?_
                obtain rfl := Option.some.inj hr
                have hst := (((((((hst.pull 5).pull 5).pull 5).pull 5).pull 5).pull 5).pull 6)
                exact (kpX [(0, pt p1 0), (1, .slice a1 x6.length c1), (4, I v13), (6, S x10), (7, .pointer a5), (8, I 0), (14, .slice a4 y9.length c3), (15, I (y9.length : Int)), (16, I v14)] rfl hst)
          · have hr := (if_neg (by rw [h]; exact Bool.false_ne_true)).symm.trans hr
            refine wp_skip ?_
            refine ib_n (th_n ?_)
            obtain rfl := Option.some.inj hr
            have hst := ((((((hst.pull 4).pull 4).pull 6).pull 5).pull 6).cut 5 2)
            exact (kpX [(0, pt p1 0), (1, .slice a1 x6.length c1), (4, I v13), (14, .slice a4 y9.length c3), (15, I (y9.length : Int)), (16, I v14)] rfl hst)
      · have hr := (if_neg (by rw [h]; exact Bool.false_ne_true)).symm.trans hr
        refine wp_exit ?_
        refine th_x (th_x (ib_x (th_n ?_)))
        obtain rfl := Option.some.inj hr
        have hst := (((((hst.pull 4).pull 4).pull 4).pull 4).pull 4)
        exact (kpX [] rfl hst)
def glacierlaw09_Told_l1 (k : Nat) (x1 : T_term_State) : Nat → Int → (List T_glacierref09_Entry) → Option ((List T_glacierref09_Entry))
  | 0, _, _ => none
  | j + 1, v7, v8 => (if decide (v7 < (x1.Log.length : Int)) = true then (Option.bind (gt x1.Log v7) fun x3 => (if room (v8.length + ([(T_glacierref09_Entry.mk x3.Index x3.Term x3.Cmd)]).length) 32 = true then (glacierlaw09_Told_l1 k x1 j (IntKind.i64.wrap (v7 + 1)) (v8 ++ ([(T_glacierref09_Entry.mk x3.Index x3.Term x3.Cmd)]))) else none)) else some (v8))
def glacierlaw09_Told (k : Nat) (x1 : T_term_State) : Option ((List T_glacierref09_Entry) × T_glacierref09_State) := (Option.bind (glacierlaw09_Told_l1 k x1 k (0 : Int) ([])) fun y2 => some (y2, (T_glacierref09_State.mk x1.Term x1.Vote x1.Base x1.BaseTerm x1.Snap y2)))
set_option maxRecDepth 100000 in
set_option maxHeartbeats 4000000 in
theorem glacierlaw09_Told_ok {G w : World} {F : List HP} {R : Ending → World → Prop} (k : Nat) (x1 : T_term_State) (a1 : Option Addr) (c1 : Nat) (r : ((List T_glacierref09_Entry) × T_glacierref09_State)) (hst : St G w (dsl r_T_term_Entry a1 c1 x1.Log :: F)) (hr : glacierlaw09_Told k x1 = some r)
    (hR : ∀ (a5 : Option Addr) (c5 : Nat) w', St G w' (osl r_T_glacierref09_Entry 119 a5 c5 r.1 :: dsl r_T_term_Entry a1 c1 x1.Log :: F) → R (.returned (.agg #[I r.2.Term, I r.2.Vote, I r.2.Base, I r.2.BaseTerm, S r.2.Snap, .slice a5 r.1.length c5])) w') :
    Calls Try.prog 34 #[.agg #[I x1.Term, I x1.Vote, I x1.Base, I x1.BaseTerm, S x1.Snap, .slice a1 x1.Log.length c1]] w R := by
  unfold glacierlaw09_Told at hr
  refine enter Try.func34 rfl [(0, .agg #[I x1.Term, I x1.Vote, I x1.Base, I x1.BaseTerm, S x1.Snap, .slice a1 x1.Log.length c1])] rfl rfl fun b => ?_
  refine wp_seq ?_
  refine wp_reg ?_
  refine L_op rfl (O_box [I x1.Term, I x1.Vote, I x1.Base, I x1.BaseTerm, S x1.Snap, .slice a1 x1.Log.length c1] hst rfl rfl fun p6 w hst => ?_)
  refine L_op rfl (O_alloc (i := Try.t71) (z := .agg #[I 0, I 0, I 0, I 0, S ([]), .slice none 0 0]) [I 0, I 0, I 0, I 0, S ([]), .slice none 0 0] hst rfl rfl rfl rfl fun p7 w hst => ?_)
  refine wpL_nil ?_
  refine th_n ?_
  refine wp_seq ?_
  refine wp_reg ?_
  refine L_pure 1 [(1, pt p6 0), (2, pt p7 0), (6, pt p6 0)] (by kernel_rfl) fun b => ?_
  refine L_op rfl (O_run (v := I x1.Term) (w' := w) (R_load (hst.pull 1) rfl rfl) rfl rfl ?_)
  refine L_pure 1 [(1, pt p6 0), (2, pt p7 0), (7, I x1.Term), (8, pt p6 1)] (by kernel_rfl) fun b => ?_
  refine L_op rfl (O_run (v := I x1.Vote) (w' := w) (R_load (hst.pull 1) rfl rfl) rfl rfl ?_)
  refine L_pure 1 [(1, pt p6 0), (2, pt p7 0), (7, I x1.Term), (9, I x1.Vote), (10, pt p6 2)] (by kernel_rfl) fun b => ?_
  refine L_op rfl (O_run (v := I x1.Base) (w' := w) (R_load (hst.pull 1) rfl rfl) rfl rfl ?_)
  refine L_pure 1 [(1, pt p6 0), (2, pt p7 0), (7, I x1.Term), (9, I x1.Vote), (11, I x1.Base), (12, pt p6 3)] (by kernel_rfl) fun b => ?_
  refine L_op rfl (O_run (v := I x1.BaseTerm) (w' := w) (R_load (hst.pull 1) rfl rfl) rfl rfl ?_)
  refine L_pure 1 [(1, pt p6 0), (2, pt p7 0), (7, I x1.Term), (9, I x1.Vote), (11, I x1.Base), (13, I x1.BaseTerm), (14, pt p6 4)] (by kernel_rfl) fun b => ?_
  refine L_op rfl (O_run (v := S x1.Snap) (w' := w) (R_load (hst.pull 1) rfl rfl) rfl rfl ?_)
  refine L_pure 1 [(1, pt p6 0), (2, pt p7 0), (16, .agg #[I x1.Term, I x1.Vote, I x1.Base, I x1.BaseTerm, S x1.Snap, .slice none 0 0])] (by kernel_rfl) fun b => ?_
  refine L_op rfl (O_alloc (i := Try.t71) (z := .agg #[I 0, I 0, I 0, I 0, S ([]), .slice none 0 0]) [I 0, I 0, I 0, I 0, S ([]), .slice none 0 0] hst rfl rfl rfl rfl fun p8 w hst => ?_)
  refine L_op rfl (O_store [I x1.Term, I x1.Vote, I x1.Base, I x1.BaseTerm, S x1.Snap, .slice none 0 0] hst rfl rfl (by kernel_rfl) fun w hst => ?_)
  refine wpL_nil ?_
  refine th_n ?_
  refine wp_seq ?_
  refine wp_seq ?_
  refine wp_reg ?_
  refine L_pure 1 [(2, pt p7 0), (3, pt p8 0), (17, pt p6 5)] (by kernel_rfl) fun b => ?_
  refine L_op rfl (O_run (v := .slice a1 x1.Log.length c1) (w' := w) (R_load (hst.pull 2) rfl rfl) rfl rfl ?_)
  refine L_pure 2 [(2, pt p7 0), (3, pt p8 0), (18, .slice a1 x1.Log.length c1), (19, I (x1.Log.length : Int)), (20, I 0)] (by kernel_rfl) fun b => ?_
  refine wpL_nil ?_
  refine th_n ?_
  obtain ⟨y2, hy2, hk2⟩ := bnd hr
  clear hr
  refine Go.Hx.wp_cut (fun a w => ∃ (a7 : Option Addr) (c7 : Nat)(b : Nat → Value), a = mkF 32 b [(2, pt p7 0), (3, pt p8 0)] ∧ St G w (osl r_T_glacierref09_Entry 119 a7 c7 y2 :: blk p8 (cl [I x1.Term, I x1.Vote, I x1.Base, I x1.BaseTerm, S x1.Snap, .slice a7 y2.length c7] 71) :: blk p7 (cl [I 0, I 0, I 0, I 0, S ([]), .slice none 0 0] 71) :: blk p6 (cl [I x1.Term, I x1.Vote, I x1.Base, I x1.BaseTerm, S x1.Snap, .slice a1 x1.Log.length c1] 55) :: dsl r_T_term_Entry a1 c1 x1.Log :: F)) ?_ ?_
  · rintro _ w ⟨a7, c7, b, rfl, hst⟩
    have hr := hk2
    refine th_n ?_
    refine wp_seq ?_
    refine wp_reg ?_
    refine L_op rfl (O_run (v := .agg #[I x1.Term, I x1.Vote, I x1.Base, I x1.BaseTerm, S x1.Snap, .slice a7 y2.length c7]) (w' := w) (R_load (hst.pull 1) rfl rfl) rfl rfl ?_)
    refine L_op rfl (O_store [I x1.Term, I x1.Vote, I x1.Base, I x1.BaseTerm, S x1.Snap, .slice a7 y2.length c7] (hst.pull 2) rfl rfl (by kernel_rfl) fun w hst => ?_)
    refine wpL_nil ?_
    refine th_n ?_
    refine wp_ret ?_
    refine retC (v := .agg #[I x1.Term, I x1.Vote, I x1.Base, I x1.BaseTerm, S x1.Snap, .slice a7 y2.length c7]) (p := p7) (off := 0) (cs := [I x1.Term, I x1.Vote, I x1.Base, I x1.BaseTerm, S x1.Snap, .slice a7 y2.length c7]) (T' := 71) rfl rfl hst (by kernel_rfl) ?_
    obtain rfl := Option.some.inj hr
    have hst := (((hst.pull 4).pull 2).cut 2 3)
    exact hR a7 c7 _ hst
  · have hst := osl_nil r_T_glacierref09_Entry 119 hst
    have hst := (((((hst.pull 4).pull 4).pull 4).pull 4).pull 4)
    refine wp_block ?_
    refine wp_loop_fuel (fun j a w => ∃ (v7 : Int) (v8 : (List T_glacierref09_Entry)) (a6 : Option Addr) (c6 : Nat) (b : Nat → Value), a = mkF 32 b [(2, pt p7 0), (3, pt p8 0), (18, .slice a1 x1.Log.length c1), (19, I (x1.Log.length : Int)), (20, I v7)] ∧ St G w (osl r_T_glacierref09_Entry 119 a6 c6 v8 :: blk p8 (cl [I x1.Term, I x1.Vote, I x1.Base, I x1.BaseTerm, S x1.Snap, .slice a6 v8.length c6] 71) :: blk p7 (cl [I 0, I 0, I 0, I 0, S ([]), .slice none 0 0] 71) :: blk p6 (cl [I x1.Term, I x1.Vote, I x1.Base, I x1.BaseTerm, S x1.Snap, .slice a1 x1.Log.length c1] 55) :: dsl r_T_term_Entry a1 c1 x1.Log :: F) ∧ glacierlaw09_Told_l1 k x1 j v7 v8 = some y2) (k := k) ⟨(0 : Int), [], none, 0, (kpX [(2, pt p7 0), (3, pt p8 0), (18, .slice a1 x1.Log.length c1), (19, I (x1.Log.length : Int)), (20, I 0)] rfl ⟨hst, hy2⟩)⟩ ?_ ?_
    · rintro _ _ ⟨_, _, _, _, _, _, _, h⟩
      rw [glacierlaw09_Told_l1] at h
      cases h
    · rintro j _ w ⟨v7, v8, a6, c6, b, rfl, hst, hr⟩
      rw [glacierlaw09_Told_l1] at hr
      refine wp_seq ?_
      refine wp_reg ?_
      refine L_pure 1 [(2, pt p7 0), (3, pt p8 0), (18, .slice a1 x1.Log.length c1), (19, I (x1.Log.length : Int)), (20, I v7), (21, .bool (decide (v7 < (x1.Log.length : Int))))] (by kernel_rfl) fun b => ?_
      refine wpL_nil ?_
      refine th_n ?_
      refine wp_seq ?_
      refine wp_cond_mkF (t := decide (v7 < (x1.Log.length : Int))) rfl (fun h => ?_) (fun h => ?_)
      · have hr := (if_pos h).symm.trans hr
        refine wp_skip ?_
        refine th_n ?_
        refine wp_seq ?_
        refine wp_block ?_
        refine wp_seq ?_
        refine wp_reg ?_
        obtain ⟨x3, hx2, hr⟩ := bnd hr
        refine L_op rfl (O_run (v := pt (ab a1) (ao a1 + v7.toNat * 3)) (w' := w) (R_ia L50 rfl rfl (dsl_addr (hst.pull 4) hx2) (gt_some hx2).1 (gt_some hx2).2.1) rfl rfl ?_)
        obtain ⟨q2, hc2, hst⟩ := dsl_cells (hst.pull 4) hx2
        have hst := hst.drop
        refine L_op rfl (O_run (v := .agg #[I x3.Index, I x3.Term, S x3.Cmd]) (w' := w) (R_loadAt (off := ao a1 + v7.toNat * 3) (j := 0) hc2 rfl rfl) rfl rfl ?_)
        refine L_op rfl (O_alloc (i := Try.t52) (z := .agg #[I 0, I 0, S ([])]) [I 0, I 0, S ([])] hst rfl rfl rfl rfl fun p9 w hst => ?_)
        refine L_op rfl (O_store [I x3.Index, I x3.Term, S x3.Cmd] hst rfl rfl (by kernel_rfl) fun w hst => ?_)
        refine wpL_nil ?_
        refine th_n ?_
        refine wp_reg ?_
        refine L_pure 1 [(2, pt p7 0), (3, pt p8 0), (5, pt p9 0), (18, .slice a1 x1.Log.length c1), (19, I (x1.Log.length : Int)), (20, I v7), (24, pt p8 5)] (by kernel_rfl) fun b => ?_
        refine L_op rfl (O_run (v := .slice a6 v8.length c6) (w' := w) (R_load (hst.pull 3) rfl rfl) rfl rfl ?_)
        refine L_op rfl (O_run (v := .agg #[I x3.Index, I x3.Term, S x3.Cmd]) (w' := w) (R_load hst rfl rfl) rfl rfl ?_)
        refine L_op rfl (O_bs (T := 119) [I x3.Index, I x3.Term, S x3.Cmd] #[(0, .agg #[I x3.Index, I x3.Term, S x3.Cmd])] hst (by kernel_rfl) (by kernel_rfl) rfl fun p10 w hst => ?_)
        have hst := osl_of_blk0 (ecs := [[I x3.Index, I x3.Term, S x3.Cmd]]) r_T_glacierref09_Entry [(T_glacierref09_Entry.mk x3.Index x3.Term x3.Cmd)] rfl (fun m => ⟨⟨(), rfl, trivial⟩, trivial⟩) rfl hst
        obtain ⟨hb2, hr⟩ := chk hr
        refine L_op rfl (O_app_o L69 (hst.pull 3) rfl rfl hb2 rfl fun a8 c8 w hst => ?_)
        refine L_pure 1 [(2, pt p7 0), (3, pt p8 0), (18, .slice a1 x1.Log.length c1), (19, I (x1.Log.length : Int)), (20, I v7), (28, .slice a8 (v8 ++ ([(T_glacierref09_Entry.mk x3.Index x3.Term x3.Cmd)])).length c8), (29, pt p8 5)] (by kernel_rfl) fun b => ?_
        refine L_op rfl (O_store [I x1.Term, I x1.Vote, I x1.Base, I x1.BaseTerm, S x1.Snap, .slice a8 (v8 ++ ([(T_glacierref09_Entry.mk x3.Index x3.Term x3.Cmd)])).length c8] (hst.pull 4) rfl rfl (by kernel_rfl) fun w hst => ?_)
        refine wpL_nil ?_
        refine ib_n (th_n ?_)
        refine wp_reg ?_
        refine L_pure 2 [(2, pt p7 0), (3, pt p8 0), (18, .slice a1 x1.Log.length c1), (19, I (x1.Log.length : Int)), (20, I (IntKind.i64.wrap (v7 + 1)))] (by kernel_rfl) fun b => ?_
        refine wpL_nil ?_
        refine th_n ?_
        have hst := ((((((hst.pull 4).pull 6).pull 6).pull 3).pull 4).cut 5 2)
        exact ⟨(IntKind.i64.wrap (v7 + 1)), (v8 ++ ([(T_glacierref09_Entry.mk x3.Index x3.Term x3.Cmd)])), a8, c8, (kpX [(2, pt p7 0), (3, pt p8 0), (18, .slice a1 x1.Log.length c1), (19, I (x1.Log.length : Int)), (20, I (IntKind.i64.wrap (v7 + 1)))] rfl ⟨hst, hr⟩)⟩
      · have hr := (if_neg (by rw [h]; exact Bool.false_ne_true)).symm.trans hr
        refine wp_exit ?_
        refine th_x (th_x (ib_x (th_n ?_)))
        obtain rfl := Option.some.inj hr
        have hst := (((((hst.pull 4).pull 4).pull 4).pull 4).pull 4)
        exact ⟨a6, c6, (kpX [(2, pt p7 0), (3, pt p8 0)] rfl hst)⟩
def glacierref09_Same_l1 (k : Nat) (x1 : T_glacierref09_State) (x2 : T_glacierref09_State) : Nat → Int → Option (Flow (Bool) (Unit))
  | 0, _ => none
  | j + 1, v4 => (if decide (v4 < (x1.Log.length : Int)) = true then (Option.bind (gt x1.Log v4) fun x5 => (Option.bind (gt x2.Log v4) fun x6 => (if (!(decide (x5 = x6))) = true then some (Flow.ret (false)) else (glacierref09_Same_l1 k x1 x2 j (IntKind.i64.wrap (v4 + 1)))))) else some (Flow.go ()))
def glacierref09_Same (k : Nat) (x1 : T_glacierref09_State) (x2 : T_glacierref09_State) : Option (Bool) := (Option.bind (if (x1.Term != x2.Term) = true then some (true) else (if (x1.Vote != x2.Vote) = true then some (true) else (if (x1.Base != x2.Base) = true then some (true) else (if (x1.BaseTerm != x2.BaseTerm) = true then some (true) else (if (!sEq x1.Snap x2.Snap) = true then some (true) else some (((x1.Log.length : Int) != (x2.Log.length : Int)))))))) fun y3 => (if y3 = true then some (false) else (Option.bind (glacierref09_Same_l1 k x1 x2 k (0 : Int)) fun y4 => (match y4 with | Flow.ret r => some r | Flow.go _ => some (true)))))
set_option maxRecDepth 100000 in
set_option maxHeartbeats 4000000 in
theorem glacierref09_Same_ok {G w : World} {F : List HP} {R : Ending → World → Prop} (k : Nat) (x1 : T_glacierref09_State) (x2 : T_glacierref09_State) (a1 : Option Addr) (c1 : Nat) (a2 : Option Addr) (c2 : Nat) (r : (Bool)) (hst : St G w (dsl r_T_glacierref09_Entry a1 c1 x1.Log :: dsl r_T_glacierref09_Entry a2 c2 x2.Log :: F)) (hr : glacierref09_Same k x1 x2 = some r)
    (hR : ∀ w', St G w' (dsl r_T_glacierref09_Entry a1 c1 x1.Log :: dsl r_T_glacierref09_Entry a2 c2 x2.Log :: F) → R (.returned (.bool r)) w') :
    Calls Try.prog 33 #[.agg #[I x1.Term, I x1.Vote, I x1.Base, I x1.BaseTerm, S x1.Snap, .slice a1 x1.Log.length c1], .agg #[I x2.Term, I x2.Vote, I x2.Base, I x2.BaseTerm, S x2.Snap, .slice a2 x2.Log.length c2]] w R := by
  unfold glacierref09_Same at hr
  refine enter Try.func33 rfl [(0, .agg #[I x1.Term, I x1.Vote, I x1.Base, I x1.BaseTerm, S x1.Snap, .slice a1 x1.Log.length c1]), (1, .agg #[I x2.Term, I x2.Vote, I x2.Base, I x2.BaseTerm, S x2.Snap, .slice a2 x2.Log.length c2])] rfl rfl fun b => ?_
  refine wp_seq ?_
  refine wp_reg ?_
  refine L_op rfl (O_box [I x1.Term, I x1.Vote, I x1.Base, I x1.BaseTerm, S x1.Snap, .slice a1 x1.Log.length c1] hst rfl rfl fun p3 w hst => ?_)
  refine L_op rfl (O_box [I x2.Term, I x2.Vote, I x2.Base, I x2.BaseTerm, S x2.Snap, .slice a2 x2.Log.length c2] hst rfl rfl fun p4 w hst => ?_)
  refine L_pure 1 [(2, pt p3 0), (3, pt p4 0)] (by kernel_rfl) fun b => ?_
  refine wpL_nil ?_
  refine th_n ?_
  refine wp_seq ?_
  obtain ⟨y3, hy3, hk3⟩ := bnd hr
  clear hr
  refine wp_seq_cut (fun a w => ∃ (b : Nat → Value), a = mkF 66 b [(2, pt p3 0), (3, pt p4 0), (47, .bool y3)] ∧ St G w (blk p4 (cl [I x2.Term, I x2.Vote, I x2.Base, I x2.BaseTerm, S x2.Snap, .slice a2 x2.Log.length c2] 71) :: blk p3 (cl [I x1.Term, I x1.Vote, I x1.Base, I x1.BaseTerm, S x1.Snap, .slice a1 x1.Log.length c1] 71) :: dsl r_T_glacierref09_Entry a1 c1 x1.Log :: dsl r_T_glacierref09_Entry a2 c2 x2.Log :: F)) ?_ ?_
  · rintro _ w ⟨b, rfl, hst⟩
    have hr := hk3
    refine wp_cond_mkF (t := y3) rfl (fun h => ?_) (fun h => ?_)
    · have hr := (if_pos h).symm.trans hr
      refine wp_seq ?_
      refine wp_reg ?_
      refine L_pure 1 [(4, .bool false)] (by kernel_rfl) fun b => ?_
      refine wpL_nil ?_
      refine th_n ?_
      refine wp_ret ?_
      refine th_r ?_
      refine ret1 rfl rfl ?_
      obtain rfl := Option.some.inj hr
      have hst := (((hst.pull 3).pull 3).cut 2 2)
      exact hR _ hst
    · have hr := (if_neg (by rw [h]; exact Bool.false_ne_true)).symm.trans hr
      refine wp_skip ?_
      refine th_n ?_
      refine wp_seq ?_
      refine wp_seq ?_
      refine wp_reg ?_
      refine L_pure 1 [(2, pt p3 0), (3, pt p4 0), (48, pt p3 5)] (by kernel_rfl) fun b => ?_
      refine L_op rfl (O_run (v := .slice a1 x1.Log.length c1) (w' := w) (R_load (hst.pull 1) rfl rfl) rfl rfl ?_)
      refine L_pure 2 [(2, pt p3 0), (3, pt p4 0), (50, I (x1.Log.length : Int)), (51, I 0)] (by kernel_rfl) fun b => ?_
      refine wpL_nil ?_
      refine th_n ?_
      obtain ⟨y4, hy4, hk4⟩ := bnd hr
      clear hr
      refine Go.Hx.wp_cut (fun a w => ∃ (z2 : Unit) (b : Nat → Value), y4 = .go z2 ∧ a = mkF 66 b [] ∧ St G w (blk p4 (cl [I x2.Term, I x2.Vote, I x2.Base, I x2.BaseTerm, S x2.Snap, .slice a2 x2.Log.length c2] 71) :: blk p3 (cl [I x1.Term, I x1.Vote, I x1.Base, I x1.BaseTerm, S x1.Snap, .slice a1 x1.Log.length c1] 71) :: dsl r_T_glacierref09_Entry a1 c1 x1.Log :: dsl r_T_glacierref09_Entry a2 c2 x2.Log :: F)) ?_ ?_
      · rintro _ w ⟨z2, b, rfl, rfl, hst⟩
        have hr := hk4
        refine th_n ?_
        refine wp_seq ?_
        refine wp_reg ?_
        refine L_pure 1 [(4, .bool true)] (by kernel_rfl) fun b => ?_
        refine wpL_nil ?_
        refine th_n ?_
        refine wp_ret ?_
        refine ret1 rfl rfl ?_
        obtain rfl := Option.some.inj hr
        have hst := (((hst.pull 3).pull 3).cut 2 2)
        exact hR _ hst
      · have hst := ((((hst.pull 3).pull 3).pull 3).pull 3)
        refine wp_block ?_
        refine wp_loop_fuel (fun j a w => ∃ (v4 : Int) (b : Nat → Value), a = mkF 66 b [(2, pt p3 0), (3, pt p4 0), (50, I (x1.Log.length : Int)), (51, I v4)] ∧ St G w (blk p4 (cl [I x2.Term, I x2.Vote, I x2.Base, I x2.BaseTerm, S x2.Snap, .slice a2 x2.Log.length c2] 71) :: blk p3 (cl [I x1.Term, I x1.Vote, I x1.Base, I x1.BaseTerm, S x1.Snap, .slice a1 x1.Log.length c1] 71) :: dsl r_T_glacierref09_Entry a1 c1 x1.Log :: dsl r_T_glacierref09_Entry a2 c2 x2.Log :: F) ∧ glacierref09_Same_l1 k x1 x2 j v4 = some y4) (k := k) ⟨(0 : Int), (kpX [(2, pt p3 0), (3, pt p4 0), (50, I (x1.Log.length : Int)), (51, I 0)] rfl ⟨hst, hy4⟩)⟩ ?_ ?_
        · rintro _ _ ⟨_, _, _, _, h⟩
          rw [glacierref09_Same_l1] at h
          cases h
        · rintro j _ w ⟨v4, b, rfl, hst, hr⟩
          rw [glacierref09_Same_l1] at hr
          refine wp_seq ?_
          refine wp_reg ?_
          refine L_pure 1 [(2, pt p3 0), (3, pt p4 0), (50, I (x1.Log.length : Int)), (51, I v4), (52, .bool (decide (v4 < (x1.Log.length : Int))))] (by kernel_rfl) fun b => ?_
          refine wpL_nil ?_
          refine th_n ?_
          refine wp_seq ?_
          refine wp_cond_mkF (t := decide (v4 < (x1.Log.length : Int))) rfl (fun h => ?_) (fun h => ?_)
          · have hr := (if_pos h).symm.trans hr
            refine wp_skip ?_
            refine th_n ?_
            refine wp_seq ?_
            refine wp_block ?_
            refine wp_seq ?_
            refine wp_reg ?_
            refine L_pure 2 [(2, pt p3 0), (3, pt p4 0), (5, I v4), (50, I (x1.Log.length : Int)), (51, I v4)] (by kernel_rfl) fun b => ?_
            refine wpL_nil ?_
            refine th_n ?_
            refine wp_seq ?_
            refine wp_regG (SN { w with drawn := w.drawn + 1 }) rfl ?_
            have hst := hst.draw (n := w.drawn + 1)
            generalize { w with drawn := w.drawn + 1 } = w at hst ⊢
            refine C_take (i := 0) (v := pt p3 5) rfl (by kernel_rfl) (fun _ _ _ h => h) rfl rfl rfl (R_pure (by kernel_rfl)) ?_
            refine C_take (i := 1) (v := .slice a1 x1.Log.length c1) rfl (by kernel_rfl) (fun _ _ _ h => h) rfl rfl rfl (R_load (hst.pull 1) rfl rfl) ?_
            refine C_take (i := 2) (v := I v4) rfl (by kernel_rfl) (fun _ _ _ h => h) rfl rfl rfl (R_pure (by kernel_rfl)) ?_
            obtain ⟨x5, hx3, hr⟩ := bnd hr
            refine C_take (i := 3) (v := pt (ab a1) (ao a1 + v4.toNat * 3)) rfl (by kernel_rfl) (fun _ _ _ h => h) rfl rfl rfl (R_ia L69 rfl rfl (dsl_addr (hst.pull 2) hx3) (gt_some hx3).1 (gt_some hx3).2.1) ?_
            obtain ⟨q3, hc3, hst⟩ := dsl_cells (hst.pull 2) hx3
            have hst := hst.drop
            refine C_take (i := 4) (v := .agg #[I x5.Index, I x5.Term, S x5.Cmd]) rfl (by kernel_rfl) (fun _ _ _ h => h) rfl rfl rfl (R_loadAt (off := ao a1 + v4.toNat * 3) (j := 0) hc3 rfl rfl) ?_
            refine C_take (i := 5) (v := pt p4 5) rfl (by kernel_rfl) (fun _ _ _ h => h) rfl rfl rfl (R_pure (by kernel_rfl)) ?_
            refine C_take (i := 6) (v := .slice a2 x2.Log.length c2) rfl (by kernel_rfl) (fun _ _ _ h => h) rfl rfl rfl (R_load (hst.pull 1) rfl rfl) ?_
            refine C_take (i := 7) (v := I v4) rfl (by kernel_rfl) (fun _ _ _ h => h) rfl rfl rfl (R_pure (by kernel_rfl)) ?_
            obtain ⟨x6, hx4, hr⟩ := bnd hr
            refine C_take (i := 8) (v := pt (ab a2) (ao a2 + v4.toNat * 3)) rfl (by kernel_rfl) (fun _ _ _ h => h) rfl rfl rfl (R_ia L69 rfl rfl (dsl_addr (hst.pull 3) hx4) (gt_some hx4).1 (gt_some hx4).2.1) ?_
            obtain ⟨q4, hc4, hst⟩ := dsl_cells (hst.pull 3) hx4
            have hst := hst.drop
            refine C_take (i := 9) (v := .agg #[I x6.Index, I x6.Term, S x6.Cmd]) rfl (by kernel_rfl) (fun _ _ _ h => h) rfl rfl rfl (R_loadAt (off := ao a2 + v4.toNat * 3) (j := 0) hc4 rfl rfl) ?_
            refine C_take (i := 10) (v := .bool (!(decide (x5 = x6)))) rfl (by kernel_rfl) (fun _ _ _ h => h) rfl rfl rfl (R_sne rfl rfl G119 (EQ119 x5 x6 _)) ?_
            refine wpG_done (by kernel_rfl) ?_ _
            refine C_keepQ [(2, pt p3 0), (3, pt p4 0), (50, I (x1.Log.length : Int)), (51, I v4), (64, .bool (!(decide (x5 = x6))))] rfl fun b => ?_
            refine th_n ?_
            refine wp_cond_mkF (t := (!(decide (x5 = x6)))) rfl (fun h => ?_) (fun h => ?_)
            · have hr := (if_pos h).symm.trans hr
              refine wp_seq ?_
              refine wp_reg ?_
              refine L_pure 1 [(4, .bool false)] (by kernel_rfl) fun b => ?_
              refine wpL_nil ?_
              refine th_n ?_
              refine wp_ret ?_
              refine ib_r (th_r (th_r (ib_r (th_r (th_r ?_)))))
              refine ret1 rfl rfl ?_
              obtain rfl := Option.some.inj hr
              obtain rfl := Option.some.inj hk4
              have hst := ((hst.pull 1).cut 2 2)
              exact hR _ hst
            · have hr := (if_neg (by rw [h]; exact Bool.false_ne_true)).symm.trans hr
              refine wp_skip ?_
              refine ib_n (th_n ?_)
              refine wp_reg ?_
              refine L_pure 2 [(2, pt p3 0), (3, pt p4 0), (50, I (x1.Log.length : Int)), (51, I (IntKind.i64.wrap (v4 + 1)))] (by kernel_rfl) fun b => ?_
              refine wpL_nil ?_
              refine th_n ?_
              have hst := (((hst.pull 1).pull 3).pull 3)
              exact ⟨(IntKind.i64.wrap (v4 + 1)), (kpX [(2, pt p3 0), (3, pt p4 0), (50, I (x1.Log.length : Int)), (51, I (IntKind.i64.wrap (v4 + 1)))] rfl ⟨hst, hr⟩)⟩
          · have hr := (if_neg (by rw [h]; exact Bool.false_ne_true)).symm.trans hr
            refine wp_exit ?_
            refine th_x (th_x (ib_x (th_n ?_)))
            obtain rfl := Option.some.inj hr
            have hst := ((((hst.pull 3).pull 3).pull 3).pull 3)
            exact ⟨(), (kpXf [] rfl hst)⟩
  · have hr := hy3
    refine wp_reg ?_
    refine L_pure 1 [(2, pt p3 0), (3, pt p4 0), (6, pt p3 0)] (by kernel_rfl) fun b => ?_
    refine L_op rfl (O_run (v := I x1.Term) (w' := w) (R_load (hst.pull 1) rfl rfl) rfl rfl ?_)
    refine L_pure 1 [(2, pt p3 0), (3, pt p4 0), (7, I x1.Term), (8, pt p4 0)] (by kernel_rfl) fun b => ?_
    refine L_op rfl (O_run (v := I x2.Term) (w' := w) (R_load hst rfl rfl) rfl rfl ?_)
    refine L_pure 2 [(2, pt p3 0), (3, pt p4 0), (11, .bool (x1.Term != x2.Term))] (by kernel_rfl) fun b => ?_
    by_cases h : (x1.Term != x2.Term) = true
    · have hr := (if_pos h).symm.trans hr
      refine L_keep ((11, .bool (x1.Term != x2.Term)) :: [(2, pt p3 0), (3, pt p4 0)]) rfl fun b => ?_
      refine L_bool h ?_
      refine L_pure 36 [(2, pt p3 0), (3, pt p4 0), (47, .bool true)] (by kernel_rfl) fun b => ?_
      refine wpL_nil ?_
      refine th_n ?_
      obtain rfl := Option.some.inj hr
      have hst := ((((hst.pull 3).pull 3).pull 3).pull 3)
      exact (kpX [(2, pt p3 0), (3, pt p4 0), (47, .bool true)] rfl hst)
    · have hr := (if_neg h).symm.trans hr
      refine L_keep ((11, .bool (x1.Term != x2.Term)) :: [(2, pt p3 0), (3, pt p4 0)]) rfl fun b => ?_
      refine L_bool (eq_false_of_ne_true h) ?_
      refine L_pure 1 [(2, pt p3 0), (3, pt p4 0), (11, .bool false), (12, pt p3 1)] (by kernel_rfl) fun b => ?_
      refine L_op rfl (O_run (v := I x1.Vote) (w' := w) (R_load (hst.pull 1) rfl rfl) rfl rfl ?_)
      refine L_pure 1 [(2, pt p3 0), (3, pt p4 0), (11, .bool false), (13, I x1.Vote), (14, pt p4 1)] (by kernel_rfl) fun b => ?_
      refine L_op rfl (O_run (v := I x2.Vote) (w' := w) (R_load hst rfl rfl) rfl rfl ?_)
      refine L_pure 3 [(2, pt p3 0), (3, pt p4 0), (18, .bool (x1.Vote != x2.Vote))] (by kernel_rfl) fun b => ?_
      by_cases h : (x1.Vote != x2.Vote) = true
      · have hr := (if_pos h).symm.trans hr
        refine L_keep ((18, .bool (x1.Vote != x2.Vote)) :: [(2, pt p3 0), (3, pt p4 0)]) rfl fun b => ?_
        refine L_bool h ?_
        refine L_pure 29 [(2, pt p3 0), (3, pt p4 0), (47, .bool true)] (by kernel_rfl) fun b => ?_
        refine wpL_nil ?_
        refine th_n ?_
        obtain rfl := Option.some.inj hr
        have hst := ((((hst.pull 3).pull 3).pull 3).pull 3)
        exact (kpX [(2, pt p3 0), (3, pt p4 0), (47, .bool true)] rfl hst)
      · have hr := (if_neg h).symm.trans hr
        refine L_keep ((18, .bool (x1.Vote != x2.Vote)) :: [(2, pt p3 0), (3, pt p4 0)]) rfl fun b => ?_
        refine L_bool (eq_false_of_ne_true h) ?_
        refine L_pure 1 [(2, pt p3 0), (3, pt p4 0), (18, .bool false), (19, pt p3 2)] (by kernel_rfl) fun b => ?_
        refine L_op rfl (O_run (v := I x1.Base) (w' := w) (R_load (hst.pull 1) rfl rfl) rfl rfl ?_)
        refine L_pure 1 [(2, pt p3 0), (3, pt p4 0), (18, .bool false), (20, I x1.Base), (21, pt p4 2)] (by kernel_rfl) fun b => ?_
        refine L_op rfl (O_run (v := I x2.Base) (w' := w) (R_load hst rfl rfl) rfl rfl ?_)
        refine L_pure 3 [(2, pt p3 0), (3, pt p4 0), (25, .bool (x1.Base != x2.Base))] (by kernel_rfl) fun b => ?_
        by_cases h : (x1.Base != x2.Base) = true
        · have hr := (if_pos h).symm.trans hr
          refine L_keep ((25, .bool (x1.Base != x2.Base)) :: [(2, pt p3 0), (3, pt p4 0)]) rfl fun b => ?_
          refine L_bool h ?_
          refine L_pure 22 [(2, pt p3 0), (3, pt p4 0), (47, .bool true)] (by kernel_rfl) fun b => ?_
          refine wpL_nil ?_
          refine th_n ?_
          obtain rfl := Option.some.inj hr
          have hst := ((((hst.pull 3).pull 3).pull 3).pull 3)
          exact (kpX [(2, pt p3 0), (3, pt p4 0), (47, .bool true)] rfl hst)
        · have hr := (if_neg h).symm.trans hr
          refine L_keep ((25, .bool (x1.Base != x2.Base)) :: [(2, pt p3 0), (3, pt p4 0)]) rfl fun b => ?_
          refine L_bool (eq_false_of_ne_true h) ?_
          refine L_pure 1 [(2, pt p3 0), (3, pt p4 0), (25, .bool false), (26, pt p3 3)] (by kernel_rfl) fun b => ?_
          refine L_op rfl (O_run (v := I x1.BaseTerm) (w' := w) (R_load (hst.pull 1) rfl rfl) rfl rfl ?_)
          refine L_pure 1 [(2, pt p3 0), (3, pt p4 0), (25, .bool false), (27, I x1.BaseTerm), (28, pt p4 3)] (by kernel_rfl) fun b => ?_
          refine L_op rfl (O_run (v := I x2.BaseTerm) (w' := w) (R_load hst rfl rfl) rfl rfl ?_)
          refine L_pure 3 [(2, pt p3 0), (3, pt p4 0), (32, .bool (x1.BaseTerm != x2.BaseTerm))] (by kernel_rfl) fun b => ?_
          by_cases h : (x1.BaseTerm != x2.BaseTerm) = true
          · have hr := (if_pos h).symm.trans hr
            refine L_keep ((32, .bool (x1.BaseTerm != x2.BaseTerm)) :: [(2, pt p3 0), (3, pt p4 0)]) rfl fun b => ?_
            refine L_bool h ?_
            refine L_pure 15 [(2, pt p3 0), (3, pt p4 0), (47, .bool true)] (by kernel_rfl) fun b => ?_
            refine wpL_nil ?_
            refine th_n ?_
            obtain rfl := Option.some.inj hr
            have hst := ((((hst.pull 3).pull 3).pull 3).pull 3)
            exact (kpX [(2, pt p3 0), (3, pt p4 0), (47, .bool true)] rfl hst)
          · have hr := (if_neg h).symm.trans hr
            refine L_keep ((32, .bool (x1.BaseTerm != x2.BaseTerm)) :: [(2, pt p3 0), (3, pt p4 0)]) rfl fun b => ?_
            refine L_bool (eq_false_of_ne_true h) ?_
            refine L_pure 1 [(2, pt p3 0), (3, pt p4 0), (32, .bool false), (33, pt p3 4)] (by kernel_rfl) fun b => ?_
            refine L_op rfl (O_run (v := S x1.Snap) (w' := w) (R_load (hst.pull 1) rfl rfl) rfl rfl ?_)
            refine L_pure 1 [(2, pt p3 0), (3, pt p4 0), (32, .bool false), (34, S x1.Snap), (35, pt p4 4)] (by kernel_rfl) fun b => ?_
            refine L_op rfl (O_run (v := S x2.Snap) (w' := w) (R_load hst rfl rfl) rfl rfl ?_)
            refine L_pure 3 [(2, pt p3 0), (3, pt p4 0), (39, .bool (!sEq x1.Snap x2.Snap))] (by kernel_rfl) fun b => ?_
            by_cases h : (!sEq x1.Snap x2.Snap) = true
            · have hr := (if_pos h).symm.trans hr
              refine L_keep ((39, .bool (!sEq x1.Snap x2.Snap)) :: [(2, pt p3 0), (3, pt p4 0)]) rfl fun b => ?_
              refine L_bool h ?_
              refine L_pure 8 [(2, pt p3 0), (3, pt p4 0), (47, .bool true)] (by kernel_rfl) fun b => ?_
              refine wpL_nil ?_
              refine th_n ?_
              obtain rfl := Option.some.inj hr
              have hst := ((((hst.pull 3).pull 3).pull 3).pull 3)
              exact (kpX [(2, pt p3 0), (3, pt p4 0), (47, .bool true)] rfl hst)
            · have hr := (if_neg h).symm.trans hr
              refine L_keep ((39, .bool (!sEq x1.Snap x2.Snap)) :: [(2, pt p3 0), (3, pt p4 0)]) rfl fun b => ?_
              refine L_bool (eq_false_of_ne_true h) ?_
              refine L_pure 1 [(2, pt p3 0), (3, pt p4 0), (39, .bool false), (40, pt p3 5)] (by kernel_rfl) fun b => ?_
              refine L_op rfl (O_run (v := .slice a1 x1.Log.length c1) (w' := w) (R_load (hst.pull 1) rfl rfl) rfl rfl ?_)
              refine L_pure 2 [(2, pt p3 0), (3, pt p4 0), (39, .bool false), (42, I (x1.Log.length : Int)), (43, pt p4 5)] (by kernel_rfl) fun b => ?_
              refine L_op rfl (O_run (v := .slice a2 x2.Log.length c2) (w' := w) (R_load hst rfl rfl) rfl rfl ?_)
              refine L_pure 3 [(2, pt p3 0), (3, pt p4 0), (47, .bool ((x1.Log.length : Int) != (x2.Log.length : Int)))] (by kernel_rfl) fun b => ?_
              refine wpL_nil ?_
              refine th_n ?_
              obtain rfl := Option.some.inj hr
              have hst := ((((hst.pull 3).pull 3).pull 3).pull 3)
              exact (kpX [(2, pt p3 0), (3, pt p4 0), (47, .bool ((x1.Log.length : Int) != (x2.Log.length : Int)))] rfl hst)
def glacierlaw09_TermBack_l1 (k : Nat) (x1 : Int) (x4 : (List (List UInt8))) : Nat → (List T_term_Entry) → Int → Option ((List T_term_Entry))
  | 0, _, _ => none
  | j + 1, v9, v10 => (Option.bind (if decide (v10 < (x4.length : Int)) = true then some (decide (v10 < 10)) else some (false)) fun y26 => (if y26 = true then (Option.bind (gt x4 v10) fun x11 => (Option.bind (glacierlaw01_Cut k x11 30) fun y27 => (if room (v9.length + ([(T_term_Entry.mk (IntKind.i64.wrap (v10 + 1)) x1 y27)]).length) 32 = true then (glacierlaw09_TermBack_l1 k x1 x4 j (v9 ++ ([(T_term_Entry.mk (IntKind.i64.wrap (v10 + 1)) x1 y27)])) (IntKind.i64.wrap (v10 + 1))) else none))) else some (v9)))
def glacierlaw09_TermBack_l2 (k : Nat) (x5 : Int) (y25 : ((List T_term_Entry))) (y33 : ((List T_term_Entry) × T_term_State × Int × Int × Int × (List ((List UInt8) × (Option T_platter_file))))) : Nat → Int → Option (Flow (Bool) (Unit))
  | 0, _ => none
  | j + 1, v12 => (if decide (v12 < (y33.1.length : Int)) = true then (Option.bind (gt y33.1 v12) fun x13 => (Option.bind (gt y25 (IntKind.i64.wrap ((mn2 (mx2 x5 0) (y25.length : Int)) + v12))) fun x14 => (if (!(decide (x13 = x14))) = true then some (Flow.ret (false)) else (glacierlaw09_TermBack_l2 k x5 y25 y33 j (IntKind.i64.wrap (v12 + 1)))))) else some (Flow.go ()))
def glacierlaw09_TermBack (k : Nat) (x1 : Int) (x2 : Int) (x3 : (List UInt8)) (x4 : (List (List UInt8))) (x5 : Int) (x6 : (List Int)) : Option (Bool) := (Option.bind (platter_New k 100000) fun y21 => (Option.bind (Option.bind (glacierlaw09_awake k) fun y23 => (if (!y23) = true then some (true) else (if decide (x1 < 0) = true then some (true) else (if decide (x1 > 1099511627776) = true then some (true) else (if decide (x2 < 0) = true then some (true) else some (decide (x2 > 5))))))) fun y22 => (if y22 = true then (Option.bind (glacierlaw09_awake k) fun y24 => some (y24)) else (Option.bind (glacierlaw09_TermBack_l1 k x1 x4 k ([]) (0 : Int)) fun y25 => (Option.bind (glacierlaw01_Cut k x3 50) fun y28 => (Option.bind (Option.bind (term_Append k y21.1 y21.2.1 y21.2.2.1 y21.2.2.2.1 y21.2.2.2.2 y25) fun y30 => (if (y30.1 != 0) = true then some (true, y30.2.1, y30.2.2.1, y30.2.2.2) else (Option.bind (term_SaveTerm k y21.1 y30.2.1 y21.2.2.1 y30.2.2.1 y30.2.2.2 x1 x2) fun y31 => (if (y31.1 != 0) = true then some (true, y31.2.1, y31.2.2.1, y31.2.2.2) else (Option.bind (sl y25 (mn2 (mx2 x5 0) (y25.length : Int)) (y25.length : Int)) fun x12 => (Option.bind (term_SaveSnap k y21.1 y31.2.1 y21.2.2.1 y31.2.2.1 y31.2.2.2 (mn2 (mx2 x5 0) (y25.length : Int)) x1 y28 x12) fun y32 => some ((y32.1 != 0), y32.2.1, y32.2.2.1, y32.2.2.2))))))) fun y29 => (if y29.1 = true then some (false) else (Option.bind (term_Load k y21.1 y29.2.1 y21.2.2.1 y29.2.2.1 y29.2.2.2) fun y33 => (Option.bind (platter_Disk_Crash k y21.1 y33.2.2.2.1 y21.2.2.1 y33.2.2.2.2.1 y33.2.2.2.2.2 x6) fun y34 => (Option.bind (term_Load k y21.1 y34.1 y21.2.2.1 y33.2.2.2.2.1 y34.2) fun y35 => (Option.bind (if (y33.2.2.1 != 0) = true then some (true) else (if (y35.2.2.1 != 0) = true then some (true) else (Option.bind (glacierlaw09_Told k (T_term_State.mk y33.2.1.Term y33.2.1.Vote y33.2.1.Base y33.2.1.BaseTerm y33.2.1.Snap y33.1)) fun y37 => (Option.bind (glacierlaw09_Told k (T_term_State.mk y35.2.1.Term y35.2.1.Vote y35.2.1.Base y35.2.1.BaseTerm y35.2.1.Snap y35.1)) fun y38 => (Option.bind (glacierref09_Same k (T_glacierref09_State.mk y37.2.Term y37.2.Vote y37.2.Base y37.2.BaseTerm y37.2.Snap y37.1) (T_glacierref09_State.mk y38.2.Term y38.2.Vote y38.2.Base y38.2.BaseTerm y38.2.Snap y38.1)) fun y39 => (if (!y39) = true then some (true) else (if (y33.2.1.Term != x1) = true then some (true) else (if (y33.2.1.Vote != x2) = true then some (true) else (if (y33.2.1.Base != (mn2 (mx2 x5 0) (y25.length : Int))) = true then some (true) else (if (!sEq y33.2.1.Snap y28) = true then some (true) else some (((y33.1.length : Int) != (IntKind.i64.wrap ((y25.length : Int) - (mn2 (mx2 x5 0) (y25.length : Int)))))))))))))))) fun y36 => (if y36 = true then some (false) else (Option.bind (glacierlaw09_TermBack_l2 k x5 y25 y33 k (0 : Int)) fun y40 => (match y40 with | Flow.ret r => some r | Flow.go _ => some (true)))))))))))))))
set_option maxRecDepth 100000 in
set_option maxHeartbeats 4000000 in
theorem glacierlaw09_TermBack_ok {G w : World} {F : List HP} {R : Ending → World → Prop} (k : Nat) (x1 : Int) (x2 : Int) (x3 : (List UInt8)) (x4 : (List (List UInt8))) (x5 : Int) (x6 : (List Int)) (a1 : Option Addr) (c1 : Nat) (a2 : Option Addr) (c2 : Nat) (r : (Bool)) (hst : St G w (dsl rS a1 c1 x4 :: dsl (rI .i64) a2 c2 x6 :: F)) (hr : glacierlaw09_TermBack k x1 x2 x3 x4 x5 x6 = some r)
    (hR : ∀ w', St G w' (dsl rS a1 c1 x4 :: dsl (rI .i64) a2 c2 x6 :: F) → R (.returned (.bool r)) w') :
    Calls Try.prog 11 #[I x1, I x2, S x3, .slice a1 x4.length c1, I x5, .slice a2 x6.length c2] w R := by
  unfold glacierlaw09_TermBack at hr
  refine enter Try.func11 rfl [(0, I x1), (1, I x2), (2, S x3), (3, .slice a1 x4.length c1), (4, I x5), (5, .slice a2 x6.length c2)] rfl rfl fun b => ?_
  refine wp_seq ?_
  refine wp_reg ?_
  refine L_pure 1 [(0, I x1), (1, I x2), (2, S x3), (3, .slice a1 x4.length c1), (4, I x5), (5, .slice a2 x6.length c2)] (by kernel_rfl) fun b => ?_
  refine wpL_nil ?_
  refine th_n ?_
  refine wp_seq ?_
  refine wp_reg ?_
  obtain ⟨y21, hy21, hr⟩ := bnd hr
  refine L_op rfl (O_call (vs := #[I 100000]) Try.call14 (by kernel_rfl) (platter_New_ok k 100000 y21 hst hy21 fun p8 p9 w hst => ?_))
  refine CK_ret rfl ?_
  refine L_pure 1 [(0, I x1), (1, I x2), (2, S x3), (3, .slice a1 x4.length c1), (4, I x5), (5, .slice a2 x6.length c2), (13, pt p8 0)] (by kernel_rfl) fun b => ?_
  refine wpL_nil ?_
  refine th_n ?_
  refine wp_seq ?_
  obtain ⟨y22, hy22, hk7⟩ := bnd hr
  clear hr
  refine wp_seq_cut (fun a w => ∃ (b : Nat → Value), a = mkF 176 b [(0, I x1), (1, I x2), (2, S x3), (3, .slice a1 x4.length c1), (4, I x5), (5, .slice a2 x6.length c2), (13, pt p8 0), (44, .bool y22)] ∧ St G w (blk p8 (cl [I y21.1, I y21.2.1, .bool y21.2.2.1, I y21.2.2.2.1, .map (some p9)] 42) :: mpr S (rPt r_T_platter_file) p9 y21.2.2.2.2 :: dsl rS a1 c1 x4 :: dsl (rI .i64) a2 c2 x6 :: F)) ?_ ?_
  · rintro _ w ⟨b, rfl, hst⟩
    have hr := hk7
    refine wp_cond_mkF (t := y22) rfl (fun h => ?_) (fun h => ?_)
    · have hr := (if_pos h).symm.trans hr
      refine wp_seq ?_
      refine wp_reg ?_
      obtain ⟨y24, hy24, hr⟩ := bnd hr
      refine L_op rfl (O_call (vs := #[]) Try.call25 (by kernel_rfl) (glacierlaw09_awake_ok k y24 hst hy24 fun w hst => ?_))
      refine CK_ret rfl ?_
      refine L_pure 1 [(12, .bool y24)] (by kernel_rfl) fun b => ?_
      refine wpL_nil ?_
      refine th_n ?_
      refine wp_ret ?_
      refine th_r ?_
      refine ret1 rfl rfl ?_
      obtain rfl := Option.some.inj hr
      have hst := (((hst.pull 3).pull 3).cut 2 2)
      exact hR _ hst
    · have hr := (if_neg (by rw [h]; exact Bool.false_ne_true)).symm.trans hr
      refine wp_skip ?_
      refine th_n ?_
      refine wp_seq ?_
      refine wp_reg ?_
      refine L_op rfl (O_bs (T := 52) [] #[] hst (by kernel_rfl) (by kernel_rfl) rfl fun p10 w hst => ?_)
      have hst := osl_of_blk0 (ecs := []) r_T_term_Entry [] rfl (fun m => trivial) rfl hst
      refine L_pure 1 [(0, I x1), (1, I x2), (2, S x3), (3, .slice a1 x4.length c1), (4, I x5), (5, .slice a2 x6.length c2), (13, pt p8 0), (14, .slice (some ⟨p10, 0, none⟩) 0 0)] (by kernel_rfl) fun b => ?_
      refine wpL_nil ?_
      refine th_n ?_
      refine wp_seq ?_
      refine wp_seq ?_
      refine wp_reg ?_
      refine L_pure 1 [(0, I x1), (1, I x2), (2, S x3), (3, .slice a1 x4.length c1), (4, I x5), (5, .slice a2 x6.length c2), (13, pt p8 0), (14, .slice (some ⟨p10, 0, none⟩) 0 0), (15, I 0)] (by kernel_rfl) fun b => ?_
      refine wpL_nil ?_
      refine th_n ?_
      obtain ⟨y25, hy25, hk8⟩ := bnd hr
      clear hr
      refine Go.Hx.wp_cut (fun a w => ∃ (a12 : Option Addr) (c12 : Nat)(b : Nat → Value), a = mkF 176 b [(0, I x1), (1, I x2), (2, S x3), (4, I x5), (5, .slice a2 x6.length c2), (13, pt p8 0), (14, .slice a12 y25.length c12)] ∧ St G w (osl r_T_term_Entry 52 a12 c12 y25 :: blk p8 (cl [I y21.1, I y21.2.1, .bool y21.2.2.1, I y21.2.2.2.1, .map (some p9)] 42) :: mpr S (rPt r_T_platter_file) p9 y21.2.2.2.2 :: dsl rS a1 c1 x4 :: dsl (rI .i64) a2 c2 x6 :: F)) ?_ ?_
      · rintro _ w ⟨a12, c12, b, rfl, hst⟩
        have hr := hk8
        refine th_n ?_
        refine wp_seq ?_
        refine wp_reg ?_
        refine L_pure 6 [(0, I x1), (1, I x2), (2, S x3), (4, I (mn2 (mx2 x5 0) (y25.length : Int))), (5, .slice a2 x6.length c2), (13, pt p8 0), (14, .slice a12 y25.length c12)] (by kernel_rfl) fun b => ?_
        refine wpL_nil ?_
        refine th_n ?_
        refine wp_seq ?_
        refine wp_reg ?_
        refine L_pure 1 [(0, I x1), (1, I x2), (4, I (mn2 (mx2 x5 0) (y25.length : Int))), (5, .slice a2 x6.length c2), (13, pt p8 0), (14, .slice a12 y25.length c12), (74, S x3)] (by kernel_rfl) fun b => ?_
        obtain ⟨y28, hy28, hr⟩ := bnd hr
        refine L_op rfl (O_call (vs := #[S x3, I 50]) Try.call13 (by kernel_rfl) (glacierlaw01_Cut_ok k x3 50 y28 hst hy28 fun w hst => ?_))
        refine CK_ret rfl ?_
        refine L_pure 1 [(0, I x1), (1, I x2), (2, S y28), (4, I (mn2 (mx2 x5 0) (y25.length : Int))), (5, .slice a2 x6.length c2), (13, pt p8 0), (14, .slice a12 y25.length c12)] (by kernel_rfl) fun b => ?_
        refine wpL_nil ?_
        refine th_n ?_
        refine wp_seq ?_
        obtain ⟨y29, hy29, hk10⟩ := bnd hr
        clear hr
        refine wp_seq_cut (fun a w => ∃ (b : Nat → Value), a = mkF 176 b [(0, I x1), (1, I x2), (2, S y28), (4, I (mn2 (mx2 x5 0) (y25.length : Int))), (5, .slice a2 x6.length c2), (13, pt p8 0), (14, .slice a12 y25.length c12), (97, .bool y29.1)] ∧ St G w (blk p8 (cl [I y21.1, I y29.2.1, .bool y21.2.2.1, I y29.2.2.1, .map (some p9)] 42) :: mpr S (rPt r_T_platter_file) p9 y29.2.2.2 :: dsl r_T_term_Entry a12 c12 y25 :: dsl rS a1 c1 x4 :: dsl (rI .i64) a2 c2 x6 :: F)) ?_ ?_
        · rintro _ w ⟨b, rfl, hst⟩
          have hr := hk10
          refine wp_cond_mkF (t := y29.1) rfl (fun h => ?_) (fun h => ?_)
          · have hr := (if_pos h).symm.trans hr
            refine wp_seq ?_
            refine wp_reg ?_
            refine L_pure 1 [(12, .bool false)] (by kernel_rfl) fun b => ?_
            refine wpL_nil ?_
            refine th_n ?_
            refine wp_ret ?_
            refine th_r ?_
            refine ret1 rfl rfl ?_
            obtain rfl := Option.some.inj hr
            have hst := (((hst.pull 4).pull 4).cut 2 3)
            exact hR _ hst
          · have hr := (if_neg (by rw [h]; exact Bool.false_ne_true)).symm.trans hr
            refine wp_skip ?_
            refine th_n ?_
            refine wp_seq ?_
            refine wp_reg ?_
            refine L_pure 1 [(0, I x1), (1, I x2), (2, S y28), (4, I (mn2 (mx2 x5 0) (y25.length : Int))), (5, .slice a2 x6.length c2), (13, pt p8 0), (14, .slice a12 y25.length c12), (99, pt p8 0)] (by kernel_rfl) fun b => ?_
            obtain ⟨y33, hy33, hr⟩ := bnd hr
            refine L_op rfl (O_call (vs := #[pt p8 0]) Try.call27 (by kernel_rfl) (term_Load_ok k y21.1 y29.2.1 y21.2.2.1 y29.2.2.1 y29.2.2.2 p8 p9 y33 ((hst.pull 1).pull 1) hy33 fun a15 c15 w hst => ?_))
            refine CK_ret rfl ?_
            refine L_pure 3 [(0, I x1), (1, I x2), (2, S y28), (4, I (mn2 (mx2 x5 0) (y25.length : Int))), (5, .slice a2 x6.length c2), (13, pt p8 0), (14, .slice a12 y25.length c12), (101, .agg #[I y33.2.1.Term, I y33.2.1.Vote, I y33.2.1.Base, I y33.2.1.BaseTerm, S y33.2.1.Snap, .slice a15 y33.1.length c15]), (102, I y33.2.2.1)] (by kernel_rfl) fun b => ?_
            refine L_op rfl (O_alloc (i := Try.t55) (z := .agg #[I 0, I 0, I 0, I 0, S ([]), .slice none 0 0]) [I 0, I 0, I 0, I 0, S ([]), .slice none 0 0] hst rfl rfl rfl rfl fun p12 w hst => ?_)
            refine L_op rfl (O_store [I y33.2.1.Term, I y33.2.1.Vote, I y33.2.1.Base, I y33.2.1.BaseTerm, S y33.2.1.Snap, .slice a15 y33.1.length c15] hst rfl rfl (by kernel_rfl) fun w hst => ?_)
            refine L_pure 1 [(0, I x1), (1, I x2), (2, S y28), (4, I (mn2 (mx2 x5 0) (y25.length : Int))), (5, .slice a2 x6.length c2), (13, pt p8 0), (14, .slice a12 y25.length c12), (16, pt p12 0), (17, I y33.2.2.1)] (by kernel_rfl) fun b => ?_
            refine wpL_nil ?_
            refine th_n ?_
            refine wp_seq ?_
            refine wp_reg ?_
            refine L_pure 2 [(0, I x1), (1, I x2), (2, S y28), (4, I (mn2 (mx2 x5 0) (y25.length : Int))), (13, pt p8 0), (14, .slice a12 y25.length c12), (16, pt p12 0), (17, I y33.2.2.1), (103, pt p8 0), (104, .slice a2 x6.length c2)] (by kernel_rfl) fun b => ?_
            obtain ⟨y34, hy34, hr⟩ := bnd hr
            refine L_op rfl (O_call (vs := #[pt p8 0, .slice a2 x6.length c2]) Try.call19 (by kernel_rfl) (platter_Disk_Crash_ok k y21.1 y33.2.2.2.1 y21.2.2.1 y33.2.2.2.2.1 y33.2.2.2.2.2 x6 p8 p9 a2 c2 y34 (((hst.pull 6).pull 4).pull 4) hy34 fun w hst => ?_))
            refine CK_ret rfl ?_
            refine wpL_nil ?_
            refine th_n ?_
            refine wp_seq ?_
            refine wp_reg ?_
            refine L_pure 1 [(0, I x1), (1, I x2), (2, S y28), (4, I (mn2 (mx2 x5 0) (y25.length : Int))), (14, .slice a12 y25.length c12), (16, pt p12 0), (17, I y33.2.2.1), (107, pt p8 0)] (by kernel_rfl) fun b => ?_
            obtain ⟨y35, hy35, hr⟩ := bnd hr
            refine L_op rfl (O_call (vs := #[pt p8 0]) Try.call27 (by kernel_rfl) (term_Load_ok k y21.1 y34.1 y21.2.2.1 y33.2.2.2.2.1 y34.2 p8 p9 y35 ((hst.pull 1).pull 1) hy35 fun a16 c16 w hst => ?_))
            refine CK_ret rfl ?_
            refine L_pure 3 [(0, I x1), (1, I x2), (2, S y28), (4, I (mn2 (mx2 x5 0) (y25.length : Int))), (14, .slice a12 y25.length c12), (16, pt p12 0), (17, I y33.2.2.1), (109, .agg #[I y35.2.1.Term, I y35.2.1.Vote, I y35.2.1.Base, I y35.2.1.BaseTerm, S y35.2.1.Snap, .slice a16 y35.1.length c16]), (110, I y35.2.2.1)] (by kernel_rfl) fun b => ?_
            refine L_op rfl (O_alloc (i := Try.t55) (z := .agg #[I 0, I 0, I 0, I 0, S ([]), .slice none 0 0]) [I 0, I 0, I 0, I 0, S ([]), .slice none 0 0] hst rfl rfl rfl rfl fun p13 w hst => ?_)
            refine L_op rfl (O_store [I y35.2.1.Term, I y35.2.1.Vote, I y35.2.1.Base, I y35.2.1.BaseTerm, S y35.2.1.Snap, .slice a16 y35.1.length c16] hst rfl rfl (by kernel_rfl) fun w hst => ?_)
            refine L_pure 1 [(0, I x1), (1, I x2), (2, S y28), (4, I (mn2 (mx2 x5 0) (y25.length : Int))), (14, .slice a12 y25.length c12), (16, pt p12 0), (17, I y33.2.2.1), (18, pt p13 0), (19, I y35.2.2.1)] (by kernel_rfl) fun b => ?_
            refine wpL_nil ?_
            refine th_n ?_
            refine wp_seq ?_
            obtain ⟨y36, hy36, hk11⟩ := bnd hr
            clear hr
            refine wp_seq_cut (fun a w => ∃ (b : Nat → Value), a = mkF 176 b [(4, I (mn2 (mx2 x5 0) (y25.length : Int))), (14, .slice a12 y25.length c12), (16, pt p12 0), (158, .bool y36)] ∧ St G w (dsl r_T_term_Entry a15 c15 y33.1 :: dsl r_T_term_Entry a16 c16 y35.1 :: blk p13 (cl [I y35.2.1.Term, I y35.2.1.Vote, I y35.2.1.Base, I y35.2.1.BaseTerm, S y35.2.1.Snap, .slice a16 y35.1.length c16] 55) :: blk p8 (cl [I y21.1, I y35.2.2.2.1, .bool y21.2.2.1, I y35.2.2.2.2.1, .map (some p9)] 42) :: mpr S (rPt r_T_platter_file) p9 y35.2.2.2.2.2 :: dsl (rI .i64) a2 c2 x6 :: blk p12 (cl [I y33.2.1.Term, I y33.2.1.Vote, I y33.2.1.Base, I y33.2.1.BaseTerm, S y33.2.1.Snap, .slice a15 y33.1.length c15] 55) :: dsl r_T_term_Entry a12 c12 y25 :: dsl rS a1 c1 x4 :: F)) ?_ ?_
            · rintro _ w ⟨b, rfl, hst⟩
              have hr := hk11
              refine wp_cond_mkF (t := y36) rfl (fun h => ?_) (fun h => ?_)
              · have hr := (if_pos h).symm.trans hr
                refine wp_seq ?_
                refine wp_reg ?_
                refine L_pure 1 [(12, .bool false)] (by kernel_rfl) fun b => ?_
                refine wpL_nil ?_
                refine th_n ?_
                refine wp_ret ?_
                refine th_r ?_
                refine ret1 rfl rfl ?_
                obtain rfl := Option.some.inj hr
                have hst := (((hst.pull 5).pull 8).cut 2 7)
                exact hR _ hst
              · have hr := (if_neg (by rw [h]; exact Bool.false_ne_true)).symm.trans hr
                refine wp_skip ?_
                refine th_n ?_
                refine wp_seq ?_
                refine wp_seq ?_
                refine wp_reg ?_
                refine L_pure 1 [(4, I (mn2 (mx2 x5 0) (y25.length : Int))), (14, .slice a12 y25.length c12), (159, pt p12 5)] (by kernel_rfl) fun b => ?_
                refine L_op rfl (O_run (v := .slice a15 y33.1.length c15) (w' := w) (R_load (hst.pull 6) rfl rfl) rfl rfl ?_)
                refine L_pure 2 [(4, I (mn2 (mx2 x5 0) (y25.length : Int))), (14, .slice a12 y25.length c12), (160, .slice a15 y33.1.length c15), (161, I (y33.1.length : Int)), (162, I 0)] (by kernel_rfl) fun b => ?_
                refine wpL_nil ?_
                refine th_n ?_
                obtain ⟨y40, hy40, hk12⟩ := bnd hr
                clear hr
                refine Go.Hx.wp_cut (fun a w => ∃ (z2 : Unit) (b : Nat → Value), y40 = .go z2 ∧ a = mkF 176 b [] ∧ St G w (dsl r_T_term_Entry a15 c15 y33.1 :: dsl r_T_term_Entry a16 c16 y35.1 :: blk p13 (cl [I y35.2.1.Term, I y35.2.1.Vote, I y35.2.1.Base, I y35.2.1.BaseTerm, S y35.2.1.Snap, .slice a16 y35.1.length c16] 55) :: blk p8 (cl [I y21.1, I y35.2.2.2.1, .bool y21.2.2.1, I y35.2.2.2.2.1, .map (some p9)] 42) :: mpr S (rPt r_T_platter_file) p9 y35.2.2.2.2.2 :: dsl (rI .i64) a2 c2 x6 :: blk p12 (cl [I y33.2.1.Term, I y33.2.1.Vote, I y33.2.1.Base, I y33.2.1.BaseTerm, S y33.2.1.Snap, .slice a15 y33.1.length c15] 55) :: dsl r_T_term_Entry a12 c12 y25 :: dsl rS a1 c1 x4 :: F)) ?_ ?_
                · rintro _ w ⟨z2, b, rfl, rfl, hst⟩
                  have hr := hk12
                  refine th_n ?_
                  refine wp_seq ?_
                  refine wp_reg ?_
                  refine L_pure 1 [(12, .bool true)] (by kernel_rfl) fun b => ?_
                  refine wpL_nil ?_
                  refine th_n ?_
                  refine wp_ret ?_
                  refine ret1 rfl rfl ?_
                  obtain rfl := Option.some.inj hr
                  have hst := (((hst.pull 5).pull 8).cut 2 7)
                  exact hR _ hst
                · have hst := (((((((((hst.pull 8).pull 8).pull 8).pull 8).pull 8).pull 8).pull 8).pull 8).pull 8)
                  refine wp_block ?_
                  refine wp_loop_fuel (fun j a w => ∃ (v12 : Int) (b : Nat → Value), a = mkF 176 b [(4, I (mn2 (mx2 x5 0) (y25.length : Int))), (14, .slice a12 y25.length c12), (160, .slice a15 y33.1.length c15), (161, I (y33.1.length : Int)), (162, I v12)] ∧ St G w (dsl r_T_term_Entry a15 c15 y33.1 :: dsl r_T_term_Entry a16 c16 y35.1 :: blk p13 (cl [I y35.2.1.Term, I y35.2.1.Vote, I y35.2.1.Base, I y35.2.1.BaseTerm, S y35.2.1.Snap, .slice a16 y35.1.length c16] 55) :: blk p8 (cl [I y21.1, I y35.2.2.2.1, .bool y21.2.2.1, I y35.2.2.2.2.1, .map (some p9)] 42) :: mpr S (rPt r_T_platter_file) p9 y35.2.2.2.2.2 :: dsl (rI .i64) a2 c2 x6 :: blk p12 (cl [I y33.2.1.Term, I y33.2.1.Vote, I y33.2.1.Base, I y33.2.1.BaseTerm, S y33.2.1.Snap, .slice a15 y33.1.length c15] 55) :: dsl r_T_term_Entry a12 c12 y25 :: dsl rS a1 c1 x4 :: F) ∧ glacierlaw09_TermBack_l2 k x5 y25 y33 j v12 = some y40) (k := k) ⟨(0 : Int), (kpX [(4, I (mn2 (mx2 x5 0) (y25.length : Int))), (14, .slice a12 y25.length c12), (160, .slice a15 y33.1.length c15), (161, I (y33.1.length : Int)), (162, I 0)] rfl ⟨hst, hy40⟩)⟩ ?_ ?_
                  · rintro _ _ ⟨_, _, _, _, h⟩
                    rw [glacierlaw09_TermBack_l2] at h
                    cases h
                  · rintro j _ w ⟨v12, b, rfl, hst, hr⟩
                    rw [glacierlaw09_TermBack_l2] at hr
                    refine wp_seq ?_
                    refine wp_reg ?_
                    refine L_pure 1 [(4, I (mn2 (mx2 x5 0) (y25.length : Int))), (14, .slice a12 y25.length c12), (160, .slice a15 y33.1.length c15), (161, I (y33.1.length : Int)), (162, I v12), (163, .bool (decide (v12 < (y33.1.length : Int))))] (by kernel_rfl) fun b => ?_
                    refine wpL_nil ?_
                    refine th_n ?_
                    refine wp_seq ?_
                    refine wp_cond_mkF (t := decide (v12 < (y33.1.length : Int))) rfl (fun h => ?_) (fun h => ?_)
                    · have hr := (if_pos h).symm.trans hr
                      refine wp_skip ?_
                      refine th_n ?_
                      refine wp_seq ?_
                      refine wp_block ?_
                      refine wp_seq ?_
                      refine wp_reg ?_
                      refine L_pure 1 [(4, I (mn2 (mx2 x5 0) (y25.length : Int))), (14, .slice a12 y25.length c12), (160, .slice a15 y33.1.length c15), (161, I (y33.1.length : Int)), (162, I v12), (164, I v12)] (by kernel_rfl) fun b => ?_
                      obtain ⟨x13, hx7, hr⟩ := bnd hr
                      refine L_op rfl (O_run (v := pt (ab a15) (ao a15 + v12.toNat * 3)) (w' := w) (R_ia L50 rfl rfl (dsl_addr hst hx7) (gt_some hx7).1 (gt_some hx7).2.1) rfl rfl ?_)
                      obtain ⟨q5, hc5, hst⟩ := dsl_cells hst hx7
                      have hst := hst.drop
                      refine L_op rfl (O_run (v := .agg #[I x13.Index, I x13.Term, S x13.Cmd]) (w' := w) (R_loadAt (off := ao a15 + v12.toNat * 3) (j := 0) hc5 rfl rfl) rfl rfl ?_)
                      refine L_op rfl (O_alloc (i := Try.t52) (z := .agg #[I 0, I 0, S ([])]) [I 0, I 0, S ([])] hst rfl rfl rfl rfl fun p14 w hst => ?_)
                      refine L_pure 1 [(4, I (mn2 (mx2 x5 0) (y25.length : Int))), (14, .slice a12 y25.length c12), (20, I v12), (21, pt p14 0), (160, .slice a15 y33.1.length c15), (161, I (y33.1.length : Int)), (162, I v12), (166, .agg #[I x13.Index, I x13.Term, S x13.Cmd])] (by kernel_rfl) fun b => ?_
                      refine L_op rfl (O_store [I x13.Index, I x13.Term, S x13.Cmd] hst rfl rfl (by kernel_rfl) fun w hst => ?_)
                      refine wpL_nil ?_
                      refine th_n ?_
                      refine wp_seq ?_
                      refine wp_regG (SN { w with drawn := w.drawn + 1 }) rfl ?_
                      have hst := hst.draw (n := w.drawn + 1)
                      generalize { w with drawn := w.drawn + 1 } = w at hst ⊢
                      refine C_take (i := 0) (v := .agg #[I x13.Index, I x13.Term, S x13.Cmd]) rfl (by kernel_rfl) (fun _ _ _ h => h) rfl rfl rfl (R_load hst rfl rfl) ?_
                      refine C_take (i := 1) (v := .slice a12 y25.length c12) rfl (by kernel_rfl) (fun _ _ _ h => h) rfl rfl rfl (R_pure (by kernel_rfl)) ?_
                      refine C_take (i := 2) (v := I (mn2 (mx2 x5 0) (y25.length : Int))) rfl (by kernel_rfl) (fun _ _ _ h => h) rfl rfl rfl (R_pure (by kernel_rfl)) ?_
                      refine C_take (i := 3) (v := I v12) rfl (by kernel_rfl) (fun _ _ _ h => h) rfl rfl rfl (R_pure (by kernel_rfl)) ?_
                      refine C_take (i := 4) (v := I (IntKind.i64.wrap ((mn2 (mx2 x5 0) (y25.length : Int)) + v12))) rfl (by kernel_rfl) (fun _ _ _ h => h) rfl rfl rfl (R_pure (by kernel_rfl)) ?_
                      obtain ⟨x14, hx8, hr⟩ := bnd hr
                      refine C_take (i := 5) (v := pt (ab a12) (ao a12 + (IntKind.i64.wrap ((mn2 (mx2 x5 0) (y25.length : Int)) + v12)).toNat * 3)) rfl (by kernel_rfl) (fun _ _ _ h => h) rfl rfl rfl (R_ia L50 rfl rfl (dsl_addr (hst.pull 8) hx8) (gt_some hx8).1 (gt_some hx8).2.1) ?_
                      obtain ⟨q6, hc6, hst⟩ := dsl_cells (hst.pull 8) hx8
                      have hst := hst.drop
                      refine C_take (i := 6) (v := .agg #[I x14.Index, I x14.Term, S x14.Cmd]) rfl (by kernel_rfl) (fun _ _ _ h => h) rfl rfl rfl (R_loadAt (off := ao a12 + (IntKind.i64.wrap ((mn2 (mx2 x5 0) (y25.length : Int)) + v12)).toNat * 3) (j := 0) hc6 rfl rfl) ?_
                      refine C_take (i := 7) (v := .bool (!(decide (x13 = x14)))) rfl (by kernel_rfl) (fun _ _ _ h => h) rfl rfl rfl (R_sne rfl rfl G52 (EQ52 x13 x14 _)) ?_
                      refine wpG_done (by kernel_rfl) ?_ _
                      refine C_keepQ [(4, I (mn2 (mx2 x5 0) (y25.length : Int))), (14, .slice a12 y25.length c12), (160, .slice a15 y33.1.length c15), (161, I (y33.1.length : Int)), (162, I v12), (174, .bool (!(decide (x13 = x14))))] rfl fun b => ?_
                      refine th_n ?_
                      refine wp_cond_mkF (t := (!(decide (x13 = x14)))) rfl (fun h => ?_) (fun h => ?_)
                      · have hr := (if_pos h).symm.trans hr
                        refine wp_seq ?_
                        refine wp_reg ?_
                        refine L_pure 1 [(12, .bool false)] (by kernel_rfl) fun b => ?_
                        refine wpL_nil ?_
                        refine th_n ?_
                        refine wp_ret ?_
                        refine ib_r (th_r (th_r (ib_r (th_r (th_r ?_)))))
                        refine ret1 rfl rfl ?_
                        obtain rfl := Option.some.inj hr
                        obtain rfl := Option.some.inj hk12
                        have hst := (((hst.pull 7).pull 9).cut 2 8)
                        exact hR _ hst
                      · have hr := (if_neg (by rw [h]; exact Bool.false_ne_true)).symm.trans hr
                        refine wp_skip ?_
                        refine ib_n (th_n ?_)
                        refine wp_reg ?_
                        refine L_pure 2 [(4, I (mn2 (mx2 x5 0) (y25.length : Int))), (14, .slice a12 y25.length c12), (160, .slice a15 y33.1.length c15), (161, I (y33.1.length : Int)), (162, I (IntKind.i64.wrap (v12 + 1)))] (by kernel_rfl) fun b => ?_
                        refine wpL_nil ?_
                        refine th_n ?_
                        have hst := ((((((((((hst.pull 9).pull 1).pull 9).pull 9).pull 9).pull 9).pull 9).pull 9).pull 9).cut 9 1)
                        exact ⟨(IntKind.i64.wrap (v12 + 1)), (kpX [(4, I (mn2 (mx2 x5 0) (y25.length : Int))), (14, .slice a12 y25.length c12), (160, .slice a15 y33.1.length c15), (161, I (y33.1.length : Int)), (162, I (IntKind.i64.wrap (v12 + 1)))] rfl ⟨hst, hr⟩)⟩
                    · have hr := (if_neg (by rw [h]; exact Bool.false_ne_true)).symm.trans hr
                      refine wp_exit ?_
                      refine th_x (th_x (ib_x (th_n ?_)))
                      obtain rfl := Option.some.inj hr
                      have hst := (((((((((hst.pull 8).pull 8).pull 8).pull 8).pull 8).pull 8).pull 8).pull 8).pull 8)
                      exact ⟨(), (kpXf [] rfl hst)⟩
            · have hr := hy36
              have hst := osl_freeze (hst.pull 1)
              have hst := osl_freeze (hst.pull 6)
              refine wp_regG (SQ (fun w => St G w (dsl r_T_term_Entry a15 c15 y33.1 :: dsl r_T_term_Entry a16 c16 y35.1 :: blk p13 (cl [I y35.2.1.Term, I y35.2.1.Vote, I y35.2.1.Base, I y35.2.1.BaseTerm, S y35.2.1.Snap, .slice a16 y35.1.length c16] 55) :: blk p8 (cl [I y21.1, I y35.2.2.2.1, .bool y21.2.2.1, I y35.2.2.2.2.1, .map (some p9)] 42) :: mpr S (rPt r_T_platter_file) p9 y35.2.2.2.2.2 :: dsl (rI .i64) a2 c2 x6 :: blk p12 (cl [I y33.2.1.Term, I y33.2.1.Vote, I y33.2.1.Base, I y33.2.1.BaseTerm, S y33.2.1.Snap, .slice a15 y33.1.length c15] 55) :: dsl r_T_term_Entry a12 c12 y25 :: dsl rS a1 c1 x4 :: F))) rfl ?_
              have hst := hst.draw (n := w.drawn + 1)
              generalize { w with drawn := w.drawn + 1 } = w at hst ⊢
              refine Q_take (i := 0) (v := I y33.2.2.1) rfl (by kernel_rfl) (fun _ _ _ h => h) rfl rfl rfl (fun _ _ => R_pure (by kernel_rfl)) (((((((((hst.pull 8).pull 8).pull 8).pull 8).pull 8).pull 8).pull 8).pull 8).pull 8) ?_
              refine Q_take (i := 1) (v := .bool (y33.2.2.1 != 0)) rfl (by kernel_rfl) (fun _ _ _ h => h) rfl rfl rfl (fun _ _ => R_pure (by kernel_rfl)) (((((((((hst.pull 8).pull 8).pull 8).pull 8).pull 8).pull 8).pull 8).pull 8).pull 8) ?_
              refine Q_take (i := 2) (v := .bool (y33.2.2.1 != 0)) rfl (by kernel_rfl) (fun _ _ _ h => h) rfl rfl rfl (fun _ _ => R_pure (by kernel_rfl)) (((((((((hst.pull 8).pull 8).pull 8).pull 8).pull 8).pull 8).pull 8).pull 8).pull 8) ?_
              by_cases h : (y33.2.2.1 != 0) = true
              · have hr := (if_pos h).symm.trans hr
                refine C_keep ((113, .bool (y33.2.2.1 != 0)) :: [(0, I x1), (1, I x2), (2, S y28), (4, I (mn2 (mx2 x5 0) (y25.length : Int))), (14, .slice a12 y25.length c12), (16, pt p12 0), (17, I y33.2.2.1), (18, pt p13 0), (19, I y35.2.2.1), (111, I y33.2.2.1), (112, .bool (y33.2.2.1 != 0))]) rfl fun b => ?_
                refine C_bool h ?_
                refine Q_skip (i := 3) rfl (by kernel_rfl) (fun _ _ _ h => h) rfl rfl rfl (((((((((hst.pull 8).pull 8).pull 8).pull 8).pull 8).pull 8).pull 8).pull 8).pull 8) ?_
                refine Q_skip (i := 4) rfl (by kernel_rfl) (fun _ _ _ h => h) rfl rfl rfl (((((((((hst.pull 8).pull 8).pull 8).pull 8).pull 8).pull 8).pull 8).pull 8).pull 8) ?_
                refine Q_take (i := 5) (v := .bool true) rfl (by kernel_rfl) (fun _ _ _ h => h) rfl rfl rfl (fun _ _ => R_pure (by kernel_rfl)) (((((((((hst.pull 8).pull 8).pull 8).pull 8).pull 8).pull 8).pull 8).pull 8).pull 8) ?_
                refine Q_take (i := 6) (v := .bool true) rfl (by kernel_rfl) (fun _ _ _ h => h) rfl rfl rfl (fun _ _ => R_pure (by kernel_rfl)) (((((((((hst.pull 8).pull 8).pull 8).pull 8).pull 8).pull 8).pull 8).pull 8).pull 8) ?_
                refine Q_skip (i := 7) rfl (by kernel_rfl) (fun _ _ _ h => h) rfl rfl rfl (((((((((hst.pull 8).pull 8).pull 8).pull 8).pull 8).pull 8).pull 8).pull 8).pull 8) ?_
                refine Q_skip (i := 8) rfl (by kernel_rfl) (fun _ _ _ h => h) rfl rfl rfl (((((((((hst.pull 8).pull 8).pull 8).pull 8).pull 8).pull 8).pull 8).pull 8).pull 8) ?_
                refine Q_skip (i := 9) rfl (by kernel_rfl) (fun _ _ _ h => h) rfl rfl rfl (((((((((hst.pull 8).pull 8).pull 8).pull 8).pull 8).pull 8).pull 8).pull 8).pull 8) ?_
                refine Q_skip (i := 10) rfl (by kernel_rfl) (fun _ _ _ h => h) rfl rfl rfl (((((((((hst.pull 8).pull 8).pull 8).pull 8).pull 8).pull 8).pull 8).pull 8).pull 8) ?_
                refine Q_skip (i := 11) rfl (by kernel_rfl) (fun _ _ _ h => h) rfl rfl rfl (((((((((hst.pull 8).pull 8).pull 8).pull 8).pull 8).pull 8).pull 8).pull 8).pull 8) ?_
                refine Q_skip (i := 12) rfl (by kernel_rfl) (fun _ _ _ h => h) rfl rfl rfl (((((((((hst.pull 8).pull 8).pull 8).pull 8).pull 8).pull 8).pull 8).pull 8).pull 8) ?_
                refine Q_take (i := 13) (v := .bool true) rfl (by kernel_rfl) (fun _ _ _ h => h) rfl rfl rfl (fun _ _ => R_pure (by kernel_rfl)) (((((((((hst.pull 8).pull 8).pull 8).pull 8).pull 8).pull 8).pull 8).pull 8).pull 8) ?_
                refine Q_take (i := 14) (v := .bool true) rfl (by kernel_rfl) (fun _ _ _ h => h) rfl rfl rfl (fun _ _ => R_pure (by kernel_rfl)) (((((((((hst.pull 8).pull 8).pull 8).pull 8).pull 8).pull 8).pull 8).pull 8).pull 8) ?_
                refine Q_skip (i := 15) rfl (by kernel_rfl) (fun _ _ _ h => h) rfl rfl rfl (((((((((hst.pull 8).pull 8).pull 8).pull 8).pull 8).pull 8).pull 8).pull 8).pull 8) ?_
                refine Q_skip (i := 16) rfl (by kernel_rfl) (fun _ _ _ h => h) rfl rfl rfl (((((((((hst.pull 8).pull 8).pull 8).pull 8).pull 8).pull 8).pull 8).pull 8).pull 8) ?_
                refine Q_skip (i := 17) rfl (by kernel_rfl) (fun _ _ _ h => h) rfl rfl rfl (((((((((hst.pull 8).pull 8).pull 8).pull 8).pull 8).pull 8).pull 8).pull 8).pull 8) ?_
                refine Q_skip (i := 18) rfl (by kernel_rfl) (fun _ _ _ h => h) rfl rfl rfl (((((((((hst.pull 8).pull 8).pull 8).pull 8).pull 8).pull 8).pull 8).pull 8).pull 8) ?_
                refine Q_take (i := 19) (v := .bool true) rfl (by kernel_rfl) (fun _ _ _ h => h) rfl rfl rfl (fun _ _ => R_pure (by kernel_rfl)) (((((((((hst.pull 8).pull 8).pull 8).pull 8).pull 8).pull 8).pull 8).pull 8).pull 8) ?_
                refine Q_take (i := 20) (v := .bool true) rfl (by kernel_rfl) (fun _ _ _ h => h) rfl rfl rfl (fun _ _ => R_pure (by kernel_rfl)) (((((((((hst.pull 8).pull 8).pull 8).pull 8).pull 8).pull 8).pull 8).pull 8).pull 8) ?_
                refine Q_skip (i := 21) rfl (by kernel_rfl) (fun _ _ _ h => h) rfl rfl rfl (((((((((hst.pull 8).pull 8).pull 8).pull 8).pull 8).pull 8).pull 8).pull 8).pull 8) ?_
                refine Q_skip (i := 22) rfl (by kernel_rfl) (fun _ _ _ h => h) rfl rfl rfl (((((((((hst.pull 8).pull 8).pull 8).pull 8).pull 8).pull 8).pull 8).pull 8).pull 8) ?_
                refine Q_skip (i := 23) rfl (by kernel_rfl) (fun _ _ _ h => h) rfl rfl rfl (((((((((hst.pull 8).pull 8).pull 8).pull 8).pull 8).pull 8).pull 8).pull 8).pull 8) ?_
                refine Q_skip (i := 24) rfl (by kernel_rfl) (fun _ _ _ h => h) rfl rfl rfl (((((((((hst.pull 8).pull 8).pull 8).pull 8).pull 8).pull 8).pull 8).pull 8).pull 8) ?_
                refine Q_take (i := 25) (v := .bool true) rfl (by kernel_rfl) (fun _ _ _ h => h) rfl rfl rfl (fun _ _ => R_pure (by kernel_rfl)) (((((((((hst.pull 8).pull 8).pull 8).pull 8).pull 8).pull 8).pull 8).pull 8).pull 8) ?_
                refine Q_take (i := 26) (v := .bool true) rfl (by kernel_rfl) (fun _ _ _ h => h) rfl rfl rfl (fun _ _ => R_pure (by kernel_rfl)) (((((((((hst.pull 8).pull 8).pull 8).pull 8).pull 8).pull 8).pull 8).pull 8).pull 8) ?_
                refine Q_skip (i := 27) rfl (by kernel_rfl) (fun _ _ _ h => h) rfl rfl rfl (((((((((hst.pull 8).pull 8).pull 8).pull 8).pull 8).pull 8).pull 8).pull 8).pull 8) ?_
                refine Q_skip (i := 28) rfl (by kernel_rfl) (fun _ _ _ h => h) rfl rfl rfl (((((((((hst.pull 8).pull 8).pull 8).pull 8).pull 8).pull 8).pull 8).pull 8).pull 8) ?_
                refine Q_skip (i := 29) rfl (by kernel_rfl) (fun _ _ _ h => h) rfl rfl rfl (((((((((hst.pull 8).pull 8).pull 8).pull 8).pull 8).pull 8).pull 8).pull 8).pull 8) ?_
                refine Q_skip (i := 30) rfl (by kernel_rfl) (fun _ _ _ h => h) rfl rfl rfl (((((((((hst.pull 8).pull 8).pull 8).pull 8).pull 8).pull 8).pull 8).pull 8).pull 8) ?_
                refine Q_take (i := 31) (v := .bool true) rfl (by kernel_rfl) (fun _ _ _ h => h) rfl rfl rfl (fun _ _ => R_pure (by kernel_rfl)) (((((((((hst.pull 8).pull 8).pull 8).pull 8).pull 8).pull 8).pull 8).pull 8).pull 8) ?_
                refine Q_take (i := 32) (v := .bool true) rfl (by kernel_rfl) (fun _ _ _ h => h) rfl rfl rfl (fun _ _ => R_pure (by kernel_rfl)) (((((((((hst.pull 8).pull 8).pull 8).pull 8).pull 8).pull 8).pull 8).pull 8).pull 8) ?_
                refine Q_skip (i := 33) rfl (by kernel_rfl) (fun _ _ _ h => h) rfl rfl rfl (((((((((hst.pull 8).pull 8).pull 8).pull 8).pull 8).pull 8).pull 8).pull 8).pull 8) ?_
                refine Q_skip (i := 34) rfl (by kernel_rfl) (fun _ _ _ h => h) rfl rfl rfl (((((((((hst.pull 8).pull 8).pull 8).pull 8).pull 8).pull 8).pull 8).pull 8).pull 8) ?_
                refine Q_skip (i := 35) rfl (by kernel_rfl) (fun _ _ _ h => h) rfl rfl rfl (((((((((hst.pull 8).pull 8).pull 8).pull 8).pull 8).pull 8).pull 8).pull 8).pull 8) ?_
                refine Q_skip (i := 36) rfl (by kernel_rfl) (fun _ _ _ h => h) rfl rfl rfl (((((((((hst.pull 8).pull 8).pull 8).pull 8).pull 8).pull 8).pull 8).pull 8).pull 8) ?_
                refine Q_take (i := 37) (v := .bool true) rfl (by kernel_rfl) (fun _ _ _ h => h) rfl rfl rfl (fun _ _ => R_pure (by kernel_rfl)) (((((((((hst.pull 8).pull 8).pull 8).pull 8).pull 8).pull 8).pull 8).pull 8).pull 8) ?_
                refine Q_take (i := 38) (v := .bool true) rfl (by kernel_rfl) (fun _ _ _ h => h) rfl rfl rfl (fun _ _ => R_pure (by kernel_rfl)) (((((((((hst.pull 8).pull 8).pull 8).pull 8).pull 8).pull 8).pull 8).pull 8).pull 8) ?_
                refine Q_skip (i := 39) rfl (by kernel_rfl) (fun _ _ _ h => h) rfl rfl rfl (((((((((hst.pull 8).pull 8).pull 8).pull 8).pull 8).pull 8).pull 8).pull 8).pull 8) ?_
                refine Q_skip (i := 40) rfl (by kernel_rfl) (fun _ _ _ h => h) rfl rfl rfl (((((((((hst.pull 8).pull 8).pull 8).pull 8).pull 8).pull 8).pull 8).pull 8).pull 8) ?_
                refine Q_skip (i := 41) rfl (by kernel_rfl) (fun _ _ _ h => h) rfl rfl rfl (((((((((hst.pull 8).pull 8).pull 8).pull 8).pull 8).pull 8).pull 8).pull 8).pull 8) ?_
                refine Q_skip (i := 42) rfl (by kernel_rfl) (fun _ _ _ h => h) rfl rfl rfl (((((((((hst.pull 8).pull 8).pull 8).pull 8).pull 8).pull 8).pull 8).pull 8).pull 8) ?_
                refine Q_skip (i := 43) rfl (by kernel_rfl) (fun _ _ _ h => h) rfl rfl rfl (((((((((hst.pull 8).pull 8).pull 8).pull 8).pull 8).pull 8).pull 8).pull 8).pull 8) ?_
                refine Q_skip (i := 44) rfl (by kernel_rfl) (fun _ _ _ h => h) rfl rfl rfl (((((((((hst.pull 8).pull 8).pull 8).pull 8).pull 8).pull 8).pull 8).pull 8).pull 8) ?_
                refine Q_skip (i := 45) rfl (by kernel_rfl) (fun _ _ _ h => h) rfl rfl rfl (((((((((hst.pull 8).pull 8).pull 8).pull 8).pull 8).pull 8).pull 8).pull 8).pull 8) ?_
                refine Q_skip (i := 46) rfl (by kernel_rfl) (fun _ _ _ h => h) rfl rfl rfl (((((((((hst.pull 8).pull 8).pull 8).pull 8).pull 8).pull 8).pull 8).pull 8).pull 8) ?_
                refine Q_take (i := 47) (v := .bool true) rfl (by kernel_rfl) (fun _ _ _ h => h) rfl rfl rfl (fun _ _ => R_pure (by kernel_rfl)) (((((((((hst.pull 8).pull 8).pull 8).pull 8).pull 8).pull 8).pull 8).pull 8).pull 8) ?_
                refine wpG_done (by kernel_rfl) ?_ _
                refine C_keepQ [(4, I (mn2 (mx2 x5 0) (y25.length : Int))), (14, .slice a12 y25.length c12), (16, pt p12 0), (158, .bool true)] rfl fun b => ?_
                refine th_n ?_
                obtain rfl := Option.some.inj hr
                have hst := (((((((((hst.pull 8).pull 8).pull 8).pull 8).pull 8).pull 8).pull 8).pull 8).pull 8)
                exact (kpX [(4, I (mn2 (mx2 x5 0) (y25.length : Int))), (14, .slice a12 y25.length c12), (16, pt p12 0), (158, .bool true)] rfl hst)
              · have hr := (if_neg h).symm.trans hr
                refine C_keep ((113, .bool (y33.2.2.1 != 0)) :: [(0, I x1), (1, I x2), (2, S y28), (4, I (mn2 (mx2 x5 0) (y25.length : Int))), (14, .slice a12 y25.length c12), (16, pt p12 0), (17, I y33.2.2.1), (18, pt p13 0), (19, I y35.2.2.1), (111, I y33.2.2.1), (112, .bool (y33.2.2.1 != 0))]) rfl fun b => ?_
                refine C_bool (eq_false_of_ne_true h) ?_
                refine Q_take (i := 3) (v := I y35.2.2.1) rfl (by kernel_rfl) (fun _ _ _ h => h) rfl rfl rfl (fun _ _ => R_pure (by kernel_rfl)) (((((((((hst.pull 8).pull 8).pull 8).pull 8).pull 8).pull 8).pull 8).pull 8).pull 8) ?_
                refine Q_take (i := 4) (v := .bool (y35.2.2.1 != 0)) rfl (by kernel_rfl) (fun _ _ _ h => h) rfl rfl rfl (fun _ _ => R_pure (by kernel_rfl)) (((((((((hst.pull 8).pull 8).pull 8).pull 8).pull 8).pull 8).pull 8).pull 8).pull 8) ?_
                refine Q_take (i := 5) (v := .bool (y35.2.2.1 != 0)) rfl (by kernel_rfl) (fun _ _ _ h => h) rfl rfl rfl (fun _ _ => R_pure (by kernel_rfl)) (((((((((hst.pull 8).pull 8).pull 8).pull 8).pull 8).pull 8).pull 8).pull 8).pull 8) ?_
                refine Q_take (i := 6) (v := .bool (y35.2.2.1 != 0)) rfl (by kernel_rfl) (fun _ _ _ h => h) rfl rfl rfl (fun _ _ => R_pure (by kernel_rfl)) (((((((((hst.pull 8).pull 8).pull 8).pull 8).pull 8).pull 8).pull 8).pull 8).pull 8) ?_
                by_cases h : (y35.2.2.1 != 0) = true
                · have hr := (if_pos h).symm.trans hr
                  refine C_keep ((117, .bool (y35.2.2.1 != 0)) :: [(0, I x1), (1, I x2), (2, S y28), (4, I (mn2 (mx2 x5 0) (y25.length : Int))), (14, .slice a12 y25.length c12), (16, pt p12 0), (17, I y33.2.2.1), (18, pt p13 0), (19, I y35.2.2.1), (111, I y33.2.2.1), (112, .bool (y33.2.2.1 != 0)), (113, .bool false), (114, I y35.2.2.1), (115, .bool (y35.2.2.1 != 0)), (116, .bool (y35.2.2.1 != 0))]) rfl fun b => ?_
                  refine C_bool h ?_
                  refine Q_skip (i := 7) rfl (by kernel_rfl) (fun _ _ _ h => h) rfl rfl rfl (((((((((hst.pull 8).pull 8).pull 8).pull 8).pull 8).pull 8).pull 8).pull 8).pull 8) ?_
                  refine Q_skip (i := 8) rfl (by kernel_rfl) (fun _ _ _ h => h) rfl rfl rfl (((((((((hst.pull 8).pull 8).pull 8).pull 8).pull 8).pull 8).pull 8).pull 8).pull 8) ?_
                  refine Q_skip (i := 9) rfl (by kernel_rfl) (fun _ _ _ h => h) rfl rfl rfl (((((((((hst.pull 8).pull 8).pull 8).pull 8).pull 8).pull 8).pull 8).pull 8).pull 8) ?_
                  refine Q_skip (i := 10) rfl (by kernel_rfl) (fun _ _ _ h => h) rfl rfl rfl (((((((((hst.pull 8).pull 8).pull 8).pull 8).pull 8).pull 8).pull 8).pull 8).pull 8) ?_
                  refine Q_skip (i := 11) rfl (by kernel_rfl) (fun _ _ _ h => h) rfl rfl rfl (((((((((hst.pull 8).pull 8).pull 8).pull 8).pull 8).pull 8).pull 8).pull 8).pull 8) ?_
                  refine Q_skip (i := 12) rfl (by kernel_rfl) (fun _ _ _ h => h) rfl rfl rfl (((((((((hst.pull 8).pull 8).pull 8).pull 8).pull 8).pull 8).pull 8).pull 8).pull 8) ?_
                  refine Q_take (i := 13) (v := .bool true) rfl (by kernel_rfl) (fun _ _ _ h => h) rfl rfl rfl (fun _ _ => R_pure (by kernel_rfl)) (((((((((hst.pull 8).pull 8).pull 8).pull 8).pull 8).pull 8).pull 8).pull 8).pull 8) ?_
                  refine Q_take (i := 14) (v := .bool true) rfl (by kernel_rfl) (fun _ _ _ h => h) rfl rfl rfl (fun _ _ => R_pure (by kernel_rfl)) (((((((((hst.pull 8).pull 8).pull 8).pull 8).pull 8).pull 8).pull 8).pull 8).pull 8) ?_
                  refine Q_skip (i := 15) rfl (by kernel_rfl) (fun _ _ _ h => h) rfl rfl rfl (((((((((hst.pull 8).pull 8).pull 8).pull 8).pull 8).pull 8).pull 8).pull 8).pull 8) ?_
                  refine Q_skip (i := 16) rfl (by kernel_rfl) (fun _ _ _ h => h) rfl rfl rfl (((((((((hst.pull 8).pull 8).pull 8).pull 8).pull 8).pull 8).pull 8).pull 8).pull 8) ?_
                  refine Q_skip (i := 17) rfl (by kernel_rfl) (fun _ _ _ h => h) rfl rfl rfl (((((((((hst.pull 8).pull 8).pull 8).pull 8).pull 8).pull 8).pull 8).pull 8).pull 8) ?_
                  refine Q_skip (i := 18) rfl (by kernel_rfl) (fun _ _ _ h => h) rfl rfl rfl (((((((((hst.pull 8).pull 8).pull 8).pull 8).pull 8).pull 8).pull 8).pull 8).pull 8) ?_
                  refine Q_take (i := 19) (v := .bool true) rfl (by kernel_rfl) (fun _ _ _ h => h) rfl rfl rfl (fun _ _ => R_pure (by kernel_rfl)) (((((((((hst.pull 8).pull 8).pull 8).pull 8).pull 8).pull 8).pull 8).pull 8).pull 8) ?_
                  refine Q_take (i := 20) (v := .bool true) rfl (by kernel_rfl) (fun _ _ _ h => h) rfl rfl rfl (fun _ _ => R_pure (by kernel_rfl)) (((((((((hst.pull 8).pull 8).pull 8).pull 8).pull 8).pull 8).pull 8).pull 8).pull 8) ?_
                  refine Q_skip (i := 21) rfl (by kernel_rfl) (fun _ _ _ h => h) rfl rfl rfl (((((((((hst.pull 8).pull 8).pull 8).pull 8).pull 8).pull 8).pull 8).pull 8).pull 8) ?_
                  refine Q_skip (i := 22) rfl (by kernel_rfl) (fun _ _ _ h => h) rfl rfl rfl (((((((((hst.pull 8).pull 8).pull 8).pull 8).pull 8).pull 8).pull 8).pull 8).pull 8) ?_
                  refine Q_skip (i := 23) rfl (by kernel_rfl) (fun _ _ _ h => h) rfl rfl rfl (((((((((hst.pull 8).pull 8).pull 8).pull 8).pull 8).pull 8).pull 8).pull 8).pull 8) ?_
                  refine Q_skip (i := 24) rfl (by kernel_rfl) (fun _ _ _ h => h) rfl rfl rfl (((((((((hst.pull 8).pull 8).pull 8).pull 8).pull 8).pull 8).pull 8).pull 8).pull 8) ?_
                  refine Q_take (i := 25) (v := .bool true) rfl (by kernel_rfl) (fun _ _ _ h => h) rfl rfl rfl (fun _ _ => R_pure (by kernel_rfl)) (((((((((hst.pull 8).pull 8).pull 8).pull 8).pull 8).pull 8).pull 8).pull 8).pull 8) ?_
                  refine Q_take (i := 26) (v := .bool true) rfl (by kernel_rfl) (fun _ _ _ h => h) rfl rfl rfl (fun _ _ => R_pure (by kernel_rfl)) (((((((((hst.pull 8).pull 8).pull 8).pull 8).pull 8).pull 8).pull 8).pull 8).pull 8) ?_
                  refine Q_skip (i := 27) rfl (by kernel_rfl) (fun _ _ _ h => h) rfl rfl rfl (((((((((hst.pull 8).pull 8).pull 8).pull 8).pull 8).pull 8).pull 8).pull 8).pull 8) ?_
                  refine Q_skip (i := 28) rfl (by kernel_rfl) (fun _ _ _ h => h) rfl rfl rfl (((((((((hst.pull 8).pull 8).pull 8).pull 8).pull 8).pull 8).pull 8).pull 8).pull 8) ?_
                  refine Q_skip (i := 29) rfl (by kernel_rfl) (fun _ _ _ h => h) rfl rfl rfl (((((((((hst.pull 8).pull 8).pull 8).pull 8).pull 8).pull 8).pull 8).pull 8).pull 8) ?_
                  refine Q_skip (i := 30) rfl (by kernel_rfl) (fun _ _ _ h => h) rfl rfl rfl (((((((((hst.pull 8).pull 8).pull 8).pull 8).pull 8).pull 8).pull 8).pull 8).pull 8) ?_
                  refine Q_take (i := 31) (v := .bool true) rfl (by kernel_rfl) (fun _ _ _ h => h) rfl rfl rfl (fun _ _ => R_pure (by kernel_rfl)) (((((((((hst.pull 8).pull 8).pull 8).pull 8).pull 8).pull 8).pull 8).pull 8).pull 8) ?_
                  refine Q_take (i := 32) (v := .bool true) rfl (by kernel_rfl) (fun _ _ _ h => h) rfl rfl rfl (fun _ _ => R_pure (by kernel_rfl)) (((((((((hst.pull 8).pull 8).pull 8).pull 8).pull 8).pull 8).pull 8).pull 8).pull 8) ?_
                  refine Q_skip (i := 33) rfl (by kernel_rfl) (fun _ _ _ h => h) rfl rfl rfl (((((((((hst.pull 8).pull 8).pull 8).pull 8).pull 8).pull 8).pull 8).pull 8).pull 8) ?_
                  refine Q_skip (i := 34) rfl (by kernel_rfl) (fun _ _ _ h => h) rfl rfl rfl (((((((((hst.pull 8).pull 8).pull 8).pull 8).pull 8).pull 8).pull 8).pull 8).pull 8) ?_
                  refine Q_skip (i := 35) rfl (by kernel_rfl) (fun _ _ _ h => h) rfl rfl rfl (((((((((hst.pull 8).pull 8).pull 8).pull 8).pull 8).pull 8).pull 8).pull 8).pull 8) ?_
                  refine Q_skip (i := 36) rfl (by kernel_rfl) (fun _ _ _ h => h) rfl rfl rfl (((((((((hst.pull 8).pull 8).pull 8).pull 8).pull 8).pull 8).pull 8).pull 8).pull 8) ?_
                  refine Q_take (i := 37) (v := .bool true) rfl (by kernel_rfl) (fun _ _ _ h => h) rfl rfl rfl (fun _ _ => R_pure (by kernel_rfl)) (((((((((hst.pull 8).pull 8).pull 8).pull 8).pull 8).pull 8).pull 8).pull 8).pull 8) ?_
                  refine Q_take (i := 38) (v := .bool true) rfl (by kernel_rfl) (fun _ _ _ h => h) rfl rfl rfl (fun _ _ => R_pure (by kernel_rfl)) (((((((((hst.pull 8).pull 8).pull 8).pull 8).pull 8).pull 8).pull 8).pull 8).pull 8) ?_
                  refine Q_skip (i := 39) rfl (by kernel_rfl) (fun _ _ _ h => h) rfl rfl rfl (((((((((hst.pull 8).pull 8).pull 8).pull 8).pull 8).pull 8).pull 8).pull 8).pull 8) ?_
                  refine Q_skip (i := 40) rfl (by kernel_rfl) (fun _ _ _ h => h) rfl rfl rfl (((((((((hst.pull 8).pull 8).pull 8).pull 8).pull 8).pull 8).pull 8).pull 8).pull 8) ?_
                  refine Q_skip (i := 41) rfl (by kernel_rfl) (fun _ _ _ h => h) rfl rfl rfl (((((((((hst.pull 8).pull 8).pull 8).pull 8).pull 8).pull 8).pull 8).pull 8).pull 8) ?_
                  refine Q_skip (i := 42) rfl (by kernel_rfl) (fun _ _ _ h => h) rfl rfl rfl (((((((((hst.pull 8).pull 8).pull 8).pull 8).pull 8).pull 8).pull 8).pull 8).pull 8) ?_
                  refine Q_skip (i := 43) rfl (by kernel_rfl) (fun _ _ _ h => h) rfl rfl rfl (((((((((hst.pull 8).pull 8).pull 8).pull 8).pull 8).pull 8).pull 8).pull 8).pull 8) ?_
                  refine Q_skip (i := 44) rfl (by kernel_rfl) (fun _ _ _ h => h) rfl rfl rfl (((((((((hst.pull 8).pull 8).pull 8).pull 8).pull 8).pull 8).pull 8).pull 8).pull 8) ?_
                  refine Q_skip (i := 45) rfl (by kernel_rfl) (fun _ _ _ h => h) rfl rfl rfl (((((((((hst.pull 8).pull 8).pull 8).pull 8).pull 8).pull 8).pull 8).pull 8).pull 8) ?_
                  refine Q_skip (i := 46) rfl (by kernel_rfl) (fun _ _ _ h => h) rfl rfl rfl (((((((((hst.pull 8).pull 8).pull 8).pull 8).pull 8).pull 8).pull 8).pull 8).pull 8) ?_
                  refine Q_take (i := 47) (v := .bool true) rfl (by kernel_rfl) (fun _ _ _ h => h) rfl rfl rfl (fun _ _ => R_pure (by kernel_rfl)) (((((((((hst.pull 8).pull 8).pull 8).pull 8).pull 8).pull 8).pull 8).pull 8).pull 8) ?_
                  refine wpG_done (by kernel_rfl) ?_ _
                  refine C_keepQ [(4, I (mn2 (mx2 x5 0) (y25.length : Int))), (14, .slice a12 y25.length c12), (16, pt p12 0), (158, .bool true)] rfl fun b => ?_
                  refine th_n ?_
                  obtain rfl := Option.some.inj hr
                  have hst := (((((((((hst.pull 8).pull 8).pull 8).pull 8).pull 8).pull 8).pull 8).pull 8).pull 8)
                  exact (kpX [(4, I (mn2 (mx2 x5 0) (y25.length : Int))), (14, .slice a12 y25.length c12), (16, pt p12 0), (158, .bool true)] rfl hst)
                · have hr := (if_neg h).symm.trans hr
                  refine C_keep ((117, .bool (y35.2.2.1 != 0)) :: [(0, I x1), (1, I x2), (2, S y28), (4, I (mn2 (mx2 x5 0) (y25.length : Int))), (14, .slice a12 y25.length c12), (16, pt p12 0), (17, I y33.2.2.1), (18, pt p13 0), (19, I y35.2.2.1), (111, I y33.2.2.1), (112, .bool (y33.2.2.1 != 0)), (113, .bool false), (114, I y35.2.2.1), (115, .bool (y35.2.2.1 != 0)), (116, .bool (y35.2.2.1 != 0))]) rfl fun b => ?_
                  refine C_bool (eq_false_of_ne_true h) ?_
                  refine Q_take (i := 7) (v := .agg #[I y33.2.1.Term, I y33.2.1.Vote, I y33.2.1.Base, I y33.2.1.BaseTerm, S y33.2.1.Snap, .slice a15 y33.1.length c15]) rfl (by kernel_rfl) (fun _ _ _ h => h) rfl rfl rfl (fun w hst => R_load (hst.pull 6) rfl rfl) (((((((((hst.pull 8).pull 8).pull 8).pull 8).pull 8).pull 8).pull 8).pull 8).pull 8) ?_
                  refine Q_take (i := 9) (v := .agg #[I y35.2.1.Term, I y35.2.1.Vote, I y35.2.1.Base, I y35.2.1.BaseTerm, S y35.2.1.Snap, .slice a16 y35.1.length c16]) rfl (by kernel_rfl) (fun _ _ _ h => h) rfl rfl rfl (fun w hst => R_load (hst.pull 2) rfl rfl) (((((((((hst.pull 8).pull 8).pull 8).pull 8).pull 8).pull 8).pull 8).pull 8).pull 8) ?_
                  obtain ⟨y37, hy37, hr⟩ := bnd hr
                  refine Q_one (i := 8) (by kernel_rfl) rfl rfl (O_call (vs := #[.agg #[I y33.2.1.Term, I y33.2.1.Vote, I y33.2.1.Base, I y33.2.1.BaseTerm, S y33.2.1.Snap, .slice a15 y33.1.length c15]]) Try.call34 (by kernel_rfl) (glacierlaw09_Told_ok k (T_term_State.mk y33.2.1.Term y33.2.1.Vote y33.2.1.Base y33.2.1.BaseTerm y33.2.1.Snap y33.1) a15 c15 y37 hst hy37 fun a17 c17 w hst => ?_))
                  refine CK_ret rfl ?_
                  refine ⟨((((((((((hst.pull 9).pull 9).pull 9).pull 9).pull 9).pull 9).pull 9).pull 9).pull 9).cut 9 1), ?_⟩
                  obtain ⟨y38, hy38, hr⟩ := bnd hr
                  refine Q_one (i := 10) (by kernel_rfl) rfl rfl (O_call (vs := #[.agg #[I y35.2.1.Term, I y35.2.1.Vote, I y35.2.1.Base, I y35.2.1.BaseTerm, S y35.2.1.Snap, .slice a16 y35.1.length c16]]) Try.call34 (by kernel_rfl) (glacierlaw09_Told_ok k (T_term_State.mk y35.2.1.Term y35.2.1.Vote y35.2.1.Base y35.2.1.BaseTerm y35.2.1.Snap y35.1) a16 c16 y38 (hst.pull 2) hy38 fun a18 c18 w hst => ?_))
                  refine CK_ret rfl ?_
                  refine ⟨((((((((((hst.pull 10).pull 10).pull 10).pull 10).pull 10).pull 10).pull 10).pull 8).pull 10).cut 9 2), ?_⟩
                  obtain ⟨y39, hy39, hr⟩ := bnd hr
                  have hst := osl_freeze (hst.pull 2)
                  have hst := osl_freeze (hst.pull 1)
                  refine Q_one (i := 11) (by kernel_rfl) rfl rfl (O_call (vs := #[.agg #[I y37.2.Term, I y37.2.Vote, I y37.2.Base, I y37.2.BaseTerm, S y37.2.Snap, .slice a17 y37.1.length c17], .agg #[I y38.2.Term, I y38.2.Vote, I y38.2.Base, I y38.2.BaseTerm, S y38.2.Snap, .slice a18 y38.1.length c18]]) Try.call33 (by kernel_rfl) (glacierref09_Same_ok k (T_glacierref09_State.mk y37.2.Term y37.2.Vote y37.2.Base y37.2.BaseTerm y37.2.Snap y37.1) (T_glacierref09_State.mk y38.2.Term y38.2.Vote y38.2.Base y38.2.BaseTerm y38.2.Snap y38.1) a17 c17 a18 c18 y39 (hst.pull 1) hy39 fun w hst => ?_))
                  refine CK_ret rfl ?_
                  refine ⟨((((((((((hst.pull 10).pull 10).pull 10).pull 10).pull 10).pull 10).pull 10).pull 9).pull 10).cut 9 2), ?_⟩
                  refine Q_take (i := 12) (v := .bool (!y39)) rfl (by kernel_rfl) (fun _ _ _ h => h) rfl rfl rfl (fun _ _ => R_pure (by kernel_rfl)) ((((((((((hst.pull 10).pull 10).pull 10).pull 10).pull 10).pull 10).pull 10).pull 9).pull 10).cut 9 2) ?_
                  refine Q_take (i := 13) (v := .bool (!y39)) rfl (by kernel_rfl) (fun _ _ _ h => h) rfl rfl rfl (fun _ _ => R_pure (by kernel_rfl)) ((((((((((hst.pull 10).pull 10).pull 10).pull 10).pull 10).pull 10).pull 10).pull 9).pull 10).cut 9 2) ?_
                  refine Q_take (i := 14) (v := .bool (!y39)) rfl (by kernel_rfl) (fun _ _ _ h => h) rfl rfl rfl (fun _ _ => R_pure (by kernel_rfl)) ((((((((((hst.pull 10).pull 10).pull 10).pull 10).pull 10).pull 10).pull 10).pull 9).pull 10).cut 9 2) ?_
                  by_cases h : (!y39) = true
                  · have hr := (if_pos h).symm.trans hr
                    refine C_keep ((125, .bool (!y39)) :: [(0, I x1), (1, I x2), (2, S y28), (4, I (mn2 (mx2 x5 0) (y25.length : Int))), (14, .slice a12 y25.length c12), (16, pt p12 0), (17, I y33.2.2.1), (18, pt p13 0), (19, I y35.2.2.1), (111, I y33.2.2.1), (112, .bool (y33.2.2.1 != 0)), (113, .bool false), (114, I y35.2.2.1), (115, .bool (y35.2.2.1 != 0)), (116, .bool (y35.2.2.1 != 0)), (117, .bool false), (118, .agg #[I y33.2.1.Term, I y33.2.1.Vote, I y33.2.1.Base, I y33.2.1.BaseTerm, S y33.2.1.Snap, .slice a15 y33.1.length c15]), (119, .agg #[I y37.2.Term, I y37.2.Vote, I y37.2.Base, I y37.2.BaseTerm, S y37.2.Snap, .slice a17 y37.1.length c17]), (120, .agg #[I y35.2.1.Term, I y35.2.1.Vote, I y35.2.1.Base, I y35.2.1.BaseTerm, S y35.2.1.Snap, .slice a16 y35.1.length c16]), (121, .agg #[I y38.2.Term, I y38.2.Vote, I y38.2.Base, I y38.2.BaseTerm, S y38.2.Snap, .slice a18 y38.1.length c18]), (122, .bool y39), (123, .bool (!y39)), (124, .bool (!y39))]) rfl fun b => ?_
                    refine C_bool h ?_
                    refine Q_skip (i := 15) rfl (by kernel_rfl) (fun _ _ _ h => h) rfl rfl rfl ((((((((((hst.pull 10).pull 10).pull 10).pull 10).pull 10).pull 10).pull 10).pull 9).pull 10).cut 9 2) ?_
                    refine Q_skip (i := 16) rfl (by kernel_rfl) (fun _ _ _ h => h) rfl rfl rfl ((((((((((hst.pull 10).pull 10).pull 10).pull 10).pull 10).pull 10).pull 10).pull 9).pull 10).cut 9 2) ?_
                    refine Q_skip (i := 17) rfl (by kernel_rfl) (fun _ _ _ h => h) rfl rfl rfl ((((((((((hst.pull 10).pull 10).pull 10).pull 10).pull 10).pull 10).pull 10).pull 9).pull 10).cut 9 2) ?_
                    refine Q_skip (i := 18) rfl (by kernel_rfl) (fun _ _ _ h => h) rfl rfl rfl ((((((((((hst.pull 10).pull 10).pull 10).pull 10).pull 10).pull 10).pull 10).pull 9).pull 10).cut 9 2) ?_
                    refine Q_take (i := 19) (v := .bool true) rfl (by kernel_rfl) (fun _ _ _ h => h) rfl rfl rfl (fun _ _ => R_pure (by kernel_rfl)) ((((((((((hst.pull 10).pull 10).pull 10).pull 10).pull 10).pull 10).pull 10).pull 9).pull 10).cut 9 2) ?_
                    refine Q_take (i := 20) (v := .bool true) rfl (by kernel_rfl) (fun _ _ _ h => h) rfl rfl rfl (fun _ _ => R_pure (by kernel_rfl)) ((((((((((hst.pull 10).pull 10).pull 10).pull 10).pull 10).pull 10).pull 10).pull 9).pull 10).cut 9 2) ?_
                    refine Q_skip (i := 21) rfl (by kernel_rfl) (fun _ _ _ h => h) rfl rfl rfl ((((((((((hst.pull 10).pull 10).pull 10).pull 10).pull 10).pull 10).pull 10).pull 9).pull 10).cut 9 2) ?_
                    refine Q_skip (i := 22) rfl (by kernel_rfl) (fun _ _ _ h => h) rfl rfl rfl ((((((((((hst.pull 10).pull 10).pull 10).pull 10).pull 10).pull 10).pull 10).pull 9).pull 10).cut 9 2) ?_
                    refine Q_skip (i := 23) rfl (by kernel_rfl) (fun _ _ _ h => h) rfl rfl rfl ((((((((((hst.pull 10).pull 10).pull 10).pull 10).pull 10).pull 10).pull 10).pull 9).pull 10).cut 9 2) ?_
                    refine Q_skip (i := 24) rfl (by kernel_rfl) (fun _ _ _ h => h) rfl rfl rfl ((((((((((hst.pull 10).pull 10).pull 10).pull 10).pull 10).pull 10).pull 10).pull 9).pull 10).cut 9 2) ?_
                    refine Q_take (i := 25) (v := .bool true) rfl (by kernel_rfl) (fun _ _ _ h => h) rfl rfl rfl (fun _ _ => R_pure (by kernel_rfl)) ((((((((((hst.pull 10).pull 10).pull 10).pull 10).pull 10).pull 10).pull 10).pull 9).pull 10).cut 9 2) ?_
                    refine Q_take (i := 26) (v := .bool true) rfl (by kernel_rfl) (fun _ _ _ h => h) rfl rfl rfl (fun _ _ => R_pure (by kernel_rfl)) ((((((((((hst.pull 10).pull 10).pull 10).pull 10).pull 10).pull 10).pull 10).pull 9).pull 10).cut 9 2) ?_
                    refine Q_skip (i := 27) rfl (by kernel_rfl) (fun _ _ _ h => h) rfl rfl rfl ((((((((((hst.pull 10).pull 10).pull 10).pull 10).pull 10).pull 10).pull 10).pull 9).pull 10).cut 9 2) ?_
                    refine Q_skip (i := 28) rfl (by kernel_rfl) (fun _ _ _ h => h) rfl rfl rfl ((((((((((hst.pull 10).pull 10).pull 10).pull 10).pull 10).pull 10).pull 10).pull 9).pull 10).cut 9 2) ?_
                    refine Q_skip (i := 29) rfl (by kernel_rfl) (fun _ _ _ h => h) rfl rfl rfl ((((((((((hst.pull 10).pull 10).pull 10).pull 10).pull 10).pull 10).pull 10).pull 9).pull 10).cut 9 2) ?_
                    refine Q_skip (i := 30) rfl (by kernel_rfl) (fun _ _ _ h => h) rfl rfl rfl ((((((((((hst.pull 10).pull 10).pull 10).pull 10).pull 10).pull 10).pull 10).pull 9).pull 10).cut 9 2) ?_
                    refine Q_take (i := 31) (v := .bool true) rfl (by kernel_rfl) (fun _ _ _ h => h) rfl rfl rfl (fun _ _ => R_pure (by kernel_rfl)) ((((((((((hst.pull 10).pull 10).pull 10).pull 10).pull 10).pull 10).pull 10).pull 9).pull 10).cut 9 2) ?_
                    refine Q_take (i := 32) (v := .bool true) rfl (by kernel_rfl) (fun _ _ _ h => h) rfl rfl rfl (fun _ _ => R_pure (by kernel_rfl)) ((((((((((hst.pull 10).pull 10).pull 10).pull 10).pull 10).pull 10).pull 10).pull 9).pull 10).cut 9 2) ?_
                    refine Q_skip (i := 33) rfl (by kernel_rfl) (fun _ _ _ h => h) rfl rfl rfl ((((((((((hst.pull 10).pull 10).pull 10).pull 10).pull 10).pull 10).pull 10).pull 9).pull 10).cut 9 2) ?_
                    refine Q_skip (i := 34) rfl (by kernel_rfl) (fun _ _ _ h => h) rfl rfl rfl ((((((((((hst.pull 10).pull 10).pull 10).pull 10).pull 10).pull 10).pull 10).pull 9).pull 10).cut 9 2) ?_
                    refine Q_skip (i := 35) rfl (by kernel_rfl) (fun _ _ _ h => h) rfl rfl rfl ((((((((((hst.pull 10).pull 10).pull 10).pull 10).pull 10).pull 10).pull 10).pull 9).pull 10).cut 9 2) ?_
                    refine Q_skip (i := 36) rfl (by kernel_rfl) (fun _ _ _ h => h) rfl rfl rfl ((((((((((hst.pull 10).pull 10).pull 10).pull 10).pull 10).pull 10).pull 10).pull 9).pull 10).cut 9 2) ?_
                    refine Q_take (i := 37) (v := .bool true) rfl (by kernel_rfl) (fun _ _ _ h => h) rfl rfl rfl (fun _ _ => R_pure (by kernel_rfl)) ((((((((((hst.pull 10).pull 10).pull 10).pull 10).pull 10).pull 10).pull 10).pull 9).pull 10).cut 9 2) ?_
                    refine Q_take (i := 38) (v := .bool true) rfl (by kernel_rfl) (fun _ _ _ h => h) rfl rfl rfl (fun _ _ => R_pure (by kernel_rfl)) ((((((((((hst.pull 10).pull 10).pull 10).pull 10).pull 10).pull 10).pull 10).pull 9).pull 10).cut 9 2) ?_
                    refine Q_skip (i := 39) rfl (by kernel_rfl) (fun _ _ _ h => h) rfl rfl rfl ((((((((((hst.pull 10).pull 10).pull 10).pull 10).pull 10).pull 10).pull 10).pull 9).pull 10).cut 9 2) ?_
                    refine Q_skip (i := 40) rfl (by kernel_rfl) (fun _ _ _ h => h) rfl rfl rfl ((((((((((hst.pull 10).pull 10).pull 10).pull 10).pull 10).pull 10).pull 10).pull 9).pull 10).cut 9 2) ?_
                    refine Q_skip (i := 41) rfl (by kernel_rfl) (fun _ _ _ h => h) rfl rfl rfl ((((((((((hst.pull 10).pull 10).pull 10).pull 10).pull 10).pull 10).pull 10).pull 9).pull 10).cut 9 2) ?_
                    refine Q_skip (i := 42) rfl (by kernel_rfl) (fun _ _ _ h => h) rfl rfl rfl ((((((((((hst.pull 10).pull 10).pull 10).pull 10).pull 10).pull 10).pull 10).pull 9).pull 10).cut 9 2) ?_
                    refine Q_skip (i := 43) rfl (by kernel_rfl) (fun _ _ _ h => h) rfl rfl rfl ((((((((((hst.pull 10).pull 10).pull 10).pull 10).pull 10).pull 10).pull 10).pull 9).pull 10).cut 9 2) ?_
                    refine Q_skip (i := 44) rfl (by kernel_rfl) (fun _ _ _ h => h) rfl rfl rfl ((((((((((hst.pull 10).pull 10).pull 10).pull 10).pull 10).pull 10).pull 10).pull 9).pull 10).cut 9 2) ?_
                    refine Q_skip (i := 45) rfl (by kernel_rfl) (fun _ _ _ h => h) rfl rfl rfl ((((((((((hst.pull 10).pull 10).pull 10).pull 10).pull 10).pull 10).pull 10).pull 9).pull 10).cut 9 2) ?_
                    refine Q_skip (i := 46) rfl (by kernel_rfl) (fun _ _ _ h => h) rfl rfl rfl ((((((((((hst.pull 10).pull 10).pull 10).pull 10).pull 10).pull 10).pull 10).pull 9).pull 10).cut 9 2) ?_
                    refine Q_take (i := 47) (v := .bool true) rfl (by kernel_rfl) (fun _ _ _ h => h) rfl rfl rfl (fun _ _ => R_pure (by kernel_rfl)) ((((((((((hst.pull 10).pull 10).pull 10).pull 10).pull 10).pull 10).pull 10).pull 9).pull 10).cut 9 2) ?_
                    refine wpG_done (by kernel_rfl) ?_ _
                    refine C_keepQ [(4, I (mn2 (mx2 x5 0) (y25.length : Int))), (14, .slice a12 y25.length c12), (16, pt p12 0), (158, .bool true)] rfl fun b => ?_
                    refine th_n ?_
                    obtain rfl := Option.some.inj hr
                    have hst := ((((((((((hst.pull 10).pull 10).pull 10).pull 10).pull 10).pull 10).pull 10).pull 9).pull 10).cut 9 2)
                    exact (kpX [(4, I (mn2 (mx2 x5 0) (y25.length : Int))), (14, .slice a12 y25.length c12), (16, pt p12 0), (158, .bool true)] rfl hst)
                  · have hr := (if_neg h).symm.trans hr
                    refine C_keep ((125, .bool (!y39)) :: [(0, I x1), (1, I x2), (2, S y28), (4, I (mn2 (mx2 x5 0) (y25.length : Int))), (14, .slice a12 y25.length c12), (16, pt p12 0), (17, I y33.2.2.1), (18, pt p13 0), (19, I y35.2.2.1), (111, I y33.2.2.1), (112, .bool (y33.2.2.1 != 0)), (113, .bool false), (114, I y35.2.2.1), (115, .bool (y35.2.2.1 != 0)), (116, .bool (y35.2.2.1 != 0)), (117, .bool false), (118, .agg #[I y33.2.1.Term, I y33.2.1.Vote, I y33.2.1.Base, I y33.2.1.BaseTerm, S y33.2.1.Snap, .slice a15 y33.1.length c15]), (119, .agg #[I y37.2.Term, I y37.2.Vote, I y37.2.Base, I y37.2.BaseTerm, S y37.2.Snap, .slice a17 y37.1.length c17]), (120, .agg #[I y35.2.1.Term, I y35.2.1.Vote, I y35.2.1.Base, I y35.2.1.BaseTerm, S y35.2.1.Snap, .slice a16 y35.1.length c16]), (121, .agg #[I y38.2.Term, I y38.2.Vote, I y38.2.Base, I y38.2.BaseTerm, S y38.2.Snap, .slice a18 y38.1.length c18]), (122, .bool y39), (123, .bool (!y39)), (124, .bool (!y39))]) rfl fun b => ?_
                    refine C_bool (eq_false_of_ne_true h) ?_
                    refine Q_take (i := 15) (v := pt p12 0) rfl (by kernel_rfl) (fun _ _ _ h => h) rfl rfl rfl (fun _ _ => R_pure (by kernel_rfl)) ((((((((((hst.pull 10).pull 10).pull 10).pull 10).pull 10).pull 10).pull 10).pull 9).pull 10).cut 9 2) ?_
                    refine Q_take (i := 16) (v := I y33.2.1.Term) rfl (by kernel_rfl) (fun _ _ _ h => h) rfl rfl rfl (fun w hst => R_load (hst.pull 6) rfl rfl) ((((((((((hst.pull 10).pull 10).pull 10).pull 10).pull 10).pull 10).pull 10).pull 9).pull 10).cut 9 2) ?_
                    refine Q_take (i := 17) (v := I x1) rfl (by kernel_rfl) (fun _ _ _ h => h) rfl rfl rfl (fun _ _ => R_pure (by kernel_rfl)) ((((((((((hst.pull 10).pull 10).pull 10).pull 10).pull 10).pull 10).pull 10).pull 9).pull 10).cut 9 2) ?_
                    refine Q_take (i := 18) (v := .bool (y33.2.1.Term != x1)) rfl (by kernel_rfl) (fun _ _ _ h => h) rfl rfl rfl (fun _ _ => R_pure (by kernel_rfl)) ((((((((((hst.pull 10).pull 10).pull 10).pull 10).pull 10).pull 10).pull 10).pull 9).pull 10).cut 9 2) ?_
                    refine Q_take (i := 19) (v := .bool (y33.2.1.Term != x1)) rfl (by kernel_rfl) (fun _ _ _ h => h) rfl rfl rfl (fun _ _ => R_pure (by kernel_rfl)) ((((((((((hst.pull 10).pull 10).pull 10).pull 10).pull 10).pull 10).pull 10).pull 9).pull 10).cut 9 2) ?_
                    refine Q_take (i := 20) (v := .bool (y33.2.1.Term != x1)) rfl (by kernel_rfl) (fun _ _ _ h => h) rfl rfl rfl (fun _ _ => R_pure (by kernel_rfl)) ((((((((((hst.pull 10).pull 10).pull 10).pull 10).pull 10).pull 10).pull 10).pull 9).pull 10).cut 9 2) ?_
                    by_cases h : (y33.2.1.Term != x1) = true
                    · have hr := (if_pos h).symm.trans hr
                      refine C_keep ((131, .bool (y33.2.1.Term != x1)) :: [(0, I x1), (1, I x2), (2, S y28), (4, I (mn2 (mx2 x5 0) (y25.length : Int))), (14, .slice a12 y25.length c12), (16, pt p12 0), (17, I y33.2.2.1), (18, pt p13 0), (19, I y35.2.2.1), (111, I y33.2.2.1), (112, .bool (y33.2.2.1 != 0)), (113, .bool false), (114, I y35.2.2.1), (115, .bool (y35.2.2.1 != 0)), (116, .bool (y35.2.2.1 != 0)), (117, .bool false), (118, .agg #[I y33.2.1.Term, I y33.2.1.Vote, I y33.2.1.Base, I y33.2.1.BaseTerm, S y33.2.1.Snap, .slice a15 y33.1.length c15]), (119, .agg #[I y37.2.Term, I y37.2.Vote, I y37.2.Base, I y37.2.BaseTerm, S y37.2.Snap, .slice a17 y37.1.length c17]), (120, .agg #[I y35.2.1.Term, I y35.2.1.Vote, I y35.2.1.Base, I y35.2.1.BaseTerm, S y35.2.1.Snap, .slice a16 y35.1.length c16]), (121, .agg #[I y38.2.Term, I y38.2.Vote, I y38.2.Base, I y38.2.BaseTerm, S y38.2.Snap, .slice a18 y38.1.length c18]), (122, .bool y39), (123, .bool (!y39)), (124, .bool (!y39)), (125, .bool false), (126, pt p12 0), (127, I y33.2.1.Term), (128, I x1), (129, .bool (y33.2.1.Term != x1)), (130, .bool (y33.2.1.Term != x1))]) rfl fun b => ?_
                      refine C_bool h ?_
                      refine Q_skip (i := 21) rfl (by kernel_rfl) (fun _ _ _ h => h) rfl rfl rfl ((((((((((hst.pull 10).pull 10).pull 10).pull 10).pull 10).pull 10).pull 10).pull 9).pull 10).cut 9 2) ?_
                      refine Q_skip (i := 22) rfl (by kernel_rfl) (fun _ _ _ h => h) rfl rfl rfl ((((((((((hst.pull 10).pull 10).pull 10).pull 10).pull 10).pull 10).pull 10).pull 9).pull 10).cut 9 2) ?_
                      refine Q_skip (i := 23) rfl (by kernel_rfl) (fun _ _ _ h => h) rfl rfl rfl ((((((((((hst.pull 10).pull 10).pull 10).pull 10).pull 10).pull 10).pull 10).pull 9).pull 10).cut 9 2) ?_
                      refine Q_skip (i := 24) rfl (by kernel_rfl) (fun _ _ _ h => h) rfl rfl rfl ((((((((((hst.pull 10).pull 10).pull 10).pull 10).pull 10).pull 10).pull 10).pull 9).pull 10).cut 9 2) ?_
                      refine Q_take (i := 25) (v := .bool true) rfl (by kernel_rfl) (fun _ _ _ h => h) rfl rfl rfl (fun _ _ => R_pure (by kernel_rfl)) ((((((((((hst.pull 10).pull 10).pull 10).pull 10).pull 10).pull 10).pull 10).pull 9).pull 10).cut 9 2) ?_
                      refine Q_take (i := 26) (v := .bool true) rfl (by kernel_rfl) (fun _ _ _ h => h) rfl rfl rfl (fun _ _ => R_pure (by kernel_rfl)) ((((((((((hst.pull 10).pull 10).pull 10).pull 10).pull 10).pull 10).pull 10).pull 9).pull 10).cut 9 2) ?_
                      refine Q_skip (i := 27) rfl (by kernel_rfl) (fun _ _ _ h => h) rfl rfl rfl ((((((((((hst.pull 10).pull 10).pull 10).pull 10).pull 10).pull 10).pull 10).pull 9).pull 10).cut 9 2) ?_
                      refine Q_skip (i := 28) rfl (by kernel_rfl) (fun _ _ _ h => h) rfl rfl rfl ((((((((((hst.pull 10).pull 10).pull 10).pull 10).pull 10).pull 10).pull 10).pull 9).pull 10).cut 9 2) ?_
                      refine Q_skip (i := 29) rfl (by kernel_rfl) (fun _ _ _ h => h) rfl rfl rfl ((((((((((hst.pull 10).pull 10).pull 10).pull 10).pull 10).pull 10).pull 10).pull 9).pull 10).cut 9 2) ?_
                      refine Q_skip (i := 30) rfl (by kernel_rfl) (fun _ _ _ h => h) rfl rfl rfl ((((((((((hst.pull 10).pull 10).pull 10).pull 10).pull 10).pull 10).pull 10).pull 9).pull 10).cut 9 2) ?_
                      refine Q_take (i := 31) (v := .bool true) rfl (by kernel_rfl) (fun _ _ _ h => h) rfl rfl rfl (fun _ _ => R_pure (by kernel_rfl)) ((((((((((hst.pull 10).pull 10).pull 10).pull 10).pull 10).pull 10).pull 10).pull 9).pull 10).cut 9 2) ?_
                      refine Q_take (i := 32) (v := .bool true) rfl (by kernel_rfl) (fun _ _ _ h => h) rfl rfl rfl (fun _ _ => R_pure (by kernel_rfl)) ((((((((((hst.pull 10).pull 10).pull 10).pull 10).pull 10).pull 10).pull 10).pull 9).pull 10).cut 9 2) ?_
                      refine Q_skip (i := 33) rfl (by kernel_rfl) (fun _ _ _ h => h) rfl rfl rfl ((((((((((hst.pull 10).pull 10).pull 10).pull 10).pull 10).pull 10).pull 10).pull 9).pull 10).cut 9 2) ?_
                      refine Q_skip (i := 34) rfl (by kernel_rfl) (fun _ _ _ h => h) rfl rfl rfl ((((((((((hst.pull 10).pull 10).pull 10).pull 10).pull 10).pull 10).pull 10).pull 9).pull 10).cut 9 2) ?_
                      refine Q_skip (i := 35) rfl (by kernel_rfl) (fun _ _ _ h => h) rfl rfl rfl ((((((((((hst.pull 10).pull 10).pull 10).pull 10).pull 10).pull 10).pull 10).pull 9).pull 10).cut 9 2) ?_
                      refine Q_skip (i := 36) rfl (by kernel_rfl) (fun _ _ _ h => h) rfl rfl rfl ((((((((((hst.pull 10).pull 10).pull 10).pull 10).pull 10).pull 10).pull 10).pull 9).pull 10).cut 9 2) ?_
                      refine Q_take (i := 37) (v := .bool true) rfl (by kernel_rfl) (fun _ _ _ h => h) rfl rfl rfl (fun _ _ => R_pure (by kernel_rfl)) ((((((((((hst.pull 10).pull 10).pull 10).pull 10).pull 10).pull 10).pull 10).pull 9).pull 10).cut 9 2) ?_
                      refine Q_take (i := 38) (v := .bool true) rfl (by kernel_rfl) (fun _ _ _ h => h) rfl rfl rfl (fun _ _ => R_pure (by kernel_rfl)) ((((((((((hst.pull 10).pull 10).pull 10).pull 10).pull 10).pull 10).pull 10).pull 9).pull 10).cut 9 2) ?_
                      refine Q_skip (i := 39) rfl (by kernel_rfl) (fun _ _ _ h => h) rfl rfl rfl ((((((((((hst.pull 10).pull 10).pull 10).pull 10).pull 10).pull 10).pull 10).pull 9).pull 10).cut 9 2) ?_
                      refine Q_skip (i := 40) rfl (by kernel_rfl) (fun _ _ _ h => h) rfl rfl rfl ((((((((((hst.pull 10).pull 10).pull 10).pull 10).pull 10).pull 10).pull 10).pull 9).pull 10).cut 9 2) ?_
                      refine Q_skip (i := 41) rfl (by kernel_rfl) (fun _ _ _ h => h) rfl rfl rfl ((((((((((hst.pull 10).pull 10).pull 10).pull 10).pull 10).pull 10).pull 10).pull 9).pull 10).cut 9 2) ?_
                      refine Q_skip (i := 42) rfl (by kernel_rfl) (fun _ _ _ h => h) rfl rfl rfl ((((((((((hst.pull 10).pull 10).pull 10).pull 10).pull 10).pull 10).pull 10).pull 9).pull 10).cut 9 2) ?_
                      refine Q_skip (i := 43) rfl (by kernel_rfl) (fun _ _ _ h => h) rfl rfl rfl ((((((((((hst.pull 10).pull 10).pull 10).pull 10).pull 10).pull 10).pull 10).pull 9).pull 10).cut 9 2) ?_
                      refine Q_skip (i := 44) rfl (by kernel_rfl) (fun _ _ _ h => h) rfl rfl rfl ((((((((((hst.pull 10).pull 10).pull 10).pull 10).pull 10).pull 10).pull 10).pull 9).pull 10).cut 9 2) ?_
                      refine Q_skip (i := 45) rfl (by kernel_rfl) (fun _ _ _ h => h) rfl rfl rfl ((((((((((hst.pull 10).pull 10).pull 10).pull 10).pull 10).pull 10).pull 10).pull 9).pull 10).cut 9 2) ?_
                      refine Q_skip (i := 46) rfl (by kernel_rfl) (fun _ _ _ h => h) rfl rfl rfl ((((((((((hst.pull 10).pull 10).pull 10).pull 10).pull 10).pull 10).pull 10).pull 9).pull 10).cut 9 2) ?_
                      refine Q_take (i := 47) (v := .bool true) rfl (by kernel_rfl) (fun _ _ _ h => h) rfl rfl rfl (fun _ _ => R_pure (by kernel_rfl)) ((((((((((hst.pull 10).pull 10).pull 10).pull 10).pull 10).pull 10).pull 10).pull 9).pull 10).cut 9 2) ?_
                      refine wpG_done (by kernel_rfl) ?_ _
                      refine C_keepQ [(4, I (mn2 (mx2 x5 0) (y25.length : Int))), (14, .slice a12 y25.length c12), (16, pt p12 0), (158, .bool true)] rfl fun b => ?_
                      refine th_n ?_
                      obtain rfl := Option.some.inj hr
                      have hst := ((((((((((hst.pull 10).pull 10).pull 10).pull 10).pull 10).pull 10).pull 10).pull 9).pull 10).cut 9 2)
                      exact (kpX [(4, I (mn2 (mx2 x5 0) (y25.length : Int))), (14, .slice a12 y25.length c12), (16, pt p12 0), (158, .bool true)] rfl hst)
                    · have hr := (if_neg h).symm.trans hr
                      refine C_keep ((131, .bool (y33.2.1.Term != x1)) :: [(0, I x1), (1, I x2), (2, S y28), (4, I (mn2 (mx2 x5 0) (y25.length : Int))), (14, .slice a12 y25.length c12), (16, pt p12 0), (17, I y33.2.2.1), (18, pt p13 0), (19, I y35.2.2.1), (111, I y33.2.2.1), (112, .bool (y33.2.2.1 != 0)), (113, .bool false), (114, I y35.2.2.1), (115, .bool (y35.2.2.1 != 0)), (116, .bool (y35.2.2.1 != 0)), (117, .bool false), (118, .agg #[I y33.2.1.Term, I y33.2.1.Vote, I y33.2.1.Base, I y33.2.1.BaseTerm, S y33.2.1.Snap, .slice a15 y33.1.length c15]), (119, .agg #[I y37.2.Term, I y37.2.Vote, I y37.2.Base, I y37.2.BaseTerm, S y37.2.Snap, .slice a17 y37.1.length c17]), (120, .agg #[I y35.2.1.Term, I y35.2.1.Vote, I y35.2.1.Base, I y35.2.1.BaseTerm, S y35.2.1.Snap, .slice a16 y35.1.length c16]), (121, .agg #[I y38.2.Term, I y38.2.Vote, I y38.2.Base, I y38.2.BaseTerm, S y38.2.Snap, .slice a18 y38.1.length c18]), (122, .bool y39), (123, .bool (!y39)), (124, .bool (!y39)), (125, .bool false), (126, pt p12 0), (127, I y33.2.1.Term), (128, I x1), (129, .bool (y33.2.1.Term != x1)), (130, .bool (y33.2.1.Term != x1))]) rfl fun b => ?_
                      refine C_bool (eq_false_of_ne_true h) ?_
                      refine Q_take (i := 21) (v := pt p12 1) rfl (by kernel_rfl) (fun _ _ _ h => h) rfl rfl rfl (fun _ _ => R_pure (by kernel_rfl)) ((((((((((hst.pull 10).pull 10).pull 10).pull 10).pull 10).pull 10).pull 10).pull 9).pull 10).cut 9 2) ?_
                      refine Q_take (i := 22) (v := I y33.2.1.Vote) rfl (by kernel_rfl) (fun _ _ _ h => h) rfl rfl rfl (fun w hst => R_load (hst.pull 6) rfl rfl) ((((((((((hst.pull 10).pull 10).pull 10).pull 10).pull 10).pull 10).pull 10).pull 9).pull 10).cut 9 2) ?_
                      refine Q_take (i := 23) (v := I x2) rfl (by kernel_rfl) (fun _ _ _ h => h) rfl rfl rfl (fun _ _ => R_pure (by kernel_rfl)) ((((((((((hst.pull 10).pull 10).pull 10).pull 10).pull 10).pull 10).pull 10).pull 9).pull 10).cut 9 2) ?_
                      refine Q_take (i := 24) (v := .bool (y33.2.1.Vote != x2)) rfl (by kernel_rfl) (fun _ _ _ h => h) rfl rfl rfl (fun _ _ => R_pure (by kernel_rfl)) ((((((((((hst.pull 10).pull 10).pull 10).pull 10).pull 10).pull 10).pull 10).pull 9).pull 10).cut 9 2) ?_
                      refine Q_take (i := 25) (v := .bool (y33.2.1.Vote != x2)) rfl (by kernel_rfl) (fun _ _ _ h => h) rfl rfl rfl (fun _ _ => R_pure (by kernel_rfl)) ((((((((((hst.pull 10).pull 10).pull 10).pull 10).pull 10).pull 10).pull 10).pull 9).pull 10).cut 9 2) ?_
                      refine Q_take (i := 26) (v := .bool (y33.2.1.Vote != x2)) rfl (by kernel_rfl) (fun _ _ _ h => h) rfl rfl rfl (fun _ _ => R_pure (by kernel_rfl)) ((((((((((hst.pull 10).pull 10).pull 10).pull 10).pull 10).pull 10).pull 10).pull 9).pull 10).cut 9 2) ?_
                      by_cases h : (y33.2.1.Vote != x2) = true
                      · have hr := (if_pos h).symm.trans hr
                        refine C_keep ((137, .bool (y33.2.1.Vote != x2)) :: [(0, I x1), (1, I x2), (2, S y28), (4, I (mn2 (mx2 x5 0) (y25.length : Int))), (14, .slice a12 y25.length c12), (16, pt p12 0), (17, I y33.2.2.1), (18, pt p13 0), (19, I y35.2.2.1), (111, I y33.2.2.1), (112, .bool (y33.2.2.1 != 0)), (113, .bool false), (114, I y35.2.2.1), (115, .bool (y35.2.2.1 != 0)), (116, .bool (y35.2.2.1 != 0)), (117, .bool false), (118, .agg #[I y33.2.1.Term, I y33.2.1.Vote, I y33.2.1.Base, I y33.2.1.BaseTerm, S y33.2.1.Snap, .slice a15 y33.1.length c15]), (119, .agg #[I y37.2.Term, I y37.2.Vote, I y37.2.Base, I y37.2.BaseTerm, S y37.2.Snap, .slice a17 y37.1.length c17]), (120, .agg #[I y35.2.1.Term, I y35.2.1.Vote, I y35.2.1.Base, I y35.2.1.BaseTerm, S y35.2.1.Snap, .slice a16 y35.1.length c16]), (121, .agg #[I y38.2.Term, I y38.2.Vote, I y38.2.Base, I y38.2.BaseTerm, S y38.2.Snap, .slice a18 y38.1.length c18]), (122, .bool y39), (123, .bool (!y39)), (124, .bool (!y39)), (125, .bool false), (126, pt p12 0), (127, I y33.2.1.Term), (128, I x1), (129, .bool (y33.2.1.Term != x1)), (130, .bool (y33.2.1.Term != x1)), (131, .bool false), (132, pt p12 1), (133, I y33.2.1.Vote), (134, I x2), (135, .bool (y33.2.1.Vote != x2)), (136, .bool (y33.2.1.Vote != x2))]) rfl fun b => ?_
                        refine C_bool h ?_
                        refine Q_skip (i := 27) rfl (by kernel_rfl) (fun _ _ _ h => h) rfl rfl rfl ((((((((((hst.pull 10).pull 10).pull 10).pull 10).pull 10).pull 10).pull 10).pull 9).pull 10).cut 9 2) ?_
                        refine Q_skip (i := 28) rfl (by kernel_rfl) (fun _ _ _ h => h) rfl rfl rfl ((((((((((hst.pull 10).pull 10).pull 10).pull 10).pull 10).pull 10).pull 10).pull 9).pull 10).cut 9 2) ?_
                        refine Q_skip (i := 29) rfl (by kernel_rfl) (fun _ _ _ h => h) rfl rfl rfl ((((((((((hst.pull 10).pull 10).pull 10).pull 10).pull 10).pull 10).pull 10).pull 9).pull 10).cut 9 2) ?_
                        refine Q_skip (i := 30) rfl (by kernel_rfl) (fun _ _ _ h => h) rfl rfl rfl ((((((((((hst.pull 10).pull 10).pull 10).pull 10).pull 10).pull 10).pull 10).pull 9).pull 10).cut 9 2) ?_
                        refine Q_take (i := 31) (v := .bool true) rfl (by kernel_rfl) (fun _ _ _ h => h) rfl rfl rfl (fun _ _ => R_pure (by kernel_rfl)) ((((((((((hst.pull 10).pull 10).pull 10).pull 10).pull 10).pull 10).pull 10).pull 9).pull 10).cut 9 2) ?_
                        refine Q_take (i := 32) (v := .bool true) rfl (by kernel_rfl) (fun _ _ _ h => h) rfl rfl rfl (fun _ _ => R_pure (by kernel_rfl)) ((((((((((hst.pull 10).pull 10).pull 10).pull 10).pull 10).pull 10).pull 10).pull 9).pull 10).cut 9 2) ?_
                        refine Q_skip (i := 33) rfl (by kernel_rfl) (fun _ _ _ h => h) rfl rfl rfl ((((((((((hst.pull 10).pull 10).pull 10).pull 10).pull 10).pull 10).pull 10).pull 9).pull 10).cut 9 2) ?_
                        refine Q_skip (i := 34) rfl (by kernel_rfl) (fun _ _ _ h => h) rfl rfl rfl ((((((((((hst.pull 10).pull 10).pull 10).pull 10).pull 10).pull 10).pull 10).pull 9).pull 10).cut 9 2) ?_
                        refine Q_skip (i := 35) rfl (by kernel_rfl) (fun _ _ _ h => h) rfl rfl rfl ((((((((((hst.pull 10).pull 10).pull 10).pull 10).pull 10).pull 10).pull 10).pull 9).pull 10).cut 9 2) ?_
                        refine Q_skip (i := 36) rfl (by kernel_rfl) (fun _ _ _ h => h) rfl rfl rfl ((((((((((hst.pull 10).pull 10).pull 10).pull 10).pull 10).pull 10).pull 10).pull 9).pull 10).cut 9 2) ?_
                        refine Q_take (i := 37) (v := .bool true) rfl (by kernel_rfl) (fun _ _ _ h => h) rfl rfl rfl (fun _ _ => R_pure (by kernel_rfl)) ((((((((((hst.pull 10).pull 10).pull 10).pull 10).pull 10).pull 10).pull 10).pull 9).pull 10).cut 9 2) ?_
                        refine Q_take (i := 38) (v := .bool true) rfl (by kernel_rfl) (fun _ _ _ h => h) rfl rfl rfl (fun _ _ => R_pure (by kernel_rfl)) ((((((((((hst.pull 10).pull 10).pull 10).pull 10).pull 10).pull 10).pull 10).pull 9).pull 10).cut 9 2) ?_
                        refine Q_skip (i := 39) rfl (by kernel_rfl) (fun _ _ _ h => h) rfl rfl rfl ((((((((((hst.pull 10).pull 10).pull 10).pull 10).pull 10).pull 10).pull 10).pull 9).pull 10).cut 9 2) ?_
                        refine Q_skip (i := 40) rfl (by kernel_rfl) (fun _ _ _ h => h) rfl rfl rfl ((((((((((hst.pull 10).pull 10).pull 10).pull 10).pull 10).pull 10).pull 10).pull 9).pull 10).cut 9 2) ?_
                        refine Q_skip (i := 41) rfl (by kernel_rfl) (fun _ _ _ h => h) rfl rfl rfl ((((((((((hst.pull 10).pull 10).pull 10).pull 10).pull 10).pull 10).pull 10).pull 9).pull 10).cut 9 2) ?_
                        refine Q_skip (i := 42) rfl (by kernel_rfl) (fun _ _ _ h => h) rfl rfl rfl ((((((((((hst.pull 10).pull 10).pull 10).pull 10).pull 10).pull 10).pull 10).pull 9).pull 10).cut 9 2) ?_
                        refine Q_skip (i := 43) rfl (by kernel_rfl) (fun _ _ _ h => h) rfl rfl rfl ((((((((((hst.pull 10).pull 10).pull 10).pull 10).pull 10).pull 10).pull 10).pull 9).pull 10).cut 9 2) ?_
                        refine Q_skip (i := 44) rfl (by kernel_rfl) (fun _ _ _ h => h) rfl rfl rfl ((((((((((hst.pull 10).pull 10).pull 10).pull 10).pull 10).pull 10).pull 10).pull 9).pull 10).cut 9 2) ?_
                        refine Q_skip (i := 45) rfl (by kernel_rfl) (fun _ _ _ h => h) rfl rfl rfl ((((((((((hst.pull 10).pull 10).pull 10).pull 10).pull 10).pull 10).pull 10).pull 9).pull 10).cut 9 2) ?_
                        refine Q_skip (i := 46) rfl (by kernel_rfl) (fun _ _ _ h => h) rfl rfl rfl ((((((((((hst.pull 10).pull 10).pull 10).pull 10).pull 10).pull 10).pull 10).pull 9).pull 10).cut 9 2) ?_
                        refine Q_take (i := 47) (v := .bool true) rfl (by kernel_rfl) (fun _ _ _ h => h) rfl rfl rfl (fun _ _ => R_pure (by kernel_rfl)) ((((((((((hst.pull 10).pull 10).pull 10).pull 10).pull 10).pull 10).pull 10).pull 9).pull 10).cut 9 2) ?_
                        refine wpG_done (by kernel_rfl) ?_ _
                        refine C_keepQ [(4, I (mn2 (mx2 x5 0) (y25.length : Int))), (14, .slice a12 y25.length c12), (16, pt p12 0), (158, .bool true)] rfl fun b => ?_
                        refine th_n ?_
                        obtain rfl := Option.some.inj hr
                        have hst := ((((((((((hst.pull 10).pull 10).pull 10).pull 10).pull 10).pull 10).pull 10).pull 9).pull 10).cut 9 2)
                        exact (kpX [(4, I (mn2 (mx2 x5 0) (y25.length : Int))), (14, .slice a12 y25.length c12), (16, pt p12 0), (158, .bool true)] rfl hst)
                      · have hr := (if_neg h).symm.trans hr
                        refine C_keep ((137, .bool (y33.2.1.Vote != x2)) :: [(0, I x1), (1, I x2), (2, S y28), (4, I (mn2 (mx2 x5 0) (y25.length : Int))), (14, .slice a12 y25.length c12), (16, pt p12 0), (17, I y33.2.2.1), (18, pt p13 0), (19, I y35.2.2.1), (111, I y33.2.2.1), (112, .bool (y33.2.2.1 != 0)), (113, .bool false), (114, I y35.2.2.1), (115, .bool (y35.2.2.1 != 0)), (116, .bool (y35.2.2.1 != 0)), (117, .bool false), (118, .agg #[I y33.2.1.Term, I y33.2.1.Vote, I y33.2.1.Base, I y33.2.1.BaseTerm, S y33.2.1.Snap, .slice a15 y33.1.length c15]), (119, .agg #[I y37.2.Term, I y37.2.Vote, I y37.2.Base, I y37.2.BaseTerm, S y37.2.Snap, .slice a17 y37.1.length c17]), (120, .agg #[I y35.2.1.Term, I y35.2.1.Vote, I y35.2.1.Base, I y35.2.1.BaseTerm, S y35.2.1.Snap, .slice a16 y35.1.length c16]), (121, .agg #[I y38.2.Term, I y38.2.Vote, I y38.2.Base, I y38.2.BaseTerm, S y38.2.Snap, .slice a18 y38.1.length c18]), (122, .bool y39), (123, .bool (!y39)), (124, .bool (!y39)), (125, .bool false), (126, pt p12 0), (127, I y33.2.1.Term), (128, I x1), (129, .bool (y33.2.1.Term != x1)), (130, .bool (y33.2.1.Term != x1)), (131, .bool false), (132, pt p12 1), (133, I y33.2.1.Vote), (134, I x2), (135, .bool (y33.2.1.Vote != x2)), (136, .bool (y33.2.1.Vote != x2))]) rfl fun b => ?_
                        refine C_bool (eq_false_of_ne_true h) ?_
                        refine Q_take (i := 27) (v := pt p12 2) rfl (by kernel_rfl) (fun _ _ _ h => h) rfl rfl rfl (fun _ _ => R_pure (by kernel_rfl)) ((((((((((hst.pull 10).pull 10).pull 10).pull 10).pull 10).pull 10).pull 10).pull 9).pull 10).cut 9 2) ?_
                        refine Q_take (i := 28) (v := I y33.2.1.Base) rfl (by kernel_rfl) (fun _ _ _ h => h) rfl rfl rfl (fun w hst => R_load (hst.pull 6) rfl rfl) ((((((((((hst.pull 10).pull 10).pull 10).pull 10).pull 10).pull 10).pull 10).pull 9).pull 10).cut 9 2) ?_
                        refine Q_take (i := 29) (v := I (mn2 (mx2 x5 0) (y25.length : Int))) rfl (by kernel_rfl) (fun _ _ _ h => h) rfl rfl rfl (fun _ _ => R_pure (by kernel_rfl)) ((((((((((hst.pull 10).pull 10).pull 10).pull 10).pull 10).pull 10).pull 10).pull 9).pull 10).cut 9 2) ?_
                        refine Q_take (i := 30) (v := .bool (y33.2.1.Base != (mn2 (mx2 x5 0) (y25.length : Int)))) rfl (by kernel_rfl) (fun _ _ _ h => h) rfl rfl rfl (fun _ _ => R_pure (by kernel_rfl)) ((((((((((hst.pull 10).pull 10).pull 10).pull 10).pull 10).pull 10).pull 10).pull 9).pull 10).cut 9 2) ?_
                        refine Q_take (i := 31) (v := .bool (y33.2.1.Base != (mn2 (mx2 x5 0) (y25.length : Int)))) rfl (by kernel_rfl) (fun _ _ _ h => h) rfl rfl rfl (fun _ _ => R_pure (by kernel_rfl)) ((((((((((hst.pull 10).pull 10).pull 10).pull 10).pull 10).pull 10).pull 10).pull 9).pull 10).cut 9 2) ?_
                        refine Q_take (i := 32) (v := .bool (y33.2.1.Base != (mn2 (mx2 x5 0) (y25.length : Int)))) rfl (by kernel_rfl) (fun _ _ _ h => h) rfl rfl rfl (fun _ _ => R_pure (by kernel_rfl)) ((((((((((hst.pull 10).pull 10).pull 10).pull 10).pull 10).pull 10).pull 10).pull 9).pull 10).cut 9 2) ?_
                        by_cases h : (y33.2.1.Base != (mn2 (mx2 x5 0) (y25.length : Int))) = true
                        · have hr := (if_pos h).symm.trans hr
                          refine C_keep ((143, .bool (y33.2.1.Base != (mn2 (mx2 x5 0) (y25.length : Int)))) :: [(0, I x1), (1, I x2), (2, S y28), (4, I (mn2 (mx2 x5 0) (y25.length : Int))), (14, .slice a12 y25.length c12), (16, pt p12 0), (17, I y33.2.2.1), (18, pt p13 0), (19, I y35.2.2.1), (111, I y33.2.2.1), (112, .bool (y33.2.2.1 != 0)), (113, .bool false), (114, I y35.2.2.1), (115, .bool (y35.2.2.1 != 0)), (116, .bool (y35.2.2.1 != 0)), (117, .bool false), (118, .agg #[I y33.2.1.Term, I y33.2.1.Vote, I y33.2.1.Base, I y33.2.1.BaseTerm, S y33.2.1.Snap, .slice a15 y33.1.length c15]), (119, .agg #[I y37.2.Term, I y37.2.Vote, I y37.2.Base, I y37.2.BaseTerm, S y37.2.Snap, .slice a17 y37.1.length c17]), (120, .agg #[I y35.2.1.Term, I y35.2.1.Vote, I y35.2.1.Base, I y35.2.1.BaseTerm, S y35.2.1.Snap, .slice a16 y35.1.length c16]), (121, .agg #[I y38.2.Term, I y38.2.Vote, I y38.2.Base, I y38.2.BaseTerm, S y38.2.Snap, .slice a18 y38.1.length c18]), (122, .bool y39), (123, .bool (!y39)), (124, .bool (!y39)), (125, .bool false), (126, pt p12 0), (127, I y33.2.1.Term), (128, I x1), (129, .bool (y33.2.1.Term != x1)), (130, .bool (y33.2.1.Term != x1)), (131, .bool false), (132, pt p12 1), (133, I y33.2.1.Vote), (134, I x2), (135, .bool (y33.2.1.Vote != x2)), (136, .bool (y33.2.1.Vote != x2)), (137, .bool false), (138, pt p12 2), (139, I y33.2.1.Base), (140, I (mn2 (mx2 x5 0) (y25.length : Int))), (141, .bool (y33.2.1.Base != (mn2 (mx2 x5 0) (y25.length : Int)))), (142, .bool (y33.2.1.Base != (mn2 (mx2 x5 0) (y25.length : Int))))]) rfl fun b => ?_
                          refine C_bool h ?_
                          refine Q_skip (i := 33) rfl (by kernel_rfl) (fun _ _ _ h => h) rfl rfl rfl ((((((((((hst.pull 10).pull 10).pull 10).pull 10).pull 10).pull 10).pull 10).pull 9).pull 10).cut 9 2) ?_
                          refine Q_skip (i := 34) rfl (by kernel_rfl) (fun _ _ _ h => h) rfl rfl rfl ((((((((((hst.pull 10).pull 10).pull 10).pull 10).pull 10).pull 10).pull 10).pull 9).pull 10).cut 9 2) ?_
                          refine Q_skip (i := 35) rfl (by kernel_rfl) (fun _ _ _ h => h) rfl rfl rfl ((((((((((hst.pull 10).pull 10).pull 10).pull 10).pull 10).pull 10).pull 10).pull 9).pull 10).cut 9 2) ?_
                          refine Q_skip (i := 36) rfl (by kernel_rfl) (fun _ _ _ h => h) rfl rfl rfl ((((((((((hst.pull 10).pull 10).pull 10).pull 10).pull 10).pull 10).pull 10).pull 9).pull 10).cut 9 2) ?_
                          refine Q_take (i := 37) (v := .bool true) rfl (by kernel_rfl) (fun _ _ _ h => h) rfl rfl rfl (fun _ _ => R_pure (by kernel_rfl)) ((((((((((hst.pull 10).pull 10).pull 10).pull 10).pull 10).pull 10).pull 10).pull 9).pull 10).cut 9 2) ?_
                          refine Q_take (i := 38) (v := .bool true) rfl (by kernel_rfl) (fun _ _ _ h => h) rfl rfl rfl (fun _ _ => R_pure (by kernel_rfl)) ((((((((((hst.pull 10).pull 10).pull 10).pull 10).pull 10).pull 10).pull 10).pull 9).pull 10).cut 9 2) ?_
                          refine Q_skip (i := 39) rfl (by kernel_rfl) (fun _ _ _ h => h) rfl rfl rfl ((((((((((hst.pull 10).pull 10).pull 10).pull 10).pull 10).pull 10).pull 10).pull 9).pull 10).cut 9 2) ?_
                          refine Q_skip (i := 40) rfl (by kernel_rfl) (fun _ _ _ h => h) rfl rfl rfl ((((((((((hst.pull 10).pull 10).pull 10).pull 10).pull 10).pull 10).pull 10).pull 9).pull 10).cut 9 2) ?_
                          refine Q_skip (i := 41) rfl (by kernel_rfl) (fun _ _ _ h => h) rfl rfl rfl ((((((((((hst.pull 10).pull 10).pull 10).pull 10).pull 10).pull 10).pull 10).pull 9).pull 10).cut 9 2) ?_
                          refine Q_skip (i := 42) rfl (by kernel_rfl) (fun _ _ _ h => h) rfl rfl rfl ((((((((((hst.pull 10).pull 10).pull 10).pull 10).pull 10).pull 10).pull 10).pull 9).pull 10).cut 9 2) ?_
                          refine Q_skip (i := 43) rfl (by kernel_rfl) (fun _ _ _ h => h) rfl rfl rfl ((((((((((hst.pull 10).pull 10).pull 10).pull 10).pull 10).pull 10).pull 10).pull 9).pull 10).cut 9 2) ?_
                          refine Q_skip (i := 44) rfl (by kernel_rfl) (fun _ _ _ h => h) rfl rfl rfl ((((((((((hst.pull 10).pull 10).pull 10).pull 10).pull 10).pull 10).pull 10).pull 9).pull 10).cut 9 2) ?_
                          refine Q_skip (i := 45) rfl (by kernel_rfl) (fun _ _ _ h => h) rfl rfl rfl ((((((((((hst.pull 10).pull 10).pull 10).pull 10).pull 10).pull 10).pull 10).pull 9).pull 10).cut 9 2) ?_
                          refine Q_skip (i := 46) rfl (by kernel_rfl) (fun _ _ _ h => h) rfl rfl rfl ((((((((((hst.pull 10).pull 10).pull 10).pull 10).pull 10).pull 10).pull 10).pull 9).pull 10).cut 9 2) ?_
                          refine Q_take (i := 47) (v := .bool true) rfl (by kernel_rfl) (fun _ _ _ h => h) rfl rfl rfl (fun _ _ => R_pure (by kernel_rfl)) ((((((((((hst.pull 10).pull 10).pull 10).pull 10).pull 10).pull 10).pull 10).pull 9).pull 10).cut 9 2) ?_
                          refine wpG_done (by kernel_rfl) ?_ _
                          refine C_keepQ [(4, I (mn2 (mx2 x5 0) (y25.length : Int))), (14, .slice a12 y25.length c12), (16, pt p12 0), (158, .bool true)] rfl fun b => ?_
                          refine th_n ?_
                          obtain rfl := Option.some.inj hr
                          have hst := ((((((((((hst.pull 10).pull 10).pull 10).pull 10).pull 10).pull 10).pull 10).pull 9).pull 10).cut 9 2)
                          exact (kpX [(4, I (mn2 (mx2 x5 0) (y25.length : Int))), (14, .slice a12 y25.length c12), (16, pt p12 0), (158, .bool true)] rfl hst)
                        · have hr := (if_neg h).symm.trans hr
                          refine C_keep ((143, .bool (y33.2.1.Base != (mn2 (mx2 x5 0) (y25.length : Int)))) :: [(0, I x1), (1, I x2), (2, S y28), (4, I (mn2 (mx2 x5 0) (y25.length : Int))), (14, .slice a12 y25.length c12), (16, pt p12 0), (17, I y33.2.2.1), (18, pt p13 0), (19, I y35.2.2.1), (111, I y33.2.2.1), (112, .bool (y33.2.2.1 != 0)), (113, .bool false), (114, I y35.2.2.1), (115, .bool (y35.2.2.1 != 0)), (116, .bool (y35.2.2.1 != 0)), (117, .bool false), (118, .agg #[I y33.2.1.Term, I y33.2.1.Vote, I y33.2.1.Base, I y33.2.1.BaseTerm, S y33.2.1.Snap, .slice a15 y33.1.length c15]), (119, .agg #[I y37.2.Term, I y37.2.Vote, I y37.2.Base, I y37.2.BaseTerm, S y37.2.Snap, .slice a17 y37.1.length c17]), (120, .agg #[I y35.2.1.Term, I y35.2.1.Vote, I y35.2.1.Base, I y35.2.1.BaseTerm, S y35.2.1.Snap, .slice a16 y35.1.length c16]), (121, .agg #[I y38.2.Term, I y38.2.Vote, I y38.2.Base, I y38.2.BaseTerm, S y38.2.Snap, .slice a18 y38.1.length c18]), (122, .bool y39), (123, .bool (!y39)), (124, .bool (!y39)), (125, .bool false), (126, pt p12 0), (127, I y33.2.1.Term), (128, I x1), (129, .bool (y33.2.1.Term != x1)), (130, .bool (y33.2.1.Term != x1)), (131, .bool false), (132, pt p12 1), (133, I y33.2.1.Vote), (134, I x2), (135, .bool (y33.2.1.Vote != x2)), (136, .bool (y33.2.1.Vote != x2)), (137, .bool false), (138, pt p12 2), (139, I y33.2.1.Base), (140, I (mn2 (mx2 x5 0) (y25.length : Int))), (141, .bool (y33.2.1.Base != (mn2 (mx2 x5 0) (y25.length : Int)))), (142, .bool (y33.2.1.Base != (mn2 (mx2 x5 0) (y25.length : Int))))]) rfl fun b => ?_
                          refine C_bool (eq_false_of_ne_true h) ?_
                          refine Q_take (i := 33) (v := pt p12 4) rfl (by kernel_rfl) (fun _ _ _ h => h) rfl rfl rfl (fun _ _ => R_pure (by kernel_rfl)) ((((((((((hst.pull 10).pull 10).pull 10).pull 10).pull 10).pull 10).pull 10).pull 9).pull 10).cut 9 2) ?_
                          refine Q_take (i := 34) (v := S y33.2.1.Snap) rfl (by kernel_rfl) (fun _ _ _ h => h) rfl rfl rfl (fun w hst => R_load (hst.pull 6) rfl rfl) ((((((((((hst.pull 10).pull 10).pull 10).pull 10).pull 10).pull 10).pull 10).pull 9).pull 10).cut 9 2) ?_
                          refine Q_take (i := 35) (v := S y28) rfl (by kernel_rfl) (fun _ _ _ h => h) rfl rfl rfl (fun _ _ => R_pure (by kernel_rfl)) ((((((((((hst.pull 10).pull 10).pull 10).pull 10).pull 10).pull 10).pull 10).pull 9).pull 10).cut 9 2) ?_
                          refine Q_take (i := 36) (v := .bool (!sEq y33.2.1.Snap y28)) rfl (by kernel_rfl) (fun _ _ _ h => h) rfl rfl rfl (fun _ _ => R_pure (by kernel_rfl)) ((((((((((hst.pull 10).pull 10).pull 10).pull 10).pull 10).pull 10).pull 10).pull 9).pull 10).cut 9 2) ?_
                          refine Q_take (i := 37) (v := .bool (!sEq y33.2.1.Snap y28)) rfl (by kernel_rfl) (fun _ _ _ h => h) rfl rfl rfl (fun _ _ => R_pure (by kernel_rfl)) ((((((((((hst.pull 10).pull 10).pull 10).pull 10).pull 10).pull 10).pull 10).pull 9).pull 10).cut 9 2) ?_
                          refine Q_take (i := 38) (v := .bool (!sEq y33.2.1.Snap y28)) rfl (by kernel_rfl) (fun _ _ _ h => h) rfl rfl rfl (fun _ _ => R_pure (by kernel_rfl)) ((((((((((hst.pull 10).pull 10).pull 10).pull 10).pull 10).pull 10).pull 10).pull 9).pull 10).cut 9 2) ?_
                          by_cases h : (!sEq y33.2.1.Snap y28) = true
                          · have hr := (if_pos h).symm.trans hr
                            refine C_keep ((149, .bool (!sEq y33.2.1.Snap y28)) :: [(0, I x1), (1, I x2), (2, S y28), (4, I (mn2 (mx2 x5 0) (y25.length : Int))), (14, .slice a12 y25.length c12), (16, pt p12 0), (17, I y33.2.2.1), (18, pt p13 0), (19, I y35.2.2.1), (111, I y33.2.2.1), (112, .bool (y33.2.2.1 != 0)), (113, .bool false), (114, I y35.2.2.1), (115, .bool (y35.2.2.1 != 0)), (116, .bool (y35.2.2.1 != 0)), (117, .bool false), (118, .agg #[I y33.2.1.Term, I y33.2.1.Vote, I y33.2.1.Base, I y33.2.1.BaseTerm, S y33.2.1.Snap, .slice a15 y33.1.length c15]), (119, .agg #[I y37.2.Term, I y37.2.Vote, I y37.2.Base, I y37.2.BaseTerm, S y37.2.Snap, .slice a17 y37.1.length c17]), (120, .agg #[I y35.2.1.Term, I y35.2.1.Vote, I y35.2.1.Base, I y35.2.1.BaseTerm, S y35.2.1.Snap, .slice a16 y35.1.length c16]), (121, .agg #[I y38.2.Term, I y38.2.Vote, I y38.2.Base, I y38.2.BaseTerm, S y38.2.Snap, .slice a18 y38.1.length c18]), (122, .bool y39), (123, .bool (!y39)), (124, .bool (!y39)), (125, .bool false), (126, pt p12 0), (127, I y33.2.1.Term), (128, I x1), (129, .bool (y33.2.1.Term != x1)), (130, .bool (y33.2.1.Term != x1)), (131, .bool false), (132, pt p12 1), (133, I y33.2.1.Vote), (134, I x2), (135, .bool (y33.2.1.Vote != x2)), (136, .bool (y33.2.1.Vote != x2)), (137, .bool false), (138, pt p12 2), (139, I y33.2.1.Base), (140, I (mn2 (mx2 x5 0) (y25.length : Int))), (141, .bool (y33.2.1.Base != (mn2 (mx2 x5 0) (y25.length : Int)))), (142, .bool (y33.2.1.Base != (mn2 (mx2 x5 0) (y25.length : Int)))), (143, .bool false), (144, pt p12 4), (145, S y33.2.1.Snap), (146, S y28), (147, .bool (!sEq y33.2.1.Snap y28)), (148, .bool (!sEq y33.2.1.Snap y28))]) rfl fun b => ?_
                            refine C_bool h ?_
                            refine Q_skip (i := 39) rfl (by kernel_rfl) (fun _ _ _ h => h) rfl rfl rfl ((((((((((hst.pull 10).pull 10).pull 10).pull 10).pull 10).pull 10).pull 10).pull 9).pull 10).cut 9 2) ?_
                            refine Q_skip (i := 40) rfl (by kernel_rfl) (fun _ _ _ h => h) rfl rfl rfl ((((((((((hst.pull 10).pull 10).pull 10).pull 10).pull 10).pull 10).pull 10).pull 9).pull 10).cut 9 2) ?_
                            refine Q_skip (i := 41) rfl (by kernel_rfl) (fun _ _ _ h => h) rfl rfl rfl ((((((((((hst.pull 10).pull 10).pull 10).pull 10).pull 10).pull 10).pull 10).pull 9).pull 10).cut 9 2) ?_
                            refine Q_skip (i := 42) rfl (by kernel_rfl) (fun _ _ _ h => h) rfl rfl rfl ((((((((((hst.pull 10).pull 10).pull 10).pull 10).pull 10).pull 10).pull 10).pull 9).pull 10).cut 9 2) ?_
                            refine Q_skip (i := 43) rfl (by kernel_rfl) (fun _ _ _ h => h) rfl rfl rfl ((((((((((hst.pull 10).pull 10).pull 10).pull 10).pull 10).pull 10).pull 10).pull 9).pull 10).cut 9 2) ?_
                            refine Q_skip (i := 44) rfl (by kernel_rfl) (fun _ _ _ h => h) rfl rfl rfl ((((((((((hst.pull 10).pull 10).pull 10).pull 10).pull 10).pull 10).pull 10).pull 9).pull 10).cut 9 2) ?_
                            refine Q_skip (i := 45) rfl (by kernel_rfl) (fun _ _ _ h => h) rfl rfl rfl ((((((((((hst.pull 10).pull 10).pull 10).pull 10).pull 10).pull 10).pull 10).pull 9).pull 10).cut 9 2) ?_
                            refine Q_skip (i := 46) rfl (by kernel_rfl) (fun _ _ _ h => h) rfl rfl rfl ((((((((((hst.pull 10).pull 10).pull 10).pull 10).pull 10).pull 10).pull 10).pull 9).pull 10).cut 9 2) ?_
                            refine Q_take (i := 47) (v := .bool true) rfl (by kernel_rfl) (fun _ _ _ h => h) rfl rfl rfl (fun _ _ => R_pure (by kernel_rfl)) ((((((((((hst.pull 10).pull 10).pull 10).pull 10).pull 10).pull 10).pull 10).pull 9).pull 10).cut 9 2) ?_
                            refine wpG_done (by kernel_rfl) ?_ _
                            refine C_keepQ [(4, I (mn2 (mx2 x5 0) (y25.length : Int))), (14, .slice a12 y25.length c12), (16, pt p12 0), (158, .bool true)] rfl fun b => ?_
                            refine th_n ?_
                            obtain rfl := Option.some.inj hr
                            have hst := ((((((((((hst.pull 10).pull 10).pull 10).pull 10).pull 10).pull 10).pull 10).pull 9).pull 10).cut 9 2)
                            exact (kpX [(4, I (mn2 (mx2 x5 0) (y25.length : Int))), (14, .slice a12 y25.length c12), (16, pt p12 0), (158, .bool true)] rfl hst)
                          · have hr := (if_neg h).symm.trans hr
                            refine C_keep ((149, .bool (!sEq y33.2.1.Snap y28)) :: [(0, I x1), (1, I x2), (2, S y28), (4, I (mn2 (mx2 x5 0) (y25.length : Int))), (14, .slice a12 y25.length c12), (16, pt p12 0), (17, I y33.2.2.1), (18, pt p13 0), (19, I y35.2.2.1), (111, I y33.2.2.1), (112, .bool (y33.2.2.1 != 0)), (113, .bool false), (114, I y35.2.2.1), (115, .bool (y35.2.2.1 != 0)), (116, .bool (y35.2.2.1 != 0)), (117, .bool false), (118, .agg #[I y33.2.1.Term, I y33.2.1.Vote, I y33.2.1.Base, I y33.2.1.BaseTerm, S y33.2.1.Snap, .slice a15 y33.1.length c15]), (119, .agg #[I y37.2.Term, I y37.2.Vote, I y37.2.Base, I y37.2.BaseTerm, S y37.2.Snap, .slice a17 y37.1.length c17]), (120, .agg #[I y35.2.1.Term, I y35.2.1.Vote, I y35.2.1.Base, I y35.2.1.BaseTerm, S y35.2.1.Snap, .slice a16 y35.1.length c16]), (121, .agg #[I y38.2.Term, I y38.2.Vote, I y38.2.Base, I y38.2.BaseTerm, S y38.2.Snap, .slice a18 y38.1.length c18]), (122, .bool y39), (123, .bool (!y39)), (124, .bool (!y39)), (125, .bool false), (126, pt p12 0), (127, I y33.2.1.Term), (128, I x1), (129, .bool (y33.2.1.Term != x1)), (130, .bool (y33.2.1.Term != x1)), (131, .bool false), (132, pt p12 1), (133, I y33.2.1.Vote), (134, I x2), (135, .bool (y33.2.1.Vote != x2)), (136, .bool (y33.2.1.Vote != x2)), (137, .bool false), (138, pt p12 2), (139, I y33.2.1.Base), (140, I (mn2 (mx2 x5 0) (y25.length : Int))), (141, .bool (y33.2.1.Base != (mn2 (mx2 x5 0) (y25.length : Int)))), (142, .bool (y33.2.1.Base != (mn2 (mx2 x5 0) (y25.length : Int)))), (143, .bool false), (144, pt p12 4), (145, S y33.2.1.Snap), (146, S y28), (147, .bool (!sEq y33.2.1.Snap y28)), (148, .bool (!sEq y33.2.1.Snap y28))]) rfl fun b => ?_
                            refine C_bool (eq_false_of_ne_true h) ?_
                            refine Q_take (i := 39) (v := pt p12 5) rfl (by kernel_rfl) (fun _ _ _ h => h) rfl rfl rfl (fun _ _ => R_pure (by kernel_rfl)) ((((((((((hst.pull 10).pull 10).pull 10).pull 10).pull 10).pull 10).pull 10).pull 9).pull 10).cut 9 2) ?_
                            refine Q_take (i := 40) (v := .slice a15 y33.1.length c15) rfl (by kernel_rfl) (fun _ _ _ h => h) rfl rfl rfl (fun w hst => R_load (hst.pull 6) rfl rfl) ((((((((((hst.pull 10).pull 10).pull 10).pull 10).pull 10).pull 10).pull 10).pull 9).pull 10).cut 9 2) ?_
                            refine Q_take (i := 41) (v := I (y33.1.length : Int)) rfl (by kernel_rfl) (fun _ _ _ h => h) rfl rfl rfl (fun _ _ => R_pure (by kernel_rfl)) ((((((((((hst.pull 10).pull 10).pull 10).pull 10).pull 10).pull 10).pull 10).pull 9).pull 10).cut 9 2) ?_
                            refine Q_take (i := 42) (v := .slice a12 y25.length c12) rfl (by kernel_rfl) (fun _ _ _ h => h) rfl rfl rfl (fun _ _ => R_pure (by kernel_rfl)) ((((((((((hst.pull 10).pull 10).pull 10).pull 10).pull 10).pull 10).pull 10).pull 9).pull 10).cut 9 2) ?_
                            refine Q_take (i := 43) (v := I (y25.length : Int)) rfl (by kernel_rfl) (fun _ _ _ h => h) rfl rfl rfl (fun _ _ => R_pure (by kernel_rfl)) ((((((((((hst.pull 10).pull 10).pull 10).pull 10).pull 10).pull 10).pull 10).pull 9).pull 10).cut 9 2) ?_
                            refine Q_take (i := 44) (v := I (mn2 (mx2 x5 0) (y25.length : Int))) rfl (by kernel_rfl) (fun _ _ _ h => h) rfl rfl rfl (fun _ _ => R_pure (by kernel_rfl)) ((((((((((hst.pull 10).pull 10).pull 10).pull 10).pull 10).pull 10).pull 10).pull 9).pull 10).cut 9 2) ?_
                            refine Q_take (i := 45) (v := I (IntKind.i64.wrap ((y25.length : Int) - (mn2 (mx2 x5 0) (y25.length : Int))))) rfl (by kernel_rfl) (fun _ _ _ h => h) rfl rfl rfl (fun _ _ => R_pure (by kernel_rfl)) ((((((((((hst.pull 10).pull 10).pull 10).pull 10).pull 10).pull 10).pull 10).pull 9).pull 10).cut 9 2) ?_
                            refine Q_take (i := 46) (v := .bool ((y33.1.length : Int) != (IntKind.i64.wrap ((y25.length : Int) - (mn2 (mx2 x5 0) (y25.length : Int)))))) rfl (by kernel_rfl) (fun _ _ _ h => h) rfl rfl rfl (fun _ _ => (R_ine rfl rfl)) ((((((((((hst.pull 10).pull 10).pull 10).pull 10).pull 10).pull 10).pull 10).pull 9).pull 10).cut 9 2) ?_
                            refine Q_take (i := 47) (v := .bool ((y33.1.length : Int) != (IntKind.i64.wrap ((y25.length : Int) - (mn2 (mx2 x5 0) (y25.length : Int)))))) rfl (by kernel_rfl) (fun _ _ _ h => h) rfl rfl rfl (fun _ _ => R_pure (by kernel_rfl)) ((((((((((hst.pull 10).pull 10).pull 10).pull 10).pull 10).pull 10).pull 10).pull 9).pull 10).cut 9 2) ?_
                            refine wpG_done (by kernel_rfl) ?_ _
                            refine C_keepQ [(4, I (mn2 (mx2 x5 0) (y25.length : Int))), (14, .slice a12 y25.length c12), (16, pt p12 0), (158, .bool ((y33.1.length : Int) != (IntKind.i64.wrap ((y25.length : Int) - (mn2 (mx2 x5 0) (y25.length : Int))))))] rfl fun b => ?_
                            refine th_n ?_
                            obtain rfl := Option.some.inj hr
                            have hst := ((((((((((hst.pull 10).pull 10).pull 10).pull 10).pull 10).pull 10).pull 10).pull 9).pull 10).cut 9 2)
                            exact (kpX [(4, I (mn2 (mx2 x5 0) (y25.length : Int))), (14, .slice a12 y25.length c12), (16, pt p12 0), (158, .bool ((y33.1.length : Int) != (IntKind.i64.wrap ((y25.length : Int) - (mn2 (mx2 x5 0) (y25.length : Int))))))] rfl hst)
        · have hr := hy29
          refine wp_reg ?_
          refine L_pure 2 [(0, I x1), (1, I x2), (2, S y28), (4, I (mn2 (mx2 x5 0) (y25.length : Int))), (5, .slice a2 x6.length c2), (13, pt p8 0), (14, .slice a12 y25.length c12), (76, pt p8 0), (77, .slice a12 y25.length c12)] (by kernel_rfl) fun b => ?_
          obtain ⟨y30, hy30, hr⟩ := bnd hr
          have hst := osl_freeze hst
          refine L_op rfl (O_call (vs := #[pt p8 0, .slice a12 y25.length c12]) Try.call29 (by kernel_rfl) (term_Append_ok k y21.1 y21.2.1 y21.2.2.1 y21.2.2.2.1 y21.2.2.2.2 y25 p8 p9 a12 c12 y30 ((hst.pull 2).pull 2) hy30 fun w hst => ?_))
          refine CK_ret rfl ?_
          refine L_pure 2 [(0, I x1), (1, I x2), (2, S y28), (4, I (mn2 (mx2 x5 0) (y25.length : Int))), (5, .slice a2 x6.length c2), (13, pt p8 0), (14, .slice a12 y25.length c12), (80, .bool (y30.1 != 0))] (by kernel_rfl) fun b => ?_
          by_cases h : (y30.1 != 0) = true
          · have hr := (if_pos h).symm.trans hr
            refine L_keep ((80, .bool (y30.1 != 0)) :: [(0, I x1), (1, I x2), (2, S y28), (4, I (mn2 (mx2 x5 0) (y25.length : Int))), (5, .slice a2 x6.length c2), (13, pt p8 0), (14, .slice a12 y25.length c12)]) rfl fun b => ?_
            refine L_bool h ?_
            refine L_pure 17 [(0, I x1), (1, I x2), (2, S y28), (4, I (mn2 (mx2 x5 0) (y25.length : Int))), (5, .slice a2 x6.length c2), (13, pt p8 0), (14, .slice a12 y25.length c12), (97, .bool true)] (by kernel_rfl) fun b => ?_
            refine wpL_nil ?_
            refine th_n ?_
            obtain rfl := Option.some.inj hr
            have hst := (((((hst.pull 4).pull 4).pull 4).pull 4).pull 4)
            exact (kpX [(0, I x1), (1, I x2), (2, S y28), (4, I (mn2 (mx2 x5 0) (y25.length : Int))), (5, .slice a2 x6.length c2), (13, pt p8 0), (14, .slice a12 y25.length c12), (97, .bool true)] rfl hst)
          · have hr := (if_neg h).symm.trans hr
            refine L_keep ((80, .bool (y30.1 != 0)) :: [(0, I x1), (1, I x2), (2, S y28), (4, I (mn2 (mx2 x5 0) (y25.length : Int))), (5, .slice a2 x6.length c2), (13, pt p8 0), (14, .slice a12 y25.length c12)]) rfl fun b => ?_
            refine L_bool (eq_false_of_ne_true h) ?_
            refine L_pure 3 [(0, I x1), (1, I x2), (2, S y28), (4, I (mn2 (mx2 x5 0) (y25.length : Int))), (5, .slice a2 x6.length c2), (13, pt p8 0), (14, .slice a12 y25.length c12), (80, .bool false), (81, pt p8 0), (82, I x1), (83, I x2)] (by kernel_rfl) fun b => ?_
            obtain ⟨y31, hy31, hr⟩ := bnd hr
            refine L_op rfl (O_call (vs := #[pt p8 0, I x1, I x2]) Try.call30 (by kernel_rfl) (term_SaveTerm_ok k y21.1 y30.2.1 y21.2.2.1 y30.2.2.1 y30.2.2.2 x1 x2 p8 p9 y31 ((hst.pull 1).pull 1) hy31 fun w hst => ?_))
            refine CK_ret rfl ?_
            refine L_pure 3 [(0, I x1), (1, I x2), (2, S y28), (4, I (mn2 (mx2 x5 0) (y25.length : Int))), (5, .slice a2 x6.length c2), (13, pt p8 0), (14, .slice a12 y25.length c12), (87, .bool (y31.1 != 0))] (by kernel_rfl) fun b => ?_
            by_cases h : (y31.1 != 0) = true
            · have hr := (if_pos h).symm.trans hr
              refine L_keep ((87, .bool (y31.1 != 0)) :: [(0, I x1), (1, I x2), (2, S y28), (4, I (mn2 (mx2 x5 0) (y25.length : Int))), (5, .slice a2 x6.length c2), (13, pt p8 0), (14, .slice a12 y25.length c12)]) rfl fun b => ?_
              refine L_bool h ?_
              refine L_pure 10 [(0, I x1), (1, I x2), (2, S y28), (4, I (mn2 (mx2 x5 0) (y25.length : Int))), (5, .slice a2 x6.length c2), (13, pt p8 0), (14, .slice a12 y25.length c12), (97, .bool true)] (by kernel_rfl) fun b => ?_
              refine wpL_nil ?_
              refine th_n ?_
              obtain rfl := Option.some.inj hr
              have hst := (((((hst.pull 4).pull 4).pull 4).pull 4).pull 4)
              exact (kpX [(0, I x1), (1, I x2), (2, S y28), (4, I (mn2 (mx2 x5 0) (y25.length : Int))), (5, .slice a2 x6.length c2), (13, pt p8 0), (14, .slice a12 y25.length c12), (97, .bool true)] rfl hst)
            · have hr := (if_neg h).symm.trans hr
              refine L_keep ((87, .bool (y31.1 != 0)) :: [(0, I x1), (1, I x2), (2, S y28), (4, I (mn2 (mx2 x5 0) (y25.length : Int))), (5, .slice a2 x6.length c2), (13, pt p8 0), (14, .slice a12 y25.length c12)]) rfl fun b => ?_
              refine L_bool (eq_false_of_ne_true h) ?_
              refine L_pure 6 [(0, I x1), (1, I x2), (2, S y28), (4, I (mn2 (mx2 x5 0) (y25.length : Int))), (5, .slice a2 x6.length c2), (13, pt p8 0), (14, .slice a12 y25.length c12), (87, .bool false), (88, pt p8 0), (89, I (mn2 (mx2 x5 0) (y25.length : Int))), (90, I x1), (91, S y28), (92, .slice a12 y25.length c12), (93, I (mn2 (mx2 x5 0) (y25.length : Int)))] (by kernel_rfl) fun b => ?_
              obtain ⟨x12, hx6, hr⟩ := bnd hr
              refine L_op rfl (O_slice_d L50 (hst.pull 2) rfl rfl rfl hx6 rfl fun a14 c14 hst => ?_)
              obtain ⟨y32, hy32, hr⟩ := bnd hr
              refine L_op rfl (O_call (vs := #[pt p8 0, I (mn2 (mx2 x5 0) (y25.length : Int)), I x1, S y28, .slice a14 x12.length c14]) Try.call26 (by kernel_rfl) (term_SaveSnap_ok k y21.1 y31.2.1 y21.2.2.1 y31.2.2.1 y31.2.2.2 (mn2 (mx2 x5 0) (y25.length : Int)) x1 y28 x12 p8 p9 a14 c14 y32 ((hst.pull 3).pull 3) hy32 fun w hst => ?_))
              refine CK_ret rfl ?_
              refine L_pure 2 [(0, I x1), (1, I x2), (2, S y28), (4, I (mn2 (mx2 x5 0) (y25.length : Int))), (5, .slice a2 x6.length c2), (13, pt p8 0), (14, .slice a12 y25.length c12), (97, .bool (y32.1 != 0))] (by kernel_rfl) fun b => ?_
              refine wpL_nil ?_
              refine th_n ?_
              obtain rfl := Option.some.inj hr
              have hst := ((((((hst.pull 5).pull 5).pull 5).pull 4).pull 4).cut 5 1)
              exact (kpX [(0, I x1), (1, I x2), (2, S y28), (4, I (mn2 (mx2 x5 0) (y25.length : Int))), (5, .slice a2 x6.length c2), (13, pt p8 0), (14, .slice a12 y25.length c12), (97, .bool (y32.1 != 0))] rfl hst)
      · have hst := (((((hst.pull 4).pull 4).pull 4).pull 4).pull 4)
        refine wp_block ?_
        refine wp_loop_fuel (fun j a w => ∃ (v9 : (List T_term_Entry)) (v10 : Int) (a11 : Option Addr) (c11 : Nat) (b : Nat → Value), a = mkF 176 b [(0, I x1), (1, I x2), (2, S x3), (3, .slice a1 x4.length c1), (4, I x5), (5, .slice a2 x6.length c2), (13, pt p8 0), (14, .slice a11 v9.length c11), (15, I v10)] ∧ St G w (osl r_T_term_Entry 52 a11 c11 v9 :: blk p8 (cl [I y21.1, I y21.2.1, .bool y21.2.2.1, I y21.2.2.2.1, .map (some p9)] 42) :: mpr S (rPt r_T_platter_file) p9 y21.2.2.2.2 :: dsl rS a1 c1 x4 :: dsl (rI .i64) a2 c2 x6 :: F) ∧ glacierlaw09_TermBack_l1 k x1 x4 j v9 v10 = some y25) (k := k) ⟨[], (0 : Int), (some ⟨p10, 0, none⟩), 0, (kpX [(0, I x1), (1, I x2), (2, S x3), (3, .slice a1 x4.length c1), (4, I x5), (5, .slice a2 x6.length c2), (13, pt p8 0), (14, .slice (some ⟨p10, 0, none⟩) 0 0), (15, I 0)] rfl ⟨hst, hy25⟩)⟩ ?_ ?_
        · rintro _ _ ⟨_, _, _, _, _, _, _, h⟩
          rw [glacierlaw09_TermBack_l1] at h
          cases h
        · rintro j _ w ⟨v9, v10, a11, c11, b, rfl, hst, hr⟩
          rw [glacierlaw09_TermBack_l1] at hr
          refine wp_seq ?_
          obtain ⟨y26, hy26, hk9⟩ := bnd hr
          clear hr
          refine wp_seq_cut (fun a w => ∃ (b : Nat → Value), a = mkF 176 b [(0, I x1), (1, I x2), (2, S x3), (3, .slice a1 x4.length c1), (4, I x5), (5, .slice a2 x6.length c2), (13, pt p8 0), (14, .slice a11 v9.length c11), (15, I v10), (54, .bool y26)] ∧ St G w (osl r_T_term_Entry 52 a11 c11 v9 :: blk p8 (cl [I y21.1, I y21.2.1, .bool y21.2.2.1, I y21.2.2.2.1, .map (some p9)] 42) :: mpr S (rPt r_T_platter_file) p9 y21.2.2.2.2 :: dsl rS a1 c1 x4 :: dsl (rI .i64) a2 c2 x6 :: F)) ?_ ?_
          · rintro _ w ⟨b, rfl, hst⟩
            have hr := hk9
            refine wp_cond_mkF (t := y26) rfl (fun h => ?_) (fun h => ?_)
            · have hr := (if_pos h).symm.trans hr
              refine wp_skip ?_
              refine th_n ?_
              refine wp_seq ?_
              refine wp_block ?_
              refine wp_reg ?_
              refine L_pure 6 [(0, I x1), (1, I x2), (2, S x3), (3, .slice a1 x4.length c1), (4, I x5), (5, .slice a2 x6.length c2), (13, pt p8 0), (15, I v10), (57, .slice a11 v9.length c11), (59, I (IntKind.i64.wrap (v10 + 1))), (60, I x1), (61, .slice a1 x4.length c1), (62, I v10)] (by kernel_rfl) fun b => ?_
              obtain ⟨x11, hx5, hr⟩ := bnd hr
              refine L_op rfl (O_run (v := pt (ab a1) (ao a1 + v10.toNat * 1)) (w' := w) (R_ia L34 rfl rfl (dsl_addr (hst.pull 3) hx5) (gt_some hx5).1 (gt_some hx5).2.1) rfl rfl ?_)
              obtain ⟨q4, hc4, hst⟩ := dsl_cells (hst.pull 3) hx5
              have hst := hst.drop
              refine L_op rfl (O_run (v := S x11) (w' := w) (R_loadAt (off := ao a1 + v10.toNat * 1) (j := 0) hc4 rfl rfl) rfl rfl ?_)
              obtain ⟨y27, hy27, hr⟩ := bnd hr
              refine L_op rfl (O_call (vs := #[S x11, I 30]) Try.call13 (by kernel_rfl) (glacierlaw01_Cut_ok k x11 30 y27 hst hy27 fun w hst => ?_))
              refine CK_ret rfl ?_
              refine L_pure 1 [(0, I x1), (1, I x2), (2, S x3), (3, .slice a1 x4.length c1), (4, I x5), (5, .slice a2 x6.length c2), (13, pt p8 0), (15, I v10), (57, .slice a11 v9.length c11), (66, .agg #[I (IntKind.i64.wrap (v10 + 1)), I x1, S y27])] (by kernel_rfl) fun b => ?_
              refine L_op rfl (O_bs (T := 52) [I (IntKind.i64.wrap (v10 + 1)), I x1, S y27] #[(0, .agg #[I (IntKind.i64.wrap (v10 + 1)), I x1, S y27])] hst (by kernel_rfl) (by kernel_rfl) rfl fun p11 w hst => ?_)
              have hst := osl_of_blk0 (ecs := [[I (IntKind.i64.wrap (v10 + 1)), I x1, S y27]]) r_T_term_Entry [(T_term_Entry.mk (IntKind.i64.wrap (v10 + 1)) x1 y27)] rfl (fun m => ⟨⟨(), rfl, trivial⟩, trivial⟩) rfl hst
              obtain ⟨hb2, hr⟩ := chk hr
              refine L_op rfl (O_app_o L50 (hst.pull 2) rfl rfl hb2 rfl fun a13 c13 w hst => ?_)
              refine L_pure 1 [(0, I x1), (1, I x2), (2, S x3), (3, .slice a1 x4.length c1), (4, I x5), (5, .slice a2 x6.length c2), (13, pt p8 0), (14, .slice a13 (v9 ++ ([(T_term_Entry.mk (IntKind.i64.wrap (v10 + 1)) x1 y27)])).length c13), (15, I v10)] (by kernel_rfl) fun b => ?_
              refine wpL_nil ?_
              refine ib_n (th_n ?_)
              refine wp_reg ?_
              refine L_pure 3 [(0, I x1), (1, I x2), (2, S x3), (3, .slice a1 x4.length c1), (4, I x5), (5, .slice a2 x6.length c2), (13, pt p8 0), (14, .slice a13 (v9 ++ ([(T_term_Entry.mk (IntKind.i64.wrap (v10 + 1)) x1 y27)])).length c13), (15, I (IntKind.i64.wrap (v10 + 1)))] (by kernel_rfl) fun b => ?_
              refine wpL_nil ?_
              refine th_n ?_
              have hst := ((((((hst.pull 5).pull 3).pull 5).pull 5).pull 4).cut 5 1)
              exact ⟨(v9 ++ ([(T_term_Entry.mk (IntKind.i64.wrap (v10 + 1)) x1 y27)])), (IntKind.i64.wrap (v10 + 1)), a13, c13, (kpX [(0, I x1), (1, I x2), (2, S x3), (3, .slice a1 x4.length c1), (4, I x5), (5, .slice a2 x6.length c2), (13, pt p8 0), (14, .slice a13 (v9 ++ ([(T_term_Entry.mk (IntKind.i64.wrap (v10 + 1)) x1 y27)])).length c13), (15, I (IntKind.i64.wrap (v10 + 1)))] rfl ⟨hst, hr⟩)⟩
            · have hr := (if_neg (by rw [h]; exact Bool.false_ne_true)).symm.trans hr
              refine wp_exit ?_
              refine th_x (th_x (ib_x (th_n ?_)))
              obtain rfl := Option.some.inj hr
              have hst := (((((hst.pull 4).pull 4).pull 4).pull 4).pull 4)
              exact ⟨a11, c11, (kpX [(0, I x1), (1, I x2), (2, S x3), (4, I x5), (5, .slice a2 x6.length c2), (13, pt p8 0), (14, .slice a11 v9.length c11)] rfl hst)⟩
          · have hr := hy26
            refine wp_reg ?_
            refine L_pure 5 [(0, I x1), (1, I x2), (2, S x3), (3, .slice a1 x4.length c1), (4, I x5), (5, .slice a2 x6.length c2), (13, pt p8 0), (14, .slice a11 v9.length c11), (15, I v10), (51, .bool (decide (v10 < (x4.length : Int))))] (by kernel_rfl) fun b => ?_
            by_cases h : (decide (v10 < (x4.length : Int))) = true
            · have hr := (if_pos h).symm.trans hr
              refine L_keep ((51, .bool (decide (v10 < (x4.length : Int)))) :: [(0, I x1), (1, I x2), (2, S x3), (3, .slice a1 x4.length c1), (4, I x5), (5, .slice a2 x6.length c2), (13, pt p8 0), (14, .slice a11 v9.length c11), (15, I v10)]) rfl fun b => ?_
              refine L_bool h ?_
              refine L_pure 3 [(0, I x1), (1, I x2), (2, S x3), (3, .slice a1 x4.length c1), (4, I x5), (5, .slice a2 x6.length c2), (13, pt p8 0), (14, .slice a11 v9.length c11), (15, I v10), (54, .bool (decide (v10 < 10)))] (by kernel_rfl) fun b => ?_
              refine wpL_nil ?_
              refine th_n ?_
              obtain rfl := Option.some.inj hr
              have hst := (((((hst.pull 4).pull 4).pull 4).pull 4).pull 4)
              exact (kpX [(0, I x1), (1, I x2), (2, S x3), (3, .slice a1 x4.length c1), (4, I x5), (5, .slice a2 x6.length c2), (13, pt p8 0), (14, .slice a11 v9.length c11), (15, I v10), (54, .bool (decide (v10 < 10)))] rfl hst)
            · have hr := (if_neg h).symm.trans hr
              refine L_keep ((51, .bool (decide (v10 < (x4.length : Int)))) :: [(0, I x1), (1, I x2), (2, S x3), (3, .slice a1 x4.length c1), (4, I x5), (5, .slice a2 x6.length c2), (13, pt p8 0), (14, .slice a11 v9.length c11), (15, I v10)]) rfl fun b => ?_
              refine L_bool (eq_false_of_ne_true h) ?_
              refine L_pure 3 [(0, I x1), (1, I x2), (2, S x3), (3, .slice a1 x4.length c1), (4, I x5), (5, .slice a2 x6.length c2), (13, pt p8 0), (14, .slice a11 v9.length c11), (15, I v10), (54, .bool false)] (by kernel_rfl) fun b => ?_
              refine wpL_nil ?_
              refine th_n ?_
              obtain rfl := Option.some.inj hr
              have hst := (((((hst.pull 4).pull 4).pull 4).pull 4).pull 4)
              exact (kpX [(0, I x1), (1, I x2), (2, S x3), (3, .slice a1 x4.length c1), (4, I x5), (5, .slice a2 x6.length c2), (13, pt p8 0), (14, .slice a11 v9.length c11), (15, I v10), (54, .bool false)] rfl hst)
  · have hr := hy22
    refine wp_reg ?_
    obtain ⟨y23, hy23, hr⟩ := bnd hr
    refine L_op rfl (O_call (vs := #[]) Try.call25 (by kernel_rfl) (glacierlaw09_awake_ok k y23 hst hy23 fun w hst => ?_))
    refine CK_ret rfl ?_
    refine L_pure 2 [(0, I x1), (1, I x2), (2, S x3), (3, .slice a1 x4.length c1), (4, I x5), (5, .slice a2 x6.length c2), (13, pt p8 0), (25, .bool (!y23))] (by kernel_rfl) fun b => ?_
    by_cases h : (!y23) = true
    · have hr := (if_pos h).symm.trans hr
      refine L_keep ((25, .bool (!y23)) :: [(0, I x1), (1, I x2), (2, S x3), (3, .slice a1 x4.length c1), (4, I x5), (5, .slice a2 x6.length c2), (13, pt p8 0)]) rfl fun b => ?_
      refine L_bool h ?_
      refine L_pure 19 [(0, I x1), (1, I x2), (2, S x3), (3, .slice a1 x4.length c1), (4, I x5), (5, .slice a2 x6.length c2), (13, pt p8 0), (44, .bool true)] (by kernel_rfl) fun b => ?_
      refine wpL_nil ?_
      refine th_n ?_
      obtain rfl := Option.some.inj hr
      have hst := ((((hst.pull 3).pull 3).pull 3).pull 3)
      exact (kpX [(0, I x1), (1, I x2), (2, S x3), (3, .slice a1 x4.length c1), (4, I x5), (5, .slice a2 x6.length c2), (13, pt p8 0), (44, .bool true)] rfl hst)
    · have hr := (if_neg h).symm.trans hr
      refine L_keep ((25, .bool (!y23)) :: [(0, I x1), (1, I x2), (2, S x3), (3, .slice a1 x4.length c1), (4, I x5), (5, .slice a2 x6.length c2), (13, pt p8 0)]) rfl fun b => ?_
      refine L_bool (eq_false_of_ne_true h) ?_
      refine L_pure 8 [(0, I x1), (1, I x2), (2, S x3), (3, .slice a1 x4.length c1), (4, I x5), (5, .slice a2 x6.length c2), (13, pt p8 0), (33, .bool (decide (x1 < 0)))] (by kernel_rfl) fun b => ?_
      by_cases h : (decide (x1 < 0)) = true
      · have hr := (if_pos h).symm.trans hr
        refine L_keep ((33, .bool (decide (x1 < 0))) :: [(0, I x1), (1, I x2), (2, S x3), (3, .slice a1 x4.length c1), (4, I x5), (5, .slice a2 x6.length c2), (13, pt p8 0)]) rfl fun b => ?_
        refine L_bool h ?_
        refine L_pure 11 [(0, I x1), (1, I x2), (2, S x3), (3, .slice a1 x4.length c1), (4, I x5), (5, .slice a2 x6.length c2), (13, pt p8 0), (44, .bool true)] (by kernel_rfl) fun b => ?_
        refine wpL_nil ?_
        refine th_n ?_
        obtain rfl := Option.some.inj hr
        have hst := ((((hst.pull 3).pull 3).pull 3).pull 3)
        exact (kpX [(0, I x1), (1, I x2), (2, S x3), (3, .slice a1 x4.length c1), (4, I x5), (5, .slice a2 x6.length c2), (13, pt p8 0), (44, .bool true)] rfl hst)
      · have hr := (if_neg h).symm.trans hr
        refine L_keep ((33, .bool (decide (x1 < 0))) :: [(0, I x1), (1, I x2), (2, S x3), (3, .slice a1 x4.length c1), (4, I x5), (5, .slice a2 x6.length c2), (13, pt p8 0)]) rfl fun b => ?_
        refine L_bool (eq_false_of_ne_true h) ?_
        refine L_pure 4 [(0, I x1), (1, I x2), (2, S x3), (3, .slice a1 x4.length c1), (4, I x5), (5, .slice a2 x6.length c2), (13, pt p8 0), (37, .bool (decide (x1 > 1099511627776)))] (by kernel_rfl) fun b => ?_
        by_cases h : (decide (x1 > 1099511627776)) = true
        · have hr := (if_pos h).symm.trans hr
          refine L_keep ((37, .bool (decide (x1 > 1099511627776))) :: [(0, I x1), (1, I x2), (2, S x3), (3, .slice a1 x4.length c1), (4, I x5), (5, .slice a2 x6.length c2), (13, pt p8 0)]) rfl fun b => ?_
          refine L_bool h ?_
          refine L_pure 7 [(0, I x1), (1, I x2), (2, S x3), (3, .slice a1 x4.length c1), (4, I x5), (5, .slice a2 x6.length c2), (13, pt p8 0), (44, .bool true)] (by kernel_rfl) fun b => ?_
          refine wpL_nil ?_
          refine th_n ?_
          obtain rfl := Option.some.inj hr
          have hst := ((((hst.pull 3).pull 3).pull 3).pull 3)
          exact (kpX [(0, I x1), (1, I x2), (2, S x3), (3, .slice a1 x4.length c1), (4, I x5), (5, .slice a2 x6.length c2), (13, pt p8 0), (44, .bool true)] rfl hst)
        · have hr := (if_neg h).symm.trans hr
          refine L_keep ((37, .bool (decide (x1 > 1099511627776))) :: [(0, I x1), (1, I x2), (2, S x3), (3, .slice a1 x4.length c1), (4, I x5), (5, .slice a2 x6.length c2), (13, pt p8 0)]) rfl fun b => ?_
          refine L_bool (eq_false_of_ne_true h) ?_
          refine L_pure 4 [(0, I x1), (1, I x2), (2, S x3), (3, .slice a1 x4.length c1), (4, I x5), (5, .slice a2 x6.length c2), (13, pt p8 0), (41, .bool (decide (x2 < 0)))] (by kernel_rfl) fun b => ?_
          by_cases h : (decide (x2 < 0)) = true
          · have hr := (if_pos h).symm.trans hr
            refine L_keep ((41, .bool (decide (x2 < 0))) :: [(0, I x1), (1, I x2), (2, S x3), (3, .slice a1 x4.length c1), (4, I x5), (5, .slice a2 x6.length c2), (13, pt p8 0)]) rfl fun b => ?_
            refine L_bool h ?_
            refine L_pure 3 [(0, I x1), (1, I x2), (2, S x3), (3, .slice a1 x4.length c1), (4, I x5), (5, .slice a2 x6.length c2), (13, pt p8 0), (44, .bool true)] (by kernel_rfl) fun b => ?_
            refine wpL_nil ?_
            refine th_n ?_
            obtain rfl := Option.some.inj hr
            have hst := ((((hst.pull 3).pull 3).pull 3).pull 3)
            exact (kpX [(0, I x1), (1, I x2), (2, S x3), (3, .slice a1 x4.length c1), (4, I x5), (5, .slice a2 x6.length c2), (13, pt p8 0), (44, .bool true)] rfl hst)
          · have hr := (if_neg h).symm.trans hr
            refine L_keep ((41, .bool (decide (x2 < 0))) :: [(0, I x1), (1, I x2), (2, S x3), (3, .slice a1 x4.length c1), (4, I x5), (5, .slice a2 x6.length c2), (13, pt p8 0)]) rfl fun b => ?_
            refine L_bool (eq_false_of_ne_true h) ?_
            refine L_pure 3 [(0, I x1), (1, I x2), (2, S x3), (3, .slice a1 x4.length c1), (4, I x5), (5, .slice a2 x6.length c2), (13, pt p8 0), (44, .bool (decide (x2 > 5)))] (by kernel_rfl) fun b => ?_
            refine wpL_nil ?_
            refine th_n ?_
            obtain rfl := Option.some.inj hr
            have hst := ((((hst.pull 3).pull 3).pull 3).pull 3)
            exact (kpX [(0, I x1), (1, I x2), (2, S x3), (3, .slice a1 x4.length c1), (4, I x5), (5, .slice a2 x6.length c2), (13, pt p8 0), (44, .bool (decide (x2 > 5)))] rfl hst)
end Go.Proofs.Ythmjdekmacoaaaa
