/- RM, one part more. -/
import Derived.Test.YtpldjopnhhbjpaaGreatRMc
namespace Go.Proofs.YtpldjopnhhbjpaaGreat
open Go.Hx Go.RowKit
def glacierlaw10_Kept_l1 (k : Nat) (x1 : T_glacierlaw10_Start) : Nat → Int → Int → (List T_glacierref09_Entry) → Option ((List T_glacierref09_Entry))
  | 0, _, _, _ => none
  | j + 1, v14, v15, v16 => (Option.bind (if decide (v15 < (x1.Terms.length : Int)) = true then some (decide (v15 < 6)) else some (false)) fun y12 => (if y12 = true then (Option.bind (gt x1.Terms v15) fun x5 => (if 0 ≤ (IntKind.i32.wrap (IntKind.i64.wrap (97 + ((mn2 (mx2 x5 v14) (mn2 (mx2 x1.Term 0) 20)).tmod 26)))) ∧ (IntKind.i32.wrap (IntKind.i64.wrap (97 + ((mn2 (mx2 x5 v14) (mn2 (mx2 x1.Term 0) 20)).tmod 26)))) < 128 then (Option.bind (cat ([99]) ([UInt8.ofNat (IntKind.i32.wrap (IntKind.i64.wrap (97 + ((mn2 (mx2 x5 v14) (mn2 (mx2 x1.Term 0) 20)).tmod 26)))).toNat])) fun x6 => (if room (v16.length + ([(T_glacierref09_Entry.mk (IntKind.i64.wrap ((IntKind.i64.wrap ((mn2 (mx2 x1.Base 0) 4) + v15)) + 1)) (mn2 (mx2 x5 v14) (mn2 (mx2 x1.Term 0) 20)) x6)]).length) 32 = true then (glacierlaw10_Kept_l1 k x1 j (mn2 (mx2 x5 v14) (mn2 (mx2 x1.Term 0) 20)) (IntKind.i64.wrap (v15 + 1)) (v16 ++ ([(T_glacierref09_Entry.mk (IntKind.i64.wrap ((IntKind.i64.wrap ((mn2 (mx2 x1.Base 0) 4) + v15)) + 1)) (mn2 (mx2 x5 v14) (mn2 (mx2 x1.Term 0) 20)) x6)]))) else none)) else none)) else some (v16)))
def glacierlaw10_Kept_l2 (k : Nat) (y11 : ((List T_glacierref09_Entry))) : Nat → (List T_term_Entry) → Int → Option ((List T_term_Entry))
  | 0, _, _ => none
  | j + 1, v19, v20 => (if decide (v20 < (y11.length : Int)) = true then (Option.bind (gt y11 v20) fun x7 => (if room (v19.length + ([(T_term_Entry.mk x7.Index x7.Term x7.Cmd)]).length) 32 = true then (glacierlaw10_Kept_l2 k y11 j (v19 ++ ([(T_term_Entry.mk x7.Index x7.Term x7.Cmd)])) (IntKind.i64.wrap (v20 + 1))) else none)) else some (v19))
def glacierlaw10_Kept (k : Nat) (x1 : T_glacierlaw10_Start) : Option (Int × Int × Bool × Int × (List ((List UInt8) × (Option T_platter_file))) × (List T_glacierref09_Entry) × T_glacierref09_State) := (Option.bind (platter_New k 1048576) fun y9 => (Option.bind (if decide ((mn2 (mx2 x1.Base 0) 4) > 0) = true then some ((mn2 1 (mn2 (mx2 x1.Term 0) 20)), [115, 110, 97, 112]) else some ((0 : Int), [])) fun y10 => (Option.bind (glacierlaw10_Kept_l1 k x1 k y10.1 (0 : Int) ([])) fun y11 => (Option.bind (glacierlaw10_Kept_l2 k y11 k ([]) (0 : Int)) fun y13 => (Option.bind (Option.bind (term_SaveTerm k y9.1 y9.2.1 y9.2.2.1 y9.2.2.2.1 y9.2.2.2.2 (mn2 (mx2 x1.Term 0) 20) (mn2 (mx2 x1.Vote 0) 5)) fun y15 => (if (y15.1 != 0) = true then some (true, y15.2.1, y15.2.2.1, y15.2.2.2) else (Option.bind (term_SaveSnap k y9.1 y15.2.1 y9.2.2.1 y15.2.2.1 y15.2.2.2 (mn2 (mx2 x1.Base 0) 4) y10.1 y10.2 y13) fun y16 => some ((y16.1 != 0), y16.2.1, y16.2.2.1, y16.2.2.2)))) fun y14 => (if y14.1 = true then none else some (y9.1, y14.2.1, y9.2.2.1, y14.2.2.1, y14.2.2.2, y11, (T_glacierref09_State.mk (mn2 (mx2 x1.Term 0) 20) (mn2 (mx2 x1.Vote 0) 5) (mn2 (mx2 x1.Base 0) 4) y10.1 y10.2 y11))))))))
set_option maxRecDepth 100000 in
set_option maxHeartbeats 4000000 in
theorem glacierlaw10_Kept_ok {G w : World} {F : List HP} {R : Ending → World → Prop} (k : Nat) (x1 : T_glacierlaw10_Start) (a1 : Option Addr) (c1 : Nat) (r : (Int × Int × Bool × Int × (List ((List UInt8) × (Option T_platter_file))) × (List T_glacierref09_Entry) × T_glacierref09_State)) (hst : St G w (dsl (rI .i64) a1 c1 x1.Terms :: F)) (hr : glacierlaw10_Kept k x1 = some r)
    (hR : ∀ (p10 : Nat) (p11 : Nat) (a10 : Option Addr) (c10 : Nat) w', St G w' (osl r_T_glacierref09_Entry 59 a10 c10 r.2.2.2.2.2.1 :: blk p10 (cl [I r.1, I r.2.1, .bool r.2.2.1, I r.2.2.2.1, .map (some p11)] 79) :: mpr S (rPt r_T_platter_file) p11 r.2.2.2.2.1 :: dsl (rI .i64) a1 c1 x1.Terms :: F) → R (.returned (.tuple #[pt p10 0, .agg #[I r.2.2.2.2.2.2.Term, I r.2.2.2.2.2.2.Vote, I r.2.2.2.2.2.2.Base, I r.2.2.2.2.2.2.BaseTerm, S r.2.2.2.2.2.2.Snap, .slice a10 r.2.2.2.2.2.1.length c10]])) w') :
    Calls Tryz.prog 7 #[.agg #[I x1.Term, I x1.Vote, I x1.Base, .slice a1 x1.Terms.length c1]] w R := by
  unfold glacierlaw10_Kept at hr
  refine enter Tryz.func7 rfl [(0, .agg #[I x1.Term, I x1.Vote, I x1.Base, .slice a1 x1.Terms.length c1])] rfl rfl fun b => ?_
  refine wp_seq ?_
  refine wp_reg ?_
  refine L_op rfl (O_box [I x1.Term, I x1.Vote, I x1.Base, .slice a1 x1.Terms.length c1] hst rfl rfl fun p12 w hst => ?_)
  refine L_pure 1 [(1, pt p12 0)] (by kernel_rfl) fun b => ?_
  refine L_op rfl (O_alloc (i := Tryz.t32) (z := .agg #[I 0, I 0, I 0, I 0, S ([]), .slice none 0 0]) [I 0, I 0, I 0, I 0, S ([]), .slice none 0 0] hst rfl rfl rfl rfl fun p13 w hst => ?_)
  refine wpL_nil ?_
  refine th_n ?_
  refine wp_seq ?_
  refine wp_reg ?_
  obtain ⟨y9, hy9, hr⟩ := bnd hr
  refine L_op rfl (O_call (vs := #[I 1048576]) Tryz.call17 (by kernel_rfl) (platter_New_ok k 1048576 y9 hst hy9 fun p14 p15 w hst => ?_))
  refine CK_ret rfl ?_
  refine L_pure 1 [(1, pt p12 0), (3, pt p13 0), (4, pt p14 0)] (by kernel_rfl) fun b => ?_
  refine wpL_nil ?_
  refine th_n ?_
  refine wp_seq ?_
  refine wp_reg ?_
  refine L_pure 1 [(1, pt p12 0), (3, pt p13 0), (4, pt p14 0), (12, pt p12 0)] (by kernel_rfl) fun b => ?_
  refine L_op rfl (O_run (v := I x1.Term) (w' := w) (R_load (hst.pull 3) rfl rfl) rfl rfl ?_)
  refine L_pure 3 [(1, pt p12 0), (3, pt p13 0), (4, pt p14 0), (15, I (mn2 (mx2 x1.Term 0) 20)), (16, pt p12 1)] (by kernel_rfl) fun b => ?_
  refine L_op rfl (O_run (v := I x1.Vote) (w' := w) (R_load (hst.pull 3) rfl rfl) rfl rfl ?_)
  refine L_pure 3 [(1, pt p12 0), (3, pt p13 0), (4, pt p14 0), (15, I (mn2 (mx2 x1.Term 0) 20)), (19, I (mn2 (mx2 x1.Vote 0) 5)), (20, pt p12 2)] (by kernel_rfl) fun b => ?_
  refine L_op rfl (O_run (v := I x1.Base) (w' := w) (R_load (hst.pull 3) rfl rfl) rfl rfl ?_)
  refine L_pure 3 [(1, pt p12 0), (3, pt p13 0), (4, pt p14 0), (24, .agg #[I (mn2 (mx2 x1.Term 0) 20), I (mn2 (mx2 x1.Vote 0) 5), I (mn2 (mx2 x1.Base 0) 4), I 0, S ([]), .slice none 0 0])] (by kernel_rfl) fun b => ?_
  refine L_op rfl (O_alloc (i := Tryz.t32) (z := .agg #[I 0, I 0, I 0, I 0, S ([]), .slice none 0 0]) [I 0, I 0, I 0, I 0, S ([]), .slice none 0 0] hst rfl rfl rfl rfl fun p16 w hst => ?_)
  refine L_op rfl (O_store [I (mn2 (mx2 x1.Term 0) 20), I (mn2 (mx2 x1.Vote 0) 5), I (mn2 (mx2 x1.Base 0) 4), I 0, S ([]), .slice none 0 0] hst rfl rfl (by kernel_rfl) fun w hst => ?_)
  refine wpL_nil ?_
  refine th_n ?_
  obtain ⟨y10, hy10, hk6⟩ := bnd hr
  clear hr
  refine wp_seq_cut (fun a w => ∃ (b : Nat → Value), a = mkF 113 b [(1, pt p12 0), (3, pt p13 0), (4, pt p14 0), (5, pt p16 0)] ∧ St G w (blk p16 (cl [I (mn2 (mx2 x1.Term 0) 20), I (mn2 (mx2 x1.Vote 0) 5), I (mn2 (mx2 x1.Base 0) 4), I y10.1, S y10.2, .slice none 0 0] 32) :: blk p14 (cl [I y9.1, I y9.2.1, .bool y9.2.2.1, I y9.2.2.2.1, .map (some p15)] 79) :: mpr S (rPt r_T_platter_file) p15 y9.2.2.2.2 :: blk p13 (cl [I 0, I 0, I 0, I 0, S ([]), .slice none 0 0] 32) :: blk p12 (cl [I x1.Term, I x1.Vote, I x1.Base, .slice a1 x1.Terms.length c1] 24) :: dsl (rI .i64) a1 c1 x1.Terms :: F)) ?_ ?_
  · rintro _ w ⟨b, rfl, hst⟩
    have hr := hk6
    refine wp_seq ?_
    refine wp_reg ?_
    refine L_pure 1 [(1, pt p12 0), (3, pt p13 0), (4, pt p14 0), (5, pt p16 0), (33, pt p16 3)] (by kernel_rfl) fun b => ?_
    refine L_op rfl (O_run (v := I y10.1) (w' := w) (R_load hst rfl rfl) rfl rfl ?_)
    refine L_pure 1 [(1, pt p12 0), (3, pt p13 0), (4, pt p14 0), (5, pt p16 0), (6, I y10.1)] (by kernel_rfl) fun b => ?_
    refine wpL_nil ?_
    refine th_n ?_
    refine wp_seq ?_
    refine wp_seq ?_
    refine wp_reg ?_
    refine L_pure 1 [(1, pt p12 0), (3, pt p13 0), (4, pt p14 0), (5, pt p16 0), (6, I y10.1), (7, I 0)] (by kernel_rfl) fun b => ?_
    refine wpL_nil ?_
    refine th_n ?_
    obtain ⟨y11, hy11, hk7⟩ := bnd hr
    clear hr
    refine Go.Hx.wp_cut (fun a w => ∃ (a13 : Option Addr) (c13 : Nat)(b : Nat → Value), a = mkF 113 b [(3, pt p13 0), (4, pt p14 0), (5, pt p16 0)] ∧ St G w (osl r_T_glacierref09_Entry 59 a13 c13 y11 :: blk p16 (cl [I (mn2 (mx2 x1.Term 0) 20), I (mn2 (mx2 x1.Vote 0) 5), I (mn2 (mx2 x1.Base 0) 4), I y10.1, S y10.2, .slice a13 y11.length c13] 32) :: blk p14 (cl [I y9.1, I y9.2.1, .bool y9.2.2.1, I y9.2.2.2.1, .map (some p15)] 79) :: mpr S (rPt r_T_platter_file) p15 y9.2.2.2.2 :: blk p13 (cl [I 0, I 0, I 0, I 0, S ([]), .slice none 0 0] 32) :: blk p12 (cl [I x1.Term, I x1.Vote, I x1.Base, .slice a1 x1.Terms.length c1] 24) :: dsl (rI .i64) a1 c1 x1.Terms :: F)) ?_ ?_
    · rintro _ w ⟨a13, c13, b, rfl, hst⟩
      have hr := hk7
      refine th_n ?_
      refine wp_seq ?_
      refine wp_reg ?_
      refine L_op rfl (O_bs (T := 48) [] #[] hst (by kernel_rfl) (by kernel_rfl) rfl fun p18 w hst => ?_)
      have hst := osl_of_blk0 (ecs := []) r_T_term_Entry [] rfl (fun m => trivial) rfl hst
      refine L_pure 1 [(3, pt p13 0), (4, pt p14 0), (5, pt p16 0), (8, .slice (some ⟨p18, 0, none⟩) 0 0)] (by kernel_rfl) fun b => ?_
      refine wpL_nil ?_
      refine th_n ?_
      refine wp_seq ?_
      refine wp_seq ?_
      refine wp_reg ?_
      refine L_pure 1 [(3, pt p13 0), (4, pt p14 0), (5, pt p16 0), (8, .slice (some ⟨p18, 0, none⟩) 0 0), (75, pt p16 5)] (by kernel_rfl) fun b => ?_
      refine L_op rfl (O_run (v := .slice a13 y11.length c13) (w' := w) (R_load (hst.pull 2) rfl rfl) rfl rfl ?_)
      refine L_pure 2 [(3, pt p13 0), (4, pt p14 0), (5, pt p16 0), (8, .slice (some ⟨p18, 0, none⟩) 0 0), (76, .slice a13 y11.length c13), (77, I (y11.length : Int)), (78, I 0)] (by kernel_rfl) fun b => ?_
      refine wpL_nil ?_
      refine th_n ?_
      obtain ⟨y13, hy13, hk9⟩ := bnd hr
      clear hr
      refine Go.Hx.wp_cut (fun a w => ∃ (a17 : Option Addr) (c17 : Nat)(b : Nat → Value), a = mkF 113 b [(3, pt p13 0), (4, pt p14 0), (5, pt p16 0), (8, .slice a17 y13.length c17)] ∧ St G w (osl r_T_term_Entry 48 a17 c17 y13 :: osl r_T_glacierref09_Entry 59 a13 c13 y11 :: blk p16 (cl [I (mn2 (mx2 x1.Term 0) 20), I (mn2 (mx2 x1.Vote 0) 5), I (mn2 (mx2 x1.Base 0) 4), I y10.1, S y10.2, .slice a13 y11.length c13] 32) :: blk p14 (cl [I y9.1, I y9.2.1, .bool y9.2.2.1, I y9.2.2.2.1, .map (some p15)] 79) :: mpr S (rPt r_T_platter_file) p15 y9.2.2.2.2 :: blk p13 (cl [I 0, I 0, I 0, I 0, S ([]), .slice none 0 0] 32) :: blk p12 (cl [I x1.Term, I x1.Vote, I x1.Base, .slice a1 x1.Terms.length c1] 24) :: dsl (rI .i64) a1 c1 x1.Terms :: F)) ?_ ?_
      · rintro _ w ⟨a17, c17, b, rfl, hst⟩
        have hr := hk9
        refine th_n ?_
        refine wp_seq ?_
        obtain ⟨y14, hy14, hk10⟩ := bnd hr
        clear hr
        refine wp_seq_cut (fun a w => ∃ (b : Nat → Value), a = mkF 113 b [(3, pt p13 0), (4, pt p14 0), (5, pt p16 0), (109, .bool y14.1)] ∧ St G w (blk p14 (cl [I y9.1, I y14.2.1, .bool y9.2.2.1, I y14.2.2.1, .map (some p15)] 79) :: mpr S (rPt r_T_platter_file) p15 y14.2.2.2 :: dsl r_T_term_Entry a17 c17 y13 :: osl r_T_glacierref09_Entry 59 a13 c13 y11 :: blk p16 (cl [I (mn2 (mx2 x1.Term 0) 20), I (mn2 (mx2 x1.Vote 0) 5), I (mn2 (mx2 x1.Base 0) 4), I y10.1, S y10.2, .slice a13 y11.length c13] 32) :: blk p13 (cl [I 0, I 0, I 0, I 0, S ([]), .slice none 0 0] 32) :: blk p12 (cl [I x1.Term, I x1.Vote, I x1.Base, .slice a1 x1.Terms.length c1] 24) :: dsl (rI .i64) a1 c1 x1.Terms :: F)) ?_ ?_
        · rintro _ w ⟨b, rfl, hst⟩
          have hr := hk10
          refine wp_cond_mkF (t := y14.1) rfl (fun h => ?_) (fun h => ?_)
          · have hr := (if_pos h).symm.trans hr
            refine wp_seq ?_
            refine wp_regG (SP 2 (fun w => St G w (blk p14 (cl [I y9.1, I y14.2.1, .bool y9.2.2.1, I y14.2.2.1, .map (some p15)] 79) :: mpr S (rPt r_T_platter_file) p15 y14.2.2.2 :: dsl r_T_term_Entry a17 c17 y13 :: osl r_T_glacierref09_Entry 59 a13 c13 y11 :: blk p16 (cl [I (mn2 (mx2 x1.Term 0) 20), I (mn2 (mx2 x1.Vote 0) 5), I (mn2 (mx2 x1.Base 0) 4), I y10.1, S y10.2, .slice a13 y11.length c13] 32) :: blk p13 (cl [I 0, I 0, I 0, I 0, S ([]), .slice none 0 0] 32) :: blk p12 (cl [I x1.Term, I x1.Vote, I x1.Base, .slice a1 x1.Terms.length c1] 24) :: dsl (rI .i64) a1 c1 x1.Terms :: F))) rfl ?_
            have hst := hst.draw (n := w.drawn + 1)
            generalize { w with drawn := w.drawn + 1 } = w at hst ⊢
            refine P_take (i := 0) (v := .agg #[I (mn2 (mx2 x1.Term 0) 20), I (mn2 (mx2 x1.Vote 0) 5), I (mn2 (mx2 x1.Base 0) 4), I y10.1, S y10.2, .slice a13 y11.length c13]) 2 [0] (by kernel_rfl) rfl (by kernel_rfl) (fun _ _ _ h => h) rfl rfl rfl (fun w hst => R_load (hst.pull 4) rfl rfl) (((((((((hst.pull 7).pull 7).pull 7).pull 7).pull 7).pull 7).pull 7).pull 7)) ?_
            refine P_pure (i := 1) (v := .pointer none) 2 rfl rfl (by kernel_rfl) (fun _ _ _ h => h) rfl rfl rfl (by kernel_rfl) (.inr ((((((((hst.pull 7).pull 7).pull 7).pull 7).pull 7).pull 7).pull 7).pull 7)) ?_
            refine P_act (i := 2) 2 (by kernel_rfl) rfl rfl (by kernel_rfl) (O_store [I (mn2 (mx2 x1.Term 0) 20), I (mn2 (mx2 x1.Vote 0) 5), I (mn2 (mx2 x1.Base 0) 4), I y10.1, S y10.2, .slice a13 y11.length c13] (hst.pull 5) rfl rfl (by kernel_rfl) fun w hst => ?_)
            refine wpG_done (by kernel_rfl) ?_ _
            refine C_keepQ [(2, .pointer none), (3, pt p13 0)] rfl fun b => ?_
            refine th_n ?_
            refine wp_ret ?_
            refine th_r ?_
            cases hr
          · have hr := (if_neg (by rw [h]; exact Bool.false_ne_true)).symm.trans hr
            refine wp_skip ?_
            refine th_n ?_
            refine wp_seq ?_
            refine wp_regG (SP 3 (fun w => St G w (blk p14 (cl [I y9.1, I y14.2.1, .bool y9.2.2.1, I y14.2.2.1, .map (some p15)] 79) :: mpr S (rPt r_T_platter_file) p15 y14.2.2.2 :: dsl r_T_term_Entry a17 c17 y13 :: osl r_T_glacierref09_Entry 59 a13 c13 y11 :: blk p16 (cl [I (mn2 (mx2 x1.Term 0) 20), I (mn2 (mx2 x1.Vote 0) 5), I (mn2 (mx2 x1.Base 0) 4), I y10.1, S y10.2, .slice a13 y11.length c13] 32) :: blk p13 (cl [I 0, I 0, I 0, I 0, S ([]), .slice none 0 0] 32) :: blk p12 (cl [I x1.Term, I x1.Vote, I x1.Base, .slice a1 x1.Terms.length c1] 24) :: dsl (rI .i64) a1 c1 x1.Terms :: F))) rfl ?_
            have hst := hst.draw (n := w.drawn + 1)
            generalize { w with drawn := w.drawn + 1 } = w at hst ⊢
            refine P_pure (i := 0) (v := pt p14 0) 3 rfl rfl (by kernel_rfl) (fun _ _ _ h => h) rfl rfl rfl (by kernel_rfl) (.inr ((((((((hst.pull 7).pull 7).pull 7).pull 7).pull 7).pull 7).pull 7).pull 7)) ?_
            refine P_take (i := 1) (v := .agg #[I (mn2 (mx2 x1.Term 0) 20), I (mn2 (mx2 x1.Vote 0) 5), I (mn2 (mx2 x1.Base 0) 4), I y10.1, S y10.2, .slice a13 y11.length c13]) 3 [1] (by kernel_rfl) rfl (by kernel_rfl) (fun _ _ _ h => h) rfl rfl rfl (fun w hst => R_load (hst.pull 4) rfl rfl) (((((((((hst.pull 7).pull 7).pull 7).pull 7).pull 7).pull 7).pull 7).pull 7)) ?_
            refine P_pure (i := 2) (v := pt p14 0) 3 rfl rfl (by kernel_rfl) (fun _ _ _ h => h) rfl rfl rfl (by kernel_rfl) (.inr ((((((((hst.pull 7).pull 7).pull 7).pull 7).pull 7).pull 7).pull 7).pull 7)) ?_
            refine P_act (i := 3) 3 (by kernel_rfl) rfl rfl (by kernel_rfl) (O_store [I (mn2 (mx2 x1.Term 0) 20), I (mn2 (mx2 x1.Vote 0) 5), I (mn2 (mx2 x1.Base 0) 4), I y10.1, S y10.2, .slice a13 y11.length c13] (hst.pull 5) rfl rfl (by kernel_rfl) fun w hst => ?_)
            refine wpG_done (by kernel_rfl) ?_ _
            refine C_keepQ [(2, pt p14 0), (3, pt p13 0)] rfl fun b => ?_
            refine th_n ?_
            refine wp_ret ?_
            refine retTC (v := .agg #[I (mn2 (mx2 x1.Term 0) 20), I (mn2 (mx2 x1.Vote 0) 5), I (mn2 (mx2 x1.Base 0) 4), I y10.1, S y10.2, .slice a13 y11.length c13]) (p := p13) (off := 0) (cs := [I (mn2 (mx2 x1.Term 0) 20), I (mn2 (mx2 x1.Vote 0) 5), I (mn2 (mx2 x1.Base 0) 4), I y10.1, S y10.2, .slice a13 y11.length c13]) (T' := 32) rfl rfl hst (by kernel_rfl) rfl ?_
            obtain rfl := Option.some.inj hr
            have hst := (((((hst.pull 7).pull 3).pull 3).pull 5).cut 4 4)
            exact hR p14 p15 a13 c13 _ hst
        · have hr := hy14
          refine wp_reg ?_
          refine L_pure 5 [(3, pt p13 0), (4, pt p14 0), (5, pt p16 0), (8, .slice a17 y13.length c17), (89, .bool false), (90, pt p14 0), (91, pt p16 0)] (by kernel_rfl) fun b => ?_
          refine L_op rfl (O_run (v := I (mn2 (mx2 x1.Term 0) 20)) (w' := w) (R_load (hst.pull 2) rfl rfl) rfl rfl ?_)
          refine L_pure 1 [(3, pt p13 0), (4, pt p14 0), (5, pt p16 0), (8, .slice a17 y13.length c17), (89, .bool false), (90, pt p14 0), (92, I (mn2 (mx2 x1.Term 0) 20)), (93, pt p16 1)] (by kernel_rfl) fun b => ?_
          refine L_op rfl (O_run (v := I (mn2 (mx2 x1.Vote 0) 5)) (w' := w) (R_load (hst.pull 2) rfl rfl) rfl rfl ?_)
          obtain ⟨y15, hy15, hr⟩ := bnd hr
          refine L_op rfl (O_call (vs := #[pt p14 0, I (mn2 (mx2 x1.Term 0) 20), I (mn2 (mx2 x1.Vote 0) 5)]) Tryz.call22 (by kernel_rfl) (term_SaveTerm_ok k y9.1 y9.2.1 y9.2.2.1 y9.2.2.2.1 y9.2.2.2.2 (mn2 (mx2 x1.Term 0) 20) (mn2 (mx2 x1.Vote 0) 5) p14 p15 y15 ((hst.pull 4).pull 4) hy15 fun w hst => ?_))
          refine CK_ret rfl ?_
          refine L_pure 3 [(3, pt p13 0), (4, pt p14 0), (5, pt p16 0), (8, .slice a17 y13.length c17), (98, .bool (y15.1 != 0))] (by kernel_rfl) fun b => ?_
          by_cases h : (y15.1 != 0) = true
          · have hr := (if_pos h).symm.trans hr
            refine L_keep ((98, .bool (y15.1 != 0)) :: [(3, pt p13 0), (4, pt p14 0), (5, pt p16 0), (8, .slice a17 y13.length c17)]) rfl fun b => ?_
            refine L_bool h ?_
            refine L_pure 11 [(3, pt p13 0), (4, pt p14 0), (5, pt p16 0), (109, .bool true)] (by kernel_rfl) fun b => ?_
            refine wpL_nil ?_
            refine th_n ?_
            obtain rfl := Option.some.inj hr
            have hst := osl_freeze (hst.pull 2)
            have hst := ((((((((hst.pull 7).pull 7).pull 7).pull 7).pull 7).pull 5).pull 7).pull 7)
            exact (kpX [(3, pt p13 0), (4, pt p14 0), (5, pt p16 0), (109, .bool true)] rfl hst)
          · have hr := (if_neg h).symm.trans hr
            refine L_keep ((98, .bool (y15.1 != 0)) :: [(3, pt p13 0), (4, pt p14 0), (5, pt p16 0), (8, .slice a17 y13.length c17)]) rfl fun b => ?_
            refine L_bool (eq_false_of_ne_true h) ?_
            refine L_pure 2 [(3, pt p13 0), (4, pt p14 0), (5, pt p16 0), (8, .slice a17 y13.length c17), (98, .bool false), (99, pt p14 0), (100, pt p16 2)] (by kernel_rfl) fun b => ?_
            refine L_op rfl (O_run (v := I (mn2 (mx2 x1.Base 0) 4)) (w' := w) (R_load (hst.pull 4) rfl rfl) rfl rfl ?_)
            refine L_pure 1 [(3, pt p13 0), (4, pt p14 0), (5, pt p16 0), (8, .slice a17 y13.length c17), (98, .bool false), (99, pt p14 0), (101, I (mn2 (mx2 x1.Base 0) 4)), (102, pt p16 3)] (by kernel_rfl) fun b => ?_
            refine L_op rfl (O_run (v := I y10.1) (w' := w) (R_load (hst.pull 4) rfl rfl) rfl rfl ?_)
            refine L_pure 1 [(3, pt p13 0), (4, pt p14 0), (5, pt p16 0), (8, .slice a17 y13.length c17), (98, .bool false), (99, pt p14 0), (101, I (mn2 (mx2 x1.Base 0) 4)), (103, I y10.1), (104, pt p16 4)] (by kernel_rfl) fun b => ?_
            refine L_op rfl (O_run (v := S y10.2) (w' := w) (R_load (hst.pull 4) rfl rfl) rfl rfl ?_)
            refine L_pure 1 [(3, pt p13 0), (4, pt p14 0), (5, pt p16 0), (98, .bool false), (99, pt p14 0), (101, I (mn2 (mx2 x1.Base 0) 4)), (103, I y10.1), (105, S y10.2), (106, .slice a17 y13.length c17)] (by kernel_rfl) fun b => ?_
            obtain ⟨y16, hy16, hr⟩ := bnd hr
            have hst := osl_freeze (hst.pull 2)
            refine L_op rfl (O_call (vs := #[pt p14 0, I (mn2 (mx2 x1.Base 0) 4), I y10.1, S y10.2, .slice a17 y13.length c17]) Tryz.call23 (by kernel_rfl) (term_SaveSnap_ok k y9.1 y15.2.1 y9.2.2.1 y15.2.2.1 y15.2.2.2 (mn2 (mx2 x1.Base 0) 4) y10.1 y10.2 y13 p14 p15 a17 c17 y16 ((hst.pull 2).pull 2) hy16 fun w hst => ?_))
            refine CK_ret rfl ?_
            refine L_pure 2 [(3, pt p13 0), (4, pt p14 0), (5, pt p16 0), (109, .bool (y16.1 != 0))] (by kernel_rfl) fun b => ?_
            refine wpL_nil ?_
            refine th_n ?_
            obtain rfl := Option.some.inj hr
            have hst := ((((((((hst.pull 7).pull 7).pull 7).pull 7).pull 7).pull 7).pull 7).pull 7)
            exact (kpX [(3, pt p13 0), (4, pt p14 0), (5, pt p16 0), (109, .bool (y16.1 != 0))] rfl hst)
      · have hst := ((((((((hst.pull 7).pull 7).pull 7).pull 7).pull 7).pull 7).pull 7).pull 7)
        refine wp_block ?_
        refine wp_loop_fuel (fun j a w => ∃ (v19 : (List T_term_Entry)) (v20 : Int) (a15 : Option Addr) (c15 : Nat) (b : Nat → Value), a = mkF 113 b [(3, pt p13 0), (4, pt p14 0), (5, pt p16 0), (8, .slice a15 v19.length c15), (76, .slice a13 y11.length c13), (77, I (y11.length : Int)), (78, I v20)] ∧ St G w (osl r_T_term_Entry 48 a15 c15 v19 :: osl r_T_glacierref09_Entry 59 a13 c13 y11 :: blk p16 (cl [I (mn2 (mx2 x1.Term 0) 20), I (mn2 (mx2 x1.Vote 0) 5), I (mn2 (mx2 x1.Base 0) 4), I y10.1, S y10.2, .slice a13 y11.length c13] 32) :: blk p14 (cl [I y9.1, I y9.2.1, .bool y9.2.2.1, I y9.2.2.2.1, .map (some p15)] 79) :: mpr S (rPt r_T_platter_file) p15 y9.2.2.2.2 :: blk p13 (cl [I 0, I 0, I 0, I 0, S ([]), .slice none 0 0] 32) :: blk p12 (cl [I x1.Term, I x1.Vote, I x1.Base, .slice a1 x1.Terms.length c1] 24) :: dsl (rI .i64) a1 c1 x1.Terms :: F) ∧ glacierlaw10_Kept_l2 k y11 j v19 v20 = some y13) (k := k) ⟨[], (0 : Int), (some ⟨p18, 0, none⟩), 0, (kpX [(3, pt p13 0), (4, pt p14 0), (5, pt p16 0), (8, .slice (some ⟨p18, 0, none⟩) 0 0), (76, .slice a13 y11.length c13), (77, I (y11.length : Int)), (78, I 0)] rfl ⟨hst, hy13⟩)⟩ ?_ ?_
        · rintro _ _ ⟨_, _, _, _, _, _, _, h⟩
          rw [glacierlaw10_Kept_l2] at h
          cases h
        · rintro j _ w ⟨v19, v20, a15, c15, b, rfl, hst, hr⟩
          rw [glacierlaw10_Kept_l2] at hr
          refine wp_seq ?_
          refine wp_reg ?_
          refine L_pure 1 [(3, pt p13 0), (4, pt p14 0), (5, pt p16 0), (8, .slice a15 v19.length c15), (76, .slice a13 y11.length c13), (77, I (y11.length : Int)), (78, I v20), (79, .bool (decide (v20 < (y11.length : Int))))] (by kernel_rfl) fun b => ?_
          refine wpL_nil ?_
          refine th_n ?_
          refine wp_seq ?_
          refine wp_cond_mkF (t := decide (v20 < (y11.length : Int))) rfl (fun h => ?_) (fun h => ?_)
          · have hr := (if_pos h).symm.trans hr
            refine wp_skip ?_
            refine th_n ?_
            refine wp_seq ?_
            refine wp_block ?_
            refine wp_seq ?_
            refine wp_reg ?_
            obtain ⟨x7, hx6, hr⟩ := bnd hr
            refine L_op rfl (O_run (v := pt (ab a13) (ao a13 + v20.toNat * 3)) (w' := w) (R_ia L30 rfl rfl (osl_addr (hst.pull 1) hx6) (gt_some hx6).1 (gt_some hx6).2.1) rfl rfl ?_)
            obtain ⟨q4, hc4, hst⟩ := osl_cells (hst.pull 1) hx6
            have hst := hst.drop
            refine L_op rfl (O_run (v := .agg #[I x7.Index, I x7.Term, S x7.Cmd]) (w' := w) (R_loadAt (off := ao a13 + v20.toNat * 3) (j := 0) hc4 rfl rfl) rfl rfl ?_)
            refine L_op rfl (O_alloc (i := Tryz.t59) (z := .agg #[I 0, I 0, S ([])]) [I 0, I 0, S ([])] hst rfl rfl rfl rfl fun p19 w hst => ?_)
            refine L_op rfl (O_store [I x7.Index, I x7.Term, S x7.Cmd] hst rfl rfl (by kernel_rfl) fun w hst => ?_)
            refine wpL_nil ?_
            refine th_n ?_
            refine wp_reg ?_
            refine L_pure 1 [(3, pt p13 0), (4, pt p14 0), (5, pt p16 0), (10, pt p19 0), (76, .slice a13 y11.length c13), (77, I (y11.length : Int)), (78, I v20), (82, .slice a15 v19.length c15)] (by kernel_rfl) fun b => ?_
            refine L_op rfl (O_run (v := .agg #[I x7.Index, I x7.Term, S x7.Cmd]) (w' := w) (R_load hst rfl rfl) rfl rfl ?_)
            refine L_op rfl (O_bs (T := 48) [I x7.Index, I x7.Term, S x7.Cmd] #[(0, .agg #[I x7.Index, I x7.Term, S x7.Cmd])] hst (by kernel_rfl) (by kernel_rfl) rfl fun p20 w hst => ?_)
            have hst := osl_of_blk0 (ecs := [[I x7.Index, I x7.Term, S x7.Cmd]]) r_T_term_Entry [(T_term_Entry.mk x7.Index x7.Term x7.Cmd)] rfl (fun m => ⟨⟨(), rfl, trivial⟩, trivial⟩) rfl hst
            obtain ⟨hb6, hr⟩ := chk hr
            refine L_op rfl (O_app_o L37 (hst.pull 3) rfl rfl hb6 rfl fun a18 c18 w hst => ?_)
            refine L_pure 1 [(3, pt p13 0), (4, pt p14 0), (5, pt p16 0), (8, .slice a18 (v19 ++ ([(T_term_Entry.mk x7.Index x7.Term x7.Cmd)])).length c18), (76, .slice a13 y11.length c13), (77, I (y11.length : Int)), (78, I v20)] (by kernel_rfl) fun b => ?_
            refine wpL_nil ?_
            refine ib_n (th_n ?_)
            refine wp_reg ?_
            refine L_pure 2 [(3, pt p13 0), (4, pt p14 0), (5, pt p16 0), (8, .slice a18 (v19 ++ ([(T_term_Entry.mk x7.Index x7.Term x7.Cmd)])).length c18), (76, .slice a13 y11.length c13), (77, I (y11.length : Int)), (78, I (IntKind.i64.wrap (v20 + 1)))] (by kernel_rfl) fun b => ?_
            refine wpL_nil ?_
            refine th_n ?_
            have hst := (((((((((hst.pull 9).pull 9).pull 9).pull 9).pull 9).pull 9).pull 9).pull 7).cut 8 2)
            exact ⟨(v19 ++ ([(T_term_Entry.mk x7.Index x7.Term x7.Cmd)])), (IntKind.i64.wrap (v20 + 1)), a18, c18, (kpX [(3, pt p13 0), (4, pt p14 0), (5, pt p16 0), (8, .slice a18 (v19 ++ ([(T_term_Entry.mk x7.Index x7.Term x7.Cmd)])).length c18), (76, .slice a13 y11.length c13), (77, I (y11.length : Int)), (78, I (IntKind.i64.wrap (v20 + 1)))] rfl ⟨hst, hr⟩)⟩
          · have hr := (if_neg (by rw [h]; exact Bool.false_ne_true)).symm.trans hr
            refine wp_exit ?_
            refine th_x (th_x (ib_x (th_n ?_)))
            obtain rfl := Option.some.inj hr
            have hst := ((((((((hst.pull 7).pull 7).pull 7).pull 7).pull 7).pull 7).pull 7).pull 7)
            exact ⟨a15, c15, (kpX [(3, pt p13 0), (4, pt p14 0), (5, pt p16 0), (8, .slice a15 v19.length c15)] rfl hst)⟩
    · have hst := osl_nil r_T_glacierref09_Entry 59 hst
      have hst := (((((((hst.pull 6).pull 6).pull 6).pull 6).pull 6).pull 6).pull 6)
      refine wp_block ?_
      refine wp_loop_fuel (fun j a w => ∃ (v14 : Int) (v15 : Int) (v16 : (List T_glacierref09_Entry)) (a11 : Option Addr) (c11 : Nat) (b : Nat → Value), a = mkF 113 b [(1, pt p12 0), (3, pt p13 0), (4, pt p14 0), (5, pt p16 0), (6, I v14), (7, I v15)] ∧ St G w (osl r_T_glacierref09_Entry 59 a11 c11 v16 :: blk p16 (cl [I (mn2 (mx2 x1.Term 0) 20), I (mn2 (mx2 x1.Vote 0) 5), I (mn2 (mx2 x1.Base 0) 4), I y10.1, S y10.2, .slice a11 v16.length c11] 32) :: blk p14 (cl [I y9.1, I y9.2.1, .bool y9.2.2.1, I y9.2.2.2.1, .map (some p15)] 79) :: mpr S (rPt r_T_platter_file) p15 y9.2.2.2.2 :: blk p13 (cl [I 0, I 0, I 0, I 0, S ([]), .slice none 0 0] 32) :: blk p12 (cl [I x1.Term, I x1.Vote, I x1.Base, .slice a1 x1.Terms.length c1] 24) :: dsl (rI .i64) a1 c1 x1.Terms :: F) ∧ glacierlaw10_Kept_l1 k x1 j v14 v15 v16 = some y11) (k := k) ⟨y10.1, (0 : Int), [], none, 0, (kpX [(1, pt p12 0), (3, pt p13 0), (4, pt p14 0), (5, pt p16 0), (6, I y10.1), (7, I 0)] rfl ⟨hst, hy11⟩)⟩ ?_ ?_
      · rintro _ _ ⟨_, _, _, _, _, _, _, _, h⟩
        rw [glacierlaw10_Kept_l1] at h
        cases h
      · rintro j _ w ⟨v14, v15, v16, a11, c11, b, rfl, hst, hr⟩
        rw [glacierlaw10_Kept_l1] at hr
        refine wp_seq ?_
        obtain ⟨y12, hy12, hk8⟩ := bnd hr
        clear hr
        refine wp_seq_cut (fun a w => ∃ (b : Nat → Value), a = mkF 113 b [(1, pt p12 0), (3, pt p13 0), (4, pt p14 0), (5, pt p16 0), (6, I v14), (7, I v15), (43, .bool y12)] ∧ St G w (osl r_T_glacierref09_Entry 59 a11 c11 v16 :: blk p16 (cl [I (mn2 (mx2 x1.Term 0) 20), I (mn2 (mx2 x1.Vote 0) 5), I (mn2 (mx2 x1.Base 0) 4), I y10.1, S y10.2, .slice a11 v16.length c11] 32) :: blk p14 (cl [I y9.1, I y9.2.1, .bool y9.2.2.1, I y9.2.2.2.1, .map (some p15)] 79) :: mpr S (rPt r_T_platter_file) p15 y9.2.2.2.2 :: blk p13 (cl [I 0, I 0, I 0, I 0, S ([]), .slice none 0 0] 32) :: blk p12 (cl [I x1.Term, I x1.Vote, I x1.Base, .slice a1 x1.Terms.length c1] 24) :: dsl (rI .i64) a1 c1 x1.Terms :: F)) ?_ ?_
        · rintro _ w ⟨b, rfl, hst⟩
          have hr := hk8
          refine wp_cond_mkF (t := y12) rfl (fun h => ?_) (fun h => ?_)
          · have hr := (if_pos h).symm.trans hr
            refine wp_skip ?_
            refine th_n ?_
            refine wp_seq ?_
            refine wp_block ?_
            refine wp_seq ?_
            refine wp_regG (SN { w with drawn := w.drawn + 1 }) rfl ?_
            have hst := hst.draw (n := w.drawn + 1)
            generalize { w with drawn := w.drawn + 1 } = w at hst ⊢
            refine C_take (i := 0) (v := pt p12 3) rfl (by kernel_rfl) (fun _ _ _ h => h) rfl rfl rfl (R_pure (by kernel_rfl)) ?_
            refine C_take (i := 1) (v := .slice a1 x1.Terms.length c1) rfl (by kernel_rfl) (fun _ _ _ h => h) rfl rfl rfl (R_load (hst.pull 5) rfl rfl) ?_
            refine C_take (i := 2) (v := I v15) rfl (by kernel_rfl) (fun _ _ _ h => h) rfl rfl rfl (R_pure (by kernel_rfl)) ?_
            obtain ⟨x5, hx4, hr⟩ := bnd hr
            refine C_take (i := 3) (v := pt (ab a1) (ao a1 + v15.toNat * 1)) rfl (by kernel_rfl) (fun _ _ _ h => h) rfl rfl rfl (R_ia L22 rfl rfl (dsl_addr (hst.pull 6) hx4) (gt_some hx4).1 (gt_some hx4).2.1) ?_
            obtain ⟨q3, hc3, hst⟩ := dsl_cells (hst.pull 6) hx4
            have hst := hst.drop
            refine C_take (i := 4) (v := I x5) rfl (by kernel_rfl) (fun _ _ _ h => h) rfl rfl rfl (R_loadAt (off := ao a1 + v15.toNat * 1) (j := 0) hc3 rfl rfl) ?_
            refine C_take (i := 5) (v := I v14) rfl (by kernel_rfl) (fun _ _ _ h => h) rfl rfl rfl (R_pure (by kernel_rfl)) ?_
            refine C_take (i := 6) (v := I (mx2 x5 v14)) rfl (by kernel_rfl) (fun _ _ _ h => h) rfl rfl rfl (R_pure (by kernel_rfl)) ?_
            refine C_take (i := 7) (v := pt p16 0) rfl (by kernel_rfl) (fun _ _ _ h => h) rfl rfl rfl (R_pure (by kernel_rfl)) ?_
            refine C_take (i := 8) (v := I (mn2 (mx2 x1.Term 0) 20)) rfl (by kernel_rfl) (fun _ _ _ h => h) rfl rfl rfl (R_load (hst.pull 2) rfl rfl) ?_
            refine C_take (i := 9) (v := I (mn2 (mx2 x5 v14) (mn2 (mx2 x1.Term 0) 20))) rfl (by kernel_rfl) (fun _ _ _ h => h) rfl rfl rfl (R_pure (by kernel_rfl)) ?_
            refine C_take (i := 10) (v := I (mn2 (mx2 x5 v14) (mn2 (mx2 x1.Term 0) 20))) rfl (by kernel_rfl) (fun _ _ _ h => h) rfl rfl rfl (R_pure (by kernel_rfl)) ?_
            refine wpG_done (by kernel_rfl) ?_ _
            refine C_keepQ [(1, pt p12 0), (3, pt p13 0), (4, pt p14 0), (5, pt p16 0), (6, I (mn2 (mx2 x5 v14) (mn2 (mx2 x1.Term 0) 20))), (7, I v15)] rfl fun b => ?_
            refine th_n ?_
            refine wp_reg ?_
            refine L_pure 1 [(1, pt p12 0), (3, pt p13 0), (4, pt p14 0), (5, pt p16 0), (6, I (mn2 (mx2 x5 v14) (mn2 (mx2 x1.Term 0) 20))), (7, I v15), (56, pt p16 5)] (by kernel_rfl) fun b => ?_
            refine L_op rfl (O_run (v := .slice a11 v16.length c11) (w' := w) (R_load (hst.pull 2) rfl rfl) rfl rfl ?_)
            refine L_pure 1 [(1, pt p12 0), (3, pt p13 0), (4, pt p14 0), (5, pt p16 0), (6, I (mn2 (mx2 x5 v14) (mn2 (mx2 x1.Term 0) 20))), (7, I v15), (57, .slice a11 v16.length c11), (58, pt p16 2)] (by kernel_rfl) fun b => ?_
            refine L_op rfl (O_run (v := I (mn2 (mx2 x1.Base 0) 4)) (w' := w) (R_load (hst.pull 2) rfl rfl) rfl rfl ?_)
            refine L_pure 8 [(1, pt p12 0), (3, pt p13 0), (4, pt p14 0), (5, pt p16 0), (6, I (mn2 (mx2 x5 v14) (mn2 (mx2 x1.Term 0) 20))), (7, I v15), (57, .slice a11 v16.length c11), (62, I (IntKind.i64.wrap ((IntKind.i64.wrap ((mn2 (mx2 x1.Base 0) 4) + v15)) + 1))), (63, I (mn2 (mx2 x5 v14) (mn2 (mx2 x1.Term 0) 20))), (67, .int .i32 (IntKind.i32.wrap (IntKind.i64.wrap (97 + ((mn2 (mx2 x5 v14) (mn2 (mx2 x1.Term 0) 20)).tmod 26)))))] (by kernel_rfl) fun b => ?_
            obtain ⟨hb4, hr⟩ := chk hr
            refine L_op rfl (O_run (v := S ([UInt8.ofNat (IntKind.i32.wrap (IntKind.i64.wrap (97 + ((mn2 (mx2 x5 v14) (mn2 (mx2 x1.Term 0) 20)).tmod 26)))).toNat])) (w' := w) (R_i2s Tryz.underlying21 Tryz.underlying9 rfl hb4) rfl rfl ?_)
            obtain ⟨x6, hx5, hr⟩ := bnd hr
            refine L_op rfl (O_run (v := S x6) (w' := w) (R_cat rfl rfl hx5) rfl rfl ?_)
            refine L_pure 1 [(1, pt p12 0), (3, pt p13 0), (4, pt p14 0), (5, pt p16 0), (6, I (mn2 (mx2 x5 v14) (mn2 (mx2 x1.Term 0) 20))), (7, I v15), (57, .slice a11 v16.length c11), (70, .agg #[I (IntKind.i64.wrap ((IntKind.i64.wrap ((mn2 (mx2 x1.Base 0) 4) + v15)) + 1)), I (mn2 (mx2 x5 v14) (mn2 (mx2 x1.Term 0) 20)), S x6])] (by kernel_rfl) fun b => ?_
            refine L_op rfl (O_bs (T := 59) [I (IntKind.i64.wrap ((IntKind.i64.wrap ((mn2 (mx2 x1.Base 0) 4) + v15)) + 1)), I (mn2 (mx2 x5 v14) (mn2 (mx2 x1.Term 0) 20)), S x6] #[(0, .agg #[I (IntKind.i64.wrap ((IntKind.i64.wrap ((mn2 (mx2 x1.Base 0) 4) + v15)) + 1)), I (mn2 (mx2 x5 v14) (mn2 (mx2 x1.Term 0) 20)), S x6])] hst (by kernel_rfl) (by kernel_rfl) rfl fun p17 w hst => ?_)
            have hst := osl_of_blk0 (ecs := [[I (IntKind.i64.wrap ((IntKind.i64.wrap ((mn2 (mx2 x1.Base 0) 4) + v15)) + 1)), I (mn2 (mx2 x5 v14) (mn2 (mx2 x1.Term 0) 20)), S x6]]) r_T_glacierref09_Entry [(T_glacierref09_Entry.mk (IntKind.i64.wrap ((IntKind.i64.wrap ((mn2 (mx2 x1.Base 0) 4) + v15)) + 1)) (mn2 (mx2 x5 v14) (mn2 (mx2 x1.Term 0) 20)) x6)] rfl (fun m => ⟨⟨(), rfl, trivial⟩, trivial⟩) rfl hst
            obtain ⟨hb5, hr⟩ := chk hr
            refine L_op rfl (O_app_o L30 (hst.pull 2) rfl rfl hb5 rfl fun a14 c14 w hst => ?_)
            refine L_pure 1 [(1, pt p12 0), (3, pt p13 0), (4, pt p14 0), (5, pt p16 0), (6, I (mn2 (mx2 x5 v14) (mn2 (mx2 x1.Term 0) 20))), (7, I v15), (72, .slice a14 (v16 ++ ([(T_glacierref09_Entry.mk (IntKind.i64.wrap ((IntKind.i64.wrap ((mn2 (mx2 x1.Base 0) 4) + v15)) + 1)) (mn2 (mx2 x5 v14) (mn2 (mx2 x1.Term 0) 20)) x6)])).length c14), (73, pt p16 5)] (by kernel_rfl) fun b => ?_
            refine L_op rfl (O_store [I (mn2 (mx2 x1.Term 0) 20), I (mn2 (mx2 x1.Vote 0) 5), I (mn2 (mx2 x1.Base 0) 4), I y10.1, S y10.2, .slice a14 (v16 ++ ([(T_glacierref09_Entry.mk (IntKind.i64.wrap ((IntKind.i64.wrap ((mn2 (mx2 x1.Base 0) 4) + v15)) + 1)) (mn2 (mx2 x5 v14) (mn2 (mx2 x1.Term 0) 20)) x6)])).length c14] (hst.pull 3) rfl rfl (by kernel_rfl) fun w hst => ?_)
            refine wpL_nil ?_
            refine ib_n (th_n ?_)
            refine wp_reg ?_
            refine L_pure 3 [(1, pt p12 0), (3, pt p13 0), (4, pt p14 0), (5, pt p16 0), (6, I (mn2 (mx2 x5 v14) (mn2 (mx2 x1.Term 0) 20))), (7, I (IntKind.i64.wrap (v15 + 1)))] (by kernel_rfl) fun b => ?_
            refine wpL_nil ?_
            refine th_n ?_
            have hst := ((((((((hst.pull 3).pull 7).pull 7).pull 7).pull 7).pull 5).pull 6).cut 7 1)
            exact ⟨(mn2 (mx2 x5 v14) (mn2 (mx2 x1.Term 0) 20)), (IntKind.i64.wrap (v15 + 1)), (v16 ++ ([(T_glacierref09_Entry.mk (IntKind.i64.wrap ((IntKind.i64.wrap ((mn2 (mx2 x1.Base 0) 4) + v15)) + 1)) (mn2 (mx2 x5 v14) (mn2 (mx2 x1.Term 0) 20)) x6)])), a14, c14, (kpX [(1, pt p12 0), (3, pt p13 0), (4, pt p14 0), (5, pt p16 0), (6, I (mn2 (mx2 x5 v14) (mn2 (mx2 x1.Term 0) 20))), (7, I (IntKind.i64.wrap (v15 + 1)))] rfl ⟨hst, hr⟩)⟩
          · have hr := (if_neg (by rw [h]; exact Bool.false_ne_true)).symm.trans hr
            refine wp_exit ?_
            refine th_x (th_x (ib_x (th_n ?_)))
            obtain rfl := Option.some.inj hr
            have hst := (((((((hst.pull 6).pull 6).pull 6).pull 6).pull 6).pull 6).pull 6)
            exact ⟨a11, c11, (kpX [(3, pt p13 0), (4, pt p14 0), (5, pt p16 0)] rfl hst)⟩
        · have hr := hy12
          refine wp_reg ?_
          refine L_pure 2 [(1, pt p12 0), (3, pt p13 0), (4, pt p14 0), (5, pt p16 0), (6, I v14), (7, I v15), (35, I v15), (36, pt p12 3)] (by kernel_rfl) fun b => ?_
          refine L_op rfl (O_run (v := .slice a1 x1.Terms.length c1) (w' := w) (R_load (hst.pull 5) rfl rfl) rfl rfl ?_)
          refine L_pure 3 [(1, pt p12 0), (3, pt p13 0), (4, pt p14 0), (5, pt p16 0), (6, I v14), (7, I v15), (40, .bool (decide (v15 < (x1.Terms.length : Int))))] (by kernel_rfl) fun b => ?_
          by_cases h : (decide (v15 < (x1.Terms.length : Int))) = true
          · have hr := (if_pos h).symm.trans hr
            refine L_keep ((40, .bool (decide (v15 < (x1.Terms.length : Int)))) :: [(1, pt p12 0), (3, pt p13 0), (4, pt p14 0), (5, pt p16 0), (6, I v14), (7, I v15)]) rfl fun b => ?_
            refine L_bool h ?_
            refine L_pure 3 [(1, pt p12 0), (3, pt p13 0), (4, pt p14 0), (5, pt p16 0), (6, I v14), (7, I v15), (43, .bool (decide (v15 < 6)))] (by kernel_rfl) fun b => ?_
            refine wpL_nil ?_
            refine th_n ?_
            obtain rfl := Option.some.inj hr
            have hst := (((((((hst.pull 6).pull 6).pull 6).pull 6).pull 6).pull 6).pull 6)
            exact (kpX [(1, pt p12 0), (3, pt p13 0), (4, pt p14 0), (5, pt p16 0), (6, I v14), (7, I v15), (43, .bool (decide (v15 < 6)))] rfl hst)
          · have hr := (if_neg h).symm.trans hr
            refine L_keep ((40, .bool (decide (v15 < (x1.Terms.length : Int)))) :: [(1, pt p12 0), (3, pt p13 0), (4, pt p14 0), (5, pt p16 0), (6, I v14), (7, I v15)]) rfl fun b => ?_
            refine L_bool (eq_false_of_ne_true h) ?_
            refine L_pure 3 [(1, pt p12 0), (3, pt p13 0), (4, pt p14 0), (5, pt p16 0), (6, I v14), (7, I v15), (43, .bool false)] (by kernel_rfl) fun b => ?_
            refine wpL_nil ?_
            refine th_n ?_
            obtain rfl := Option.some.inj hr
            have hst := (((((((hst.pull 6).pull 6).pull 6).pull 6).pull 6).pull 6).pull 6)
            exact (kpX [(1, pt p12 0), (3, pt p13 0), (4, pt p14 0), (5, pt p16 0), (6, I v14), (7, I v15), (43, .bool false)] rfl hst)
  · have hr := hy10
    refine wp_seq ?_
    refine wp_reg ?_
    refine L_pure 1 [(1, pt p12 0), (3, pt p13 0), (4, pt p14 0), (5, pt p16 0), (25, pt p16 2)] (by kernel_rfl) fun b => ?_
    refine L_op rfl (O_run (v := I (mn2 (mx2 x1.Base 0) 4)) (w' := w) (R_load hst rfl rfl) rfl rfl ?_)
    refine L_pure 1 [(1, pt p12 0), (3, pt p13 0), (4, pt p14 0), (5, pt p16 0), (27, .bool (decide ((mn2 (mx2 x1.Base 0) 4) > 0)))] (by kernel_rfl) fun b => ?_
    refine wpL_nil ?_
    refine th_n ?_
    refine wp_cond_mkF (t := decide ((mn2 (mx2 x1.Base 0) 4) > 0)) rfl (fun h => ?_) (fun h => ?_)
    · have hr := (if_pos h).symm.trans hr
      refine wp_seq ?_
      refine wp_reg ?_
      refine L_pure 1 [(1, pt p12 0), (3, pt p13 0), (4, pt p14 0), (5, pt p16 0), (28, pt p16 0)] (by kernel_rfl) fun b => ?_
      refine L_op rfl (O_run (v := I (mn2 (mx2 x1.Term 0) 20)) (w' := w) (R_load hst rfl rfl) rfl rfl ?_)
      refine L_pure 2 [(1, pt p12 0), (3, pt p13 0), (4, pt p14 0), (5, pt p16 0), (30, I (mn2 1 (mn2 (mx2 x1.Term 0) 20))), (31, pt p16 3)] (by kernel_rfl) fun b => ?_
      refine L_op rfl (O_store [I (mn2 (mx2 x1.Term 0) 20), I (mn2 (mx2 x1.Vote 0) 5), I (mn2 (mx2 x1.Base 0) 4), I (mn2 1 (mn2 (mx2 x1.Term 0) 20)), S ([]), .slice none 0 0] hst rfl rfl (by kernel_rfl) fun w hst => ?_)
      refine wpL_nil ?_
      refine th_n ?_
      refine wp_reg ?_
      refine L_pure 1 [(1, pt p12 0), (3, pt p13 0), (4, pt p14 0), (5, pt p16 0), (32, pt p16 4)] (by kernel_rfl) fun b => ?_
      refine L_op rfl (O_store [I (mn2 (mx2 x1.Term 0) 20), I (mn2 (mx2 x1.Vote 0) 5), I (mn2 (mx2 x1.Base 0) 4), I (mn2 1 (mn2 (mx2 x1.Term 0) 20)), S ([115, 110, 97, 112]), .slice none 0 0] hst rfl rfl (by kernel_rfl) fun w hst => ?_)
      refine wpL_nil ?_
      refine th_n ?_
      obtain rfl := Option.some.inj hr
      have hst := ((((((hst.pull 5).pull 5).pull 5).pull 5).pull 5).pull 5)
      exact (kpX [(1, pt p12 0), (3, pt p13 0), (4, pt p14 0), (5, pt p16 0)] rfl hst)
    · have hr := (if_neg (by rw [h]; exact Bool.false_ne_true)).symm.trans hr
      refine wp_skip ?_
      refine th_n ?_
      obtain rfl := Option.some.inj hr
      have hst := ((((((hst.pull 5).pull 5).pull 5).pull 5).pull 5).pull 5)
      exact (kpX [(1, pt p12 0), (3, pt p13 0), (4, pt p14 0), (5, pt p16 0)] rfl hst)
def raft_Node_follow (k : Nat) (x1 : T_raft_Node) (x2 : Int) (x3 : Int) (x4 : Bool) (x5 : Int) (x6 : (List ((List UInt8) × (Option T_platter_file)))) (x7 : Int) : Option (Bool × T_raft_Node × Int × Int × (List ((List UInt8) × (Option T_platter_file)))) := (Option.bind (if decide (x7 > x1.st.Term) = true then (Option.bind (raft_Node_turn k x1 x2 x3 x4 x5 x6 x7 0) fun y4 => some ((!y4.1), y4.2.1, y4.2.2.1, y4.2.2.2.1, y4.2.2.2.2)) else some (false, x1, x3, x5, x6)) fun y3 => (if y3.1 = true then some (false, y3.2.1, y3.2.2.1, y3.2.2.2.1, y3.2.2.2.2) else some (true, (T_raft_Node.mk y3.2.1.id y3.2.1.n y3.2.1.st 0 y3.2.1.leader y3.2.1.commit y3.2.1.applied y3.2.1.timer y3.2.1.votes y3.2.1.next y3.2.1.match_ y3.2.1.out y3.2.1.broken), y3.2.2.1, y3.2.2.2.1, y3.2.2.2.2)))
set_option maxRecDepth 100000 in
set_option maxHeartbeats 4000000 in
theorem raft_Node_follow_ok {G w : World} {F : List HP} {R : Ending → World → Prop} (k : Nat) (x1 : T_raft_Node) (x2 : Int) (x3 : Int) (x4 : Bool) (x5 : Int) (x6 : (List ((List UInt8) × (Option T_platter_file)))) (x7 : Int) (p1 : Nat) (p2 : Nat) (p3 : Nat) (a1 : Option Addr) (c1 : Nat) (a2 : Option Addr) (c2 : Nat) (r : (Bool × T_raft_Node × Int × Int × (List ((List UInt8) × (Option T_platter_file))))) (hst : St G w (blk p1 (cl [I x1.id, I x1.n, pt p2 0, I x1.st.Term, I x1.st.Vote, I x1.st.Base, I x1.st.BaseTerm, S x1.st.Snap, .slice a1 x1.st.Log.length c1, I x1.role, I x1.leader, I x1.commit, I x1.applied, I x1.timer, .bool (x1.votes 0), .bool (x1.votes 1), .bool (x1.votes 2), .bool (x1.votes 3), .bool (x1.votes 4), I (x1.next 0), I (x1.next 1), I (x1.next 2), I (x1.next 3), I (x1.next 4), I (x1.match_ 0), I (x1.match_ 1), I (x1.match_ 2), I (x1.match_ 3), I (x1.match_ 4), .slice a2 x1.out.length c2, I x1.broken] 66) :: blk p2 (cl [I x2, I x3, .bool x4, I x5, .map (some p3)] 79) :: mpr S (rPt r_T_platter_file) p3 x6 :: osl r_T_term_Entry 48 a1 c1 x1.st.Log :: osl r_T_raft_Msg 39 a2 c2 x1.out :: F)) (hr : raft_Node_follow k x1 x2 x3 x4 x5 x6 x7 = some r)
    (hR : ∀ (a7 : Option Addr) (c7 : Nat) (a8 : Option Addr) (c8 : Nat) w', St G w' (osl r_T_term_Entry 48 a7 c7 r.2.1.st.Log :: osl r_T_raft_Msg 39 a8 c8 r.2.1.out :: blk p1 (cl [I r.2.1.id, I r.2.1.n, pt p2 0, I r.2.1.st.Term, I r.2.1.st.Vote, I r.2.1.st.Base, I r.2.1.st.BaseTerm, S r.2.1.st.Snap, .slice a7 r.2.1.st.Log.length c7, I r.2.1.role, I r.2.1.leader, I r.2.1.commit, I r.2.1.applied, I r.2.1.timer, .bool (r.2.1.votes 0), .bool (r.2.1.votes 1), .bool (r.2.1.votes 2), .bool (r.2.1.votes 3), .bool (r.2.1.votes 4), I (r.2.1.next 0), I (r.2.1.next 1), I (r.2.1.next 2), I (r.2.1.next 3), I (r.2.1.next 4), I (r.2.1.match_ 0), I (r.2.1.match_ 1), I (r.2.1.match_ 2), I (r.2.1.match_ 3), I (r.2.1.match_ 4), .slice a8 r.2.1.out.length c8, I r.2.1.broken] 66) :: blk p2 (cl [I x2, I r.2.2.1, .bool x4, I r.2.2.2.1, .map (some p3)] 79) :: mpr S (rPt r_T_platter_file) p3 r.2.2.2.2 :: F) → R (.returned (.bool r.1)) w') :
    Calls Tryz.prog 25 #[pt p1 0, I x7] w R := by
  unfold raft_Node_follow at hr
  refine enter Tryz.func25 rfl [(0, pt p1 0), (1, I x7)] rfl rfl fun b => ?_
  refine wp_seq ?_
  refine wp_reg ?_
  refine L_pure 1 [(0, pt p1 0), (1, I x7)] (by kernel_rfl) fun b => ?_
  refine wpL_nil ?_
  refine th_n ?_
  refine wp_seq ?_
  obtain ⟨y3, hy3, hk2⟩ := bnd hr
  clear hr
  refine wp_seq_cut (fun a w => ∃ (a9 : Option Addr) (c9 : Nat) (a10 : Option Addr) (c10 : Nat)(b : Nat → Value), a = mkF 21 b [(0, pt p1 0), (17, .bool y3.1)] ∧ St G w (osl r_T_term_Entry 48 a9 c9 y3.2.1.st.Log :: osl r_T_raft_Msg 39 a10 c10 y3.2.1.out :: blk p1 (cl [I y3.2.1.id, I y3.2.1.n, pt p2 0, I y3.2.1.st.Term, I y3.2.1.st.Vote, I y3.2.1.st.Base, I y3.2.1.st.BaseTerm, S y3.2.1.st.Snap, .slice a9 y3.2.1.st.Log.length c9, I y3.2.1.role, I y3.2.1.leader, I y3.2.1.commit, I y3.2.1.applied, I y3.2.1.timer, .bool (y3.2.1.votes 0), .bool (y3.2.1.votes 1), .bool (y3.2.1.votes 2), .bool (y3.2.1.votes 3), .bool (y3.2.1.votes 4), I (y3.2.1.next 0), I (y3.2.1.next 1), I (y3.2.1.next 2), I (y3.2.1.next 3), I (y3.2.1.next 4), I (y3.2.1.match_ 0), I (y3.2.1.match_ 1), I (y3.2.1.match_ 2), I (y3.2.1.match_ 3), I (y3.2.1.match_ 4), .slice a10 y3.2.1.out.length c10, I y3.2.1.broken] 66) :: blk p2 (cl [I x2, I y3.2.2.1, .bool x4, I y3.2.2.2.1, .map (some p3)] 79) :: mpr S (rPt r_T_platter_file) p3 y3.2.2.2.2 :: F)) ?_ ?_
  · rintro _ w ⟨a9, c9, a10, c10, b, rfl, hst⟩
    have hr := hk2
    refine wp_cond_mkF (t := y3.1) rfl (fun h => ?_) (fun h => ?_)
    · have hr := (if_pos h).symm.trans hr
      refine wp_seq ?_
      refine wp_reg ?_
      refine L_pure 1 [(4, .bool false)] (by kernel_rfl) fun b => ?_
      refine wpL_nil ?_
      refine th_n ?_
      refine wp_ret ?_
      refine th_r ?_
      refine ret1 rfl rfl ?_
      obtain rfl := Option.some.inj hr
      have hst := (((((hst.pull 4).pull 4).pull 4).pull 4).pull 4)
      exact hR a9 c9 a10 c10 _ hst
    · have hr := (if_neg (by rw [h]; exact Bool.false_ne_true)).symm.trans hr
      refine wp_skip ?_
      refine th_n ?_
      refine wp_seq ?_
      refine wp_reg ?_
      refine L_pure 3 [(20, pt p1 9)] (by kernel_rfl) fun b => ?_
      refine L_op rfl (O_store [I y3.2.1.id, I y3.2.1.n, pt p2 0, I y3.2.1.st.Term, I y3.2.1.st.Vote, I y3.2.1.st.Base, I y3.2.1.st.BaseTerm, S y3.2.1.st.Snap, .slice a9 y3.2.1.st.Log.length c9, I 0, I y3.2.1.leader, I y3.2.1.commit, I y3.2.1.applied, I y3.2.1.timer, .bool (y3.2.1.votes 0), .bool (y3.2.1.votes 1), .bool (y3.2.1.votes 2), .bool (y3.2.1.votes 3), .bool (y3.2.1.votes 4), I (y3.2.1.next 0), I (y3.2.1.next 1), I (y3.2.1.next 2), I (y3.2.1.next 3), I (y3.2.1.next 4), I (y3.2.1.match_ 0), I (y3.2.1.match_ 1), I (y3.2.1.match_ 2), I (y3.2.1.match_ 3), I (y3.2.1.match_ 4), .slice a10 y3.2.1.out.length c10, I y3.2.1.broken] (hst.pull 2) rfl rfl (by kernel_rfl) fun w hst => ?_)
      refine wpL_nil ?_
      refine th_n ?_
      refine wp_seq ?_
      refine wp_reg ?_
      refine L_pure 1 [(4, .bool true)] (by kernel_rfl) fun b => ?_
      refine wpL_nil ?_
      refine th_n ?_
      refine wp_ret ?_
      refine ret1 rfl rfl ?_
      obtain rfl := Option.some.inj hr
      have hst := (((((hst.pull 4).pull 4).pull 2).pull 4).pull 4)
      exact hR a9 c9 a10 c10 _ hst
  · have hr := hy3
    refine wp_reg ?_
    refine L_pure 5 [(0, pt p1 0), (1, I x7), (5, I x7), (9, pt p1 3)] (by kernel_rfl) fun b => ?_
    refine L_op rfl (O_run (v := I x1.st.Term) (w' := w) (R_load hst rfl rfl) rfl rfl ?_)
    refine L_pure 2 [(0, pt p1 0), (1, I x7), (12, .bool (decide (x7 > x1.st.Term)))] (by kernel_rfl) fun b => ?_
    by_cases h : (decide (x7 > x1.st.Term)) = true
    · have hr := (if_pos h).symm.trans hr
      refine L_keep ((12, .bool (decide (x7 > x1.st.Term))) :: [(0, pt p1 0), (1, I x7)]) rfl fun b => ?_
      refine L_bool h ?_
      refine L_pure 2 [(0, pt p1 0), (12, .bool true), (13, pt p1 0), (14, I x7)] (by kernel_rfl) fun b => ?_
      obtain ⟨y4, hy4, hr⟩ := bnd hr
      refine L_op rfl (O_call (vs := #[pt p1 0, I x7, I 0]) Tryz.call45 (by kernel_rfl) (raft_Node_turn_ok k x1 x2 x3 x4 x5 x6 x7 0 p1 p2 p3 a1 c1 a2 c2 y4 (((((hst.pull 4).pull 4).pull 4).pull 4).pull 4) hy4 fun a11 c11 a12 c12 w hst => ?_))
      refine CK_ret rfl ?_
      refine L_pure 2 [(0, pt p1 0), (17, .bool (!y4.1))] (by kernel_rfl) fun b => ?_
      refine wpL_nil ?_
      refine th_n ?_
      obtain rfl := Option.some.inj hr
      have hst := (((((hst.pull 4).pull 4).pull 4).pull 4).pull 4)
      exact ⟨a11, c11, a12, c12, (kpX [(0, pt p1 0), (17, .bool (!y4.1))] rfl hst)⟩
    · have hr := (if_neg h).symm.trans hr
      refine L_keep ((12, .bool (decide (x7 > x1.st.Term))) :: [(0, pt p1 0), (1, I x7)]) rfl fun b => ?_
      refine L_bool (eq_false_of_ne_true h) ?_
      refine L_pure 5 [(0, pt p1 0), (17, .bool false)] (by kernel_rfl) fun b => ?_
      refine wpL_nil ?_
      refine th_n ?_
      obtain rfl := Option.some.inj hr
      have hst := (((((hst.pull 2).pull 2).pull 2).pull 4).pull 4)
      exact ⟨a1, c1, a2, c2, (kpX [(0, pt p1 0), (17, .bool false)] rfl hst)⟩
def raft_Node_have (k : Nat) (x1 : T_raft_Node) (x2 : Int) (x3 : Int) (x4 : Bool) (x5 : Int) (x6 : (List ((List UInt8) × (Option T_platter_file)))) (x7 : T_raft_Msg) : Option (T_raft_Node) := (if (!x7.OK) = true then (if 0 ≤ x7.From ∧ x7.From < 5 then (if 0 ≤ x7.From ∧ x7.From < 5 then (if 0 ≤ x7.From ∧ x7.From < 5 then (Option.bind (raft_Node_tell k (T_raft_Node.mk x1.id x1.n x1.st x1.role x1.leader x1.commit x1.applied x1.timer x1.votes (upd x1.next x7.From.toNat (mx2 (mx2 (mn2 (IntKind.i64.wrap (x7.Index + 1)) (IntKind.i64.wrap ((x1.next x7.From.toNat) - 1))) (IntKind.i64.wrap ((x1.match_ x7.From.toNat) + 1))) 1)) x1.match_ x1.out x1.broken) x2 x3 x4 x5 x6 x7.From) fun y9 => some (y9)) else none) else none) else none) else (Option.bind (Option.bind (if 0 ≤ x7.From ∧ x7.From < 5 then (if decide (x7.Index > (x1.match_ x7.From.toNat)) = true then (Option.bind (raft_Node_Last k x1 x2 x3 x4 x5 x6) fun y12 => some (decide (x7.Index ≤ y12))) else some (false)) else none) fun y11 => (if y11 = true then (if 0 ≤ x7.From ∧ x7.From < 5 then (Option.bind (raft_Node_settle k (T_raft_Node.mk x1.id x1.n x1.st x1.role x1.leader x1.commit x1.applied x1.timer x1.votes x1.next (upd x1.match_ x7.From.toNat x7.Index) x1.out x1.broken) x2 x3 x4 x5 x6) fun y13 => some (y13)) else none) else some (x1))) fun y10 => (if 0 ≤ x7.From ∧ x7.From < 5 then (if 0 ≤ x7.From ∧ x7.From < 5 then (if 0 ≤ x7.From ∧ x7.From < 5 then (Option.bind (if 0 ≤ x7.From ∧ x7.From < 5 then (Option.bind (raft_Node_Last k (T_raft_Node.mk y10.id y10.n y10.st y10.role y10.leader y10.commit y10.applied y10.timer y10.votes (upd y10.next x7.From.toNat (mx2 (y10.next x7.From.toNat) (IntKind.i64.wrap ((y10.match_ x7.From.toNat) + 1)))) y10.match_ y10.out y10.broken) x2 x3 x4 x5 x6) fun y15 => (if decide (((upd y10.next x7.From.toNat (mx2 (y10.next x7.From.toNat) (IntKind.i64.wrap ((y10.match_ x7.From.toNat) + 1)))) x7.From.toNat) ≤ y15) = true then (if 0 ≤ x7.From ∧ x7.From < 5 then some (((IntKind.i64.wrap (x7.Index + 1)) == ((upd y10.next x7.From.toNat (mx2 (y10.next x7.From.toNat) (IntKind.i64.wrap ((y10.match_ x7.From.toNat) + 1)))) x7.From.toNat))) else none) else some (false))) else none) fun y14 => (if y14 = true then (Option.bind (raft_Node_tell k (T_raft_Node.mk y10.id y10.n y10.st y10.role y10.leader y10.commit y10.applied y10.timer y10.votes (upd y10.next x7.From.toNat (mx2 (y10.next x7.From.toNat) (IntKind.i64.wrap ((y10.match_ x7.From.toNat) + 1)))) y10.match_ y10.out y10.broken) x2 x3 x4 x5 x6 x7.From) fun y16 => some (y16)) else some ((T_raft_Node.mk y10.id y10.n y10.st y10.role y10.leader y10.commit y10.applied y10.timer y10.votes (upd y10.next x7.From.toNat (mx2 (y10.next x7.From.toNat) (IntKind.i64.wrap ((y10.match_ x7.From.toNat) + 1)))) y10.match_ y10.out y10.broken)))) else none) else none) else none)))
set_option maxRecDepth 100000 in
set_option maxHeartbeats 4000000 in
theorem raft_Node_have_ok {G w : World} {F : List HP} {R : Ending → World → Prop} (k : Nat) (x1 : T_raft_Node) (x2 : Int) (x3 : Int) (x4 : Bool) (x5 : Int) (x6 : (List ((List UInt8) × (Option T_platter_file)))) (x7 : T_raft_Msg) (p1 : Nat) (p2 : Nat) (p3 : Nat) (a1 : Option Addr) (c1 : Nat) (a2 : Option Addr) (c2 : Nat) (a3 : Option Addr) (c3 : Nat) (r : (T_raft_Node)) (hst : St G w (blk p1 (cl [I x1.id, I x1.n, pt p2 0, I x1.st.Term, I x1.st.Vote, I x1.st.Base, I x1.st.BaseTerm, S x1.st.Snap, .slice a1 x1.st.Log.length c1, I x1.role, I x1.leader, I x1.commit, I x1.applied, I x1.timer, .bool (x1.votes 0), .bool (x1.votes 1), .bool (x1.votes 2), .bool (x1.votes 3), .bool (x1.votes 4), I (x1.next 0), I (x1.next 1), I (x1.next 2), I (x1.next 3), I (x1.next 4), I (x1.match_ 0), I (x1.match_ 1), I (x1.match_ 2), I (x1.match_ 3), I (x1.match_ 4), .slice a2 x1.out.length c2, I x1.broken] 66) :: blk p2 (cl [I x2, I x3, .bool x4, I x5, .map (some p3)] 79) :: mpr S (rPt r_T_platter_file) p3 x6 :: osl r_T_term_Entry 48 a1 c1 x1.st.Log :: osl r_T_raft_Msg 39 a2 c2 x1.out :: dsl r_T_term_Entry a3 c3 x7.Entries :: F)) (hr : raft_Node_have k x1 x2 x3 x4 x5 x6 x7 = some r)
    (hR : ∀ (a12 : Option Addr) (c12 : Nat) (a13 : Option Addr) (c13 : Nat) w', St G w' (osl r_T_term_Entry 48 a12 c12 r.st.Log :: osl r_T_raft_Msg 39 a13 c13 r.out :: blk p1 (cl [I r.id, I r.n, pt p2 0, I r.st.Term, I r.st.Vote, I r.st.Base, I r.st.BaseTerm, S r.st.Snap, .slice a12 r.st.Log.length c12, I r.role, I r.leader, I r.commit, I r.applied, I r.timer, .bool (r.votes 0), .bool (r.votes 1), .bool (r.votes 2), .bool (r.votes 3), .bool (r.votes 4), I (r.next 0), I (r.next 1), I (r.next 2), I (r.next 3), I (r.next 4), I (r.match_ 0), I (r.match_ 1), I (r.match_ 2), I (r.match_ 3), I (r.match_ 4), .slice a13 r.out.length c13, I r.broken] 66) :: blk p2 (cl [I x2, I x3, .bool x4, I x5, .map (some p3)] 79) :: mpr S (rPt r_T_platter_file) p3 x6 :: dsl r_T_term_Entry a3 c3 x7.Entries :: F) → R (.returned (.tuple #[])) w') :
    Calls Tryz.prog 31 #[pt p1 0, .agg #[I x7.Kind, I x7.From, I x7.To, I x7.Term, I x7.Index, I x7.LogTerm, I x7.Commit, .bool x7.OK, .slice a3 x7.Entries.length c3, S x7.Snap]] w R := by
  unfold raft_Node_have at hr
  refine enter Tryz.func31 rfl [(0, pt p1 0), (1, .agg #[I x7.Kind, I x7.From, I x7.To, I x7.Term, I x7.Index, I x7.LogTerm, I x7.Commit, .bool x7.OK, .slice a3 x7.Entries.length c3, S x7.Snap])] rfl rfl fun b => ?_
  refine wp_seq ?_
  refine wp_reg ?_
  refine L_op rfl (O_box [I x7.Kind, I x7.From, I x7.To, I x7.Term, I x7.Index, I x7.LogTerm, I x7.Commit, .bool x7.OK, .slice a3 x7.Entries.length c3, S x7.Snap] hst rfl rfl fun p5 w hst => ?_)
  refine wpL_nil ?_
  refine th_n ?_
  refine wp_seq ?_
  refine wp_seq ?_
  refine wp_reg ?_
  refine L_pure 1 [(0, pt p1 0), (3, pt p5 0), (4, pt p5 7)] (by kernel_rfl) fun b => ?_
  refine L_op rfl (O_run (v := .bool x7.OK) (w' := w) (R_load hst rfl rfl) rfl rfl ?_)
  refine L_pure 1 [(0, pt p1 0), (3, pt p5 0), (6, .bool (!x7.OK))] (by kernel_rfl) fun b => ?_
  refine wpL_nil ?_
  refine th_n ?_
  refine wp_cond_mkF (t := (!x7.OK)) rfl (fun h => ?_) (fun h => ?_)
  · have hr := (if_pos h).symm.trans hr
    refine wp_seq ?_
    refine wp_regG (SP 27 (fun w => St G w (blk p5 (cl [I x7.Kind, I x7.From, I x7.To, I x7.Term, I x7.Index, I x7.LogTerm, I x7.Commit, .bool x7.OK, .slice a3 x7.Entries.length c3, S x7.Snap] 39) :: blk p1 (cl [I x1.id, I x1.n, pt p2 0, I x1.st.Term, I x1.st.Vote, I x1.st.Base, I x1.st.BaseTerm, S x1.st.Snap, .slice a1 x1.st.Log.length c1, I x1.role, I x1.leader, I x1.commit, I x1.applied, I x1.timer, .bool (x1.votes 0), .bool (x1.votes 1), .bool (x1.votes 2), .bool (x1.votes 3), .bool (x1.votes 4), I (x1.next 0), I (x1.next 1), I (x1.next 2), I (x1.next 3), I (x1.next 4), I (x1.match_ 0), I (x1.match_ 1), I (x1.match_ 2), I (x1.match_ 3), I (x1.match_ 4), .slice a2 x1.out.length c2, I x1.broken] 66) :: blk p2 (cl [I x2, I x3, .bool x4, I x5, .map (some p3)] 79) :: mpr S (rPt r_T_platter_file) p3 x6 :: osl r_T_term_Entry 48 a1 c1 x1.st.Log :: osl r_T_raft_Msg 39 a2 c2 x1.out :: dsl r_T_term_Entry a3 c3 x7.Entries :: F))) rfl ?_
    have hst := hst.draw (n := w.drawn + 1)
    generalize { w with drawn := w.drawn + 1 } = w at hst ⊢
    refine P_pure (i := 0) (v := pt p1 0) 27 rfl rfl (by kernel_rfl) (fun _ _ _ h => h) rfl rfl rfl (by kernel_rfl) (.inr (((((((hst.pull 6).pull 6).pull 6).pull 6).pull 6).pull 6).pull 6)) ?_
    refine P_pure (i := 1) (v := pt p5 1) 27 rfl rfl (by kernel_rfl) (fun _ _ _ h => h) rfl rfl rfl (by kernel_rfl) (.inr (((((((hst.pull 6).pull 6).pull 6).pull 6).pull 6).pull 6).pull 6)) ?_
    refine P_take (i := 2) (v := I x7.From) 27 [2] (by kernel_rfl) rfl (by kernel_rfl) (fun _ _ _ h => h) rfl rfl rfl (fun w hst => R_load hst rfl rfl) ((((((((hst.pull 6).pull 6).pull 6).pull 6).pull 6).pull 6).pull 6)) ?_
    refine P_pure (i := 3) (v := pt p5 4) 27 rfl rfl (by kernel_rfl) (fun _ _ _ h => h) rfl rfl rfl (by kernel_rfl) (.inr (((((((hst.pull 6).pull 6).pull 6).pull 6).pull 6).pull 6).pull 6)) ?_
    refine P_take (i := 4) (v := I x7.Index) 27 [4] (by kernel_rfl) rfl (by kernel_rfl) (fun _ _ _ h => h) rfl rfl rfl (fun w hst => R_load hst rfl rfl) ((((((((hst.pull 6).pull 6).pull 6).pull 6).pull 6).pull 6).pull 6)) ?_
    refine P_pure (i := 5) (v := I (IntKind.i64.wrap (x7.Index + 1))) 27 rfl rfl (by kernel_rfl) (fun _ _ _ h => h) rfl rfl rfl (by kernel_rfl) (.inr (((((((hst.pull 6).pull 6).pull 6).pull 6).pull 6).pull 6).pull 6)) ?_
    refine P_pure (i := 6) (v := pt p1 0) 27 rfl rfl (by kernel_rfl) (fun _ _ _ h => h) rfl rfl rfl (by kernel_rfl) (.inr (((((((hst.pull 6).pull 6).pull 6).pull 6).pull 6).pull 6).pull 6)) ?_
    refine P_pure (i := 7) (v := pt p5 1) 27 rfl rfl (by kernel_rfl) (fun _ _ _ h => h) rfl rfl rfl (by kernel_rfl) (.inr (((((((hst.pull 6).pull 6).pull 6).pull 6).pull 6).pull 6).pull 6)) ?_
    refine P_take (i := 8) (v := I x7.From) 27 [8] (by kernel_rfl) rfl (by kernel_rfl) (fun _ _ _ h => h) rfl rfl rfl (fun w hst => R_load hst rfl rfl) ((((((((hst.pull 6).pull 6).pull 6).pull 6).pull 6).pull 6).pull 6)) ?_
    refine P_pure (i := 9) (v := pt p1 0) 27 rfl rfl (by kernel_rfl) (fun _ _ _ h => h) rfl rfl rfl (by kernel_rfl) (.inr (((((((hst.pull 6).pull 6).pull 6).pull 6).pull 6).pull 6).pull 6)) ?_
    refine P_pure (i := 10) (v := pt p1 19) 27 rfl rfl (by kernel_rfl) (fun _ _ _ h => h) rfl rfl rfl (by kernel_rfl) (.inr (((((((hst.pull 6).pull 6).pull 6).pull 6).pull 6).pull 6).pull 6)) ?_
    obtain ⟨hb11, hr⟩ := chk hr
    refine P_any (i := 11) (v := pt p1 (19 + x7.From.toNat)) 27 rfl rfl (by kernel_rfl) (fun _ _ _ h => h) rfl rfl rfl (fun w => (R_iaA A64 rfl rfl hb11)) (.inr (((((((hst.pull 6).pull 6).pull 6).pull 6).pull 6).pull 6).pull 6)) ?_
    refine P_take (i := 12) (v := I (x1.next x7.From.toNat)) 27 [12] (by kernel_rfl) rfl (by kernel_rfl) (fun _ _ _ h => h) rfl rfl rfl (fun w hst => R_load (hst.pull 1) rfl (by rcases in5 (show 0 ≤ x7.From ∧ x7.From < 5 by omega) with h | h | h | h | h <;> rw [h] <;> rfl)) ((((((((hst.pull 6).pull 6).pull 6).pull 6).pull 6).pull 6).pull 6)) ?_
    refine P_pure (i := 13) (v := I (IntKind.i64.wrap ((x1.next x7.From.toNat) - 1))) 27 rfl rfl (by kernel_rfl) (fun _ _ _ h => h) rfl rfl rfl (by kernel_rfl) (.inr (((((((hst.pull 6).pull 6).pull 6).pull 6).pull 6).pull 6).pull 6)) ?_
    refine P_pure (i := 14) (v := I (mn2 (IntKind.i64.wrap (x7.Index + 1)) (IntKind.i64.wrap ((x1.next x7.From.toNat) - 1)))) 27 rfl rfl (by kernel_rfl) (fun _ _ _ h => h) rfl rfl rfl (by kernel_rfl) (.inr (((((((hst.pull 6).pull 6).pull 6).pull 6).pull 6).pull 6).pull 6)) ?_
    refine P_pure (i := 15) (v := pt p1 0) 27 rfl rfl (by kernel_rfl) (fun _ _ _ h => h) rfl rfl rfl (by kernel_rfl) (.inr (((((((hst.pull 6).pull 6).pull 6).pull 6).pull 6).pull 6).pull 6)) ?_
    refine P_pure (i := 16) (v := pt p5 1) 27 rfl rfl (by kernel_rfl) (fun _ _ _ h => h) rfl rfl rfl (by kernel_rfl) (.inr (((((((hst.pull 6).pull 6).pull 6).pull 6).pull 6).pull 6).pull 6)) ?_
    refine P_take (i := 17) (v := I x7.From) 27 [17] (by kernel_rfl) rfl (by kernel_rfl) (fun _ _ _ h => h) rfl rfl rfl (fun w hst => R_load hst rfl rfl) ((((((((hst.pull 6).pull 6).pull 6).pull 6).pull 6).pull 6).pull 6)) ?_
    refine P_pure (i := 18) (v := pt p1 0) 27 rfl rfl (by kernel_rfl) (fun _ _ _ h => h) rfl rfl rfl (by kernel_rfl) (.inr (((((((hst.pull 6).pull 6).pull 6).pull 6).pull 6).pull 6).pull 6)) ?_
    refine P_pure (i := 19) (v := pt p1 24) 27 rfl rfl (by kernel_rfl) (fun _ _ _ h => h) rfl rfl rfl (by kernel_rfl) (.inr (((((((hst.pull 6).pull 6).pull 6).pull 6).pull 6).pull 6).pull 6)) ?_
    obtain ⟨hb12, hr⟩ := chk hr
    refine P_any (i := 20) (v := pt p1 (24 + x7.From.toNat)) 27 rfl rfl (by kernel_rfl) (fun _ _ _ h => h) rfl rfl rfl (fun w => (R_iaA A64 rfl rfl hb12)) (.inr (((((((hst.pull 6).pull 6).pull 6).pull 6).pull 6).pull 6).pull 6)) ?_
    refine P_take (i := 21) (v := I (x1.match_ x7.From.toNat)) 27 [21] (by kernel_rfl) rfl (by kernel_rfl) (fun _ _ _ h => h) rfl rfl rfl (fun w hst => R_load (hst.pull 1) rfl (by rcases in5 (show 0 ≤ x7.From ∧ x7.From < 5 by omega) with h | h | h | h | h <;> rw [h] <;> rfl)) ((((((((hst.pull 6).pull 6).pull 6).pull 6).pull 6).pull 6).pull 6)) ?_
    refine P_pure (i := 22) (v := I (IntKind.i64.wrap ((x1.match_ x7.From.toNat) + 1))) 27 rfl rfl (by kernel_rfl) (fun _ _ _ h => h) rfl rfl rfl (by kernel_rfl) (.inr (((((((hst.pull 6).pull 6).pull 6).pull 6).pull 6).pull 6).pull 6)) ?_
    refine P_pure (i := 23) (v := I (mx2 (mx2 (mn2 (IntKind.i64.wrap (x7.Index + 1)) (IntKind.i64.wrap ((x1.next x7.From.toNat) - 1))) (IntKind.i64.wrap ((x1.match_ x7.From.toNat) + 1))) 1)) 27 rfl rfl (by kernel_rfl) (fun _ _ _ h => h) rfl rfl rfl (by kernel_rfl) (.inr (((((((hst.pull 6).pull 6).pull 6).pull 6).pull 6).pull 6).pull 6)) ?_
    refine P_pure (i := 24) (v := pt p1 0) 27 rfl rfl (by kernel_rfl) (fun _ _ _ h => h) rfl rfl rfl (by kernel_rfl) (.inr (((((((hst.pull 6).pull 6).pull 6).pull 6).pull 6).pull 6).pull 6)) ?_
    refine P_pure (i := 25) (v := pt p1 19) 27 rfl rfl (by kernel_rfl) (fun _ _ _ h => h) rfl rfl rfl (by kernel_rfl) (.inr (((((((hst.pull 6).pull 6).pull 6).pull 6).pull 6).pull 6).pull 6)) ?_
    obtain ⟨hb13, hr⟩ := chk hr
    refine P_any (i := 26) (v := pt p1 (19 + x7.From.toNat)) 27 rfl rfl (by kernel_rfl) (fun _ _ _ h => h) rfl rfl rfl (fun w => (R_iaA A64 rfl rfl hb13)) (.inr (((((((hst.pull 6).pull 6).pull 6).pull 6).pull 6).pull 6).pull 6)) ?_
    refine P_act (i := 27) 27 (by kernel_rfl) rfl rfl (by kernel_rfl) (O_store [I x1.id, I x1.n, pt p2 0, I x1.st.Term, I x1.st.Vote, I x1.st.Base, I x1.st.BaseTerm, S x1.st.Snap, .slice a1 x1.st.Log.length c1, I x1.role, I x1.leader, I x1.commit, I x1.applied, I x1.timer, .bool (x1.votes 0), .bool (x1.votes 1), .bool (x1.votes 2), .bool (x1.votes 3), .bool (x1.votes 4), I ((upd x1.next x7.From.toNat (mx2 (mx2 (mn2 (IntKind.i64.wrap (x7.Index + 1)) (IntKind.i64.wrap ((x1.next x7.From.toNat) - 1))) (IntKind.i64.wrap ((x1.match_ x7.From.toNat) + 1))) 1)) 0), I ((upd x1.next x7.From.toNat (mx2 (mx2 (mn2 (IntKind.i64.wrap (x7.Index + 1)) (IntKind.i64.wrap ((x1.next x7.From.toNat) - 1))) (IntKind.i64.wrap ((x1.match_ x7.From.toNat) + 1))) 1)) 1), I ((upd x1.next x7.From.toNat (mx2 (mx2 (mn2 (IntKind.i64.wrap (x7.Index + 1)) (IntKind.i64.wrap ((x1.next x7.From.toNat) - 1))) (IntKind.i64.wrap ((x1.match_ x7.From.toNat) + 1))) 1)) 2), I ((upd x1.next x7.From.toNat (mx2 (mx2 (mn2 (IntKind.i64.wrap (x7.Index + 1)) (IntKind.i64.wrap ((x1.next x7.From.toNat) - 1))) (IntKind.i64.wrap ((x1.match_ x7.From.toNat) + 1))) 1)) 3), I ((upd x1.next x7.From.toNat (mx2 (mx2 (mn2 (IntKind.i64.wrap (x7.Index + 1)) (IntKind.i64.wrap ((x1.next x7.From.toNat) - 1))) (IntKind.i64.wrap ((x1.match_ x7.From.toNat) + 1))) 1)) 4), I (x1.match_ 0), I (x1.match_ 1), I (x1.match_ 2), I (x1.match_ 3), I (x1.match_ 4), .slice a2 x1.out.length c2, I x1.broken] (hst.pull 1) rfl rfl (by rcases in5 (show 0 ≤ x7.From ∧ x7.From < 5 by omega) with h | h | h | h | h <;> rw [h] <;> rfl) fun w hst => ?_)
    refine wpG_done (by kernel_rfl) ?_ _
    refine C_keepQ [(0, pt p1 0), (3, pt p5 0)] rfl fun b => ?_
    refine th_n ?_
    refine wp_seq ?_
    refine wp_reg ?_
    refine L_pure 2 [(34, pt p1 0), (35, pt p5 1)] (by kernel_rfl) fun b => ?_
    refine L_op rfl (O_run (v := I x7.From) (w' := w) (R_load (hst.pull 1) rfl rfl) rfl rfl ?_)
    obtain ⟨y9, hy9, hr⟩ := bnd hr
    refine L_op rfl (O_call (vs := #[pt p1 0, I x7.From]) Tryz.call49 (by kernel_rfl) (raft_Node_tell_ok k (T_raft_Node.mk x1.id x1.n x1.st x1.role x1.leader x1.commit x1.applied x1.timer x1.votes (upd x1.next x7.From.toNat (mx2 (mx2 (mn2 (IntKind.i64.wrap (x7.Index + 1)) (IntKind.i64.wrap ((x1.next x7.From.toNat) - 1))) (IntKind.i64.wrap ((x1.match_ x7.From.toNat) + 1))) 1)) x1.match_ x1.out x1.broken) x2 x3 x4 x5 x6 x7.From p1 p2 p3 a1 c1 a2 c2 y9 (((((hst.pull 5).pull 5).pull 5).pull 5).pull 4) hy9 fun a14 c14 a15 c15 w hst => ?_))
    refine CK_ret rfl ?_
    refine wpL_nil ?_
    refine th_n ?_
    refine wp_ret ?_
    refine th_r ?_
    refine ret0 rfl ?_
    obtain rfl := Option.some.inj hr
    have hst := (((((((hst.pull 6).pull 5).pull 5).pull 5).pull 5).pull 5).cut 6 1)
    exact hR a14 c14 a15 c15 _ hst
  · have hr := (if_neg (by rw [h]; exact Bool.false_ne_true)).symm.trans hr
    refine wp_skip ?_
    refine th_n ?_
    obtain ⟨y10, hy10, hk4⟩ := bnd hr
    clear hr
    refine wp_seq_cut (fun a w => ∃ (a16 : Option Addr) (c16 : Nat) (a17 : Option Addr) (c17 : Nat)(b : Nat → Value), a = mkF 114 b [(0, pt p1 0), (3, pt p5 0)] ∧ St G w (osl r_T_term_Entry 48 a16 c16 y10.st.Log :: osl r_T_raft_Msg 39 a17 c17 y10.out :: blk p1 (cl [I y10.id, I y10.n, pt p2 0, I y10.st.Term, I y10.st.Vote, I y10.st.Base, I y10.st.BaseTerm, S y10.st.Snap, .slice a16 y10.st.Log.length c16, I y10.role, I y10.leader, I y10.commit, I y10.applied, I y10.timer, .bool (y10.votes 0), .bool (y10.votes 1), .bool (y10.votes 2), .bool (y10.votes 3), .bool (y10.votes 4), I (y10.next 0), I (y10.next 1), I (y10.next 2), I (y10.next 3), I (y10.next 4), I (y10.match_ 0), I (y10.match_ 1), I (y10.match_ 2), I (y10.match_ 3), I (y10.match_ 4), .slice a17 y10.out.length c17, I y10.broken] 66) :: blk p2 (cl [I x2, I x3, .bool x4, I x5, .map (some p3)] 79) :: mpr S (rPt r_T_platter_file) p3 x6 :: blk p5 (cl [I x7.Kind, I x7.From, I x7.To, I x7.Term, I x7.Index, I x7.LogTerm, I x7.Commit, .bool x7.OK, .slice a3 x7.Entries.length c3, S x7.Snap] 39) :: dsl r_T_term_Entry a3 c3 x7.Entries :: F)) ?_ ?_
    · rintro _ w ⟨a16, c16, a17, c17, b, rfl, hst⟩
      have hr := hk4
      refine wp_seq ?_
      refine wp_regG (SP 22 (fun w => St G w (osl r_T_term_Entry 48 a16 c16 y10.st.Log :: osl r_T_raft_Msg 39 a17 c17 y10.out :: blk p1 (cl [I y10.id, I y10.n, pt p2 0, I y10.st.Term, I y10.st.Vote, I y10.st.Base, I y10.st.BaseTerm, S y10.st.Snap, .slice a16 y10.st.Log.length c16, I y10.role, I y10.leader, I y10.commit, I y10.applied, I y10.timer, .bool (y10.votes 0), .bool (y10.votes 1), .bool (y10.votes 2), .bool (y10.votes 3), .bool (y10.votes 4), I (y10.next 0), I (y10.next 1), I (y10.next 2), I (y10.next 3), I (y10.next 4), I (y10.match_ 0), I (y10.match_ 1), I (y10.match_ 2), I (y10.match_ 3), I (y10.match_ 4), .slice a17 y10.out.length c17, I y10.broken] 66) :: blk p2 (cl [I x2, I x3, .bool x4, I x5, .map (some p3)] 79) :: mpr S (rPt r_T_platter_file) p3 x6 :: blk p5 (cl [I x7.Kind, I x7.From, I x7.To, I x7.Term, I x7.Index, I x7.LogTerm, I x7.Commit, .bool x7.OK, .slice a3 x7.Entries.length c3, S x7.Snap] 39) :: dsl r_T_term_Entry a3 c3 x7.Entries :: F))) rfl ?_
      have hst := hst.draw (n := w.drawn + 1)
      generalize { w with drawn := w.drawn + 1 } = w at hst ⊢
      refine P_pure (i := 0) (v := pt p1 0) 22 rfl rfl (by kernel_rfl) (fun _ _ _ h => h) rfl rfl rfl (by kernel_rfl) (.inr (((((((hst.pull 6).pull 6).pull 6).pull 6).pull 6).pull 6).pull 6)) ?_
      refine P_pure (i := 1) (v := pt p5 1) 22 rfl rfl (by kernel_rfl) (fun _ _ _ h => h) rfl rfl rfl (by kernel_rfl) (.inr (((((((hst.pull 6).pull 6).pull 6).pull 6).pull 6).pull 6).pull 6)) ?_
      refine P_take (i := 2) (v := I x7.From) 22 [2] (by kernel_rfl) rfl (by kernel_rfl) (fun _ _ _ h => h) rfl rfl rfl (fun w hst => R_load (hst.pull 5) rfl rfl) ((((((((hst.pull 6).pull 6).pull 6).pull 6).pull 6).pull 6).pull 6)) ?_
      refine P_pure (i := 3) (v := pt p1 0) 22 rfl rfl (by kernel_rfl) (fun _ _ _ h => h) rfl rfl rfl (by kernel_rfl) (.inr (((((((hst.pull 6).pull 6).pull 6).pull 6).pull 6).pull 6).pull 6)) ?_
      refine P_pure (i := 4) (v := pt p5 1) 22 rfl rfl (by kernel_rfl) (fun _ _ _ h => h) rfl rfl rfl (by kernel_rfl) (.inr (((((((hst.pull 6).pull 6).pull 6).pull 6).pull 6).pull 6).pull 6)) ?_
      refine P_take (i := 5) (v := I x7.From) 22 [5] (by kernel_rfl) rfl (by kernel_rfl) (fun _ _ _ h => h) rfl rfl rfl (fun w hst => R_load (hst.pull 5) rfl rfl) ((((((((hst.pull 6).pull 6).pull 6).pull 6).pull 6).pull 6).pull 6)) ?_
      refine P_pure (i := 6) (v := pt p1 0) 22 rfl rfl (by kernel_rfl) (fun _ _ _ h => h) rfl rfl rfl (by kernel_rfl) (.inr (((((((hst.pull 6).pull 6).pull 6).pull 6).pull 6).pull 6).pull 6)) ?_
      refine P_pure (i := 7) (v := pt p1 19) 22 rfl rfl (by kernel_rfl) (fun _ _ _ h => h) rfl rfl rfl (by kernel_rfl) (.inr (((((((hst.pull 6).pull 6).pull 6).pull 6).pull 6).pull 6).pull 6)) ?_
      obtain ⟨hb16, hr⟩ := chk hr
      refine P_any (i := 8) (v := pt p1 (19 + x7.From.toNat)) 22 rfl rfl (by kernel_rfl) (fun _ _ _ h => h) rfl rfl rfl (fun w => (R_iaA A64 rfl rfl hb16)) (.inr (((((((hst.pull 6).pull 6).pull 6).pull 6).pull 6).pull 6).pull 6)) ?_
      refine P_take (i := 9) (v := I (y10.next x7.From.toNat)) 22 [9] (by kernel_rfl) rfl (by kernel_rfl) (fun _ _ _ h => h) rfl rfl rfl (fun w hst => R_load (hst.pull 2) rfl (by rcases in5 (show 0 ≤ x7.From ∧ x7.From < 5 by omega) with h | h | h | h | h <;> rw [h] <;> rfl)) ((((((((hst.pull 6).pull 6).pull 6).pull 6).pull 6).pull 6).pull 6)) ?_
      refine P_pure (i := 10) (v := pt p1 0) 22 rfl rfl (by kernel_rfl) (fun _ _ _ h => h) rfl rfl rfl (by kernel_rfl) (.inr (((((((hst.pull 6).pull 6).pull 6).pull 6).pull 6).pull 6).pull 6)) ?_
      refine P_pure (i := 11) (v := pt p5 1) 22 rfl rfl (by kernel_rfl) (fun _ _ _ h => h) rfl rfl rfl (by kernel_rfl) (.inr (((((((hst.pull 6).pull 6).pull 6).pull 6).pull 6).pull 6).pull 6)) ?_
      refine P_take (i := 12) (v := I x7.From) 22 [12] (by kernel_rfl) rfl (by kernel_rfl) (fun _ _ _ h => h) rfl rfl rfl (fun w hst => R_load (hst.pull 5) rfl rfl) ((((((((hst.pull 6).pull 6).pull 6).pull 6).pull 6).pull 6).pull 6)) ?_
      refine P_pure (i := 13) (v := pt p1 0) 22 rfl rfl (by kernel_rfl) (fun _ _ _ h => h) rfl rfl rfl (by kernel_rfl) (.inr (((((((hst.pull 6).pull 6).pull 6).pull 6).pull 6).pull 6).pull 6)) ?_
      refine P_pure (i := 14) (v := pt p1 24) 22 rfl rfl (by kernel_rfl) (fun _ _ _ h => h) rfl rfl rfl (by kernel_rfl) (.inr (((((((hst.pull 6).pull 6).pull 6).pull 6).pull 6).pull 6).pull 6)) ?_
      obtain ⟨hb17, hr⟩ := chk hr
      refine P_any (i := 15) (v := pt p1 (24 + x7.From.toNat)) 22 rfl rfl (by kernel_rfl) (fun _ _ _ h => h) rfl rfl rfl (fun w => (R_iaA A64 rfl rfl hb17)) (.inr (((((((hst.pull 6).pull 6).pull 6).pull 6).pull 6).pull 6).pull 6)) ?_
      refine P_take (i := 16) (v := I (y10.match_ x7.From.toNat)) 22 [16] (by kernel_rfl) rfl (by kernel_rfl) (fun _ _ _ h => h) rfl rfl rfl (fun w hst => R_load (hst.pull 2) rfl (by rcases in5 (show 0 ≤ x7.From ∧ x7.From < 5 by omega) with h | h | h | h | h <;> rw [h] <;> rfl)) ((((((((hst.pull 6).pull 6).pull 6).pull 6).pull 6).pull 6).pull 6)) ?_
      refine P_pure (i := 17) (v := I (IntKind.i64.wrap ((y10.match_ x7.From.toNat) + 1))) 22 rfl rfl (by kernel_rfl) (fun _ _ _ h => h) rfl rfl rfl (by kernel_rfl) (.inr (((((((hst.pull 6).pull 6).pull 6).pull 6).pull 6).pull 6).pull 6)) ?_
      refine P_pure (i := 18) (v := I (mx2 (y10.next x7.From.toNat) (IntKind.i64.wrap ((y10.match_ x7.From.toNat) + 1)))) 22 rfl rfl (by kernel_rfl) (fun _ _ _ h => h) rfl rfl rfl (by kernel_rfl) (.inr (((((((hst.pull 6).pull 6).pull 6).pull 6).pull 6).pull 6).pull 6)) ?_
      refine P_pure (i := 19) (v := pt p1 0) 22 rfl rfl (by kernel_rfl) (fun _ _ _ h => h) rfl rfl rfl (by kernel_rfl) (.inr (((((((hst.pull 6).pull 6).pull 6).pull 6).pull 6).pull 6).pull 6)) ?_
      refine P_pure (i := 20) (v := pt p1 19) 22 rfl rfl (by kernel_rfl) (fun _ _ _ h => h) rfl rfl rfl (by kernel_rfl) (.inr (((((((hst.pull 6).pull 6).pull 6).pull 6).pull 6).pull 6).pull 6)) ?_
      obtain ⟨hb18, hr⟩ := chk hr
      refine P_any (i := 21) (v := pt p1 (19 + x7.From.toNat)) 22 rfl rfl (by kernel_rfl) (fun _ _ _ h => h) rfl rfl rfl (fun w => (R_iaA A64 rfl rfl hb18)) (.inr (((((((hst.pull 6).pull 6).pull 6).pull 6).pull 6).pull 6).pull 6)) ?_
      refine P_act (i := 22) 22 (by kernel_rfl) rfl rfl (by kernel_rfl) (O_store [I y10.id, I y10.n, pt p2 0, I y10.st.Term, I y10.st.Vote, I y10.st.Base, I y10.st.BaseTerm, S y10.st.Snap, .slice a16 y10.st.Log.length c16, I y10.role, I y10.leader, I y10.commit, I y10.applied, I y10.timer, .bool (y10.votes 0), .bool (y10.votes 1), .bool (y10.votes 2), .bool (y10.votes 3), .bool (y10.votes 4), I ((upd y10.next x7.From.toNat (mx2 (y10.next x7.From.toNat) (IntKind.i64.wrap ((y10.match_ x7.From.toNat) + 1)))) 0), I ((upd y10.next x7.From.toNat (mx2 (y10.next x7.From.toNat) (IntKind.i64.wrap ((y10.match_ x7.From.toNat) + 1)))) 1), I ((upd y10.next x7.From.toNat (mx2 (y10.next x7.From.toNat) (IntKind.i64.wrap ((y10.match_ x7.From.toNat) + 1)))) 2), I ((upd y10.next x7.From.toNat (mx2 (y10.next x7.From.toNat) (IntKind.i64.wrap ((y10.match_ x7.From.toNat) + 1)))) 3), I ((upd y10.next x7.From.toNat (mx2 (y10.next x7.From.toNat) (IntKind.i64.wrap ((y10.match_ x7.From.toNat) + 1)))) 4), I (y10.match_ 0), I (y10.match_ 1), I (y10.match_ 2), I (y10.match_ 3), I (y10.match_ 4), .slice a17 y10.out.length c17, I y10.broken] (hst.pull 2) rfl rfl (by rcases in5 (show 0 ≤ x7.From ∧ x7.From < 5 by omega) with h | h | h | h | h <;> rw [h] <;> rfl) fun w hst => ?_)
      refine wpG_done (by kernel_rfl) ?_ _
      refine C_keepQ [(0, pt p1 0), (3, pt p5 0)] rfl fun b => ?_
      refine th_n ?_
      obtain ⟨y14, hy14, hk6⟩ := bnd hr
      clear hr
      refine wp_seq_cut (fun a w => ∃ (b : Nat → Value), a = mkF 114 b [(0, pt p1 0), (3, pt p5 0), (109, .bool y14)] ∧ St G w (blk p1 (cl [I y10.id, I y10.n, pt p2 0, I y10.st.Term, I y10.st.Vote, I y10.st.Base, I y10.st.BaseTerm, S y10.st.Snap, .slice a16 y10.st.Log.length c16, I y10.role, I y10.leader, I y10.commit, I y10.applied, I y10.timer, .bool (y10.votes 0), .bool (y10.votes 1), .bool (y10.votes 2), .bool (y10.votes 3), .bool (y10.votes 4), I ((upd y10.next x7.From.toNat (mx2 (y10.next x7.From.toNat) (IntKind.i64.wrap ((y10.match_ x7.From.toNat) + 1)))) 0), I ((upd y10.next x7.From.toNat (mx2 (y10.next x7.From.toNat) (IntKind.i64.wrap ((y10.match_ x7.From.toNat) + 1)))) 1), I ((upd y10.next x7.From.toNat (mx2 (y10.next x7.From.toNat) (IntKind.i64.wrap ((y10.match_ x7.From.toNat) + 1)))) 2), I ((upd y10.next x7.From.toNat (mx2 (y10.next x7.From.toNat) (IntKind.i64.wrap ((y10.match_ x7.From.toNat) + 1)))) 3), I ((upd y10.next x7.From.toNat (mx2 (y10.next x7.From.toNat) (IntKind.i64.wrap ((y10.match_ x7.From.toNat) + 1)))) 4), I (y10.match_ 0), I (y10.match_ 1), I (y10.match_ 2), I (y10.match_ 3), I (y10.match_ 4), .slice a17 y10.out.length c17, I y10.broken] 66) :: blk p2 (cl [I x2, I x3, .bool x4, I x5, .map (some p3)] 79) :: mpr S (rPt r_T_platter_file) p3 x6 :: osl r_T_term_Entry 48 a16 c16 y10.st.Log :: osl r_T_raft_Msg 39 a17 c17 y10.out :: blk p5 (cl [I x7.Kind, I x7.From, I x7.To, I x7.Term, I x7.Index, I x7.LogTerm, I x7.Commit, .bool x7.OK, .slice a3 x7.Entries.length c3, S x7.Snap] 39) :: dsl r_T_term_Entry a3 c3 x7.Entries :: F)) ?_ ?_
      · rintro _ w ⟨b, rfl, hst⟩
        have hr := hk6
        refine wp_cond_mkF (t := y14) rfl (fun h => ?_) (fun h => ?_)
        · have hr := (if_pos h).symm.trans hr
          refine wp_reg ?_
          refine L_pure 2 [(110, pt p1 0), (111, pt p5 1)] (by kernel_rfl) fun b => ?_
          refine L_op rfl (O_run (v := I x7.From) (w' := w) (R_load (hst.pull 5) rfl rfl) rfl rfl ?_)
          obtain ⟨y16, hy16, hr⟩ := bnd hr
          refine L_op rfl (O_call (vs := #[pt p1 0, I x7.From]) Tryz.call49 (by kernel_rfl) (raft_Node_tell_ok k (T_raft_Node.mk y10.id y10.n y10.st y10.role y10.leader y10.commit y10.applied y10.timer y10.votes (upd y10.next x7.From.toNat (mx2 (y10.next x7.From.toNat) (IntKind.i64.wrap ((y10.match_ x7.From.toNat) + 1)))) y10.match_ y10.out y10.broken) x2 x3 x4 x5 x6 x7.From p1 p2 p3 a16 c16 a17 c17 y16 (((((hst.pull 4).pull 4).pull 4).pull 4).pull 4) hy16 fun a20 c20 a21 c21 w hst => ?_))
          refine CK_ret rfl ?_
          refine wpL_nil ?_
          refine bp_normal ?_
          refine ret0 rfl ?_
          obtain rfl := Option.some.inj hr
          have hst := (((((((hst.pull 6).pull 5).pull 5).pull 5).pull 5).pull 5).cut 6 1)
          exact hR a20 c20 a21 c21 _ hst
        · have hr := (if_neg (by rw [h]; exact Bool.false_ne_true)).symm.trans hr
          refine wp_skip ?_
          refine bp_normal ?_
          refine ret0 rfl ?_
          obtain rfl := Option.some.inj hr
          have hst := (((((((hst.pull 6).pull 3).pull 3).pull 3).pull 5).pull 5).cut 6 1)
          exact hR a16 c16 a17 c17 _ hst
      · have hr := hy14
        refine wp_regG (SQ (fun w => St G w (blk p1 (cl [I y10.id, I y10.n, pt p2 0, I y10.st.Term, I y10.st.Vote, I y10.st.Base, I y10.st.BaseTerm, S y10.st.Snap, .slice a16 y10.st.Log.length c16, I y10.role, I y10.leader, I y10.commit, I y10.applied, I y10.timer, .bool (y10.votes 0), .bool (y10.votes 1), .bool (y10.votes 2), .bool (y10.votes 3), .bool (y10.votes 4), I ((upd y10.next x7.From.toNat (mx2 (y10.next x7.From.toNat) (IntKind.i64.wrap ((y10.match_ x7.From.toNat) + 1)))) 0), I ((upd y10.next x7.From.toNat (mx2 (y10.next x7.From.toNat) (IntKind.i64.wrap ((y10.match_ x7.From.toNat) + 1)))) 1), I ((upd y10.next x7.From.toNat (mx2 (y10.next x7.From.toNat) (IntKind.i64.wrap ((y10.match_ x7.From.toNat) + 1)))) 2), I ((upd y10.next x7.From.toNat (mx2 (y10.next x7.From.toNat) (IntKind.i64.wrap ((y10.match_ x7.From.toNat) + 1)))) 3), I ((upd y10.next x7.From.toNat (mx2 (y10.next x7.From.toNat) (IntKind.i64.wrap ((y10.match_ x7.From.toNat) + 1)))) 4), I (y10.match_ 0), I (y10.match_ 1), I (y10.match_ 2), I (y10.match_ 3), I (y10.match_ 4), .slice a17 y10.out.length c17, I y10.broken] 66) :: osl r_T_term_Entry 48 a16 c16 y10.st.Log :: osl r_T_raft_Msg 39 a17 c17 y10.out :: blk p2 (cl [I x2, I x3, .bool x4, I x5, .map (some p3)] 79) :: mpr S (rPt r_T_platter_file) p3 x6 :: blk p5 (cl [I x7.Kind, I x7.From, I x7.To, I x7.Term, I x7.Index, I x7.LogTerm, I x7.Commit, .bool x7.OK, .slice a3 x7.Entries.length c3, S x7.Snap] 39) :: dsl r_T_term_Entry a3 c3 x7.Entries :: F))) rfl ?_
        have hst := hst.draw (n := w.drawn + 1)
        generalize { w with drawn := w.drawn + 1 } = w at hst ⊢
        refine Q_take (i := 0) (v := pt p1 0) rfl (by kernel_rfl) (fun _ _ _ h => h) rfl rfl rfl (fun _ _ => R_pure (by kernel_rfl)) (((((((hst.pull 6).pull 6).pull 6).pull 6).pull 6).pull 6).pull 6) ?_
        refine Q_take (i := 1) (v := pt p5 1) rfl (by kernel_rfl) (fun _ _ _ h => h) rfl rfl rfl (fun _ _ => R_pure (by kernel_rfl)) (((((((hst.pull 6).pull 6).pull 6).pull 6).pull 6).pull 6).pull 6) ?_
        refine Q_take (i := 2) (v := I x7.From) rfl (by kernel_rfl) (fun _ _ _ h => h) rfl rfl rfl (fun w hst => R_load (hst.pull 5) rfl rfl) (((((((hst.pull 6).pull 6).pull 6).pull 6).pull 6).pull 6).pull 6) ?_
        refine Q_take (i := 3) (v := pt p1 0) rfl (by kernel_rfl) (fun _ _ _ h => h) rfl rfl rfl (fun _ _ => R_pure (by kernel_rfl)) (((((((hst.pull 6).pull 6).pull 6).pull 6).pull 6).pull 6).pull 6) ?_
        refine Q_take (i := 4) (v := pt p1 19) rfl (by kernel_rfl) (fun _ _ _ h => h) rfl rfl rfl (fun _ _ => R_pure (by kernel_rfl)) (((((((hst.pull 6).pull 6).pull 6).pull 6).pull 6).pull 6).pull 6) ?_
        obtain ⟨hb19, hr⟩ := chk hr
        refine Q_take (i := 5) (v := pt p1 (19 + x7.From.toNat)) rfl (by kernel_rfl) (fun _ _ _ h => h) rfl rfl rfl (fun _ _ => (R_iaA A64 rfl rfl hb19)) (((((((hst.pull 6).pull 6).pull 6).pull 6).pull 6).pull 6).pull 6) ?_
        refine Q_take (i := 6) (v := I ((upd y10.next x7.From.toNat (mx2 (y10.next x7.From.toNat) (IntKind.i64.wrap ((y10.match_ x7.From.toNat) + 1)))) x7.From.toNat)) rfl (by kernel_rfl) (fun _ _ _ h => h) rfl rfl rfl (fun w hst => R_load hst rfl (by rcases in5 (show 0 ≤ x7.From ∧ x7.From < 5 by omega) with h | h | h | h | h <;> rw [h] <;> rfl)) (((((((hst.pull 6).pull 6).pull 6).pull 6).pull 6).pull 6).pull 6) ?_
        refine Q_take (i := 7) (v := pt p1 0) rfl (by kernel_rfl) (fun _ _ _ h => h) rfl rfl rfl (fun _ _ => R_pure (by kernel_rfl)) (((((((hst.pull 6).pull 6).pull 6).pull 6).pull 6).pull 6).pull 6) ?_
        obtain ⟨y15, hy15, hr⟩ := bnd hr
        refine Q_one (i := 8) (by kernel_rfl) rfl rfl (O_call (vs := #[pt p1 0]) Tryz.call8 (by kernel_rfl) (raft_Node_Last_ok k (T_raft_Node.mk y10.id y10.n y10.st y10.role y10.leader y10.commit y10.applied y10.timer y10.votes (upd y10.next x7.From.toNat (mx2 (y10.next x7.From.toNat) (IntKind.i64.wrap ((y10.match_ x7.From.toNat) + 1)))) y10.match_ y10.out y10.broken) x2 x3 x4 x5 x6 p1 p2 p3 a16 c16 a17 c17 y15 (((((hst.pull 2).pull 2).pull 4).pull 4).pull 4) hy15 fun w hst => ?_))
        refine CK_ret rfl ?_
        refine ⟨(((((((hst.pull 6).pull 6).pull 4).pull 4).pull 6).pull 6).pull 6), ?_⟩
        refine Q_take (i := 9) (v := .bool (decide (((upd y10.next x7.From.toNat (mx2 (y10.next x7.From.toNat) (IntKind.i64.wrap ((y10.match_ x7.From.toNat) + 1)))) x7.From.toNat) ≤ y15))) rfl (by kernel_rfl) (fun _ _ _ h => h) rfl rfl rfl (fun _ _ => R_pure (by kernel_rfl)) (((((((hst.pull 6).pull 6).pull 4).pull 4).pull 6).pull 6).pull 6) ?_
        refine Q_take (i := 10) (v := .bool (decide (((upd y10.next x7.From.toNat (mx2 (y10.next x7.From.toNat) (IntKind.i64.wrap ((y10.match_ x7.From.toNat) + 1)))) x7.From.toNat) ≤ y15))) rfl (by kernel_rfl) (fun _ _ _ h => h) rfl rfl rfl (fun _ _ => R_pure (by kernel_rfl)) (((((((hst.pull 6).pull 6).pull 4).pull 4).pull 6).pull 6).pull 6) ?_
        by_cases h : (decide (((upd y10.next x7.From.toNat (mx2 (y10.next x7.From.toNat) (IntKind.i64.wrap ((y10.match_ x7.From.toNat) + 1)))) x7.From.toNat) ≤ y15)) = true
        · have hr := (if_pos h).symm.trans hr
          refine C_keep ((97, .bool (decide (((upd y10.next x7.From.toNat (mx2 (y10.next x7.From.toNat) (IntKind.i64.wrap ((y10.match_ x7.From.toNat) + 1)))) x7.From.toNat) ≤ y15))) :: [(0, pt p1 0), (3, pt p5 0), (87, pt p1 0), (88, pt p5 1), (89, I x7.From), (90, pt p1 0), (91, pt p1 19), (92, pt p1 (19 + x7.From.toNat)), (93, I ((upd y10.next x7.From.toNat (mx2 (y10.next x7.From.toNat) (IntKind.i64.wrap ((y10.match_ x7.From.toNat) + 1)))) x7.From.toNat)), (94, pt p1 0), (95, I y15), (96, .bool (decide (((upd y10.next x7.From.toNat (mx2 (y10.next x7.From.toNat) (IntKind.i64.wrap ((y10.match_ x7.From.toNat) + 1)))) x7.From.toNat) ≤ y15)))]) rfl fun b => ?_
          refine C_bool h ?_
          refine Q_take (i := 11) (v := pt p5 4) rfl (by kernel_rfl) (fun _ _ _ h => h) rfl rfl rfl (fun _ _ => R_pure (by kernel_rfl)) (((((((hst.pull 6).pull 6).pull 4).pull 4).pull 6).pull 6).pull 6) ?_
          refine Q_take (i := 12) (v := I x7.Index) rfl (by kernel_rfl) (fun _ _ _ h => h) rfl rfl rfl (fun w hst => R_load (hst.pull 5) rfl rfl) (((((((hst.pull 6).pull 6).pull 4).pull 4).pull 6).pull 6).pull 6) ?_
          refine Q_take (i := 13) (v := I (IntKind.i64.wrap (x7.Index + 1))) rfl (by kernel_rfl) (fun _ _ _ h => h) rfl rfl rfl (fun _ _ => R_pure (by kernel_rfl)) (((((((hst.pull 6).pull 6).pull 4).pull 4).pull 6).pull 6).pull 6) ?_
          refine Q_take (i := 14) (v := pt p1 0) rfl (by kernel_rfl) (fun _ _ _ h => h) rfl rfl rfl (fun _ _ => R_pure (by kernel_rfl)) (((((((hst.pull 6).pull 6).pull 4).pull 4).pull 6).pull 6).pull 6) ?_
          refine Q_take (i := 15) (v := pt p5 1) rfl (by kernel_rfl) (fun _ _ _ h => h) rfl rfl rfl (fun _ _ => R_pure (by kernel_rfl)) (((((((hst.pull 6).pull 6).pull 4).pull 4).pull 6).pull 6).pull 6) ?_
          refine Q_take (i := 16) (v := I x7.From) rfl (by kernel_rfl) (fun _ _ _ h => h) rfl rfl rfl (fun w hst => R_load (hst.pull 5) rfl rfl) (((((((hst.pull 6).pull 6).pull 4).pull 4).pull 6).pull 6).pull 6) ?_
          refine Q_take (i := 17) (v := pt p1 0) rfl (by kernel_rfl) (fun _ _ _ h => h) rfl rfl rfl (fun _ _ => R_pure (by kernel_rfl)) (((((((hst.pull 6).pull 6).pull 4).pull 4).pull 6).pull 6).pull 6) ?_
          refine Q_take (i := 18) (v := pt p1 19) rfl (by kernel_rfl) (fun _ _ _ h => h) rfl rfl rfl (fun _ _ => R_pure (by kernel_rfl)) (((((((hst.pull 6).pull 6).pull 4).pull 4).pull 6).pull 6).pull 6) ?_
          obtain ⟨hb20, hr⟩ := chk hr
          refine Q_take (i := 19) (v := pt p1 (19 + x7.From.toNat)) rfl (by kernel_rfl) (fun _ _ _ h => h) rfl rfl rfl (fun _ _ => (R_iaA A64 rfl rfl hb20)) (((((((hst.pull 6).pull 6).pull 4).pull 4).pull 6).pull 6).pull 6) ?_
          refine Q_take (i := 20) (v := I ((upd y10.next x7.From.toNat (mx2 (y10.next x7.From.toNat) (IntKind.i64.wrap ((y10.match_ x7.From.toNat) + 1)))) x7.From.toNat)) rfl (by kernel_rfl) (fun _ _ _ h => h) rfl rfl rfl (fun w hst => R_load hst rfl (by rcases in5 (show 0 ≤ x7.From ∧ x7.From < 5 by omega) with h | h | h | h | h <;> rw [h] <;> rfl)) (((((((hst.pull 6).pull 6).pull 4).pull 4).pull 6).pull 6).pull 6) ?_
          refine Q_take (i := 21) (v := .bool ((IntKind.i64.wrap (x7.Index + 1)) == ((upd y10.next x7.From.toNat (mx2 (y10.next x7.From.toNat) (IntKind.i64.wrap ((y10.match_ x7.From.toNat) + 1)))) x7.From.toNat))) rfl (by kernel_rfl) (fun _ _ _ h => h) rfl rfl rfl (fun _ _ => (R_ieq rfl rfl)) (((((((hst.pull 6).pull 6).pull 4).pull 4).pull 6).pull 6).pull 6) ?_
          refine Q_take (i := 22) (v := .bool ((IntKind.i64.wrap (x7.Index + 1)) == ((upd y10.next x7.From.toNat (mx2 (y10.next x7.From.toNat) (IntKind.i64.wrap ((y10.match_ x7.From.toNat) + 1)))) x7.From.toNat))) rfl (by kernel_rfl) (fun _ _ _ h => h) rfl rfl rfl (fun _ _ => R_pure (by kernel_rfl)) (((((((hst.pull 6).pull 6).pull 4).pull 4).pull 6).pull 6).pull 6) ?_
          refine wpG_done (by kernel_rfl) ?_ _
          refine C_keepQ [(0, pt p1 0), (3, pt p5 0), (109, .bool ((IntKind.i64.wrap (x7.Index + 1)) == ((upd y10.next x7.From.toNat (mx2 (y10.next x7.From.toNat) (IntKind.i64.wrap ((y10.match_ x7.From.toNat) + 1)))) x7.From.toNat)))] rfl fun b => ?_
          refine th_n ?_
          obtain rfl := Option.some.inj hr
          have hst := (((((((hst.pull 6).pull 6).pull 6).pull 6).pull 6).pull 6).pull 6)
          exact (kpX [(0, pt p1 0), (3, pt p5 0), (109, .bool ((IntKind.i64.wrap (x7.Index + 1)) == ((upd y10.next x7.From.toNat (mx2 (y10.next x7.From.toNat) (IntKind.i64.wrap ((y10.match_ x7.From.toNat) + 1)))) x7.From.toNat)))] rfl hst)
        · have hr := (if_neg h).symm.trans hr
          refine C_keep ((97, .bool (decide (((upd y10.next x7.From.toNat (mx2 (y10.next x7.From.toNat) (IntKind.i64.wrap ((y10.match_ x7.From.toNat) + 1)))) x7.From.toNat) ≤ y15))) :: [(0, pt p1 0), (3, pt p5 0), (87, pt p1 0), (88, pt p5 1), (89, I x7.From), (90, pt p1 0), (91, pt p1 19), (92, pt p1 (19 + x7.From.toNat)), (93, I ((upd y10.next x7.From.toNat (mx2 (y10.next x7.From.toNat) (IntKind.i64.wrap ((y10.match_ x7.From.toNat) + 1)))) x7.From.toNat)), (94, pt p1 0), (95, I y15), (96, .bool (decide (((upd y10.next x7.From.toNat (mx2 (y10.next x7.From.toNat) (IntKind.i64.wrap ((y10.match_ x7.From.toNat) + 1)))) x7.From.toNat) ≤ y15)))]) rfl fun b => ?_
          refine C_bool (eq_false_of_ne_true h) ?_
          refine Q_skip (i := 11) rfl (by kernel_rfl) (fun _ _ _ h => h) rfl rfl rfl (((((((hst.pull 6).pull 6).pull 4).pull 4).pull 6).pull 6).pull 6) ?_
          refine Q_skip (i := 12) rfl (by kernel_rfl) (fun _ _ _ h => h) rfl rfl rfl (((((((hst.pull 6).pull 6).pull 4).pull 4).pull 6).pull 6).pull 6) ?_
          refine Q_skip (i := 13) rfl (by kernel_rfl) (fun _ _ _ h => h) rfl rfl rfl (((((((hst.pull 6).pull 6).pull 4).pull 4).pull 6).pull 6).pull 6) ?_
          refine Q_skip (i := 14) rfl (by kernel_rfl) (fun _ _ _ h => h) rfl rfl rfl (((((((hst.pull 6).pull 6).pull 4).pull 4).pull 6).pull 6).pull 6) ?_
          refine Q_skip (i := 15) rfl (by kernel_rfl) (fun _ _ _ h => h) rfl rfl rfl (((((((hst.pull 6).pull 6).pull 4).pull 4).pull 6).pull 6).pull 6) ?_
          refine Q_skip (i := 16) rfl (by kernel_rfl) (fun _ _ _ h => h) rfl rfl rfl (((((((hst.pull 6).pull 6).pull 4).pull 4).pull 6).pull 6).pull 6) ?_
          refine Q_skip (i := 17) rfl (by kernel_rfl) (fun _ _ _ h => h) rfl rfl rfl (((((((hst.pull 6).pull 6).pull 4).pull 4).pull 6).pull 6).pull 6) ?_
          refine Q_skip (i := 18) rfl (by kernel_rfl) (fun _ _ _ h => h) rfl rfl rfl (((((((hst.pull 6).pull 6).pull 4).pull 4).pull 6).pull 6).pull 6) ?_
          refine Q_skip (i := 19) rfl (by kernel_rfl) (fun _ _ _ h => h) rfl rfl rfl (((((((hst.pull 6).pull 6).pull 4).pull 4).pull 6).pull 6).pull 6) ?_
          refine Q_skip (i := 20) rfl (by kernel_rfl) (fun _ _ _ h => h) rfl rfl rfl (((((((hst.pull 6).pull 6).pull 4).pull 4).pull 6).pull 6).pull 6) ?_
          refine Q_skip (i := 21) rfl (by kernel_rfl) (fun _ _ _ h => h) rfl rfl rfl (((((((hst.pull 6).pull 6).pull 4).pull 4).pull 6).pull 6).pull 6) ?_
          refine Q_take (i := 22) (v := .bool false) rfl (by kernel_rfl) (fun _ _ _ h => h) rfl rfl rfl (fun _ _ => R_pure (by kernel_rfl)) (((((((hst.pull 6).pull 6).pull 4).pull 4).pull 6).pull 6).pull 6) ?_
          refine wpG_done (by kernel_rfl) ?_ _
          refine C_keepQ [(0, pt p1 0), (3, pt p5 0), (109, .bool false)] rfl fun b => ?_
          refine th_n ?_
          obtain rfl := Option.some.inj hr
          have hst := (((((((hst.pull 6).pull 6).pull 6).pull 6).pull 6).pull 6).pull 6)
          exact (kpX [(0, pt p1 0), (3, pt p5 0), (109, .bool false)] rfl hst)
    · have hr := hy10
      obtain ⟨y11, hy11, hk5⟩ := bnd hr
      clear hr
      refine wp_seq_cut (fun a w => ∃ (b : Nat → Value), a = mkF 114 b [(0, pt p1 0), (3, pt p5 0), (54, .bool y11)] ∧ St G w (blk p1 (cl [I x1.id, I x1.n, pt p2 0, I x1.st.Term, I x1.st.Vote, I x1.st.Base, I x1.st.BaseTerm, S x1.st.Snap, .slice a1 x1.st.Log.length c1, I x1.role, I x1.leader, I x1.commit, I x1.applied, I x1.timer, .bool (x1.votes 0), .bool (x1.votes 1), .bool (x1.votes 2), .bool (x1.votes 3), .bool (x1.votes 4), I (x1.next 0), I (x1.next 1), I (x1.next 2), I (x1.next 3), I (x1.next 4), I (x1.match_ 0), I (x1.match_ 1), I (x1.match_ 2), I (x1.match_ 3), I (x1.match_ 4), .slice a2 x1.out.length c2, I x1.broken] 66) :: blk p2 (cl [I x2, I x3, .bool x4, I x5, .map (some p3)] 79) :: mpr S (rPt r_T_platter_file) p3 x6 :: osl r_T_term_Entry 48 a1 c1 x1.st.Log :: osl r_T_raft_Msg 39 a2 c2 x1.out :: blk p5 (cl [I x7.Kind, I x7.From, I x7.To, I x7.Term, I x7.Index, I x7.LogTerm, I x7.Commit, .bool x7.OK, .slice a3 x7.Entries.length c3, S x7.Snap] 39) :: dsl r_T_term_Entry a3 c3 x7.Entries :: F)) ?_ ?_
      · rintro _ w ⟨b, rfl, hst⟩
        have hr := hk5
        refine wp_cond_mkF (t := y11) rfl (fun h => ?_) (fun h => ?_)
        · have hr := (if_pos h).symm.trans hr
          refine wp_seq ?_
          refine wp_regG (SP 8 (fun w => St G w (blk p1 (cl [I x1.id, I x1.n, pt p2 0, I x1.st.Term, I x1.st.Vote, I x1.st.Base, I x1.st.BaseTerm, S x1.st.Snap, .slice a1 x1.st.Log.length c1, I x1.role, I x1.leader, I x1.commit, I x1.applied, I x1.timer, .bool (x1.votes 0), .bool (x1.votes 1), .bool (x1.votes 2), .bool (x1.votes 3), .bool (x1.votes 4), I (x1.next 0), I (x1.next 1), I (x1.next 2), I (x1.next 3), I (x1.next 4), I (x1.match_ 0), I (x1.match_ 1), I (x1.match_ 2), I (x1.match_ 3), I (x1.match_ 4), .slice a2 x1.out.length c2, I x1.broken] 66) :: blk p2 (cl [I x2, I x3, .bool x4, I x5, .map (some p3)] 79) :: mpr S (rPt r_T_platter_file) p3 x6 :: osl r_T_term_Entry 48 a1 c1 x1.st.Log :: osl r_T_raft_Msg 39 a2 c2 x1.out :: blk p5 (cl [I x7.Kind, I x7.From, I x7.To, I x7.Term, I x7.Index, I x7.LogTerm, I x7.Commit, .bool x7.OK, .slice a3 x7.Entries.length c3, S x7.Snap] 39) :: dsl r_T_term_Entry a3 c3 x7.Entries :: F))) rfl ?_
          have hst := hst.draw (n := w.drawn + 1)
          generalize { w with drawn := w.drawn + 1 } = w at hst ⊢
          refine P_pure (i := 0) (v := pt p1 0) 8 rfl rfl (by kernel_rfl) (fun _ _ _ h => h) rfl rfl rfl (by kernel_rfl) (.inr (((((((hst.pull 6).pull 6).pull 6).pull 6).pull 6).pull 6).pull 6)) ?_
          refine P_pure (i := 1) (v := pt p5 1) 8 rfl rfl (by kernel_rfl) (fun _ _ _ h => h) rfl rfl rfl (by kernel_rfl) (.inr (((((((hst.pull 6).pull 6).pull 6).pull 6).pull 6).pull 6).pull 6)) ?_
          refine P_take (i := 2) (v := I x7.From) 8 [2] (by kernel_rfl) rfl (by kernel_rfl) (fun _ _ _ h => h) rfl rfl rfl (fun w hst => R_load (hst.pull 5) rfl rfl) ((((((((hst.pull 6).pull 6).pull 6).pull 6).pull 6).pull 6).pull 6)) ?_
          refine P_pure (i := 3) (v := pt p5 4) 8 rfl rfl (by kernel_rfl) (fun _ _ _ h => h) rfl rfl rfl (by kernel_rfl) (.inr (((((((hst.pull 6).pull 6).pull 6).pull 6).pull 6).pull 6).pull 6)) ?_
          refine P_take (i := 4) (v := I x7.Index) 8 [4] (by kernel_rfl) rfl (by kernel_rfl) (fun _ _ _ h => h) rfl rfl rfl (fun w hst => R_load (hst.pull 5) rfl rfl) ((((((((hst.pull 6).pull 6).pull 6).pull 6).pull 6).pull 6).pull 6)) ?_
          refine P_pure (i := 5) (v := pt p1 0) 8 rfl rfl (by kernel_rfl) (fun _ _ _ h => h) rfl rfl rfl (by kernel_rfl) (.inr (((((((hst.pull 6).pull 6).pull 6).pull 6).pull 6).pull 6).pull 6)) ?_
          refine P_pure (i := 6) (v := pt p1 24) 8 rfl rfl (by kernel_rfl) (fun _ _ _ h => h) rfl rfl rfl (by kernel_rfl) (.inr (((((((hst.pull 6).pull 6).pull 6).pull 6).pull 6).pull 6).pull 6)) ?_
          obtain ⟨hb15, hr⟩ := chk hr
          refine P_any (i := 7) (v := pt p1 (24 + x7.From.toNat)) 8 rfl rfl (by kernel_rfl) (fun _ _ _ h => h) rfl rfl rfl (fun w => (R_iaA A64 rfl rfl hb15)) (.inr (((((((hst.pull 6).pull 6).pull 6).pull 6).pull 6).pull 6).pull 6)) ?_
          refine P_act (i := 8) 8 (by kernel_rfl) rfl rfl (by kernel_rfl) (O_store [I x1.id, I x1.n, pt p2 0, I x1.st.Term, I x1.st.Vote, I x1.st.Base, I x1.st.BaseTerm, S x1.st.Snap, .slice a1 x1.st.Log.length c1, I x1.role, I x1.leader, I x1.commit, I x1.applied, I x1.timer, .bool (x1.votes 0), .bool (x1.votes 1), .bool (x1.votes 2), .bool (x1.votes 3), .bool (x1.votes 4), I (x1.next 0), I (x1.next 1), I (x1.next 2), I (x1.next 3), I (x1.next 4), I ((upd x1.match_ x7.From.toNat x7.Index) 0), I ((upd x1.match_ x7.From.toNat x7.Index) 1), I ((upd x1.match_ x7.From.toNat x7.Index) 2), I ((upd x1.match_ x7.From.toNat x7.Index) 3), I ((upd x1.match_ x7.From.toNat x7.Index) 4), .slice a2 x1.out.length c2, I x1.broken] hst rfl rfl (by rcases in5 (show 0 ≤ x7.From ∧ x7.From < 5 by omega) with h | h | h | h | h <;> rw [h] <;> rfl) fun w hst => ?_)
          refine wpG_done (by kernel_rfl) ?_ _
          refine C_keepQ [(0, pt p1 0), (3, pt p5 0)] rfl fun b => ?_
          refine th_n ?_
          refine wp_reg ?_
          refine L_pure 1 [(0, pt p1 0), (3, pt p5 0), (63, pt p1 0)] (by kernel_rfl) fun b => ?_
          obtain ⟨y13, hy13, hr⟩ := bnd hr
          refine L_op rfl (O_call (vs := #[pt p1 0]) Tryz.call50 (by kernel_rfl) (raft_Node_settle_ok k (T_raft_Node.mk x1.id x1.n x1.st x1.role x1.leader x1.commit x1.applied x1.timer x1.votes x1.next (upd x1.match_ x7.From.toNat x7.Index) x1.out x1.broken) x2 x3 x4 x5 x6 p1 p2 p3 a1 c1 a2 c2 y13 (((((hst.pull 4).pull 4).pull 4).pull 4).pull 4) hy13 fun a18 c18 a19 c19 w hst => ?_))
          refine CK_ret rfl ?_
          refine wpL_nil ?_
          refine th_n ?_
          obtain rfl := Option.some.inj hr
          have hst := (((((((hst.pull 6).pull 6).pull 6).pull 6).pull 6).pull 6).pull 6)
          exact ⟨a18, c18, a19, c19, (kpX [(0, pt p1 0), (3, pt p5 0)] rfl hst)⟩
        · have hr := (if_neg (by rw [h]; exact Bool.false_ne_true)).symm.trans hr
          refine wp_skip ?_
          refine th_n ?_
          obtain rfl := Option.some.inj hr
          have hst := (((((((hst.pull 6).pull 6).pull 4).pull 4).pull 4).pull 6).pull 6)
          exact ⟨a1, c1, a2, c2, (kpX [(0, pt p1 0), (3, pt p5 0)] rfl hst)⟩
      · have hr := hy11
        refine wp_regG (SQ (fun w => St G w (blk p5 (cl [I x7.Kind, I x7.From, I x7.To, I x7.Term, I x7.Index, I x7.LogTerm, I x7.Commit, .bool x7.OK, .slice a3 x7.Entries.length c3, S x7.Snap] 39) :: blk p1 (cl [I x1.id, I x1.n, pt p2 0, I x1.st.Term, I x1.st.Vote, I x1.st.Base, I x1.st.BaseTerm, S x1.st.Snap, .slice a1 x1.st.Log.length c1, I x1.role, I x1.leader, I x1.commit, I x1.applied, I x1.timer, .bool (x1.votes 0), .bool (x1.votes 1), .bool (x1.votes 2), .bool (x1.votes 3), .bool (x1.votes 4), I (x1.next 0), I (x1.next 1), I (x1.next 2), I (x1.next 3), I (x1.next 4), I (x1.match_ 0), I (x1.match_ 1), I (x1.match_ 2), I (x1.match_ 3), I (x1.match_ 4), .slice a2 x1.out.length c2, I x1.broken] 66) :: blk p2 (cl [I x2, I x3, .bool x4, I x5, .map (some p3)] 79) :: mpr S (rPt r_T_platter_file) p3 x6 :: osl r_T_term_Entry 48 a1 c1 x1.st.Log :: osl r_T_raft_Msg 39 a2 c2 x1.out :: dsl r_T_term_Entry a3 c3 x7.Entries :: F))) rfl ?_
        have hst := hst.draw (n := w.drawn + 1)
        generalize { w with drawn := w.drawn + 1 } = w at hst ⊢
        refine Q_take (i := 0) (v := pt p5 4) rfl (by kernel_rfl) (fun _ _ _ h => h) rfl rfl rfl (fun _ _ => R_pure (by kernel_rfl)) (((((((hst.pull 6).pull 6).pull 6).pull 6).pull 6).pull 6).pull 6) ?_
        refine Q_take (i := 1) (v := I x7.Index) rfl (by kernel_rfl) (fun _ _ _ h => h) rfl rfl rfl (fun w hst => R_load hst rfl rfl) (((((((hst.pull 6).pull 6).pull 6).pull 6).pull 6).pull 6).pull 6) ?_
        refine Q_take (i := 2) (v := pt p1 0) rfl (by kernel_rfl) (fun _ _ _ h => h) rfl rfl rfl (fun _ _ => R_pure (by kernel_rfl)) (((((((hst.pull 6).pull 6).pull 6).pull 6).pull 6).pull 6).pull 6) ?_
        refine Q_take (i := 3) (v := pt p5 1) rfl (by kernel_rfl) (fun _ _ _ h => h) rfl rfl rfl (fun _ _ => R_pure (by kernel_rfl)) (((((((hst.pull 6).pull 6).pull 6).pull 6).pull 6).pull 6).pull 6) ?_
        refine Q_take (i := 4) (v := I x7.From) rfl (by kernel_rfl) (fun _ _ _ h => h) rfl rfl rfl (fun w hst => R_load hst rfl rfl) (((((((hst.pull 6).pull 6).pull 6).pull 6).pull 6).pull 6).pull 6) ?_
        refine Q_take (i := 5) (v := pt p1 0) rfl (by kernel_rfl) (fun _ _ _ h => h) rfl rfl rfl (fun _ _ => R_pure (by kernel_rfl)) (((((((hst.pull 6).pull 6).pull 6).pull 6).pull 6).pull 6).pull 6) ?_
        refine Q_take (i := 6) (v := pt p1 24) rfl (by kernel_rfl) (fun _ _ _ h => h) rfl rfl rfl (fun _ _ => R_pure (by kernel_rfl)) (((((((hst.pull 6).pull 6).pull 6).pull 6).pull 6).pull 6).pull 6) ?_
        obtain ⟨hb14, hr⟩ := chk hr
        refine Q_take (i := 7) (v := pt p1 (24 + x7.From.toNat)) rfl (by kernel_rfl) (fun _ _ _ h => h) rfl rfl rfl (fun _ _ => (R_iaA A64 rfl rfl hb14)) (((((((hst.pull 6).pull 6).pull 6).pull 6).pull 6).pull 6).pull 6) ?_
        refine Q_take (i := 8) (v := I (x1.match_ x7.From.toNat)) rfl (by kernel_rfl) (fun _ _ _ h => h) rfl rfl rfl (fun w hst => R_load (hst.pull 1) rfl (by rcases in5 (show 0 ≤ x7.From ∧ x7.From < 5 by omega) with h | h | h | h | h <;> rw [h] <;> rfl)) (((((((hst.pull 6).pull 6).pull 6).pull 6).pull 6).pull 6).pull 6) ?_
        refine Q_take (i := 9) (v := .bool (decide (x7.Index > (x1.match_ x7.From.toNat)))) rfl (by kernel_rfl) (fun _ _ _ h => h) rfl rfl rfl (fun _ _ => R_pure (by kernel_rfl)) (((((((hst.pull 6).pull 6).pull 6).pull 6).pull 6).pull 6).pull 6) ?_
        refine Q_take (i := 10) (v := .bool (decide (x7.Index > (x1.match_ x7.From.toNat)))) rfl (by kernel_rfl) (fun _ _ _ h => h) rfl rfl rfl (fun _ _ => R_pure (by kernel_rfl)) (((((((hst.pull 6).pull 6).pull 6).pull 6).pull 6).pull 6).pull 6) ?_
        by_cases h : (decide (x7.Index > (x1.match_ x7.From.toNat))) = true
        · have hr := (if_pos h).symm.trans hr
          refine C_keep ((48, .bool (decide (x7.Index > (x1.match_ x7.From.toNat)))) :: [(0, pt p1 0), (3, pt p5 0), (6, .bool (!x7.OK)), (38, pt p5 4), (39, I x7.Index), (40, pt p1 0), (41, pt p5 1), (42, I x7.From), (43, pt p1 0), (44, pt p1 24), (45, pt p1 (24 + x7.From.toNat)), (46, I (x1.match_ x7.From.toNat)), (47, .bool (decide (x7.Index > (x1.match_ x7.From.toNat))))]) rfl fun b => ?_
          refine C_bool h ?_
          refine Q_take (i := 11) (v := pt p5 4) rfl (by kernel_rfl) (fun _ _ _ h => h) rfl rfl rfl (fun _ _ => R_pure (by kernel_rfl)) (((((((hst.pull 6).pull 6).pull 6).pull 6).pull 6).pull 6).pull 6) ?_
          refine Q_take (i := 12) (v := I x7.Index) rfl (by kernel_rfl) (fun _ _ _ h => h) rfl rfl rfl (fun w hst => R_load hst rfl rfl) (((((((hst.pull 6).pull 6).pull 6).pull 6).pull 6).pull 6).pull 6) ?_
          refine Q_take (i := 13) (v := pt p1 0) rfl (by kernel_rfl) (fun _ _ _ h => h) rfl rfl rfl (fun _ _ => R_pure (by kernel_rfl)) (((((((hst.pull 6).pull 6).pull 6).pull 6).pull 6).pull 6).pull 6) ?_
          obtain ⟨y12, hy12, hr⟩ := bnd hr
          refine Q_one (i := 14) (by kernel_rfl) rfl rfl (O_call (vs := #[pt p1 0]) Tryz.call8 (by kernel_rfl) (raft_Node_Last_ok k x1 x2 x3 x4 x5 x6 p1 p2 p3 a1 c1 a2 c2 y12 (((((hst.pull 5).pull 5).pull 5).pull 5).pull 5) hy12 fun w hst => ?_))
          refine CK_ret rfl ?_
          refine ⟨(((((((hst.pull 6).pull 5).pull 5).pull 5).pull 5).pull 5).pull 6), ?_⟩
          refine Q_take (i := 15) (v := .bool (decide (x7.Index ≤ y12))) rfl (by kernel_rfl) (fun _ _ _ h => h) rfl rfl rfl (fun _ _ => R_pure (by kernel_rfl)) (((((((hst.pull 6).pull 5).pull 5).pull 5).pull 5).pull 5).pull 6) ?_
          refine Q_take (i := 16) (v := .bool (decide (x7.Index ≤ y12))) rfl (by kernel_rfl) (fun _ _ _ h => h) rfl rfl rfl (fun _ _ => R_pure (by kernel_rfl)) (((((((hst.pull 6).pull 5).pull 5).pull 5).pull 5).pull 5).pull 6) ?_
          refine wpG_done (by kernel_rfl) ?_ _
          refine C_keepQ [(0, pt p1 0), (3, pt p5 0), (54, .bool (decide (x7.Index ≤ y12)))] rfl fun b => ?_
          refine th_n ?_
          obtain rfl := Option.some.inj hr
          have hst := (((((((hst.pull 6).pull 6).pull 6).pull 6).pull 6).pull 6).pull 6)
          exact (kpX [(0, pt p1 0), (3, pt p5 0), (54, .bool (decide (x7.Index ≤ y12)))] rfl hst)
        · have hr := (if_neg h).symm.trans hr
          refine C_keep ((48, .bool (decide (x7.Index > (x1.match_ x7.From.toNat)))) :: [(0, pt p1 0), (3, pt p5 0), (6, .bool (!x7.OK)), (38, pt p5 4), (39, I x7.Index), (40, pt p1 0), (41, pt p5 1), (42, I x7.From), (43, pt p1 0), (44, pt p1 24), (45, pt p1 (24 + x7.From.toNat)), (46, I (x1.match_ x7.From.toNat)), (47, .bool (decide (x7.Index > (x1.match_ x7.From.toNat))))]) rfl fun b => ?_
          refine C_bool (eq_false_of_ne_true h) ?_
          refine Q_skip (i := 11) rfl (by kernel_rfl) (fun _ _ _ h => h) rfl rfl rfl (((((((hst.pull 6).pull 6).pull 6).pull 6).pull 6).pull 6).pull 6) ?_
          refine Q_skip (i := 12) rfl (by kernel_rfl) (fun _ _ _ h => h) rfl rfl rfl (((((((hst.pull 6).pull 6).pull 6).pull 6).pull 6).pull 6).pull 6) ?_
          refine Q_skip (i := 13) rfl (by kernel_rfl) (fun _ _ _ h => h) rfl rfl rfl (((((((hst.pull 6).pull 6).pull 6).pull 6).pull 6).pull 6).pull 6) ?_
          refine Q_skip (i := 14) rfl (by kernel_rfl) (fun _ _ _ h => h) rfl rfl rfl (((((((hst.pull 6).pull 6).pull 6).pull 6).pull 6).pull 6).pull 6) ?_
          refine Q_skip (i := 15) rfl (by kernel_rfl) (fun _ _ _ h => h) rfl rfl rfl (((((((hst.pull 6).pull 6).pull 6).pull 6).pull 6).pull 6).pull 6) ?_
          refine Q_take (i := 16) (v := .bool false) rfl (by kernel_rfl) (fun _ _ _ h => h) rfl rfl rfl (fun _ _ => R_pure (by kernel_rfl)) (((((((hst.pull 6).pull 6).pull 6).pull 6).pull 6).pull 6).pull 6) ?_
          refine wpG_done (by kernel_rfl) ?_ _
          refine C_keepQ [(0, pt p1 0), (3, pt p5 0), (54, .bool false)] rfl fun b => ?_
          refine th_n ?_
          obtain rfl := Option.some.inj hr
          have hst := (((((((hst.pull 6).pull 1).pull 6).pull 6).pull 6).pull 6).pull 6)
          exact (kpX [(0, pt p1 0), (3, pt p5 0), (54, .bool false)] rfl hst)
def raft_Node_Step (k : Nat) (x1 : T_raft_Node) (x2 : Int) (x3 : Int) (x4 : Bool) (x5 : Int) (x6 : (List ((List UInt8) × (Option T_platter_file)))) (x7 : T_raft_Msg) : Option (T_raft_Node × Int × Int × (List ((List UInt8) × (Option T_platter_file)))) := (Option.bind (if (x1.broken != 0) = true then some (true) else (if (x7.To != x1.id) = true then some (true) else (if decide (x7.From < 0) = true then some (true) else (if decide (x7.From ≥ x1.n) = true then some (true) else some ((x7.From == x1.id)))))) fun y11 => (if y11 = true then some (x1, x3, x5, x6) else (Option.bind (if decide (x7.Term > x1.st.Term) = true then (Option.bind (raft_Node_follow k x1 x2 x3 x4 x5 x6 x7.Term) fun y13 => some ((!y13.1), y13.2.1, y13.2.2.1, y13.2.2.2.1, y13.2.2.2.2)) else some (false, x1, x3, x5, x6)) fun y12 => (if y12.1 = true then some (y12.2.1, y12.2.2.1, y12.2.2.2.1, y12.2.2.2.2) else (if (x7.Kind == 1) = true then none else (if (x7.Kind == 2) = true then (Option.bind (if (!(decide (x7.Term < y12.2.1.st.Term))) = true then (if (y12.2.1.role == 1) = true then some (x7.OK) else some (false)) else some (false)) fun y14 => (if y14 = true then (if 0 ≤ x7.From ∧ x7.From < 5 then (Option.bind (raft_Node_count k (T_raft_Node.mk y12.2.1.id y12.2.1.n y12.2.1.st y12.2.1.role y12.2.1.leader y12.2.1.commit y12.2.1.applied y12.2.1.timer (upd y12.2.1.votes x7.From.toNat true) y12.2.1.next y12.2.1.match_ y12.2.1.out y12.2.1.broken) x2 y12.2.2.1 x4 y12.2.2.2.1 y12.2.2.2.2) fun y15 => some (y15.1, y15.2.1, y15.2.2.1, y15.2.2.2)) else none) else some (y12.2.1, y12.2.2.1, y12.2.2.2.1, y12.2.2.2.2))) else (Option.bind (if (x7.Kind == 3) = true then some ((x7.Kind == 3)) else some ((x7.Kind == 5))) fun y16 => (if y16 = true then (if decide (x7.Term < y12.2.1.st.Term) = true then (Option.bind (raft_Node_send k y12.2.1 x2 y12.2.2.1 x4 y12.2.2.2.1 y12.2.2.2.2 (T_raft_Msg.mk 4 0 x7.From 0 0 0 0 false ([]) ([]))) fun y17 => some (y17, y12.2.2.1, y12.2.2.2.1, y12.2.2.2.2)) else (Option.bind (some ((IntKind.i64.wrap (x7.From + 1)))) fun _ => (if (x7.Kind == 3) = true then none else none))) else (if (x7.Kind == 4) = true then (Option.bind (if (!(decide (x7.Term < y12.2.1.st.Term))) = true then some ((y12.2.1.role == 2)) else some (false)) fun y19 => (if y19 = true then (Option.bind (raft_Node_have k y12.2.1 x2 y12.2.2.1 x4 y12.2.2.2.1 y12.2.2.2.2 x7) fun y20 => some (y20, y12.2.2.1, y12.2.2.2.1, y12.2.2.2.2)) else some (y12.2.1, y12.2.2.1, y12.2.2.2.1, y12.2.2.2.2))) else some (y12.2.1, y12.2.2.1, y12.2.2.2.1, y12.2.2.2.2))))))))))
set_option maxRecDepth 100000 in
set_option maxHeartbeats 4000000 in
theorem raft_Node_Step_ok {G w : World} {F : List HP} {R : Ending → World → Prop} (k : Nat) (x1 : T_raft_Node) (x2 : Int) (x3 : Int) (x4 : Bool) (x5 : Int) (x6 : (List ((List UInt8) × (Option T_platter_file)))) (x7 : T_raft_Msg) (p1 : Nat) (p2 : Nat) (p3 : Nat) (a1 : Option Addr) (c1 : Nat) (a2 : Option Addr) (c2 : Nat) (a3 : Option Addr) (c3 : Nat) (r : (T_raft_Node × Int × Int × (List ((List UInt8) × (Option T_platter_file))))) (hst : St G w (blk p1 (cl [I x1.id, I x1.n, pt p2 0, I x1.st.Term, I x1.st.Vote, I x1.st.Base, I x1.st.BaseTerm, S x1.st.Snap, .slice a1 x1.st.Log.length c1, I x1.role, I x1.leader, I x1.commit, I x1.applied, I x1.timer, .bool (x1.votes 0), .bool (x1.votes 1), .bool (x1.votes 2), .bool (x1.votes 3), .bool (x1.votes 4), I (x1.next 0), I (x1.next 1), I (x1.next 2), I (x1.next 3), I (x1.next 4), I (x1.match_ 0), I (x1.match_ 1), I (x1.match_ 2), I (x1.match_ 3), I (x1.match_ 4), .slice a2 x1.out.length c2, I x1.broken] 66) :: blk p2 (cl [I x2, I x3, .bool x4, I x5, .map (some p3)] 79) :: mpr S (rPt r_T_platter_file) p3 x6 :: osl r_T_term_Entry 48 a1 c1 x1.st.Log :: osl r_T_raft_Msg 39 a2 c2 x1.out :: dsl r_T_term_Entry a3 c3 x7.Entries :: F)) (hr : raft_Node_Step k x1 x2 x3 x4 x5 x6 x7 = some r)
    (hR : ∀ (a14 : Option Addr) (c14 : Nat) (a15 : Option Addr) (c15 : Nat) w', St G w' (osl r_T_term_Entry 48 a14 c14 r.1.st.Log :: osl r_T_raft_Msg 39 a15 c15 r.1.out :: blk p1 (cl [I r.1.id, I r.1.n, pt p2 0, I r.1.st.Term, I r.1.st.Vote, I r.1.st.Base, I r.1.st.BaseTerm, S r.1.st.Snap, .slice a14 r.1.st.Log.length c14, I r.1.role, I r.1.leader, I r.1.commit, I r.1.applied, I r.1.timer, .bool (r.1.votes 0), .bool (r.1.votes 1), .bool (r.1.votes 2), .bool (r.1.votes 3), .bool (r.1.votes 4), I (r.1.next 0), I (r.1.next 1), I (r.1.next 2), I (r.1.next 3), I (r.1.next 4), I (r.1.match_ 0), I (r.1.match_ 1), I (r.1.match_ 2), I (r.1.match_ 3), I (r.1.match_ 4), .slice a15 r.1.out.length c15, I r.1.broken] 66) :: blk p2 (cl [I x2, I r.2.1, .bool x4, I r.2.2.1, .map (some p3)] 79) :: mpr S (rPt r_T_platter_file) p3 r.2.2.2 :: dsl r_T_term_Entry a3 c3 x7.Entries :: F) → R (.returned (.tuple #[])) w') :
    Calls Tryz.prog 9 #[pt p1 0, .agg #[I x7.Kind, I x7.From, I x7.To, I x7.Term, I x7.Index, I x7.LogTerm, I x7.Commit, .bool x7.OK, .slice a3 x7.Entries.length c3, S x7.Snap]] w R := by
  unfold raft_Node_Step at hr
  refine enter Tryz.func9 rfl [(0, pt p1 0), (1, .agg #[I x7.Kind, I x7.From, I x7.To, I x7.Term, I x7.Index, I x7.LogTerm, I x7.Commit, .bool x7.OK, .slice a3 x7.Entries.length c3, S x7.Snap])] rfl rfl fun b => ?_
  refine wp_seq ?_
  refine wp_reg ?_
  refine L_op rfl (O_box [I x7.Kind, I x7.From, I x7.To, I x7.Term, I x7.Index, I x7.LogTerm, I x7.Commit, .bool x7.OK, .slice a3 x7.Entries.length c3, S x7.Snap] hst rfl rfl fun p5 w hst => ?_)
  refine wpL_nil ?_
  refine th_n ?_
  refine wp_seq ?_
  obtain ⟨y11, hy11, hk7⟩ := bnd hr
  clear hr
  refine wp_seq_cut (fun a w => ∃ (b : Nat → Value), a = mkF 140 b [(0, pt p1 0), (3, pt p5 0), (41, .bool y11)] ∧ St G w (blk p5 (cl [I x7.Kind, I x7.From, I x7.To, I x7.Term, I x7.Index, I x7.LogTerm, I x7.Commit, .bool x7.OK, .slice a3 x7.Entries.length c3, S x7.Snap] 39) :: blk p1 (cl [I x1.id, I x1.n, pt p2 0, I x1.st.Term, I x1.st.Vote, I x1.st.Base, I x1.st.BaseTerm, S x1.st.Snap, .slice a1 x1.st.Log.length c1, I x1.role, I x1.leader, I x1.commit, I x1.applied, I x1.timer, .bool (x1.votes 0), .bool (x1.votes 1), .bool (x1.votes 2), .bool (x1.votes 3), .bool (x1.votes 4), I (x1.next 0), I (x1.next 1), I (x1.next 2), I (x1.next 3), I (x1.next 4), I (x1.match_ 0), I (x1.match_ 1), I (x1.match_ 2), I (x1.match_ 3), I (x1.match_ 4), .slice a2 x1.out.length c2, I x1.broken] 66) :: blk p2 (cl [I x2, I x3, .bool x4, I x5, .map (some p3)] 79) :: mpr S (rPt r_T_platter_file) p3 x6 :: osl r_T_term_Entry 48 a1 c1 x1.st.Log :: osl r_T_raft_Msg 39 a2 c2 x1.out :: dsl r_T_term_Entry a3 c3 x7.Entries :: F)) ?_ ?_
  · rintro _ w ⟨b, rfl, hst⟩
    have hr := hk7
    refine wp_cond_mkF (t := y11) rfl (fun h => ?_) (fun h => ?_)
    · have hr := (if_pos h).symm.trans hr
      refine wp_ret ?_
      refine th_r ?_
      refine ret0 rfl ?_
      obtain rfl := Option.some.inj hr
      have hst := (((((((hst.pull 6).pull 4).pull 4).pull 4).pull 6).pull 6).cut 6 1)
      exact hR a1 c1 a2 c2 _ hst
    · have hr := (if_neg (by rw [h]; exact Bool.false_ne_true)).symm.trans hr
      refine wp_skip ?_
      refine th_n ?_
      refine wp_seq ?_
      obtain ⟨y12, hy12, hk8⟩ := bnd hr
      clear hr
      refine wp_seq_cut (fun a w => ∃ (a16 : Option Addr) (c16 : Nat) (a17 : Option Addr) (c17 : Nat)(b : Nat → Value), a = mkF 140 b [(0, pt p1 0), (3, pt p5 0), (56, .bool y12.1)] ∧ St G w (osl r_T_term_Entry 48 a16 c16 y12.2.1.st.Log :: osl r_T_raft_Msg 39 a17 c17 y12.2.1.out :: blk p1 (cl [I y12.2.1.id, I y12.2.1.n, pt p2 0, I y12.2.1.st.Term, I y12.2.1.st.Vote, I y12.2.1.st.Base, I y12.2.1.st.BaseTerm, S y12.2.1.st.Snap, .slice a16 y12.2.1.st.Log.length c16, I y12.2.1.role, I y12.2.1.leader, I y12.2.1.commit, I y12.2.1.applied, I y12.2.1.timer, .bool (y12.2.1.votes 0), .bool (y12.2.1.votes 1), .bool (y12.2.1.votes 2), .bool (y12.2.1.votes 3), .bool (y12.2.1.votes 4), I (y12.2.1.next 0), I (y12.2.1.next 1), I (y12.2.1.next 2), I (y12.2.1.next 3), I (y12.2.1.next 4), I (y12.2.1.match_ 0), I (y12.2.1.match_ 1), I (y12.2.1.match_ 2), I (y12.2.1.match_ 3), I (y12.2.1.match_ 4), .slice a17 y12.2.1.out.length c17, I y12.2.1.broken] 66) :: blk p2 (cl [I x2, I y12.2.2.1, .bool x4, I y12.2.2.2.1, .map (some p3)] 79) :: mpr S (rPt r_T_platter_file) p3 y12.2.2.2.2 :: blk p5 (cl [I x7.Kind, I x7.From, I x7.To, I x7.Term, I x7.Index, I x7.LogTerm, I x7.Commit, .bool x7.OK, .slice a3 x7.Entries.length c3, S x7.Snap] 39) :: dsl r_T_term_Entry a3 c3 x7.Entries :: F)) ?_ ?_
      · rintro _ w ⟨a16, c16, a17, c17, b, rfl, hst⟩
        have hr := hk8
        refine wp_cond_mkF (t := y12.1) rfl (fun h => ?_) (fun h => ?_)
        · have hr := (if_pos h).symm.trans hr
          refine wp_ret ?_
          refine th_r ?_
          refine ret0 rfl ?_
          obtain rfl := Option.some.inj hr
          have hst := (((((((hst.pull 6).pull 5).pull 5).pull 5).pull 5).pull 5).cut 6 1)
          exact hR a16 c16 a17 c17 _ hst
        · have hr := (if_neg (by rw [h]; exact Bool.false_ne_true)).symm.trans hr
          refine wp_skip ?_
          refine th_n ?_
          refine wp_seq ?_
          refine wp_regG (SN { w with drawn := w.drawn + 1 }) rfl ?_
          have hst := hst.draw (n := w.drawn + 1)
          generalize { w with drawn := w.drawn + 1 } = w at hst ⊢
          refine C_take (i := 0) (v := pt p5 3) rfl (by kernel_rfl) (fun _ _ _ h => h) rfl rfl rfl (R_pure (by kernel_rfl)) ?_
          refine C_take (i := 1) (v := I x7.Term) rfl (by kernel_rfl) (fun _ _ _ h => h) rfl rfl rfl (R_load (hst.pull 5) rfl rfl) ?_
          refine C_take (i := 2) (v := pt p1 0) rfl (by kernel_rfl) (fun _ _ _ h => h) rfl rfl rfl (R_pure (by kernel_rfl)) ?_
          refine C_take (i := 3) (v := pt p1 0) rfl (by kernel_rfl) (fun _ _ _ h => h) rfl rfl rfl (R_pure (by kernel_rfl)) ?_
          refine C_take (i := 4) (v := pt p1 3) rfl (by kernel_rfl) (fun _ _ _ h => h) rfl rfl rfl (R_pure (by kernel_rfl)) ?_
          refine C_take (i := 5) (v := pt p1 3) rfl (by kernel_rfl) (fun _ _ _ h => h) rfl rfl rfl (R_pure (by kernel_rfl)) ?_
          refine C_take (i := 6) (v := I y12.2.1.st.Term) rfl (by kernel_rfl) (fun _ _ _ h => h) rfl rfl rfl (R_load (hst.pull 2) rfl rfl) ?_
          refine C_take (i := 7) (v := .bool (decide (x7.Term < y12.2.1.st.Term))) rfl (by kernel_rfl) (fun _ _ _ h => h) rfl rfl rfl (R_pure (by kernel_rfl)) ?_
          refine C_take (i := 8) (v := .bool (decide (x7.Term < y12.2.1.st.Term))) rfl (by kernel_rfl) (fun _ _ _ h => h) rfl rfl rfl (R_pure (by kernel_rfl)) ?_
          refine wpG_done (by kernel_rfl) ?_ _
          refine C_keepQ [(0, pt p1 0), (3, pt p5 0), (4, .bool (decide (x7.Term < y12.2.1.st.Term)))] rfl fun b => ?_
          refine th_n ?_
          refine wp_seq ?_
          refine wp_reg ?_
          refine L_pure 1 [(0, pt p1 0), (3, pt p5 0), (4, .bool (decide (x7.Term < y12.2.1.st.Term))), (65, pt p5 0)] (by kernel_rfl) fun b => ?_
          refine L_op rfl (O_run (v := I x7.Kind) (w' := w) (R_load (hst.pull 5) rfl rfl) rfl rfl ?_)
          refine wpL_nil ?_
          refine th_n ?_
          refine wp_block ?_
          refine wp_seq ?_
          refine wp_reg ?_
          refine L_pure 2 [(0, pt p1 0), (3, pt p5 0), (4, .bool (decide (x7.Term < y12.2.1.st.Term))), (66, I x7.Kind), (67, .bool (x7.Kind == 1))] (by kernel_rfl) fun b => ?_
          refine wpL_nil ?_
          refine th_n ?_
          refine wp_cond_mkF (t := (x7.Kind == 1)) rfl (fun h => ?_) (fun h => ?_)
          · have hr := (if_pos h).symm.trans hr
            refine wp_reg ?_
            refine L_pure 1 [(3, pt p5 0), (4, .bool (decide (x7.Term < y12.2.1.st.Term))), (69, pt p1 0)] (by kernel_rfl) fun b => ?_
            refine L_op rfl (O_run (v := .agg #[I x7.Kind, I x7.From, I x7.To, I x7.Term, I x7.Index, I x7.LogTerm, I x7.Commit, .bool x7.OK, .slice a3 x7.Entries.length c3, S x7.Snap]) (w' := w) (R_load (hst.pull 5) rfl rfl) rfl rfl ?_)
            refine L_pure 1 [(69, pt p1 0), (70, .agg #[I x7.Kind, I x7.From, I x7.To, I x7.Term, I x7.Index, I x7.LogTerm, I x7.Commit, .bool x7.OK, .slice a3 x7.Entries.length c3, S x7.Snap]), (71, .bool (decide (x7.Term < y12.2.1.st.Term)))] (by kernel_rfl) fun b => ?_
            cases hr
          · have hr := (if_neg (by rw [h]; exact Bool.false_ne_true)).symm.trans hr
            refine wp_seq ?_
            refine wp_reg ?_
            refine L_pure 2 [(0, pt p1 0), (3, pt p5 0), (4, .bool (decide (x7.Term < y12.2.1.st.Term))), (66, I x7.Kind), (73, .bool (x7.Kind == 2))] (by kernel_rfl) fun b => ?_
            refine wpL_nil ?_
            refine th_n ?_
            refine wp_cond_mkF (t := (x7.Kind == 2)) rfl (fun h => ?_) (fun h => ?_)
            · have hr := (if_pos h).symm.trans hr
              obtain ⟨y14, hy14, hk9⟩ := bnd hr
              clear hr
              refine wp_seq_cut (fun a w => ∃ (b : Nat → Value), a = mkF 140 b [(0, pt p1 0), (3, pt p5 0), (87, .bool y14)] ∧ St G w (osl r_T_term_Entry 48 a16 c16 y12.2.1.st.Log :: osl r_T_raft_Msg 39 a17 c17 y12.2.1.out :: blk p1 (cl [I y12.2.1.id, I y12.2.1.n, pt p2 0, I y12.2.1.st.Term, I y12.2.1.st.Vote, I y12.2.1.st.Base, I y12.2.1.st.BaseTerm, S y12.2.1.st.Snap, .slice a16 y12.2.1.st.Log.length c16, I y12.2.1.role, I y12.2.1.leader, I y12.2.1.commit, I y12.2.1.applied, I y12.2.1.timer, .bool (y12.2.1.votes 0), .bool (y12.2.1.votes 1), .bool (y12.2.1.votes 2), .bool (y12.2.1.votes 3), .bool (y12.2.1.votes 4), I (y12.2.1.next 0), I (y12.2.1.next 1), I (y12.2.1.next 2), I (y12.2.1.next 3), I (y12.2.1.next 4), I (y12.2.1.match_ 0), I (y12.2.1.match_ 1), I (y12.2.1.match_ 2), I (y12.2.1.match_ 3), I (y12.2.1.match_ 4), .slice a17 y12.2.1.out.length c17, I y12.2.1.broken] 66) :: blk p2 (cl [I x2, I y12.2.2.1, .bool x4, I y12.2.2.2.1, .map (some p3)] 79) :: mpr S (rPt r_T_platter_file) p3 y12.2.2.2.2 :: blk p5 (cl [I x7.Kind, I x7.From, I x7.To, I x7.Term, I x7.Index, I x7.LogTerm, I x7.Commit, .bool x7.OK, .slice a3 x7.Entries.length c3, S x7.Snap] 39) :: dsl r_T_term_Entry a3 c3 x7.Entries :: F)) ?_ ?_
              · rintro _ w ⟨b, rfl, hst⟩
                have hr := hk9
                refine wp_cond_mkF (t := y14) rfl (fun h => ?_) (fun h => ?_)
                · have hr := (if_pos h).symm.trans hr
                  refine wp_seq ?_
                  refine wp_regG (SP 6 (fun w => St G w (osl r_T_term_Entry 48 a16 c16 y12.2.1.st.Log :: osl r_T_raft_Msg 39 a17 c17 y12.2.1.out :: blk p1 (cl [I y12.2.1.id, I y12.2.1.n, pt p2 0, I y12.2.1.st.Term, I y12.2.1.st.Vote, I y12.2.1.st.Base, I y12.2.1.st.BaseTerm, S y12.2.1.st.Snap, .slice a16 y12.2.1.st.Log.length c16, I y12.2.1.role, I y12.2.1.leader, I y12.2.1.commit, I y12.2.1.applied, I y12.2.1.timer, .bool (y12.2.1.votes 0), .bool (y12.2.1.votes 1), .bool (y12.2.1.votes 2), .bool (y12.2.1.votes 3), .bool (y12.2.1.votes 4), I (y12.2.1.next 0), I (y12.2.1.next 1), I (y12.2.1.next 2), I (y12.2.1.next 3), I (y12.2.1.next 4), I (y12.2.1.match_ 0), I (y12.2.1.match_ 1), I (y12.2.1.match_ 2), I (y12.2.1.match_ 3), I (y12.2.1.match_ 4), .slice a17 y12.2.1.out.length c17, I y12.2.1.broken] 66) :: blk p2 (cl [I x2, I y12.2.2.1, .bool x4, I y12.2.2.2.1, .map (some p3)] 79) :: mpr S (rPt r_T_platter_file) p3 y12.2.2.2.2 :: blk p5 (cl [I x7.Kind, I x7.From, I x7.To, I x7.Term, I x7.Index, I x7.LogTerm, I x7.Commit, .bool x7.OK, .slice a3 x7.Entries.length c3, S x7.Snap] 39) :: dsl r_T_term_Entry a3 c3 x7.Entries :: F))) rfl ?_
                  have hst := hst.draw (n := w.drawn + 1)
                  generalize { w with drawn := w.drawn + 1 } = w at hst ⊢
                  refine P_pure (i := 0) (v := pt p1 0) 6 rfl rfl (by kernel_rfl) (fun _ _ _ h => h) rfl rfl rfl (by kernel_rfl) (.inr (((((((hst.pull 6).pull 6).pull 6).pull 6).pull 6).pull 6).pull 6)) ?_
                  refine P_pure (i := 1) (v := pt p5 1) 6 rfl rfl (by kernel_rfl) (fun _ _ _ h => h) rfl rfl rfl (by kernel_rfl) (.inr (((((((hst.pull 6).pull 6).pull 6).pull 6).pull 6).pull 6).pull 6)) ?_
                  refine P_take (i := 2) (v := I x7.From) 6 [2] (by kernel_rfl) rfl (by kernel_rfl) (fun _ _ _ h => h) rfl rfl rfl (fun w hst => R_load (hst.pull 5) rfl rfl) ((((((((hst.pull 6).pull 6).pull 6).pull 6).pull 6).pull 6).pull 6)) ?_
                  refine P_pure (i := 3) (v := pt p1 0) 6 rfl rfl (by kernel_rfl) (fun _ _ _ h => h) rfl rfl rfl (by kernel_rfl) (.inr (((((((hst.pull 6).pull 6).pull 6).pull 6).pull 6).pull 6).pull 6)) ?_
                  refine P_pure (i := 4) (v := pt p1 14) 6 rfl rfl (by kernel_rfl) (fun _ _ _ h => h) rfl rfl rfl (by kernel_rfl) (.inr (((((((hst.pull 6).pull 6).pull 6).pull 6).pull 6).pull 6).pull 6)) ?_
                  obtain ⟨hb2, hr⟩ := chk hr
                  refine P_any (i := 5) (v := pt p1 (14 + x7.From.toNat)) 6 rfl rfl (by kernel_rfl) (fun _ _ _ h => h) rfl rfl rfl (fun w => (R_iaA A63 rfl rfl hb2)) (.inr (((((((hst.pull 6).pull 6).pull 6).pull 6).pull 6).pull 6).pull 6)) ?_
                  refine P_act (i := 6) 6 (by kernel_rfl) rfl rfl (by kernel_rfl) (O_store [I y12.2.1.id, I y12.2.1.n, pt p2 0, I y12.2.1.st.Term, I y12.2.1.st.Vote, I y12.2.1.st.Base, I y12.2.1.st.BaseTerm, S y12.2.1.st.Snap, .slice a16 y12.2.1.st.Log.length c16, I y12.2.1.role, I y12.2.1.leader, I y12.2.1.commit, I y12.2.1.applied, I y12.2.1.timer, .bool ((upd y12.2.1.votes x7.From.toNat true) 0), .bool ((upd y12.2.1.votes x7.From.toNat true) 1), .bool ((upd y12.2.1.votes x7.From.toNat true) 2), .bool ((upd y12.2.1.votes x7.From.toNat true) 3), .bool ((upd y12.2.1.votes x7.From.toNat true) 4), I (y12.2.1.next 0), I (y12.2.1.next 1), I (y12.2.1.next 2), I (y12.2.1.next 3), I (y12.2.1.next 4), I (y12.2.1.match_ 0), I (y12.2.1.match_ 1), I (y12.2.1.match_ 2), I (y12.2.1.match_ 3), I (y12.2.1.match_ 4), .slice a17 y12.2.1.out.length c17, I y12.2.1.broken] (hst.pull 2) rfl rfl (by rcases in5 (show 0 ≤ x7.From ∧ x7.From < 5 by omega) with h | h | h | h | h <;> rw [h] <;> rfl) fun w hst => ?_)
                  refine wpG_done (by kernel_rfl) ?_ _
                  refine C_keepQ [(0, pt p1 0)] rfl fun b => ?_
                  refine th_n ?_
                  refine wp_reg ?_
                  refine L_pure 1 [(94, pt p1 0)] (by kernel_rfl) fun b => ?_
                  obtain ⟨y15, hy15, hr⟩ := bnd hr
                  refine L_op rfl (O_call (vs := #[pt p1 0]) Tryz.call27 (by kernel_rfl) (raft_Node_count_ok k (T_raft_Node.mk y12.2.1.id y12.2.1.n y12.2.1.st y12.2.1.role y12.2.1.leader y12.2.1.commit y12.2.1.applied y12.2.1.timer (upd y12.2.1.votes x7.From.toNat true) y12.2.1.next y12.2.1.match_ y12.2.1.out y12.2.1.broken) x2 y12.2.2.1 x4 y12.2.2.2.1 y12.2.2.2.2 p1 p2 p3 a16 c16 a17 c17 y15 (((((hst.pull 2).pull 2).pull 4).pull 4).pull 4) hy15 fun a20 c20 a21 c21 w hst => ?_))
                  refine CK_ret rfl ?_
                  refine wpL_nil ?_
                  refine ib_n (bp_normal ?_)
                  refine ret0 rfl ?_
                  obtain rfl := Option.some.inj hr
                  have hst := (((((((hst.pull 6).pull 5).pull 5).pull 5).pull 5).pull 5).cut 6 1)
                  exact hR a20 c20 a21 c21 _ hst
                · have hr := (if_neg (by rw [h]; exact Bool.false_ne_true)).symm.trans hr
                  refine wp_skip ?_
                  refine ib_n (bp_normal ?_)
                  refine ret0 rfl ?_
                  obtain rfl := Option.some.inj hr
                  have hst := (((((((hst.pull 6).pull 5).pull 5).pull 5).pull 5).pull 5).cut 6 1)
                  exact hR a16 c16 a17 c17 _ hst
              · have hr := hy14
                refine wp_reg ?_
                refine L_pure 3 [(0, pt p1 0), (3, pt p5 0), (77, .bool (!(decide (x7.Term < y12.2.1.st.Term))))] (by kernel_rfl) fun b => ?_
                by_cases h : (!(decide (x7.Term < y12.2.1.st.Term))) = true
                · have hr := (if_pos h).symm.trans hr
                  refine L_keep ((77, .bool (!(decide (x7.Term < y12.2.1.st.Term)))) :: [(0, pt p1 0), (3, pt p5 0)]) rfl fun b => ?_
                  refine L_bool h ?_
                  refine L_pure 3 [(0, pt p1 0), (3, pt p5 0), (77, .bool true), (80, pt p1 9)] (by kernel_rfl) fun b => ?_
                  refine L_op rfl (O_run (v := I y12.2.1.role) (w' := w) (R_load (hst.pull 2) rfl rfl) rfl rfl ?_)
                  refine L_pure 3 [(0, pt p1 0), (3, pt p5 0), (84, .bool (y12.2.1.role == 1))] (by kernel_rfl) fun b => ?_
                  by_cases h : (y12.2.1.role == 1) = true
                  · have hr := (if_pos h).symm.trans hr
                    refine L_keep ((84, .bool (y12.2.1.role == 1)) :: [(0, pt p1 0), (3, pt p5 0)]) rfl fun b => ?_
                    refine L_bool h ?_
                    refine L_pure 1 [(0, pt p1 0), (3, pt p5 0), (84, .bool true), (85, pt p5 7)] (by kernel_rfl) fun b => ?_
                    refine L_op rfl (O_run (v := .bool x7.OK) (w' := w) (R_load (hst.pull 5) rfl rfl) rfl rfl ?_)
                    refine L_pure 1 [(0, pt p1 0), (3, pt p5 0), (87, .bool x7.OK)] (by kernel_rfl) fun b => ?_
                    refine wpL_nil ?_
                    refine th_n ?_
                    obtain rfl := Option.some.inj hr
                    have hst := (((((((hst.pull 6).pull 6).pull 6).pull 6).pull 6).pull 6).pull 6)
                    exact (kpX [(0, pt p1 0), (3, pt p5 0), (87, .bool x7.OK)] rfl hst)
                  · have hr := (if_neg h).symm.trans hr
                    refine L_keep ((84, .bool (y12.2.1.role == 1)) :: [(0, pt p1 0), (3, pt p5 0)]) rfl fun b => ?_
                    refine L_bool (eq_false_of_ne_true h) ?_
                    refine L_pure 3 [(0, pt p1 0), (3, pt p5 0), (87, .bool false)] (by kernel_rfl) fun b => ?_
                    refine wpL_nil ?_
                    refine th_n ?_
                    obtain rfl := Option.some.inj hr
                    have hst := (((((((hst.pull 6).pull 6).pull 6).pull 6).pull 6).pull 6).pull 6)
                    exact (kpX [(0, pt p1 0), (3, pt p5 0), (87, .bool false)] rfl hst)
                · have hr := (if_neg h).symm.trans hr
                  refine L_keep ((77, .bool (!(decide (x7.Term < y12.2.1.st.Term)))) :: [(0, pt p1 0), (3, pt p5 0)]) rfl fun b => ?_
                  refine L_bool (eq_false_of_ne_true h) ?_
                  refine L_pure 10 [(0, pt p1 0), (3, pt p5 0), (87, .bool false)] (by kernel_rfl) fun b => ?_
                  refine wpL_nil ?_
                  refine th_n ?_
                  obtain rfl := Option.some.inj hr
                  have hst := (((((((hst.pull 6).pull 6).pull 6).pull 6).pull 6).pull 6).pull 6)
                  exact (kpX [(0, pt p1 0), (3, pt p5 0), (87, .bool false)] rfl hst)
            · have hr := (if_neg (by rw [h]; exact Bool.false_ne_true)).symm.trans hr
              obtain ⟨y16, hy16, hk10⟩ := bnd hr
              clear hr
              refine wp_seq_cut (fun a w => ∃ (b : Nat → Value), a = mkF 140 b [(0, pt p1 0), (3, pt p5 0), (4, .bool (decide (x7.Term < y12.2.1.st.Term))), (66, I x7.Kind), (96, .bool y16)] ∧ St G w (osl r_T_term_Entry 48 a16 c16 y12.2.1.st.Log :: osl r_T_raft_Msg 39 a17 c17 y12.2.1.out :: blk p1 (cl [I y12.2.1.id, I y12.2.1.n, pt p2 0, I y12.2.1.st.Term, I y12.2.1.st.Vote, I y12.2.1.st.Base, I y12.2.1.st.BaseTerm, S y12.2.1.st.Snap, .slice a16 y12.2.1.st.Log.length c16, I y12.2.1.role, I y12.2.1.leader, I y12.2.1.commit, I y12.2.1.applied, I y12.2.1.timer, .bool (y12.2.1.votes 0), .bool (y12.2.1.votes 1), .bool (y12.2.1.votes 2), .bool (y12.2.1.votes 3), .bool (y12.2.1.votes 4), I (y12.2.1.next 0), I (y12.2.1.next 1), I (y12.2.1.next 2), I (y12.2.1.next 3), I (y12.2.1.next 4), I (y12.2.1.match_ 0), I (y12.2.1.match_ 1), I (y12.2.1.match_ 2), I (y12.2.1.match_ 3), I (y12.2.1.match_ 4), .slice a17 y12.2.1.out.length c17, I y12.2.1.broken] 66) :: blk p2 (cl [I x2, I y12.2.2.1, .bool x4, I y12.2.2.2.1, .map (some p3)] 79) :: mpr S (rPt r_T_platter_file) p3 y12.2.2.2.2 :: blk p5 (cl [I x7.Kind, I x7.From, I x7.To, I x7.Term, I x7.Index, I x7.LogTerm, I x7.Commit, .bool x7.OK, .slice a3 x7.Entries.length c3, S x7.Snap] 39) :: dsl r_T_term_Entry a3 c3 x7.Entries :: F)) ?_ ?_
              · rintro _ w ⟨b, rfl, hst⟩
                have hr := hk10
                refine wp_cond_mkF (t := y16) rfl (fun h => ?_) (fun h => ?_)
                · have hr := (if_pos h).symm.trans hr
                  refine wp_seq ?_
                  refine wp_seq ?_
                  refine wp_reg ?_
                  refine L_pure 1 [(0, pt p1 0), (3, pt p5 0), (99, .bool (decide (x7.Term < y12.2.1.st.Term)))] (by kernel_rfl) fun b => ?_
                  refine wpL_nil ?_
                  refine th_n ?_
                  refine wp_cond_mkF (t := decide (x7.Term < y12.2.1.st.Term)) rfl (fun h => ?_) (fun h => ?_)
                  · have hr := (if_pos h).symm.trans hr
                    refine wp_seq ?_
                    refine wp_reg ?_
                    refine L_pure 2 [(100, pt p1 0), (101, pt p5 1)] (by kernel_rfl) fun b => ?_
                    refine L_op rfl (O_run (v := I x7.From) (w' := w) (R_load (hst.pull 5) rfl rfl) rfl rfl ?_)
                    refine L_pure 1 [(100, pt p1 0), (103, .agg #[I 4, I 0, I x7.From, I 0, I 0, I 0, I 0, .bool false, .slice none 0 0, S ([])])] (by kernel_rfl) fun b => ?_
                    obtain ⟨y17, hy17, hr⟩ := bnd hr
                    have hst := dsl_nil r_T_term_Entry hst
                    refine L_op rfl (O_call (vs := #[pt p1 0, .agg #[I 4, I 0, I x7.From, I 0, I 0, I 0, I 0, .bool false, .slice none 0 0, S ([])]]) Tryz.call28 (by kernel_rfl) (raft_Node_send_ok k y12.2.1 x2 y12.2.2.1 x4 y12.2.2.2.1 y12.2.2.2.2 (T_raft_Msg.mk 4 0 x7.From 0 0 0 0 false ([]) ([])) p1 p2 p3 a16 c16 a17 c17 none 0 y17 (((((hst.pull 2).pull 2).pull 5).pull 5).pull 5) hy17 fun a22 c22 a23 c23 w hst => ?_))
                    refine CK_ret rfl ?_
                    refine wpL_nil ?_
                    refine th_n ?_
                    refine wp_ret ?_
                    refine th_r (ib_r ?_)
                    refine ret0 rfl ?_
                    obtain rfl := Option.some.inj hr
                    have hst := (((((((hst.pull 7).pull 5).pull 5).pull 5).pull 5).pull 5).cut 6 2)
                    exact hR a22 c22 a23 c23 _ hst
                  · have hr := (if_neg (by rw [h]; exact Bool.false_ne_true)).symm.trans hr
                    refine wp_skip ?_
                    refine th_n ?_
                    obtain ⟨y18, hy18, hk11⟩ := bnd hr
                    clear hr
                    refine wp_seq_cut (fun a w => ∃ (b : Nat → Value), a = mkF 140 b [(0, pt p1 0), (3, pt p5 0)] ∧ St G w (blk p1 (cl [I y12.2.1.id, I y12.2.1.n, pt p2 0, I y12.2.1.st.Term, I y12.2.1.st.Vote, I y12.2.1.st.Base, I y12.2.1.st.BaseTerm, S y12.2.1.st.Snap, .slice a16 y12.2.1.st.Log.length c16, I 0, I y18, I y12.2.1.commit, I y12.2.1.applied, I 0, .bool (y12.2.1.votes 0), .bool (y12.2.1.votes 1), .bool (y12.2.1.votes 2), .bool (y12.2.1.votes 3), .bool (y12.2.1.votes 4), I (y12.2.1.next 0), I (y12.2.1.next 1), I (y12.2.1.next 2), I (y12.2.1.next 3), I (y12.2.1.next 4), I (y12.2.1.match_ 0), I (y12.2.1.match_ 1), I (y12.2.1.match_ 2), I (y12.2.1.match_ 3), I (y12.2.1.match_ 4), .slice a17 y12.2.1.out.length c17, I y12.2.1.broken] 66) :: osl r_T_term_Entry 48 a16 c16 y12.2.1.st.Log :: osl r_T_raft_Msg 39 a17 c17 y12.2.1.out :: blk p2 (cl [I x2, I y12.2.2.1, .bool x4, I y12.2.2.2.1, .map (some p3)] 79) :: mpr S (rPt r_T_platter_file) p3 y12.2.2.2.2 :: blk p5 (cl [I x7.Kind, I x7.From, I x7.To, I x7.Term, I x7.Index, I x7.LogTerm, I x7.Commit, .bool x7.OK, .slice a3 x7.Entries.length c3, S x7.Snap] 39) :: dsl r_T_term_Entry a3 c3 x7.Entries :: F)) ?_ ?_
                    · rintro _ w ⟨b, rfl, hst⟩
                      have hr := hk11
                      refine wp_seq ?_
                      refine wp_reg ?_
                      refine L_pure 1 [(0, pt p1 0), (3, pt p5 0), (117, pt p5 0)] (by kernel_rfl) fun b => ?_
                      refine L_op rfl (O_run (v := I x7.Kind) (w' := w) (R_load (hst.pull 5) rfl rfl) rfl rfl ?_)
                      refine L_pure 1 [(0, pt p1 0), (3, pt p5 0), (119, .bool (x7.Kind == 3))] (by kernel_rfl) fun b => ?_
                      refine wpL_nil ?_
                      refine th_n ?_
                      refine wp_cond_mkF (t := (x7.Kind == 3)) rfl (fun h => ?_) (fun h => ?_)
                      · have hr := (if_pos h).symm.trans hr
                        refine wp_reg ?_
                        refine L_pure 1 [(3, pt p5 0), (120, pt p1 0)] (by kernel_rfl) fun b => ?_
                        refine L_op rfl (O_run (v := .agg #[I x7.Kind, I x7.From, I x7.To, I x7.Term, I x7.Index, I x7.LogTerm, I x7.Commit, .bool x7.OK, .slice a3 x7.Entries.length c3, S x7.Snap]) (w' := w) (R_load (hst.pull 5) rfl rfl) rfl rfl ?_)
                        cases hr
                      · have hr := (if_neg (by rw [h]; exact Bool.false_ne_true)).symm.trans hr
                        refine wp_reg ?_
                        refine L_pure 1 [(3, pt p5 0), (123, pt p1 0)] (by kernel_rfl) fun b => ?_
                        refine L_op rfl (O_run (v := .agg #[I x7.Kind, I x7.From, I x7.To, I x7.Term, I x7.Index, I x7.LogTerm, I x7.Commit, .bool x7.OK, .slice a3 x7.Entries.length c3, S x7.Snap]) (w' := w) (R_load (hst.pull 5) rfl rfl) rfl rfl ?_)
                        cases hr
                    · have hr := hy18
                      refine wp_regG SA rfl ?_
                      have hst := hst.draw (n := w.drawn + 1)
                      generalize { w with drawn := w.drawn + 1 } = w at hst ⊢
                      refine A_take (i := 0) (v := pt p1 0) rfl (by kernel_rfl) (fun _ _ _ h => h) rfl rfl rfl (fun _ => R_pure (by kernel_rfl)) ?_
                      refine A_take (i := 1) (v := pt p1 0) rfl (by kernel_rfl) (fun _ _ _ h => h) rfl rfl rfl (fun _ => R_pure (by kernel_rfl)) ?_
                      refine A_take (i := 2) (v := pt p1 0) rfl (by kernel_rfl) (fun _ _ _ h => h) rfl rfl rfl (fun _ => R_pure (by kernel_rfl)) ?_
                      refine A_take (i := 3) (v := pt p5 1) rfl (by kernel_rfl) (fun _ _ _ h => h) rfl rfl rfl (fun _ => R_pure (by kernel_rfl)) ?_
                      refine A_take (i := 6) (v := pt p1 0) rfl (by kernel_rfl) (fun _ _ _ h => h) rfl rfl rfl (fun _ => R_pure (by kernel_rfl)) ?_
                      refine A_take (i := 7) (v := pt p1 9) rfl (by kernel_rfl) (fun _ _ _ h => h) rfl rfl rfl (fun _ => R_pure (by kernel_rfl)) ?_
                      refine A_all [4, 8] (by kernel_rfl) ⟨⟨_, rfl, rfl, ?_⟩, ⟨_, rfl, rfl, ?_⟩, trivial⟩
                      · refine O_run (v := I x7.From) (w' := w) (R_load (hst.pull 5) rfl rfl) rfl rfl ?_
                        refine A_take (i := 5) (v := I (IntKind.i64.wrap (x7.From + 1))) rfl (by kernel_rfl) (fun _ _ _ h => h) rfl rfl rfl (fun _ => R_pure (by kernel_rfl)) ?_
                        refine A_all [8] (by kernel_rfl) ⟨⟨_, rfl, rfl, ?_⟩, trivial⟩
                        refine O_store [I y12.2.1.id, I y12.2.1.n, pt p2 0, I y12.2.1.st.Term, I y12.2.1.st.Vote, I y12.2.1.st.Base, I y12.2.1.st.BaseTerm, S y12.2.1.st.Snap, .slice a16 y12.2.1.st.Log.length c16, I 0, I y12.2.1.leader, I y12.2.1.commit, I y12.2.1.applied, I y12.2.1.timer, .bool (y12.2.1.votes 0), .bool (y12.2.1.votes 1), .bool (y12.2.1.votes 2), .bool (y12.2.1.votes 3), .bool (y12.2.1.votes 4), I (y12.2.1.next 0), I (y12.2.1.next 1), I (y12.2.1.next 2), I (y12.2.1.next 3), I (y12.2.1.next 4), I (y12.2.1.match_ 0), I (y12.2.1.match_ 1), I (y12.2.1.match_ 2), I (y12.2.1.match_ 3), I (y12.2.1.match_ 4), .slice a17 y12.2.1.out.length c17, I y12.2.1.broken] (hst.pull 2) rfl rfl (by kernel_rfl) fun w hst => ?_
                        refine A_take (i := 9) (v := pt p1 0) rfl (by kernel_rfl) (fun _ _ _ h => h) rfl rfl rfl (fun _ => R_pure (by kernel_rfl)) ?_
                        refine A_take (i := 10) (v := pt p1 10) rfl (by kernel_rfl) (fun _ _ _ h => h) rfl rfl rfl (fun _ => R_pure (by kernel_rfl)) ?_
                        refine A_all [11] (by kernel_rfl) ⟨⟨_, rfl, rfl, ?_⟩, trivial⟩
                        refine O_store [I y12.2.1.id, I y12.2.1.n, pt p2 0, I y12.2.1.st.Term, I y12.2.1.st.Vote, I y12.2.1.st.Base, I y12.2.1.st.BaseTerm, S y12.2.1.st.Snap, .slice a16 y12.2.1.st.Log.length c16, I 0, I (IntKind.i64.wrap (x7.From + 1)), I y12.2.1.commit, I y12.2.1.applied, I y12.2.1.timer, .bool (y12.2.1.votes 0), .bool (y12.2.1.votes 1), .bool (y12.2.1.votes 2), .bool (y12.2.1.votes 3), .bool (y12.2.1.votes 4), I (y12.2.1.next 0), I (y12.2.1.next 1), I (y12.2.1.next 2), I (y12.2.1.next 3), I (y12.2.1.next 4), I (y12.2.1.match_ 0), I (y12.2.1.match_ 1), I (y12.2.1.match_ 2), I (y12.2.1.match_ 3), I (y12.2.1.match_ 4), .slice a17 y12.2.1.out.length c17, I y12.2.1.broken] hst rfl rfl (by kernel_rfl) fun w hst => ?_
                        refine A_take (i := 12) (v := pt p1 0) rfl (by kernel_rfl) (fun _ _ _ h => h) rfl rfl rfl (fun _ => R_pure (by kernel_rfl)) ?_
                        refine A_take (i := 13) (v := pt p1 13) rfl (by kernel_rfl) (fun _ _ _ h => h) rfl rfl rfl (fun _ => R_pure (by kernel_rfl)) ?_
                        refine A_all [14] (by kernel_rfl) ⟨⟨_, rfl, rfl, ?_⟩, trivial⟩
                        refine O_store [I y12.2.1.id, I y12.2.1.n, pt p2 0, I y12.2.1.st.Term, I y12.2.1.st.Vote, I y12.2.1.st.Base, I y12.2.1.st.BaseTerm, S y12.2.1.st.Snap, .slice a16 y12.2.1.st.Log.length c16, I 0, I (IntKind.i64.wrap (x7.From + 1)), I y12.2.1.commit, I y12.2.1.applied, I 0, .bool (y12.2.1.votes 0), .bool (y12.2.1.votes 1), .bool (y12.2.1.votes 2), .bool (y12.2.1.votes 3), .bool (y12.2.1.votes 4), I (y12.2.1.next 0), I (y12.2.1.next 1), I (y12.2.1.next 2), I (y12.2.1.next 3), I (y12.2.1.next 4), I (y12.2.1.match_ 0), I (y12.2.1.match_ 1), I (y12.2.1.match_ 2), I (y12.2.1.match_ 3), I (y12.2.1.match_ 4), .slice a17 y12.2.1.out.length c17, I y12.2.1.broken] hst rfl rfl (by kernel_rfl) fun w hst => ?_
                        refine wpG_done (by kernel_rfl) ?_ _
                        refine C_keepQ [(0, pt p1 0), (3, pt p5 0)] rfl fun b => ?_
                        refine th_n ?_
                        obtain rfl := Option.some.inj hr
                        have hst := (((((((hst.pull 6).pull 6).pull 6).pull 6).pull 6).pull 6).pull 6)
                        exact (kpX [(0, pt p1 0), (3, pt p5 0)] rfl hst)
                      · refine O_store [I y12.2.1.id, I y12.2.1.n, pt p2 0, I y12.2.1.st.Term, I y12.2.1.st.Vote, I y12.2.1.st.Base, I y12.2.1.st.BaseTerm, S y12.2.1.st.Snap, .slice a16 y12.2.1.st.Log.length c16, I 0, I y12.2.1.leader, I y12.2.1.commit, I y12.2.1.applied, I y12.2.1.timer, .bool (y12.2.1.votes 0), .bool (y12.2.1.votes 1), .bool (y12.2.1.votes 2), .bool (y12.2.1.votes 3), .bool (y12.2.1.votes 4), I (y12.2.1.next 0), I (y12.2.1.next 1), I (y12.2.1.next 2), I (y12.2.1.next 3), I (y12.2.1.next 4), I (y12.2.1.match_ 0), I (y12.2.1.match_ 1), I (y12.2.1.match_ 2), I (y12.2.1.match_ 3), I (y12.2.1.match_ 4), .slice a17 y12.2.1.out.length c17, I y12.2.1.broken] (hst.pull 2) rfl rfl (by kernel_rfl) fun w hst => ?_
                        refine A_all [4] (by kernel_rfl) ⟨⟨_, rfl, rfl, ?_⟩, trivial⟩
                        refine O_run (v := I x7.From) (w' := w) (R_load (hst.pull 5) rfl rfl) rfl rfl ?_
                        refine A_take (i := 5) (v := I (IntKind.i64.wrap (x7.From + 1))) rfl (by kernel_rfl) (fun _ _ _ h => h) rfl rfl rfl (fun _ => R_pure (by kernel_rfl)) ?_
                        refine A_take (i := 9) (v := pt p1 0) rfl (by kernel_rfl) (fun _ _ _ h => h) rfl rfl rfl (fun _ => R_pure (by kernel_rfl)) ?_
                        refine A_take (i := 10) (v := pt p1 10) rfl (by kernel_rfl) (fun _ _ _ h => h) rfl rfl rfl (fun _ => R_pure (by kernel_rfl)) ?_
                        refine A_all [11] (by kernel_rfl) ⟨⟨_, rfl, rfl, ?_⟩, trivial⟩
                        refine O_store [I y12.2.1.id, I y12.2.1.n, pt p2 0, I y12.2.1.st.Term, I y12.2.1.st.Vote, I y12.2.1.st.Base, I y12.2.1.st.BaseTerm, S y12.2.1.st.Snap, .slice a16 y12.2.1.st.Log.length c16, I 0, I (IntKind.i64.wrap (x7.From + 1)), I y12.2.1.commit, I y12.2.1.applied, I y12.2.1.timer, .bool (y12.2.1.votes 0), .bool (y12.2.1.votes 1), .bool (y12.2.1.votes 2), .bool (y12.2.1.votes 3), .bool (y12.2.1.votes 4), I (y12.2.1.next 0), I (y12.2.1.next 1), I (y12.2.1.next 2), I (y12.2.1.next 3), I (y12.2.1.next 4), I (y12.2.1.match_ 0), I (y12.2.1.match_ 1), I (y12.2.1.match_ 2), I (y12.2.1.match_ 3), I (y12.2.1.match_ 4), .slice a17 y12.2.1.out.length c17, I y12.2.1.broken] hst rfl rfl (by kernel_rfl) fun w hst => ?_
                        refine A_take (i := 12) (v := pt p1 0) rfl (by kernel_rfl) (fun _ _ _ h => h) rfl rfl rfl (fun _ => R_pure (by kernel_rfl)) ?_
                        refine A_take (i := 13) (v := pt p1 13) rfl (by kernel_rfl) (fun _ _ _ h => h) rfl rfl rfl (fun _ => R_pure (by kernel_rfl)) ?_
                        refine A_all [14] (by kernel_rfl) ⟨⟨_, rfl, rfl, ?_⟩, trivial⟩
                        refine O_store [I y12.2.1.id, I y12.2.1.n, pt p2 0, I y12.2.1.st.Term, I y12.2.1.st.Vote, I y12.2.1.st.Base, I y12.2.1.st.BaseTerm, S y12.2.1.st.Snap, .slice a16 y12.2.1.st.Log.length c16, I 0, I (IntKind.i64.wrap (x7.From + 1)), I y12.2.1.commit, I y12.2.1.applied, I 0, .bool (y12.2.1.votes 0), .bool (y12.2.1.votes 1), .bool (y12.2.1.votes 2), .bool (y12.2.1.votes 3), .bool (y12.2.1.votes 4), I (y12.2.1.next 0), I (y12.2.1.next 1), I (y12.2.1.next 2), I (y12.2.1.next 3), I (y12.2.1.next 4), I (y12.2.1.match_ 0), I (y12.2.1.match_ 1), I (y12.2.1.match_ 2), I (y12.2.1.match_ 3), I (y12.2.1.match_ 4), .slice a17 y12.2.1.out.length c17, I y12.2.1.broken] hst rfl rfl (by kernel_rfl) fun w hst => ?_
                        refine wpG_done (by kernel_rfl) ?_ _
                        refine C_keepQ [(0, pt p1 0), (3, pt p5 0)] rfl fun b => ?_
                        refine th_n ?_
                        obtain rfl := Option.some.inj hr
                        have hst := (((((((hst.pull 6).pull 6).pull 6).pull 6).pull 6).pull 6).pull 6)
                        exact (kpX [(0, pt p1 0), (3, pt p5 0)] rfl hst)
                · have hr := (if_neg (by rw [h]; exact Bool.false_ne_true)).symm.trans hr
                  refine wp_seq ?_
                  refine wp_reg ?_
                  refine L_pure 2 [(0, pt p1 0), (3, pt p5 0), (4, .bool (decide (x7.Term < y12.2.1.st.Term))), (126, .bool (x7.Kind == 4))] (by kernel_rfl) fun b => ?_
                  refine wpL_nil ?_
                  refine th_n ?_
                  refine wp_cond_mkF (t := (x7.Kind == 4)) rfl (fun h => ?_) (fun h => ?_)
                  · have hr := (if_pos h).symm.trans hr
                    obtain ⟨y19, hy19, hk12⟩ := bnd hr
                    clear hr
                    refine wp_seq_cut (fun a w => ∃ (b : Nat → Value), a = mkF 140 b [(0, pt p1 0), (3, pt p5 0), (136, .bool y19)] ∧ St G w (osl r_T_term_Entry 48 a16 c16 y12.2.1.st.Log :: osl r_T_raft_Msg 39 a17 c17 y12.2.1.out :: blk p1 (cl [I y12.2.1.id, I y12.2.1.n, pt p2 0, I y12.2.1.st.Term, I y12.2.1.st.Vote, I y12.2.1.st.Base, I y12.2.1.st.BaseTerm, S y12.2.1.st.Snap, .slice a16 y12.2.1.st.Log.length c16, I y12.2.1.role, I y12.2.1.leader, I y12.2.1.commit, I y12.2.1.applied, I y12.2.1.timer, .bool (y12.2.1.votes 0), .bool (y12.2.1.votes 1), .bool (y12.2.1.votes 2), .bool (y12.2.1.votes 3), .bool (y12.2.1.votes 4), I (y12.2.1.next 0), I (y12.2.1.next 1), I (y12.2.1.next 2), I (y12.2.1.next 3), I (y12.2.1.next 4), I (y12.2.1.match_ 0), I (y12.2.1.match_ 1), I (y12.2.1.match_ 2), I (y12.2.1.match_ 3), I (y12.2.1.match_ 4), .slice a17 y12.2.1.out.length c17, I y12.2.1.broken] 66) :: blk p2 (cl [I x2, I y12.2.2.1, .bool x4, I y12.2.2.2.1, .map (some p3)] 79) :: mpr S (rPt r_T_platter_file) p3 y12.2.2.2.2 :: blk p5 (cl [I x7.Kind, I x7.From, I x7.To, I x7.Term, I x7.Index, I x7.LogTerm, I x7.Commit, .bool x7.OK, .slice a3 x7.Entries.length c3, S x7.Snap] 39) :: dsl r_T_term_Entry a3 c3 x7.Entries :: F)) ?_ ?_
                    · rintro _ w ⟨b, rfl, hst⟩
                      have hr := hk12
                      refine wp_cond_mkF (t := y19) rfl (fun h => ?_) (fun h => ?_)
                      · have hr := (if_pos h).symm.trans hr
                        refine wp_reg ?_
                        refine L_pure 1 [(3, pt p5 0), (137, pt p1 0)] (by kernel_rfl) fun b => ?_
                        refine L_op rfl (O_run (v := .agg #[I x7.Kind, I x7.From, I x7.To, I x7.Term, I x7.Index, I x7.LogTerm, I x7.Commit, .bool x7.OK, .slice a3 x7.Entries.length c3, S x7.Snap]) (w' := w) (R_load (hst.pull 5) rfl rfl) rfl rfl ?_)
                        obtain ⟨y20, hy20, hr⟩ := bnd hr
                        refine L_op rfl (O_call (vs := #[pt p1 0, .agg #[I x7.Kind, I x7.From, I x7.To, I x7.Term, I x7.Index, I x7.LogTerm, I x7.Commit, .bool x7.OK, .slice a3 x7.Entries.length c3, S x7.Snap]]) Tryz.call31 (by kernel_rfl) (raft_Node_have_ok k y12.2.1 x2 y12.2.2.1 x4 y12.2.2.2.1 y12.2.2.2.2 x7 p1 p2 p3 a16 c16 a17 c17 a3 c3 y20 ((((((hst.pull 6).pull 2).pull 2).pull 5).pull 5).pull 5) hy20 fun a24 c24 a25 c25 w hst => ?_))
                        refine CK_ret rfl ?_
                        refine wpL_nil ?_
                        refine ib_n (bp_normal ?_)
                        refine ret0 rfl ?_
                        obtain rfl := Option.some.inj hr
                        have hst := (((((((hst.pull 5).pull 5).pull 5).pull 5).pull 5).pull 5).cut 6 1)
                        exact hR a24 c24 a25 c25 _ hst
                      · have hr := (if_neg (by rw [h]; exact Bool.false_ne_true)).symm.trans hr
                        refine wp_skip ?_
                        refine ib_n (bp_normal ?_)
                        refine ret0 rfl ?_
                        obtain rfl := Option.some.inj hr
                        have hst := (((((((hst.pull 6).pull 5).pull 5).pull 5).pull 5).pull 5).cut 6 1)
                        exact hR a16 c16 a17 c17 _ hst
                    · have hr := hy19
                      refine wp_reg ?_
                      refine L_pure 3 [(0, pt p1 0), (3, pt p5 0), (130, .bool (!(decide (x7.Term < y12.2.1.st.Term))))] (by kernel_rfl) fun b => ?_
                      by_cases h : (!(decide (x7.Term < y12.2.1.st.Term))) = true
                      · have hr := (if_pos h).symm.trans hr
                        refine L_keep ((130, .bool (!(decide (x7.Term < y12.2.1.st.Term)))) :: [(0, pt p1 0), (3, pt p5 0)]) rfl fun b => ?_
                        refine L_bool h ?_
                        refine L_pure 3 [(0, pt p1 0), (3, pt p5 0), (130, .bool true), (133, pt p1 9)] (by kernel_rfl) fun b => ?_
                        refine L_op rfl (O_run (v := I y12.2.1.role) (w' := w) (R_load (hst.pull 2) rfl rfl) rfl rfl ?_)
                        refine L_pure 2 [(0, pt p1 0), (3, pt p5 0), (136, .bool (y12.2.1.role == 2))] (by kernel_rfl) fun b => ?_
                        refine wpL_nil ?_
                        refine th_n ?_
                        obtain rfl := Option.some.inj hr
                        have hst := (((((((hst.pull 6).pull 6).pull 6).pull 6).pull 6).pull 6).pull 6)
                        exact (kpX [(0, pt p1 0), (3, pt p5 0), (136, .bool (y12.2.1.role == 2))] rfl hst)
                      · have hr := (if_neg h).symm.trans hr
                        refine L_keep ((130, .bool (!(decide (x7.Term < y12.2.1.st.Term)))) :: [(0, pt p1 0), (3, pt p5 0)]) rfl fun b => ?_
                        refine L_bool (eq_false_of_ne_true h) ?_
                        refine L_pure 6 [(0, pt p1 0), (3, pt p5 0), (136, .bool false)] (by kernel_rfl) fun b => ?_
                        refine wpL_nil ?_
                        refine th_n ?_
                        obtain rfl := Option.some.inj hr
                        have hst := (((((((hst.pull 6).pull 6).pull 6).pull 6).pull 6).pull 6).pull 6)
                        exact (kpX [(0, pt p1 0), (3, pt p5 0), (136, .bool false)] rfl hst)
                  · have hr := (if_neg (by rw [h]; exact Bool.false_ne_true)).symm.trans hr
                    refine wp_skip ?_
                    refine ib_n (bp_normal ?_)
                    refine ret0 rfl ?_
                    obtain rfl := Option.some.inj hr
                    have hst := (((((((hst.pull 6).pull 5).pull 5).pull 5).pull 5).pull 5).cut 6 1)
                    exact hR a16 c16 a17 c17 _ hst
              · have hr := hy16
                refine wp_seq ?_
                refine wp_reg ?_
                refine L_pure 2 [(0, pt p1 0), (3, pt p5 0), (4, .bool (decide (x7.Term < y12.2.1.st.Term))), (66, I x7.Kind), (96, .bool (x7.Kind == 3))] (by kernel_rfl) fun b => ?_
                refine wpL_nil ?_
                refine th_n ?_
                refine wp_cond_mkF (t := (x7.Kind == 3)) rfl (fun h => ?_) (fun h => ?_)
                · have hr := (if_pos h).symm.trans hr
                  refine wp_skip ?_
                  refine th_n ?_
                  obtain rfl := Option.some.inj hr
                  have hst := (((((((hst.pull 6).pull 6).pull 6).pull 6).pull 6).pull 6).pull 6)
                  exact (kpX [(0, pt p1 0), (3, pt p5 0), (4, .bool (decide (x7.Term < y12.2.1.st.Term))), (66, I x7.Kind), (96, .bool (x7.Kind == 3))] rfl hst)
                · have hr := (if_neg (by rw [h]; exact Bool.false_ne_true)).symm.trans hr
                  refine wp_reg ?_
                  refine L_pure 2 [(0, pt p1 0), (3, pt p5 0), (4, .bool (decide (x7.Term < y12.2.1.st.Term))), (66, I x7.Kind), (96, .bool (x7.Kind == 5))] (by kernel_rfl) fun b => ?_
                  refine wpL_nil ?_
                  refine th_n ?_
                  obtain rfl := Option.some.inj hr
                  have hst := (((((((hst.pull 6).pull 6).pull 6).pull 6).pull 6).pull 6).pull 6)
                  exact (kpX [(0, pt p1 0), (3, pt p5 0), (4, .bool (decide (x7.Term < y12.2.1.st.Term))), (66, I x7.Kind), (96, .bool (x7.Kind == 5))] rfl hst)
      · have hr := hy12
        refine wp_regG SA rfl ?_
        have hst := hst.draw (n := w.drawn + 1)
        generalize { w with drawn := w.drawn + 1 } = w at hst ⊢
        refine A_take (i := 0) (v := pt p5 3) rfl (by kernel_rfl) (fun _ _ _ h => h) rfl rfl rfl (fun _ => R_pure (by kernel_rfl)) ?_
        refine A_take (i := 2) (v := pt p1 0) rfl (by kernel_rfl) (fun _ _ _ h => h) rfl rfl rfl (fun _ => R_pure (by kernel_rfl)) ?_
        refine A_take (i := 3) (v := pt p1 0) rfl (by kernel_rfl) (fun _ _ _ h => h) rfl rfl rfl (fun _ => R_pure (by kernel_rfl)) ?_
        refine A_take (i := 4) (v := pt p1 3) rfl (by kernel_rfl) (fun _ _ _ h => h) rfl rfl rfl (fun _ => R_pure (by kernel_rfl)) ?_
        refine A_take (i := 5) (v := pt p1 3) rfl (by kernel_rfl) (fun _ _ _ h => h) rfl rfl rfl (fun _ => R_pure (by kernel_rfl)) ?_
        refine A_all [1, 6] (by kernel_rfl) ⟨⟨_, rfl, rfl, ?_⟩, ⟨_, rfl, rfl, ?_⟩, trivial⟩
        · refine O_run (v := I x7.Term) (w' := w) (R_load hst rfl rfl) rfl rfl ?_
          refine A_all [6] (by kernel_rfl) ⟨⟨_, rfl, rfl, ?_⟩, trivial⟩
          refine O_run (v := I x1.st.Term) (w' := w) (R_load (hst.pull 1) rfl rfl) rfl rfl ?_
          refine A_take (i := 7) (v := .bool (decide (x7.Term > x1.st.Term))) rfl (by kernel_rfl) (fun _ _ _ h => h) rfl rfl rfl (fun _ => R_pure (by kernel_rfl)) ?_
          refine A_take (i := 8) (v := .bool (decide (x7.Term > x1.st.Term))) rfl (by kernel_rfl) (fun _ _ _ h => h) rfl rfl rfl (fun _ => R_pure (by kernel_rfl)) ?_
          by_cases h : (decide (x7.Term > x1.st.Term)) = true
          · have hr := (if_pos h).symm.trans hr
            refine C_keep ((50, .bool (decide (x7.Term > x1.st.Term))) :: [(0, pt p1 0), (3, pt p5 0), (41, .bool y11), (42, pt p5 3), (43, I x7.Term), (44, pt p1 0), (45, pt p1 0), (46, pt p1 3), (47, pt p1 3), (48, I x1.st.Term), (49, .bool (decide (x7.Term > x1.st.Term)))]) rfl fun b => ?_
            refine C_bool h ?_
            refine A_take (i := 9) (v := pt p1 0) rfl (by kernel_rfl) (fun _ _ _ h => h) rfl rfl rfl (fun _ => R_pure (by kernel_rfl)) ?_
            refine A_take (i := 10) (v := pt p5 3) rfl (by kernel_rfl) (fun _ _ _ h => h) rfl rfl rfl (fun _ => R_pure (by kernel_rfl)) ?_
            refine A_all [11] (by kernel_rfl) ⟨⟨_, rfl, rfl, ?_⟩, trivial⟩
            refine O_run (v := I x7.Term) (w' := w) (R_load hst rfl rfl) rfl rfl ?_
            refine A_all [12] (by kernel_rfl) ⟨⟨_, rfl, rfl, ?_⟩, trivial⟩
            obtain ⟨y13, hy13, hr⟩ := bnd hr
            refine O_call (vs := #[pt p1 0, I x7.Term]) Tryz.call25 (by kernel_rfl) ?_
            refine (raft_Node_follow_ok k x1 x2 x3 x4 x5 x6 x7.Term p1 p2 p3 a1 c1 a2 c2 y13 (((((hst.pull 5).pull 5).pull 5).pull 5).pull 5) hy13 fun a18 c18 a19 c19 w hst => ?_)
            refine CK_ret rfl ?_
            refine A_take (i := 13) (v := .bool (!y13.1)) rfl (by kernel_rfl) (fun _ _ _ h => h) rfl rfl rfl (fun _ => R_pure (by kernel_rfl)) ?_
            refine A_take (i := 14) (v := .bool (!y13.1)) rfl (by kernel_rfl) (fun _ _ _ h => h) rfl rfl rfl (fun _ => R_pure (by kernel_rfl)) ?_
            refine wpG_done (by kernel_rfl) ?_ _
            refine C_keepQ [(0, pt p1 0), (3, pt p5 0), (56, .bool (!y13.1))] rfl fun b => ?_
            refine th_n ?_
            obtain rfl := Option.some.inj hr
            have hst := (((((((hst.pull 6).pull 6).pull 6).pull 6).pull 6).pull 6).pull 6)
            exact ⟨a18, c18, a19, c19, (kpX [(0, pt p1 0), (3, pt p5 0), (56, .bool (!y13.1))] rfl hst)⟩
          · have hr := (if_neg h).symm.trans hr
            refine C_keep ((50, .bool (decide (x7.Term > x1.st.Term))) :: [(0, pt p1 0), (3, pt p5 0), (41, .bool y11), (42, pt p5 3), (43, I x7.Term), (44, pt p1 0), (45, pt p1 0), (46, pt p1 3), (47, pt p1 3), (48, I x1.st.Term), (49, .bool (decide (x7.Term > x1.st.Term)))]) rfl fun b => ?_
            refine C_bool (eq_false_of_ne_true h) ?_
            refine A_skip (i := 9) rfl (by kernel_rfl) (fun _ _ _ h => h) rfl rfl rfl ?_
            refine A_skip (i := 10) rfl (by kernel_rfl) (fun _ _ _ h => h) rfl rfl rfl ?_
            refine A_skip (i := 11) rfl (by kernel_rfl) (fun _ _ _ h => h) rfl rfl rfl ?_
            refine A_skip (i := 12) rfl (by kernel_rfl) (fun _ _ _ h => h) rfl rfl rfl ?_
            refine A_skip (i := 13) rfl (by kernel_rfl) (fun _ _ _ h => h) rfl rfl rfl ?_
            refine A_take (i := 14) (v := .bool false) rfl (by kernel_rfl) (fun _ _ _ h => h) rfl rfl rfl (fun _ => R_pure (by kernel_rfl)) ?_
            refine wpG_done (by kernel_rfl) ?_ _
            refine C_keepQ [(0, pt p1 0), (3, pt p5 0), (56, .bool false)] rfl fun b => ?_
            refine th_n ?_
            obtain rfl := Option.some.inj hr
            have hst := (((((((hst.pull 6).pull 1).pull 4).pull 4).pull 4).pull 6).pull 6)
            exact ⟨a1, c1, a2, c2, (kpX [(0, pt p1 0), (3, pt p5 0), (56, .bool false)] rfl hst)⟩
        · refine O_run (v := I x1.st.Term) (w' := w) (R_load (hst.pull 1) rfl rfl) rfl rfl ?_
          refine A_all [1] (by kernel_rfl) ⟨⟨_, rfl, rfl, ?_⟩, trivial⟩
          refine O_run (v := I x7.Term) (w' := w) (R_load hst rfl rfl) rfl rfl ?_
          refine A_take (i := 7) (v := .bool (decide (x7.Term > x1.st.Term))) rfl (by kernel_rfl) (fun _ _ _ h => h) rfl rfl rfl (fun _ => R_pure (by kernel_rfl)) ?_
          refine A_take (i := 8) (v := .bool (decide (x7.Term > x1.st.Term))) rfl (by kernel_rfl) (fun _ _ _ h => h) rfl rfl rfl (fun _ => R_pure (by kernel_rfl)) ?_
          by_cases h : (decide (x7.Term > x1.st.Term)) = true
          · have hr := (if_pos h).symm.trans hr
            refine C_keep ((50, .bool (decide (x7.Term > x1.st.Term))) :: [(0, pt p1 0), (3, pt p5 0), (41, .bool y11), (42, pt p5 3), (43, I x7.Term), (44, pt p1 0), (45, pt p1 0), (46, pt p1 3), (47, pt p1 3), (48, I x1.st.Term), (49, .bool (decide (x7.Term > x1.st.Term)))]) rfl fun b => ?_
            refine C_bool h ?_
            refine A_take (i := 9) (v := pt p1 0) rfl (by kernel_rfl) (fun _ _ _ h => h) rfl rfl rfl (fun _ => R_pure (by kernel_rfl)) ?_
            refine A_take (i := 10) (v := pt p5 3) rfl (by kernel_rfl) (fun _ _ _ h => h) rfl rfl rfl (fun _ => R_pure (by kernel_rfl)) ?_
            refine A_all [11] (by kernel_rfl) ⟨⟨_, rfl, rfl, ?_⟩, trivial⟩
            refine O_run (v := I x7.Term) (w' := w) (R_load hst rfl rfl) rfl rfl ?_
            refine A_all [12] (by kernel_rfl) ⟨⟨_, rfl, rfl, ?_⟩, trivial⟩
            obtain ⟨y13, hy13, hr⟩ := bnd hr
            refine O_call (vs := #[pt p1 0, I x7.Term]) Tryz.call25 (by kernel_rfl) ?_
            refine (raft_Node_follow_ok k x1 x2 x3 x4 x5 x6 x7.Term p1 p2 p3 a1 c1 a2 c2 y13 (((((hst.pull 5).pull 5).pull 5).pull 5).pull 5) hy13 fun a18 c18 a19 c19 w hst => ?_)
            refine CK_ret rfl ?_
            refine A_take (i := 13) (v := .bool (!y13.1)) rfl (by kernel_rfl) (fun _ _ _ h => h) rfl rfl rfl (fun _ => R_pure (by kernel_rfl)) ?_
            refine A_take (i := 14) (v := .bool (!y13.1)) rfl (by kernel_rfl) (fun _ _ _ h => h) rfl rfl rfl (fun _ => R_pure (by kernel_rfl)) ?_
            refine wpG_done (by kernel_rfl) ?_ _
            refine C_keepQ [(0, pt p1 0), (3, pt p5 0), (56, .bool (!y13.1))] rfl fun b => ?_
            refine th_n ?_
            obtain rfl := Option.some.inj hr
            have hst := (((((((hst.pull 6).pull 6).pull 6).pull 6).pull 6).pull 6).pull 6)
            exact ⟨a18, c18, a19, c19, (kpX [(0, pt p1 0), (3, pt p5 0), (56, .bool (!y13.1))] rfl hst)⟩
          · have hr := (if_neg h).symm.trans hr
            refine C_keep ((50, .bool (decide (x7.Term > x1.st.Term))) :: [(0, pt p1 0), (3, pt p5 0), (41, .bool y11), (42, pt p5 3), (43, I x7.Term), (44, pt p1 0), (45, pt p1 0), (46, pt p1 3), (47, pt p1 3), (48, I x1.st.Term), (49, .bool (decide (x7.Term > x1.st.Term)))]) rfl fun b => ?_
            refine C_bool (eq_false_of_ne_true h) ?_
            refine A_skip (i := 9) rfl (by kernel_rfl) (fun _ _ _ h => h) rfl rfl rfl ?_
            refine A_skip (i := 10) rfl (by kernel_rfl) (fun _ _ _ h => h) rfl rfl rfl ?_
            refine A_skip (i := 11) rfl (by kernel_rfl) (fun _ _ _ h => h) rfl rfl rfl ?_
            refine A_skip (i := 12) rfl (by kernel_rfl) (fun _ _ _ h => h) rfl rfl rfl ?_
            refine A_skip (i := 13) rfl (by kernel_rfl) (fun _ _ _ h => h) rfl rfl rfl ?_
            refine A_take (i := 14) (v := .bool false) rfl (by kernel_rfl) (fun _ _ _ h => h) rfl rfl rfl (fun _ => R_pure (by kernel_rfl)) ?_
            refine wpG_done (by kernel_rfl) ?_ _
            refine C_keepQ [(0, pt p1 0), (3, pt p5 0), (56, .bool false)] rfl fun b => ?_
            refine th_n ?_
            obtain rfl := Option.some.inj hr
            have hst := (((((((hst.pull 6).pull 1).pull 4).pull 4).pull 4).pull 6).pull 6)
            exact ⟨a1, c1, a2, c2, (kpX [(0, pt p1 0), (3, pt p5 0), (56, .bool false)] rfl hst)⟩
  · have hr := hy11
    refine wp_regG (SN { w with drawn := w.drawn + 1 }) rfl ?_
    have hst := hst.draw (n := w.drawn + 1)
    generalize { w with drawn := w.drawn + 1 } = w at hst ⊢
    refine C_take (i := 0) (v := pt p1 0) rfl (by kernel_rfl) (fun _ _ _ h => h) rfl rfl rfl (R_pure (by kernel_rfl)) ?_
    refine C_take (i := 1) (v := pt p1 0) rfl (by kernel_rfl) (fun _ _ _ h => h) rfl rfl rfl (R_pure (by kernel_rfl)) ?_
    refine C_take (i := 2) (v := pt p1 30) rfl (by kernel_rfl) (fun _ _ _ h => h) rfl rfl rfl (R_pure (by kernel_rfl)) ?_
    refine C_take (i := 3) (v := I x1.broken) rfl (by kernel_rfl) (fun _ _ _ h => h) rfl rfl rfl (R_load (hst.pull 1) rfl rfl) ?_
    refine C_take (i := 4) (v := .bool (x1.broken != 0)) rfl (by kernel_rfl) (fun _ _ _ h => h) rfl rfl rfl (R_pure (by kernel_rfl)) ?_
    refine C_take (i := 5) (v := .bool (x1.broken != 0)) rfl (by kernel_rfl) (fun _ _ _ h => h) rfl rfl rfl (R_pure (by kernel_rfl)) ?_
    by_cases h : (x1.broken != 0) = true
    · have hr := (if_pos h).symm.trans hr
      refine C_keep ((10, .bool (x1.broken != 0)) :: [(0, pt p1 0), (1, .agg #[I x7.Kind, I x7.From, I x7.To, I x7.Term, I x7.Index, I x7.LogTerm, I x7.Commit, .bool x7.OK, .slice a3 x7.Entries.length c3, S x7.Snap]), (3, pt p5 0), (5, pt p1 0), (6, pt p1 0), (7, pt p1 30), (8, I x1.broken), (9, .bool (x1.broken != 0))]) rfl fun b => ?_
      refine C_bool h ?_
      refine C_skip (i := 6) rfl (by kernel_rfl) (fun _ _ _ h => h) rfl rfl rfl ?_
      refine C_skip (i := 7) rfl (by kernel_rfl) (fun _ _ _ h => h) rfl rfl rfl ?_
      refine C_skip (i := 8) rfl (by kernel_rfl) (fun _ _ _ h => h) rfl rfl rfl ?_
      refine C_skip (i := 9) rfl (by kernel_rfl) (fun _ _ _ h => h) rfl rfl rfl ?_
      refine C_skip (i := 10) rfl (by kernel_rfl) (fun _ _ _ h => h) rfl rfl rfl ?_
      refine C_skip (i := 11) rfl (by kernel_rfl) (fun _ _ _ h => h) rfl rfl rfl ?_
      refine C_skip (i := 12) rfl (by kernel_rfl) (fun _ _ _ h => h) rfl rfl rfl ?_
      refine C_take (i := 13) (v := .bool true) rfl (by kernel_rfl) (fun _ _ _ h => h) rfl rfl rfl (R_pure (by kernel_rfl)) ?_
      refine C_take (i := 14) (v := .bool true) rfl (by kernel_rfl) (fun _ _ _ h => h) rfl rfl rfl (R_pure (by kernel_rfl)) ?_
      refine C_skip (i := 15) rfl (by kernel_rfl) (fun _ _ _ h => h) rfl rfl rfl ?_
      refine C_skip (i := 16) rfl (by kernel_rfl) (fun _ _ _ h => h) rfl rfl rfl ?_
      refine C_skip (i := 17) rfl (by kernel_rfl) (fun _ _ _ h => h) rfl rfl rfl ?_
      refine C_take (i := 18) (v := .bool true) rfl (by kernel_rfl) (fun _ _ _ h => h) rfl rfl rfl (R_pure (by kernel_rfl)) ?_
      refine C_take (i := 19) (v := .bool true) rfl (by kernel_rfl) (fun _ _ _ h => h) rfl rfl rfl (R_pure (by kernel_rfl)) ?_
      refine C_skip (i := 20) rfl (by kernel_rfl) (fun _ _ _ h => h) rfl rfl rfl ?_
      refine C_skip (i := 21) rfl (by kernel_rfl) (fun _ _ _ h => h) rfl rfl rfl ?_
      refine C_skip (i := 22) rfl (by kernel_rfl) (fun _ _ _ h => h) rfl rfl rfl ?_
      refine C_skip (i := 23) rfl (by kernel_rfl) (fun _ _ _ h => h) rfl rfl rfl ?_
      refine C_skip (i := 24) rfl (by kernel_rfl) (fun _ _ _ h => h) rfl rfl rfl ?_
      refine C_skip (i := 25) rfl (by kernel_rfl) (fun _ _ _ h => h) rfl rfl rfl ?_
      refine C_skip (i := 26) rfl (by kernel_rfl) (fun _ _ _ h => h) rfl rfl rfl ?_
      refine C_take (i := 27) (v := .bool true) rfl (by kernel_rfl) (fun _ _ _ h => h) rfl rfl rfl (R_pure (by kernel_rfl)) ?_
      refine C_take (i := 28) (v := .bool true) rfl (by kernel_rfl) (fun _ _ _ h => h) rfl rfl rfl (R_pure (by kernel_rfl)) ?_
      refine C_skip (i := 29) rfl (by kernel_rfl) (fun _ _ _ h => h) rfl rfl rfl ?_
      refine C_skip (i := 30) rfl (by kernel_rfl) (fun _ _ _ h => h) rfl rfl rfl ?_
      refine C_skip (i := 31) rfl (by kernel_rfl) (fun _ _ _ h => h) rfl rfl rfl ?_
      refine C_skip (i := 32) rfl (by kernel_rfl) (fun _ _ _ h => h) rfl rfl rfl ?_
      refine C_skip (i := 33) rfl (by kernel_rfl) (fun _ _ _ h => h) rfl rfl rfl ?_
      refine C_skip (i := 34) rfl (by kernel_rfl) (fun _ _ _ h => h) rfl rfl rfl ?_
      refine C_skip (i := 35) rfl (by kernel_rfl) (fun _ _ _ h => h) rfl rfl rfl ?_
      refine C_take (i := 36) (v := .bool true) rfl (by kernel_rfl) (fun _ _ _ h => h) rfl rfl rfl (R_pure (by kernel_rfl)) ?_
      refine wpG_done (by kernel_rfl) ?_ _
      refine C_keepQ [(0, pt p1 0), (3, pt p5 0), (41, .bool true)] rfl fun b => ?_
      refine th_n ?_
      obtain rfl := Option.some.inj hr
      have hst := (((((((hst.pull 6).pull 6).pull 6).pull 6).pull 6).pull 6).pull 6)
      exact (kpX [(0, pt p1 0), (3, pt p5 0), (41, .bool true)] rfl hst)
    · have hr := (if_neg h).symm.trans hr
      refine C_keep ((10, .bool (x1.broken != 0)) :: [(0, pt p1 0), (1, .agg #[I x7.Kind, I x7.From, I x7.To, I x7.Term, I x7.Index, I x7.LogTerm, I x7.Commit, .bool x7.OK, .slice a3 x7.Entries.length c3, S x7.Snap]), (3, pt p5 0), (5, pt p1 0), (6, pt p1 0), (7, pt p1 30), (8, I x1.broken), (9, .bool (x1.broken != 0))]) rfl fun b => ?_
      refine C_bool (eq_false_of_ne_true h) ?_
      refine C_take (i := 6) (v := pt p5 2) rfl (by kernel_rfl) (fun _ _ _ h => h) rfl rfl rfl (R_pure (by kernel_rfl)) ?_
      refine C_take (i := 7) (v := I x7.To) rfl (by kernel_rfl) (fun _ _ _ h => h) rfl rfl rfl (R_load hst rfl rfl) ?_
      refine C_take (i := 8) (v := pt p1 0) rfl (by kernel_rfl) (fun _ _ _ h => h) rfl rfl rfl (R_pure (by kernel_rfl)) ?_
      refine C_take (i := 9) (v := pt p1 0) rfl (by kernel_rfl) (fun _ _ _ h => h) rfl rfl rfl (R_pure (by kernel_rfl)) ?_
      refine C_take (i := 10) (v := pt p1 0) rfl (by kernel_rfl) (fun _ _ _ h => h) rfl rfl rfl (R_pure (by kernel_rfl)) ?_
      refine C_take (i := 11) (v := I x1.id) rfl (by kernel_rfl) (fun _ _ _ h => h) rfl rfl rfl (R_load (hst.pull 1) rfl rfl) ?_
      refine C_take (i := 12) (v := .bool (x7.To != x1.id)) rfl (by kernel_rfl) (fun _ _ _ h => h) rfl rfl rfl (R_pure (by kernel_rfl)) ?_
      refine C_take (i := 13) (v := .bool (x7.To != x1.id)) rfl (by kernel_rfl) (fun _ _ _ h => h) rfl rfl rfl (R_pure (by kernel_rfl)) ?_
      refine C_take (i := 14) (v := .bool (x7.To != x1.id)) rfl (by kernel_rfl) (fun _ _ _ h => h) rfl rfl rfl (R_pure (by kernel_rfl)) ?_
      by_cases h : (x7.To != x1.id) = true
      · have hr := (if_pos h).symm.trans hr
        refine C_keep ((19, .bool (x7.To != x1.id)) :: [(0, pt p1 0), (1, .agg #[I x7.Kind, I x7.From, I x7.To, I x7.Term, I x7.Index, I x7.LogTerm, I x7.Commit, .bool x7.OK, .slice a3 x7.Entries.length c3, S x7.Snap]), (3, pt p5 0), (5, pt p1 0), (6, pt p1 0), (7, pt p1 30), (8, I x1.broken), (9, .bool (x1.broken != 0)), (10, .bool false), (11, pt p5 2), (12, I x7.To), (13, pt p1 0), (14, pt p1 0), (15, pt p1 0), (16, I x1.id), (17, .bool (x7.To != x1.id)), (18, .bool (x7.To != x1.id))]) rfl fun b => ?_
        refine C_bool h ?_
        refine C_skip (i := 15) rfl (by kernel_rfl) (fun _ _ _ h => h) rfl rfl rfl ?_
        refine C_skip (i := 16) rfl (by kernel_rfl) (fun _ _ _ h => h) rfl rfl rfl ?_
        refine C_skip (i := 17) rfl (by kernel_rfl) (fun _ _ _ h => h) rfl rfl rfl ?_
        refine C_take (i := 18) (v := .bool true) rfl (by kernel_rfl) (fun _ _ _ h => h) rfl rfl rfl (R_pure (by kernel_rfl)) ?_
        refine C_take (i := 19) (v := .bool true) rfl (by kernel_rfl) (fun _ _ _ h => h) rfl rfl rfl (R_pure (by kernel_rfl)) ?_
        refine C_skip (i := 20) rfl (by kernel_rfl) (fun _ _ _ h => h) rfl rfl rfl ?_
        refine C_skip (i := 21) rfl (by kernel_rfl) (fun _ _ _ h => h) rfl rfl rfl ?_
        refine C_skip (i := 22) rfl (by kernel_rfl) (fun _ _ _ h => h) rfl rfl rfl ?_
        refine C_skip (i := 23) rfl (by kernel_rfl) (fun _ _ _ h => h) rfl rfl rfl ?_
        refine C_skip (i := 24) rfl (by kernel_rfl) (fun _ _ _ h => h) rfl rfl rfl ?_
        refine C_skip (i := 25) rfl (by kernel_rfl) (fun _ _ _ h => h) rfl rfl rfl ?_
        refine C_skip (i := 26) rfl (by kernel_rfl) (fun _ _ _ h => h) rfl rfl rfl ?_
        refine C_take (i := 27) (v := .bool true) rfl (by kernel_rfl) (fun _ _ _ h => h) rfl rfl rfl (R_pure (by kernel_rfl)) ?_
        refine C_take (i := 28) (v := .bool true) rfl (by kernel_rfl) (fun _ _ _ h => h) rfl rfl rfl (R_pure (by kernel_rfl)) ?_
        refine C_skip (i := 29) rfl (by kernel_rfl) (fun _ _ _ h => h) rfl rfl rfl ?_
        refine C_skip (i := 30) rfl (by kernel_rfl) (fun _ _ _ h => h) rfl rfl rfl ?_
        refine C_skip (i := 31) rfl (by kernel_rfl) (fun _ _ _ h => h) rfl rfl rfl ?_
        refine C_skip (i := 32) rfl (by kernel_rfl) (fun _ _ _ h => h) rfl rfl rfl ?_
        refine C_skip (i := 33) rfl (by kernel_rfl) (fun _ _ _ h => h) rfl rfl rfl ?_
        refine C_skip (i := 34) rfl (by kernel_rfl) (fun _ _ _ h => h) rfl rfl rfl ?_
        refine C_skip (i := 35) rfl (by kernel_rfl) (fun _ _ _ h => h) rfl rfl rfl ?_
        refine C_take (i := 36) (v := .bool true) rfl (by kernel_rfl) (fun _ _ _ h => h) rfl rfl rfl (R_pure (by kernel_rfl)) ?_
        refine wpG_done (by kernel_rfl) ?_ _
        refine C_keepQ [(0, pt p1 0), (3, pt p5 0), (41, .bool true)] rfl fun b => ?_
        refine th_n ?_
        obtain rfl := Option.some.inj hr
        have hst := (((((((hst.pull 6).pull 6).pull 6).pull 6).pull 6).pull 6).pull 6)
        exact (kpX [(0, pt p1 0), (3, pt p5 0), (41, .bool true)] rfl hst)
      · have hr := (if_neg h).symm.trans hr
        refine C_keep ((19, .bool (x7.To != x1.id)) :: [(0, pt p1 0), (1, .agg #[I x7.Kind, I x7.From, I x7.To, I x7.Term, I x7.Index, I x7.LogTerm, I x7.Commit, .bool x7.OK, .slice a3 x7.Entries.length c3, S x7.Snap]), (3, pt p5 0), (5, pt p1 0), (6, pt p1 0), (7, pt p1 30), (8, I x1.broken), (9, .bool (x1.broken != 0)), (10, .bool false), (11, pt p5 2), (12, I x7.To), (13, pt p1 0), (14, pt p1 0), (15, pt p1 0), (16, I x1.id), (17, .bool (x7.To != x1.id)), (18, .bool (x7.To != x1.id))]) rfl fun b => ?_
        refine C_bool (eq_false_of_ne_true h) ?_
        refine C_take (i := 15) (v := pt p5 1) rfl (by kernel_rfl) (fun _ _ _ h => h) rfl rfl rfl (R_pure (by kernel_rfl)) ?_
        refine C_take (i := 16) (v := I x7.From) rfl (by kernel_rfl) (fun _ _ _ h => h) rfl rfl rfl (R_load hst rfl rfl) ?_
        refine C_take (i := 17) (v := .bool (decide (x7.From < 0))) rfl (by kernel_rfl) (fun _ _ _ h => h) rfl rfl rfl (R_pure (by kernel_rfl)) ?_
        refine C_take (i := 18) (v := .bool (decide (x7.From < 0))) rfl (by kernel_rfl) (fun _ _ _ h => h) rfl rfl rfl (R_pure (by kernel_rfl)) ?_
        refine C_take (i := 19) (v := .bool (decide (x7.From < 0))) rfl (by kernel_rfl) (fun _ _ _ h => h) rfl rfl rfl (R_pure (by kernel_rfl)) ?_
        by_cases h : (decide (x7.From < 0)) = true
        · have hr := (if_pos h).symm.trans hr
          refine C_keep ((24, .bool (decide (x7.From < 0))) :: [(0, pt p1 0), (1, .agg #[I x7.Kind, I x7.From, I x7.To, I x7.Term, I x7.Index, I x7.LogTerm, I x7.Commit, .bool x7.OK, .slice a3 x7.Entries.length c3, S x7.Snap]), (3, pt p5 0), (5, pt p1 0), (6, pt p1 0), (7, pt p1 30), (8, I x1.broken), (9, .bool (x1.broken != 0)), (10, .bool false), (11, pt p5 2), (12, I x7.To), (13, pt p1 0), (14, pt p1 0), (15, pt p1 0), (16, I x1.id), (17, .bool (x7.To != x1.id)), (18, .bool (x7.To != x1.id)), (19, .bool false), (20, pt p5 1), (21, I x7.From), (22, .bool (decide (x7.From < 0))), (23, .bool (decide (x7.From < 0)))]) rfl fun b => ?_
          refine C_bool h ?_
          refine C_skip (i := 20) rfl (by kernel_rfl) (fun _ _ _ h => h) rfl rfl rfl ?_
          refine C_skip (i := 21) rfl (by kernel_rfl) (fun _ _ _ h => h) rfl rfl rfl ?_
          refine C_skip (i := 22) rfl (by kernel_rfl) (fun _ _ _ h => h) rfl rfl rfl ?_
          refine C_skip (i := 23) rfl (by kernel_rfl) (fun _ _ _ h => h) rfl rfl rfl ?_
          refine C_skip (i := 24) rfl (by kernel_rfl) (fun _ _ _ h => h) rfl rfl rfl ?_
          refine C_skip (i := 25) rfl (by kernel_rfl) (fun _ _ _ h => h) rfl rfl rfl ?_
          refine C_skip (i := 26) rfl (by kernel_rfl) (fun _ _ _ h => h) rfl rfl rfl ?_
          refine C_take (i := 27) (v := .bool true) rfl (by kernel_rfl) (fun _ _ _ h => h) rfl rfl rfl (R_pure (by kernel_rfl)) ?_
          refine C_take (i := 28) (v := .bool true) rfl (by kernel_rfl) (fun _ _ _ h => h) rfl rfl rfl (R_pure (by kernel_rfl)) ?_
          refine C_skip (i := 29) rfl (by kernel_rfl) (fun _ _ _ h => h) rfl rfl rfl ?_
          refine C_skip (i := 30) rfl (by kernel_rfl) (fun _ _ _ h => h) rfl rfl rfl ?_
          refine C_skip (i := 31) rfl (by kernel_rfl) (fun _ _ _ h => h) rfl rfl rfl ?_
          refine C_skip (i := 32) rfl (by kernel_rfl) (fun _ _ _ h => h) rfl rfl rfl ?_
          refine C_skip (i := 33) rfl (by kernel_rfl) (fun _ _ _ h => h) rfl rfl rfl ?_
          refine C_skip (i := 34) rfl (by kernel_rfl) (fun _ _ _ h => h) rfl rfl rfl ?_
          refine C_skip (i := 35) rfl (by kernel_rfl) (fun _ _ _ h => h) rfl rfl rfl ?_
          refine C_take (i := 36) (v := .bool true) rfl (by kernel_rfl) (fun _ _ _ h => h) rfl rfl rfl (R_pure (by kernel_rfl)) ?_
          refine wpG_done (by kernel_rfl) ?_ _
          refine C_keepQ [(0, pt p1 0), (3, pt p5 0), (41, .bool true)] rfl fun b => ?_
          refine th_n ?_
          obtain rfl := Option.some.inj hr
          have hst := (((((((hst.pull 6).pull 6).pull 6).pull 6).pull 6).pull 6).pull 6)
          exact (kpX [(0, pt p1 0), (3, pt p5 0), (41, .bool true)] rfl hst)
        · have hr := (if_neg h).symm.trans hr
          refine C_keep ((24, .bool (decide (x7.From < 0))) :: [(0, pt p1 0), (1, .agg #[I x7.Kind, I x7.From, I x7.To, I x7.Term, I x7.Index, I x7.LogTerm, I x7.Commit, .bool x7.OK, .slice a3 x7.Entries.length c3, S x7.Snap]), (3, pt p5 0), (5, pt p1 0), (6, pt p1 0), (7, pt p1 30), (8, I x1.broken), (9, .bool (x1.broken != 0)), (10, .bool false), (11, pt p5 2), (12, I x7.To), (13, pt p1 0), (14, pt p1 0), (15, pt p1 0), (16, I x1.id), (17, .bool (x7.To != x1.id)), (18, .bool (x7.To != x1.id)), (19, .bool false), (20, pt p5 1), (21, I x7.From), (22, .bool (decide (x7.From < 0))), (23, .bool (decide (x7.From < 0)))]) rfl fun b => ?_
          refine C_bool (eq_false_of_ne_true h) ?_
          refine C_take (i := 20) (v := pt p5 1) rfl (by kernel_rfl) (fun _ _ _ h => h) rfl rfl rfl (R_pure (by kernel_rfl)) ?_
          refine C_take (i := 21) (v := I x7.From) rfl (by kernel_rfl) (fun _ _ _ h => h) rfl rfl rfl (R_load hst rfl rfl) ?_
          refine C_take (i := 22) (v := pt p1 0) rfl (by kernel_rfl) (fun _ _ _ h => h) rfl rfl rfl (R_pure (by kernel_rfl)) ?_
          refine C_take (i := 23) (v := pt p1 0) rfl (by kernel_rfl) (fun _ _ _ h => h) rfl rfl rfl (R_pure (by kernel_rfl)) ?_
          refine C_take (i := 24) (v := pt p1 1) rfl (by kernel_rfl) (fun _ _ _ h => h) rfl rfl rfl (R_pure (by kernel_rfl)) ?_
          refine C_take (i := 25) (v := I x1.n) rfl (by kernel_rfl) (fun _ _ _ h => h) rfl rfl rfl (R_load (hst.pull 1) rfl rfl) ?_
          refine C_take (i := 26) (v := .bool (decide (x7.From ≥ x1.n))) rfl (by kernel_rfl) (fun _ _ _ h => h) rfl rfl rfl (R_pure (by kernel_rfl)) ?_
          refine C_take (i := 27) (v := .bool (decide (x7.From ≥ x1.n))) rfl (by kernel_rfl) (fun _ _ _ h => h) rfl rfl rfl (R_pure (by kernel_rfl)) ?_
          refine C_take (i := 28) (v := .bool (decide (x7.From ≥ x1.n))) rfl (by kernel_rfl) (fun _ _ _ h => h) rfl rfl rfl (R_pure (by kernel_rfl)) ?_
          by_cases h : (decide (x7.From ≥ x1.n)) = true
          · have hr := (if_pos h).symm.trans hr
            refine C_keep ((33, .bool (decide (x7.From ≥ x1.n))) :: [(0, pt p1 0), (1, .agg #[I x7.Kind, I x7.From, I x7.To, I x7.Term, I x7.Index, I x7.LogTerm, I x7.Commit, .bool x7.OK, .slice a3 x7.Entries.length c3, S x7.Snap]), (3, pt p5 0), (5, pt p1 0), (6, pt p1 0), (7, pt p1 30), (8, I x1.broken), (9, .bool (x1.broken != 0)), (10, .bool false), (11, pt p5 2), (12, I x7.To), (13, pt p1 0), (14, pt p1 0), (15, pt p1 0), (16, I x1.id), (17, .bool (x7.To != x1.id)), (18, .bool (x7.To != x1.id)), (19, .bool false), (20, pt p5 1), (21, I x7.From), (22, .bool (decide (x7.From < 0))), (23, .bool (decide (x7.From < 0))), (24, .bool false), (25, pt p5 1), (26, I x7.From), (27, pt p1 0), (28, pt p1 0), (29, pt p1 1), (30, I x1.n), (31, .bool (decide (x7.From ≥ x1.n))), (32, .bool (decide (x7.From ≥ x1.n)))]) rfl fun b => ?_
            refine C_bool h ?_
            refine C_skip (i := 29) rfl (by kernel_rfl) (fun _ _ _ h => h) rfl rfl rfl ?_
            refine C_skip (i := 30) rfl (by kernel_rfl) (fun _ _ _ h => h) rfl rfl rfl ?_
            refine C_skip (i := 31) rfl (by kernel_rfl) (fun _ _ _ h => h) rfl rfl rfl ?_
            refine C_skip (i := 32) rfl (by kernel_rfl) (fun _ _ _ h => h) rfl rfl rfl ?_
            refine C_skip (i := 33) rfl (by kernel_rfl) (fun _ _ _ h => h) rfl rfl rfl ?_
            refine C_skip (i := 34) rfl (by kernel_rfl) (fun _ _ _ h => h) rfl rfl rfl ?_
            refine C_skip (i := 35) rfl (by kernel_rfl) (fun _ _ _ h => h) rfl rfl rfl ?_
            refine C_take (i := 36) (v := .bool true) rfl (by kernel_rfl) (fun _ _ _ h => h) rfl rfl rfl (R_pure (by kernel_rfl)) ?_
            refine wpG_done (by kernel_rfl) ?_ _
            refine C_keepQ [(0, pt p1 0), (3, pt p5 0), (41, .bool true)] rfl fun b => ?_
            refine th_n ?_
            obtain rfl := Option.some.inj hr
            have hst := (((((((hst.pull 6).pull 6).pull 6).pull 6).pull 6).pull 6).pull 6)
            exact (kpX [(0, pt p1 0), (3, pt p5 0), (41, .bool true)] rfl hst)
          · have hr := (if_neg h).symm.trans hr
            refine C_keep ((33, .bool (decide (x7.From ≥ x1.n))) :: [(0, pt p1 0), (1, .agg #[I x7.Kind, I x7.From, I x7.To, I x7.Term, I x7.Index, I x7.LogTerm, I x7.Commit, .bool x7.OK, .slice a3 x7.Entries.length c3, S x7.Snap]), (3, pt p5 0), (5, pt p1 0), (6, pt p1 0), (7, pt p1 30), (8, I x1.broken), (9, .bool (x1.broken != 0)), (10, .bool false), (11, pt p5 2), (12, I x7.To), (13, pt p1 0), (14, pt p1 0), (15, pt p1 0), (16, I x1.id), (17, .bool (x7.To != x1.id)), (18, .bool (x7.To != x1.id)), (19, .bool false), (20, pt p5 1), (21, I x7.From), (22, .bool (decide (x7.From < 0))), (23, .bool (decide (x7.From < 0))), (24, .bool false), (25, pt p5 1), (26, I x7.From), (27, pt p1 0), (28, pt p1 0), (29, pt p1 1), (30, I x1.n), (31, .bool (decide (x7.From ≥ x1.n))), (32, .bool (decide (x7.From ≥ x1.n)))]) rfl fun b => ?_
            refine C_bool (eq_false_of_ne_true h) ?_
            refine C_take (i := 29) (v := pt p5 1) rfl (by kernel_rfl) (fun _ _ _ h => h) rfl rfl rfl (R_pure (by kernel_rfl)) ?_
            refine C_take (i := 30) (v := I x7.From) rfl (by kernel_rfl) (fun _ _ _ h => h) rfl rfl rfl (R_load hst rfl rfl) ?_
            refine C_take (i := 31) (v := pt p1 0) rfl (by kernel_rfl) (fun _ _ _ h => h) rfl rfl rfl (R_pure (by kernel_rfl)) ?_
            refine C_take (i := 32) (v := pt p1 0) rfl (by kernel_rfl) (fun _ _ _ h => h) rfl rfl rfl (R_pure (by kernel_rfl)) ?_
            refine C_take (i := 33) (v := pt p1 0) rfl (by kernel_rfl) (fun _ _ _ h => h) rfl rfl rfl (R_pure (by kernel_rfl)) ?_
            refine C_take (i := 34) (v := I x1.id) rfl (by kernel_rfl) (fun _ _ _ h => h) rfl rfl rfl (R_load (hst.pull 1) rfl rfl) ?_
            refine C_take (i := 35) (v := .bool (x7.From == x1.id)) rfl (by kernel_rfl) (fun _ _ _ h => h) rfl rfl rfl (R_pure (by kernel_rfl)) ?_
            refine C_take (i := 36) (v := .bool (x7.From == x1.id)) rfl (by kernel_rfl) (fun _ _ _ h => h) rfl rfl rfl (R_pure (by kernel_rfl)) ?_
            refine wpG_done (by kernel_rfl) ?_ _
            refine C_keepQ [(0, pt p1 0), (3, pt p5 0), (41, .bool (x7.From == x1.id))] rfl fun b => ?_
            refine th_n ?_
            obtain rfl := Option.some.inj hr
            have hst := (((((((hst.pull 6).pull 6).pull 6).pull 6).pull 6).pull 6).pull 6)
            exact (kpX [(0, pt p1 0), (3, pt p5 0), (41, .bool (x7.From == x1.id))] rfl hst)
def glacierlaw01_Cut (_k : Nat) (x1 : (List UInt8)) (x2 : Int) : Option ((List UInt8)) := (if decide ((x1.length : Int) > x2) = true then (Option.bind (sl x1 0 x2) fun x4 => some (x4)) else some (x1))
set_option maxRecDepth 100000 in
set_option maxHeartbeats 4000000 in
theorem glacierlaw01_Cut_ok {G w : World} {F : List HP} {R : Ending → World → Prop} (k : Nat) (x1 : (List UInt8)) (x2 : Int) (r : ((List UInt8))) (hst : St G w (F)) (hr : glacierlaw01_Cut k x1 x2 = some r)
    (hR : ∀ w', St G w' (F) → R (.returned (S r)) w') :
    Calls Tryz.prog 21 #[S x1, I x2] w R := by
  unfold glacierlaw01_Cut at hr
  refine enter Tryz.func21 rfl [(0, S x1), (1, I x2)] rfl rfl fun b => ?_
  refine wp_seq ?_
  refine wp_reg ?_
  refine L_pure 1 [(0, S x1), (1, I x2)] (by kernel_rfl) fun b => ?_
  refine wpL_nil ?_
  refine th_n ?_
  refine wp_seq ?_
  refine wp_seq ?_
  refine wp_reg ?_
  refine L_pure 4 [(0, S x1), (1, I x2), (8, .bool (decide ((x1.length : Int) > x2)))] (by kernel_rfl) fun b => ?_
  refine wpL_nil ?_
  refine th_n ?_
  refine wp_cond_mkF (t := decide ((x1.length : Int) > x2)) rfl (fun h => ?_) (fun h => ?_)
  · have hr := (if_pos h).symm.trans hr
    refine wp_seq ?_
    refine wp_reg ?_
    refine L_pure 2 [(9, S x1), (10, I x2)] (by kernel_rfl) fun b => ?_
    obtain ⟨x4, hx2, hr⟩ := bnd hr
    refine L_op rfl (O_run (v := S x4) (w' := w) (R_slice_s Tryz.underlying9 rfl rfl rfl hx2) rfl rfl ?_)
    refine L_pure 1 [(4, S x4)] (by kernel_rfl) fun b => ?_
    refine wpL_nil ?_
    refine th_n ?_
    refine wp_ret ?_
    refine th_r ?_
    refine ret1 rfl rfl ?_
    obtain rfl := Option.some.inj hr
    exact hR _ hst
  · have hr := (if_neg (by rw [h]; exact Bool.false_ne_true)).symm.trans hr
    refine wp_skip ?_
    refine th_n ?_
    refine wp_seq ?_
    refine wp_reg ?_
    refine L_pure 2 [(4, S x1)] (by kernel_rfl) fun b => ?_
    refine wpL_nil ?_
    refine th_n ?_
    refine wp_ret ?_
    refine ret1 rfl rfl ?_
    obtain rfl := Option.some.inj hr
    exact hR _ hst
def raft_Node_Take (_k : Nat) (x1 : T_raft_Node) (_x2 : Int) (_x3 : Int) (_x4 : Bool) (_x5 : Int) (_x6 : (List ((List UInt8) × (Option T_platter_file)))) : Option ((List T_raft_Msg) × T_raft_Node) := some (x1.out, (T_raft_Node.mk x1.id x1.n x1.st x1.role x1.leader x1.commit x1.applied x1.timer x1.votes x1.next x1.match_ ([]) x1.broken))
set_option maxRecDepth 100000 in
set_option maxHeartbeats 4000000 in
theorem raft_Node_Take_ok {G w : World} {F : List HP} {R : Ending → World → Prop} (k : Nat) (x1 : T_raft_Node) (x2 : Int) (x3 : Int) (x4 : Bool) (x5 : Int) (x6 : (List ((List UInt8) × (Option T_platter_file)))) (p1 : Nat) (p2 : Nat) (p3 : Nat) (a1 : Option Addr) (c1 : Nat) (a2 : Option Addr) (c2 : Nat) (r : ((List T_raft_Msg) × T_raft_Node)) (hst : St G w (blk p1 (cl [I x1.id, I x1.n, pt p2 0, I x1.st.Term, I x1.st.Vote, I x1.st.Base, I x1.st.BaseTerm, S x1.st.Snap, .slice a1 x1.st.Log.length c1, I x1.role, I x1.leader, I x1.commit, I x1.applied, I x1.timer, .bool (x1.votes 0), .bool (x1.votes 1), .bool (x1.votes 2), .bool (x1.votes 3), .bool (x1.votes 4), I (x1.next 0), I (x1.next 1), I (x1.next 2), I (x1.next 3), I (x1.next 4), I (x1.match_ 0), I (x1.match_ 1), I (x1.match_ 2), I (x1.match_ 3), I (x1.match_ 4), .slice a2 x1.out.length c2, I x1.broken] 66) :: blk p2 (cl [I x2, I x3, .bool x4, I x5, .map (some p3)] 79) :: mpr S (rPt r_T_platter_file) p3 x6 :: osl r_T_term_Entry 48 a1 c1 x1.st.Log :: osl r_T_raft_Msg 39 a2 c2 x1.out :: F)) (hr : raft_Node_Take k x1 x2 x3 x4 x5 x6 = some r)
    (hR : ∀ (a3 : Option Addr) (c3 : Nat) (a4 : Option Addr) (c4 : Nat) (a5 : Option Addr) (c5 : Nat) w', St G w' (osl r_T_raft_Msg 39 a3 c3 r.1 :: osl r_T_term_Entry 48 a4 c4 r.2.st.Log :: osl r_T_raft_Msg 39 a5 c5 r.2.out :: blk p1 (cl [I r.2.id, I r.2.n, pt p2 0, I r.2.st.Term, I r.2.st.Vote, I r.2.st.Base, I r.2.st.BaseTerm, S r.2.st.Snap, .slice a4 r.2.st.Log.length c4, I r.2.role, I r.2.leader, I r.2.commit, I r.2.applied, I r.2.timer, .bool (r.2.votes 0), .bool (r.2.votes 1), .bool (r.2.votes 2), .bool (r.2.votes 3), .bool (r.2.votes 4), I (r.2.next 0), I (r.2.next 1), I (r.2.next 2), I (r.2.next 3), I (r.2.next 4), I (r.2.match_ 0), I (r.2.match_ 1), I (r.2.match_ 2), I (r.2.match_ 3), I (r.2.match_ 4), .slice a5 r.2.out.length c5, I r.2.broken] 66) :: blk p2 (cl [I x2, I x3, .bool x4, I x5, .map (some p3)] 79) :: mpr S (rPt r_T_platter_file) p3 x6 :: F) → R (.returned (.slice a3 r.1.length c3)) w') :
    Calls Tryz.prog 13 #[pt p1 0] w R := by
  unfold raft_Node_Take at hr
  refine enter Tryz.func13 rfl [(0, pt p1 0)] rfl rfl fun b => ?_
  refine wp_seq ?_
  refine wp_reg ?_
  refine L_pure 1 [(0, pt p1 0)] (by kernel_rfl) fun b => ?_
  refine wpL_nil ?_
  refine th_n ?_
  refine wp_seq ?_
  refine wp_reg ?_
  refine L_pure 3 [(0, pt p1 0), (6, pt p1 29)] (by kernel_rfl) fun b => ?_
  refine L_op rfl (O_run (v := .slice a2 x1.out.length c2) (w' := w) (R_load hst rfl rfl) rfl rfl ?_)
  refine L_pure 1 [(0, pt p1 0), (3, .slice a2 x1.out.length c2)] (by kernel_rfl) fun b => ?_
  refine wpL_nil ?_
  refine th_n ?_
  refine wp_seq ?_
  refine wp_reg ?_
  refine L_pure 3 [(3, .slice a2 x1.out.length c2), (10, pt p1 29)] (by kernel_rfl) fun b => ?_
  refine L_op rfl (O_store [I x1.id, I x1.n, pt p2 0, I x1.st.Term, I x1.st.Vote, I x1.st.Base, I x1.st.BaseTerm, S x1.st.Snap, .slice a1 x1.st.Log.length c1, I x1.role, I x1.leader, I x1.commit, I x1.applied, I x1.timer, .bool (x1.votes 0), .bool (x1.votes 1), .bool (x1.votes 2), .bool (x1.votes 3), .bool (x1.votes 4), I (x1.next 0), I (x1.next 1), I (x1.next 2), I (x1.next 3), I (x1.next 4), I (x1.match_ 0), I (x1.match_ 1), I (x1.match_ 2), I (x1.match_ 3), I (x1.match_ 4), .slice none 0 0, I x1.broken] hst rfl rfl (by kernel_rfl) fun w hst => ?_)
  refine wpL_nil ?_
  refine th_n ?_
  refine wp_seq ?_
  refine wp_reg ?_
  refine L_pure 2 [(2, .slice a2 x1.out.length c2)] (by kernel_rfl) fun b => ?_
  refine wpL_nil ?_
  refine th_n ?_
  refine wp_ret ?_
  refine ret1 rfl rfl ?_
  obtain rfl := Option.some.inj hr
  have hst := osl_nil r_T_raft_Msg 39 hst
  have hst := ((((((hst.pull 3).pull 3).pull 3).pull 3).pull 4).pull 5)
  exact hR a2 c2 a1 c1 none 0 _ hst
def glacierlaw10_leader_l1 (k : Nat) (y15 : (Int × Int × Bool × Int × (List ((List UInt8) × (Option T_platter_file))) × (List T_glacierref09_Entry) × T_glacierref09_State)) : Nat → Int → T_raft_Node → Int → Int → (List ((List UInt8) × (Option T_platter_file))) → Option (T_raft_Node × Int × Int × (List ((List UInt8) × (Option T_platter_file))))
  | 0, _, _, _, _, _ => none
  | j + 1, v36, v37, v38, v39, v40 => (if decide (v36 < 4) = true then (Option.bind (raft_Node_Tick k v37 y15.1 v38 y15.2.2.1 v39 v40) fun y19 => (glacierlaw10_leader_l1 k y15 j (IntKind.i64.wrap (v36 + 1)) y19.1 y19.2.1 y19.2.2.1 y19.2.2.2)) else some (v37, v38, v39, v40))
def glacierlaw10_leader_l2 (k : Nat) (x2 : Int) (y15 : (Int × Int × Bool × Int × (List ((List UInt8) × (Option T_platter_file))) × (List T_glacierref09_Entry) × T_glacierref09_State)) : Nat → Int → T_raft_Node → Int → Int → (List ((List UInt8) × (Option T_platter_file))) → Option (T_raft_Node × Int × Int × (List ((List UInt8) × (Option T_platter_file))))
  | 0, _, _, _, _, _ => none
  | j + 1, v46, v47, v48, v49, v50 => (if decide (v46 < x2) = true then (Option.bind (raft_Node_Term k v47 y15.1 v48 y15.2.2.1 v49 v50) fun y21 => (Option.bind (raft_Node_Step k v47 y15.1 v48 y15.2.2.1 v49 v50 (T_raft_Msg.mk 2 v46 0 y21 0 0 0 true ([]) ([]))) fun y22 => (glacierlaw10_leader_l2 k x2 y15 j (IntKind.i64.wrap (v46 + 1)) y22.1 y22.2.1 y22.2.2.1 y22.2.2.2))) else some (v47, v48, v49, v50))
def glacierlaw10_leader_l3 (k : Nat) (x3 : (List (List UInt8))) (y15 : (Int × Int × Bool × Int × (List ((List UInt8) × (Option T_platter_file))) × (List T_glacierref09_Entry) × T_glacierref09_State)) : Nat → Int → T_raft_Node → Int → Int → (List ((List UInt8) × (Option T_platter_file))) → Option (Flow (T_raft_Node × Int × Int × Bool × Int × (List ((List UInt8) × (Option T_platter_file)))) (T_raft_Node × Int × Int × (List ((List UInt8) × (Option T_platter_file)))))
  | 0, _, _, _, _, _ => none
  | j + 1, v56, v57, v58, v59, v60 => (Option.bind (if decide (v56 < (x3.length : Int)) = true then some (decide (v56 < 6)) else some (false)) fun y25 => (if y25 = true then (Option.bind (gt x3 v56) fun x5 => (Option.bind (glacierlaw01_Cut k x5 20) fun y26 => (Option.bind (raft_Node_Propose k v57 y15.1 v58 y15.2.2.1 v59 v60 y26) fun y27 => (if (y27.2.2.1 != 0) = true then none else (glacierlaw10_leader_l3 k x3 y15 j (IntKind.i64.wrap (v56 + 1)) y27.2.2.2.1 y27.2.2.2.2.1 y27.2.2.2.2.2.1 y27.2.2.2.2.2.2))))) else some (Flow.go (v57, v58, v59, v60))))
def glacierlaw10_leader (k : Nat) (x1 : T_glacierlaw10_Start) (x2 : Int) (x3 : (List (List UInt8))) : Option (T_raft_Node × Int × Int × Bool × Int × (List ((List UInt8) × (Option T_platter_file)))) := (Option.bind (glacierlaw10_Kept k (T_glacierlaw10_Start.mk x1.Term x1.Vote x1.Base x1.Terms)) fun y15 => (Option.bind (raft_Open k y15.1 y15.2.1 y15.2.2.1 y15.2.2.2.1 y15.2.2.2.2.1 0 x2) fun y16 => (Option.bind (if (y16.2.1 != 0) = true then some (true) else some (false)) fun y17 => (if y17 = true then none else (Option.bind (glacierlaw10_leader_l1 k y15 k (0 : Int) y16.1 y16.2.2.1 y16.2.2.2.1 y16.2.2.2.2) fun y18 => (Option.bind (glacierlaw10_leader_l2 k x2 y15 k (1 : Int) y18.1 y18.2.1 y18.2.2.1 y18.2.2.2) fun y20 => (Option.bind (raft_Node_Role k y20.1 y15.1 y20.2.1 y15.2.2.1 y20.2.2.1 y20.2.2.2) fun y23 => (if (y23 != 2) = true then none else (Option.bind (glacierlaw10_leader_l3 k x3 y15 k (0 : Int) y20.1 y20.2.1 y20.2.2.1 y20.2.2.2) fun y24 => (match y24 with | Flow.ret r => some r | Flow.go z2 => (Option.bind (raft_Node_Take k z2.1 y15.1 z2.2.1 y15.2.2.1 z2.2.2.1 z2.2.2.2) fun y28 => some (y28.2, y15.1, z2.2.1, y15.2.2.1, z2.2.2.1, z2.2.2.2))))))))))))
set_option maxRecDepth 100000 in
set_option maxHeartbeats 4000000 in
theorem glacierlaw10_leader_ok {G w : World} {F : List HP} {R : Ending → World → Prop} (k : Nat) (x1 : T_glacierlaw10_Start) (x2 : Int) (x3 : (List (List UInt8))) (a1 : Option Addr) (c1 : Nat) (a2 : Option Addr) (c2 : Nat) (r : (T_raft_Node × Int × Int × Bool × Int × (List ((List UInt8) × (Option T_platter_file))))) (hst : St G w (dsl (rI .i64) a1 c1 x1.Terms :: dsl rS a2 c2 x3 :: F)) (hr : glacierlaw10_leader k x1 x2 x3 = some r)
    (hR : ∀ (p6 : Nat) (p7 : Nat) (p8 : Nat) (a33 : Option Addr) (c33 : Nat) (a34 : Option Addr) (c34 : Nat) w', St G w' (osl r_T_term_Entry 48 a33 c33 r.1.st.Log :: osl r_T_raft_Msg 39 a34 c34 r.1.out :: blk p6 (cl [I r.1.id, I r.1.n, pt p7 0, I r.1.st.Term, I r.1.st.Vote, I r.1.st.Base, I r.1.st.BaseTerm, S r.1.st.Snap, .slice a33 r.1.st.Log.length c33, I r.1.role, I r.1.leader, I r.1.commit, I r.1.applied, I r.1.timer, .bool (r.1.votes 0), .bool (r.1.votes 1), .bool (r.1.votes 2), .bool (r.1.votes 3), .bool (r.1.votes 4), I (r.1.next 0), I (r.1.next 1), I (r.1.next 2), I (r.1.next 3), I (r.1.next 4), I (r.1.match_ 0), I (r.1.match_ 1), I (r.1.match_ 2), I (r.1.match_ 3), I (r.1.match_ 4), .slice a34 r.1.out.length c34, I r.1.broken] 66) :: blk p7 (cl [I r.2.1, I r.2.2.1, .bool r.2.2.2.1, I r.2.2.2.2.1, .map (some p8)] 79) :: mpr S (rPt r_T_platter_file) p8 r.2.2.2.2.2 :: dsl (rI .i64) a1 c1 x1.Terms :: dsl rS a2 c2 x3 :: F) → R (.returned (pt p6 0)) w') :
    Calls Tryz.prog 6 #[.agg #[I x1.Term, I x1.Vote, I x1.Base, .slice a1 x1.Terms.length c1], I x2, .slice a2 x3.length c2] w R := by
  unfold glacierlaw10_leader at hr
  refine enter Tryz.func6 rfl [(0, .agg #[I x1.Term, I x1.Vote, I x1.Base, .slice a1 x1.Terms.length c1]), (1, I x2), (2, .slice a2 x3.length c2)] rfl rfl fun b => ?_
  refine wp_seq ?_
  refine wp_reg ?_
  refine L_op rfl (O_box [I x1.Term, I x1.Vote, I x1.Base, .slice a1 x1.Terms.length c1] hst rfl rfl fun p9 w hst => ?_)
  refine L_pure 1 [(1, I x2), (2, .slice a2 x3.length c2), (3, pt p9 0)] (by kernel_rfl) fun b => ?_
  refine wpL_nil ?_
  refine th_n ?_
  refine wp_seq ?_
  refine wp_reg ?_
  refine L_op rfl (O_run (v := .agg #[I x1.Term, I x1.Vote, I x1.Base, .slice a1 x1.Terms.length c1]) (w' := w) (R_load hst rfl rfl) rfl rfl ?_)
  obtain ⟨y15, hy15, hr⟩ := bnd hr
  refine L_op rfl (O_call (vs := #[.agg #[I x1.Term, I x1.Vote, I x1.Base, .slice a1 x1.Terms.length c1]]) Tryz.call7 (by kernel_rfl) (glacierlaw10_Kept_ok k (T_glacierlaw10_Start.mk x1.Term x1.Vote x1.Base x1.Terms) a1 c1 y15 (hst.pull 1) hy15 fun p10 p11 a35 c35 w hst => ?_))
  refine CK_ret rfl ?_
  refine L_pure 3 [(1, I x2), (2, .slice a2 x3.length c2), (20, pt p10 0), (21, .agg #[I y15.2.2.2.2.2.2.Term, I y15.2.2.2.2.2.2.Vote, I y15.2.2.2.2.2.2.Base, I y15.2.2.2.2.2.2.BaseTerm, S y15.2.2.2.2.2.2.Snap, .slice a35 y15.2.2.2.2.2.1.length c35])] (by kernel_rfl) fun b => ?_
  refine L_op rfl (O_alloc (i := Tryz.t32) (z := .agg #[I 0, I 0, I 0, I 0, S ([]), .slice none 0 0]) [I 0, I 0, I 0, I 0, S ([]), .slice none 0 0] hst rfl rfl rfl rfl fun p12 w hst => ?_)
  refine L_pure 1 [(1, I x2), (2, .slice a2 x3.length c2), (7, pt p10 0), (8, pt p12 0), (21, .agg #[I y15.2.2.2.2.2.2.Term, I y15.2.2.2.2.2.2.Vote, I y15.2.2.2.2.2.2.Base, I y15.2.2.2.2.2.2.BaseTerm, S y15.2.2.2.2.2.2.Snap, .slice a35 y15.2.2.2.2.2.1.length c35])] (by kernel_rfl) fun b => ?_
  refine L_op rfl (O_store [I y15.2.2.2.2.2.2.Term, I y15.2.2.2.2.2.2.Vote, I y15.2.2.2.2.2.2.Base, I y15.2.2.2.2.2.2.BaseTerm, S y15.2.2.2.2.2.2.Snap, .slice a35 y15.2.2.2.2.2.1.length c35] hst rfl rfl (by kernel_rfl) fun w hst => ?_)
  refine wpL_nil ?_
  refine th_n ?_
  refine wp_seq ?_
  refine wp_reg ?_
  refine L_pure 2 [(1, I x2), (2, .slice a2 x3.length c2), (23, pt p10 0), (24, I x2)] (by kernel_rfl) fun b => ?_
  obtain ⟨y16, hy16, hr⟩ := bnd hr
  refine L_op rfl (O_call (vs := #[pt p10 0, I 0, I x2]) Tryz.call16 (by kernel_rfl) (raft_Open_ok k y15.1 y15.2.1 y15.2.2.1 y15.2.2.2.1 y15.2.2.2.2.1 0 x2 p10 p11 y16 ((hst.pull 3).pull 3) hy16 fun p13 a36 c36 a37 c37 w hst => ?_))
  refine CK_ret rfl ?_
  refine L_pure 5 [(1, I x2), (2, .slice a2 x3.length c2), (9, pt p13 0), (10, I y16.2.1)] (by kernel_rfl) fun b => ?_
  refine wpL_nil ?_
  refine th_n ?_
  refine wp_seq ?_
  obtain ⟨y17, hy17, hk6⟩ := bnd hr
  clear hr
  refine wp_seq_cut (fun a w => ∃ (b : Nat → Value), a = mkF 80 b [(1, I x2), (2, .slice a2 x3.length c2), (9, pt p13 0), (33, .bool y17)] ∧ St G w (osl r_T_term_Entry 48 a36 c36 y16.1.st.Log :: osl r_T_raft_Msg 39 a37 c37 y16.1.out :: blk p13 (cl [I y16.1.id, I y16.1.n, pt p10 0, I y16.1.st.Term, I y16.1.st.Vote, I y16.1.st.Base, I y16.1.st.BaseTerm, S y16.1.st.Snap, .slice a36 y16.1.st.Log.length c36, I y16.1.role, I y16.1.leader, I y16.1.commit, I y16.1.applied, I y16.1.timer, .bool (y16.1.votes 0), .bool (y16.1.votes 1), .bool (y16.1.votes 2), .bool (y16.1.votes 3), .bool (y16.1.votes 4), I (y16.1.next 0), I (y16.1.next 1), I (y16.1.next 2), I (y16.1.next 3), I (y16.1.next 4), I (y16.1.match_ 0), I (y16.1.match_ 1), I (y16.1.match_ 2), I (y16.1.match_ 3), I (y16.1.match_ 4), .slice a37 y16.1.out.length c37, I y16.1.broken] 66) :: blk p10 (cl [I y15.1, I y16.2.2.1, .bool y15.2.2.1, I y16.2.2.2.1, .map (some p11)] 79) :: mpr S (rPt r_T_platter_file) p11 y16.2.2.2.2 :: blk p12 (cl [I y15.2.2.2.2.2.2.Term, I y15.2.2.2.2.2.2.Vote, I y15.2.2.2.2.2.2.Base, I y15.2.2.2.2.2.2.BaseTerm, S y15.2.2.2.2.2.2.Snap, .slice a35 y15.2.2.2.2.2.1.length c35] 32) :: osl r_T_glacierref09_Entry 59 a35 c35 y15.2.2.2.2.2.1 :: dsl (rI .i64) a1 c1 x1.Terms :: blk p9 (cl [I x1.Term, I x1.Vote, I x1.Base, .slice a1 x1.Terms.length c1] 24) :: dsl rS a2 c2 x3 :: F)) ?_ ?_
  · rintro _ w ⟨b, rfl, hst⟩
    have hr := hk6
    refine wp_cond_mkF (t := y17) rfl (fun h => ?_) (fun h => ?_)
    · have hr := (if_pos h).symm.trans hr
      refine wp_seq ?_
      refine wp_reg ?_
      refine L_pure 1 [(6, .pointer none)] (by kernel_rfl) fun b => ?_
      refine wpL_nil ?_
      refine th_n ?_
      refine wp_ret ?_
      refine th_r ?_
      cases hr
    · have hr := (if_neg (by rw [h]; exact Bool.false_ne_true)).symm.trans hr
      refine wp_skip ?_
      refine th_n ?_
      refine wp_seq ?_
      refine wp_seq ?_
      refine wp_reg ?_
      refine L_pure 1 [(1, I x2), (2, .slice a2 x3.length c2), (9, pt p13 0), (11, I 0)] (by kernel_rfl) fun b => ?_
      refine wpL_nil ?_
      refine th_n ?_
      obtain ⟨y18, hy18, hk7⟩ := bnd hr
      clear hr
      refine Go.Hx.wp_cut (fun a w => ∃ (a42 : Option Addr) (c42 : Nat) (a43 : Option Addr) (c43 : Nat)(b : Nat → Value), a = mkF 80 b [(1, I x2), (2, .slice a2 x3.length c2), (9, pt p13 0)] ∧ St G w (osl r_T_term_Entry 48 a42 c42 y18.1.st.Log :: osl r_T_raft_Msg 39 a43 c43 y18.1.out :: blk p13 (cl [I y18.1.id, I y18.1.n, pt p10 0, I y18.1.st.Term, I y18.1.st.Vote, I y18.1.st.Base, I y18.1.st.BaseTerm, S y18.1.st.Snap, .slice a42 y18.1.st.Log.length c42, I y18.1.role, I y18.1.leader, I y18.1.commit, I y18.1.applied, I y18.1.timer, .bool (y18.1.votes 0), .bool (y18.1.votes 1), .bool (y18.1.votes 2), .bool (y18.1.votes 3), .bool (y18.1.votes 4), I (y18.1.next 0), I (y18.1.next 1), I (y18.1.next 2), I (y18.1.next 3), I (y18.1.next 4), I (y18.1.match_ 0), I (y18.1.match_ 1), I (y18.1.match_ 2), I (y18.1.match_ 3), I (y18.1.match_ 4), .slice a43 y18.1.out.length c43, I y18.1.broken] 66) :: blk p10 (cl [I y15.1, I y18.2.1, .bool y15.2.2.1, I y18.2.2.1, .map (some p11)] 79) :: mpr S (rPt r_T_platter_file) p11 y18.2.2.2 :: blk p12 (cl [I y15.2.2.2.2.2.2.Term, I y15.2.2.2.2.2.2.Vote, I y15.2.2.2.2.2.2.Base, I y15.2.2.2.2.2.2.BaseTerm, S y15.2.2.2.2.2.2.Snap, .slice a35 y15.2.2.2.2.2.1.length c35] 32) :: osl r_T_glacierref09_Entry 59 a35 c35 y15.2.2.2.2.2.1 :: dsl (rI .i64) a1 c1 x1.Terms :: blk p9 (cl [I x1.Term, I x1.Vote, I x1.Base, .slice a1 x1.Terms.length c1] 24) :: dsl rS a2 c2 x3 :: F)) ?_ ?_
      · rintro _ w ⟨a42, c42, a43, c43, b, rfl, hst⟩
        have hr := hk7
        refine th_n ?_
        refine wp_seq ?_
        refine wp_seq ?_
        refine wp_reg ?_
        refine L_pure 1 [(1, I x2), (2, .slice a2 x3.length c2), (9, pt p13 0), (12, I 1)] (by kernel_rfl) fun b => ?_
        refine wpL_nil ?_
        refine th_n ?_
        obtain ⟨y20, hy20, hk8⟩ := bnd hr
        clear hr
        refine Go.Hx.wp_cut (fun a w => ∃ (a50 : Option Addr) (c50 : Nat) (a51 : Option Addr) (c51 : Nat)(b : Nat → Value), a = mkF 80 b [(2, .slice a2 x3.length c2), (9, pt p13 0)] ∧ St G w (osl r_T_term_Entry 48 a50 c50 y20.1.st.Log :: osl r_T_raft_Msg 39 a51 c51 y20.1.out :: blk p13 (cl [I y20.1.id, I y20.1.n, pt p10 0, I y20.1.st.Term, I y20.1.st.Vote, I y20.1.st.Base, I y20.1.st.BaseTerm, S y20.1.st.Snap, .slice a50 y20.1.st.Log.length c50, I y20.1.role, I y20.1.leader, I y20.1.commit, I y20.1.applied, I y20.1.timer, .bool (y20.1.votes 0), .bool (y20.1.votes 1), .bool (y20.1.votes 2), .bool (y20.1.votes 3), .bool (y20.1.votes 4), I (y20.1.next 0), I (y20.1.next 1), I (y20.1.next 2), I (y20.1.next 3), I (y20.1.next 4), I (y20.1.match_ 0), I (y20.1.match_ 1), I (y20.1.match_ 2), I (y20.1.match_ 3), I (y20.1.match_ 4), .slice a51 y20.1.out.length c51, I y20.1.broken] 66) :: blk p10 (cl [I y15.1, I y20.2.1, .bool y15.2.2.1, I y20.2.2.1, .map (some p11)] 79) :: mpr S (rPt r_T_platter_file) p11 y20.2.2.2 :: blk p12 (cl [I y15.2.2.2.2.2.2.Term, I y15.2.2.2.2.2.2.Vote, I y15.2.2.2.2.2.2.Base, I y15.2.2.2.2.2.2.BaseTerm, S y15.2.2.2.2.2.2.Snap, .slice a35 y15.2.2.2.2.2.1.length c35] 32) :: osl r_T_glacierref09_Entry 59 a35 c35 y15.2.2.2.2.2.1 :: dsl (rI .i64) a1 c1 x1.Terms :: blk p9 (cl [I x1.Term, I x1.Vote, I x1.Base, .slice a1 x1.Terms.length c1] 24) :: dsl rS a2 c2 x3 :: F)) ?_ ?_
        · rintro _ w ⟨a50, c50, a51, c51, b, rfl, hst⟩
          have hr := hk8
          refine th_n ?_
          refine wp_seq ?_
          refine wp_seq ?_
          refine wp_reg ?_
          refine L_pure 1 [(2, .slice a2 x3.length c2), (9, pt p13 0), (51, pt p13 0)] (by kernel_rfl) fun b => ?_
          obtain ⟨y23, hy23, hr⟩ := bnd hr
          refine L_op rfl (O_call (vs := #[pt p13 0]) Tryz.call18 (by kernel_rfl) (raft_Node_Role_ok k y20.1 y15.1 y20.2.1 y15.2.2.1 y20.2.2.1 y20.2.2.2 p13 p10 p11 a50 c50 a51 c51 y23 (((((hst.pull 1).pull 1).pull 4).pull 4).pull 4) hy23 fun w hst => ?_))
          refine CK_ret rfl ?_
          refine L_pure 1 [(2, .slice a2 x3.length c2), (9, pt p13 0), (53, .bool (y23 != 2))] (by kernel_rfl) fun b => ?_
          refine wpL_nil ?_
          refine th_n ?_
          refine wp_cond_mkF (t := (y23 != 2)) rfl (fun h => ?_) (fun h => ?_)
          · have hr := (if_pos h).symm.trans hr
            refine wp_seq ?_
            refine wp_reg ?_
            refine L_pure 1 [(6, .pointer none)] (by kernel_rfl) fun b => ?_
            refine wpL_nil ?_
            refine th_n ?_
            refine wp_ret ?_
            refine th_r ?_
            cases hr
          · have hr := (if_neg (by rw [h]; exact Bool.false_ne_true)).symm.trans hr
            refine wp_skip ?_
            refine th_n ?_
            refine wp_seq ?_
            refine wp_seq ?_
            refine wp_reg ?_
            refine L_pure 1 [(2, .slice a2 x3.length c2), (9, pt p13 0), (13, I 0)] (by kernel_rfl) fun b => ?_
            refine wpL_nil ?_
            refine th_n ?_
            obtain ⟨y24, hy24, hk9⟩ := bnd hr
            clear hr
            refine Go.Hx.wp_cut (fun a w => ∃ (z2 : T_raft_Node × Int × Int × (List ((List UInt8) × (Option T_platter_file)))) (a58 : Option Addr) (c58 : Nat) (a59 : Option Addr) (c59 : Nat)(b : Nat → Value), y24 = .go z2 ∧ a = mkF 80 b [(9, pt p13 0)] ∧ St G w (osl r_T_term_Entry 48 a58 c58 z2.1.st.Log :: osl r_T_raft_Msg 39 a59 c59 z2.1.out :: blk p13 (cl [I z2.1.id, I z2.1.n, pt p10 0, I z2.1.st.Term, I z2.1.st.Vote, I z2.1.st.Base, I z2.1.st.BaseTerm, S z2.1.st.Snap, .slice a58 z2.1.st.Log.length c58, I z2.1.role, I z2.1.leader, I z2.1.commit, I z2.1.applied, I z2.1.timer, .bool (z2.1.votes 0), .bool (z2.1.votes 1), .bool (z2.1.votes 2), .bool (z2.1.votes 3), .bool (z2.1.votes 4), I (z2.1.next 0), I (z2.1.next 1), I (z2.1.next 2), I (z2.1.next 3), I (z2.1.next 4), I (z2.1.match_ 0), I (z2.1.match_ 1), I (z2.1.match_ 2), I (z2.1.match_ 3), I (z2.1.match_ 4), .slice a59 z2.1.out.length c59, I z2.1.broken] 66) :: blk p10 (cl [I y15.1, I z2.2.1, .bool y15.2.2.1, I z2.2.2.1, .map (some p11)] 79) :: mpr S (rPt r_T_platter_file) p11 z2.2.2.2 :: blk p12 (cl [I y15.2.2.2.2.2.2.Term, I y15.2.2.2.2.2.2.Vote, I y15.2.2.2.2.2.2.Base, I y15.2.2.2.2.2.2.BaseTerm, S y15.2.2.2.2.2.2.Snap, .slice a35 y15.2.2.2.2.2.1.length c35] 32) :: osl r_T_glacierref09_Entry 59 a35 c35 y15.2.2.2.2.2.1 :: dsl (rI .i64) a1 c1 x1.Terms :: blk p9 (cl [I x1.Term, I x1.Vote, I x1.Base, .slice a1 x1.Terms.length c1] 24) :: dsl rS a2 c2 x3 :: F)) ?_ ?_
            · rintro _ w ⟨z2, a58, c58, a59, c59, b, rfl, rfl, hst⟩
              have hr := hk9
              refine th_n ?_
              refine wp_seq ?_
              refine wp_reg ?_
              refine L_pure 1 [(9, pt p13 0), (77, pt p13 0)] (by kernel_rfl) fun b => ?_
              obtain ⟨y28, hy28, hr⟩ := bnd hr
              refine L_op rfl (O_call (vs := #[pt p13 0]) Tryz.call13 (by kernel_rfl) (raft_Node_Take_ok k z2.1 y15.1 z2.2.1 y15.2.2.1 z2.2.2.1 z2.2.2.2 p13 p10 p11 a58 c58 a59 c59 y28 (((((hst.pull 1).pull 1).pull 4).pull 4).pull 4) hy28 fun a62 c62 a63 c63 a64 c64 w hst => ?_))
              refine CK_ret rfl ?_
              refine wpL_nil ?_
              refine th_n ?_
              refine wp_seq ?_
              refine wp_reg ?_
              refine L_pure 2 [(6, pt p13 0)] (by kernel_rfl) fun b => ?_
              refine wpL_nil ?_
              refine th_n ?_
              refine wp_ret ?_
              refine ret1 rfl rfl ?_
              obtain rfl := Option.some.inj hr
              have hst := ((((((((hst.pull 10).pull 9).pull 7).pull 7).pull 7).pull 7).pull 7).cut 7 4)
              exact hR p13 p10 p11 a63 c63 a64 c64 _ hst
            · have hst := ((((((((((hst.pull 9).pull 9).pull 9).pull 9).pull 9).pull 7).pull 7).pull 7).pull 9).pull 9)
              refine wp_block ?_
              refine wp_loop_fuel (fun j a w => ∃ (v56 : Int) (v57 : T_raft_Node) (v58 : Int) (v59 : Int) (v60 : (List ((List UInt8) × (Option T_platter_file)))) (a54 : Option Addr) (c54 : Nat) (a55 : Option Addr) (c55 : Nat) (b : Nat → Value), a = mkF 80 b [(2, .slice a2 x3.length c2), (9, pt p13 0), (13, I v56)] ∧ St G w (osl r_T_term_Entry 48 a54 c54 v57.st.Log :: osl r_T_raft_Msg 39 a55 c55 v57.out :: blk p13 (cl [I v57.id, I v57.n, pt p10 0, I v57.st.Term, I v57.st.Vote, I v57.st.Base, I v57.st.BaseTerm, S v57.st.Snap, .slice a54 v57.st.Log.length c54, I v57.role, I v57.leader, I v57.commit, I v57.applied, I v57.timer, .bool (v57.votes 0), .bool (v57.votes 1), .bool (v57.votes 2), .bool (v57.votes 3), .bool (v57.votes 4), I (v57.next 0), I (v57.next 1), I (v57.next 2), I (v57.next 3), I (v57.next 4), I (v57.match_ 0), I (v57.match_ 1), I (v57.match_ 2), I (v57.match_ 3), I (v57.match_ 4), .slice a55 v57.out.length c55, I v57.broken] 66) :: blk p10 (cl [I y15.1, I v58, .bool y15.2.2.1, I v59, .map (some p11)] 79) :: mpr S (rPt r_T_platter_file) p11 v60 :: blk p12 (cl [I y15.2.2.2.2.2.2.Term, I y15.2.2.2.2.2.2.Vote, I y15.2.2.2.2.2.2.Base, I y15.2.2.2.2.2.2.BaseTerm, S y15.2.2.2.2.2.2.Snap, .slice a35 y15.2.2.2.2.2.1.length c35] 32) :: osl r_T_glacierref09_Entry 59 a35 c35 y15.2.2.2.2.2.1 :: dsl (rI .i64) a1 c1 x1.Terms :: blk p9 (cl [I x1.Term, I x1.Vote, I x1.Base, .slice a1 x1.Terms.length c1] 24) :: dsl rS a2 c2 x3 :: F) ∧ glacierlaw10_leader_l3 k x3 y15 j v56 v57 v58 v59 v60 = some y24) (k := k) ⟨(0 : Int), y20.1, y20.2.1, y20.2.2.1, y20.2.2.2, a50, c50, a51, c51, (kpX [(2, .slice a2 x3.length c2), (9, pt p13 0), (13, I 0)] rfl ⟨hst, hy24⟩)⟩ ?_ ?_
              · rintro _ _ ⟨_, _, _, _, _, _, _, _, _, _, _, _, h⟩
                rw [glacierlaw10_leader_l3] at h
                cases h
              · rintro j _ w ⟨v56, v57, v58, v59, v60, a54, c54, a55, c55, b, rfl, hst, hr⟩
                rw [glacierlaw10_leader_l3] at hr
                refine wp_seq ?_
                obtain ⟨y25, hy25, hk10⟩ := bnd hr
                clear hr
                refine wp_seq_cut (fun a w => ∃ (b : Nat → Value), a = mkF 80 b [(2, .slice a2 x3.length c2), (9, pt p13 0), (13, I v56), (61, .bool y25)] ∧ St G w (osl r_T_term_Entry 48 a54 c54 v57.st.Log :: osl r_T_raft_Msg 39 a55 c55 v57.out :: blk p13 (cl [I v57.id, I v57.n, pt p10 0, I v57.st.Term, I v57.st.Vote, I v57.st.Base, I v57.st.BaseTerm, S v57.st.Snap, .slice a54 v57.st.Log.length c54, I v57.role, I v57.leader, I v57.commit, I v57.applied, I v57.timer, .bool (v57.votes 0), .bool (v57.votes 1), .bool (v57.votes 2), .bool (v57.votes 3), .bool (v57.votes 4), I (v57.next 0), I (v57.next 1), I (v57.next 2), I (v57.next 3), I (v57.next 4), I (v57.match_ 0), I (v57.match_ 1), I (v57.match_ 2), I (v57.match_ 3), I (v57.match_ 4), .slice a55 v57.out.length c55, I v57.broken] 66) :: blk p10 (cl [I y15.1, I v58, .bool y15.2.2.1, I v59, .map (some p11)] 79) :: mpr S (rPt r_T_platter_file) p11 v60 :: blk p12 (cl [I y15.2.2.2.2.2.2.Term, I y15.2.2.2.2.2.2.Vote, I y15.2.2.2.2.2.2.Base, I y15.2.2.2.2.2.2.BaseTerm, S y15.2.2.2.2.2.2.Snap, .slice a35 y15.2.2.2.2.2.1.length c35] 32) :: osl r_T_glacierref09_Entry 59 a35 c35 y15.2.2.2.2.2.1 :: dsl (rI .i64) a1 c1 x1.Terms :: blk p9 (cl [I x1.Term, I x1.Vote, I x1.Base, .slice a1 x1.Terms.length c1] 24) :: dsl rS a2 c2 x3 :: F)) ?_ ?_
                · rintro _ w ⟨b, rfl, hst⟩
                  have hr := hk10
                  refine wp_cond_mkF (t := y25) rfl (fun h => ?_) (fun h => ?_)
                  · have hr := (if_pos h).symm.trans hr
                    refine wp_skip ?_
                    refine th_n ?_
                    refine wp_seq ?_
                    refine wp_block ?_
                    refine wp_seq ?_
                    refine wp_reg ?_
                    refine L_pure 3 [(2, .slice a2 x3.length c2), (9, pt p13 0), (13, I v56), (65, pt p13 0), (66, .slice a2 x3.length c2), (67, I v56)] (by kernel_rfl) fun b => ?_
                    obtain ⟨x5, hx2, hr⟩ := bnd hr
                    refine L_op rfl (O_run (v := pt (ab a2) (ao a2 + v56.toNat * 1)) (w' := w) (R_ia L25 rfl rfl (dsl_addr (hst.pull 9) hx2) (gt_some hx2).1 (gt_some hx2).2.1) rfl rfl ?_)
                    obtain ⟨q2, hc2, hst⟩ := dsl_cells (hst.pull 9) hx2
                    have hst := hst.drop
                    refine L_op rfl (O_run (v := S x5) (w' := w) (R_loadAt (off := ao a2 + v56.toNat * 1) (j := 0) hc2 rfl rfl) rfl rfl ?_)
                    obtain ⟨y26, hy26, hr⟩ := bnd hr
                    refine L_op rfl (O_call (vs := #[S x5, I 20]) Tryz.call21 (by kernel_rfl) (glacierlaw01_Cut_ok k x5 20 y26 hst hy26 fun w hst => ?_))
                    refine CK_ret rfl ?_
                    obtain ⟨y27, hy27, hr⟩ := bnd hr
                    refine L_op rfl (O_call (vs := #[pt p13 0, S y26]) Tryz.call19 (by kernel_rfl) (raft_Node_Propose_ok k v57 y15.1 v58 y15.2.2.1 v59 v60 y26 p13 p10 p11 a54 c54 a55 c55 y27 (((((hst.pull 2).pull 2).pull 5).pull 5).pull 5) hy27 fun a60 c60 a61 c61 w hst => ?_))
                    refine CK_ret rfl ?_
                    refine L_pure 7 [(2, .slice a2 x3.length c2), (9, pt p13 0), (13, I v56), (16, I y27.2.2.1)] (by kernel_rfl) fun b => ?_
                    refine wpL_nil ?_
                    refine th_n ?_
                    refine wp_seq ?_
                    refine wp_reg ?_
                    refine L_pure 2 [(2, .slice a2 x3.length c2), (9, pt p13 0), (13, I v56), (76, .bool (y27.2.2.1 != 0))] (by kernel_rfl) fun b => ?_
                    refine wpL_nil ?_
                    refine th_n ?_
                    refine wp_cond_mkF (t := (y27.2.2.1 != 0)) rfl (fun h => ?_) (fun h => ?_)
                    · have hr := (if_pos h).symm.trans hr
                      refine wp_seq ?_
                      refine wp_reg ?_
                      refine L_pure 1 [(6, .pointer none)] (by kernel_rfl) fun b => ?_
                      refine wpL_nil ?_
                      refine th_n ?_
                      refine wp_ret ?_
                      refine ib_r (th_r (th_r (ib_r (th_r (th_r ?_)))))
                      cases hr
                    · have hr := (if_neg (by rw [h]; exact Bool.false_ne_true)).symm.trans hr
                      refine wp_skip ?_
                      refine ib_n (th_n ?_)
                      refine wp_reg ?_
                      refine L_pure 3 [(2, .slice a2 x3.length c2), (9, pt p13 0), (13, I (IntKind.i64.wrap (v56 + 1)))] (by kernel_rfl) fun b => ?_
                      refine wpL_nil ?_
                      refine th_n ?_
                      have hst := ((((((((((hst.pull 5).pull 9).pull 9).pull 9).pull 9).pull 9).pull 9).pull 9).pull 9).pull 9)
                      exact ⟨(IntKind.i64.wrap (v56 + 1)), y27.2.2.2.1, y27.2.2.2.2.1, y27.2.2.2.2.2.1, y27.2.2.2.2.2.2, a60, c60, a61, c61, (kpX [(2, .slice a2 x3.length c2), (9, pt p13 0), (13, I (IntKind.i64.wrap (v56 + 1)))] rfl ⟨hst, hr⟩)⟩
                  · have hr := (if_neg (by rw [h]; exact Bool.false_ne_true)).symm.trans hr
                    refine wp_exit ?_
                    refine th_x (th_x (ib_x (th_n ?_)))
                    obtain rfl := Option.some.inj hr
                    have hst := ((((((((((hst.pull 9).pull 9).pull 9).pull 9).pull 9).pull 9).pull 9).pull 9).pull 9).pull 9)
                    exact ⟨(v57, v58, v59, v60), a54, c54, a55, c55, (kpXf [(9, pt p13 0)] rfl hst)⟩
                · have hr := hy25
                  refine wp_reg ?_
                  refine L_pure 5 [(2, .slice a2 x3.length c2), (9, pt p13 0), (13, I v56), (58, .bool (decide (v56 < (x3.length : Int))))] (by kernel_rfl) fun b => ?_
                  by_cases h : (decide (v56 < (x3.length : Int))) = true
                  · have hr := (if_pos h).symm.trans hr
                    refine L_keep ((58, .bool (decide (v56 < (x3.length : Int)))) :: [(2, .slice a2 x3.length c2), (9, pt p13 0), (13, I v56)]) rfl fun b => ?_
                    refine L_bool h ?_
                    refine L_pure 3 [(2, .slice a2 x3.length c2), (9, pt p13 0), (13, I v56), (61, .bool (decide (v56 < 6)))] (by kernel_rfl) fun b => ?_
                    refine wpL_nil ?_
                    refine th_n ?_
                    obtain rfl := Option.some.inj hr
                    have hst := ((((((((((hst.pull 9).pull 9).pull 9).pull 9).pull 9).pull 9).pull 9).pull 9).pull 9).pull 9)
                    exact (kpX [(2, .slice a2 x3.length c2), (9, pt p13 0), (13, I v56), (61, .bool (decide (v56 < 6)))] rfl hst)
                  · have hr := (if_neg h).symm.trans hr
                    refine L_keep ((58, .bool (decide (v56 < (x3.length : Int)))) :: [(2, .slice a2 x3.length c2), (9, pt p13 0), (13, I v56)]) rfl fun b => ?_
                    refine L_bool (eq_false_of_ne_true h) ?_
                    refine L_pure 3 [(2, .slice a2 x3.length c2), (9, pt p13 0), (13, I v56), (61, .bool false)] (by kernel_rfl) fun b => ?_
                    refine wpL_nil ?_
                    refine th_n ?_
                    obtain rfl := Option.some.inj hr
                    have hst := ((((((((((hst.pull 9).pull 9).pull 9).pull 9).pull 9).pull 9).pull 9).pull 9).pull 9).pull 9)
                    exact (kpX [(2, .slice a2 x3.length c2), (9, pt p13 0), (13, I v56), (61, .bool false)] rfl hst)
        · have hst := ((((((((((hst.pull 9).pull 9).pull 9).pull 9).pull 9).pull 9).pull 9).pull 9).pull 9).pull 9)
          refine wp_block ?_
          refine wp_loop_fuel (fun j a w => ∃ (v46 : Int) (v47 : T_raft_Node) (v48 : Int) (v49 : Int) (v50 : (List ((List UInt8) × (Option T_platter_file)))) (a46 : Option Addr) (c46 : Nat) (a47 : Option Addr) (c47 : Nat) (b : Nat → Value), a = mkF 80 b [(1, I x2), (2, .slice a2 x3.length c2), (9, pt p13 0), (12, I v46)] ∧ St G w (osl r_T_term_Entry 48 a46 c46 v47.st.Log :: osl r_T_raft_Msg 39 a47 c47 v47.out :: blk p13 (cl [I v47.id, I v47.n, pt p10 0, I v47.st.Term, I v47.st.Vote, I v47.st.Base, I v47.st.BaseTerm, S v47.st.Snap, .slice a46 v47.st.Log.length c46, I v47.role, I v47.leader, I v47.commit, I v47.applied, I v47.timer, .bool (v47.votes 0), .bool (v47.votes 1), .bool (v47.votes 2), .bool (v47.votes 3), .bool (v47.votes 4), I (v47.next 0), I (v47.next 1), I (v47.next 2), I (v47.next 3), I (v47.next 4), I (v47.match_ 0), I (v47.match_ 1), I (v47.match_ 2), I (v47.match_ 3), I (v47.match_ 4), .slice a47 v47.out.length c47, I v47.broken] 66) :: blk p10 (cl [I y15.1, I v48, .bool y15.2.2.1, I v49, .map (some p11)] 79) :: mpr S (rPt r_T_platter_file) p11 v50 :: blk p12 (cl [I y15.2.2.2.2.2.2.Term, I y15.2.2.2.2.2.2.Vote, I y15.2.2.2.2.2.2.Base, I y15.2.2.2.2.2.2.BaseTerm, S y15.2.2.2.2.2.2.Snap, .slice a35 y15.2.2.2.2.2.1.length c35] 32) :: osl r_T_glacierref09_Entry 59 a35 c35 y15.2.2.2.2.2.1 :: dsl (rI .i64) a1 c1 x1.Terms :: blk p9 (cl [I x1.Term, I x1.Vote, I x1.Base, .slice a1 x1.Terms.length c1] 24) :: dsl rS a2 c2 x3 :: F) ∧ glacierlaw10_leader_l2 k x2 y15 j v46 v47 v48 v49 v50 = some y20) (k := k) ⟨(1 : Int), y18.1, y18.2.1, y18.2.2.1, y18.2.2.2, a42, c42, a43, c43, (kpX [(1, I x2), (2, .slice a2 x3.length c2), (9, pt p13 0), (12, I 1)] rfl ⟨hst, hy20⟩)⟩ ?_ ?_
          · rintro _ _ ⟨_, _, _, _, _, _, _, _, _, _, _, _, h⟩
            rw [glacierlaw10_leader_l2] at h
            cases h
          · rintro j _ w ⟨v46, v47, v48, v49, v50, a46, c46, a47, c47, b, rfl, hst, hr⟩
            rw [glacierlaw10_leader_l2] at hr
            refine wp_seq ?_
            refine wp_seq ?_
            refine wp_reg ?_
            refine L_pure 3 [(1, I x2), (2, .slice a2 x3.length c2), (9, pt p13 0), (12, I v46), (42, .bool (decide (v46 < x2)))] (by kernel_rfl) fun b => ?_
            refine wpL_nil ?_
            refine th_n ?_
            refine wp_cond_mkF (t := decide (v46 < x2)) rfl (fun h => ?_) (fun h => ?_)
            · have hr := (if_pos h).symm.trans hr
              refine wp_skip ?_
              refine th_n ?_
              refine wp_seq ?_
              refine wp_block ?_
              refine wp_reg ?_
              refine L_pure 3 [(1, I x2), (2, .slice a2 x3.length c2), (9, pt p13 0), (12, I v46), (45, pt p13 0), (46, I v46), (47, pt p13 0)] (by kernel_rfl) fun b => ?_
              obtain ⟨y21, hy21, hr⟩ := bnd hr
              refine L_op rfl (O_call (vs := #[pt p13 0]) Tryz.call10 (by kernel_rfl) (raft_Node_Term_ok k v47 y15.1 v48 y15.2.2.1 v49 v50 p13 p10 p11 a46 c46 a47 c47 y21 (((((hst.pull 1).pull 1).pull 4).pull 4).pull 4) hy21 fun w hst => ?_))
              refine CK_ret rfl ?_
              refine L_pure 1 [(1, I x2), (2, .slice a2 x3.length c2), (9, pt p13 0), (12, I v46), (45, pt p13 0), (49, .agg #[I 2, I v46, I 0, I y21, I 0, I 0, I 0, .bool true, .slice none 0 0, S ([])])] (by kernel_rfl) fun b => ?_
              obtain ⟨y22, hy22, hr⟩ := bnd hr
              have hst := dsl_nil r_T_term_Entry hst
              refine L_op rfl (O_call (vs := #[pt p13 0, .agg #[I 2, I v46, I 0, I y21, I 0, I 0, I 0, .bool true, .slice none 0 0, S ([])]]) Tryz.call9 (by kernel_rfl) (raft_Node_Step_ok k v47 y15.1 v48 y15.2.2.1 v49 v50 (T_raft_Msg.mk 2 v46 0 y21 0 0 0 true ([]) ([])) p13 p10 p11 a46 c46 a47 c47 none 0 y22 (((((hst.pull 5).pull 5).pull 5).pull 5).pull 5) hy22 fun a52 c52 a53 c53 w hst => ?_))
              refine CK_ret rfl ?_
              refine wpL_nil ?_
              refine ib_n (th_n ?_)
              refine wp_reg ?_
              refine L_pure 3 [(1, I x2), (2, .slice a2 x3.length c2), (9, pt p13 0), (12, I (IntKind.i64.wrap (v46 + 1)))] (by kernel_rfl) fun b => ?_
              refine wpL_nil ?_
              refine th_n ?_
              have hst := (((((((((((hst.pull 10).pull 10).pull 10).pull 10).pull 10).pull 9).pull 9).pull 9).pull 9).pull 9).cut 10 1)
              exact ⟨(IntKind.i64.wrap (v46 + 1)), y22.1, y22.2.1, y22.2.2.1, y22.2.2.2, a52, c52, a53, c53, (kpX [(1, I x2), (2, .slice a2 x3.length c2), (9, pt p13 0), (12, I (IntKind.i64.wrap (v46 + 1)))] rfl ⟨hst, hr⟩)⟩
            · have hr := (if_neg (by rw [h]; exact Bool.false_ne_true)).symm.trans hr
              refine wp_exit ?_
              refine th_x (th_x (ib_x (th_n ?_)))
              obtain rfl := Option.some.inj hr
              have hst := ((((((((((hst.pull 9).pull 9).pull 9).pull 9).pull 9).pull 9).pull 9).pull 9).pull 9).pull 9)
              exact ⟨a46, c46, a47, c47, (kpX [(2, .slice a2 x3.length c2), (9, pt p13 0)] rfl hst)⟩
      · have hst := ((((((((((hst.pull 9).pull 9).pull 9).pull 9).pull 9).pull 9).pull 9).pull 9).pull 9).pull 9)
        refine wp_block ?_
        refine wp_loop_fuel (fun j a w => ∃ (v36 : Int) (v37 : T_raft_Node) (v38 : Int) (v39 : Int) (v40 : (List ((List UInt8) × (Option T_platter_file)))) (a38 : Option Addr) (c38 : Nat) (a39 : Option Addr) (c39 : Nat) (b : Nat → Value), a = mkF 80 b [(1, I x2), (2, .slice a2 x3.length c2), (9, pt p13 0), (11, I v36)] ∧ St G w (osl r_T_term_Entry 48 a38 c38 v37.st.Log :: osl r_T_raft_Msg 39 a39 c39 v37.out :: blk p13 (cl [I v37.id, I v37.n, pt p10 0, I v37.st.Term, I v37.st.Vote, I v37.st.Base, I v37.st.BaseTerm, S v37.st.Snap, .slice a38 v37.st.Log.length c38, I v37.role, I v37.leader, I v37.commit, I v37.applied, I v37.timer, .bool (v37.votes 0), .bool (v37.votes 1), .bool (v37.votes 2), .bool (v37.votes 3), .bool (v37.votes 4), I (v37.next 0), I (v37.next 1), I (v37.next 2), I (v37.next 3), I (v37.next 4), I (v37.match_ 0), I (v37.match_ 1), I (v37.match_ 2), I (v37.match_ 3), I (v37.match_ 4), .slice a39 v37.out.length c39, I v37.broken] 66) :: blk p10 (cl [I y15.1, I v38, .bool y15.2.2.1, I v39, .map (some p11)] 79) :: mpr S (rPt r_T_platter_file) p11 v40 :: blk p12 (cl [I y15.2.2.2.2.2.2.Term, I y15.2.2.2.2.2.2.Vote, I y15.2.2.2.2.2.2.Base, I y15.2.2.2.2.2.2.BaseTerm, S y15.2.2.2.2.2.2.Snap, .slice a35 y15.2.2.2.2.2.1.length c35] 32) :: osl r_T_glacierref09_Entry 59 a35 c35 y15.2.2.2.2.2.1 :: dsl (rI .i64) a1 c1 x1.Terms :: blk p9 (cl [I x1.Term, I x1.Vote, I x1.Base, .slice a1 x1.Terms.length c1] 24) :: dsl rS a2 c2 x3 :: F) ∧ glacierlaw10_leader_l1 k y15 j v36 v37 v38 v39 v40 = some y18) (k := k) ⟨(0 : Int), y16.1, y16.2.2.1, y16.2.2.2.1, y16.2.2.2.2, a36, c36, a37, c37, (kpX [(1, I x2), (2, .slice a2 x3.length c2), (9, pt p13 0), (11, I 0)] rfl ⟨hst, hy18⟩)⟩ ?_ ?_
        · rintro _ _ ⟨_, _, _, _, _, _, _, _, _, _, _, _, h⟩
          rw [glacierlaw10_leader_l1] at h
          cases h
        · rintro j _ w ⟨v36, v37, v38, v39, v40, a38, c38, a39, c39, b, rfl, hst, hr⟩
          rw [glacierlaw10_leader_l1] at hr
          refine wp_seq ?_
          refine wp_seq ?_
          refine wp_reg ?_
          refine L_pure 2 [(1, I x2), (2, .slice a2 x3.length c2), (9, pt p13 0), (11, I v36), (35, .bool (decide (v36 < 4)))] (by kernel_rfl) fun b => ?_
          refine wpL_nil ?_
          refine th_n ?_
          refine wp_cond_mkF (t := decide (v36 < 4)) rfl (fun h => ?_) (fun h => ?_)
          · have hr := (if_pos h).symm.trans hr
            refine wp_skip ?_
            refine th_n ?_
            refine wp_seq ?_
            refine wp_block ?_
            refine wp_reg ?_
            refine L_pure 1 [(1, I x2), (2, .slice a2 x3.length c2), (9, pt p13 0), (11, I v36), (38, pt p13 0)] (by kernel_rfl) fun b => ?_
            obtain ⟨y19, hy19, hr⟩ := bnd hr
            refine L_op rfl (O_call (vs := #[pt p13 0]) Tryz.call14 (by kernel_rfl) (raft_Node_Tick_ok k v37 y15.1 v38 y15.2.2.1 v39 v40 p13 p10 p11 a38 c38 a39 c39 y19 (((((hst.pull 1).pull 1).pull 4).pull 4).pull 4) hy19 fun a44 c44 a45 c45 w hst => ?_))
            refine CK_ret rfl ?_
            refine wpL_nil ?_
            refine ib_n (th_n ?_)
            refine wp_reg ?_
            refine L_pure 3 [(1, I x2), (2, .slice a2 x3.length c2), (9, pt p13 0), (11, I (IntKind.i64.wrap (v36 + 1)))] (by kernel_rfl) fun b => ?_
            refine wpL_nil ?_
            refine th_n ?_
            have hst := ((((((((((hst.pull 9).pull 9).pull 9).pull 9).pull 9).pull 9).pull 9).pull 9).pull 9).pull 9)
            exact ⟨(IntKind.i64.wrap (v36 + 1)), y19.1, y19.2.1, y19.2.2.1, y19.2.2.2, a44, c44, a45, c45, (kpX [(1, I x2), (2, .slice a2 x3.length c2), (9, pt p13 0), (11, I (IntKind.i64.wrap (v36 + 1)))] rfl ⟨hst, hr⟩)⟩
          · have hr := (if_neg (by rw [h]; exact Bool.false_ne_true)).symm.trans hr
            refine wp_exit ?_
            refine th_x (th_x (ib_x (th_n ?_)))
            obtain rfl := Option.some.inj hr
            have hst := ((((((((((hst.pull 9).pull 9).pull 9).pull 9).pull 9).pull 9).pull 9).pull 9).pull 9).pull 9)
            exact ⟨a38, c38, a39, c39, (kpX [(1, I x2), (2, .slice a2 x3.length c2), (9, pt p13 0)] rfl hst)⟩
  · have hr := hy17
    refine wp_reg ?_
    refine L_pure 3 [(1, I x2), (2, .slice a2 x3.length c2), (9, pt p13 0), (30, .bool (y16.2.1 != 0))] (by kernel_rfl) fun b => ?_
    by_cases h : (y16.2.1 != 0) = true
    · have hr := (if_pos h).symm.trans hr
      refine L_keep ((30, .bool (y16.2.1 != 0)) :: [(1, I x2), (2, .slice a2 x3.length c2), (9, pt p13 0)]) rfl fun b => ?_
      refine L_bool h ?_
      refine L_pure 3 [(1, I x2), (2, .slice a2 x3.length c2), (9, pt p13 0), (33, .bool true)] (by kernel_rfl) fun b => ?_
      refine wpL_nil ?_
      refine th_n ?_
      obtain rfl := Option.some.inj hr
      have hst := ((((((((((hst.pull 9).pull 9).pull 9).pull 9).pull 9).pull 9).pull 9).pull 9).pull 9).pull 9)
      exact (kpX [(1, I x2), (2, .slice a2 x3.length c2), (9, pt p13 0), (33, .bool true)] rfl hst)
    · have hr := (if_neg h).symm.trans hr
      refine L_keep ((30, .bool (y16.2.1 != 0)) :: [(1, I x2), (2, .slice a2 x3.length c2), (9, pt p13 0)]) rfl fun b => ?_
      refine L_bool (eq_false_of_ne_true h) ?_
      refine L_pure 3 [(1, I x2), (2, .slice a2 x3.length c2), (9, pt p13 0), (33, .bool false)] (by kernel_rfl) fun b => ?_
      refine wpL_nil ?_
      refine th_n ?_
      obtain rfl := Option.some.inj hr
      have hst := ((((((((((hst.pull 9).pull 9).pull 9).pull 9).pull 9).pull 9).pull 9).pull 9).pull 9).pull 9)
      exact (kpX [(1, I x2), (2, .slice a2 x3.length c2), (9, pt p13 0), (33, .bool false)] rfl hst)
end Go.Proofs.YtpldjopnhhbjpaaGreat
