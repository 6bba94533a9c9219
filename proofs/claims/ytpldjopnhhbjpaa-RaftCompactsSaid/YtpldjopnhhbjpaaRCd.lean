/- RC, one part more. -/
import Derived.Test.YtpldjopnhhbjpaaRCc
namespace Go.Proofs.Ytpldjopnhhbjpaa
open Go.Hx Go.RowKit
def glacierlaw10_Kept_l1 (k : Nat) (x1 : T_glacierlaw10_Start) : Nat → Int → Int → (List T_glacierref09_Entry) → Option ((List T_glacierref09_Entry))
  | 0, _, _, _ => none
  | j + 1, v14, v15, v16 => (Option.bind (if decide (v15 < (x1.Terms.length : Int)) = true then some (decide (v15 < 6)) else some (false)) fun y12 => (if y12 = true then (Option.bind (gt x1.Terms v15) fun x5 => (if 0 ≤ (IntKind.i32.wrap (IntKind.i64.wrap (97 + ((mn2 (mx2 x5 v14) (mn2 (mx2 x1.Term 0) 20)).tmod 26)))) ∧ (IntKind.i32.wrap (IntKind.i64.wrap (97 + ((mn2 (mx2 x5 v14) (mn2 (mx2 x1.Term 0) 20)).tmod 26)))) < 128 then (Option.bind (cat ([99]) ([UInt8.ofNat (IntKind.i32.wrap (IntKind.i64.wrap (97 + ((mn2 (mx2 x5 v14) (mn2 (mx2 x1.Term 0) 20)).tmod 26)))).toNat])) fun x6 => (if room (v16.length + ([(T_glacierref09_Entry.mk (IntKind.i64.wrap ((IntKind.i64.wrap ((mn2 (mx2 x1.Base 0) 4) + v15)) + 1)) (mn2 (mx2 x5 v14) (mn2 (mx2 x1.Term 0) 20)) x6)]).length) 32 = true then (glacierlaw10_Kept_l1 k x1 j (mn2 (mx2 x5 v14) (mn2 (mx2 x1.Term 0) 20)) (IntKind.i64.wrap (v15 + 1)) (v16 ++ ([(T_glacierref09_Entry.mk (IntKind.i64.wrap ((IntKind.i64.wrap ((mn2 (mx2 x1.Base 0) 4) + v15)) + 1)) (mn2 (mx2 x5 v14) (mn2 (mx2 x1.Term 0) 20)) x6)]))) else none)) else none)) else some (v16)))
def glacierlaw10_Kept_l2 (k : Nat) (y11 : ((List T_glacierref09_Entry))) : Nat → (List T_term_Entry) → Int → Option ((List T_term_Entry))
  | 0, _, _ => none
  | j + 1, v19, v20 => (if decide (v20 < (y11.length : Int)) = true then (Option.bind (gt y11 v20) fun x7 => (if room (v19.length + ([(T_term_Entry.mk x7.Index x7.Term x7.Cmd)]).length) 32 = true then (glacierlaw10_Kept_l2 k y11 j (v19 ++ ([(T_term_Entry.mk x7.Index x7.Term x7.Cmd)])) (IntKind.i64.wrap (v20 + 1))) else none)) else some (v19))
def glacierlaw10_Kept (k : Nat) (x1 : T_glacierlaw10_Start) : Option (Int × Int × Bool × Int × (List ((List UInt8) × (Option T_platter_file))) × (List T_glacierref09_Entry) × T_glacierref09_State) := (Option.bind (platter_New k 1048576) fun y9 => (Option.bind (if decide ((mn2 (mx2 x1.Base 0) 4) > 0) = true then some ((mn2 1 (mn2 (mx2 x1.Term 0) 20)), [115, 110, 97, 112]) else some ((0 : Int), [])) fun y10 => (Option.bind (glacierlaw10_Kept_l1 k x1 k y10.1 (0 : Int) ([])) fun y11 => (Option.bind (glacierlaw10_Kept_l2 k y11 k ([]) (0 : Int)) fun y13 => (Option.bind (Option.bind (term_SaveTerm k y9.1 y9.2.1 y9.2.2.1 y9.2.2.2.1 y9.2.2.2.2 (mn2 (mx2 x1.Term 0) 20) (mn2 (mx2 x1.Vote 0) 5)) fun y15 => (if (y15.1 != 0) = true then some (true, y15.2.1, y15.2.2.1, y15.2.2.2) else (Option.bind (term_SaveSnap k y9.1 y15.2.1 y9.2.2.1 y15.2.2.1 y15.2.2.2 (mn2 (mx2 x1.Base 0) 4) y10.1 y10.2 y13) fun y16 => some ((y16.1 != 0), y16.2.1, y16.2.2.1, y16.2.2.2)))) fun y14 => (if y14.1 = true then none else some (y9.1, y14.2.1, y9.2.2.1, y14.2.2.1, y14.2.2.2, y11, (T_glacierref09_State.mk (mn2 (mx2 x1.Term 0) 20) (mn2 (mx2 x1.Vote 0) 5) (mn2 (mx2 x1.Base 0) 4) y10.1 y10.2 y11))))))))
set_option maxRecDepth 100000 in
set_option maxHeartbeats 4000000 in
theorem glacierlaw10_Kept_ok {G w : World} {F : List HP} {R : Ending → World → Prop} (k : Nat) (x1 : T_glacierlaw10_Start) (a1 : Option Addr) (c1 : Nat) (r : (Int × Int × Bool × Int × (List ((List UInt8) × (Option T_platter_file))) × (List T_glacierref09_Entry) × T_glacierref09_State)) (hst : St G w (dsl (rI .i64) a1 c1 x1.Terms :: F)) (hr : glacierlaw10_Kept k x1 = some r)
    (hR : ∀ (p10 : Nat) (p11 : Nat) (a10 : Option Addr) (c10 : Nat) w', St G w' (osl r_T_glacierref09_Entry 56 a10 c10 r.2.2.2.2.2.1 :: blk p10 (cl [I r.1, I r.2.1, .bool r.2.2.1, I r.2.2.2.1, .map (some p11)] 91) :: mpr S (rPt r_T_platter_file) p11 r.2.2.2.2.1 :: dsl (rI .i64) a1 c1 x1.Terms :: F) → R (.returned (.tuple #[pt p10 0, .agg #[I r.2.2.2.2.2.2.Term, I r.2.2.2.2.2.2.Vote, I r.2.2.2.2.2.2.Base, I r.2.2.2.2.2.2.BaseTerm, S r.2.2.2.2.2.2.Snap, .slice a10 r.2.2.2.2.2.1.length c10]])) w') :
    Calls Try.prog 6 #[.agg #[I x1.Term, I x1.Vote, I x1.Base, .slice a1 x1.Terms.length c1]] w R := by
  unfold glacierlaw10_Kept at hr
  refine enter Try.func6 rfl [(0, .agg #[I x1.Term, I x1.Vote, I x1.Base, .slice a1 x1.Terms.length c1])] rfl rfl fun b => ?_
  refine wp_seq ?_
  refine wp_reg ?_
  refine L_op rfl (O_box [I x1.Term, I x1.Vote, I x1.Base, .slice a1 x1.Terms.length c1] hst rfl rfl fun p12 w hst => ?_)
  refine L_pure 1 [(1, pt p12 0)] (by kernel_rfl) fun b => ?_
  refine L_op rfl (O_alloc (i := Try.t31) (z := .agg #[I 0, I 0, I 0, I 0, S ([]), .slice none 0 0]) [I 0, I 0, I 0, I 0, S ([]), .slice none 0 0] hst rfl rfl rfl rfl fun p13 w hst => ?_)
  refine wpL_nil ?_
  refine th_n ?_
  refine wp_seq ?_
  refine wp_reg ?_
  obtain ⟨y9, hy9, hr⟩ := bnd hr
  refine L_op rfl (O_call (vs := #[I 1048576]) Try.call18 (by kernel_rfl) (platter_New_ok k 1048576 y9 hst hy9 fun p14 p15 w hst => ?_))
  refine CK_ret rfl ?_
  refine L_pure 1 [(1, pt p12 0), (3, pt p13 0), (4, pt p14 0)] (by kernel_rfl) fun b => ?_
  refine wpL_nil ?_
  refine th_n ?_
  refine wp_seq ?_
  refine wp_reg ?_
  refine L_pure 1 [(1, pt p12 0), (3, pt p13 0), (4, pt p14 0), (12, pt p12 0)] (by kernel_rfl) fun b => ?_
  refine L_op rfl (O_run (v := I x1.Term) (w' := w) (R_load (hst.pull 3) rfl rfl) rfl rfl ?_)
  refine L_pure 3 [(1, pt p12 0), (3, pt p13 0), (4, pt p14 0), (15, I (mn2 (mx2 x1.Term 0) 20)), (16, pt p12 1)] (by kernel_rfl) fun b => ?_
  refine L_op rfl (O_run (v := I x1.Vote) (w' := w) (R_load (hst.pull 3) rfl rfl) rfl rfl ?_)
  refine L_pure 3 [(1, pt p12 0), (3, pt p13 0), (4, pt p14 0), (15, I (mn2 (mx2 x1.Term 0) 20)), (19, I (mn2 (mx2 x1.Vote 0) 5)), (20, pt p12 2)] (by kernel_rfl) fun b => ?_
  refine L_op rfl (O_run (v := I x1.Base) (w' := w) (R_load (hst.pull 3) rfl rfl) rfl rfl ?_)
  refine L_pure 3 [(1, pt p12 0), (3, pt p13 0), (4, pt p14 0), (24, .agg #[I (mn2 (mx2 x1.Term 0) 20), I (mn2 (mx2 x1.Vote 0) 5), I (mn2 (mx2 x1.Base 0) 4), I 0, S ([]), .slice none 0 0])] (by kernel_rfl) fun b => ?_
  refine L_op rfl (O_alloc (i := Try.t31) (z := .agg #[I 0, I 0, I 0, I 0, S ([]), .slice none 0 0]) [I 0, I 0, I 0, I 0, S ([]), .slice none 0 0] hst rfl rfl rfl rfl fun p16 w hst => ?_)
  refine L_op rfl (O_store [I (mn2 (mx2 x1.Term 0) 20), I (mn2 (mx2 x1.Vote 0) 5), I (mn2 (mx2 x1.Base 0) 4), I 0, S ([]), .slice none 0 0] hst rfl rfl (by kernel_rfl) fun w hst => ?_)
  refine wpL_nil ?_
  refine th_n ?_
  obtain ⟨y10, hy10, hk6⟩ := bnd hr
  clear hr
  refine wp_seq_cut (fun a w => ∃ (b : Nat → Value), a = mkF 113 b [(1, pt p12 0), (3, pt p13 0), (4, pt p14 0), (5, pt p16 0)] ∧ St G w (blk p16 (cl [I (mn2 (mx2 x1.Term 0) 20), I (mn2 (mx2 x1.Vote 0) 5), I (mn2 (mx2 x1.Base 0) 4), I y10.1, S y10.2, .slice none 0 0] 31) :: blk p14 (cl [I y9.1, I y9.2.1, .bool y9.2.2.1, I y9.2.2.2.1, .map (some p15)] 91) :: mpr S (rPt r_T_platter_file) p15 y9.2.2.2.2 :: blk p13 (cl [I 0, I 0, I 0, I 0, S ([]), .slice none 0 0] 31) :: blk p12 (cl [I x1.Term, I x1.Vote, I x1.Base, .slice a1 x1.Terms.length c1] 24) :: dsl (rI .i64) a1 c1 x1.Terms :: F)) ?_ ?_
  · rintro _ w ⟨b, rfl, hst⟩
    have hr := hk6
    refine wp_seq ?_
    refine wp_reg ?_
    refine L_pure 1 [(1, pt p12 0), (3, pt p13 0), (4, pt p14 0), (5, pt p16 0), (33, pt p16 3)] (by kernel_rfl) fun b => ?_
    refine L_op rfl (O_run (v := I y10.1) (w' := w) (R_load hst rfl rfl) rfl rfl ?_)
    refine L_pure 1 [(1, pt p12 0), (3, pt p13 0), (4, pt p14 0), (5, pt p16 0), (6, I y10.1)] (by kernel_rfl) fun b => ?_
    refine wpL_nil ?_
    refine th_n ?_
    refine wp_seq ?_
    refine wp_seq ?_
    refine wp_reg ?_
    refine L_pure 1 [(1, pt p12 0), (3, pt p13 0), (4, pt p14 0), (5, pt p16 0), (6, I y10.1), (7, I 0)] (by kernel_rfl) fun b => ?_
    refine wpL_nil ?_
    refine th_n ?_
    obtain ⟨y11, hy11, hk7⟩ := bnd hr
    clear hr
    refine Go.Hx.wp_cut (fun a w => ∃ (a13 : Option Addr) (c13 : Nat)(b : Nat → Value), a = mkF 113 b [(3, pt p13 0), (4, pt p14 0), (5, pt p16 0)] ∧ St G w (osl r_T_glacierref09_Entry 56 a13 c13 y11 :: blk p16 (cl [I (mn2 (mx2 x1.Term 0) 20), I (mn2 (mx2 x1.Vote 0) 5), I (mn2 (mx2 x1.Base 0) 4), I y10.1, S y10.2, .slice a13 y11.length c13] 31) :: blk p14 (cl [I y9.1, I y9.2.1, .bool y9.2.2.1, I y9.2.2.2.1, .map (some p15)] 91) :: mpr S (rPt r_T_platter_file) p15 y9.2.2.2.2 :: blk p13 (cl [I 0, I 0, I 0, I 0, S ([]), .slice none 0 0] 31) :: blk p12 (cl [I x1.Term, I x1.Vote, I x1.Base, .slice a1 x1.Terms.length c1] 24) :: dsl (rI .i64) a1 c1 x1.Terms :: F)) ?_ ?_
    · rintro _ w ⟨a13, c13, b, rfl, hst⟩
      have hr := hk7
      refine th_n ?_
      refine wp_seq ?_
      refine wp_reg ?_
      refine L_op rfl (O_bs (T := 55) [] #[] hst (by kernel_rfl) (by kernel_rfl) rfl fun p18 w hst => ?_)
      have hst := osl_of_blk0 (ecs := []) r_T_term_Entry [] rfl (fun m => trivial) rfl hst
      refine L_pure 1 [(3, pt p13 0), (4, pt p14 0), (5, pt p16 0), (8, .slice (some ⟨p18, 0, none⟩) 0 0)] (by kernel_rfl) fun b => ?_
      refine wpL_nil ?_
      refine th_n ?_
      refine wp_seq ?_
      refine wp_seq ?_
      refine wp_reg ?_
      refine L_pure 1 [(3, pt p13 0), (4, pt p14 0), (5, pt p16 0), (8, .slice (some ⟨p18, 0, none⟩) 0 0), (75, pt p16 5)] (by kernel_rfl) fun b => ?_
      refine L_op rfl (O_run (v := .slice a13 y11.length c13) (w' := w) (R_load (hst.pull 2) rfl rfl) rfl rfl ?_)
      refine L_pure 2 [(3, pt p13 0), (4, pt p14 0), (5, pt p16 0), (8, .slice (some ⟨p18, 0, none⟩) 0 0), (76, .slice a13 y11.length c13), (77, I (y11.length : Int)), (78, I 0)] (by kernel_rfl) fun b => ?_
      refine wpL_nil ?_
      refine th_n ?_
      obtain ⟨y13, hy13, hk9⟩ := bnd hr
      clear hr
      refine Go.Hx.wp_cut (fun a w => ∃ (a17 : Option Addr) (c17 : Nat)(b : Nat → Value), a = mkF 113 b [(3, pt p13 0), (4, pt p14 0), (5, pt p16 0), (8, .slice a17 y13.length c17)] ∧ St G w (osl r_T_term_Entry 55 a17 c17 y13 :: osl r_T_glacierref09_Entry 56 a13 c13 y11 :: blk p16 (cl [I (mn2 (mx2 x1.Term 0) 20), I (mn2 (mx2 x1.Vote 0) 5), I (mn2 (mx2 x1.Base 0) 4), I y10.1, S y10.2, .slice a13 y11.length c13] 31) :: blk p14 (cl [I y9.1, I y9.2.1, .bool y9.2.2.1, I y9.2.2.2.1, .map (some p15)] 91) :: mpr S (rPt r_T_platter_file) p15 y9.2.2.2.2 :: blk p13 (cl [I 0, I 0, I 0, I 0, S ([]), .slice none 0 0] 31) :: blk p12 (cl [I x1.Term, I x1.Vote, I x1.Base, .slice a1 x1.Terms.length c1] 24) :: dsl (rI .i64) a1 c1 x1.Terms :: F)) ?_ ?_
      · rintro _ w ⟨a17, c17, b, rfl, hst⟩
        have hr := hk9
        refine th_n ?_
        refine wp_seq ?_
        obtain ⟨y14, hy14, hk10⟩ := bnd hr
        clear hr
        refine wp_seq_cut (fun a w => ∃ (b : Nat → Value), a = mkF 113 b [(3, pt p13 0), (4, pt p14 0), (5, pt p16 0), (109, .bool y14.1)] ∧ St G w (blk p14 (cl [I y9.1, I y14.2.1, .bool y9.2.2.1, I y14.2.2.1, .map (some p15)] 91) :: mpr S (rPt r_T_platter_file) p15 y14.2.2.2 :: dsl r_T_term_Entry a17 c17 y13 :: osl r_T_glacierref09_Entry 56 a13 c13 y11 :: blk p16 (cl [I (mn2 (mx2 x1.Term 0) 20), I (mn2 (mx2 x1.Vote 0) 5), I (mn2 (mx2 x1.Base 0) 4), I y10.1, S y10.2, .slice a13 y11.length c13] 31) :: blk p13 (cl [I 0, I 0, I 0, I 0, S ([]), .slice none 0 0] 31) :: blk p12 (cl [I x1.Term, I x1.Vote, I x1.Base, .slice a1 x1.Terms.length c1] 24) :: dsl (rI .i64) a1 c1 x1.Terms :: F)) ?_ ?_
        · rintro _ w ⟨b, rfl, hst⟩
          have hr := hk10
          refine wp_cond_mkF (t := y14.1) rfl (fun h => ?_) (fun h => ?_)
          · have hr := (if_pos h).symm.trans hr
            refine wp_seq ?_
            refine wp_regG (SP 2 (fun w => St G w (blk p14 (cl [I y9.1, I y14.2.1, .bool y9.2.2.1, I y14.2.2.1, .map (some p15)] 91) :: mpr S (rPt r_T_platter_file) p15 y14.2.2.2 :: dsl r_T_term_Entry a17 c17 y13 :: osl r_T_glacierref09_Entry 56 a13 c13 y11 :: blk p16 (cl [I (mn2 (mx2 x1.Term 0) 20), I (mn2 (mx2 x1.Vote 0) 5), I (mn2 (mx2 x1.Base 0) 4), I y10.1, S y10.2, .slice a13 y11.length c13] 31) :: blk p13 (cl [I 0, I 0, I 0, I 0, S ([]), .slice none 0 0] 31) :: blk p12 (cl [I x1.Term, I x1.Vote, I x1.Base, .slice a1 x1.Terms.length c1] 24) :: dsl (rI .i64) a1 c1 x1.Terms :: F))) rfl ?_
            have hst := hst.draw (n := w.drawn + 1)
            generalize { w with drawn := w.drawn + 1 } = w at hst ⊢
            refine P_take (i := 0) (v := .agg #[I (mn2 (mx2 x1.Term 0) 20), I (mn2 (mx2 x1.Vote 0) 5), I (mn2 (mx2 x1.Base 0) 4), I y10.1, S y10.2, .slice a13 y11.length c13]) 2 [0] (by kernel_rfl) rfl (by kernel_rfl) (fun _ _ _ h => h) rfl rfl rfl (fun w hst => R_load (hst.pull 4) rfl rfl) (((((((((hst.pull 7).pull 7).pull 7).pull 7).pull 7).pull 7).pull 7).pull 7)) ?_
            refine P_pure (i := 1) (v := .pointer none) 2 rfl rfl (by kernel_rfl) (fun _ _ _ h => h) rfl rfl rfl (by kernel_rfl) (.inr ((((((((hst.pull 7).pull 7).pull 7).pull 7).pull 7).pull 7).pull 7).pull 7)) ?_
            refine P_act (i := 2) 2 (by kernel_rfl) rfl rfl (by kernel_rfl) (O_store [I (mn2 (mx2 x1.Term 0) 20), I (mn2 (mx2 x1.Vote 0) 5), I (mn2 (mx2 x1.Base 0) 4), I y10.1, S y10.2, .slice a13 y11.length c13] (hst.pull 5) rfl rfl (by kernel_rfl) fun w hst => ?_)
            refine wpG_done (by kernel_rfl) ?_ _
            refine C_keepQ [(2, .pointer none), (3, pt p13 0)] rfl fun b => ?_
            refine th_n ?_
            refine wp_ret ?_
            refine th_r ?_
            cases hr
          · have hr := (if_neg (by rw [h]; exact Bool.false_ne_true)).symm.trans hr
            refine wp_skip ?_
            refine th_n ?_
            refine wp_seq ?_
            refine wp_regG (SP 3 (fun w => St G w (blk p14 (cl [I y9.1, I y14.2.1, .bool y9.2.2.1, I y14.2.2.1, .map (some p15)] 91) :: mpr S (rPt r_T_platter_file) p15 y14.2.2.2 :: dsl r_T_term_Entry a17 c17 y13 :: osl r_T_glacierref09_Entry 56 a13 c13 y11 :: blk p16 (cl [I (mn2 (mx2 x1.Term 0) 20), I (mn2 (mx2 x1.Vote 0) 5), I (mn2 (mx2 x1.Base 0) 4), I y10.1, S y10.2, .slice a13 y11.length c13] 31) :: blk p13 (cl [I 0, I 0, I 0, I 0, S ([]), .slice none 0 0] 31) :: blk p12 (cl [I x1.Term, I x1.Vote, I x1.Base, .slice a1 x1.Terms.length c1] 24) :: dsl (rI .i64) a1 c1 x1.Terms :: F))) rfl ?_
            have hst := hst.draw (n := w.drawn + 1)
            generalize { w with drawn := w.drawn + 1 } = w at hst ⊢
            refine P_pure (i := 0) (v := pt p14 0) 3 rfl rfl (by kernel_rfl) (fun _ _ _ h => h) rfl rfl rfl (by kernel_rfl) (.inr ((((((((hst.pull 7).pull 7).pull 7).pull 7).pull 7).pull 7).pull 7).pull 7)) ?_
            refine P_take (i := 1) (v := .agg #[I (mn2 (mx2 x1.Term 0) 20), I (mn2 (mx2 x1.Vote 0) 5), I (mn2 (mx2 x1.Base 0) 4), I y10.1, S y10.2, .slice a13 y11.length c13]) 3 [1] (by kernel_rfl) rfl (by kernel_rfl) (fun _ _ _ h => h) rfl rfl rfl (fun w hst => R_load (hst.pull 4) rfl rfl) (((((((((hst.pull 7).pull 7).pull 7).pull 7).pull 7).pull 7).pull 7).pull 7)) ?_
            refine P_pure (i := 2) (v := pt p14 0) 3 rfl rfl (by kernel_rfl) (fun _ _ _ h => h) rfl rfl rfl (by kernel_rfl) (.inr ((((((((hst.pull 7).pull 7).pull 7).pull 7).pull 7).pull 7).pull 7).pull 7)) ?_
            refine P_act (i := 3) 3 (by kernel_rfl) rfl rfl (by kernel_rfl) (O_store [I (mn2 (mx2 x1.Term 0) 20), I (mn2 (mx2 x1.Vote 0) 5), I (mn2 (mx2 x1.Base 0) 4), I y10.1, S y10.2, .slice a13 y11.length c13] (hst.pull 5) rfl rfl (by kernel_rfl) fun w hst => ?_)
            refine wpG_done (by kernel_rfl) ?_ _
            refine C_keepQ [(2, pt p14 0), (3, pt p13 0)] rfl fun b => ?_
            refine th_n ?_
            refine wp_ret ?_
            refine retTC (v := .agg #[I (mn2 (mx2 x1.Term 0) 20), I (mn2 (mx2 x1.Vote 0) 5), I (mn2 (mx2 x1.Base 0) 4), I y10.1, S y10.2, .slice a13 y11.length c13]) (p := p13) (off := 0) (cs := [I (mn2 (mx2 x1.Term 0) 20), I (mn2 (mx2 x1.Vote 0) 5), I (mn2 (mx2 x1.Base 0) 4), I y10.1, S y10.2, .slice a13 y11.length c13]) (T' := 31) rfl rfl hst (by kernel_rfl) rfl ?_
            obtain rfl := Option.some.inj hr
            have hst := (((((hst.pull 7).pull 3).pull 3).pull 5).cut 4 4)
            exact hR p14 p15 a13 c13 _ hst
        · have hr := hy14
          refine wp_reg ?_
          refine L_pure 5 [(3, pt p13 0), (4, pt p14 0), (5, pt p16 0), (8, .slice a17 y13.length c17), (89, .bool false), (90, pt p14 0), (91, pt p16 0)] (by kernel_rfl) fun b => ?_
          refine L_op rfl (O_run (v := I (mn2 (mx2 x1.Term 0) 20)) (w' := w) (R_load (hst.pull 2) rfl rfl) rfl rfl ?_)
          refine L_pure 1 [(3, pt p13 0), (4, pt p14 0), (5, pt p16 0), (8, .slice a17 y13.length c17), (89, .bool false), (90, pt p14 0), (92, I (mn2 (mx2 x1.Term 0) 20)), (93, pt p16 1)] (by kernel_rfl) fun b => ?_
          refine L_op rfl (O_run (v := I (mn2 (mx2 x1.Vote 0) 5)) (w' := w) (R_load (hst.pull 2) rfl rfl) rfl rfl ?_)
          obtain ⟨y15, hy15, hr⟩ := bnd hr
          refine L_op rfl (O_call (vs := #[pt p14 0, I (mn2 (mx2 x1.Term 0) 20), I (mn2 (mx2 x1.Vote 0) 5)]) Try.call22 (by kernel_rfl) (term_SaveTerm_ok k y9.1 y9.2.1 y9.2.2.1 y9.2.2.2.1 y9.2.2.2.2 (mn2 (mx2 x1.Term 0) 20) (mn2 (mx2 x1.Vote 0) 5) p14 p15 y15 ((hst.pull 4).pull 4) hy15 fun w hst => ?_))
          refine CK_ret rfl ?_
          refine L_pure 3 [(3, pt p13 0), (4, pt p14 0), (5, pt p16 0), (8, .slice a17 y13.length c17), (98, .bool (y15.1 != 0))] (by kernel_rfl) fun b => ?_
          by_cases h : (y15.1 != 0) = true
          · have hr := (if_pos h).symm.trans hr
            refine L_keep ((98, .bool (y15.1 != 0)) :: [(3, pt p13 0), (4, pt p14 0), (5, pt p16 0), (8, .slice a17 y13.length c17)]) rfl fun b => ?_
            refine L_bool h ?_
            refine L_pure 11 [(3, pt p13 0), (4, pt p14 0), (5, pt p16 0), (109, .bool true)] (by kernel_rfl) fun b => ?_
            refine wpL_nil ?_
            refine th_n ?_
            obtain rfl := Option.some.inj hr
            have hst := osl_freeze (hst.pull 2)
            have hst := ((((((((hst.pull 7).pull 7).pull 7).pull 7).pull 7).pull 5).pull 7).pull 7)
            exact (kpX [(3, pt p13 0), (4, pt p14 0), (5, pt p16 0), (109, .bool true)] rfl hst)
          · have hr := (if_neg h).symm.trans hr
            refine L_keep ((98, .bool (y15.1 != 0)) :: [(3, pt p13 0), (4, pt p14 0), (5, pt p16 0), (8, .slice a17 y13.length c17)]) rfl fun b => ?_
            refine L_bool (eq_false_of_ne_true h) ?_
            refine L_pure 2 [(3, pt p13 0), (4, pt p14 0), (5, pt p16 0), (8, .slice a17 y13.length c17), (98, .bool false), (99, pt p14 0), (100, pt p16 2)] (by kernel_rfl) fun b => ?_
            refine L_op rfl (O_run (v := I (mn2 (mx2 x1.Base 0) 4)) (w' := w) (R_load (hst.pull 4) rfl rfl) rfl rfl ?_)
            refine L_pure 1 [(3, pt p13 0), (4, pt p14 0), (5, pt p16 0), (8, .slice a17 y13.length c17), (98, .bool false), (99, pt p14 0), (101, I (mn2 (mx2 x1.Base 0) 4)), (102, pt p16 3)] (by kernel_rfl) fun b => ?_
            refine L_op rfl (O_run (v := I y10.1) (w' := w) (R_load (hst.pull 4) rfl rfl) rfl rfl ?_)
            refine L_pure 1 [(3, pt p13 0), (4, pt p14 0), (5, pt p16 0), (8, .slice a17 y13.length c17), (98, .bool false), (99, pt p14 0), (101, I (mn2 (mx2 x1.Base 0) 4)), (103, I y10.1), (104, pt p16 4)] (by kernel_rfl) fun b => ?_
            refine L_op rfl (O_run (v := S y10.2) (w' := w) (R_load (hst.pull 4) rfl rfl) rfl rfl ?_)
            refine L_pure 1 [(3, pt p13 0), (4, pt p14 0), (5, pt p16 0), (98, .bool false), (99, pt p14 0), (101, I (mn2 (mx2 x1.Base 0) 4)), (103, I y10.1), (105, S y10.2), (106, .slice a17 y13.length c17)] (by kernel_rfl) fun b => ?_
            obtain ⟨y16, hy16, hr⟩ := bnd hr
            have hst := osl_freeze (hst.pull 2)
            refine L_op rfl (O_call (vs := #[pt p14 0, I (mn2 (mx2 x1.Base 0) 4), I y10.1, S y10.2, .slice a17 y13.length c17]) Try.call23 (by kernel_rfl) (term_SaveSnap_ok k y9.1 y15.2.1 y9.2.2.1 y15.2.2.1 y15.2.2.2 (mn2 (mx2 x1.Base 0) 4) y10.1 y10.2 y13 p14 p15 a17 c17 y16 ((hst.pull 2).pull 2) hy16 fun w hst => ?_))
            refine CK_ret rfl ?_
            refine L_pure 2 [(3, pt p13 0), (4, pt p14 0), (5, pt p16 0), (109, .bool (y16.1 != 0))] (by kernel_rfl) fun b => ?_
            refine wpL_nil ?_
            refine th_n ?_
            obtain rfl := Option.some.inj hr
            have hst := ((((((((hst.pull 7).pull 7).pull 7).pull 7).pull 7).pull 7).pull 7).pull 7)
            exact (kpX [(3, pt p13 0), (4, pt p14 0), (5, pt p16 0), (109, .bool (y16.1 != 0))] rfl hst)
      · have hst := ((((((((hst.pull 7).pull 7).pull 7).pull 7).pull 7).pull 7).pull 7).pull 7)
        refine wp_block ?_
        refine wp_loop_fuel (fun j a w => ∃ (v19 : (List T_term_Entry)) (v20 : Int) (a15 : Option Addr) (c15 : Nat) (b : Nat → Value), a = mkF 113 b [(3, pt p13 0), (4, pt p14 0), (5, pt p16 0), (8, .slice a15 v19.length c15), (76, .slice a13 y11.length c13), (77, I (y11.length : Int)), (78, I v20)] ∧ St G w (osl r_T_term_Entry 55 a15 c15 v19 :: osl r_T_glacierref09_Entry 56 a13 c13 y11 :: blk p16 (cl [I (mn2 (mx2 x1.Term 0) 20), I (mn2 (mx2 x1.Vote 0) 5), I (mn2 (mx2 x1.Base 0) 4), I y10.1, S y10.2, .slice a13 y11.length c13] 31) :: blk p14 (cl [I y9.1, I y9.2.1, .bool y9.2.2.1, I y9.2.2.2.1, .map (some p15)] 91) :: mpr S (rPt r_T_platter_file) p15 y9.2.2.2.2 :: blk p13 (cl [I 0, I 0, I 0, I 0, S ([]), .slice none 0 0] 31) :: blk p12 (cl [I x1.Term, I x1.Vote, I x1.Base, .slice a1 x1.Terms.length c1] 24) :: dsl (rI .i64) a1 c1 x1.Terms :: F) ∧ glacierlaw10_Kept_l2 k y11 j v19 v20 = some y13) (k := k) ⟨[], (0 : Int), (some ⟨p18, 0, none⟩), 0, (kpX [(3, pt p13 0), (4, pt p14 0), (5, pt p16 0), (8, .slice (some ⟨p18, 0, none⟩) 0 0), (76, .slice a13 y11.length c13), (77, I (y11.length : Int)), (78, I 0)] rfl ⟨hst, hy13⟩)⟩ ?_ ?_
        · rintro _ _ ⟨_, _, _, _, _, _, _, h⟩
          rw [glacierlaw10_Kept_l2] at h
          cases h
        · rintro j _ w ⟨v19, v20, a15, c15, b, rfl, hst, hr⟩
          rw [glacierlaw10_Kept_l2] at hr
          refine wp_seq ?_
          refine wp_reg ?_
          refine L_pure 1 [(3, pt p13 0), (4, pt p14 0), (5, pt p16 0), (8, .slice a15 v19.length c15), (76, .slice a13 y11.length c13), (77, I (y11.length : Int)), (78, I v20), (79, .bool (decide (v20 < (y11.length : Int))))] (by kernel_rfl) fun b => ?_
          refine wpL_nil ?_
          refine th_n ?_
          refine wp_seq ?_
          refine wp_cond_mkF (t := decide (v20 < (y11.length : Int))) rfl (fun h => ?_) (fun h => ?_)
          · have hr := (if_pos h).symm.trans hr
            refine wp_skip ?_
            refine th_n ?_
            refine wp_seq ?_
            refine wp_block ?_
            refine wp_seq ?_
            refine wp_reg ?_
            obtain ⟨x7, hx6, hr⟩ := bnd hr
            refine L_op rfl (O_run (v := pt (ab a13) (ao a13 + v20.toNat * 3)) (w' := w) (R_ia L29 rfl rfl (osl_addr (hst.pull 1) hx6) (gt_some hx6).1 (gt_some hx6).2.1) rfl rfl ?_)
            obtain ⟨q4, hc4, hst⟩ := osl_cells (hst.pull 1) hx6
            have hst := hst.drop
            refine L_op rfl (O_run (v := .agg #[I x7.Index, I x7.Term, S x7.Cmd]) (w' := w) (R_loadAt (off := ao a13 + v20.toNat * 3) (j := 0) hc4 rfl rfl) rfl rfl ?_)
            refine L_op rfl (O_alloc (i := Try.t56) (z := .agg #[I 0, I 0, S ([])]) [I 0, I 0, S ([])] hst rfl rfl rfl rfl fun p19 w hst => ?_)
            refine L_op rfl (O_store [I x7.Index, I x7.Term, S x7.Cmd] hst rfl rfl (by kernel_rfl) fun w hst => ?_)
            refine wpL_nil ?_
            refine th_n ?_
            refine wp_reg ?_
            refine L_pure 1 [(3, pt p13 0), (4, pt p14 0), (5, pt p16 0), (10, pt p19 0), (76, .slice a13 y11.length c13), (77, I (y11.length : Int)), (78, I v20), (82, .slice a15 v19.length c15)] (by kernel_rfl) fun b => ?_
            refine L_op rfl (O_run (v := .agg #[I x7.Index, I x7.Term, S x7.Cmd]) (w' := w) (R_load hst rfl rfl) rfl rfl ?_)
            refine L_op rfl (O_bs (T := 55) [I x7.Index, I x7.Term, S x7.Cmd] #[(0, .agg #[I x7.Index, I x7.Term, S x7.Cmd])] hst (by kernel_rfl) (by kernel_rfl) rfl fun p20 w hst => ?_)
            have hst := osl_of_blk0 (ecs := [[I x7.Index, I x7.Term, S x7.Cmd]]) r_T_term_Entry [(T_term_Entry.mk x7.Index x7.Term x7.Cmd)] rfl (fun m => ⟨⟨(), rfl, trivial⟩, trivial⟩) rfl hst
            obtain ⟨hb6, hr⟩ := chk hr
            refine L_op rfl (O_app_o L40 (hst.pull 3) rfl rfl hb6 rfl fun a18 c18 w hst => ?_)
            refine L_pure 1 [(3, pt p13 0), (4, pt p14 0), (5, pt p16 0), (8, .slice a18 (v19 ++ ([(T_term_Entry.mk x7.Index x7.Term x7.Cmd)])).length c18), (76, .slice a13 y11.length c13), (77, I (y11.length : Int)), (78, I v20)] (by kernel_rfl) fun b => ?_
            refine wpL_nil ?_
            refine ib_n (th_n ?_)
            refine wp_reg ?_
            refine L_pure 2 [(3, pt p13 0), (4, pt p14 0), (5, pt p16 0), (8, .slice a18 (v19 ++ ([(T_term_Entry.mk x7.Index x7.Term x7.Cmd)])).length c18), (76, .slice a13 y11.length c13), (77, I (y11.length : Int)), (78, I (IntKind.i64.wrap (v20 + 1)))] (by kernel_rfl) fun b => ?_
            refine wpL_nil ?_
            refine th_n ?_
            have hst := (((((((((hst.pull 9).pull 9).pull 9).pull 9).pull 9).pull 9).pull 9).pull 7).cut 8 2)
            exact ⟨(v19 ++ ([(T_term_Entry.mk x7.Index x7.Term x7.Cmd)])), (IntKind.i64.wrap (v20 + 1)), a18, c18, (kpX [(3, pt p13 0), (4, pt p14 0), (5, pt p16 0), (8, .slice a18 (v19 ++ ([(T_term_Entry.mk x7.Index x7.Term x7.Cmd)])).length c18), (76, .slice a13 y11.length c13), (77, I (y11.length : Int)), (78, I (IntKind.i64.wrap (v20 + 1)))] rfl ⟨hst, hr⟩)⟩
          · have hr := (if_neg (by rw [h]; exact Bool.false_ne_true)).symm.trans hr
            refine wp_exit ?_
            refine th_x (th_x (ib_x (th_n ?_)))
            obtain rfl := Option.some.inj hr
            have hst := ((((((((hst.pull 7).pull 7).pull 7).pull 7).pull 7).pull 7).pull 7).pull 7)
            exact ⟨a15, c15, (kpX [(3, pt p13 0), (4, pt p14 0), (5, pt p16 0), (8, .slice a15 v19.length c15)] rfl hst)⟩
    · have hst := osl_nil r_T_glacierref09_Entry 56 hst
      have hst := (((((((hst.pull 6).pull 6).pull 6).pull 6).pull 6).pull 6).pull 6)
      refine wp_block ?_
      refine wp_loop_fuel (fun j a w => ∃ (v14 : Int) (v15 : Int) (v16 : (List T_glacierref09_Entry)) (a11 : Option Addr) (c11 : Nat) (b : Nat → Value), a = mkF 113 b [(1, pt p12 0), (3, pt p13 0), (4, pt p14 0), (5, pt p16 0), (6, I v14), (7, I v15)] ∧ St G w (osl r_T_glacierref09_Entry 56 a11 c11 v16 :: blk p16 (cl [I (mn2 (mx2 x1.Term 0) 20), I (mn2 (mx2 x1.Vote 0) 5), I (mn2 (mx2 x1.Base 0) 4), I y10.1, S y10.2, .slice a11 v16.length c11] 31) :: blk p14 (cl [I y9.1, I y9.2.1, .bool y9.2.2.1, I y9.2.2.2.1, .map (some p15)] 91) :: mpr S (rPt r_T_platter_file) p15 y9.2.2.2.2 :: blk p13 (cl [I 0, I 0, I 0, I 0, S ([]), .slice none 0 0] 31) :: blk p12 (cl [I x1.Term, I x1.Vote, I x1.Base, .slice a1 x1.Terms.length c1] 24) :: dsl (rI .i64) a1 c1 x1.Terms :: F) ∧ glacierlaw10_Kept_l1 k x1 j v14 v15 v16 = some y11) (k := k) ⟨y10.1, (0 : Int), [], none, 0, (kpX [(1, pt p12 0), (3, pt p13 0), (4, pt p14 0), (5, pt p16 0), (6, I y10.1), (7, I 0)] rfl ⟨hst, hy11⟩)⟩ ?_ ?_
      · rintro _ _ ⟨_, _, _, _, _, _, _, _, h⟩
        rw [glacierlaw10_Kept_l1] at h
        cases h
      · rintro j _ w ⟨v14, v15, v16, a11, c11, b, rfl, hst, hr⟩
        rw [glacierlaw10_Kept_l1] at hr
        refine wp_seq ?_
        obtain ⟨y12, hy12, hk8⟩ := bnd hr
        clear hr
        refine wp_seq_cut (fun a w => ∃ (b : Nat → Value), a = mkF 113 b [(1, pt p12 0), (3, pt p13 0), (4, pt p14 0), (5, pt p16 0), (6, I v14), (7, I v15), (43, .bool y12)] ∧ St G w (osl r_T_glacierref09_Entry 56 a11 c11 v16 :: blk p16 (cl [I (mn2 (mx2 x1.Term 0) 20), I (mn2 (mx2 x1.Vote 0) 5), I (mn2 (mx2 x1.Base 0) 4), I y10.1, S y10.2, .slice a11 v16.length c11] 31) :: blk p14 (cl [I y9.1, I y9.2.1, .bool y9.2.2.1, I y9.2.2.2.1, .map (some p15)] 91) :: mpr S (rPt r_T_platter_file) p15 y9.2.2.2.2 :: blk p13 (cl [I 0, I 0, I 0, I 0, S ([]), .slice none 0 0] 31) :: blk p12 (cl [I x1.Term, I x1.Vote, I x1.Base, .slice a1 x1.Terms.length c1] 24) :: dsl (rI .i64) a1 c1 x1.Terms :: F)) ?_ ?_
        · rintro _ w ⟨b, rfl, hst⟩
          have hr := hk8
          refine wp_cond_mkF (t := y12) rfl (fun h => ?_) (fun h => ?_)
          · have hr := (if_pos h).symm.trans hr
            refine wp_skip ?_
            refine th_n ?_
            refine wp_seq ?_
            refine wp_block ?_
            refine wp_seq ?_
            refine wp_regG (SN { w with drawn := w.drawn + 1 }) rfl ?_
            have hst := hst.draw (n := w.drawn + 1)
            generalize { w with drawn := w.drawn + 1 } = w at hst ⊢
            refine C_take (i := 0) (v := pt p12 3) rfl (by kernel_rfl) (fun _ _ _ h => h) rfl rfl rfl (R_pure (by kernel_rfl)) ?_
            refine C_take (i := 1) (v := .slice a1 x1.Terms.length c1) rfl (by kernel_rfl) (fun _ _ _ h => h) rfl rfl rfl (R_load (hst.pull 5) rfl rfl) ?_
            refine C_take (i := 2) (v := I v15) rfl (by kernel_rfl) (fun _ _ _ h => h) rfl rfl rfl (R_pure (by kernel_rfl)) ?_
            obtain ⟨x5, hx4, hr⟩ := bnd hr
            refine C_take (i := 3) (v := pt (ab a1) (ao a1 + v15.toNat * 1)) rfl (by kernel_rfl) (fun _ _ _ h => h) rfl rfl rfl (R_ia L22 rfl rfl (dsl_addr (hst.pull 6) hx4) (gt_some hx4).1 (gt_some hx4).2.1) ?_
            obtain ⟨q3, hc3, hst⟩ := dsl_cells (hst.pull 6) hx4
            have hst := hst.drop
            refine C_take (i := 4) (v := I x5) rfl (by kernel_rfl) (fun _ _ _ h => h) rfl rfl rfl (R_loadAt (off := ao a1 + v15.toNat * 1) (j := 0) hc3 rfl rfl) ?_
            refine C_take (i := 5) (v := I v14) rfl (by kernel_rfl) (fun _ _ _ h => h) rfl rfl rfl (R_pure (by kernel_rfl)) ?_
            refine C_take (i := 6) (v := I (mx2 x5 v14)) rfl (by kernel_rfl) (fun _ _ _ h => h) rfl rfl rfl (R_pure (by kernel_rfl)) ?_
            refine C_take (i := 7) (v := pt p16 0) rfl (by kernel_rfl) (fun _ _ _ h => h) rfl rfl rfl (R_pure (by kernel_rfl)) ?_
            refine C_take (i := 8) (v := I (mn2 (mx2 x1.Term 0) 20)) rfl (by kernel_rfl) (fun _ _ _ h => h) rfl rfl rfl (R_load (hst.pull 2) rfl rfl) ?_
            refine C_take (i := 9) (v := I (mn2 (mx2 x5 v14) (mn2 (mx2 x1.Term 0) 20))) rfl (by kernel_rfl) (fun _ _ _ h => h) rfl rfl rfl (R_pure (by kernel_rfl)) ?_
            refine C_take (i := 10) (v := I (mn2 (mx2 x5 v14) (mn2 (mx2 x1.Term 0) 20))) rfl (by kernel_rfl) (fun _ _ _ h => h) rfl rfl rfl (R_pure (by kernel_rfl)) ?_
            refine wpG_done (by kernel_rfl) ?_ _
            refine C_keepQ [(1, pt p12 0), (3, pt p13 0), (4, pt p14 0), (5, pt p16 0), (6, I (mn2 (mx2 x5 v14) (mn2 (mx2 x1.Term 0) 20))), (7, I v15)] rfl fun b => ?_
            refine th_n ?_
            refine wp_reg ?_
            refine L_pure 1 [(1, pt p12 0), (3, pt p13 0), (4, pt p14 0), (5, pt p16 0), (6, I (mn2 (mx2 x5 v14) (mn2 (mx2 x1.Term 0) 20))), (7, I v15), (56, pt p16 5)] (by kernel_rfl) fun b => ?_
            refine L_op rfl (O_run (v := .slice a11 v16.length c11) (w' := w) (R_load (hst.pull 2) rfl rfl) rfl rfl ?_)
            refine L_pure 1 [(1, pt p12 0), (3, pt p13 0), (4, pt p14 0), (5, pt p16 0), (6, I (mn2 (mx2 x5 v14) (mn2 (mx2 x1.Term 0) 20))), (7, I v15), (57, .slice a11 v16.length c11), (58, pt p16 2)] (by kernel_rfl) fun b => ?_
            refine L_op rfl (O_run (v := I (mn2 (mx2 x1.Base 0) 4)) (w' := w) (R_load (hst.pull 2) rfl rfl) rfl rfl ?_)
            refine L_pure 8 [(1, pt p12 0), (3, pt p13 0), (4, pt p14 0), (5, pt p16 0), (6, I (mn2 (mx2 x5 v14) (mn2 (mx2 x1.Term 0) 20))), (7, I v15), (57, .slice a11 v16.length c11), (62, I (IntKind.i64.wrap ((IntKind.i64.wrap ((mn2 (mx2 x1.Base 0) 4) + v15)) + 1))), (63, I (mn2 (mx2 x5 v14) (mn2 (mx2 x1.Term 0) 20))), (67, .int .i32 (IntKind.i32.wrap (IntKind.i64.wrap (97 + ((mn2 (mx2 x5 v14) (mn2 (mx2 x1.Term 0) 20)).tmod 26)))))] (by kernel_rfl) fun b => ?_
            obtain ⟨hb4, hr⟩ := chk hr
            refine L_op rfl (O_run (v := S ([UInt8.ofNat (IntKind.i32.wrap (IntKind.i64.wrap (97 + ((mn2 (mx2 x5 v14) (mn2 (mx2 x1.Term 0) 20)).tmod 26)))).toNat])) (w' := w) (R_i2s Try.underlying21 Try.underlying9 rfl hb4) rfl rfl ?_)
            obtain ⟨x6, hx5, hr⟩ := bnd hr
            refine L_op rfl (O_run (v := S x6) (w' := w) (R_cat rfl rfl hx5) rfl rfl ?_)
            refine L_pure 1 [(1, pt p12 0), (3, pt p13 0), (4, pt p14 0), (5, pt p16 0), (6, I (mn2 (mx2 x5 v14) (mn2 (mx2 x1.Term 0) 20))), (7, I v15), (57, .slice a11 v16.length c11), (70, .agg #[I (IntKind.i64.wrap ((IntKind.i64.wrap ((mn2 (mx2 x1.Base 0) 4) + v15)) + 1)), I (mn2 (mx2 x5 v14) (mn2 (mx2 x1.Term 0) 20)), S x6])] (by kernel_rfl) fun b => ?_
            refine L_op rfl (O_bs (T := 56) [I (IntKind.i64.wrap ((IntKind.i64.wrap ((mn2 (mx2 x1.Base 0) 4) + v15)) + 1)), I (mn2 (mx2 x5 v14) (mn2 (mx2 x1.Term 0) 20)), S x6] #[(0, .agg #[I (IntKind.i64.wrap ((IntKind.i64.wrap ((mn2 (mx2 x1.Base 0) 4) + v15)) + 1)), I (mn2 (mx2 x5 v14) (mn2 (mx2 x1.Term 0) 20)), S x6])] hst (by kernel_rfl) (by kernel_rfl) rfl fun p17 w hst => ?_)
            have hst := osl_of_blk0 (ecs := [[I (IntKind.i64.wrap ((IntKind.i64.wrap ((mn2 (mx2 x1.Base 0) 4) + v15)) + 1)), I (mn2 (mx2 x5 v14) (mn2 (mx2 x1.Term 0) 20)), S x6]]) r_T_glacierref09_Entry [(T_glacierref09_Entry.mk (IntKind.i64.wrap ((IntKind.i64.wrap ((mn2 (mx2 x1.Base 0) 4) + v15)) + 1)) (mn2 (mx2 x5 v14) (mn2 (mx2 x1.Term 0) 20)) x6)] rfl (fun m => ⟨⟨(), rfl, trivial⟩, trivial⟩) rfl hst
            obtain ⟨hb5, hr⟩ := chk hr
            refine L_op rfl (O_app_o L29 (hst.pull 2) rfl rfl hb5 rfl fun a14 c14 w hst => ?_)
            refine L_pure 1 [(1, pt p12 0), (3, pt p13 0), (4, pt p14 0), (5, pt p16 0), (6, I (mn2 (mx2 x5 v14) (mn2 (mx2 x1.Term 0) 20))), (7, I v15), (72, .slice a14 (v16 ++ ([(T_glacierref09_Entry.mk (IntKind.i64.wrap ((IntKind.i64.wrap ((mn2 (mx2 x1.Base 0) 4) + v15)) + 1)) (mn2 (mx2 x5 v14) (mn2 (mx2 x1.Term 0) 20)) x6)])).length c14), (73, pt p16 5)] (by kernel_rfl) fun b => ?_
            refine L_op rfl (O_store [I (mn2 (mx2 x1.Term 0) 20), I (mn2 (mx2 x1.Vote 0) 5), I (mn2 (mx2 x1.Base 0) 4), I y10.1, S y10.2, .slice a14 (v16 ++ ([(T_glacierref09_Entry.mk (IntKind.i64.wrap ((IntKind.i64.wrap ((mn2 (mx2 x1.Base 0) 4) + v15)) + 1)) (mn2 (mx2 x5 v14) (mn2 (mx2 x1.Term 0) 20)) x6)])).length c14] (hst.pull 3) rfl rfl (by kernel_rfl) fun w hst => ?_)
            refine wpL_nil ?_
            refine ib_n (th_n ?_)
            refine wp_reg ?_
            refine L_pure 3 [(1, pt p12 0), (3, pt p13 0), (4, pt p14 0), (5, pt p16 0), (6, I (mn2 (mx2 x5 v14) (mn2 (mx2 x1.Term 0) 20))), (7, I (IntKind.i64.wrap (v15 + 1)))] (by kernel_rfl) fun b => ?_
            refine wpL_nil ?_
            refine th_n ?_
            have hst := ((((((((hst.pull 3).pull 7).pull 7).pull 7).pull 7).pull 5).pull 6).cut 7 1)
            exact ⟨(mn2 (mx2 x5 v14) (mn2 (mx2 x1.Term 0) 20)), (IntKind.i64.wrap (v15 + 1)), (v16 ++ ([(T_glacierref09_Entry.mk (IntKind.i64.wrap ((IntKind.i64.wrap ((mn2 (mx2 x1.Base 0) 4) + v15)) + 1)) (mn2 (mx2 x5 v14) (mn2 (mx2 x1.Term 0) 20)) x6)])), a14, c14, (kpX [(1, pt p12 0), (3, pt p13 0), (4, pt p14 0), (5, pt p16 0), (6, I (mn2 (mx2 x5 v14) (mn2 (mx2 x1.Term 0) 20))), (7, I (IntKind.i64.wrap (v15 + 1)))] rfl ⟨hst, hr⟩)⟩
          · have hr := (if_neg (by rw [h]; exact Bool.false_ne_true)).symm.trans hr
            refine wp_exit ?_
            refine th_x (th_x (ib_x (th_n ?_)))
            obtain rfl := Option.some.inj hr
            have hst := (((((((hst.pull 6).pull 6).pull 6).pull 6).pull 6).pull 6).pull 6)
            exact ⟨a11, c11, (kpX [(3, pt p13 0), (4, pt p14 0), (5, pt p16 0)] rfl hst)⟩
        · have hr := hy12
          refine wp_reg ?_
          refine L_pure 2 [(1, pt p12 0), (3, pt p13 0), (4, pt p14 0), (5, pt p16 0), (6, I v14), (7, I v15), (35, I v15), (36, pt p12 3)] (by kernel_rfl) fun b => ?_
          refine L_op rfl (O_run (v := .slice a1 x1.Terms.length c1) (w' := w) (R_load (hst.pull 5) rfl rfl) rfl rfl ?_)
          refine L_pure 3 [(1, pt p12 0), (3, pt p13 0), (4, pt p14 0), (5, pt p16 0), (6, I v14), (7, I v15), (40, .bool (decide (v15 < (x1.Terms.length : Int))))] (by kernel_rfl) fun b => ?_
          by_cases h : (decide (v15 < (x1.Terms.length : Int))) = true
          · have hr := (if_pos h).symm.trans hr
            refine L_keep ((40, .bool (decide (v15 < (x1.Terms.length : Int)))) :: [(1, pt p12 0), (3, pt p13 0), (4, pt p14 0), (5, pt p16 0), (6, I v14), (7, I v15)]) rfl fun b => ?_
            refine L_bool h ?_
            refine L_pure 3 [(1, pt p12 0), (3, pt p13 0), (4, pt p14 0), (5, pt p16 0), (6, I v14), (7, I v15), (43, .bool (decide (v15 < 6)))] (by kernel_rfl) fun b => ?_
            refine wpL_nil ?_
            refine th_n ?_
            obtain rfl := Option.some.inj hr
            have hst := (((((((hst.pull 6).pull 6).pull 6).pull 6).pull 6).pull 6).pull 6)
            exact (kpX [(1, pt p12 0), (3, pt p13 0), (4, pt p14 0), (5, pt p16 0), (6, I v14), (7, I v15), (43, .bool (decide (v15 < 6)))] rfl hst)
          · have hr := (if_neg h).symm.trans hr
            refine L_keep ((40, .bool (decide (v15 < (x1.Terms.length : Int)))) :: [(1, pt p12 0), (3, pt p13 0), (4, pt p14 0), (5, pt p16 0), (6, I v14), (7, I v15)]) rfl fun b => ?_
            refine L_bool (eq_false_of_ne_true h) ?_
            refine L_pure 3 [(1, pt p12 0), (3, pt p13 0), (4, pt p14 0), (5, pt p16 0), (6, I v14), (7, I v15), (43, .bool false)] (by kernel_rfl) fun b => ?_
            refine wpL_nil ?_
            refine th_n ?_
            obtain rfl := Option.some.inj hr
            have hst := (((((((hst.pull 6).pull 6).pull 6).pull 6).pull 6).pull 6).pull 6)
            exact (kpX [(1, pt p12 0), (3, pt p13 0), (4, pt p14 0), (5, pt p16 0), (6, I v14), (7, I v15), (43, .bool false)] rfl hst)
  · have hr := hy10
    refine wp_seq ?_
    refine wp_reg ?_
    refine L_pure 1 [(1, pt p12 0), (3, pt p13 0), (4, pt p14 0), (5, pt p16 0), (25, pt p16 2)] (by kernel_rfl) fun b => ?_
    refine L_op rfl (O_run (v := I (mn2 (mx2 x1.Base 0) 4)) (w' := w) (R_load hst rfl rfl) rfl rfl ?_)
    refine L_pure 1 [(1, pt p12 0), (3, pt p13 0), (4, pt p14 0), (5, pt p16 0), (27, .bool (decide ((mn2 (mx2 x1.Base 0) 4) > 0)))] (by kernel_rfl) fun b => ?_
    refine wpL_nil ?_
    refine th_n ?_
    refine wp_cond_mkF (t := decide ((mn2 (mx2 x1.Base 0) 4) > 0)) rfl (fun h => ?_) (fun h => ?_)
    · have hr := (if_pos h).symm.trans hr
      refine wp_seq ?_
      refine wp_reg ?_
      refine L_pure 1 [(1, pt p12 0), (3, pt p13 0), (4, pt p14 0), (5, pt p16 0), (28, pt p16 0)] (by kernel_rfl) fun b => ?_
      refine L_op rfl (O_run (v := I (mn2 (mx2 x1.Term 0) 20)) (w' := w) (R_load hst rfl rfl) rfl rfl ?_)
      refine L_pure 2 [(1, pt p12 0), (3, pt p13 0), (4, pt p14 0), (5, pt p16 0), (30, I (mn2 1 (mn2 (mx2 x1.Term 0) 20))), (31, pt p16 3)] (by kernel_rfl) fun b => ?_
      refine L_op rfl (O_store [I (mn2 (mx2 x1.Term 0) 20), I (mn2 (mx2 x1.Vote 0) 5), I (mn2 (mx2 x1.Base 0) 4), I (mn2 1 (mn2 (mx2 x1.Term 0) 20)), S ([]), .slice none 0 0] hst rfl rfl (by kernel_rfl) fun w hst => ?_)
      refine wpL_nil ?_
      refine th_n ?_
      refine wp_reg ?_
      refine L_pure 1 [(1, pt p12 0), (3, pt p13 0), (4, pt p14 0), (5, pt p16 0), (32, pt p16 4)] (by kernel_rfl) fun b => ?_
      refine L_op rfl (O_store [I (mn2 (mx2 x1.Term 0) 20), I (mn2 (mx2 x1.Vote 0) 5), I (mn2 (mx2 x1.Base 0) 4), I (mn2 1 (mn2 (mx2 x1.Term 0) 20)), S ([115, 110, 97, 112]), .slice none 0 0] hst rfl rfl (by kernel_rfl) fun w hst => ?_)
      refine wpL_nil ?_
      refine th_n ?_
      obtain rfl := Option.some.inj hr
      have hst := ((((((hst.pull 5).pull 5).pull 5).pull 5).pull 5).pull 5)
      exact (kpX [(1, pt p12 0), (3, pt p13 0), (4, pt p14 0), (5, pt p16 0)] rfl hst)
    · have hr := (if_neg (by rw [h]; exact Bool.false_ne_true)).symm.trans hr
      refine wp_skip ?_
      refine th_n ?_
      obtain rfl := Option.some.inj hr
      have hst := ((((((hst.pull 5).pull 5).pull 5).pull 5).pull 5).pull 5)
      exact (kpX [(1, pt p12 0), (3, pt p13 0), (4, pt p14 0), (5, pt p16 0)] rfl hst)
def raft_Node_Applied (_k : Nat) (x1 : T_raft_Node) (_x2 : Int) (_x3 : Int) (_x4 : Bool) (_x5 : Int) (_x6 : (List ((List UInt8) × (Option T_platter_file)))) : Option (Int) := some (x1.applied)
set_option maxRecDepth 100000 in
set_option maxHeartbeats 4000000 in
theorem raft_Node_Applied_ok {G w : World} {F : List HP} {R : Ending → World → Prop} (k : Nat) (x1 : T_raft_Node) (x2 : Int) (x3 : Int) (x4 : Bool) (x5 : Int) (x6 : (List ((List UInt8) × (Option T_platter_file)))) (p1 : Nat) (p2 : Nat) (p3 : Nat) (a1 : Option Addr) (c1 : Nat) (a2 : Option Addr) (c2 : Nat) (r : (Int)) (hst : St G w (blk p1 (cl [I x1.id, I x1.n, pt p2 0, I x1.st.Term, I x1.st.Vote, I x1.st.Base, I x1.st.BaseTerm, S x1.st.Snap, .slice a1 x1.st.Log.length c1, I x1.role, I x1.leader, I x1.commit, I x1.applied, I x1.timer, .bool (x1.votes 0), .bool (x1.votes 1), .bool (x1.votes 2), .bool (x1.votes 3), .bool (x1.votes 4), I (x1.next 0), I (x1.next 1), I (x1.next 2), I (x1.next 3), I (x1.next 4), I (x1.match_ 0), I (x1.match_ 1), I (x1.match_ 2), I (x1.match_ 3), I (x1.match_ 4), .slice a2 x1.out.length c2, I x1.broken] 63) :: blk p2 (cl [I x2, I x3, .bool x4, I x5, .map (some p3)] 91) :: mpr S (rPt r_T_platter_file) p3 x6 :: osl r_T_term_Entry 55 a1 c1 x1.st.Log :: osl r_T_raft_Msg 105 a2 c2 x1.out :: F)) (hr : raft_Node_Applied k x1 x2 x3 x4 x5 x6 = some r)
    (hR : ∀ w', St G w' (blk p1 (cl [I x1.id, I x1.n, pt p2 0, I x1.st.Term, I x1.st.Vote, I x1.st.Base, I x1.st.BaseTerm, S x1.st.Snap, .slice a1 x1.st.Log.length c1, I x1.role, I x1.leader, I x1.commit, I x1.applied, I x1.timer, .bool (x1.votes 0), .bool (x1.votes 1), .bool (x1.votes 2), .bool (x1.votes 3), .bool (x1.votes 4), I (x1.next 0), I (x1.next 1), I (x1.next 2), I (x1.next 3), I (x1.next 4), I (x1.match_ 0), I (x1.match_ 1), I (x1.match_ 2), I (x1.match_ 3), I (x1.match_ 4), .slice a2 x1.out.length c2, I x1.broken] 63) :: blk p2 (cl [I x2, I x3, .bool x4, I x5, .map (some p3)] 91) :: mpr S (rPt r_T_platter_file) p3 x6 :: osl r_T_term_Entry 55 a1 c1 x1.st.Log :: osl r_T_raft_Msg 105 a2 c2 x1.out :: F) → R (.returned (I r)) w') :
    Calls Try.prog 12 #[pt p1 0] w R := by
  unfold raft_Node_Applied at hr
  refine enter Try.func12 rfl [(0, pt p1 0)] rfl rfl fun b => ?_
  refine wp_seq ?_
  refine wp_reg ?_
  refine L_pure 1 [(0, pt p1 0)] (by kernel_rfl) fun b => ?_
  refine wpL_nil ?_
  refine th_n ?_
  refine wp_seq ?_
  refine wp_reg ?_
  refine L_pure 3 [(5, pt p1 12)] (by kernel_rfl) fun b => ?_
  refine L_op rfl (O_run (v := I x1.applied) (w' := w) (R_load hst rfl rfl) rfl rfl ?_)
  refine L_pure 1 [(2, I x1.applied)] (by kernel_rfl) fun b => ?_
  refine wpL_nil ?_
  refine th_n ?_
  refine wp_ret ?_
  refine ret1 rfl rfl ?_
  obtain rfl := Option.some.inj hr
  have hst := (((((hst.pull 4).pull 4).pull 4).pull 4).pull 4)
  exact hR _ hst
def raft_Node_Compact (k : Nat) (x1 : T_raft_Node) (x2 : Int) (x3 : Int) (x4 : Bool) (x5 : Int) (x6 : (List ((List UInt8) × (Option T_platter_file)))) (x7 : (List UInt8)) : Option (Int × T_raft_Node × Int × Int × (List ((List UInt8) × (Option T_platter_file)))) := (if (x1.broken != 0) = true then some (x1.broken, x1, x3, x5, x6) else (if decide ((x7.length : Int) > 1000000) = true then some ((11 : Int), x1, x3, x5, x6) else (Option.bind (term_State_TermAt k x1 x2 x3 x4 x5 x6 x1.applied) fun y8 => (Option.bind (if (!y8.2) = true then some (true) else some ((x1.applied == x1.st.Base))) fun y9 => (if y9 = true then some ((5 : Int), x1, x3, x5, x6) else (Option.bind (term_State_From k x1 x2 x3 x4 x5 x6 (IntKind.i64.wrap (x1.applied + 1)) (x1.st.Log.length : Int)) fun y10 => (Option.bind (term_SaveSnap k x2 x3 x4 x5 x6 x1.applied y8.1 x7 y10) fun y13 => (Option.bind (raft_Node_check k x1 x2 y13.2.1 x4 y13.2.2.1 y13.2.2.2 y13.1) fun y14 => (if (!y14.1) = true then some (y14.2.broken, y14.2, y13.2.1, y13.2.2.1, y13.2.2.2) else some ((0 : Int), (T_raft_Node.mk y14.2.id y14.2.n (T_term_State.mk y14.2.st.Term y14.2.st.Vote y14.2.applied y8.1 x7 y10) y14.2.role y14.2.leader y14.2.commit y14.2.applied y14.2.timer y14.2.votes y14.2.next y14.2.match_ y14.2.out y14.2.broken), y13.2.1, y13.2.2.1, y13.2.2.2))))))))))
set_option maxRecDepth 100000 in
set_option maxHeartbeats 4000000 in
theorem raft_Node_Compact_ok {G w : World} {F : List HP} {R : Ending → World → Prop} (k : Nat) (x1 : T_raft_Node) (x2 : Int) (x3 : Int) (x4 : Bool) (x5 : Int) (x6 : (List ((List UInt8) × (Option T_platter_file)))) (x7 : (List UInt8)) (p1 : Nat) (p2 : Nat) (p3 : Nat) (a1 : Option Addr) (c1 : Nat) (a2 : Option Addr) (c2 : Nat) (r : (Int × T_raft_Node × Int × Int × (List ((List UInt8) × (Option T_platter_file))))) (hst : St G w (blk p1 (cl [I x1.id, I x1.n, pt p2 0, I x1.st.Term, I x1.st.Vote, I x1.st.Base, I x1.st.BaseTerm, S x1.st.Snap, .slice a1 x1.st.Log.length c1, I x1.role, I x1.leader, I x1.commit, I x1.applied, I x1.timer, .bool (x1.votes 0), .bool (x1.votes 1), .bool (x1.votes 2), .bool (x1.votes 3), .bool (x1.votes 4), I (x1.next 0), I (x1.next 1), I (x1.next 2), I (x1.next 3), I (x1.next 4), I (x1.match_ 0), I (x1.match_ 1), I (x1.match_ 2), I (x1.match_ 3), I (x1.match_ 4), .slice a2 x1.out.length c2, I x1.broken] 63) :: blk p2 (cl [I x2, I x3, .bool x4, I x5, .map (some p3)] 91) :: mpr S (rPt r_T_platter_file) p3 x6 :: osl r_T_term_Entry 55 a1 c1 x1.st.Log :: osl r_T_raft_Msg 105 a2 c2 x1.out :: F)) (hr : raft_Node_Compact k x1 x2 x3 x4 x5 x6 x7 = some r)
    (hR : ∀ (a8 : Option Addr) (c8 : Nat) (a9 : Option Addr) (c9 : Nat) w', St G w' (dsl r_T_term_Entry a8 c8 r.2.1.st.Log :: osl r_T_raft_Msg 105 a9 c9 r.2.1.out :: blk p1 (cl [I r.2.1.id, I r.2.1.n, pt p2 0, I r.2.1.st.Term, I r.2.1.st.Vote, I r.2.1.st.Base, I r.2.1.st.BaseTerm, S r.2.1.st.Snap, .slice a8 r.2.1.st.Log.length c8, I r.2.1.role, I r.2.1.leader, I r.2.1.commit, I r.2.1.applied, I r.2.1.timer, .bool (r.2.1.votes 0), .bool (r.2.1.votes 1), .bool (r.2.1.votes 2), .bool (r.2.1.votes 3), .bool (r.2.1.votes 4), I (r.2.1.next 0), I (r.2.1.next 1), I (r.2.1.next 2), I (r.2.1.next 3), I (r.2.1.next 4), I (r.2.1.match_ 0), I (r.2.1.match_ 1), I (r.2.1.match_ 2), I (r.2.1.match_ 3), I (r.2.1.match_ 4), .slice a9 r.2.1.out.length c9, I r.2.1.broken] 63) :: blk p2 (cl [I x2, I r.2.2.1, .bool x4, I r.2.2.2.1, .map (some p3)] 91) :: mpr S (rPt r_T_platter_file) p3 r.2.2.2.2 :: F) → R (.returned (I r.1)) w') :
    Calls Try.prog 13 #[pt p1 0, S x7] w R := by
  unfold raft_Node_Compact at hr
  refine enter Try.func13 rfl [(0, pt p1 0), (1, S x7)] rfl rfl fun b => ?_
  refine wp_seq ?_
  refine wp_reg ?_
  refine L_pure 1 [(0, pt p1 0), (1, S x7)] (by kernel_rfl) fun b => ?_
  refine wpL_nil ?_
  refine th_n ?_
  refine wp_seq ?_
  refine wp_seq ?_
  refine wp_reg ?_
  refine L_pure 3 [(0, pt p1 0), (1, S x7), (10, pt p1 30)] (by kernel_rfl) fun b => ?_
  refine L_op rfl (O_run (v := I x1.broken) (w' := w) (R_load hst rfl rfl) rfl rfl ?_)
  refine L_pure 1 [(0, pt p1 0), (1, S x7), (12, .bool (x1.broken != 0))] (by kernel_rfl) fun b => ?_
  refine wpL_nil ?_
  refine th_n ?_
  refine wp_cond_mkF (t := (x1.broken != 0)) rfl (fun h => ?_) (fun h => ?_)
  · have hr := (if_pos h).symm.trans hr
    refine wp_seq ?_
    refine wp_reg ?_
    refine L_pure 3 [(15, pt p1 30)] (by kernel_rfl) fun b => ?_
    refine L_op rfl (O_run (v := I x1.broken) (w' := w) (R_load hst rfl rfl) rfl rfl ?_)
    refine L_pure 1 [(4, I x1.broken)] (by kernel_rfl) fun b => ?_
    refine wpL_nil ?_
    refine th_n ?_
    refine wp_ret ?_
    refine th_r ?_
    refine ret1 rfl rfl ?_
    obtain rfl := Option.some.inj hr
    have hst := osl_freeze (hst.pull 3)
    have hst := (((((hst.pull 3).pull 3).pull 3).pull 4).pull 4)
    exact hR a1 c1 a2 c2 _ hst
  · have hr := (if_neg (by rw [h]; exact Bool.false_ne_true)).symm.trans hr
    refine wp_skip ?_
    refine th_n ?_
    refine wp_seq ?_
    refine wp_seq ?_
    refine wp_reg ?_
    refine L_pure 3 [(0, pt p1 0), (1, S x7), (19, .bool (decide ((x7.length : Int) > 1000000)))] (by kernel_rfl) fun b => ?_
    refine wpL_nil ?_
    refine th_n ?_
    refine wp_cond_mkF (t := decide ((x7.length : Int) > 1000000)) rfl (fun h => ?_) (fun h => ?_)
    · have hr := (if_pos h).symm.trans hr
      refine wp_seq ?_
      refine wp_reg ?_
      refine L_pure 1 [(4, I 11)] (by kernel_rfl) fun b => ?_
      refine wpL_nil ?_
      refine th_n ?_
      refine wp_ret ?_
      refine th_r ?_
      refine ret1 rfl rfl ?_
      obtain rfl := Option.some.inj hr
      have hst := osl_freeze (hst.pull 3)
      have hst := (((((hst.pull 3).pull 3).pull 3).pull 4).pull 4)
      exact hR a1 c1 a2 c2 _ hst
    · have hr := (if_neg (by rw [h]; exact Bool.false_ne_true)).symm.trans hr
      refine wp_skip ?_
      refine th_n ?_
      refine wp_seq ?_
      refine wp_regG (SQ (fun w => St G w (blk p1 (cl [I x1.id, I x1.n, pt p2 0, I x1.st.Term, I x1.st.Vote, I x1.st.Base, I x1.st.BaseTerm, S x1.st.Snap, .slice a1 x1.st.Log.length c1, I x1.role, I x1.leader, I x1.commit, I x1.applied, I x1.timer, .bool (x1.votes 0), .bool (x1.votes 1), .bool (x1.votes 2), .bool (x1.votes 3), .bool (x1.votes 4), I (x1.next 0), I (x1.next 1), I (x1.next 2), I (x1.next 3), I (x1.next 4), I (x1.match_ 0), I (x1.match_ 1), I (x1.match_ 2), I (x1.match_ 3), I (x1.match_ 4), .slice a2 x1.out.length c2, I x1.broken] 63) :: blk p2 (cl [I x2, I x3, .bool x4, I x5, .map (some p3)] 91) :: mpr S (rPt r_T_platter_file) p3 x6 :: osl r_T_term_Entry 55 a1 c1 x1.st.Log :: osl r_T_raft_Msg 105 a2 c2 x1.out :: F))) rfl ?_
      have hst := hst.draw (n := w.drawn + 1)
      generalize { w with drawn := w.drawn + 1 } = w at hst ⊢
      refine Q_take (i := 0) (v := pt p1 0) rfl (by kernel_rfl) (fun _ _ _ h => h) rfl rfl rfl (fun _ _ => R_pure (by kernel_rfl)) (((((hst.pull 4).pull 4).pull 4).pull 4).pull 4) ?_
      refine Q_take (i := 1) (v := pt p1 0) rfl (by kernel_rfl) (fun _ _ _ h => h) rfl rfl rfl (fun _ _ => R_pure (by kernel_rfl)) (((((hst.pull 4).pull 4).pull 4).pull 4).pull 4) ?_
      refine Q_take (i := 2) (v := pt p1 3) rfl (by kernel_rfl) (fun _ _ _ h => h) rfl rfl rfl (fun _ _ => R_pure (by kernel_rfl)) (((((hst.pull 4).pull 4).pull 4).pull 4).pull 4) ?_
      refine Q_take (i := 3) (v := pt p1 0) rfl (by kernel_rfl) (fun _ _ _ h => h) rfl rfl rfl (fun _ _ => R_pure (by kernel_rfl)) (((((hst.pull 4).pull 4).pull 4).pull 4).pull 4) ?_
      refine Q_take (i := 4) (v := pt p1 0) rfl (by kernel_rfl) (fun _ _ _ h => h) rfl rfl rfl (fun _ _ => R_pure (by kernel_rfl)) (((((hst.pull 4).pull 4).pull 4).pull 4).pull 4) ?_
      refine Q_take (i := 5) (v := pt p1 12) rfl (by kernel_rfl) (fun _ _ _ h => h) rfl rfl rfl (fun _ _ => R_pure (by kernel_rfl)) (((((hst.pull 4).pull 4).pull 4).pull 4).pull 4) ?_
      refine Q_take (i := 6) (v := I x1.applied) rfl (by kernel_rfl) (fun _ _ _ h => h) rfl rfl rfl (fun w hst => R_load hst rfl rfl) (((((hst.pull 4).pull 4).pull 4).pull 4).pull 4) ?_
      obtain ⟨y8, hy8, hr⟩ := bnd hr
      refine Q_one (i := 7) (by kernel_rfl) rfl rfl (O_call (vs := #[pt p1 3, I x1.applied]) Try.call30 (by kernel_rfl) (term_State_TermAt_ok k x1 x2 x3 x4 x5 x6 x1.applied p1 p2 p3 a1 c1 a2 c2 y8 (((((hst.pull 4).pull 4).pull 4).pull 4).pull 4) hy8 fun w hst => ?_))
      refine CK_ret rfl ?_
      refine ⟨(((((hst.pull 4).pull 4).pull 4).pull 4).pull 4), ?_⟩
      refine Q_take (i := 8) (v := .tuple #[I y8.1, .bool y8.2]) rfl (by kernel_rfl) (fun _ _ _ h => h) rfl rfl rfl (fun _ _ => R_pure (by kernel_rfl)) (((((hst.pull 4).pull 4).pull 4).pull 4).pull 4) ?_
      refine Q_take (i := 9) (v := I y8.1) rfl (by kernel_rfl) (fun _ _ _ h => h) rfl rfl rfl (fun _ _ => R_pure (by kernel_rfl)) (((((hst.pull 4).pull 4).pull 4).pull 4).pull 4) ?_
      refine Q_take (i := 10) (v := .bool y8.2) rfl (by kernel_rfl) (fun _ _ _ h => h) rfl rfl rfl (fun _ _ => R_pure (by kernel_rfl)) (((((hst.pull 4).pull 4).pull 4).pull 4).pull 4) ?_
      refine Q_take (i := 11) (v := I y8.1) rfl (by kernel_rfl) (fun _ _ _ h => h) rfl rfl rfl (fun _ _ => R_pure (by kernel_rfl)) (((((hst.pull 4).pull 4).pull 4).pull 4).pull 4) ?_
      refine Q_take (i := 12) (v := .bool y8.2) rfl (by kernel_rfl) (fun _ _ _ h => h) rfl rfl rfl (fun _ _ => R_pure (by kernel_rfl)) (((((hst.pull 4).pull 4).pull 4).pull 4).pull 4) ?_
      refine wpG_done (by kernel_rfl) ?_ _
      refine C_keepQ [(0, pt p1 0), (1, S x7), (5, I y8.1), (6, .bool y8.2)] rfl fun b => ?_
      refine th_n ?_
      refine wp_seq ?_
      obtain ⟨y9, hy9, hk2⟩ := bnd hr
      clear hr
      refine wp_seq_cut (fun a w => ∃ (b : Nat → Value), a = mkF 102 b [(0, pt p1 0), (1, S x7), (5, I y8.1), (44, .bool y9)] ∧ St G w (blk p1 (cl [I x1.id, I x1.n, pt p2 0, I x1.st.Term, I x1.st.Vote, I x1.st.Base, I x1.st.BaseTerm, S x1.st.Snap, .slice a1 x1.st.Log.length c1, I x1.role, I x1.leader, I x1.commit, I x1.applied, I x1.timer, .bool (x1.votes 0), .bool (x1.votes 1), .bool (x1.votes 2), .bool (x1.votes 3), .bool (x1.votes 4), I (x1.next 0), I (x1.next 1), I (x1.next 2), I (x1.next 3), I (x1.next 4), I (x1.match_ 0), I (x1.match_ 1), I (x1.match_ 2), I (x1.match_ 3), I (x1.match_ 4), .slice a2 x1.out.length c2, I x1.broken] 63) :: blk p2 (cl [I x2, I x3, .bool x4, I x5, .map (some p3)] 91) :: mpr S (rPt r_T_platter_file) p3 x6 :: osl r_T_term_Entry 55 a1 c1 x1.st.Log :: osl r_T_raft_Msg 105 a2 c2 x1.out :: F)) ?_ ?_
      · rintro _ w ⟨b, rfl, hst⟩
        have hr := hk2
        refine wp_cond_mkF (t := y9) rfl (fun h => ?_) (fun h => ?_)
        · have hr := (if_pos h).symm.trans hr
          refine wp_seq ?_
          refine wp_reg ?_
          refine L_pure 1 [(4, I 5)] (by kernel_rfl) fun b => ?_
          refine wpL_nil ?_
          refine th_n ?_
          refine wp_ret ?_
          refine th_r ?_
          refine ret1 rfl rfl ?_
          obtain rfl := Option.some.inj hr
          have hst := osl_freeze (hst.pull 3)
          have hst := (((((hst.pull 3).pull 3).pull 3).pull 4).pull 4)
          exact hR a1 c1 a2 c2 _ hst
        · have hr := (if_neg (by rw [h]; exact Bool.false_ne_true)).symm.trans hr
          refine wp_skip ?_
          refine th_n ?_
          refine wp_seq ?_
          refine wp_regG (SQ (fun w => St G w (blk p1 (cl [I x1.id, I x1.n, pt p2 0, I x1.st.Term, I x1.st.Vote, I x1.st.Base, I x1.st.BaseTerm, S x1.st.Snap, .slice a1 x1.st.Log.length c1, I x1.role, I x1.leader, I x1.commit, I x1.applied, I x1.timer, .bool (x1.votes 0), .bool (x1.votes 1), .bool (x1.votes 2), .bool (x1.votes 3), .bool (x1.votes 4), I (x1.next 0), I (x1.next 1), I (x1.next 2), I (x1.next 3), I (x1.next 4), I (x1.match_ 0), I (x1.match_ 1), I (x1.match_ 2), I (x1.match_ 3), I (x1.match_ 4), .slice a2 x1.out.length c2, I x1.broken] 63) :: blk p2 (cl [I x2, I x3, .bool x4, I x5, .map (some p3)] 91) :: mpr S (rPt r_T_platter_file) p3 x6 :: osl r_T_term_Entry 55 a1 c1 x1.st.Log :: osl r_T_raft_Msg 105 a2 c2 x1.out :: F))) rfl ?_
          have hst := hst.draw (n := w.drawn + 1)
          generalize { w with drawn := w.drawn + 1 } = w at hst ⊢
          refine Q_take (i := 0) (v := pt p1 0) rfl (by kernel_rfl) (fun _ _ _ h => h) rfl rfl rfl (fun _ _ => R_pure (by kernel_rfl)) (((((hst.pull 4).pull 4).pull 4).pull 4).pull 4) ?_
          refine Q_take (i := 1) (v := pt p1 0) rfl (by kernel_rfl) (fun _ _ _ h => h) rfl rfl rfl (fun _ _ => R_pure (by kernel_rfl)) (((((hst.pull 4).pull 4).pull 4).pull 4).pull 4) ?_
          refine Q_take (i := 2) (v := pt p1 3) rfl (by kernel_rfl) (fun _ _ _ h => h) rfl rfl rfl (fun _ _ => R_pure (by kernel_rfl)) (((((hst.pull 4).pull 4).pull 4).pull 4).pull 4) ?_
          refine Q_take (i := 3) (v := pt p1 0) rfl (by kernel_rfl) (fun _ _ _ h => h) rfl rfl rfl (fun _ _ => R_pure (by kernel_rfl)) (((((hst.pull 4).pull 4).pull 4).pull 4).pull 4) ?_
          refine Q_take (i := 4) (v := pt p1 0) rfl (by kernel_rfl) (fun _ _ _ h => h) rfl rfl rfl (fun _ _ => R_pure (by kernel_rfl)) (((((hst.pull 4).pull 4).pull 4).pull 4).pull 4) ?_
          refine Q_take (i := 5) (v := pt p1 12) rfl (by kernel_rfl) (fun _ _ _ h => h) rfl rfl rfl (fun _ _ => R_pure (by kernel_rfl)) (((((hst.pull 4).pull 4).pull 4).pull 4).pull 4) ?_
          refine Q_take (i := 6) (v := I x1.applied) rfl (by kernel_rfl) (fun _ _ _ h => h) rfl rfl rfl (fun w hst => R_load hst rfl rfl) (((((hst.pull 4).pull 4).pull 4).pull 4).pull 4) ?_
          refine Q_take (i := 7) (v := I (IntKind.i64.wrap (x1.applied + 1))) rfl (by kernel_rfl) (fun _ _ _ h => h) rfl rfl rfl (fun _ _ => R_pure (by kernel_rfl)) (((((hst.pull 4).pull 4).pull 4).pull 4).pull 4) ?_
          refine Q_take (i := 8) (v := pt p1 0) rfl (by kernel_rfl) (fun _ _ _ h => h) rfl rfl rfl (fun _ _ => R_pure (by kernel_rfl)) (((((hst.pull 4).pull 4).pull 4).pull 4).pull 4) ?_
          refine Q_take (i := 9) (v := pt p1 0) rfl (by kernel_rfl) (fun _ _ _ h => h) rfl rfl rfl (fun _ _ => R_pure (by kernel_rfl)) (((((hst.pull 4).pull 4).pull 4).pull 4).pull 4) ?_
          refine Q_take (i := 10) (v := pt p1 3) rfl (by kernel_rfl) (fun _ _ _ h => h) rfl rfl rfl (fun _ _ => R_pure (by kernel_rfl)) (((((hst.pull 4).pull 4).pull 4).pull 4).pull 4) ?_
          refine Q_take (i := 11) (v := pt p1 8) rfl (by kernel_rfl) (fun _ _ _ h => h) rfl rfl rfl (fun _ _ => R_pure (by kernel_rfl)) (((((hst.pull 4).pull 4).pull 4).pull 4).pull 4) ?_
          refine Q_take (i := 12) (v := .slice a1 x1.st.Log.length c1) rfl (by kernel_rfl) (fun _ _ _ h => h) rfl rfl rfl (fun w hst => R_load hst rfl rfl) (((((hst.pull 4).pull 4).pull 4).pull 4).pull 4) ?_
          refine Q_take (i := 13) (v := I (x1.st.Log.length : Int)) rfl (by kernel_rfl) (fun _ _ _ h => h) rfl rfl rfl (fun _ _ => R_pure (by kernel_rfl)) (((((hst.pull 4).pull 4).pull 4).pull 4).pull 4) ?_
          obtain ⟨y10, hy10, hr⟩ := bnd hr
          refine Q_one (i := 14) (by kernel_rfl) rfl rfl (O_call (vs := #[pt p1 3, I (IntKind.i64.wrap (x1.applied + 1)), I (x1.st.Log.length : Int)]) Try.call28 (by kernel_rfl) (term_State_From_ok k x1 x2 x3 x4 x5 x6 (IntKind.i64.wrap (x1.applied + 1)) (x1.st.Log.length : Int) p1 p2 p3 a1 c1 a2 c2 y10 (((((hst.pull 4).pull 4).pull 4).pull 4).pull 4) hy10 fun a10 c10 w hst => ?_))
          refine CK_ret rfl ?_
          refine ⟨((((((hst.pull 5).pull 5).pull 5).pull 5).pull 5).cut 5 1), ?_⟩
          refine Q_take (i := 15) (v := .slice a10 y10.length c10) rfl (by kernel_rfl) (fun _ _ _ h => h) rfl rfl rfl (fun _ _ => R_pure (by kernel_rfl)) ((((((hst.pull 5).pull 5).pull 5).pull 5).pull 5).cut 5 1) ?_
          refine wpG_done (by kernel_rfl) ?_ _
          refine C_keepQ [(0, pt p1 0), (1, S x7), (5, I y8.1), (7, .slice a10 y10.length c10)] rfl fun b => ?_
          refine th_n ?_
          refine wp_seq ?_
          refine wp_seq ?_
          refine wp_regG (SP 12 (fun w => St G w (osl r_T_term_Entry 55 a10 c10 y10 :: blk p1 (cl [I x1.id, I x1.n, pt p2 0, I x1.st.Term, I x1.st.Vote, I x1.st.Base, I x1.st.BaseTerm, S x1.st.Snap, .slice a1 x1.st.Log.length c1, I x1.role, I x1.leader, I x1.commit, I x1.applied, I x1.timer, .bool (x1.votes 0), .bool (x1.votes 1), .bool (x1.votes 2), .bool (x1.votes 3), .bool (x1.votes 4), I (x1.next 0), I (x1.next 1), I (x1.next 2), I (x1.next 3), I (x1.next 4), I (x1.match_ 0), I (x1.match_ 1), I (x1.match_ 2), I (x1.match_ 3), I (x1.match_ 4), .slice a2 x1.out.length c2, I x1.broken] 63) :: blk p2 (cl [I x2, I x3, .bool x4, I x5, .map (some p3)] 91) :: mpr S (rPt r_T_platter_file) p3 x6 :: osl r_T_term_Entry 55 a1 c1 x1.st.Log :: osl r_T_raft_Msg 105 a2 c2 x1.out :: F))) rfl ?_
          have hst := hst.draw (n := w.drawn + 1)
          generalize { w with drawn := w.drawn + 1 } = w at hst ⊢
          refine P_pure (i := 0) (v := pt p1 0) 12 rfl rfl (by kernel_rfl) (fun _ _ _ h => h) rfl rfl rfl (by kernel_rfl) (.inr ((((((hst.pull 5).pull 5).pull 5).pull 5).pull 5).pull 5)) ?_
          refine P_pure (i := 1) (v := pt p1 0) 12 rfl rfl (by kernel_rfl) (fun _ _ _ h => h) rfl rfl rfl (by kernel_rfl) (.inr ((((((hst.pull 5).pull 5).pull 5).pull 5).pull 5).pull 5)) ?_
          refine P_pure (i := 2) (v := pt p1 0) 12 rfl rfl (by kernel_rfl) (fun _ _ _ h => h) rfl rfl rfl (by kernel_rfl) (.inr ((((((hst.pull 5).pull 5).pull 5).pull 5).pull 5).pull 5)) ?_
          refine P_pure (i := 3) (v := pt p1 2) 12 rfl rfl (by kernel_rfl) (fun _ _ _ h => h) rfl rfl rfl (by kernel_rfl) (.inr ((((((hst.pull 5).pull 5).pull 5).pull 5).pull 5).pull 5)) ?_
          refine P_take (i := 4) (v := pt p2 0) 12 [4] (by kernel_rfl) rfl (by kernel_rfl) (fun _ _ _ h => h) rfl rfl rfl (fun w hst => R_load (hst.pull 1) rfl rfl) (((((((hst.pull 5).pull 5).pull 5).pull 5).pull 5).pull 5)) ?_
          refine P_pure (i := 5) (v := pt p1 0) 12 rfl rfl (by kernel_rfl) (fun _ _ _ h => h) rfl rfl rfl (by kernel_rfl) (.inr ((((((hst.pull 5).pull 5).pull 5).pull 5).pull 5).pull 5)) ?_
          refine P_pure (i := 6) (v := pt p1 0) 12 rfl rfl (by kernel_rfl) (fun _ _ _ h => h) rfl rfl rfl (by kernel_rfl) (.inr ((((((hst.pull 5).pull 5).pull 5).pull 5).pull 5).pull 5)) ?_
          refine P_pure (i := 7) (v := pt p1 12) 12 rfl rfl (by kernel_rfl) (fun _ _ _ h => h) rfl rfl rfl (by kernel_rfl) (.inr ((((((hst.pull 5).pull 5).pull 5).pull 5).pull 5).pull 5)) ?_
          refine P_take (i := 8) (v := I x1.applied) 12 [8] (by kernel_rfl) rfl (by kernel_rfl) (fun _ _ _ h => h) rfl rfl rfl (fun w hst => R_load (hst.pull 1) rfl rfl) (((((((hst.pull 5).pull 5).pull 5).pull 5).pull 5).pull 5)) ?_
          refine P_pure (i := 9) (v := I y8.1) 12 rfl rfl (by kernel_rfl) (fun _ _ _ h => h) rfl rfl rfl (by kernel_rfl) (.inr ((((((hst.pull 5).pull 5).pull 5).pull 5).pull 5).pull 5)) ?_
          refine P_pure (i := 10) (v := S x7) 12 rfl rfl (by kernel_rfl) (fun _ _ _ h => h) rfl rfl rfl (by kernel_rfl) (.inr ((((((hst.pull 5).pull 5).pull 5).pull 5).pull 5).pull 5)) ?_
          refine P_pure (i := 11) (v := .slice a10 y10.length c10) 12 rfl rfl (by kernel_rfl) (fun _ _ _ h => h) rfl rfl rfl (by kernel_rfl) (.inr ((((((hst.pull 5).pull 5).pull 5).pull 5).pull 5).pull 5)) ?_
          obtain ⟨y13, hy13, hr⟩ := bnd hr
          have hst := osl_freeze hst
          refine P_act (i := 12) 12 (by kernel_rfl) rfl rfl (by kernel_rfl) (O_call (vs := #[pt p2 0, I x1.applied, I y8.1, S x7, .slice a10 y10.length c10]) Try.call23 (by kernel_rfl) (term_SaveSnap_ok k x2 x3 x4 x5 x6 x1.applied y8.1 x7 y10 p2 p3 a10 c10 y13 ((hst.pull 3).pull 3) hy13 fun w hst => ?_))
          refine CK_ret rfl ?_
          obtain ⟨y14, hy14, hr⟩ := bnd hr
          refine P_act (i := 13) 12 (by kernel_rfl) rfl rfl (by kernel_rfl) (O_call (vs := #[pt p1 0, I y13.1]) Try.call31 (by kernel_rfl) (raft_Node_check_ok k x1 x2 y13.2.1 x4 y13.2.2.1 y13.2.2.2 y13.1 p1 p2 p3 a1 c1 a2 c2 y14 (((((hst.pull 5).pull 5).pull 3).pull 3).pull 5) hy14 fun a13 c13 a14 c14 w hst => ?_))
          refine CK_ret rfl ?_
          refine P_pure (i := 14) (v := .bool (!y14.1)) 12 rfl rfl (by kernel_rfl) (fun _ _ _ h => h) rfl rfl rfl (by kernel_rfl) (.inl (by kernel_rfl)) ?_
          refine wpG_done (by kernel_rfl) ?_ _
          refine C_keepQ [(0, pt p1 0), (1, S x7), (5, I y8.1), (7, .slice a10 y10.length c10), (74, .bool (!y14.1))] rfl fun b => ?_
          refine th_n ?_
          refine wp_cond_mkF (t := (!y14.1)) rfl (fun h => ?_) (fun h => ?_)
          · have hr := (if_pos h).symm.trans hr
            refine wp_seq ?_
            refine wp_reg ?_
            refine L_pure 3 [(77, pt p1 30)] (by kernel_rfl) fun b => ?_
            refine L_op rfl (O_run (v := I y14.2.broken) (w' := w) (R_load (hst.pull 2) rfl rfl) rfl rfl ?_)
            refine L_pure 1 [(4, I y14.2.broken)] (by kernel_rfl) fun b => ?_
            refine wpL_nil ?_
            refine th_n ?_
            refine wp_ret ?_
            refine th_r ?_
            refine ret1 rfl rfl ?_
            obtain rfl := Option.some.inj hr
            have hst := osl_freeze hst
            have hst := ((((((hst.pull 4).pull 4).pull 4).pull 4).pull 4).cut 5 1)
            exact hR a13 c13 a14 c14 _ hst
          · have hr := (if_neg (by rw [h]; exact Bool.false_ne_true)).symm.trans hr
            refine wp_skip ?_
            refine th_n ?_
            refine wp_seq ?_
            refine wp_reg ?_
            refine L_pure 7 [(1, S x7), (5, I y8.1), (7, .slice a10 y10.length c10), (79, pt p1 0), (80, pt p1 0), (81, pt p1 0), (82, pt p1 0), (85, pt p1 12)] (by kernel_rfl) fun b => ?_
            refine L_op rfl (O_run (v := I y14.2.applied) (w' := w) (R_load (hst.pull 2) rfl rfl) rfl rfl ?_)
            refine L_pure 6 [(80, pt p1 0), (81, pt p1 0), (82, pt p1 0), (86, I y14.2.applied), (87, I y8.1), (88, S x7), (89, .slice a10 y10.length c10), (92, pt p1 5)] (by kernel_rfl) fun b => ?_
            refine L_op rfl (O_store [I y14.2.id, I y14.2.n, pt p2 0, I y14.2.st.Term, I y14.2.st.Vote, I y14.2.applied, I y14.2.st.BaseTerm, S y14.2.st.Snap, .slice a13 y14.2.st.Log.length c13, I y14.2.role, I y14.2.leader, I y14.2.commit, I y14.2.applied, I y14.2.timer, .bool (y14.2.votes 0), .bool (y14.2.votes 1), .bool (y14.2.votes 2), .bool (y14.2.votes 3), .bool (y14.2.votes 4), I (y14.2.next 0), I (y14.2.next 1), I (y14.2.next 2), I (y14.2.next 3), I (y14.2.next 4), I (y14.2.match_ 0), I (y14.2.match_ 1), I (y14.2.match_ 2), I (y14.2.match_ 3), I (y14.2.match_ 4), .slice a14 y14.2.out.length c14, I y14.2.broken] (hst.pull 2) rfl rfl (by kernel_rfl) fun w hst => ?_)
            refine L_pure 3 [(81, pt p1 0), (82, pt p1 0), (87, I y8.1), (88, S x7), (89, .slice a10 y10.length c10), (95, pt p1 6)] (by kernel_rfl) fun b => ?_
            refine L_op rfl (O_store [I y14.2.id, I y14.2.n, pt p2 0, I y14.2.st.Term, I y14.2.st.Vote, I y14.2.applied, I y8.1, S y14.2.st.Snap, .slice a13 y14.2.st.Log.length c13, I y14.2.role, I y14.2.leader, I y14.2.commit, I y14.2.applied, I y14.2.timer, .bool (y14.2.votes 0), .bool (y14.2.votes 1), .bool (y14.2.votes 2), .bool (y14.2.votes 3), .bool (y14.2.votes 4), I (y14.2.next 0), I (y14.2.next 1), I (y14.2.next 2), I (y14.2.next 3), I (y14.2.next 4), I (y14.2.match_ 0), I (y14.2.match_ 1), I (y14.2.match_ 2), I (y14.2.match_ 3), I (y14.2.match_ 4), .slice a14 y14.2.out.length c14, I y14.2.broken] hst rfl rfl (by kernel_rfl) fun w hst => ?_)
            refine L_pure 3 [(82, pt p1 0), (88, S x7), (89, .slice a10 y10.length c10), (98, pt p1 7)] (by kernel_rfl) fun b => ?_
            refine L_op rfl (O_store [I y14.2.id, I y14.2.n, pt p2 0, I y14.2.st.Term, I y14.2.st.Vote, I y14.2.applied, I y8.1, S x7, .slice a13 y14.2.st.Log.length c13, I y14.2.role, I y14.2.leader, I y14.2.commit, I y14.2.applied, I y14.2.timer, .bool (y14.2.votes 0), .bool (y14.2.votes 1), .bool (y14.2.votes 2), .bool (y14.2.votes 3), .bool (y14.2.votes 4), I (y14.2.next 0), I (y14.2.next 1), I (y14.2.next 2), I (y14.2.next 3), I (y14.2.next 4), I (y14.2.match_ 0), I (y14.2.match_ 1), I (y14.2.match_ 2), I (y14.2.match_ 3), I (y14.2.match_ 4), .slice a14 y14.2.out.length c14, I y14.2.broken] hst rfl rfl (by kernel_rfl) fun w hst => ?_)
            refine L_pure 3 [(89, .slice a10 y10.length c10), (101, pt p1 8)] (by kernel_rfl) fun b => ?_
            refine L_op rfl (O_store [I y14.2.id, I y14.2.n, pt p2 0, I y14.2.st.Term, I y14.2.st.Vote, I y14.2.applied, I y8.1, S x7, .slice a10 y10.length c10, I y14.2.role, I y14.2.leader, I y14.2.commit, I y14.2.applied, I y14.2.timer, .bool (y14.2.votes 0), .bool (y14.2.votes 1), .bool (y14.2.votes 2), .bool (y14.2.votes 3), .bool (y14.2.votes 4), I (y14.2.next 0), I (y14.2.next 1), I (y14.2.next 2), I (y14.2.next 3), I (y14.2.next 4), I (y14.2.match_ 0), I (y14.2.match_ 1), I (y14.2.match_ 2), I (y14.2.match_ 3), I (y14.2.match_ 4), .slice a14 y14.2.out.length c14, I y14.2.broken] hst rfl rfl (by kernel_rfl) fun w hst => ?_)
            refine wpL_nil ?_
            refine th_n ?_
            refine wp_seq ?_
            refine wp_reg ?_
            refine L_pure 1 [(4, I 0)] (by kernel_rfl) fun b => ?_
            refine wpL_nil ?_
            refine th_n ?_
            refine wp_ret ?_
            refine ret1 rfl rfl ?_
            obtain rfl := Option.some.inj hr
            have hst := ((((((hst.pull 4).pull 4).pull 2).pull 4).pull 5).cut 5 1)
            exact hR a10 c10 a14 c14 _ hst
      · have hr := hy9
        refine wp_regG (SN { w with drawn := w.drawn + 1 }) rfl ?_
        have hst := hst.draw (n := w.drawn + 1)
        generalize { w with drawn := w.drawn + 1 } = w at hst ⊢
        refine C_take (i := 0) (v := .bool y8.2) rfl (by kernel_rfl) (fun _ _ _ h => h) rfl rfl rfl (R_pure (by kernel_rfl)) ?_
        refine C_take (i := 1) (v := .bool (!y8.2)) rfl (by kernel_rfl) (fun _ _ _ h => h) rfl rfl rfl (R_pure (by kernel_rfl)) ?_
        refine C_take (i := 2) (v := .bool (!y8.2)) rfl (by kernel_rfl) (fun _ _ _ h => h) rfl rfl rfl (R_pure (by kernel_rfl)) ?_
        by_cases h : (!y8.2) = true
        · have hr := (if_pos h).symm.trans hr
          refine C_keep ((33, .bool (!y8.2)) :: [(0, pt p1 0), (1, S x7), (5, I y8.1), (6, .bool y8.2), (31, .bool y8.2), (32, .bool (!y8.2))]) rfl fun b => ?_
          refine C_bool h ?_
          refine C_skip (i := 3) rfl (by kernel_rfl) (fun _ _ _ h => h) rfl rfl rfl ?_
          refine C_skip (i := 4) rfl (by kernel_rfl) (fun _ _ _ h => h) rfl rfl rfl ?_
          refine C_skip (i := 5) rfl (by kernel_rfl) (fun _ _ _ h => h) rfl rfl rfl ?_
          refine C_skip (i := 6) rfl (by kernel_rfl) (fun _ _ _ h => h) rfl rfl rfl ?_
          refine C_skip (i := 7) rfl (by kernel_rfl) (fun _ _ _ h => h) rfl rfl rfl ?_
          refine C_skip (i := 8) rfl (by kernel_rfl) (fun _ _ _ h => h) rfl rfl rfl ?_
          refine C_skip (i := 9) rfl (by kernel_rfl) (fun _ _ _ h => h) rfl rfl rfl ?_
          refine C_skip (i := 10) rfl (by kernel_rfl) (fun _ _ _ h => h) rfl rfl rfl ?_
          refine C_skip (i := 11) rfl (by kernel_rfl) (fun _ _ _ h => h) rfl rfl rfl ?_
          refine C_skip (i := 12) rfl (by kernel_rfl) (fun _ _ _ h => h) rfl rfl rfl ?_
          refine C_take (i := 13) (v := .bool true) rfl (by kernel_rfl) (fun _ _ _ h => h) rfl rfl rfl (R_pure (by kernel_rfl)) ?_
          refine wpG_done (by kernel_rfl) ?_ _
          refine C_keepQ [(0, pt p1 0), (1, S x7), (5, I y8.1), (44, .bool true)] rfl fun b => ?_
          refine th_n ?_
          obtain rfl := Option.some.inj hr
          have hst := (((((hst.pull 4).pull 4).pull 4).pull 4).pull 4)
          exact (kpX [(0, pt p1 0), (1, S x7), (5, I y8.1), (44, .bool true)] rfl hst)
        · have hr := (if_neg h).symm.trans hr
          refine C_keep ((33, .bool (!y8.2)) :: [(0, pt p1 0), (1, S x7), (5, I y8.1), (6, .bool y8.2), (31, .bool y8.2), (32, .bool (!y8.2))]) rfl fun b => ?_
          refine C_bool (eq_false_of_ne_true h) ?_
          refine C_take (i := 3) (v := pt p1 0) rfl (by kernel_rfl) (fun _ _ _ h => h) rfl rfl rfl (R_pure (by kernel_rfl)) ?_
          refine C_take (i := 4) (v := pt p1 0) rfl (by kernel_rfl) (fun _ _ _ h => h) rfl rfl rfl (R_pure (by kernel_rfl)) ?_
          refine C_take (i := 5) (v := pt p1 12) rfl (by kernel_rfl) (fun _ _ _ h => h) rfl rfl rfl (R_pure (by kernel_rfl)) ?_
          refine C_take (i := 6) (v := I x1.applied) rfl (by kernel_rfl) (fun _ _ _ h => h) rfl rfl rfl (R_load hst rfl rfl) ?_
          refine C_take (i := 7) (v := pt p1 0) rfl (by kernel_rfl) (fun _ _ _ h => h) rfl rfl rfl (R_pure (by kernel_rfl)) ?_
          refine C_take (i := 8) (v := pt p1 0) rfl (by kernel_rfl) (fun _ _ _ h => h) rfl rfl rfl (R_pure (by kernel_rfl)) ?_
          refine C_take (i := 9) (v := pt p1 3) rfl (by kernel_rfl) (fun _ _ _ h => h) rfl rfl rfl (R_pure (by kernel_rfl)) ?_
          refine C_take (i := 10) (v := pt p1 5) rfl (by kernel_rfl) (fun _ _ _ h => h) rfl rfl rfl (R_pure (by kernel_rfl)) ?_
          refine C_take (i := 11) (v := I x1.st.Base) rfl (by kernel_rfl) (fun _ _ _ h => h) rfl rfl rfl (R_load hst rfl rfl) ?_
          refine C_take (i := 12) (v := .bool (x1.applied == x1.st.Base)) rfl (by kernel_rfl) (fun _ _ _ h => h) rfl rfl rfl (R_pure (by kernel_rfl)) ?_
          refine C_take (i := 13) (v := .bool (x1.applied == x1.st.Base)) rfl (by kernel_rfl) (fun _ _ _ h => h) rfl rfl rfl (R_pure (by kernel_rfl)) ?_
          refine wpG_done (by kernel_rfl) ?_ _
          refine C_keepQ [(0, pt p1 0), (1, S x7), (5, I y8.1), (44, .bool (x1.applied == x1.st.Base))] rfl fun b => ?_
          refine th_n ?_
          obtain rfl := Option.some.inj hr
          have hst := (((((hst.pull 4).pull 4).pull 4).pull 4).pull 4)
          exact (kpX [(0, pt p1 0), (1, S x7), (5, I y8.1), (44, .bool (x1.applied == x1.st.Base))] rfl hst)
def term_State_TermAt_2 (_k : Nat) (x1 : T_raft_Node) (_x2 : Int) (_x3 : Int) (_x4 : Bool) (_x5 : Int) (_x6 : (List ((List UInt8) × (Option T_platter_file)))) (x7 : Int) : Option (Int × Bool) := (if (x7 == x1.st.Base) = true then some (x1.st.BaseTerm, true) else (Option.bind (if decide (x7 < x1.st.Base) = true then some (true) else some (decide (x7 > (IntKind.i64.wrap (x1.st.Base + (x1.st.Log.length : Int)))))) fun y2 => (if y2 = true then some ((0 : Int), false) else (Option.bind (gt x1.st.Log (IntKind.i64.wrap ((IntKind.i64.wrap (x7 - x1.st.Base)) - 1))) fun x9 => some (x9.Term, true)))))
set_option maxRecDepth 100000 in
set_option maxHeartbeats 4000000 in
theorem term_State_TermAt_2_ok {G w : World} {F : List HP} {R : Ending → World → Prop} (k : Nat) (x1 : T_raft_Node) (x2 : Int) (x3 : Int) (x4 : Bool) (x5 : Int) (x6 : (List ((List UInt8) × (Option T_platter_file)))) (x7 : Int) (p1 : Nat) (p2 : Nat) (p3 : Nat) (a1 : Option Addr) (c1 : Nat) (a2 : Option Addr) (c2 : Nat) (r : (Int × Bool)) (hst : St G w (blk p1 (cl [I x1.id, I x1.n, pt p2 0, I x1.st.Term, I x1.st.Vote, I x1.st.Base, I x1.st.BaseTerm, S x1.st.Snap, .slice a1 x1.st.Log.length c1, I x1.role, I x1.leader, I x1.commit, I x1.applied, I x1.timer, .bool (x1.votes 0), .bool (x1.votes 1), .bool (x1.votes 2), .bool (x1.votes 3), .bool (x1.votes 4), I (x1.next 0), I (x1.next 1), I (x1.next 2), I (x1.next 3), I (x1.next 4), I (x1.match_ 0), I (x1.match_ 1), I (x1.match_ 2), I (x1.match_ 3), I (x1.match_ 4), .slice a2 x1.out.length c2, I x1.broken] 63) :: blk p2 (cl [I x2, I x3, .bool x4, I x5, .map (some p3)] 91) :: mpr S (rPt r_T_platter_file) p3 x6 :: dsl r_T_term_Entry a1 c1 x1.st.Log :: osl r_T_raft_Msg 105 a2 c2 x1.out :: F)) (hr : term_State_TermAt_2 k x1 x2 x3 x4 x5 x6 x7 = some r)
    (hR : ∀ w', St G w' (blk p1 (cl [I x1.id, I x1.n, pt p2 0, I x1.st.Term, I x1.st.Vote, I x1.st.Base, I x1.st.BaseTerm, S x1.st.Snap, .slice a1 x1.st.Log.length c1, I x1.role, I x1.leader, I x1.commit, I x1.applied, I x1.timer, .bool (x1.votes 0), .bool (x1.votes 1), .bool (x1.votes 2), .bool (x1.votes 3), .bool (x1.votes 4), I (x1.next 0), I (x1.next 1), I (x1.next 2), I (x1.next 3), I (x1.next 4), I (x1.match_ 0), I (x1.match_ 1), I (x1.match_ 2), I (x1.match_ 3), I (x1.match_ 4), .slice a2 x1.out.length c2, I x1.broken] 63) :: blk p2 (cl [I x2, I x3, .bool x4, I x5, .map (some p3)] 91) :: mpr S (rPt r_T_platter_file) p3 x6 :: dsl r_T_term_Entry a1 c1 x1.st.Log :: osl r_T_raft_Msg 105 a2 c2 x1.out :: F) → R (.returned (.tuple #[I r.1, .bool r.2])) w') :
    Calls Try.prog 30 #[pt p1 3, I x7] w R := by
  unfold term_State_TermAt_2 at hr
  refine enter Try.func30 rfl [(0, pt p1 3), (1, I x7)] rfl rfl fun b => ?_
  refine wp_seq ?_
  refine wp_reg ?_
  refine L_pure 2 [(0, pt p1 3), (1, I x7)] (by kernel_rfl) fun b => ?_
  refine wpL_nil ?_
  refine th_n ?_
  refine wp_seq ?_
  refine wp_seq ?_
  refine wp_reg ?_
  refine L_pure 4 [(0, pt p1 3), (1, I x7), (6, I x7), (9, pt p1 5)] (by kernel_rfl) fun b => ?_
  refine L_op rfl (O_run (v := I x1.st.Base) (w' := w) (R_load hst rfl rfl) rfl rfl ?_)
  refine L_pure 1 [(0, pt p1 3), (1, I x7), (11, .bool (x7 == x1.st.Base))] (by kernel_rfl) fun b => ?_
  refine wpL_nil ?_
  refine th_n ?_
  refine wp_cond_mkF (t := (x7 == x1.st.Base)) rfl (fun h => ?_) (fun h => ?_)
  · have hr := (if_pos h).symm.trans hr
    refine wp_seq ?_
    refine wp_reg ?_
    refine L_pure 3 [(14, pt p1 6)] (by kernel_rfl) fun b => ?_
    refine L_op rfl (O_run (v := I x1.st.BaseTerm) (w' := w) (R_load hst rfl rfl) rfl rfl ?_)
    refine L_pure 2 [(4, I x1.st.BaseTerm), (5, .bool true)] (by kernel_rfl) fun b => ?_
    refine wpL_nil ?_
    refine th_n ?_
    refine wp_ret ?_
    refine th_r ?_
    refine ret2 rfl rfl rfl ?_
    obtain rfl := Option.some.inj hr
    have hst := (((((hst.pull 4).pull 4).pull 4).pull 4).pull 4)
    exact hR _ hst
  · have hr := (if_neg (by rw [h]; exact Bool.false_ne_true)).symm.trans hr
    refine wp_skip ?_
    refine th_n ?_
    refine wp_seq ?_
    obtain ⟨y2, hy2, hk2⟩ := bnd hr
    clear hr
    refine wp_seq_cut (fun a w => ∃ (b : Nat → Value), a = mkF 50 b [(0, pt p1 3), (1, I x7), (35, .bool y2)] ∧ St G w (blk p1 (cl [I x1.id, I x1.n, pt p2 0, I x1.st.Term, I x1.st.Vote, I x1.st.Base, I x1.st.BaseTerm, S x1.st.Snap, .slice a1 x1.st.Log.length c1, I x1.role, I x1.leader, I x1.commit, I x1.applied, I x1.timer, .bool (x1.votes 0), .bool (x1.votes 1), .bool (x1.votes 2), .bool (x1.votes 3), .bool (x1.votes 4), I (x1.next 0), I (x1.next 1), I (x1.next 2), I (x1.next 3), I (x1.next 4), I (x1.match_ 0), I (x1.match_ 1), I (x1.match_ 2), I (x1.match_ 3), I (x1.match_ 4), .slice a2 x1.out.length c2, I x1.broken] 63) :: blk p2 (cl [I x2, I x3, .bool x4, I x5, .map (some p3)] 91) :: mpr S (rPt r_T_platter_file) p3 x6 :: dsl r_T_term_Entry a1 c1 x1.st.Log :: osl r_T_raft_Msg 105 a2 c2 x1.out :: F)) ?_ ?_
    · rintro _ w ⟨b, rfl, hst⟩
      have hr := hk2
      refine wp_cond_mkF (t := y2) rfl (fun h => ?_) (fun h => ?_)
      · have hr := (if_pos h).symm.trans hr
        refine wp_seq ?_
        refine wp_reg ?_
        refine L_pure 2 [(4, I 0), (5, .bool false)] (by kernel_rfl) fun b => ?_
        refine wpL_nil ?_
        refine th_n ?_
        refine wp_ret ?_
        refine th_r ?_
        refine ret2 rfl rfl rfl ?_
        obtain rfl := Option.some.inj hr
        have hst := (((((hst.pull 4).pull 4).pull 4).pull 4).pull 4)
        exact hR _ hst
      · have hr := (if_neg (by rw [h]; exact Bool.false_ne_true)).symm.trans hr
        refine wp_skip ?_
        refine th_n ?_
        refine wp_seq ?_
        refine wp_regG (SN { w with drawn := w.drawn + 1 }) rfl ?_
        have hst := hst.draw (n := w.drawn + 1)
        generalize { w with drawn := w.drawn + 1 } = w at hst ⊢
        refine C_take (i := 0) (v := pt p1 3) rfl (by kernel_rfl) (fun _ _ _ h => h) rfl rfl rfl (R_pure (by kernel_rfl)) ?_
        refine C_take (i := 1) (v := pt p1 3) rfl (by kernel_rfl) (fun _ _ _ h => h) rfl rfl rfl (R_pure (by kernel_rfl)) ?_
        refine C_take (i := 2) (v := pt p1 8) rfl (by kernel_rfl) (fun _ _ _ h => h) rfl rfl rfl (R_pure (by kernel_rfl)) ?_
        refine C_take (i := 3) (v := .slice a1 x1.st.Log.length c1) rfl (by kernel_rfl) (fun _ _ _ h => h) rfl rfl rfl (R_load hst rfl rfl) ?_
        refine C_take (i := 4) (v := I x7) rfl (by kernel_rfl) (fun _ _ _ h => h) rfl rfl rfl (R_pure (by kernel_rfl)) ?_
        refine C_take (i := 5) (v := pt p1 3) rfl (by kernel_rfl) (fun _ _ _ h => h) rfl rfl rfl (R_pure (by kernel_rfl)) ?_
        refine C_take (i := 6) (v := pt p1 3) rfl (by kernel_rfl) (fun _ _ _ h => h) rfl rfl rfl (R_pure (by kernel_rfl)) ?_
        refine C_take (i := 7) (v := pt p1 5) rfl (by kernel_rfl) (fun _ _ _ h => h) rfl rfl rfl (R_pure (by kernel_rfl)) ?_
        refine C_take (i := 8) (v := I x1.st.Base) rfl (by kernel_rfl) (fun _ _ _ h => h) rfl rfl rfl (R_load hst rfl rfl) ?_
        refine C_take (i := 9) (v := I (IntKind.i64.wrap (x7 - x1.st.Base))) rfl (by kernel_rfl) (fun _ _ _ h => h) rfl rfl rfl (R_pure (by kernel_rfl)) ?_
        refine C_take (i := 10) (v := I (IntKind.i64.wrap ((IntKind.i64.wrap (x7 - x1.st.Base)) - 1))) rfl (by kernel_rfl) (fun _ _ _ h => h) rfl rfl rfl (R_pure (by kernel_rfl)) ?_
        obtain ⟨x9, hx2, hr⟩ := bnd hr
        refine C_take (i := 11) (v := pt (ab a1) (ao a1 + (IntKind.i64.wrap ((IntKind.i64.wrap (x7 - x1.st.Base)) - 1)).toNat * 3)) rfl (by kernel_rfl) (fun _ _ _ h => h) rfl rfl rfl (R_ia L40 rfl rfl (dsl_addr (hst.pull 3) hx2) (gt_some hx2).1 (gt_some hx2).2.1) ?_
        refine C_take (i := 12) (v := pt (ab a1) (ao a1 + (IntKind.i64.wrap ((IntKind.i64.wrap (x7 - x1.st.Base)) - 1)).toNat * 3 + 1)) rfl (by kernel_rfl) (fun _ _ _ h => h) rfl rfl rfl (R_pure (by kernel_rfl)) ?_
        obtain ⟨q2, hc2, hst⟩ := dsl_cells (hst.pull 3) hx2
        have hst := hst.drop
        refine C_take (i := 13) (v := I x9.Term) rfl (by kernel_rfl) (fun _ _ _ h => h) rfl rfl rfl (R_loadAt (off := ao a1 + (IntKind.i64.wrap ((IntKind.i64.wrap (x7 - x1.st.Base)) - 1)).toNat * 3) (j := 1) hc2 rfl rfl) ?_
        refine C_take (i := 14) (v := I x9.Term) rfl (by kernel_rfl) (fun _ _ _ h => h) rfl rfl rfl (R_pure (by kernel_rfl)) ?_
        refine C_take (i := 15) (v := .bool true) rfl (by kernel_rfl) (fun _ _ _ h => h) rfl rfl rfl (R_pure (by kernel_rfl)) ?_
        refine wpG_done (by kernel_rfl) ?_ _
        refine C_keepQ [(4, I x9.Term), (5, .bool true)] rfl fun b => ?_
        refine th_n ?_
        refine wp_ret ?_
        refine ret2 rfl rfl rfl ?_
        obtain rfl := Option.some.inj hr
        have hst := (((((hst.pull 4).pull 1).pull 4).pull 4).pull 4)
        exact hR _ hst
    · have hr := hy2
      refine wp_regG (SN { w with drawn := w.drawn + 1 }) rfl ?_
      have hst := hst.draw (n := w.drawn + 1)
      generalize { w with drawn := w.drawn + 1 } = w at hst ⊢
      refine C_take (i := 0) (v := I x7) rfl (by kernel_rfl) (fun _ _ _ h => h) rfl rfl rfl (R_pure (by kernel_rfl)) ?_
      refine C_take (i := 1) (v := pt p1 3) rfl (by kernel_rfl) (fun _ _ _ h => h) rfl rfl rfl (R_pure (by kernel_rfl)) ?_
      refine C_take (i := 2) (v := pt p1 3) rfl (by kernel_rfl) (fun _ _ _ h => h) rfl rfl rfl (R_pure (by kernel_rfl)) ?_
      refine C_take (i := 3) (v := pt p1 5) rfl (by kernel_rfl) (fun _ _ _ h => h) rfl rfl rfl (R_pure (by kernel_rfl)) ?_
      refine C_take (i := 4) (v := I x1.st.Base) rfl (by kernel_rfl) (fun _ _ _ h => h) rfl rfl rfl (R_load hst rfl rfl) ?_
      refine C_take (i := 5) (v := .bool (decide (x7 < x1.st.Base))) rfl (by kernel_rfl) (fun _ _ _ h => h) rfl rfl rfl (R_pure (by kernel_rfl)) ?_
      refine C_take (i := 6) (v := .bool (decide (x7 < x1.st.Base))) rfl (by kernel_rfl) (fun _ _ _ h => h) rfl rfl rfl (R_pure (by kernel_rfl)) ?_
      by_cases h : (decide (x7 < x1.st.Base)) = true
      · have hr := (if_pos h).symm.trans hr
        refine C_keep ((22, .bool (decide (x7 < x1.st.Base))) :: [(0, pt p1 3), (1, I x7), (11, .bool (x7 == x1.st.Base)), (16, I x7), (17, pt p1 3), (18, pt p1 3), (19, pt p1 5), (20, I x1.st.Base), (21, .bool (decide (x7 < x1.st.Base)))]) rfl fun b => ?_
        refine C_bool h ?_
        refine C_skip (i := 7) rfl (by kernel_rfl) (fun _ _ _ h => h) rfl rfl rfl ?_
        refine C_skip (i := 8) rfl (by kernel_rfl) (fun _ _ _ h => h) rfl rfl rfl ?_
        refine C_skip (i := 9) rfl (by kernel_rfl) (fun _ _ _ h => h) rfl rfl rfl ?_
        refine C_skip (i := 10) rfl (by kernel_rfl) (fun _ _ _ h => h) rfl rfl rfl ?_
        refine C_skip (i := 11) rfl (by kernel_rfl) (fun _ _ _ h => h) rfl rfl rfl ?_
        refine C_skip (i := 12) rfl (by kernel_rfl) (fun _ _ _ h => h) rfl rfl rfl ?_
        refine C_skip (i := 13) rfl (by kernel_rfl) (fun _ _ _ h => h) rfl rfl rfl ?_
        refine C_skip (i := 14) rfl (by kernel_rfl) (fun _ _ _ h => h) rfl rfl rfl ?_
        refine C_skip (i := 15) rfl (by kernel_rfl) (fun _ _ _ h => h) rfl rfl rfl ?_
        refine C_skip (i := 16) rfl (by kernel_rfl) (fun _ _ _ h => h) rfl rfl rfl ?_
        refine C_skip (i := 17) rfl (by kernel_rfl) (fun _ _ _ h => h) rfl rfl rfl ?_
        refine C_skip (i := 18) rfl (by kernel_rfl) (fun _ _ _ h => h) rfl rfl rfl ?_
        refine C_take (i := 19) (v := .bool true) rfl (by kernel_rfl) (fun _ _ _ h => h) rfl rfl rfl (R_pure (by kernel_rfl)) ?_
        refine wpG_done (by kernel_rfl) ?_ _
        refine C_keepQ [(0, pt p1 3), (1, I x7), (35, .bool true)] rfl fun b => ?_
        refine th_n ?_
        obtain rfl := Option.some.inj hr
        have hst := (((((hst.pull 4).pull 4).pull 4).pull 4).pull 4)
        exact (kpX [(0, pt p1 3), (1, I x7), (35, .bool true)] rfl hst)
      · have hr := (if_neg h).symm.trans hr
        refine C_keep ((22, .bool (decide (x7 < x1.st.Base))) :: [(0, pt p1 3), (1, I x7), (11, .bool (x7 == x1.st.Base)), (16, I x7), (17, pt p1 3), (18, pt p1 3), (19, pt p1 5), (20, I x1.st.Base), (21, .bool (decide (x7 < x1.st.Base)))]) rfl fun b => ?_
        refine C_bool (eq_false_of_ne_true h) ?_
        refine C_take (i := 7) (v := I x7) rfl (by kernel_rfl) (fun _ _ _ h => h) rfl rfl rfl (R_pure (by kernel_rfl)) ?_
        refine C_take (i := 8) (v := pt p1 3) rfl (by kernel_rfl) (fun _ _ _ h => h) rfl rfl rfl (R_pure (by kernel_rfl)) ?_
        refine C_take (i := 9) (v := pt p1 3) rfl (by kernel_rfl) (fun _ _ _ h => h) rfl rfl rfl (R_pure (by kernel_rfl)) ?_
        refine C_take (i := 10) (v := pt p1 5) rfl (by kernel_rfl) (fun _ _ _ h => h) rfl rfl rfl (R_pure (by kernel_rfl)) ?_
        refine C_take (i := 11) (v := I x1.st.Base) rfl (by kernel_rfl) (fun _ _ _ h => h) rfl rfl rfl (R_load hst rfl rfl) ?_
        refine C_take (i := 12) (v := pt p1 3) rfl (by kernel_rfl) (fun _ _ _ h => h) rfl rfl rfl (R_pure (by kernel_rfl)) ?_
        refine C_take (i := 13) (v := pt p1 3) rfl (by kernel_rfl) (fun _ _ _ h => h) rfl rfl rfl (R_pure (by kernel_rfl)) ?_
        refine C_take (i := 14) (v := pt p1 8) rfl (by kernel_rfl) (fun _ _ _ h => h) rfl rfl rfl (R_pure (by kernel_rfl)) ?_
        refine C_take (i := 15) (v := .slice a1 x1.st.Log.length c1) rfl (by kernel_rfl) (fun _ _ _ h => h) rfl rfl rfl (R_load hst rfl rfl) ?_
        refine C_take (i := 16) (v := I (x1.st.Log.length : Int)) rfl (by kernel_rfl) (fun _ _ _ h => h) rfl rfl rfl (R_pure (by kernel_rfl)) ?_
        refine C_take (i := 17) (v := I (IntKind.i64.wrap (x1.st.Base + (x1.st.Log.length : Int)))) rfl (by kernel_rfl) (fun _ _ _ h => h) rfl rfl rfl (R_pure (by kernel_rfl)) ?_
        refine C_take (i := 18) (v := .bool (decide (x7 > (IntKind.i64.wrap (x1.st.Base + (x1.st.Log.length : Int)))))) rfl (by kernel_rfl) (fun _ _ _ h => h) rfl rfl rfl (R_pure (by kernel_rfl)) ?_
        refine C_take (i := 19) (v := .bool (decide (x7 > (IntKind.i64.wrap (x1.st.Base + (x1.st.Log.length : Int)))))) rfl (by kernel_rfl) (fun _ _ _ h => h) rfl rfl rfl (R_pure (by kernel_rfl)) ?_
        refine wpG_done (by kernel_rfl) ?_ _
        refine C_keepQ [(0, pt p1 3), (1, I x7), (35, .bool (decide (x7 > (IntKind.i64.wrap (x1.st.Base + (x1.st.Log.length : Int))))))] rfl fun b => ?_
        refine th_n ?_
        obtain rfl := Option.some.inj hr
        have hst := (((((hst.pull 4).pull 4).pull 4).pull 4).pull 4)
        exact (kpX [(0, pt p1 3), (1, I x7), (35, .bool (decide (x7 > (IntKind.i64.wrap (x1.st.Base + (x1.st.Log.length : Int))))))] rfl hst)
def term_State_From_2 (_k : Nat) (x1 : T_raft_Node) (_x2 : Int) (_x3 : Int) (_x4 : Bool) (_x5 : Int) (_x6 : (List ((List UInt8) × (Option T_platter_file)))) (x7 : Int) (x8 : Int) : Option ((List T_term_Entry)) := (Option.bind (if decide ((IntKind.i64.wrap ((IntKind.i64.wrap (x7 - x1.st.Base)) - 1)) < 0) = true then some (true) else some (decide ((IntKind.i64.wrap ((IntKind.i64.wrap (x7 - x1.st.Base)) - 1)) > (x1.st.Log.length : Int)))) fun y3 => (if y3 = true then some ([]) else (Option.bind (Option.bind (sl x1.st.Log (IntKind.i64.wrap ((IntKind.i64.wrap (x7 - x1.st.Base)) - 1)) (IntKind.i64.wrap ((IntKind.i64.wrap ((IntKind.i64.wrap (x7 - x1.st.Base)) - 1)) + (mn2 (mx2 x8 0) (IntKind.i64.wrap ((x1.st.Log.length : Int) - (IntKind.i64.wrap ((IntKind.i64.wrap (x7 - x1.st.Base)) - 1)))))))) fun x10 => (if room (([] : List T_term_Entry).length + x10.length) 32 = true then some (([] ++ x10)) else none)) fun y4 => some (y4))))
set_option maxRecDepth 100000 in
set_option maxHeartbeats 4000000 in
theorem term_State_From_2_ok {G w : World} {F : List HP} {R : Ending → World → Prop} (k : Nat) (x1 : T_raft_Node) (x2 : Int) (x3 : Int) (x4 : Bool) (x5 : Int) (x6 : (List ((List UInt8) × (Option T_platter_file)))) (x7 : Int) (x8 : Int) (p1 : Nat) (p2 : Nat) (p3 : Nat) (a1 : Option Addr) (c1 : Nat) (a2 : Option Addr) (c2 : Nat) (r : ((List T_term_Entry))) (hst : St G w (blk p1 (cl [I x1.id, I x1.n, pt p2 0, I x1.st.Term, I x1.st.Vote, I x1.st.Base, I x1.st.BaseTerm, S x1.st.Snap, .slice a1 x1.st.Log.length c1, I x1.role, I x1.leader, I x1.commit, I x1.applied, I x1.timer, .bool (x1.votes 0), .bool (x1.votes 1), .bool (x1.votes 2), .bool (x1.votes 3), .bool (x1.votes 4), I (x1.next 0), I (x1.next 1), I (x1.next 2), I (x1.next 3), I (x1.next 4), I (x1.match_ 0), I (x1.match_ 1), I (x1.match_ 2), I (x1.match_ 3), I (x1.match_ 4), .slice a2 x1.out.length c2, I x1.broken] 63) :: blk p2 (cl [I x2, I x3, .bool x4, I x5, .map (some p3)] 91) :: mpr S (rPt r_T_platter_file) p3 x6 :: dsl r_T_term_Entry a1 c1 x1.st.Log :: osl r_T_raft_Msg 105 a2 c2 x1.out :: F)) (hr : term_State_From_2 k x1 x2 x3 x4 x5 x6 x7 x8 = some r)
    (hR : ∀ (a6 : Option Addr) (c6 : Nat) w', St G w' (osl r_T_term_Entry 55 a6 c6 r :: blk p1 (cl [I x1.id, I x1.n, pt p2 0, I x1.st.Term, I x1.st.Vote, I x1.st.Base, I x1.st.BaseTerm, S x1.st.Snap, .slice a1 x1.st.Log.length c1, I x1.role, I x1.leader, I x1.commit, I x1.applied, I x1.timer, .bool (x1.votes 0), .bool (x1.votes 1), .bool (x1.votes 2), .bool (x1.votes 3), .bool (x1.votes 4), I (x1.next 0), I (x1.next 1), I (x1.next 2), I (x1.next 3), I (x1.next 4), I (x1.match_ 0), I (x1.match_ 1), I (x1.match_ 2), I (x1.match_ 3), I (x1.match_ 4), .slice a2 x1.out.length c2, I x1.broken] 63) :: blk p2 (cl [I x2, I x3, .bool x4, I x5, .map (some p3)] 91) :: mpr S (rPt r_T_platter_file) p3 x6 :: dsl r_T_term_Entry a1 c1 x1.st.Log :: osl r_T_raft_Msg 105 a2 c2 x1.out :: F) → R (.returned (.slice a6 r.length c6)) w') :
    Calls Try.prog 28 #[pt p1 3, I x7, I x8] w R := by
  unfold term_State_From_2 at hr
  refine enter Try.func28 rfl [(0, pt p1 3), (1, I x7), (2, I x8)] rfl rfl fun b => ?_
  refine wp_seq ?_
  refine wp_reg ?_
  refine L_pure 1 [(0, pt p1 3), (1, I x7), (2, I x8)] (by kernel_rfl) fun b => ?_
  refine wpL_nil ?_
  refine th_n ?_
  refine wp_seq ?_
  refine wp_reg ?_
  refine L_pure 4 [(0, pt p1 3), (2, I x8), (8, I x7), (11, pt p1 5)] (by kernel_rfl) fun b => ?_
  refine L_op rfl (O_run (v := I x1.st.Base) (w' := w) (R_load hst rfl rfl) rfl rfl ?_)
  refine L_pure 3 [(0, pt p1 3), (2, I x8), (7, I (IntKind.i64.wrap ((IntKind.i64.wrap (x7 - x1.st.Base)) - 1)))] (by kernel_rfl) fun b => ?_
  refine wpL_nil ?_
  refine th_n ?_
  refine wp_seq ?_
  obtain ⟨y3, hy3, hk3⟩ := bnd hr
  clear hr
  refine wp_seq_cut (fun a w => ∃ (b : Nat → Value), a = mkF 46 b [(0, pt p1 3), (2, I x8), (7, I (IntKind.i64.wrap ((IntKind.i64.wrap (x7 - x1.st.Base)) - 1))), (25, .bool y3)] ∧ St G w (blk p1 (cl [I x1.id, I x1.n, pt p2 0, I x1.st.Term, I x1.st.Vote, I x1.st.Base, I x1.st.BaseTerm, S x1.st.Snap, .slice a1 x1.st.Log.length c1, I x1.role, I x1.leader, I x1.commit, I x1.applied, I x1.timer, .bool (x1.votes 0), .bool (x1.votes 1), .bool (x1.votes 2), .bool (x1.votes 3), .bool (x1.votes 4), I (x1.next 0), I (x1.next 1), I (x1.next 2), I (x1.next 3), I (x1.next 4), I (x1.match_ 0), I (x1.match_ 1), I (x1.match_ 2), I (x1.match_ 3), I (x1.match_ 4), .slice a2 x1.out.length c2, I x1.broken] 63) :: blk p2 (cl [I x2, I x3, .bool x4, I x5, .map (some p3)] 91) :: mpr S (rPt r_T_platter_file) p3 x6 :: dsl r_T_term_Entry a1 c1 x1.st.Log :: osl r_T_raft_Msg 105 a2 c2 x1.out :: F)) ?_ ?_
  · rintro _ w ⟨b, rfl, hst⟩
    have hr := hk3
    refine wp_cond_mkF (t := y3) rfl (fun h => ?_) (fun h => ?_)
    · have hr := (if_pos h).symm.trans hr
      refine wp_seq ?_
      refine wp_reg ?_
      refine L_pure 1 [(6, .slice none 0 0)] (by kernel_rfl) fun b => ?_
      refine wpL_nil ?_
      refine th_n ?_
      refine wp_ret ?_
      refine th_r ?_
      refine ret1 rfl rfl ?_
      obtain rfl := Option.some.inj hr
      have hst := osl_nil r_T_term_Entry 55 hst
      have hst := ((((((hst.pull 5).pull 5).pull 5).pull 5).pull 5).pull 5)
      exact hR none 0 _ hst
    · have hr := (if_neg (by rw [h]; exact Bool.false_ne_true)).symm.trans hr
      refine wp_skip ?_
      refine th_n ?_
      obtain ⟨y4, hy4, hk4⟩ := bnd hr
      clear hr
      refine wp_seq_cut (fun a w => ∃ (a7 : Option Addr) (c7 : Nat)(b : Nat → Value), a = mkF 46 b [(6, .slice a7 y4.length c7)] ∧ St G w (osl r_T_term_Entry 55 a7 c7 y4 :: dsl r_T_term_Entry a1 c1 x1.st.Log :: blk p1 (cl [I x1.id, I x1.n, pt p2 0, I x1.st.Term, I x1.st.Vote, I x1.st.Base, I x1.st.BaseTerm, S x1.st.Snap, .slice a1 x1.st.Log.length c1, I x1.role, I x1.leader, I x1.commit, I x1.applied, I x1.timer, .bool (x1.votes 0), .bool (x1.votes 1), .bool (x1.votes 2), .bool (x1.votes 3), .bool (x1.votes 4), I (x1.next 0), I (x1.next 1), I (x1.next 2), I (x1.next 3), I (x1.next 4), I (x1.match_ 0), I (x1.match_ 1), I (x1.match_ 2), I (x1.match_ 3), I (x1.match_ 4), .slice a2 x1.out.length c2, I x1.broken] 63) :: blk p2 (cl [I x2, I x3, .bool x4, I x5, .map (some p3)] 91) :: mpr S (rPt r_T_platter_file) p3 x6 :: osl r_T_raft_Msg 105 a2 c2 x1.out :: F)) ?_ ?_
      · rintro _ w ⟨a7, c7, b, rfl, hst⟩
        have hr := hk4
        refine wp_ret ?_
        refine ret1 rfl rfl ?_
        obtain rfl := Option.some.inj hr
        have hst := ((((((hst.pull 5).pull 2).pull 5).pull 5).pull 5).pull 5)
        exact hR a7 c7 _ hst
      · have hr := hy4
        refine wp_regG SA rfl ?_
        have hst := hst.draw (n := w.drawn + 1)
        generalize { w with drawn := w.drawn + 1 } = w at hst ⊢
        refine A_take (i := 1) (v := pt p1 3) rfl (by kernel_rfl) (fun _ _ _ h => h) rfl rfl rfl (fun _ => R_pure (by kernel_rfl)) ?_
        refine A_take (i := 2) (v := pt p1 3) rfl (by kernel_rfl) (fun _ _ _ h => h) rfl rfl rfl (fun _ => R_pure (by kernel_rfl)) ?_
        refine A_take (i := 3) (v := pt p1 8) rfl (by kernel_rfl) (fun _ _ _ h => h) rfl rfl rfl (fun _ => R_pure (by kernel_rfl)) ?_
        refine A_take (i := 5) (v := I (IntKind.i64.wrap ((IntKind.i64.wrap (x7 - x1.st.Base)) - 1))) rfl (by kernel_rfl) (fun _ _ _ h => h) rfl rfl rfl (fun _ => R_pure (by kernel_rfl)) ?_
        refine A_take (i := 6) (v := I (IntKind.i64.wrap ((IntKind.i64.wrap (x7 - x1.st.Base)) - 1))) rfl (by kernel_rfl) (fun _ _ _ h => h) rfl rfl rfl (fun _ => R_pure (by kernel_rfl)) ?_
        refine A_take (i := 7) (v := I x8) rfl (by kernel_rfl) (fun _ _ _ h => h) rfl rfl rfl (fun _ => R_pure (by kernel_rfl)) ?_
        refine A_take (i := 8) (v := I (mx2 x8 0)) rfl (by kernel_rfl) (fun _ _ _ h => h) rfl rfl rfl (fun _ => R_pure (by kernel_rfl)) ?_
        refine A_take (i := 9) (v := pt p1 3) rfl (by kernel_rfl) (fun _ _ _ h => h) rfl rfl rfl (fun _ => R_pure (by kernel_rfl)) ?_
        refine A_take (i := 10) (v := pt p1 3) rfl (by kernel_rfl) (fun _ _ _ h => h) rfl rfl rfl (fun _ => R_pure (by kernel_rfl)) ?_
        refine A_take (i := 11) (v := pt p1 8) rfl (by kernel_rfl) (fun _ _ _ h => h) rfl rfl rfl (fun _ => R_pure (by kernel_rfl)) ?_
        refine A_take (i := 14) (v := I (IntKind.i64.wrap ((IntKind.i64.wrap (x7 - x1.st.Base)) - 1))) rfl (by kernel_rfl) (fun _ _ _ h => h) rfl rfl rfl (fun _ => R_pure (by kernel_rfl)) ?_
        refine A_all [0, 4, 12] (by kernel_rfl) ⟨⟨_, rfl, rfl, ?_⟩, ⟨_, rfl, rfl, ?_⟩, ⟨_, rfl, rfl, ?_⟩, trivial⟩
        · refine O_bs (T := 55) [] #[] hst (by kernel_rfl) (by kernel_rfl) rfl fun p5 w hst => ?_
          have hst := osl_of_blk0 (ecs := []) r_T_term_Entry [] rfl (fun m => trivial) rfl hst
          refine A_all [4, 12] (by kernel_rfl) ⟨⟨_, rfl, rfl, ?_⟩, ⟨_, rfl, rfl, ?_⟩, trivial⟩
          · refine O_run (v := .slice a1 x1.st.Log.length c1) (w' := w) (R_load (hst.pull 1) rfl rfl) rfl rfl ?_
            refine A_all [12] (by kernel_rfl) ⟨⟨_, rfl, rfl, ?_⟩, trivial⟩
            refine O_run (v := .slice a1 x1.st.Log.length c1) (w' := w) (R_load (hst.pull 1) rfl rfl) rfl rfl ?_
            refine A_take (i := 13) (v := I (x1.st.Log.length : Int)) rfl (by kernel_rfl) (fun _ _ _ h => h) rfl rfl rfl (fun _ => R_pure (by kernel_rfl)) ?_
            refine A_take (i := 15) (v := I (IntKind.i64.wrap ((x1.st.Log.length : Int) - (IntKind.i64.wrap ((IntKind.i64.wrap (x7 - x1.st.Base)) - 1))))) rfl (by kernel_rfl) (fun _ _ _ h => h) rfl rfl rfl (fun _ => R_pure (by kernel_rfl)) ?_
            refine A_take (i := 16) (v := I (mn2 (mx2 x8 0) (IntKind.i64.wrap ((x1.st.Log.length : Int) - (IntKind.i64.wrap ((IntKind.i64.wrap (x7 - x1.st.Base)) - 1)))))) rfl (by kernel_rfl) (fun _ _ _ h => h) rfl rfl rfl (fun _ => R_pure (by kernel_rfl)) ?_
            refine A_take (i := 17) (v := I (IntKind.i64.wrap ((IntKind.i64.wrap ((IntKind.i64.wrap (x7 - x1.st.Base)) - 1)) + (mn2 (mx2 x8 0) (IntKind.i64.wrap ((x1.st.Log.length : Int) - (IntKind.i64.wrap ((IntKind.i64.wrap (x7 - x1.st.Base)) - 1)))))))) rfl (by kernel_rfl) (fun _ _ _ h => h) rfl rfl rfl (fun _ => R_pure (by kernel_rfl)) ?_
            obtain ⟨x10, hx2, hr⟩ := bnd hr
            refine A_slice_d (i := 18) rfl (by kernel_rfl) (fun _ _ _ _ h => h) rfl L40 (hst.pull 4) rfl rfl rfl hx2 rfl fun a8 c8 hst => ?_
            refine A_all [19] (by kernel_rfl) ⟨⟨_, rfl, rfl, ?_⟩, trivial⟩
            obtain ⟨hb2, hr⟩ := chk hr
            refine O_app_d L40 (hst.pull 2) rfl rfl hb2 rfl fun a9 c9 w hst => ?_
            refine A_take (i := 20) (v := .slice a9 ([] ++ x10).length c9) rfl (by kernel_rfl) (fun _ _ _ h => h) rfl rfl rfl (fun _ => R_pure (by kernel_rfl)) ?_
            refine wpG_done (by kernel_rfl) ?_ _
            refine C_keepQ [(6, .slice a9 ([] ++ x10).length c9)] rfl fun b => ?_
            refine th_n ?_
            obtain rfl := Option.some.inj hr
            have hst := (((((((hst.pull 6).pull 6).pull 6).pull 6).pull 6).pull 5).cut 6 1)
            exact ⟨a9, c9, (kpX [(6, .slice a9 ([] ++ x10).length c9)] rfl hst)⟩
          · refine O_run (v := .slice a1 x1.st.Log.length c1) (w' := w) (R_load (hst.pull 1) rfl rfl) rfl rfl ?_
            refine A_take (i := 13) (v := I (x1.st.Log.length : Int)) rfl (by kernel_rfl) (fun _ _ _ h => h) rfl rfl rfl (fun _ => R_pure (by kernel_rfl)) ?_
            refine A_take (i := 15) (v := I (IntKind.i64.wrap ((x1.st.Log.length : Int) - (IntKind.i64.wrap ((IntKind.i64.wrap (x7 - x1.st.Base)) - 1))))) rfl (by kernel_rfl) (fun _ _ _ h => h) rfl rfl rfl (fun _ => R_pure (by kernel_rfl)) ?_
            refine A_take (i := 16) (v := I (mn2 (mx2 x8 0) (IntKind.i64.wrap ((x1.st.Log.length : Int) - (IntKind.i64.wrap ((IntKind.i64.wrap (x7 - x1.st.Base)) - 1)))))) rfl (by kernel_rfl) (fun _ _ _ h => h) rfl rfl rfl (fun _ => R_pure (by kernel_rfl)) ?_
            refine A_take (i := 17) (v := I (IntKind.i64.wrap ((IntKind.i64.wrap ((IntKind.i64.wrap (x7 - x1.st.Base)) - 1)) + (mn2 (mx2 x8 0) (IntKind.i64.wrap ((x1.st.Log.length : Int) - (IntKind.i64.wrap ((IntKind.i64.wrap (x7 - x1.st.Base)) - 1)))))))) rfl (by kernel_rfl) (fun _ _ _ h => h) rfl rfl rfl (fun _ => R_pure (by kernel_rfl)) ?_
            refine A_all [4] (by kernel_rfl) ⟨⟨_, rfl, rfl, ?_⟩, trivial⟩
            refine O_run (v := .slice a1 x1.st.Log.length c1) (w' := w) (R_load (hst.pull 1) rfl rfl) rfl rfl ?_
            obtain ⟨x10, hx2, hr⟩ := bnd hr
            refine A_slice_d (i := 18) rfl (by kernel_rfl) (fun _ _ _ _ h => h) rfl L40 (hst.pull 4) rfl rfl rfl hx2 rfl fun a8 c8 hst => ?_
            refine A_all [19] (by kernel_rfl) ⟨⟨_, rfl, rfl, ?_⟩, trivial⟩
            obtain ⟨hb2, hr⟩ := chk hr
            refine O_app_d L40 (hst.pull 2) rfl rfl hb2 rfl fun a9 c9 w hst => ?_
            refine A_take (i := 20) (v := .slice a9 ([] ++ x10).length c9) rfl (by kernel_rfl) (fun _ _ _ h => h) rfl rfl rfl (fun _ => R_pure (by kernel_rfl)) ?_
            refine wpG_done (by kernel_rfl) ?_ _
            refine C_keepQ [(6, .slice a9 ([] ++ x10).length c9)] rfl fun b => ?_
            refine th_n ?_
            obtain rfl := Option.some.inj hr
            have hst := (((((((hst.pull 6).pull 6).pull 6).pull 6).pull 6).pull 5).cut 6 1)
            exact ⟨a9, c9, (kpX [(6, .slice a9 ([] ++ x10).length c9)] rfl hst)⟩
        · refine O_run (v := .slice a1 x1.st.Log.length c1) (w' := w) (R_load hst rfl rfl) rfl rfl ?_
          refine A_all [0, 12] (by kernel_rfl) ⟨⟨_, rfl, rfl, ?_⟩, ⟨_, rfl, rfl, ?_⟩, trivial⟩
          · refine O_bs (T := 55) [] #[] hst (by kernel_rfl) (by kernel_rfl) rfl fun p5 w hst => ?_
            have hst := osl_of_blk0 (ecs := []) r_T_term_Entry [] rfl (fun m => trivial) rfl hst
            refine A_all [12] (by kernel_rfl) ⟨⟨_, rfl, rfl, ?_⟩, trivial⟩
            refine O_run (v := .slice a1 x1.st.Log.length c1) (w' := w) (R_load (hst.pull 1) rfl rfl) rfl rfl ?_
            refine A_take (i := 13) (v := I (x1.st.Log.length : Int)) rfl (by kernel_rfl) (fun _ _ _ h => h) rfl rfl rfl (fun _ => R_pure (by kernel_rfl)) ?_
            refine A_take (i := 15) (v := I (IntKind.i64.wrap ((x1.st.Log.length : Int) - (IntKind.i64.wrap ((IntKind.i64.wrap (x7 - x1.st.Base)) - 1))))) rfl (by kernel_rfl) (fun _ _ _ h => h) rfl rfl rfl (fun _ => R_pure (by kernel_rfl)) ?_
            refine A_take (i := 16) (v := I (mn2 (mx2 x8 0) (IntKind.i64.wrap ((x1.st.Log.length : Int) - (IntKind.i64.wrap ((IntKind.i64.wrap (x7 - x1.st.Base)) - 1)))))) rfl (by kernel_rfl) (fun _ _ _ h => h) rfl rfl rfl (fun _ => R_pure (by kernel_rfl)) ?_
            refine A_take (i := 17) (v := I (IntKind.i64.wrap ((IntKind.i64.wrap ((IntKind.i64.wrap (x7 - x1.st.Base)) - 1)) + (mn2 (mx2 x8 0) (IntKind.i64.wrap ((x1.st.Log.length : Int) - (IntKind.i64.wrap ((IntKind.i64.wrap (x7 - x1.st.Base)) - 1)))))))) rfl (by kernel_rfl) (fun _ _ _ h => h) rfl rfl rfl (fun _ => R_pure (by kernel_rfl)) ?_
            obtain ⟨x10, hx2, hr⟩ := bnd hr
            refine A_slice_d (i := 18) rfl (by kernel_rfl) (fun _ _ _ _ h => h) rfl L40 (hst.pull 4) rfl rfl rfl hx2 rfl fun a8 c8 hst => ?_
            refine A_all [19] (by kernel_rfl) ⟨⟨_, rfl, rfl, ?_⟩, trivial⟩
            obtain ⟨hb2, hr⟩ := chk hr
            refine O_app_d L40 (hst.pull 2) rfl rfl hb2 rfl fun a9 c9 w hst => ?_
            refine A_take (i := 20) (v := .slice a9 ([] ++ x10).length c9) rfl (by kernel_rfl) (fun _ _ _ h => h) rfl rfl rfl (fun _ => R_pure (by kernel_rfl)) ?_
            refine wpG_done (by kernel_rfl) ?_ _
            refine C_keepQ [(6, .slice a9 ([] ++ x10).length c9)] rfl fun b => ?_
            refine th_n ?_
            obtain rfl := Option.some.inj hr
            have hst := (((((((hst.pull 6).pull 6).pull 6).pull 6).pull 6).pull 5).cut 6 1)
            exact ⟨a9, c9, (kpX [(6, .slice a9 ([] ++ x10).length c9)] rfl hst)⟩
          · refine O_run (v := .slice a1 x1.st.Log.length c1) (w' := w) (R_load hst rfl rfl) rfl rfl ?_
            refine A_take (i := 13) (v := I (x1.st.Log.length : Int)) rfl (by kernel_rfl) (fun _ _ _ h => h) rfl rfl rfl (fun _ => R_pure (by kernel_rfl)) ?_
            refine A_take (i := 15) (v := I (IntKind.i64.wrap ((x1.st.Log.length : Int) - (IntKind.i64.wrap ((IntKind.i64.wrap (x7 - x1.st.Base)) - 1))))) rfl (by kernel_rfl) (fun _ _ _ h => h) rfl rfl rfl (fun _ => R_pure (by kernel_rfl)) ?_
            refine A_take (i := 16) (v := I (mn2 (mx2 x8 0) (IntKind.i64.wrap ((x1.st.Log.length : Int) - (IntKind.i64.wrap ((IntKind.i64.wrap (x7 - x1.st.Base)) - 1)))))) rfl (by kernel_rfl) (fun _ _ _ h => h) rfl rfl rfl (fun _ => R_pure (by kernel_rfl)) ?_
            refine A_take (i := 17) (v := I (IntKind.i64.wrap ((IntKind.i64.wrap ((IntKind.i64.wrap (x7 - x1.st.Base)) - 1)) + (mn2 (mx2 x8 0) (IntKind.i64.wrap ((x1.st.Log.length : Int) - (IntKind.i64.wrap ((IntKind.i64.wrap (x7 - x1.st.Base)) - 1)))))))) rfl (by kernel_rfl) (fun _ _ _ h => h) rfl rfl rfl (fun _ => R_pure (by kernel_rfl)) ?_
            obtain ⟨x10, hx2, hr⟩ := bnd hr
            refine A_slice_d (i := 18) rfl (by kernel_rfl) (fun _ _ _ _ h => h) rfl L40 (hst.pull 3) rfl rfl rfl hx2 rfl fun a8 c8 hst => ?_
            refine A_all [0] (by kernel_rfl) ⟨⟨_, rfl, rfl, ?_⟩, trivial⟩
            refine O_bs (T := 55) [] #[] hst (by kernel_rfl) (by kernel_rfl) rfl fun p5 w hst => ?_
            have hst := osl_of_blk0 (ecs := []) r_T_term_Entry [] rfl (fun m => trivial) rfl hst
            refine A_all [19] (by kernel_rfl) ⟨⟨_, rfl, rfl, ?_⟩, trivial⟩
            obtain ⟨hb2, hr⟩ := chk hr
            refine O_app_d L40 ((hst.pull 1).pull 1) rfl rfl hb2 rfl fun a9 c9 w hst => ?_
            refine A_take (i := 20) (v := .slice a9 ([] ++ x10).length c9) rfl (by kernel_rfl) (fun _ _ _ h => h) rfl rfl rfl (fun _ => R_pure (by kernel_rfl)) ?_
            refine wpG_done (by kernel_rfl) ?_ _
            refine C_keepQ [(6, .slice a9 ([] ++ x10).length c9)] rfl fun b => ?_
            refine th_n ?_
            obtain rfl := Option.some.inj hr
            have hst := (((((((hst.pull 6).pull 6).pull 6).pull 6).pull 6).pull 5).cut 6 1)
            exact ⟨a9, c9, (kpX [(6, .slice a9 ([] ++ x10).length c9)] rfl hst)⟩
        · refine O_run (v := .slice a1 x1.st.Log.length c1) (w' := w) (R_load hst rfl rfl) rfl rfl ?_
          refine A_take (i := 13) (v := I (x1.st.Log.length : Int)) rfl (by kernel_rfl) (fun _ _ _ h => h) rfl rfl rfl (fun _ => R_pure (by kernel_rfl)) ?_
          refine A_take (i := 15) (v := I (IntKind.i64.wrap ((x1.st.Log.length : Int) - (IntKind.i64.wrap ((IntKind.i64.wrap (x7 - x1.st.Base)) - 1))))) rfl (by kernel_rfl) (fun _ _ _ h => h) rfl rfl rfl (fun _ => R_pure (by kernel_rfl)) ?_
          refine A_take (i := 16) (v := I (mn2 (mx2 x8 0) (IntKind.i64.wrap ((x1.st.Log.length : Int) - (IntKind.i64.wrap ((IntKind.i64.wrap (x7 - x1.st.Base)) - 1)))))) rfl (by kernel_rfl) (fun _ _ _ h => h) rfl rfl rfl (fun _ => R_pure (by kernel_rfl)) ?_
          refine A_take (i := 17) (v := I (IntKind.i64.wrap ((IntKind.i64.wrap ((IntKind.i64.wrap (x7 - x1.st.Base)) - 1)) + (mn2 (mx2 x8 0) (IntKind.i64.wrap ((x1.st.Log.length : Int) - (IntKind.i64.wrap ((IntKind.i64.wrap (x7 - x1.st.Base)) - 1)))))))) rfl (by kernel_rfl) (fun _ _ _ h => h) rfl rfl rfl (fun _ => R_pure (by kernel_rfl)) ?_
          refine A_all [0, 4] (by kernel_rfl) ⟨⟨_, rfl, rfl, ?_⟩, ⟨_, rfl, rfl, ?_⟩, trivial⟩
          · refine O_bs (T := 55) [] #[] hst (by kernel_rfl) (by kernel_rfl) rfl fun p5 w hst => ?_
            have hst := osl_of_blk0 (ecs := []) r_T_term_Entry [] rfl (fun m => trivial) rfl hst
            refine A_all [4] (by kernel_rfl) ⟨⟨_, rfl, rfl, ?_⟩, trivial⟩
            refine O_run (v := .slice a1 x1.st.Log.length c1) (w' := w) (R_load (hst.pull 1) rfl rfl) rfl rfl ?_
            obtain ⟨x10, hx2, hr⟩ := bnd hr
            refine A_slice_d (i := 18) rfl (by kernel_rfl) (fun _ _ _ _ h => h) rfl L40 (hst.pull 4) rfl rfl rfl hx2 rfl fun a8 c8 hst => ?_
            refine A_all [19] (by kernel_rfl) ⟨⟨_, rfl, rfl, ?_⟩, trivial⟩
            obtain ⟨hb2, hr⟩ := chk hr
            refine O_app_d L40 (hst.pull 2) rfl rfl hb2 rfl fun a9 c9 w hst => ?_
            refine A_take (i := 20) (v := .slice a9 ([] ++ x10).length c9) rfl (by kernel_rfl) (fun _ _ _ h => h) rfl rfl rfl (fun _ => R_pure (by kernel_rfl)) ?_
            refine wpG_done (by kernel_rfl) ?_ _
            refine C_keepQ [(6, .slice a9 ([] ++ x10).length c9)] rfl fun b => ?_
            refine th_n ?_
            obtain rfl := Option.some.inj hr
            have hst := (((((((hst.pull 6).pull 6).pull 6).pull 6).pull 6).pull 5).cut 6 1)
            exact ⟨a9, c9, (kpX [(6, .slice a9 ([] ++ x10).length c9)] rfl hst)⟩
          · refine O_run (v := .slice a1 x1.st.Log.length c1) (w' := w) (R_load hst rfl rfl) rfl rfl ?_
            obtain ⟨x10, hx2, hr⟩ := bnd hr
            refine A_slice_d (i := 18) rfl (by kernel_rfl) (fun _ _ _ _ h => h) rfl L40 (hst.pull 3) rfl rfl rfl hx2 rfl fun a8 c8 hst => ?_
            refine A_all [0] (by kernel_rfl) ⟨⟨_, rfl, rfl, ?_⟩, trivial⟩
            refine O_bs (T := 55) [] #[] hst (by kernel_rfl) (by kernel_rfl) rfl fun p5 w hst => ?_
            have hst := osl_of_blk0 (ecs := []) r_T_term_Entry [] rfl (fun m => trivial) rfl hst
            refine A_all [19] (by kernel_rfl) ⟨⟨_, rfl, rfl, ?_⟩, trivial⟩
            obtain ⟨hb2, hr⟩ := chk hr
            refine O_app_d L40 ((hst.pull 1).pull 1) rfl rfl hb2 rfl fun a9 c9 w hst => ?_
            refine A_take (i := 20) (v := .slice a9 ([] ++ x10).length c9) rfl (by kernel_rfl) (fun _ _ _ h => h) rfl rfl rfl (fun _ => R_pure (by kernel_rfl)) ?_
            refine wpG_done (by kernel_rfl) ?_ _
            refine C_keepQ [(6, .slice a9 ([] ++ x10).length c9)] rfl fun b => ?_
            refine th_n ?_
            obtain rfl := Option.some.inj hr
            have hst := (((((((hst.pull 6).pull 6).pull 6).pull 6).pull 6).pull 5).cut 6 1)
            exact ⟨a9, c9, (kpX [(6, .slice a9 ([] ++ x10).length c9)] rfl hst)⟩
  · have hr := hy3
    refine wp_reg ?_
    refine L_pure 3 [(0, pt p1 3), (2, I x8), (7, I (IntKind.i64.wrap ((IntKind.i64.wrap (x7 - x1.st.Base)) - 1))), (17, .bool (decide ((IntKind.i64.wrap ((IntKind.i64.wrap (x7 - x1.st.Base)) - 1)) < 0)))] (by kernel_rfl) fun b => ?_
    by_cases h : (decide ((IntKind.i64.wrap ((IntKind.i64.wrap (x7 - x1.st.Base)) - 1)) < 0)) = true
    · have hr := (if_pos h).symm.trans hr
      refine L_keep ((17, .bool (decide ((IntKind.i64.wrap ((IntKind.i64.wrap (x7 - x1.st.Base)) - 1)) < 0))) :: [(0, pt p1 3), (2, I x8), (7, I (IntKind.i64.wrap ((IntKind.i64.wrap (x7 - x1.st.Base)) - 1)))]) rfl fun b => ?_
      refine L_bool h ?_
      refine L_pure 8 [(0, pt p1 3), (2, I x8), (7, I (IntKind.i64.wrap ((IntKind.i64.wrap (x7 - x1.st.Base)) - 1))), (25, .bool true)] (by kernel_rfl) fun b => ?_
      refine wpL_nil ?_
      refine th_n ?_
      obtain rfl := Option.some.inj hr
      have hst := (((((hst.pull 4).pull 4).pull 4).pull 4).pull 4)
      exact (kpX [(0, pt p1 3), (2, I x8), (7, I (IntKind.i64.wrap ((IntKind.i64.wrap (x7 - x1.st.Base)) - 1))), (25, .bool true)] rfl hst)
    · have hr := (if_neg h).symm.trans hr
      refine L_keep ((17, .bool (decide ((IntKind.i64.wrap ((IntKind.i64.wrap (x7 - x1.st.Base)) - 1)) < 0))) :: [(0, pt p1 3), (2, I x8), (7, I (IntKind.i64.wrap ((IntKind.i64.wrap (x7 - x1.st.Base)) - 1)))]) rfl fun b => ?_
      refine L_bool (eq_false_of_ne_true h) ?_
      refine L_pure 4 [(0, pt p1 3), (2, I x8), (7, I (IntKind.i64.wrap ((IntKind.i64.wrap (x7 - x1.st.Base)) - 1))), (17, .bool false), (18, I (IntKind.i64.wrap ((IntKind.i64.wrap (x7 - x1.st.Base)) - 1))), (21, pt p1 8)] (by kernel_rfl) fun b => ?_
      refine L_op rfl (O_run (v := .slice a1 x1.st.Log.length c1) (w' := w) (R_load hst rfl rfl) rfl rfl ?_)
      refine L_pure 3 [(0, pt p1 3), (2, I x8), (7, I (IntKind.i64.wrap ((IntKind.i64.wrap (x7 - x1.st.Base)) - 1))), (25, .bool (decide ((IntKind.i64.wrap ((IntKind.i64.wrap (x7 - x1.st.Base)) - 1)) > (x1.st.Log.length : Int))))] (by kernel_rfl) fun b => ?_
      refine wpL_nil ?_
      refine th_n ?_
      obtain rfl := Option.some.inj hr
      have hst := (((((hst.pull 4).pull 4).pull 4).pull 4).pull 4)
      exact (kpX [(0, pt p1 3), (2, I x8), (7, I (IntKind.i64.wrap ((IntKind.i64.wrap (x7 - x1.st.Base)) - 1))), (25, .bool (decide ((IntKind.i64.wrap ((IntKind.i64.wrap (x7 - x1.st.Base)) - 1)) > (x1.st.Log.length : Int))))] rfl hst)
def raft_Node_check_2 (_k : Nat) (x1 : T_raft_Node) (_x2 : Int) (_x3 : Int) (_x4 : Bool) (_x5 : Int) (_x6 : (List ((List UInt8) × (Option T_platter_file)))) (x7 : Int) : Option (Bool × T_raft_Node) := (Option.bind (Option.bind (if (x7 != 0) = true then some ((x1.broken == 0)) else some (false)) fun y4 => (if y4 = true then some ([], x7) else some (x1.out, x1.broken))) fun y3 => some ((y3.2 == 0), (T_raft_Node.mk x1.id x1.n x1.st x1.role x1.leader x1.commit x1.applied x1.timer x1.votes x1.next x1.match_ y3.1 y3.2)))
set_option maxRecDepth 100000 in
set_option maxHeartbeats 4000000 in
theorem raft_Node_check_2_ok {G w : World} {F : List HP} {R : Ending → World → Prop} (k : Nat) (x1 : T_raft_Node) (x2 : Int) (x3 : Int) (x4 : Bool) (x5 : Int) (x6 : (List ((List UInt8) × (Option T_platter_file)))) (x7 : Int) (p1 : Nat) (p2 : Nat) (p3 : Nat) (a1 : Option Addr) (c1 : Nat) (a2 : Option Addr) (c2 : Nat) (r : (Bool × T_raft_Node)) (hst : St G w (blk p1 (cl [I x1.id, I x1.n, pt p2 0, I x1.st.Term, I x1.st.Vote, I x1.st.Base, I x1.st.BaseTerm, S x1.st.Snap, .slice a1 x1.st.Log.length c1, I x1.role, I x1.leader, I x1.commit, I x1.applied, I x1.timer, .bool (x1.votes 0), .bool (x1.votes 1), .bool (x1.votes 2), .bool (x1.votes 3), .bool (x1.votes 4), I (x1.next 0), I (x1.next 1), I (x1.next 2), I (x1.next 3), I (x1.next 4), I (x1.match_ 0), I (x1.match_ 1), I (x1.match_ 2), I (x1.match_ 3), I (x1.match_ 4), .slice a2 x1.out.length c2, I x1.broken] 63) :: blk p2 (cl [I x2, I x3, .bool x4, I x5, .map (some p3)] 91) :: mpr S (rPt r_T_platter_file) p3 x6 :: dsl r_T_term_Entry a1 c1 x1.st.Log :: osl r_T_raft_Msg 105 a2 c2 x1.out :: F)) (hr : raft_Node_check_2 k x1 x2 x3 x4 x5 x6 x7 = some r)
    (hR : ∀ (a4 : Option Addr) (c4 : Nat) (a5 : Option Addr) (c5 : Nat) w', St G w' (dsl r_T_term_Entry a4 c4 r.2.st.Log :: osl r_T_raft_Msg 105 a5 c5 r.2.out :: blk p1 (cl [I r.2.id, I r.2.n, pt p2 0, I r.2.st.Term, I r.2.st.Vote, I r.2.st.Base, I r.2.st.BaseTerm, S r.2.st.Snap, .slice a4 r.2.st.Log.length c4, I r.2.role, I r.2.leader, I r.2.commit, I r.2.applied, I r.2.timer, .bool (r.2.votes 0), .bool (r.2.votes 1), .bool (r.2.votes 2), .bool (r.2.votes 3), .bool (r.2.votes 4), I (r.2.next 0), I (r.2.next 1), I (r.2.next 2), I (r.2.next 3), I (r.2.next 4), I (r.2.match_ 0), I (r.2.match_ 1), I (r.2.match_ 2), I (r.2.match_ 3), I (r.2.match_ 4), .slice a5 r.2.out.length c5, I r.2.broken] 63) :: blk p2 (cl [I x2, I x3, .bool x4, I x5, .map (some p3)] 91) :: mpr S (rPt r_T_platter_file) p3 x6 :: dsl r_T_term_Entry a1 c1 x1.st.Log :: F) → R (.returned (.bool r.1)) w') :
    Calls Try.prog 31 #[pt p1 0, I x7] w R := by
  unfold raft_Node_check_2 at hr
  refine enter Try.func31 rfl [(0, pt p1 0), (1, I x7)] rfl rfl fun b => ?_
  refine wp_seq ?_
  refine wp_reg ?_
  refine L_pure 1 [(0, pt p1 0), (1, I x7)] (by kernel_rfl) fun b => ?_
  refine wpL_nil ?_
  refine th_n ?_
  obtain ⟨y3, hy3, hk3⟩ := bnd hr
  clear hr
  refine wp_seq_cut (fun a w => ∃ (a6 : Option Addr) (c6 : Nat)(b : Nat → Value), a = mkF 26 b [(0, pt p1 0)] ∧ St G w (osl r_T_raft_Msg 105 a6 c6 y3.1 :: blk p1 (cl [I x1.id, I x1.n, pt p2 0, I x1.st.Term, I x1.st.Vote, I x1.st.Base, I x1.st.BaseTerm, S x1.st.Snap, .slice a1 x1.st.Log.length c1, I x1.role, I x1.leader, I x1.commit, I x1.applied, I x1.timer, .bool (x1.votes 0), .bool (x1.votes 1), .bool (x1.votes 2), .bool (x1.votes 3), .bool (x1.votes 4), I (x1.next 0), I (x1.next 1), I (x1.next 2), I (x1.next 3), I (x1.next 4), I (x1.match_ 0), I (x1.match_ 1), I (x1.match_ 2), I (x1.match_ 3), I (x1.match_ 4), .slice a6 y3.1.length c6, I y3.2] 63) :: blk p2 (cl [I x2, I x3, .bool x4, I x5, .map (some p3)] 91) :: mpr S (rPt r_T_platter_file) p3 x6 :: dsl r_T_term_Entry a1 c1 x1.st.Log :: F)) ?_ ?_
  · rintro _ w ⟨a6, c6, b, rfl, hst⟩
    have hr := hk3
    refine wp_seq ?_
    refine wp_reg ?_
    refine L_pure 3 [(23, pt p1 30)] (by kernel_rfl) fun b => ?_
    refine L_op rfl (O_run (v := I y3.2) (w' := w) (R_load (hst.pull 1) rfl rfl) rfl rfl ?_)
    refine L_pure 2 [(4, .bool (y3.2 == 0))] (by kernel_rfl) fun b => ?_
    refine wpL_nil ?_
    refine th_n ?_
    refine wp_ret ?_
    refine ret1 rfl rfl ?_
    obtain rfl := Option.some.inj hr
    have hst := (hst.pull 4).dup
    have hst := (((((hst.pull 5).pull 5).pull 5).pull 5).pull 5)
    exact hR a1 c1 a6 c6 _ hst
  · have hr := hy3
    obtain ⟨y4, hy4, hk4⟩ := bnd hr
    clear hr
    refine wp_seq_cut (fun a w => ∃ (b : Nat → Value), a = mkF 26 b [(0, pt p1 0), (1, I x7), (13, .bool y4)] ∧ St G w (blk p1 (cl [I x1.id, I x1.n, pt p2 0, I x1.st.Term, I x1.st.Vote, I x1.st.Base, I x1.st.BaseTerm, S x1.st.Snap, .slice a1 x1.st.Log.length c1, I x1.role, I x1.leader, I x1.commit, I x1.applied, I x1.timer, .bool (x1.votes 0), .bool (x1.votes 1), .bool (x1.votes 2), .bool (x1.votes 3), .bool (x1.votes 4), I (x1.next 0), I (x1.next 1), I (x1.next 2), I (x1.next 3), I (x1.next 4), I (x1.match_ 0), I (x1.match_ 1), I (x1.match_ 2), I (x1.match_ 3), I (x1.match_ 4), .slice a2 x1.out.length c2, I x1.broken] 63) :: blk p2 (cl [I x2, I x3, .bool x4, I x5, .map (some p3)] 91) :: mpr S (rPt r_T_platter_file) p3 x6 :: dsl r_T_term_Entry a1 c1 x1.st.Log :: osl r_T_raft_Msg 105 a2 c2 x1.out :: F)) ?_ ?_
    · rintro _ w ⟨b, rfl, hst⟩
      have hr := hk4
      refine wp_cond_mkF (t := y4) rfl (fun h => ?_) (fun h => ?_)
      · have hr := (if_pos h).symm.trans hr
        refine wp_seq ?_
        refine wp_reg ?_
        refine L_pure 4 [(0, pt p1 0), (15, I x7), (17, pt p1 30)] (by kernel_rfl) fun b => ?_
        refine L_op rfl (O_store [I x1.id, I x1.n, pt p2 0, I x1.st.Term, I x1.st.Vote, I x1.st.Base, I x1.st.BaseTerm, S x1.st.Snap, .slice a1 x1.st.Log.length c1, I x1.role, I x1.leader, I x1.commit, I x1.applied, I x1.timer, .bool (x1.votes 0), .bool (x1.votes 1), .bool (x1.votes 2), .bool (x1.votes 3), .bool (x1.votes 4), I (x1.next 0), I (x1.next 1), I (x1.next 2), I (x1.next 3), I (x1.next 4), I (x1.match_ 0), I (x1.match_ 1), I (x1.match_ 2), I (x1.match_ 3), I (x1.match_ 4), .slice a2 x1.out.length c2, I x7] hst rfl rfl (by kernel_rfl) fun w hst => ?_)
        refine wpL_nil ?_
        refine th_n ?_
        refine wp_reg ?_
        refine L_pure 3 [(0, pt p1 0), (20, pt p1 29)] (by kernel_rfl) fun b => ?_
        refine L_op rfl (O_store [I x1.id, I x1.n, pt p2 0, I x1.st.Term, I x1.st.Vote, I x1.st.Base, I x1.st.BaseTerm, S x1.st.Snap, .slice a1 x1.st.Log.length c1, I x1.role, I x1.leader, I x1.commit, I x1.applied, I x1.timer, .bool (x1.votes 0), .bool (x1.votes 1), .bool (x1.votes 2), .bool (x1.votes 3), .bool (x1.votes 4), I (x1.next 0), I (x1.next 1), I (x1.next 2), I (x1.next 3), I (x1.next 4), I (x1.match_ 0), I (x1.match_ 1), I (x1.match_ 2), I (x1.match_ 3), I (x1.match_ 4), .slice none 0 0, I x7] hst rfl rfl (by kernel_rfl) fun w hst => ?_)
        refine wpL_nil ?_
        refine th_n ?_
        obtain rfl := Option.some.inj hr
        have hst := osl_nil r_T_raft_Msg 105 hst
        have hst := ((((((hst.pull 4).pull 4).pull 4).pull 4).pull 4).cut 5 1)
        exact ⟨none, 0, (kpX [(0, pt p1 0)] rfl hst)⟩
      · have hr := (if_neg (by rw [h]; exact Bool.false_ne_true)).symm.trans hr
        refine wp_skip ?_
        refine th_n ?_
        obtain rfl := Option.some.inj hr
        have hst := (((((hst.pull 3).pull 3).pull 3).pull 3).pull 4)
        exact ⟨a2, c2, (kpX [(0, pt p1 0)] rfl hst)⟩
    · have hr := hy4
      refine wp_reg ?_
      refine L_pure 3 [(0, pt p1 0), (1, I x7), (7, .bool (x7 != 0))] (by kernel_rfl) fun b => ?_
      by_cases h : (x7 != 0) = true
      · have hr := (if_pos h).symm.trans hr
        refine L_keep ((7, .bool (x7 != 0)) :: [(0, pt p1 0), (1, I x7)]) rfl fun b => ?_
        refine L_bool h ?_
        refine L_pure 3 [(0, pt p1 0), (1, I x7), (7, .bool true), (10, pt p1 30)] (by kernel_rfl) fun b => ?_
        refine L_op rfl (O_run (v := I x1.broken) (w' := w) (R_load hst rfl rfl) rfl rfl ?_)
        refine L_pure 2 [(0, pt p1 0), (1, I x7), (13, .bool (x1.broken == 0))] (by kernel_rfl) fun b => ?_
        refine wpL_nil ?_
        refine th_n ?_
        obtain rfl := Option.some.inj hr
        have hst := (((((hst.pull 4).pull 4).pull 4).pull 4).pull 4)
        exact (kpX [(0, pt p1 0), (1, I x7), (13, .bool (x1.broken == 0))] rfl hst)
      · have hr := (if_neg h).symm.trans hr
        refine L_keep ((7, .bool (x7 != 0)) :: [(0, pt p1 0), (1, I x7)]) rfl fun b => ?_
        refine L_bool (eq_false_of_ne_true h) ?_
        refine L_pure 6 [(0, pt p1 0), (1, I x7), (13, .bool false)] (by kernel_rfl) fun b => ?_
        refine wpL_nil ?_
        refine th_n ?_
        obtain rfl := Option.some.inj hr
        have hst := (((((hst.pull 4).pull 4).pull 4).pull 4).pull 4)
        exact (kpX [(0, pt p1 0), (1, I x7), (13, .bool false)] rfl hst)
def raft_Node_Compact_2 (k : Nat) (x1 : T_raft_Node) (x2 : Int) (x3 : Int) (x4 : Bool) (x5 : Int) (x6 : (List ((List UInt8) × (Option T_platter_file)))) (x7 : (List UInt8)) : Option (Int × T_raft_Node × Int × Int × (List ((List UInt8) × (Option T_platter_file)))) := (if (x1.broken != 0) = true then some (x1.broken, x1, x3, x5, x6) else (if decide ((x7.length : Int) > 1000000) = true then some ((11 : Int), x1, x3, x5, x6) else (Option.bind (term_State_TermAt_2 k x1 x2 x3 x4 x5 x6 x1.applied) fun y8 => (Option.bind (if (!y8.2) = true then some (true) else some ((x1.applied == x1.st.Base))) fun y9 => (if y9 = true then some ((5 : Int), x1, x3, x5, x6) else (Option.bind (term_State_From_2 k x1 x2 x3 x4 x5 x6 (IntKind.i64.wrap (x1.applied + 1)) (x1.st.Log.length : Int)) fun y10 => (Option.bind (term_SaveSnap k x2 x3 x4 x5 x6 x1.applied y8.1 x7 y10) fun y13 => (Option.bind (raft_Node_check_2 k x1 x2 y13.2.1 x4 y13.2.2.1 y13.2.2.2 y13.1) fun y14 => (if (!y14.1) = true then some (y14.2.broken, y14.2, y13.2.1, y13.2.2.1, y13.2.2.2) else some ((0 : Int), (T_raft_Node.mk y14.2.id y14.2.n (T_term_State.mk y14.2.st.Term y14.2.st.Vote y14.2.applied y8.1 x7 y10) y14.2.role y14.2.leader y14.2.commit y14.2.applied y14.2.timer y14.2.votes y14.2.next y14.2.match_ y14.2.out y14.2.broken), y13.2.1, y13.2.2.1, y13.2.2.2))))))))))
set_option maxRecDepth 100000 in
set_option maxHeartbeats 4000000 in
theorem raft_Node_Compact_2_ok {G w : World} {F : List HP} {R : Ending → World → Prop} (k : Nat) (x1 : T_raft_Node) (x2 : Int) (x3 : Int) (x4 : Bool) (x5 : Int) (x6 : (List ((List UInt8) × (Option T_platter_file)))) (x7 : (List UInt8)) (p1 : Nat) (p2 : Nat) (p3 : Nat) (a1 : Option Addr) (c1 : Nat) (a2 : Option Addr) (c2 : Nat) (r : (Int × T_raft_Node × Int × Int × (List ((List UInt8) × (Option T_platter_file))))) (hst : St G w (blk p1 (cl [I x1.id, I x1.n, pt p2 0, I x1.st.Term, I x1.st.Vote, I x1.st.Base, I x1.st.BaseTerm, S x1.st.Snap, .slice a1 x1.st.Log.length c1, I x1.role, I x1.leader, I x1.commit, I x1.applied, I x1.timer, .bool (x1.votes 0), .bool (x1.votes 1), .bool (x1.votes 2), .bool (x1.votes 3), .bool (x1.votes 4), I (x1.next 0), I (x1.next 1), I (x1.next 2), I (x1.next 3), I (x1.next 4), I (x1.match_ 0), I (x1.match_ 1), I (x1.match_ 2), I (x1.match_ 3), I (x1.match_ 4), .slice a2 x1.out.length c2, I x1.broken] 63) :: blk p2 (cl [I x2, I x3, .bool x4, I x5, .map (some p3)] 91) :: mpr S (rPt r_T_platter_file) p3 x6 :: dsl r_T_term_Entry a1 c1 x1.st.Log :: osl r_T_raft_Msg 105 a2 c2 x1.out :: F)) (hr : raft_Node_Compact_2 k x1 x2 x3 x4 x5 x6 x7 = some r)
    (hR : ∀ (a8 : Option Addr) (c8 : Nat) (a9 : Option Addr) (c9 : Nat) w', St G w' (dsl r_T_term_Entry a8 c8 r.2.1.st.Log :: osl r_T_raft_Msg 105 a9 c9 r.2.1.out :: blk p1 (cl [I r.2.1.id, I r.2.1.n, pt p2 0, I r.2.1.st.Term, I r.2.1.st.Vote, I r.2.1.st.Base, I r.2.1.st.BaseTerm, S r.2.1.st.Snap, .slice a8 r.2.1.st.Log.length c8, I r.2.1.role, I r.2.1.leader, I r.2.1.commit, I r.2.1.applied, I r.2.1.timer, .bool (r.2.1.votes 0), .bool (r.2.1.votes 1), .bool (r.2.1.votes 2), .bool (r.2.1.votes 3), .bool (r.2.1.votes 4), I (r.2.1.next 0), I (r.2.1.next 1), I (r.2.1.next 2), I (r.2.1.next 3), I (r.2.1.next 4), I (r.2.1.match_ 0), I (r.2.1.match_ 1), I (r.2.1.match_ 2), I (r.2.1.match_ 3), I (r.2.1.match_ 4), .slice a9 r.2.1.out.length c9, I r.2.1.broken] 63) :: blk p2 (cl [I x2, I r.2.2.1, .bool x4, I r.2.2.2.1, .map (some p3)] 91) :: mpr S (rPt r_T_platter_file) p3 r.2.2.2.2 :: dsl r_T_term_Entry a1 c1 x1.st.Log :: F) → R (.returned (I r.1)) w') :
    Calls Try.prog 13 #[pt p1 0, S x7] w R := by
  unfold raft_Node_Compact_2 at hr
  refine enter Try.func13 rfl [(0, pt p1 0), (1, S x7)] rfl rfl fun b => ?_
  refine wp_seq ?_
  refine wp_reg ?_
  refine L_pure 1 [(0, pt p1 0), (1, S x7)] (by kernel_rfl) fun b => ?_
  refine wpL_nil ?_
  refine th_n ?_
  refine wp_seq ?_
  refine wp_seq ?_
  refine wp_reg ?_
  refine L_pure 3 [(0, pt p1 0), (1, S x7), (10, pt p1 30)] (by kernel_rfl) fun b => ?_
  refine L_op rfl (O_run (v := I x1.broken) (w' := w) (R_load hst rfl rfl) rfl rfl ?_)
  refine L_pure 1 [(0, pt p1 0), (1, S x7), (12, .bool (x1.broken != 0))] (by kernel_rfl) fun b => ?_
  refine wpL_nil ?_
  refine th_n ?_
  refine wp_cond_mkF (t := (x1.broken != 0)) rfl (fun h => ?_) (fun h => ?_)
  · have hr := (if_pos h).symm.trans hr
    refine wp_seq ?_
    refine wp_reg ?_
    refine L_pure 3 [(15, pt p1 30)] (by kernel_rfl) fun b => ?_
    refine L_op rfl (O_run (v := I x1.broken) (w' := w) (R_load hst rfl rfl) rfl rfl ?_)
    refine L_pure 1 [(4, I x1.broken)] (by kernel_rfl) fun b => ?_
    refine wpL_nil ?_
    refine th_n ?_
    refine wp_ret ?_
    refine th_r ?_
    refine ret1 rfl rfl ?_
    obtain rfl := Option.some.inj hr
    have hst := (hst.pull 3).dup
    have hst := (((((hst.pull 4).pull 4).pull 4).pull 5).pull 5)
    exact hR a1 c1 a2 c2 _ hst
  · have hr := (if_neg (by rw [h]; exact Bool.false_ne_true)).symm.trans hr
    refine wp_skip ?_
    refine th_n ?_
    refine wp_seq ?_
    refine wp_seq ?_
    refine wp_reg ?_
    refine L_pure 3 [(0, pt p1 0), (1, S x7), (19, .bool (decide ((x7.length : Int) > 1000000)))] (by kernel_rfl) fun b => ?_
    refine wpL_nil ?_
    refine th_n ?_
    refine wp_cond_mkF (t := decide ((x7.length : Int) > 1000000)) rfl (fun h => ?_) (fun h => ?_)
    · have hr := (if_pos h).symm.trans hr
      refine wp_seq ?_
      refine wp_reg ?_
      refine L_pure 1 [(4, I 11)] (by kernel_rfl) fun b => ?_
      refine wpL_nil ?_
      refine th_n ?_
      refine wp_ret ?_
      refine th_r ?_
      refine ret1 rfl rfl ?_
      obtain rfl := Option.some.inj hr
      have hst := (hst.pull 3).dup
      have hst := (((((hst.pull 4).pull 4).pull 4).pull 5).pull 5)
      exact hR a1 c1 a2 c2 _ hst
    · have hr := (if_neg (by rw [h]; exact Bool.false_ne_true)).symm.trans hr
      refine wp_skip ?_
      refine th_n ?_
      refine wp_seq ?_
      refine wp_regG (SQ (fun w => St G w (blk p1 (cl [I x1.id, I x1.n, pt p2 0, I x1.st.Term, I x1.st.Vote, I x1.st.Base, I x1.st.BaseTerm, S x1.st.Snap, .slice a1 x1.st.Log.length c1, I x1.role, I x1.leader, I x1.commit, I x1.applied, I x1.timer, .bool (x1.votes 0), .bool (x1.votes 1), .bool (x1.votes 2), .bool (x1.votes 3), .bool (x1.votes 4), I (x1.next 0), I (x1.next 1), I (x1.next 2), I (x1.next 3), I (x1.next 4), I (x1.match_ 0), I (x1.match_ 1), I (x1.match_ 2), I (x1.match_ 3), I (x1.match_ 4), .slice a2 x1.out.length c2, I x1.broken] 63) :: blk p2 (cl [I x2, I x3, .bool x4, I x5, .map (some p3)] 91) :: mpr S (rPt r_T_platter_file) p3 x6 :: dsl r_T_term_Entry a1 c1 x1.st.Log :: osl r_T_raft_Msg 105 a2 c2 x1.out :: F))) rfl ?_
      have hst := hst.draw (n := w.drawn + 1)
      generalize { w with drawn := w.drawn + 1 } = w at hst ⊢
      refine Q_take (i := 0) (v := pt p1 0) rfl (by kernel_rfl) (fun _ _ _ h => h) rfl rfl rfl (fun _ _ => R_pure (by kernel_rfl)) (((((hst.pull 4).pull 4).pull 4).pull 4).pull 4) ?_
      refine Q_take (i := 1) (v := pt p1 0) rfl (by kernel_rfl) (fun _ _ _ h => h) rfl rfl rfl (fun _ _ => R_pure (by kernel_rfl)) (((((hst.pull 4).pull 4).pull 4).pull 4).pull 4) ?_
      refine Q_take (i := 2) (v := pt p1 3) rfl (by kernel_rfl) (fun _ _ _ h => h) rfl rfl rfl (fun _ _ => R_pure (by kernel_rfl)) (((((hst.pull 4).pull 4).pull 4).pull 4).pull 4) ?_
      refine Q_take (i := 3) (v := pt p1 0) rfl (by kernel_rfl) (fun _ _ _ h => h) rfl rfl rfl (fun _ _ => R_pure (by kernel_rfl)) (((((hst.pull 4).pull 4).pull 4).pull 4).pull 4) ?_
      refine Q_take (i := 4) (v := pt p1 0) rfl (by kernel_rfl) (fun _ _ _ h => h) rfl rfl rfl (fun _ _ => R_pure (by kernel_rfl)) (((((hst.pull 4).pull 4).pull 4).pull 4).pull 4) ?_
      refine Q_take (i := 5) (v := pt p1 12) rfl (by kernel_rfl) (fun _ _ _ h => h) rfl rfl rfl (fun _ _ => R_pure (by kernel_rfl)) (((((hst.pull 4).pull 4).pull 4).pull 4).pull 4) ?_
      refine Q_take (i := 6) (v := I x1.applied) rfl (by kernel_rfl) (fun _ _ _ h => h) rfl rfl rfl (fun w hst => R_load hst rfl rfl) (((((hst.pull 4).pull 4).pull 4).pull 4).pull 4) ?_
      obtain ⟨y8, hy8, hr⟩ := bnd hr
      refine Q_one (i := 7) (by kernel_rfl) rfl rfl (O_call (vs := #[pt p1 3, I x1.applied]) Try.call30 (by kernel_rfl) (term_State_TermAt_2_ok k x1 x2 x3 x4 x5 x6 x1.applied p1 p2 p3 a1 c1 a2 c2 y8 (((((hst.pull 4).pull 4).pull 4).pull 4).pull 4) hy8 fun w hst => ?_))
      refine CK_ret rfl ?_
      refine ⟨(((((hst.pull 4).pull 4).pull 4).pull 4).pull 4), ?_⟩
      refine Q_take (i := 8) (v := .tuple #[I y8.1, .bool y8.2]) rfl (by kernel_rfl) (fun _ _ _ h => h) rfl rfl rfl (fun _ _ => R_pure (by kernel_rfl)) (((((hst.pull 4).pull 4).pull 4).pull 4).pull 4) ?_
      refine Q_take (i := 9) (v := I y8.1) rfl (by kernel_rfl) (fun _ _ _ h => h) rfl rfl rfl (fun _ _ => R_pure (by kernel_rfl)) (((((hst.pull 4).pull 4).pull 4).pull 4).pull 4) ?_
      refine Q_take (i := 10) (v := .bool y8.2) rfl (by kernel_rfl) (fun _ _ _ h => h) rfl rfl rfl (fun _ _ => R_pure (by kernel_rfl)) (((((hst.pull 4).pull 4).pull 4).pull 4).pull 4) ?_
      refine Q_take (i := 11) (v := I y8.1) rfl (by kernel_rfl) (fun _ _ _ h => h) rfl rfl rfl (fun _ _ => R_pure (by kernel_rfl)) (((((hst.pull 4).pull 4).pull 4).pull 4).pull 4) ?_
      refine Q_take (i := 12) (v := .bool y8.2) rfl (by kernel_rfl) (fun _ _ _ h => h) rfl rfl rfl (fun _ _ => R_pure (by kernel_rfl)) (((((hst.pull 4).pull 4).pull 4).pull 4).pull 4) ?_
      refine wpG_done (by kernel_rfl) ?_ _
      refine C_keepQ [(0, pt p1 0), (1, S x7), (5, I y8.1), (6, .bool y8.2)] rfl fun b => ?_
      refine th_n ?_
      refine wp_seq ?_
      obtain ⟨y9, hy9, hk2⟩ := bnd hr
      clear hr
      refine wp_seq_cut (fun a w => ∃ (b : Nat → Value), a = mkF 102 b [(0, pt p1 0), (1, S x7), (5, I y8.1), (44, .bool y9)] ∧ St G w (blk p1 (cl [I x1.id, I x1.n, pt p2 0, I x1.st.Term, I x1.st.Vote, I x1.st.Base, I x1.st.BaseTerm, S x1.st.Snap, .slice a1 x1.st.Log.length c1, I x1.role, I x1.leader, I x1.commit, I x1.applied, I x1.timer, .bool (x1.votes 0), .bool (x1.votes 1), .bool (x1.votes 2), .bool (x1.votes 3), .bool (x1.votes 4), I (x1.next 0), I (x1.next 1), I (x1.next 2), I (x1.next 3), I (x1.next 4), I (x1.match_ 0), I (x1.match_ 1), I (x1.match_ 2), I (x1.match_ 3), I (x1.match_ 4), .slice a2 x1.out.length c2, I x1.broken] 63) :: blk p2 (cl [I x2, I x3, .bool x4, I x5, .map (some p3)] 91) :: mpr S (rPt r_T_platter_file) p3 x6 :: dsl r_T_term_Entry a1 c1 x1.st.Log :: osl r_T_raft_Msg 105 a2 c2 x1.out :: F)) ?_ ?_
      · rintro _ w ⟨b, rfl, hst⟩
        have hr := hk2
        refine wp_cond_mkF (t := y9) rfl (fun h => ?_) (fun h => ?_)
        · have hr := (if_pos h).symm.trans hr
          refine wp_seq ?_
          refine wp_reg ?_
          refine L_pure 1 [(4, I 5)] (by kernel_rfl) fun b => ?_
          refine wpL_nil ?_
          refine th_n ?_
          refine wp_ret ?_
          refine th_r ?_
          refine ret1 rfl rfl ?_
          obtain rfl := Option.some.inj hr
          have hst := (hst.pull 3).dup
          have hst := (((((hst.pull 4).pull 4).pull 4).pull 5).pull 5)
          exact hR a1 c1 a2 c2 _ hst
        · have hr := (if_neg (by rw [h]; exact Bool.false_ne_true)).symm.trans hr
          refine wp_skip ?_
          refine th_n ?_
          refine wp_seq ?_
          refine wp_regG (SQ (fun w => St G w (blk p1 (cl [I x1.id, I x1.n, pt p2 0, I x1.st.Term, I x1.st.Vote, I x1.st.Base, I x1.st.BaseTerm, S x1.st.Snap, .slice a1 x1.st.Log.length c1, I x1.role, I x1.leader, I x1.commit, I x1.applied, I x1.timer, .bool (x1.votes 0), .bool (x1.votes 1), .bool (x1.votes 2), .bool (x1.votes 3), .bool (x1.votes 4), I (x1.next 0), I (x1.next 1), I (x1.next 2), I (x1.next 3), I (x1.next 4), I (x1.match_ 0), I (x1.match_ 1), I (x1.match_ 2), I (x1.match_ 3), I (x1.match_ 4), .slice a2 x1.out.length c2, I x1.broken] 63) :: blk p2 (cl [I x2, I x3, .bool x4, I x5, .map (some p3)] 91) :: mpr S (rPt r_T_platter_file) p3 x6 :: dsl r_T_term_Entry a1 c1 x1.st.Log :: osl r_T_raft_Msg 105 a2 c2 x1.out :: F))) rfl ?_
          have hst := hst.draw (n := w.drawn + 1)
          generalize { w with drawn := w.drawn + 1 } = w at hst ⊢
          refine Q_take (i := 0) (v := pt p1 0) rfl (by kernel_rfl) (fun _ _ _ h => h) rfl rfl rfl (fun _ _ => R_pure (by kernel_rfl)) (((((hst.pull 4).pull 4).pull 4).pull 4).pull 4) ?_
          refine Q_take (i := 1) (v := pt p1 0) rfl (by kernel_rfl) (fun _ _ _ h => h) rfl rfl rfl (fun _ _ => R_pure (by kernel_rfl)) (((((hst.pull 4).pull 4).pull 4).pull 4).pull 4) ?_
          refine Q_take (i := 2) (v := pt p1 3) rfl (by kernel_rfl) (fun _ _ _ h => h) rfl rfl rfl (fun _ _ => R_pure (by kernel_rfl)) (((((hst.pull 4).pull 4).pull 4).pull 4).pull 4) ?_
          refine Q_take (i := 3) (v := pt p1 0) rfl (by kernel_rfl) (fun _ _ _ h => h) rfl rfl rfl (fun _ _ => R_pure (by kernel_rfl)) (((((hst.pull 4).pull 4).pull 4).pull 4).pull 4) ?_
          refine Q_take (i := 4) (v := pt p1 0) rfl (by kernel_rfl) (fun _ _ _ h => h) rfl rfl rfl (fun _ _ => R_pure (by kernel_rfl)) (((((hst.pull 4).pull 4).pull 4).pull 4).pull 4) ?_
          refine Q_take (i := 5) (v := pt p1 12) rfl (by kernel_rfl) (fun _ _ _ h => h) rfl rfl rfl (fun _ _ => R_pure (by kernel_rfl)) (((((hst.pull 4).pull 4).pull 4).pull 4).pull 4) ?_
          refine Q_take (i := 6) (v := I x1.applied) rfl (by kernel_rfl) (fun _ _ _ h => h) rfl rfl rfl (fun w hst => R_load hst rfl rfl) (((((hst.pull 4).pull 4).pull 4).pull 4).pull 4) ?_
          refine Q_take (i := 7) (v := I (IntKind.i64.wrap (x1.applied + 1))) rfl (by kernel_rfl) (fun _ _ _ h => h) rfl rfl rfl (fun _ _ => R_pure (by kernel_rfl)) (((((hst.pull 4).pull 4).pull 4).pull 4).pull 4) ?_
          refine Q_take (i := 8) (v := pt p1 0) rfl (by kernel_rfl) (fun _ _ _ h => h) rfl rfl rfl (fun _ _ => R_pure (by kernel_rfl)) (((((hst.pull 4).pull 4).pull 4).pull 4).pull 4) ?_
          refine Q_take (i := 9) (v := pt p1 0) rfl (by kernel_rfl) (fun _ _ _ h => h) rfl rfl rfl (fun _ _ => R_pure (by kernel_rfl)) (((((hst.pull 4).pull 4).pull 4).pull 4).pull 4) ?_
          refine Q_take (i := 10) (v := pt p1 3) rfl (by kernel_rfl) (fun _ _ _ h => h) rfl rfl rfl (fun _ _ => R_pure (by kernel_rfl)) (((((hst.pull 4).pull 4).pull 4).pull 4).pull 4) ?_
          refine Q_take (i := 11) (v := pt p1 8) rfl (by kernel_rfl) (fun _ _ _ h => h) rfl rfl rfl (fun _ _ => R_pure (by kernel_rfl)) (((((hst.pull 4).pull 4).pull 4).pull 4).pull 4) ?_
          refine Q_take (i := 12) (v := .slice a1 x1.st.Log.length c1) rfl (by kernel_rfl) (fun _ _ _ h => h) rfl rfl rfl (fun w hst => R_load hst rfl rfl) (((((hst.pull 4).pull 4).pull 4).pull 4).pull 4) ?_
          refine Q_take (i := 13) (v := I (x1.st.Log.length : Int)) rfl (by kernel_rfl) (fun _ _ _ h => h) rfl rfl rfl (fun _ _ => R_pure (by kernel_rfl)) (((((hst.pull 4).pull 4).pull 4).pull 4).pull 4) ?_
          obtain ⟨y10, hy10, hr⟩ := bnd hr
          refine Q_one (i := 14) (by kernel_rfl) rfl rfl (O_call (vs := #[pt p1 3, I (IntKind.i64.wrap (x1.applied + 1)), I (x1.st.Log.length : Int)]) Try.call28 (by kernel_rfl) (term_State_From_2_ok k x1 x2 x3 x4 x5 x6 (IntKind.i64.wrap (x1.applied + 1)) (x1.st.Log.length : Int) p1 p2 p3 a1 c1 a2 c2 y10 (((((hst.pull 4).pull 4).pull 4).pull 4).pull 4) hy10 fun a10 c10 w hst => ?_))
          refine CK_ret rfl ?_
          refine ⟨((((((hst.pull 5).pull 5).pull 5).pull 5).pull 5).cut 5 1), ?_⟩
          refine Q_take (i := 15) (v := .slice a10 y10.length c10) rfl (by kernel_rfl) (fun _ _ _ h => h) rfl rfl rfl (fun _ _ => R_pure (by kernel_rfl)) ((((((hst.pull 5).pull 5).pull 5).pull 5).pull 5).cut 5 1) ?_
          refine wpG_done (by kernel_rfl) ?_ _
          refine C_keepQ [(0, pt p1 0), (1, S x7), (5, I y8.1), (7, .slice a10 y10.length c10)] rfl fun b => ?_
          refine th_n ?_
          refine wp_seq ?_
          refine wp_seq ?_
          refine wp_regG (SP 12 (fun w => St G w (osl r_T_term_Entry 55 a10 c10 y10 :: blk p1 (cl [I x1.id, I x1.n, pt p2 0, I x1.st.Term, I x1.st.Vote, I x1.st.Base, I x1.st.BaseTerm, S x1.st.Snap, .slice a1 x1.st.Log.length c1, I x1.role, I x1.leader, I x1.commit, I x1.applied, I x1.timer, .bool (x1.votes 0), .bool (x1.votes 1), .bool (x1.votes 2), .bool (x1.votes 3), .bool (x1.votes 4), I (x1.next 0), I (x1.next 1), I (x1.next 2), I (x1.next 3), I (x1.next 4), I (x1.match_ 0), I (x1.match_ 1), I (x1.match_ 2), I (x1.match_ 3), I (x1.match_ 4), .slice a2 x1.out.length c2, I x1.broken] 63) :: blk p2 (cl [I x2, I x3, .bool x4, I x5, .map (some p3)] 91) :: mpr S (rPt r_T_platter_file) p3 x6 :: dsl r_T_term_Entry a1 c1 x1.st.Log :: osl r_T_raft_Msg 105 a2 c2 x1.out :: F))) rfl ?_
          have hst := hst.draw (n := w.drawn + 1)
          generalize { w with drawn := w.drawn + 1 } = w at hst ⊢
          refine P_pure (i := 0) (v := pt p1 0) 12 rfl rfl (by kernel_rfl) (fun _ _ _ h => h) rfl rfl rfl (by kernel_rfl) (.inr ((((((hst.pull 5).pull 5).pull 5).pull 5).pull 5).pull 5)) ?_
          refine P_pure (i := 1) (v := pt p1 0) 12 rfl rfl (by kernel_rfl) (fun _ _ _ h => h) rfl rfl rfl (by kernel_rfl) (.inr ((((((hst.pull 5).pull 5).pull 5).pull 5).pull 5).pull 5)) ?_
          refine P_pure (i := 2) (v := pt p1 0) 12 rfl rfl (by kernel_rfl) (fun _ _ _ h => h) rfl rfl rfl (by kernel_rfl) (.inr ((((((hst.pull 5).pull 5).pull 5).pull 5).pull 5).pull 5)) ?_
          refine P_pure (i := 3) (v := pt p1 2) 12 rfl rfl (by kernel_rfl) (fun _ _ _ h => h) rfl rfl rfl (by kernel_rfl) (.inr ((((((hst.pull 5).pull 5).pull 5).pull 5).pull 5).pull 5)) ?_
          refine P_take (i := 4) (v := pt p2 0) 12 [4] (by kernel_rfl) rfl (by kernel_rfl) (fun _ _ _ h => h) rfl rfl rfl (fun w hst => R_load (hst.pull 1) rfl rfl) (((((((hst.pull 5).pull 5).pull 5).pull 5).pull 5).pull 5)) ?_
          refine P_pure (i := 5) (v := pt p1 0) 12 rfl rfl (by kernel_rfl) (fun _ _ _ h => h) rfl rfl rfl (by kernel_rfl) (.inr ((((((hst.pull 5).pull 5).pull 5).pull 5).pull 5).pull 5)) ?_
          refine P_pure (i := 6) (v := pt p1 0) 12 rfl rfl (by kernel_rfl) (fun _ _ _ h => h) rfl rfl rfl (by kernel_rfl) (.inr ((((((hst.pull 5).pull 5).pull 5).pull 5).pull 5).pull 5)) ?_
          refine P_pure (i := 7) (v := pt p1 12) 12 rfl rfl (by kernel_rfl) (fun _ _ _ h => h) rfl rfl rfl (by kernel_rfl) (.inr ((((((hst.pull 5).pull 5).pull 5).pull 5).pull 5).pull 5)) ?_
          refine P_take (i := 8) (v := I x1.applied) 12 [8] (by kernel_rfl) rfl (by kernel_rfl) (fun _ _ _ h => h) rfl rfl rfl (fun w hst => R_load (hst.pull 1) rfl rfl) (((((((hst.pull 5).pull 5).pull 5).pull 5).pull 5).pull 5)) ?_
          refine P_pure (i := 9) (v := I y8.1) 12 rfl rfl (by kernel_rfl) (fun _ _ _ h => h) rfl rfl rfl (by kernel_rfl) (.inr ((((((hst.pull 5).pull 5).pull 5).pull 5).pull 5).pull 5)) ?_
          refine P_pure (i := 10) (v := S x7) 12 rfl rfl (by kernel_rfl) (fun _ _ _ h => h) rfl rfl rfl (by kernel_rfl) (.inr ((((((hst.pull 5).pull 5).pull 5).pull 5).pull 5).pull 5)) ?_
          refine P_pure (i := 11) (v := .slice a10 y10.length c10) 12 rfl rfl (by kernel_rfl) (fun _ _ _ h => h) rfl rfl rfl (by kernel_rfl) (.inr ((((((hst.pull 5).pull 5).pull 5).pull 5).pull 5).pull 5)) ?_
          obtain ⟨y13, hy13, hr⟩ := bnd hr
          have hst := osl_freeze hst
          refine P_act (i := 12) 12 (by kernel_rfl) rfl rfl (by kernel_rfl) (O_call (vs := #[pt p2 0, I x1.applied, I y8.1, S x7, .slice a10 y10.length c10]) Try.call23 (by kernel_rfl) (term_SaveSnap_ok k x2 x3 x4 x5 x6 x1.applied y8.1 x7 y10 p2 p3 a10 c10 y13 ((hst.pull 3).pull 3) hy13 fun w hst => ?_))
          refine CK_ret rfl ?_
          obtain ⟨y14, hy14, hr⟩ := bnd hr
          refine P_act (i := 13) 12 (by kernel_rfl) rfl rfl (by kernel_rfl) (O_call (vs := #[pt p1 0, I y13.1]) Try.call31 (by kernel_rfl) (raft_Node_check_2_ok k x1 x2 y13.2.1 x4 y13.2.2.1 y13.2.2.2 y13.1 p1 p2 p3 a1 c1 a2 c2 y14 (((((hst.pull 5).pull 5).pull 3).pull 3).pull 5) hy14 fun a13 c13 a14 c14 w hst => ?_))
          refine CK_ret rfl ?_
          refine P_pure (i := 14) (v := .bool (!y14.1)) 12 rfl rfl (by kernel_rfl) (fun _ _ _ h => h) rfl rfl rfl (by kernel_rfl) (.inl (by kernel_rfl)) ?_
          refine wpG_done (by kernel_rfl) ?_ _
          refine C_keepQ [(0, pt p1 0), (1, S x7), (5, I y8.1), (7, .slice a10 y10.length c10), (74, .bool (!y14.1))] rfl fun b => ?_
          refine th_n ?_
          refine wp_cond_mkF (t := (!y14.1)) rfl (fun h => ?_) (fun h => ?_)
          · have hr := (if_pos h).symm.trans hr
            refine wp_seq ?_
            refine wp_reg ?_
            refine L_pure 3 [(77, pt p1 30)] (by kernel_rfl) fun b => ?_
            refine L_op rfl (O_run (v := I y14.2.broken) (w' := w) (R_load (hst.pull 2) rfl rfl) rfl rfl ?_)
            refine L_pure 1 [(4, I y14.2.broken)] (by kernel_rfl) fun b => ?_
            refine wpL_nil ?_
            refine th_n ?_
            refine wp_ret ?_
            refine th_r ?_
            refine ret1 rfl rfl ?_
            obtain rfl := Option.some.inj hr
            have hst := (((((((hst.pull 5).pull 5).pull 5).pull 5).pull 5).pull 5).cut 6 1)
            exact hR a13 c13 a14 c14 _ hst
          · have hr := (if_neg (by rw [h]; exact Bool.false_ne_true)).symm.trans hr
            refine wp_skip ?_
            refine th_n ?_
            refine wp_seq ?_
            refine wp_reg ?_
            refine L_pure 7 [(1, S x7), (5, I y8.1), (7, .slice a10 y10.length c10), (79, pt p1 0), (80, pt p1 0), (81, pt p1 0), (82, pt p1 0), (85, pt p1 12)] (by kernel_rfl) fun b => ?_
            refine L_op rfl (O_run (v := I y14.2.applied) (w' := w) (R_load (hst.pull 2) rfl rfl) rfl rfl ?_)
            refine L_pure 6 [(80, pt p1 0), (81, pt p1 0), (82, pt p1 0), (86, I y14.2.applied), (87, I y8.1), (88, S x7), (89, .slice a10 y10.length c10), (92, pt p1 5)] (by kernel_rfl) fun b => ?_
            refine L_op rfl (O_store [I y14.2.id, I y14.2.n, pt p2 0, I y14.2.st.Term, I y14.2.st.Vote, I y14.2.applied, I y14.2.st.BaseTerm, S y14.2.st.Snap, .slice a13 y14.2.st.Log.length c13, I y14.2.role, I y14.2.leader, I y14.2.commit, I y14.2.applied, I y14.2.timer, .bool (y14.2.votes 0), .bool (y14.2.votes 1), .bool (y14.2.votes 2), .bool (y14.2.votes 3), .bool (y14.2.votes 4), I (y14.2.next 0), I (y14.2.next 1), I (y14.2.next 2), I (y14.2.next 3), I (y14.2.next 4), I (y14.2.match_ 0), I (y14.2.match_ 1), I (y14.2.match_ 2), I (y14.2.match_ 3), I (y14.2.match_ 4), .slice a14 y14.2.out.length c14, I y14.2.broken] (hst.pull 2) rfl rfl (by kernel_rfl) fun w hst => ?_)
            refine L_pure 3 [(81, pt p1 0), (82, pt p1 0), (87, I y8.1), (88, S x7), (89, .slice a10 y10.length c10), (95, pt p1 6)] (by kernel_rfl) fun b => ?_
            refine L_op rfl (O_store [I y14.2.id, I y14.2.n, pt p2 0, I y14.2.st.Term, I y14.2.st.Vote, I y14.2.applied, I y8.1, S y14.2.st.Snap, .slice a13 y14.2.st.Log.length c13, I y14.2.role, I y14.2.leader, I y14.2.commit, I y14.2.applied, I y14.2.timer, .bool (y14.2.votes 0), .bool (y14.2.votes 1), .bool (y14.2.votes 2), .bool (y14.2.votes 3), .bool (y14.2.votes 4), I (y14.2.next 0), I (y14.2.next 1), I (y14.2.next 2), I (y14.2.next 3), I (y14.2.next 4), I (y14.2.match_ 0), I (y14.2.match_ 1), I (y14.2.match_ 2), I (y14.2.match_ 3), I (y14.2.match_ 4), .slice a14 y14.2.out.length c14, I y14.2.broken] hst rfl rfl (by kernel_rfl) fun w hst => ?_)
            refine L_pure 3 [(82, pt p1 0), (88, S x7), (89, .slice a10 y10.length c10), (98, pt p1 7)] (by kernel_rfl) fun b => ?_
            refine L_op rfl (O_store [I y14.2.id, I y14.2.n, pt p2 0, I y14.2.st.Term, I y14.2.st.Vote, I y14.2.applied, I y8.1, S x7, .slice a13 y14.2.st.Log.length c13, I y14.2.role, I y14.2.leader, I y14.2.commit, I y14.2.applied, I y14.2.timer, .bool (y14.2.votes 0), .bool (y14.2.votes 1), .bool (y14.2.votes 2), .bool (y14.2.votes 3), .bool (y14.2.votes 4), I (y14.2.next 0), I (y14.2.next 1), I (y14.2.next 2), I (y14.2.next 3), I (y14.2.next 4), I (y14.2.match_ 0), I (y14.2.match_ 1), I (y14.2.match_ 2), I (y14.2.match_ 3), I (y14.2.match_ 4), .slice a14 y14.2.out.length c14, I y14.2.broken] hst rfl rfl (by kernel_rfl) fun w hst => ?_)
            refine L_pure 3 [(89, .slice a10 y10.length c10), (101, pt p1 8)] (by kernel_rfl) fun b => ?_
            refine L_op rfl (O_store [I y14.2.id, I y14.2.n, pt p2 0, I y14.2.st.Term, I y14.2.st.Vote, I y14.2.applied, I y8.1, S x7, .slice a10 y10.length c10, I y14.2.role, I y14.2.leader, I y14.2.commit, I y14.2.applied, I y14.2.timer, .bool (y14.2.votes 0), .bool (y14.2.votes 1), .bool (y14.2.votes 2), .bool (y14.2.votes 3), .bool (y14.2.votes 4), I (y14.2.next 0), I (y14.2.next 1), I (y14.2.next 2), I (y14.2.next 3), I (y14.2.next 4), I (y14.2.match_ 0), I (y14.2.match_ 1), I (y14.2.match_ 2), I (y14.2.match_ 3), I (y14.2.match_ 4), .slice a14 y14.2.out.length c14, I y14.2.broken] hst rfl rfl (by kernel_rfl) fun w hst => ?_)
            refine wpL_nil ?_
            refine th_n ?_
            refine wp_seq ?_
            refine wp_reg ?_
            refine L_pure 1 [(4, I 0)] (by kernel_rfl) fun b => ?_
            refine wpL_nil ?_
            refine th_n ?_
            refine wp_ret ?_
            refine ret1 rfl rfl ?_
            obtain rfl := Option.some.inj hr
            have hst := (((((((hst.pull 5).pull 5).pull 5).pull 3).pull 5).pull 6).cut 6 1)
            exact hR a10 c10 a14 c14 _ hst
      · have hr := hy9
        refine wp_regG (SN { w with drawn := w.drawn + 1 }) rfl ?_
        have hst := hst.draw (n := w.drawn + 1)
        generalize { w with drawn := w.drawn + 1 } = w at hst ⊢
        refine C_take (i := 0) (v := .bool y8.2) rfl (by kernel_rfl) (fun _ _ _ h => h) rfl rfl rfl (R_pure (by kernel_rfl)) ?_
        refine C_take (i := 1) (v := .bool (!y8.2)) rfl (by kernel_rfl) (fun _ _ _ h => h) rfl rfl rfl (R_pure (by kernel_rfl)) ?_
        refine C_take (i := 2) (v := .bool (!y8.2)) rfl (by kernel_rfl) (fun _ _ _ h => h) rfl rfl rfl (R_pure (by kernel_rfl)) ?_
        by_cases h : (!y8.2) = true
        · have hr := (if_pos h).symm.trans hr
          refine C_keep ((33, .bool (!y8.2)) :: [(0, pt p1 0), (1, S x7), (5, I y8.1), (6, .bool y8.2), (31, .bool y8.2), (32, .bool (!y8.2))]) rfl fun b => ?_
          refine C_bool h ?_
          refine C_skip (i := 3) rfl (by kernel_rfl) (fun _ _ _ h => h) rfl rfl rfl ?_
          refine C_skip (i := 4) rfl (by kernel_rfl) (fun _ _ _ h => h) rfl rfl rfl ?_
          refine C_skip (i := 5) rfl (by kernel_rfl) (fun _ _ _ h => h) rfl rfl rfl ?_
          refine C_skip (i := 6) rfl (by kernel_rfl) (fun _ _ _ h => h) rfl rfl rfl ?_
          refine C_skip (i := 7) rfl (by kernel_rfl) (fun _ _ _ h => h) rfl rfl rfl ?_
          refine C_skip (i := 8) rfl (by kernel_rfl) (fun _ _ _ h => h) rfl rfl rfl ?_
          refine C_skip (i := 9) rfl (by kernel_rfl) (fun _ _ _ h => h) rfl rfl rfl ?_
          refine C_skip (i := 10) rfl (by kernel_rfl) (fun _ _ _ h => h) rfl rfl rfl ?_
          refine C_skip (i := 11) rfl (by kernel_rfl) (fun _ _ _ h => h) rfl rfl rfl ?_
          refine C_skip (i := 12) rfl (by kernel_rfl) (fun _ _ _ h => h) rfl rfl rfl ?_
          refine C_take (i := 13) (v := .bool true) rfl (by kernel_rfl) (fun _ _ _ h => h) rfl rfl rfl (R_pure (by kernel_rfl)) ?_
          refine wpG_done (by kernel_rfl) ?_ _
          refine C_keepQ [(0, pt p1 0), (1, S x7), (5, I y8.1), (44, .bool true)] rfl fun b => ?_
          refine th_n ?_
          obtain rfl := Option.some.inj hr
          have hst := (((((hst.pull 4).pull 4).pull 4).pull 4).pull 4)
          exact (kpX [(0, pt p1 0), (1, S x7), (5, I y8.1), (44, .bool true)] rfl hst)
        · have hr := (if_neg h).symm.trans hr
          refine C_keep ((33, .bool (!y8.2)) :: [(0, pt p1 0), (1, S x7), (5, I y8.1), (6, .bool y8.2), (31, .bool y8.2), (32, .bool (!y8.2))]) rfl fun b => ?_
          refine C_bool (eq_false_of_ne_true h) ?_
          refine C_take (i := 3) (v := pt p1 0) rfl (by kernel_rfl) (fun _ _ _ h => h) rfl rfl rfl (R_pure (by kernel_rfl)) ?_
          refine C_take (i := 4) (v := pt p1 0) rfl (by kernel_rfl) (fun _ _ _ h => h) rfl rfl rfl (R_pure (by kernel_rfl)) ?_
          refine C_take (i := 5) (v := pt p1 12) rfl (by kernel_rfl) (fun _ _ _ h => h) rfl rfl rfl (R_pure (by kernel_rfl)) ?_
          refine C_take (i := 6) (v := I x1.applied) rfl (by kernel_rfl) (fun _ _ _ h => h) rfl rfl rfl (R_load hst rfl rfl) ?_
          refine C_take (i := 7) (v := pt p1 0) rfl (by kernel_rfl) (fun _ _ _ h => h) rfl rfl rfl (R_pure (by kernel_rfl)) ?_
          refine C_take (i := 8) (v := pt p1 0) rfl (by kernel_rfl) (fun _ _ _ h => h) rfl rfl rfl (R_pure (by kernel_rfl)) ?_
          refine C_take (i := 9) (v := pt p1 3) rfl (by kernel_rfl) (fun _ _ _ h => h) rfl rfl rfl (R_pure (by kernel_rfl)) ?_
          refine C_take (i := 10) (v := pt p1 5) rfl (by kernel_rfl) (fun _ _ _ h => h) rfl rfl rfl (R_pure (by kernel_rfl)) ?_
          refine C_take (i := 11) (v := I x1.st.Base) rfl (by kernel_rfl) (fun _ _ _ h => h) rfl rfl rfl (R_load hst rfl rfl) ?_
          refine C_take (i := 12) (v := .bool (x1.applied == x1.st.Base)) rfl (by kernel_rfl) (fun _ _ _ h => h) rfl rfl rfl (R_pure (by kernel_rfl)) ?_
          refine C_take (i := 13) (v := .bool (x1.applied == x1.st.Base)) rfl (by kernel_rfl) (fun _ _ _ h => h) rfl rfl rfl (R_pure (by kernel_rfl)) ?_
          refine wpG_done (by kernel_rfl) ?_ _
          refine C_keepQ [(0, pt p1 0), (1, S x7), (5, I y8.1), (44, .bool (x1.applied == x1.st.Base))] rfl fun b => ?_
          refine th_n ?_
          obtain rfl := Option.some.inj hr
          have hst := (((((hst.pull 4).pull 4).pull 4).pull 4).pull 4)
          exact (kpX [(0, pt p1 0), (1, S x7), (5, I y8.1), (44, .bool (x1.applied == x1.st.Base))] rfl hst)
def raft_Node_State (_k : Nat) (x1 : T_raft_Node) (_x2 : Int) (_x3 : Int) (_x4 : Bool) (_x5 : Int) (_x6 : (List ((List UInt8) × (Option T_platter_file)))) : Option ((List T_term_Entry) × T_term_State) := (if room (([] : List T_term_Entry).length + x1.st.Log.length) 32 = true then some (([] ++ x1.st.Log), (T_term_State.mk x1.st.Term x1.st.Vote x1.st.Base x1.st.BaseTerm x1.st.Snap ([] ++ x1.st.Log))) else none)
set_option maxRecDepth 100000 in
set_option maxHeartbeats 4000000 in
theorem raft_Node_State_ok {G w : World} {F : List HP} {R : Ending → World → Prop} (k : Nat) (x1 : T_raft_Node) (x2 : Int) (x3 : Int) (x4 : Bool) (x5 : Int) (x6 : (List ((List UInt8) × (Option T_platter_file)))) (p1 : Nat) (p2 : Nat) (p3 : Nat) (a1 : Option Addr) (c1 : Nat) (a2 : Option Addr) (c2 : Nat) (r : ((List T_term_Entry) × T_term_State)) (hst : St G w (blk p1 (cl [I x1.id, I x1.n, pt p2 0, I x1.st.Term, I x1.st.Vote, I x1.st.Base, I x1.st.BaseTerm, S x1.st.Snap, .slice a1 x1.st.Log.length c1, I x1.role, I x1.leader, I x1.commit, I x1.applied, I x1.timer, .bool (x1.votes 0), .bool (x1.votes 1), .bool (x1.votes 2), .bool (x1.votes 3), .bool (x1.votes 4), I (x1.next 0), I (x1.next 1), I (x1.next 2), I (x1.next 3), I (x1.next 4), I (x1.match_ 0), I (x1.match_ 1), I (x1.match_ 2), I (x1.match_ 3), I (x1.match_ 4), .slice a2 x1.out.length c2, I x1.broken] 63) :: blk p2 (cl [I x2, I x3, .bool x4, I x5, .map (some p3)] 91) :: mpr S (rPt r_T_platter_file) p3 x6 :: osl r_T_term_Entry 55 a1 c1 x1.st.Log :: osl r_T_raft_Msg 105 a2 c2 x1.out :: F)) (hr : raft_Node_State k x1 x2 x3 x4 x5 x6 = some r)
    (hR : ∀ (a4 : Option Addr) (c4 : Nat) w', St G w' (osl r_T_term_Entry 55 a4 c4 r.1 :: blk p1 (cl [I x1.id, I x1.n, pt p2 0, I x1.st.Term, I x1.st.Vote, I x1.st.Base, I x1.st.BaseTerm, S x1.st.Snap, .slice a1 x1.st.Log.length c1, I x1.role, I x1.leader, I x1.commit, I x1.applied, I x1.timer, .bool (x1.votes 0), .bool (x1.votes 1), .bool (x1.votes 2), .bool (x1.votes 3), .bool (x1.votes 4), I (x1.next 0), I (x1.next 1), I (x1.next 2), I (x1.next 3), I (x1.next 4), I (x1.match_ 0), I (x1.match_ 1), I (x1.match_ 2), I (x1.match_ 3), I (x1.match_ 4), .slice a2 x1.out.length c2, I x1.broken] 63) :: blk p2 (cl [I x2, I x3, .bool x4, I x5, .map (some p3)] 91) :: mpr S (rPt r_T_platter_file) p3 x6 :: osl r_T_term_Entry 55 a1 c1 x1.st.Log :: osl r_T_raft_Msg 105 a2 c2 x1.out :: F) → R (.returned (.agg #[I r.2.Term, I r.2.Vote, I r.2.Base, I r.2.BaseTerm, S r.2.Snap, .slice a4 r.1.length c4])) w') :
    Calls Try.prog 17 #[pt p1 0] w R := by
  unfold raft_Node_State at hr
  refine enter Try.func17 rfl [(0, pt p1 0)] rfl rfl fun b => ?_
  refine wp_seq ?_
  refine wp_reg ?_
  refine L_op rfl (O_alloc (i := Try.t46) (z := .agg #[I 0, I 0, I 0, I 0, S ([]), .slice none 0 0]) [I 0, I 0, I 0, I 0, S ([]), .slice none 0 0] hst rfl rfl rfl rfl fun p7 w hst => ?_)
  refine wpL_nil ?_
  refine th_n ?_
  refine wp_seq ?_
  refine wp_reg ?_
  refine L_pure 3 [(2, pt p7 0), (6, pt p1 3)] (by kernel_rfl) fun b => ?_
  refine L_op rfl (O_run (v := .agg #[I x1.st.Term, I x1.st.Vote, I x1.st.Base, I x1.st.BaseTerm, S x1.st.Snap, .slice a1 x1.st.Log.length c1]) (w' := w) (R_load (hst.pull 1) rfl rfl) rfl rfl ?_)
  refine L_op rfl (O_alloc (i := Try.t46) (z := .agg #[I 0, I 0, I 0, I 0, S ([]), .slice none 0 0]) [I 0, I 0, I 0, I 0, S ([]), .slice none 0 0] hst rfl rfl rfl rfl fun p8 w hst => ?_)
  refine L_op rfl (O_store [I x1.st.Term, I x1.st.Vote, I x1.st.Base, I x1.st.BaseTerm, S x1.st.Snap, .slice a1 x1.st.Log.length c1] hst rfl rfl (by kernel_rfl) fun w hst => ?_)
  refine wpL_nil ?_
  refine th_n ?_
  refine wp_seq ?_
  refine wp_reg ?_
  refine L_op rfl (O_bs (T := 55) [] #[] hst (by kernel_rfl) (by kernel_rfl) rfl fun p9 w hst => ?_)
  have hst := osl_of_blk0 (ecs := []) r_T_term_Entry [] rfl (fun m => trivial) rfl hst
  refine L_pure 1 [(2, pt p7 0), (3, pt p8 0), (8, .slice (some ⟨p9, 0, none⟩) 0 0), (9, pt p8 5)] (by kernel_rfl) fun b => ?_
  refine L_op rfl (O_run (v := .slice a1 x1.st.Log.length c1) (w' := w) (R_load (hst.pull 1) rfl rfl) rfl rfl ?_)
  obtain ⟨hb2, hr⟩ := chk hr
  refine L_op rfl (O_app_o L40 ((hst.pull 6).pull 1) rfl rfl hb2 rfl fun a5 c5 w hst => ?_)
  refine L_pure 1 [(2, pt p7 0), (3, pt p8 0), (11, .slice a5 ([] ++ x1.st.Log).length c5), (12, pt p8 5)] (by kernel_rfl) fun b => ?_
  refine L_op rfl (O_store [I x1.st.Term, I x1.st.Vote, I x1.st.Base, I x1.st.BaseTerm, S x1.st.Snap, .slice a5 ([] ++ x1.st.Log).length c5] (hst.pull 2) rfl rfl (by kernel_rfl) fun w hst => ?_)
  refine wpL_nil ?_
  refine th_n ?_
  refine wp_seq ?_
  refine wp_reg ?_
  refine L_op rfl (O_run (v := .agg #[I x1.st.Term, I x1.st.Vote, I x1.st.Base, I x1.st.BaseTerm, S x1.st.Snap, .slice a5 ([] ++ x1.st.Log).length c5]) (w' := w) (R_load hst rfl rfl) rfl rfl ?_)
  refine L_op rfl (O_store [I x1.st.Term, I x1.st.Vote, I x1.st.Base, I x1.st.BaseTerm, S x1.st.Snap, .slice a5 ([] ++ x1.st.Log).length c5] (hst.pull 3) rfl rfl (by kernel_rfl) fun w hst => ?_)
  refine wpL_nil ?_
  refine th_n ?_
  refine wp_ret ?_
  refine retC (v := .agg #[I x1.st.Term, I x1.st.Vote, I x1.st.Base, I x1.st.BaseTerm, S x1.st.Snap, .slice a5 ([] ++ x1.st.Log).length c5]) (p := p7) (off := 0) (cs := [I x1.st.Term, I x1.st.Vote, I x1.st.Base, I x1.st.BaseTerm, S x1.st.Snap, .slice a5 ([] ++ x1.st.Log).length c5]) (T' := 46) rfl rfl hst (by kernel_rfl) ?_
  obtain rfl := Option.some.inj hr
  have hst := (((((((hst.pull 7).pull 4).pull 7).pull 7).pull 7).pull 7).cut 6 2)
  exact hR a5 c5 _ hst
def glacierlaw09_Told_l1 (k : Nat) (x1 : T_term_State) : Nat → Int → (List T_glacierref09_Entry) → Option ((List T_glacierref09_Entry))
  | 0, _, _ => none
  | j + 1, v7, v8 => (if decide (v7 < (x1.Log.length : Int)) = true then (Option.bind (gt x1.Log v7) fun x3 => (if room (v8.length + ([(T_glacierref09_Entry.mk x3.Index x3.Term x3.Cmd)]).length) 32 = true then (glacierlaw09_Told_l1 k x1 j (IntKind.i64.wrap (v7 + 1)) (v8 ++ ([(T_glacierref09_Entry.mk x3.Index x3.Term x3.Cmd)]))) else none)) else some (v8))
def glacierlaw09_Told (k : Nat) (x1 : T_term_State) : Option ((List T_glacierref09_Entry) × T_glacierref09_State) := (Option.bind (glacierlaw09_Told_l1 k x1 k (0 : Int) ([])) fun y2 => some (y2, (T_glacierref09_State.mk x1.Term x1.Vote x1.Base x1.BaseTerm x1.Snap y2)))
set_option maxRecDepth 100000 in
set_option maxHeartbeats 4000000 in
theorem glacierlaw09_Told_ok {G w : World} {F : List HP} {R : Ending → World → Prop} (k : Nat) (x1 : T_term_State) (a1 : Option Addr) (c1 : Nat) (r : ((List T_glacierref09_Entry) × T_glacierref09_State)) (hst : St G w (dsl r_T_term_Entry a1 c1 x1.Log :: F)) (hr : glacierlaw09_Told k x1 = some r)
    (hR : ∀ (a6 : Option Addr) (c6 : Nat) w', St G w' (osl r_T_glacierref09_Entry 56 a6 c6 r.1 :: dsl r_T_term_Entry a1 c1 x1.Log :: F) → R (.returned (.agg #[I r.2.Term, I r.2.Vote, I r.2.Base, I r.2.BaseTerm, S r.2.Snap, .slice a6 r.1.length c6])) w') :
    Calls Try.prog 16 #[.agg #[I x1.Term, I x1.Vote, I x1.Base, I x1.BaseTerm, S x1.Snap, .slice a1 x1.Log.length c1]] w R := by
  unfold glacierlaw09_Told at hr
  refine enter Try.func16 rfl [(0, .agg #[I x1.Term, I x1.Vote, I x1.Base, I x1.BaseTerm, S x1.Snap, .slice a1 x1.Log.length c1])] rfl rfl fun b => ?_
  refine wp_seq ?_
  refine wp_reg ?_
  refine L_op rfl (O_box [I x1.Term, I x1.Vote, I x1.Base, I x1.BaseTerm, S x1.Snap, .slice a1 x1.Log.length c1] hst rfl rfl fun p6 w hst => ?_)
  refine L_op rfl (O_alloc (i := Try.t31) (z := .agg #[I 0, I 0, I 0, I 0, S ([]), .slice none 0 0]) [I 0, I 0, I 0, I 0, S ([]), .slice none 0 0] hst rfl rfl rfl rfl fun p7 w hst => ?_)
  refine wpL_nil ?_
  refine th_n ?_
  refine wp_seq ?_
  refine wp_reg ?_
  refine L_pure 1 [(1, pt p6 0), (2, pt p7 0), (6, pt p6 0)] (by kernel_rfl) fun b => ?_
  refine L_op rfl (O_run (v := I x1.Term) (w' := w) (R_load (hst.pull 1) rfl rfl) rfl rfl ?_)
  refine L_pure 1 [(1, pt p6 0), (2, pt p7 0), (7, I x1.Term), (8, pt p6 1)] (by kernel_rfl) fun b => ?_
  refine L_op rfl (O_run (v := I x1.Vote) (w' := w) (R_load (hst.pull 1) rfl rfl) rfl rfl ?_)
  refine L_pure 1 [(1, pt p6 0), (2, pt p7 0), (7, I x1.Term), (9, I x1.Vote), (10, pt p6 2)] (by kernel_rfl) fun b => ?_
  refine L_op rfl (O_run (v := I x1.Base) (w' := w) (R_load (hst.pull 1) rfl rfl) rfl rfl ?_)
  refine L_pure 1 [(1, pt p6 0), (2, pt p7 0), (7, I x1.Term), (9, I x1.Vote), (11, I x1.Base), (12, pt p6 3)] (by kernel_rfl) fun b => ?_
  refine L_op rfl (O_run (v := I x1.BaseTerm) (w' := w) (R_load (hst.pull 1) rfl rfl) rfl rfl ?_)
  refine L_pure 1 [(1, pt p6 0), (2, pt p7 0), (7, I x1.Term), (9, I x1.Vote), (11, I x1.Base), (13, I x1.BaseTerm), (14, pt p6 4)] (by kernel_rfl) fun b => ?_
  refine L_op rfl (O_run (v := S x1.Snap) (w' := w) (R_load (hst.pull 1) rfl rfl) rfl rfl ?_)
  refine L_pure 1 [(1, pt p6 0), (2, pt p7 0), (16, .agg #[I x1.Term, I x1.Vote, I x1.Base, I x1.BaseTerm, S x1.Snap, .slice none 0 0])] (by kernel_rfl) fun b => ?_
  refine L_op rfl (O_alloc (i := Try.t31) (z := .agg #[I 0, I 0, I 0, I 0, S ([]), .slice none 0 0]) [I 0, I 0, I 0, I 0, S ([]), .slice none 0 0] hst rfl rfl rfl rfl fun p8 w hst => ?_)
  refine L_op rfl (O_store [I x1.Term, I x1.Vote, I x1.Base, I x1.BaseTerm, S x1.Snap, .slice none 0 0] hst rfl rfl (by kernel_rfl) fun w hst => ?_)
  refine wpL_nil ?_
  refine th_n ?_
  refine wp_seq ?_
  refine wp_seq ?_
  refine wp_reg ?_
  refine L_pure 1 [(2, pt p7 0), (3, pt p8 0), (17, pt p6 5)] (by kernel_rfl) fun b => ?_
  refine L_op rfl (O_run (v := .slice a1 x1.Log.length c1) (w' := w) (R_load (hst.pull 2) rfl rfl) rfl rfl ?_)
  refine L_pure 2 [(2, pt p7 0), (3, pt p8 0), (18, .slice a1 x1.Log.length c1), (19, I (x1.Log.length : Int)), (20, I 0)] (by kernel_rfl) fun b => ?_
  refine wpL_nil ?_
  refine th_n ?_
  obtain ⟨y2, hy2, hk2⟩ := bnd hr
  clear hr
  refine Go.Hx.wp_cut (fun a w => ∃ (a9 : Option Addr) (c9 : Nat)(b : Nat → Value), a = mkF 32 b [(2, pt p7 0), (3, pt p8 0)] ∧ St G w (osl r_T_glacierref09_Entry 56 a9 c9 y2 :: blk p8 (cl [I x1.Term, I x1.Vote, I x1.Base, I x1.BaseTerm, S x1.Snap, .slice a9 y2.length c9] 31) :: blk p7 (cl [I 0, I 0, I 0, I 0, S ([]), .slice none 0 0] 31) :: blk p6 (cl [I x1.Term, I x1.Vote, I x1.Base, I x1.BaseTerm, S x1.Snap, .slice a1 x1.Log.length c1] 46) :: dsl r_T_term_Entry a1 c1 x1.Log :: F)) ?_ ?_
  · rintro _ w ⟨a9, c9, b, rfl, hst⟩
    have hr := hk2
    refine th_n ?_
    refine wp_seq ?_
    refine wp_reg ?_
    refine L_op rfl (O_run (v := .agg #[I x1.Term, I x1.Vote, I x1.Base, I x1.BaseTerm, S x1.Snap, .slice a9 y2.length c9]) (w' := w) (R_load (hst.pull 1) rfl rfl) rfl rfl ?_)
    refine L_op rfl (O_store [I x1.Term, I x1.Vote, I x1.Base, I x1.BaseTerm, S x1.Snap, .slice a9 y2.length c9] (hst.pull 2) rfl rfl (by kernel_rfl) fun w hst => ?_)
    refine wpL_nil ?_
    refine th_n ?_
    refine wp_ret ?_
    refine retC (v := .agg #[I x1.Term, I x1.Vote, I x1.Base, I x1.BaseTerm, S x1.Snap, .slice a9 y2.length c9]) (p := p7) (off := 0) (cs := [I x1.Term, I x1.Vote, I x1.Base, I x1.BaseTerm, S x1.Snap, .slice a9 y2.length c9]) (T' := 31) rfl rfl hst (by kernel_rfl) ?_
    obtain rfl := Option.some.inj hr
    have hst := (((hst.pull 4).pull 2).cut 2 3)
    exact hR a9 c9 _ hst
  · have hst := osl_nil r_T_glacierref09_Entry 56 hst
    have hst := (((((hst.pull 4).pull 4).pull 4).pull 4).pull 4)
    refine wp_block ?_
    refine wp_loop_fuel (fun j a w => ∃ (v7 : Int) (v8 : (List T_glacierref09_Entry)) (a7 : Option Addr) (c7 : Nat) (b : Nat → Value), a = mkF 32 b [(2, pt p7 0), (3, pt p8 0), (18, .slice a1 x1.Log.length c1), (19, I (x1.Log.length : Int)), (20, I v7)] ∧ St G w (osl r_T_glacierref09_Entry 56 a7 c7 v8 :: blk p8 (cl [I x1.Term, I x1.Vote, I x1.Base, I x1.BaseTerm, S x1.Snap, .slice a7 v8.length c7] 31) :: blk p7 (cl [I 0, I 0, I 0, I 0, S ([]), .slice none 0 0] 31) :: blk p6 (cl [I x1.Term, I x1.Vote, I x1.Base, I x1.BaseTerm, S x1.Snap, .slice a1 x1.Log.length c1] 46) :: dsl r_T_term_Entry a1 c1 x1.Log :: F) ∧ glacierlaw09_Told_l1 k x1 j v7 v8 = some y2) (k := k) ⟨(0 : Int), [], none, 0, (kpX [(2, pt p7 0), (3, pt p8 0), (18, .slice a1 x1.Log.length c1), (19, I (x1.Log.length : Int)), (20, I 0)] rfl ⟨hst, hy2⟩)⟩ ?_ ?_
    · rintro _ _ ⟨_, _, _, _, _, _, _, h⟩
      rw [glacierlaw09_Told_l1] at h
      cases h
    · rintro j _ w ⟨v7, v8, a7, c7, b, rfl, hst, hr⟩
      rw [glacierlaw09_Told_l1] at hr
      refine wp_seq ?_
      refine wp_reg ?_
      refine L_pure 1 [(2, pt p7 0), (3, pt p8 0), (18, .slice a1 x1.Log.length c1), (19, I (x1.Log.length : Int)), (20, I v7), (21, .bool (decide (v7 < (x1.Log.length : Int))))] (by kernel_rfl) fun b => ?_
      refine wpL_nil ?_
      refine th_n ?_
      refine wp_seq ?_
      refine wp_cond_mkF (t := decide (v7 < (x1.Log.length : Int))) rfl (fun h => ?_) (fun h => ?_)
      · have hr := (if_pos h).symm.trans hr
        refine wp_skip ?_
        refine th_n ?_
        refine wp_seq ?_
        refine wp_block ?_
        refine wp_seq ?_
        refine wp_reg ?_
        obtain ⟨x3, hx2, hr⟩ := bnd hr
        refine L_op rfl (O_run (v := pt (ab a1) (ao a1 + v7.toNat * 3)) (w' := w) (R_ia L40 rfl rfl (dsl_addr (hst.pull 4) hx2) (gt_some hx2).1 (gt_some hx2).2.1) rfl rfl ?_)
        obtain ⟨q2, hc2, hst⟩ := dsl_cells (hst.pull 4) hx2
        have hst := hst.drop
        refine L_op rfl (O_run (v := .agg #[I x3.Index, I x3.Term, S x3.Cmd]) (w' := w) (R_loadAt (off := ao a1 + v7.toNat * 3) (j := 0) hc2 rfl rfl) rfl rfl ?_)
        refine L_op rfl (O_alloc (i := Try.t55) (z := .agg #[I 0, I 0, S ([])]) [I 0, I 0, S ([])] hst rfl rfl rfl rfl fun p9 w hst => ?_)
        refine L_op rfl (O_store [I x3.Index, I x3.Term, S x3.Cmd] hst rfl rfl (by kernel_rfl) fun w hst => ?_)
        refine wpL_nil ?_
        refine th_n ?_
        refine wp_reg ?_
        refine L_pure 1 [(2, pt p7 0), (3, pt p8 0), (5, pt p9 0), (18, .slice a1 x1.Log.length c1), (19, I (x1.Log.length : Int)), (20, I v7), (24, pt p8 5)] (by kernel_rfl) fun b => ?_
        refine L_op rfl (O_run (v := .slice a7 v8.length c7) (w' := w) (R_load (hst.pull 3) rfl rfl) rfl rfl ?_)
        refine L_op rfl (O_run (v := .agg #[I x3.Index, I x3.Term, S x3.Cmd]) (w' := w) (R_load hst rfl rfl) rfl rfl ?_)
        refine L_op rfl (O_bs (T := 56) [I x3.Index, I x3.Term, S x3.Cmd] #[(0, .agg #[I x3.Index, I x3.Term, S x3.Cmd])] hst (by kernel_rfl) (by kernel_rfl) rfl fun p10 w hst => ?_)
        have hst := osl_of_blk0 (ecs := [[I x3.Index, I x3.Term, S x3.Cmd]]) r_T_glacierref09_Entry [(T_glacierref09_Entry.mk x3.Index x3.Term x3.Cmd)] rfl (fun m => ⟨⟨(), rfl, trivial⟩, trivial⟩) rfl hst
        obtain ⟨hb2, hr⟩ := chk hr
        refine L_op rfl (O_app_o L29 (hst.pull 3) rfl rfl hb2 rfl fun a10 c10 w hst => ?_)
        refine L_pure 1 [(2, pt p7 0), (3, pt p8 0), (18, .slice a1 x1.Log.length c1), (19, I (x1.Log.length : Int)), (20, I v7), (28, .slice a10 (v8 ++ ([(T_glacierref09_Entry.mk x3.Index x3.Term x3.Cmd)])).length c10), (29, pt p8 5)] (by kernel_rfl) fun b => ?_
        refine L_op rfl (O_store [I x1.Term, I x1.Vote, I x1.Base, I x1.BaseTerm, S x1.Snap, .slice a10 (v8 ++ ([(T_glacierref09_Entry.mk x3.Index x3.Term x3.Cmd)])).length c10] (hst.pull 4) rfl rfl (by kernel_rfl) fun w hst => ?_)
        refine wpL_nil ?_
        refine ib_n (th_n ?_)
        refine wp_reg ?_
        refine L_pure 2 [(2, pt p7 0), (3, pt p8 0), (18, .slice a1 x1.Log.length c1), (19, I (x1.Log.length : Int)), (20, I (IntKind.i64.wrap (v7 + 1)))] (by kernel_rfl) fun b => ?_
        refine wpL_nil ?_
        refine th_n ?_
        have hst := ((((((hst.pull 4).pull 6).pull 6).pull 3).pull 4).cut 5 2)
        exact ⟨(IntKind.i64.wrap (v7 + 1)), (v8 ++ ([(T_glacierref09_Entry.mk x3.Index x3.Term x3.Cmd)])), a10, c10, (kpX [(2, pt p7 0), (3, pt p8 0), (18, .slice a1 x1.Log.length c1), (19, I (x1.Log.length : Int)), (20, I (IntKind.i64.wrap (v7 + 1)))] rfl ⟨hst, hr⟩)⟩
      · have hr := (if_neg (by rw [h]; exact Bool.false_ne_true)).symm.trans hr
        refine wp_exit ?_
        refine th_x (th_x (ib_x (th_n ?_)))
        obtain rfl := Option.some.inj hr
        have hst := (((((hst.pull 4).pull 4).pull 4).pull 4).pull 4)
        exact ⟨a7, c7, (kpX [(2, pt p7 0), (3, pt p8 0)] rfl hst)⟩
def raft_Node_State_2 (_k : Nat) (x1 : T_raft_Node) (_x2 : Int) (_x3 : Int) (_x4 : Bool) (_x5 : Int) (_x6 : (List ((List UInt8) × (Option T_platter_file)))) : Option ((List T_term_Entry) × T_term_State) := (if room (([] : List T_term_Entry).length + x1.st.Log.length) 32 = true then some (([] ++ x1.st.Log), (T_term_State.mk x1.st.Term x1.st.Vote x1.st.Base x1.st.BaseTerm x1.st.Snap ([] ++ x1.st.Log))) else none)
set_option maxRecDepth 100000 in
set_option maxHeartbeats 4000000 in
theorem raft_Node_State_2_ok {G w : World} {F : List HP} {R : Ending → World → Prop} (k : Nat) (x1 : T_raft_Node) (x2 : Int) (x3 : Int) (x4 : Bool) (x5 : Int) (x6 : (List ((List UInt8) × (Option T_platter_file)))) (p1 : Nat) (p2 : Nat) (p3 : Nat) (a1 : Option Addr) (c1 : Nat) (a2 : Option Addr) (c2 : Nat) (r : ((List T_term_Entry) × T_term_State)) (hst : St G w (blk p1 (cl [I x1.id, I x1.n, pt p2 0, I x1.st.Term, I x1.st.Vote, I x1.st.Base, I x1.st.BaseTerm, S x1.st.Snap, .slice a1 x1.st.Log.length c1, I x1.role, I x1.leader, I x1.commit, I x1.applied, I x1.timer, .bool (x1.votes 0), .bool (x1.votes 1), .bool (x1.votes 2), .bool (x1.votes 3), .bool (x1.votes 4), I (x1.next 0), I (x1.next 1), I (x1.next 2), I (x1.next 3), I (x1.next 4), I (x1.match_ 0), I (x1.match_ 1), I (x1.match_ 2), I (x1.match_ 3), I (x1.match_ 4), .slice a2 x1.out.length c2, I x1.broken] 63) :: blk p2 (cl [I x2, I x3, .bool x4, I x5, .map (some p3)] 91) :: mpr S (rPt r_T_platter_file) p3 x6 :: dsl r_T_term_Entry a1 c1 x1.st.Log :: osl r_T_raft_Msg 105 a2 c2 x1.out :: F)) (hr : raft_Node_State_2 k x1 x2 x3 x4 x5 x6 = some r)
    (hR : ∀ (a4 : Option Addr) (c4 : Nat) w', St G w' (osl r_T_term_Entry 55 a4 c4 r.1 :: blk p1 (cl [I x1.id, I x1.n, pt p2 0, I x1.st.Term, I x1.st.Vote, I x1.st.Base, I x1.st.BaseTerm, S x1.st.Snap, .slice a1 x1.st.Log.length c1, I x1.role, I x1.leader, I x1.commit, I x1.applied, I x1.timer, .bool (x1.votes 0), .bool (x1.votes 1), .bool (x1.votes 2), .bool (x1.votes 3), .bool (x1.votes 4), I (x1.next 0), I (x1.next 1), I (x1.next 2), I (x1.next 3), I (x1.next 4), I (x1.match_ 0), I (x1.match_ 1), I (x1.match_ 2), I (x1.match_ 3), I (x1.match_ 4), .slice a2 x1.out.length c2, I x1.broken] 63) :: blk p2 (cl [I x2, I x3, .bool x4, I x5, .map (some p3)] 91) :: mpr S (rPt r_T_platter_file) p3 x6 :: dsl r_T_term_Entry a1 c1 x1.st.Log :: osl r_T_raft_Msg 105 a2 c2 x1.out :: F) → R (.returned (.agg #[I r.2.Term, I r.2.Vote, I r.2.Base, I r.2.BaseTerm, S r.2.Snap, .slice a4 r.1.length c4])) w') :
    Calls Try.prog 17 #[pt p1 0] w R := by
  unfold raft_Node_State_2 at hr
  refine enter Try.func17 rfl [(0, pt p1 0)] rfl rfl fun b => ?_
  refine wp_seq ?_
  refine wp_reg ?_
  refine L_op rfl (O_alloc (i := Try.t46) (z := .agg #[I 0, I 0, I 0, I 0, S ([]), .slice none 0 0]) [I 0, I 0, I 0, I 0, S ([]), .slice none 0 0] hst rfl rfl rfl rfl fun p7 w hst => ?_)
  refine wpL_nil ?_
  refine th_n ?_
  refine wp_seq ?_
  refine wp_reg ?_
  refine L_pure 3 [(2, pt p7 0), (6, pt p1 3)] (by kernel_rfl) fun b => ?_
  refine L_op rfl (O_run (v := .agg #[I x1.st.Term, I x1.st.Vote, I x1.st.Base, I x1.st.BaseTerm, S x1.st.Snap, .slice a1 x1.st.Log.length c1]) (w' := w) (R_load (hst.pull 1) rfl rfl) rfl rfl ?_)
  refine L_op rfl (O_alloc (i := Try.t46) (z := .agg #[I 0, I 0, I 0, I 0, S ([]), .slice none 0 0]) [I 0, I 0, I 0, I 0, S ([]), .slice none 0 0] hst rfl rfl rfl rfl fun p8 w hst => ?_)
  refine L_op rfl (O_store [I x1.st.Term, I x1.st.Vote, I x1.st.Base, I x1.st.BaseTerm, S x1.st.Snap, .slice a1 x1.st.Log.length c1] hst rfl rfl (by kernel_rfl) fun w hst => ?_)
  refine wpL_nil ?_
  refine th_n ?_
  refine wp_seq ?_
  refine wp_reg ?_
  refine L_op rfl (O_bs (T := 55) [] #[] hst (by kernel_rfl) (by kernel_rfl) rfl fun p9 w hst => ?_)
  have hst := osl_of_blk0 (ecs := []) r_T_term_Entry [] rfl (fun m => trivial) rfl hst
  refine L_pure 1 [(2, pt p7 0), (3, pt p8 0), (8, .slice (some ⟨p9, 0, none⟩) 0 0), (9, pt p8 5)] (by kernel_rfl) fun b => ?_
  refine L_op rfl (O_run (v := .slice a1 x1.st.Log.length c1) (w' := w) (R_load (hst.pull 1) rfl rfl) rfl rfl ?_)
  obtain ⟨hb2, hr⟩ := chk hr
  refine L_op rfl (O_app_d L40 ((hst.pull 6).pull 1) rfl rfl hb2 rfl fun a5 c5 w hst => ?_)
  refine L_pure 1 [(2, pt p7 0), (3, pt p8 0), (11, .slice a5 ([] ++ x1.st.Log).length c5), (12, pt p8 5)] (by kernel_rfl) fun b => ?_
  refine L_op rfl (O_store [I x1.st.Term, I x1.st.Vote, I x1.st.Base, I x1.st.BaseTerm, S x1.st.Snap, .slice a5 ([] ++ x1.st.Log).length c5] (hst.pull 2) rfl rfl (by kernel_rfl) fun w hst => ?_)
  refine wpL_nil ?_
  refine th_n ?_
  refine wp_seq ?_
  refine wp_reg ?_
  refine L_op rfl (O_run (v := .agg #[I x1.st.Term, I x1.st.Vote, I x1.st.Base, I x1.st.BaseTerm, S x1.st.Snap, .slice a5 ([] ++ x1.st.Log).length c5]) (w' := w) (R_load hst rfl rfl) rfl rfl ?_)
  refine L_op rfl (O_store [I x1.st.Term, I x1.st.Vote, I x1.st.Base, I x1.st.BaseTerm, S x1.st.Snap, .slice a5 ([] ++ x1.st.Log).length c5] (hst.pull 3) rfl rfl (by kernel_rfl) fun w hst => ?_)
  refine wpL_nil ?_
  refine th_n ?_
  refine wp_ret ?_
  refine retC (v := .agg #[I x1.st.Term, I x1.st.Vote, I x1.st.Base, I x1.st.BaseTerm, S x1.st.Snap, .slice a5 ([] ++ x1.st.Log).length c5]) (p := p7) (off := 0) (cs := [I x1.st.Term, I x1.st.Vote, I x1.st.Base, I x1.st.BaseTerm, S x1.st.Snap, .slice a5 ([] ++ x1.st.Log).length c5]) (T' := 46) rfl rfl hst (by kernel_rfl) ?_
  obtain rfl := Option.some.inj hr
  have hst := (((((((hst.pull 7).pull 4).pull 7).pull 7).pull 7).pull 7).cut 6 2)
  exact hR a5 c5 _ hst
def glacierref09_Same_l1 (k : Nat) (x1 : T_glacierref09_State) (x2 : T_glacierref09_State) : Nat → Int → Option (Flow (Bool) (Unit))
  | 0, _ => none
  | j + 1, v4 => (if decide (v4 < (x1.Log.length : Int)) = true then (Option.bind (gt x1.Log v4) fun x5 => (Option.bind (gt x2.Log v4) fun x6 => (if (!(decide (x5 = x6))) = true then some (Flow.ret (false)) else (glacierref09_Same_l1 k x1 x2 j (IntKind.i64.wrap (v4 + 1)))))) else some (Flow.go ()))
def glacierref09_Same (k : Nat) (x1 : T_glacierref09_State) (x2 : T_glacierref09_State) : Option (Bool) := (Option.bind (if (x1.Term != x2.Term) = true then some (true) else (if (x1.Vote != x2.Vote) = true then some (true) else (if (x1.Base != x2.Base) = true then some (true) else (if (x1.BaseTerm != x2.BaseTerm) = true then some (true) else (if (!sEq x1.Snap x2.Snap) = true then some (true) else some (((x1.Log.length : Int) != (x2.Log.length : Int)))))))) fun y3 => (if y3 = true then some (false) else (Option.bind (glacierref09_Same_l1 k x1 x2 k (0 : Int)) fun y4 => (match y4 with | Flow.ret r => some r | Flow.go _ => some (true)))))
set_option maxRecDepth 100000 in
set_option maxHeartbeats 4000000 in
theorem glacierref09_Same_ok {G w : World} {F : List HP} {R : Ending → World → Prop} (k : Nat) (x1 : T_glacierref09_State) (x2 : T_glacierref09_State) (a1 : Option Addr) (c1 : Nat) (a2 : Option Addr) (c2 : Nat) (r : (Bool)) (hst : St G w (dsl r_T_glacierref09_Entry a1 c1 x1.Log :: dsl r_T_glacierref09_Entry a2 c2 x2.Log :: F)) (hr : glacierref09_Same k x1 x2 = some r)
    (hR : ∀ w', St G w' (dsl r_T_glacierref09_Entry a1 c1 x1.Log :: dsl r_T_glacierref09_Entry a2 c2 x2.Log :: F) → R (.returned (.bool r)) w') :
    Calls Try.prog 15 #[.agg #[I x1.Term, I x1.Vote, I x1.Base, I x1.BaseTerm, S x1.Snap, .slice a1 x1.Log.length c1], .agg #[I x2.Term, I x2.Vote, I x2.Base, I x2.BaseTerm, S x2.Snap, .slice a2 x2.Log.length c2]] w R := by
  unfold glacierref09_Same at hr
  refine enter Try.func15 rfl [(0, .agg #[I x1.Term, I x1.Vote, I x1.Base, I x1.BaseTerm, S x1.Snap, .slice a1 x1.Log.length c1]), (1, .agg #[I x2.Term, I x2.Vote, I x2.Base, I x2.BaseTerm, S x2.Snap, .slice a2 x2.Log.length c2])] rfl rfl fun b => ?_
  refine wp_seq ?_
  refine wp_reg ?_
  refine L_op rfl (O_box [I x1.Term, I x1.Vote, I x1.Base, I x1.BaseTerm, S x1.Snap, .slice a1 x1.Log.length c1] hst rfl rfl fun p3 w hst => ?_)
  refine L_op rfl (O_box [I x2.Term, I x2.Vote, I x2.Base, I x2.BaseTerm, S x2.Snap, .slice a2 x2.Log.length c2] hst rfl rfl fun p4 w hst => ?_)
  refine L_pure 1 [(2, pt p3 0), (3, pt p4 0)] (by kernel_rfl) fun b => ?_
  refine wpL_nil ?_
  refine th_n ?_
  refine wp_seq ?_
  obtain ⟨y3, hy3, hk3⟩ := bnd hr
  clear hr
  refine wp_seq_cut (fun a w => ∃ (b : Nat → Value), a = mkF 66 b [(2, pt p3 0), (3, pt p4 0), (47, .bool y3)] ∧ St G w (blk p4 (cl [I x2.Term, I x2.Vote, I x2.Base, I x2.BaseTerm, S x2.Snap, .slice a2 x2.Log.length c2] 31) :: blk p3 (cl [I x1.Term, I x1.Vote, I x1.Base, I x1.BaseTerm, S x1.Snap, .slice a1 x1.Log.length c1] 31) :: dsl r_T_glacierref09_Entry a1 c1 x1.Log :: dsl r_T_glacierref09_Entry a2 c2 x2.Log :: F)) ?_ ?_
  · rintro _ w ⟨b, rfl, hst⟩
    have hr := hk3
    refine wp_cond_mkF (t := y3) rfl (fun h => ?_) (fun h => ?_)
    · have hr := (if_pos h).symm.trans hr
      refine wp_seq ?_
      refine wp_reg ?_
      refine L_pure 1 [(4, .bool false)] (by kernel_rfl) fun b => ?_
      refine wpL_nil ?_
      refine th_n ?_
      refine wp_ret ?_
      refine th_r ?_
      refine ret1 rfl rfl ?_
      obtain rfl := Option.some.inj hr
      have hst := (((hst.pull 3).pull 3).cut 2 2)
      exact hR _ hst
    · have hr := (if_neg (by rw [h]; exact Bool.false_ne_true)).symm.trans hr
      refine wp_skip ?_
      refine th_n ?_
      refine wp_seq ?_
      refine wp_seq ?_
      refine wp_reg ?_
      refine L_pure 1 [(2, pt p3 0), (3, pt p4 0), (48, pt p3 5)] (by kernel_rfl) fun b => ?_
      refine L_op rfl (O_run (v := .slice a1 x1.Log.length c1) (w' := w) (R_load (hst.pull 1) rfl rfl) rfl rfl ?_)
      refine L_pure 2 [(2, pt p3 0), (3, pt p4 0), (50, I (x1.Log.length : Int)), (51, I 0)] (by kernel_rfl) fun b => ?_
      refine wpL_nil ?_
      refine th_n ?_
      obtain ⟨y4, hy4, hk4⟩ := bnd hr
      clear hr
      refine Go.Hx.wp_cut (fun a w => ∃ (z2 : Unit) (b : Nat → Value), y4 = .go z2 ∧ a = mkF 66 b [] ∧ St G w (blk p4 (cl [I x2.Term, I x2.Vote, I x2.Base, I x2.BaseTerm, S x2.Snap, .slice a2 x2.Log.length c2] 31) :: blk p3 (cl [I x1.Term, I x1.Vote, I x1.Base, I x1.BaseTerm, S x1.Snap, .slice a1 x1.Log.length c1] 31) :: dsl r_T_glacierref09_Entry a1 c1 x1.Log :: dsl r_T_glacierref09_Entry a2 c2 x2.Log :: F)) ?_ ?_
      · rintro _ w ⟨z2, b, rfl, rfl, hst⟩
        have hr := hk4
        refine th_n ?_
        refine wp_seq ?_
        refine wp_reg ?_
        refine L_pure 1 [(4, .bool true)] (by kernel_rfl) fun b => ?_
        refine wpL_nil ?_
        refine th_n ?_
        refine wp_ret ?_
        refine ret1 rfl rfl ?_
        obtain rfl := Option.some.inj hr
        have hst := (((hst.pull 3).pull 3).cut 2 2)
        exact hR _ hst
      · have hst := ((((hst.pull 3).pull 3).pull 3).pull 3)
        refine wp_block ?_
        refine wp_loop_fuel (fun j a w => ∃ (v4 : Int) (b : Nat → Value), a = mkF 66 b [(2, pt p3 0), (3, pt p4 0), (50, I (x1.Log.length : Int)), (51, I v4)] ∧ St G w (blk p4 (cl [I x2.Term, I x2.Vote, I x2.Base, I x2.BaseTerm, S x2.Snap, .slice a2 x2.Log.length c2] 31) :: blk p3 (cl [I x1.Term, I x1.Vote, I x1.Base, I x1.BaseTerm, S x1.Snap, .slice a1 x1.Log.length c1] 31) :: dsl r_T_glacierref09_Entry a1 c1 x1.Log :: dsl r_T_glacierref09_Entry a2 c2 x2.Log :: F) ∧ glacierref09_Same_l1 k x1 x2 j v4 = some y4) (k := k) ⟨(0 : Int), (kpX [(2, pt p3 0), (3, pt p4 0), (50, I (x1.Log.length : Int)), (51, I 0)] rfl ⟨hst, hy4⟩)⟩ ?_ ?_
        · rintro _ _ ⟨_, _, _, _, h⟩
          rw [glacierref09_Same_l1] at h
          cases h
        · rintro j _ w ⟨v4, b, rfl, hst, hr⟩
          rw [glacierref09_Same_l1] at hr
          refine wp_seq ?_
          refine wp_reg ?_
          refine L_pure 1 [(2, pt p3 0), (3, pt p4 0), (50, I (x1.Log.length : Int)), (51, I v4), (52, .bool (decide (v4 < (x1.Log.length : Int))))] (by kernel_rfl) fun b => ?_
          refine wpL_nil ?_
          refine th_n ?_
          refine wp_seq ?_
          refine wp_cond_mkF (t := decide (v4 < (x1.Log.length : Int))) rfl (fun h => ?_) (fun h => ?_)
          · have hr := (if_pos h).symm.trans hr
            refine wp_skip ?_
            refine th_n ?_
            refine wp_seq ?_
            refine wp_block ?_
            refine wp_seq ?_
            refine wp_reg ?_
            refine L_pure 2 [(2, pt p3 0), (3, pt p4 0), (5, I v4), (50, I (x1.Log.length : Int)), (51, I v4)] (by kernel_rfl) fun b => ?_
            refine wpL_nil ?_
            refine th_n ?_
            refine wp_seq ?_
            refine wp_regG (SN { w with drawn := w.drawn + 1 }) rfl ?_
            have hst := hst.draw (n := w.drawn + 1)
            generalize { w with drawn := w.drawn + 1 } = w at hst ⊢
            refine C_take (i := 0) (v := pt p3 5) rfl (by kernel_rfl) (fun _ _ _ h => h) rfl rfl rfl (R_pure (by kernel_rfl)) ?_
            refine C_take (i := 1) (v := .slice a1 x1.Log.length c1) rfl (by kernel_rfl) (fun _ _ _ h => h) rfl rfl rfl (R_load (hst.pull 1) rfl rfl) ?_
            refine C_take (i := 2) (v := I v4) rfl (by kernel_rfl) (fun _ _ _ h => h) rfl rfl rfl (R_pure (by kernel_rfl)) ?_
            obtain ⟨x5, hx3, hr⟩ := bnd hr
            refine C_take (i := 3) (v := pt (ab a1) (ao a1 + v4.toNat * 3)) rfl (by kernel_rfl) (fun _ _ _ h => h) rfl rfl rfl (R_ia L29 rfl rfl (dsl_addr (hst.pull 2) hx3) (gt_some hx3).1 (gt_some hx3).2.1) ?_
            obtain ⟨q3, hc3, hst⟩ := dsl_cells (hst.pull 2) hx3
            have hst := hst.drop
            refine C_take (i := 4) (v := .agg #[I x5.Index, I x5.Term, S x5.Cmd]) rfl (by kernel_rfl) (fun _ _ _ h => h) rfl rfl rfl (R_loadAt (off := ao a1 + v4.toNat * 3) (j := 0) hc3 rfl rfl) ?_
            refine C_take (i := 5) (v := pt p4 5) rfl (by kernel_rfl) (fun _ _ _ h => h) rfl rfl rfl (R_pure (by kernel_rfl)) ?_
            refine C_take (i := 6) (v := .slice a2 x2.Log.length c2) rfl (by kernel_rfl) (fun _ _ _ h => h) rfl rfl rfl (R_load (hst.pull 1) rfl rfl) ?_
            refine C_take (i := 7) (v := I v4) rfl (by kernel_rfl) (fun _ _ _ h => h) rfl rfl rfl (R_pure (by kernel_rfl)) ?_
            obtain ⟨x6, hx4, hr⟩ := bnd hr
            refine C_take (i := 8) (v := pt (ab a2) (ao a2 + v4.toNat * 3)) rfl (by kernel_rfl) (fun _ _ _ h => h) rfl rfl rfl (R_ia L29 rfl rfl (dsl_addr (hst.pull 3) hx4) (gt_some hx4).1 (gt_some hx4).2.1) ?_
            obtain ⟨q4, hc4, hst⟩ := dsl_cells (hst.pull 3) hx4
            have hst := hst.drop
            refine C_take (i := 9) (v := .agg #[I x6.Index, I x6.Term, S x6.Cmd]) rfl (by kernel_rfl) (fun _ _ _ h => h) rfl rfl rfl (R_loadAt (off := ao a2 + v4.toNat * 3) (j := 0) hc4 rfl rfl) ?_
            refine C_take (i := 10) (v := .bool (!(decide (x5 = x6)))) rfl (by kernel_rfl) (fun _ _ _ h => h) rfl rfl rfl (R_sne rfl rfl G56 (EQ56 x5 x6 _)) ?_
            refine wpG_done (by kernel_rfl) ?_ _
            refine C_keepQ [(2, pt p3 0), (3, pt p4 0), (50, I (x1.Log.length : Int)), (51, I v4), (64, .bool (!(decide (x5 = x6))))] rfl fun b => ?_
            refine th_n ?_
            refine wp_cond_mkF (t := (!(decide (x5 = x6)))) rfl (fun h => ?_) (fun h => ?_)
            · have hr := (if_pos h).symm.trans hr
              refine wp_seq ?_
              refine wp_reg ?_
              refine L_pure 1 [(4, .bool false)] (by kernel_rfl) fun b => ?_
              refine wpL_nil ?_
              refine th_n ?_
              refine wp_ret ?_
              refine ib_r (th_r (th_r (ib_r (th_r (th_r ?_)))))
              refine ret1 rfl rfl ?_
              obtain rfl := Option.some.inj hr
              obtain rfl := Option.some.inj hk4
              have hst := ((hst.pull 1).cut 2 2)
              exact hR _ hst
            · have hr := (if_neg (by rw [h]; exact Bool.false_ne_true)).symm.trans hr
              refine wp_skip ?_
              refine ib_n (th_n ?_)
              refine wp_reg ?_
              refine L_pure 2 [(2, pt p3 0), (3, pt p4 0), (50, I (x1.Log.length : Int)), (51, I (IntKind.i64.wrap (v4 + 1)))] (by kernel_rfl) fun b => ?_
              refine wpL_nil ?_
              refine th_n ?_
              have hst := (((hst.pull 1).pull 3).pull 3)
              exact ⟨(IntKind.i64.wrap (v4 + 1)), (kpX [(2, pt p3 0), (3, pt p4 0), (50, I (x1.Log.length : Int)), (51, I (IntKind.i64.wrap (v4 + 1)))] rfl ⟨hst, hr⟩)⟩
          · have hr := (if_neg (by rw [h]; exact Bool.false_ne_true)).symm.trans hr
            refine wp_exit ?_
            refine th_x (th_x (ib_x (th_n ?_)))
            obtain rfl := Option.some.inj hr
            have hst := ((((hst.pull 3).pull 3).pull 3).pull 3)
            exact ⟨(), (kpXf [] rfl hst)⟩
  · have hr := hy3
    refine wp_reg ?_
    refine L_pure 1 [(2, pt p3 0), (3, pt p4 0), (6, pt p3 0)] (by kernel_rfl) fun b => ?_
    refine L_op rfl (O_run (v := I x1.Term) (w' := w) (R_load (hst.pull 1) rfl rfl) rfl rfl ?_)
    refine L_pure 1 [(2, pt p3 0), (3, pt p4 0), (7, I x1.Term), (8, pt p4 0)] (by kernel_rfl) fun b => ?_
    refine L_op rfl (O_run (v := I x2.Term) (w' := w) (R_load hst rfl rfl) rfl rfl ?_)
    refine L_pure 2 [(2, pt p3 0), (3, pt p4 0), (11, .bool (x1.Term != x2.Term))] (by kernel_rfl) fun b => ?_
    by_cases h : (x1.Term != x2.Term) = true
    · have hr := (if_pos h).symm.trans hr
      refine L_keep ((11, .bool (x1.Term != x2.Term)) :: [(2, pt p3 0), (3, pt p4 0)]) rfl fun b => ?_
      refine L_bool h ?_
      refine L_pure 36 [(2, pt p3 0), (3, pt p4 0), (47, .bool true)] (by kernel_rfl) fun b => ?_
      refine wpL_nil ?_
      refine th_n ?_
      obtain rfl := Option.some.inj hr
      have hst := ((((hst.pull 3).pull 3).pull 3).pull 3)
      exact (kpX [(2, pt p3 0), (3, pt p4 0), (47, .bool true)] rfl hst)
    · have hr := (if_neg h).symm.trans hr
      refine L_keep ((11, .bool (x1.Term != x2.Term)) :: [(2, pt p3 0), (3, pt p4 0)]) rfl fun b => ?_
      refine L_bool (eq_false_of_ne_true h) ?_
      refine L_pure 1 [(2, pt p3 0), (3, pt p4 0), (11, .bool false), (12, pt p3 1)] (by kernel_rfl) fun b => ?_
      refine L_op rfl (O_run (v := I x1.Vote) (w' := w) (R_load (hst.pull 1) rfl rfl) rfl rfl ?_)
      refine L_pure 1 [(2, pt p3 0), (3, pt p4 0), (11, .bool false), (13, I x1.Vote), (14, pt p4 1)] (by kernel_rfl) fun b => ?_
      refine L_op rfl (O_run (v := I x2.Vote) (w' := w) (R_load hst rfl rfl) rfl rfl ?_)
      refine L_pure 3 [(2, pt p3 0), (3, pt p4 0), (18, .bool (x1.Vote != x2.Vote))] (by kernel_rfl) fun b => ?_
      by_cases h : (x1.Vote != x2.Vote) = true
      · have hr := (if_pos h).symm.trans hr
        refine L_keep ((18, .bool (x1.Vote != x2.Vote)) :: [(2, pt p3 0), (3, pt p4 0)]) rfl fun b => ?_
        refine L_bool h ?_
        refine L_pure 29 [(2, pt p3 0), (3, pt p4 0), (47, .bool true)] (by kernel_rfl) fun b => ?_
        refine wpL_nil ?_
        refine th_n ?_
        obtain rfl := Option.some.inj hr
        have hst := ((((hst.pull 3).pull 3).pull 3).pull 3)
        exact (kpX [(2, pt p3 0), (3, pt p4 0), (47, .bool true)] rfl hst)
      · have hr := (if_neg h).symm.trans hr
        refine L_keep ((18, .bool (x1.Vote != x2.Vote)) :: [(2, pt p3 0), (3, pt p4 0)]) rfl fun b => ?_
        refine L_bool (eq_false_of_ne_true h) ?_
        refine L_pure 1 [(2, pt p3 0), (3, pt p4 0), (18, .bool false), (19, pt p3 2)] (by kernel_rfl) fun b => ?_
        refine L_op rfl (O_run (v := I x1.Base) (w' := w) (R_load (hst.pull 1) rfl rfl) rfl rfl ?_)
        refine L_pure 1 [(2, pt p3 0), (3, pt p4 0), (18, .bool false), (20, I x1.Base), (21, pt p4 2)] (by kernel_rfl) fun b => ?_
        refine L_op rfl (O_run (v := I x2.Base) (w' := w) (R_load hst rfl rfl) rfl rfl ?_)
        refine L_pure 3 [(2, pt p3 0), (3, pt p4 0), (25, .bool (x1.Base != x2.Base))] (by kernel_rfl) fun b => ?_
        by_cases h : (x1.Base != x2.Base) = true
        · have hr := (if_pos h).symm.trans hr
          refine L_keep ((25, .bool (x1.Base != x2.Base)) :: [(2, pt p3 0), (3, pt p4 0)]) rfl fun b => ?_
          refine L_bool h ?_
          refine L_pure 22 [(2, pt p3 0), (3, pt p4 0), (47, .bool true)] (by kernel_rfl) fun b => ?_
          refine wpL_nil ?_
          refine th_n ?_
          obtain rfl := Option.some.inj hr
          have hst := ((((hst.pull 3).pull 3).pull 3).pull 3)
          exact (kpX [(2, pt p3 0), (3, pt p4 0), (47, .bool true)] rfl hst)
        · have hr := (if_neg h).symm.trans hr
          refine L_keep ((25, .bool (x1.Base != x2.Base)) :: [(2, pt p3 0), (3, pt p4 0)]) rfl fun b => ?_
          refine L_bool (eq_false_of_ne_true h) ?_
          refine L_pure 1 [(2, pt p3 0), (3, pt p4 0), (25, .bool false), (26, pt p3 3)] (by kernel_rfl) fun b => ?_
          refine L_op rfl (O_run (v := I x1.BaseTerm) (w' := w) (R_load (hst.pull 1) rfl rfl) rfl rfl ?_)
          refine L_pure 1 [(2, pt p3 0), (3, pt p4 0), (25, .bool false), (27, I x1.BaseTerm), (28, pt p4 3)] (by kernel_rfl) fun b => ?_
          refine L_op rfl (O_run (v := I x2.BaseTerm) (w' := w) (R_load hst rfl rfl) rfl rfl ?_)
          refine L_pure 3 [(2, pt p3 0), (3, pt p4 0), (32, .bool (x1.BaseTerm != x2.BaseTerm))] (by kernel_rfl) fun b => ?_
          by_cases h : (x1.BaseTerm != x2.BaseTerm) = true
          · have hr := (if_pos h).symm.trans hr
            refine L_keep ((32, .bool (x1.BaseTerm != x2.BaseTerm)) :: [(2, pt p3 0), (3, pt p4 0)]) rfl fun b => ?_
            refine L_bool h ?_
            refine L_pure 15 [(2, pt p3 0), (3, pt p4 0), (47, .bool true)] (by kernel_rfl) fun b => ?_
            refine wpL_nil ?_
            refine th_n ?_
            obtain rfl := Option.some.inj hr
            have hst := ((((hst.pull 3).pull 3).pull 3).pull 3)
            exact (kpX [(2, pt p3 0), (3, pt p4 0), (47, .bool true)] rfl hst)
          · have hr := (if_neg h).symm.trans hr
            refine L_keep ((32, .bool (x1.BaseTerm != x2.BaseTerm)) :: [(2, pt p3 0), (3, pt p4 0)]) rfl fun b => ?_
            refine L_bool (eq_false_of_ne_true h) ?_
            refine L_pure 1 [(2, pt p3 0), (3, pt p4 0), (32, .bool false), (33, pt p3 4)] (by kernel_rfl) fun b => ?_
            refine L_op rfl (O_run (v := S x1.Snap) (w' := w) (R_load (hst.pull 1) rfl rfl) rfl rfl ?_)
            refine L_pure 1 [(2, pt p3 0), (3, pt p4 0), (32, .bool false), (34, S x1.Snap), (35, pt p4 4)] (by kernel_rfl) fun b => ?_
            refine L_op rfl (O_run (v := S x2.Snap) (w' := w) (R_load hst rfl rfl) rfl rfl ?_)
            refine L_pure 3 [(2, pt p3 0), (3, pt p4 0), (39, .bool (!sEq x1.Snap x2.Snap))] (by kernel_rfl) fun b => ?_
            by_cases h : (!sEq x1.Snap x2.Snap) = true
            · have hr := (if_pos h).symm.trans hr
              refine L_keep ((39, .bool (!sEq x1.Snap x2.Snap)) :: [(2, pt p3 0), (3, pt p4 0)]) rfl fun b => ?_
              refine L_bool h ?_
              refine L_pure 8 [(2, pt p3 0), (3, pt p4 0), (47, .bool true)] (by kernel_rfl) fun b => ?_
              refine wpL_nil ?_
              refine th_n ?_
              obtain rfl := Option.some.inj hr
              have hst := ((((hst.pull 3).pull 3).pull 3).pull 3)
              exact (kpX [(2, pt p3 0), (3, pt p4 0), (47, .bool true)] rfl hst)
            · have hr := (if_neg h).symm.trans hr
              refine L_keep ((39, .bool (!sEq x1.Snap x2.Snap)) :: [(2, pt p3 0), (3, pt p4 0)]) rfl fun b => ?_
              refine L_bool (eq_false_of_ne_true h) ?_
              refine L_pure 1 [(2, pt p3 0), (3, pt p4 0), (39, .bool false), (40, pt p3 5)] (by kernel_rfl) fun b => ?_
              refine L_op rfl (O_run (v := .slice a1 x1.Log.length c1) (w' := w) (R_load (hst.pull 1) rfl rfl) rfl rfl ?_)
              refine L_pure 2 [(2, pt p3 0), (3, pt p4 0), (39, .bool false), (42, I (x1.Log.length : Int)), (43, pt p4 5)] (by kernel_rfl) fun b => ?_
              refine L_op rfl (O_run (v := .slice a2 x2.Log.length c2) (w' := w) (R_load hst rfl rfl) rfl rfl ?_)
              refine L_pure 3 [(2, pt p3 0), (3, pt p4 0), (47, .bool ((x1.Log.length : Int) != (x2.Log.length : Int)))] (by kernel_rfl) fun b => ?_
              refine wpL_nil ?_
              refine th_n ?_
              obtain rfl := Option.some.inj hr
              have hst := ((((hst.pull 3).pull 3).pull 3).pull 3)
              exact (kpX [(2, pt p3 0), (3, pt p4 0), (47, .bool ((x1.Log.length : Int) != (x2.Log.length : Int)))] rfl hst)
end Go.Proofs.Ytpldjopnhhbjpaa
