/- TP, one part more. -/
import Derived.Test.YthmjdekmacoaaaaTPb
namespace Go.Proofs.Ythmjdekmacoaaaa
open Go.Hx Go.RowKit
def glacierlaw09_TermParts_l1 (k : Nat) (x1 : (List (List UInt8))) (x2 : (List Int)) : Nat → (List T_term_Entry) → Int → Option ((List T_term_Entry))
  | 0, _, _ => none
  | j + 1, v13, v14 => (Option.bind (if decide (v14 < (x1.length : Int)) = true then (if decide (v14 < (x2.length : Int)) = true then some (decide (v14 < 10)) else some (false)) else some (false)) fun y24 => (if y24 = true then (Option.bind (gt x2 v14) fun x11 => (Option.bind (gt x1 v14) fun x12 => (Option.bind (glacierlaw01_Cut k x12 20) fun y25 => (if room (v13.length + ([(T_term_Entry.mk (IntKind.i64.wrap (v14 + 1)) (mn2 (mx2 x11 0) 100) y25)]).length) 32 = true then (glacierlaw09_TermParts_l1 k x1 x2 j (v13 ++ ([(T_term_Entry.mk (IntKind.i64.wrap (v14 + 1)) (mn2 (mx2 x11 0) 100) y25)])) (IntKind.i64.wrap (v14 + 1))) else none)))) else some (v13)))
def glacierlaw09_TermParts_l3 (k : Nat) (v17 : Int) (y23 : ((List T_term_Entry))) (y29 : ((List T_term_Entry) × T_term_State × Int × Int × Int × (List ((List UInt8) × (Option T_platter_file))))) (y33 : ((List T_term_Entry))) : Nat → Int → Option (Flow (Bool) (Unit))
  | 0, _ => none
  | j + 1, v20 => (if decide (v20 < (y33.length : Int)) = true then (Option.bind (gt y33 v20) fun x15 => (Option.bind (term_State_TermAt k (T_term_State.mk y29.2.1.Term y29.2.1.Vote y29.2.1.Base y29.2.1.BaseTerm y29.2.1.Snap y29.1) (IntKind.i64.wrap (v17 + v20))) fun y35 => (Option.bind (Option.bind (gt y23 (IntKind.i64.wrap ((IntKind.i64.wrap (v17 + v20)) - 1))) fun x16 => (if (!(decide (x15 = x16))) = true then some (true) else (if (!y35.2) = true then some (true) else some ((y35.1 != x15.Term))))) fun y36 => (if y36 = true then some (Flow.ret (false)) else (glacierlaw09_TermParts_l3 k v17 y23 y29 y33 j (IntKind.i64.wrap (v20 + 1))))))) else some (Flow.go ()))
def glacierlaw09_TermParts_l2 (k : Nat) (x4 : Int) (y23 : ((List T_term_Entry))) (y29 : ((List T_term_Entry) × T_term_State × Int × Int × Int × (List ((List UInt8) × (Option T_platter_file))))) : Nat → Int → Int → Option (Flow (Bool) (Int))
  | 0, _, _ => none
  | j + 1, v17, v18 => (Option.bind (if decide (v18 < 20) = true then some (decide (v17 ≤ (y23.length : Int))) else some (false)) fun y32 => (if y32 = true then (Option.bind (term_State_From k (T_term_State.mk y29.2.1.Term y29.2.1.Vote y29.2.1.Base y29.2.1.BaseTerm y29.2.1.Snap y29.1) v17 (mn2 (mx2 x4 1) 20)) fun y33 => (if ((y33.length : Int) == 0) = true then some (Flow.ret (false)) else (Option.bind (glacierlaw09_TermParts_l3 k v17 y23 y29 y33 k (0 : Int)) fun y34 => (match y34 with | Flow.ret r => some (Flow.ret r) | Flow.go _ => (glacierlaw09_TermParts_l2 k x4 y23 y29 j (IntKind.i64.wrap (v17 + (y33.length : Int))) (IntKind.i64.wrap (v18 + 1))))))) else some (Flow.go (v17))))
def glacierlaw09_TermParts (k : Nat) (x1 : (List (List UInt8))) (x2 : (List Int)) (x3 : Int) (x4 : Int) : Option (Bool) := (Option.bind (platter_New k 100000) fun y20 => (Option.bind (Option.bind (glacierlaw09_awake k) fun y22 => (if (!y22) = true then some (true) else some (false))) fun y21 => (if y21 = true then some (false) else (Option.bind (glacierlaw09_TermParts_l1 k x1 x2 k ([]) (0 : Int)) fun y23 => (Option.bind (Option.bind (sl y23 0 (mn2 (mx2 x3 0) (y23.length : Int))) fun x13 => (Option.bind (term_Append k y20.1 y20.2.1 y20.2.2.1 y20.2.2.2.1 y20.2.2.2.2 x13) fun y27 => (if (y27.1 != 0) = true then some (true, y27.2.1, y27.2.2.1, y27.2.2.2) else (Option.bind (sl y23 (mn2 (mx2 x3 0) (y23.length : Int)) (y23.length : Int)) fun x14 => (Option.bind (term_Append k y20.1 y27.2.1 y20.2.2.1 y27.2.2.1 y27.2.2.2 x14) fun y28 => some ((y28.1 != 0), y28.2.1, y28.2.2.1, y28.2.2.2)))))) fun y26 => (if y26.1 = true then some (false) else (Option.bind (term_Load k y20.1 y26.2.1 y20.2.2.1 y26.2.2.1 y26.2.2.2) fun y29 => (Option.bind (if (y29.2.2.1 != 0) = true then some (true) else some (((y29.1.length : Int) != (y23.length : Int)))) fun y30 => (if y30 = true then some (false) else (Option.bind (glacierlaw09_TermParts_l2 k x4 y23 y29 k (1 : Int) (0 : Int)) fun y31 => (match y31 with | Flow.ret r => some r | Flow.go z3 => (Option.bind (if (z3 == (IntKind.i64.wrap ((y23.length : Int) + 1))) = true then (Option.bind (term_State_From k (T_term_State.mk y29.2.1.Term y29.2.1.Vote y29.2.1.Base y29.2.1.BaseTerm y29.2.1.Snap y29.1) z3 (mn2 (mx2 x4 1) 20)) fun y38 => some (((y38.length : Int) == 0))) else some (false)) fun y37 => some (y37)))))))))))))
set_option maxRecDepth 100000 in
set_option maxHeartbeats 4000000 in
theorem glacierlaw09_TermParts_ok {G w : World} {F : List HP} {R : Ending → World → Prop} (k : Nat) (x1 : (List (List UInt8))) (x2 : (List Int)) (x3 : Int) (x4 : Int) (a1 : Option Addr) (c1 : Nat) (a2 : Option Addr) (c2 : Nat) (r : (Bool)) (hst : St G w (dsl rS a1 c1 x1 :: dsl (rI .i64) a2 c2 x2 :: F)) (hr : glacierlaw09_TermParts k x1 x2 x3 x4 = some r)
    (hR : ∀ w', St G w' (dsl rS a1 c1 x1 :: dsl (rI .i64) a2 c2 x2 :: F) → R (.returned (.bool r)) w') :
    Calls Try.prog 10 #[.slice a1 x1.length c1, .slice a2 x2.length c2, I x3, I x4] w R := by
  unfold glacierlaw09_TermParts at hr
  refine enter Try.func10 rfl [(0, .slice a1 x1.length c1), (1, .slice a2 x2.length c2), (2, I x3), (3, I x4)] rfl rfl fun b => ?_
  refine wp_seq ?_
  refine wp_reg ?_
  refine L_pure 1 [(0, .slice a1 x1.length c1), (1, .slice a2 x2.length c2), (2, I x3), (3, I x4)] (by kernel_rfl) fun b => ?_
  refine wpL_nil ?_
  refine th_n ?_
  refine wp_seq ?_
  refine wp_reg ?_
  obtain ⟨y20, hy20, hr⟩ := bnd hr
  refine L_op rfl (O_call (vs := #[I 100000]) Try.call14 (by kernel_rfl) (platter_New_ok k 100000 y20 hst hy20 fun p7 p8 w hst => ?_))
  refine CK_ret rfl ?_
  refine L_pure 1 [(0, .slice a1 x1.length c1), (1, .slice a2 x2.length c2), (2, I x3), (3, I x4), (9, pt p7 0)] (by kernel_rfl) fun b => ?_
  refine wpL_nil ?_
  refine th_n ?_
  refine wp_seq ?_
  obtain ⟨y21, hy21, hk11⟩ := bnd hr
  clear hr
  refine wp_seq_cut (fun a w => ∃ (b : Nat → Value), a = mkF 165 b [(0, .slice a1 x1.length c1), (1, .slice a2 x2.length c2), (2, I x3), (3, I x4), (9, pt p7 0), (27, .bool y21)] ∧ St G w (blk p7 (cl [I y20.1, I y20.2.1, .bool y20.2.2.1, I y20.2.2.2.1, .map (some p8)] 42) :: mpr S (rPt r_T_platter_file) p8 y20.2.2.2.2 :: dsl rS a1 c1 x1 :: dsl (rI .i64) a2 c2 x2 :: F)) ?_ ?_
  · rintro _ w ⟨b, rfl, hst⟩
    have hr := hk11
    refine wp_cond_mkF (t := y21) rfl (fun h => ?_) (fun h => ?_)
    · have hr := (if_pos h).symm.trans hr
      refine wp_seq ?_
      refine wp_reg ?_
      refine L_pure 1 [(8, .bool false)] (by kernel_rfl) fun b => ?_
      refine wpL_nil ?_
      refine th_n ?_
      refine wp_ret ?_
      refine th_r ?_
      refine ret1 rfl rfl ?_
      obtain rfl := Option.some.inj hr
      have hst := (((hst.pull 3).pull 3).cut 2 2)
      exact hR _ hst
    · have hr := (if_neg (by rw [h]; exact Bool.false_ne_true)).symm.trans hr
      refine wp_skip ?_
      refine th_n ?_
      refine wp_seq ?_
      refine wp_reg ?_
      refine L_op rfl (O_bs (T := 52) [] #[] hst (by kernel_rfl) (by kernel_rfl) rfl fun p9 w hst => ?_)
      have hst := osl_of_blk0 (ecs := []) r_T_term_Entry [] rfl (fun m => trivial) rfl hst
      refine L_pure 1 [(0, .slice a1 x1.length c1), (1, .slice a2 x2.length c2), (2, I x3), (3, I x4), (9, pt p7 0), (10, .slice (some ⟨p9, 0, none⟩) 0 0)] (by kernel_rfl) fun b => ?_
      refine wpL_nil ?_
      refine th_n ?_
      refine wp_seq ?_
      refine wp_seq ?_
      refine wp_reg ?_
      refine L_pure 1 [(0, .slice a1 x1.length c1), (1, .slice a2 x2.length c2), (2, I x3), (3, I x4), (9, pt p7 0), (10, .slice (some ⟨p9, 0, none⟩) 0 0), (11, I 0)] (by kernel_rfl) fun b => ?_
      refine wpL_nil ?_
      refine th_n ?_
      obtain ⟨y23, hy23, hk12⟩ := bnd hr
      clear hr
      refine Go.Hx.wp_cut (fun a w => ∃ (a12 : Option Addr) (c12 : Nat)(b : Nat → Value), a = mkF 165 b [(2, I x3), (3, I x4), (9, pt p7 0), (10, .slice a12 y23.length c12)] ∧ St G w (osl r_T_term_Entry 52 a12 c12 y23 :: blk p7 (cl [I y20.1, I y20.2.1, .bool y20.2.2.1, I y20.2.2.2.1, .map (some p8)] 42) :: mpr S (rPt r_T_platter_file) p8 y20.2.2.2.2 :: dsl rS a1 c1 x1 :: dsl (rI .i64) a2 c2 x2 :: F)) ?_ ?_
      · rintro _ w ⟨a12, c12, b, rfl, hst⟩
        have hr := hk12
        refine th_n ?_
        refine wp_seq ?_
        refine wp_reg ?_
        refine L_pure 6 [(2, I (mn2 (mx2 x3 0) (y23.length : Int))), (3, I x4), (9, pt p7 0), (10, .slice a12 y23.length c12)] (by kernel_rfl) fun b => ?_
        refine wpL_nil ?_
        refine th_n ?_
        refine wp_seq ?_
        refine wp_reg ?_
        refine L_pure 4 [(2, I (mn2 (mx2 x3 0) (y23.length : Int))), (3, I (mn2 (mx2 x4 1) 20)), (9, pt p7 0), (10, .slice a12 y23.length c12)] (by kernel_rfl) fun b => ?_
        refine wpL_nil ?_
        refine th_n ?_
        refine wp_seq ?_
        obtain ⟨y26, hy26, hk14⟩ := bnd hr
        clear hr
        refine wp_seq_cut (fun a w => ∃ (b : Nat → Value), a = mkF 165 b [(3, I (mn2 (mx2 x4 1) 20)), (9, pt p7 0), (10, .slice a12 y23.length c12), (83, .bool y26.1)] ∧ St G w (blk p7 (cl [I y20.1, I y26.2.1, .bool y20.2.2.1, I y26.2.2.1, .map (some p8)] 42) :: mpr S (rPt r_T_platter_file) p8 y26.2.2.2 :: dsl r_T_term_Entry a12 c12 y23 :: dsl rS a1 c1 x1 :: dsl (rI .i64) a2 c2 x2 :: F)) ?_ ?_
        · rintro _ w ⟨b, rfl, hst⟩
          have hr := hk14
          refine wp_cond_mkF (t := y26.1) rfl (fun h => ?_) (fun h => ?_)
          · have hr := (if_pos h).symm.trans hr
            refine wp_seq ?_
            refine wp_reg ?_
            refine L_pure 1 [(8, .bool false)] (by kernel_rfl) fun b => ?_
            refine wpL_nil ?_
            refine th_n ?_
            refine wp_ret ?_
            refine th_r ?_
            refine ret1 rfl rfl ?_
            obtain rfl := Option.some.inj hr
            have hst := (((hst.pull 4).pull 4).cut 2 3)
            exact hR _ hst
          · have hr := (if_neg (by rw [h]; exact Bool.false_ne_true)).symm.trans hr
            refine wp_skip ?_
            refine th_n ?_
            refine wp_seq ?_
            refine wp_reg ?_
            refine L_pure 1 [(3, I (mn2 (mx2 x4 1) 20)), (10, .slice a12 y23.length c12), (85, pt p7 0)] (by kernel_rfl) fun b => ?_
            obtain ⟨y29, hy29, hr⟩ := bnd hr
            refine L_op rfl (O_call (vs := #[pt p7 0]) Try.call27 (by kernel_rfl) (term_Load_ok k y20.1 y26.2.1 y20.2.2.1 y26.2.2.1 y26.2.2.2 p7 p8 y29 ((hst.pull 1).pull 1) hy29 fun a16 c16 w hst => ?_))
            refine CK_ret rfl ?_
            refine L_pure 3 [(3, I (mn2 (mx2 x4 1) 20)), (10, .slice a12 y23.length c12), (87, .agg #[I y29.2.1.Term, I y29.2.1.Vote, I y29.2.1.Base, I y29.2.1.BaseTerm, S y29.2.1.Snap, .slice a16 y29.1.length c16]), (88, I y29.2.2.1)] (by kernel_rfl) fun b => ?_
            refine L_op rfl (O_alloc (i := Try.t55) (z := .agg #[I 0, I 0, I 0, I 0, S ([]), .slice none 0 0]) [I 0, I 0, I 0, I 0, S ([]), .slice none 0 0] hst rfl rfl rfl rfl fun p11 w hst => ?_)
            refine L_op rfl (O_store [I y29.2.1.Term, I y29.2.1.Vote, I y29.2.1.Base, I y29.2.1.BaseTerm, S y29.2.1.Snap, .slice a16 y29.1.length c16] hst rfl rfl (by kernel_rfl) fun w hst => ?_)
            refine L_pure 1 [(3, I (mn2 (mx2 x4 1) 20)), (10, .slice a12 y23.length c12), (12, pt p11 0), (13, I y29.2.2.1)] (by kernel_rfl) fun b => ?_
            refine wpL_nil ?_
            refine th_n ?_
            refine wp_seq ?_
            obtain ⟨y30, hy30, hk15⟩ := bnd hr
            clear hr
            refine wp_seq_cut (fun a w => ∃ (b : Nat → Value), a = mkF 165 b [(3, I (mn2 (mx2 x4 1) 20)), (10, .slice a12 y23.length c12), (12, pt p11 0), (98, .bool y30)] ∧ St G w (blk p11 (cl [I y29.2.1.Term, I y29.2.1.Vote, I y29.2.1.Base, I y29.2.1.BaseTerm, S y29.2.1.Snap, .slice a16 y29.1.length c16] 55) :: osl r_T_term_Entry 52 a16 c16 y29.1 :: blk p7 (cl [I y20.1, I y29.2.2.2.1, .bool y20.2.2.1, I y29.2.2.2.2.1, .map (some p8)] 42) :: mpr S (rPt r_T_platter_file) p8 y29.2.2.2.2.2 :: dsl r_T_term_Entry a12 c12 y23 :: dsl rS a1 c1 x1 :: dsl (rI .i64) a2 c2 x2 :: F)) ?_ ?_
            · rintro _ w ⟨b, rfl, hst⟩
              have hr := hk15
              refine wp_cond_mkF (t := y30) rfl (fun h => ?_) (fun h => ?_)
              · have hr := (if_pos h).symm.trans hr
                refine wp_seq ?_
                refine wp_reg ?_
                refine L_pure 1 [(8, .bool false)] (by kernel_rfl) fun b => ?_
                refine wpL_nil ?_
                refine th_n ?_
                refine wp_ret ?_
                refine th_r ?_
                refine ret1 rfl rfl ?_
                obtain rfl := Option.some.inj hr
                have hst := (((hst.pull 6).pull 6).cut 2 5)
                exact hR _ hst
              · have hr := (if_neg (by rw [h]; exact Bool.false_ne_true)).symm.trans hr
                refine wp_skip ?_
                refine th_n ?_
                refine wp_seq ?_
                refine wp_reg ?_
                refine L_pure 1 [(3, I (mn2 (mx2 x4 1) 20)), (10, .slice a12 y23.length c12), (12, pt p11 0), (14, I 1)] (by kernel_rfl) fun b => ?_
                refine wpL_nil ?_
                refine th_n ?_
                refine wp_seq ?_
                refine wp_seq ?_
                refine wp_reg ?_
                refine L_pure 1 [(3, I (mn2 (mx2 x4 1) 20)), (10, .slice a12 y23.length c12), (12, pt p11 0), (14, I 1), (15, I 0)] (by kernel_rfl) fun b => ?_
                refine wpL_nil ?_
                refine th_n ?_
                obtain ⟨y31, hy31, hk16⟩ := bnd hr
                clear hr
                refine Go.Hx.wp_cut (fun a w => ∃ (z3 : Int) (b : Nat → Value), y31 = .go z3 ∧ a = mkF 165 b [(3, I (mn2 (mx2 x4 1) 20)), (10, .slice a12 y23.length c12), (12, pt p11 0), (14, I z3)] ∧ St G w (blk p11 (cl [I y29.2.1.Term, I y29.2.1.Vote, I y29.2.1.Base, I y29.2.1.BaseTerm, S y29.2.1.Snap, .slice a16 y29.1.length c16] 55) :: dsl r_T_term_Entry a16 c16 y29.1 :: blk p7 (cl [I y20.1, I y29.2.2.2.1, .bool y20.2.2.1, I y29.2.2.2.2.1, .map (some p8)] 42) :: mpr S (rPt r_T_platter_file) p8 y29.2.2.2.2.2 :: dsl r_T_term_Entry a12 c12 y23 :: dsl rS a1 c1 x1 :: dsl (rI .i64) a2 c2 x2 :: F)) ?_ ?_
                · rintro _ w ⟨z3, b, rfl, rfl, hst⟩
                  have hr := hk16
                  refine th_n ?_
                  obtain ⟨y37, hy37, hk20⟩ := bnd hr
                  clear hr
                  refine wp_seq_cut (fun a w => ∃ (b : Nat → Value), a = mkF 165 b [(8, .bool y37)] ∧ St G w (blk p11 (cl [I y29.2.1.Term, I y29.2.1.Vote, I y29.2.1.Base, I y29.2.1.BaseTerm, S y29.2.1.Snap, .slice a16 y29.1.length c16] 55) :: dsl r_T_term_Entry a16 c16 y29.1 :: blk p7 (cl [I y20.1, I y29.2.2.2.1, .bool y20.2.2.1, I y29.2.2.2.2.1, .map (some p8)] 42) :: mpr S (rPt r_T_platter_file) p8 y29.2.2.2.2.2 :: dsl r_T_term_Entry a12 c12 y23 :: dsl rS a1 c1 x1 :: dsl (rI .i64) a2 c2 x2 :: F)) ?_ ?_
                  · rintro _ w ⟨b, rfl, hst⟩
                    have hr := hk20
                    refine wp_ret ?_
                    refine ret1 rfl rfl ?_
                    obtain rfl := Option.some.inj hr
                    have hst := (((hst.pull 6).pull 6).cut 2 5)
                    exact hR _ hst
                  · have hr := hy37
                    refine wp_reg ?_
                    refine L_pure 6 [(3, I (mn2 (mx2 x4 1) 20)), (12, pt p11 0), (14, I z3), (158, .bool (z3 == (IntKind.i64.wrap ((y23.length : Int) + 1))))] (by kernel_rfl) fun b => ?_
                    by_cases h : (z3 == (IntKind.i64.wrap ((y23.length : Int) + 1))) = true
                    · have hr := (if_pos h).symm.trans hr
                      refine L_keep ((158, .bool (z3 == (IntKind.i64.wrap ((y23.length : Int) + 1)))) :: [(3, I (mn2 (mx2 x4 1) 20)), (12, pt p11 0), (14, I z3)]) rfl fun b => ?_
                      refine L_bool h ?_
                      refine L_pure 2 [(12, pt p11 0), (158, .bool true), (159, I z3), (160, I (mn2 (mx2 x4 1) 20))] (by kernel_rfl) fun b => ?_
                      obtain ⟨y38, hy38, hr⟩ := bnd hr
                      refine L_op rfl (O_call (vs := #[pt p11 0, I z3, I (mn2 (mx2 x4 1) 20)]) Try.call31 (by kernel_rfl) (term_State_From_ok k (T_term_State.mk y29.2.1.Term y29.2.1.Vote y29.2.1.Base y29.2.1.BaseTerm y29.2.1.Snap y29.1) z3 (mn2 (mx2 x4 1) 20) p11 a16 c16 y38 ((hst.pull 1).pull 1) hy38 fun a18 c18 w hst => ?_))
                      refine CK_ret rfl ?_
                      refine L_pure 4 [(8, .bool ((y38.length : Int) == 0))] (by kernel_rfl) fun b => ?_
                      refine wpL_nil ?_
                      refine th_n ?_
                      obtain rfl := Option.some.inj hr
                      have hst := ((((((((hst.pull 7).pull 7).pull 7).pull 7).pull 7).pull 7).pull 7).cut 7 1)
                      exact (kpX [(8, .bool ((y38.length : Int) == 0))] rfl hst)
                    · have hr := (if_neg h).symm.trans hr
                      refine L_keep ((158, .bool (z3 == (IntKind.i64.wrap ((y23.length : Int) + 1)))) :: [(3, I (mn2 (mx2 x4 1) 20)), (12, pt p11 0), (14, I z3)]) rfl fun b => ?_
                      refine L_bool (eq_false_of_ne_true h) ?_
                      refine L_pure 7 [(8, .bool false)] (by kernel_rfl) fun b => ?_
                      refine wpL_nil ?_
                      refine th_n ?_
                      obtain rfl := Option.some.inj hr
                      have hst := (((((((hst.pull 6).pull 6).pull 6).pull 6).pull 6).pull 6).pull 6)
                      exact (kpX [(8, .bool false)] rfl hst)
                · have hst := osl_freeze (hst.pull 1)
                  have hst := (((((((hst.pull 6).pull 6).pull 6).pull 6).pull 6).pull 5).pull 6)
                  refine wp_block ?_
                  refine wp_loop_fuel (fun j a w => ∃ (v17 : Int) (v18 : Int) (b : Nat → Value), a = mkF 165 b [(3, I (mn2 (mx2 x4 1) 20)), (10, .slice a12 y23.length c12), (12, pt p11 0), (14, I v17), (15, I v18)] ∧ St G w (blk p11 (cl [I y29.2.1.Term, I y29.2.1.Vote, I y29.2.1.Base, I y29.2.1.BaseTerm, S y29.2.1.Snap, .slice a16 y29.1.length c16] 55) :: dsl r_T_term_Entry a16 c16 y29.1 :: blk p7 (cl [I y20.1, I y29.2.2.2.1, .bool y20.2.2.1, I y29.2.2.2.2.1, .map (some p8)] 42) :: mpr S (rPt r_T_platter_file) p8 y29.2.2.2.2.2 :: dsl r_T_term_Entry a12 c12 y23 :: dsl rS a1 c1 x1 :: dsl (rI .i64) a2 c2 x2 :: F) ∧ glacierlaw09_TermParts_l2 k x4 y23 y29 j v17 v18 = some y31) (k := k) ⟨(1 : Int), (0 : Int), (kpX [(3, I (mn2 (mx2 x4 1) 20)), (10, .slice a12 y23.length c12), (12, pt p11 0), (14, I 1), (15, I 0)] rfl ⟨hst, hy31⟩)⟩ ?_ ?_
                  · rintro _ _ ⟨_, _, _, _, _, h⟩
                    rw [glacierlaw09_TermParts_l2] at h
                    cases h
                  · rintro j _ w ⟨v17, v18, b, rfl, hst, hr⟩
                    rw [glacierlaw09_TermParts_l2] at hr
                    refine wp_seq ?_
                    obtain ⟨y32, hy32, hk17⟩ := bnd hr
                    clear hr
                    refine wp_seq_cut (fun a w => ∃ (b : Nat → Value), a = mkF 165 b [(3, I (mn2 (mx2 x4 1) 20)), (10, .slice a12 y23.length c12), (12, pt p11 0), (14, I v17), (15, I v18), (106, .bool y32)] ∧ St G w (blk p11 (cl [I y29.2.1.Term, I y29.2.1.Vote, I y29.2.1.Base, I y29.2.1.BaseTerm, S y29.2.1.Snap, .slice a16 y29.1.length c16] 55) :: dsl r_T_term_Entry a16 c16 y29.1 :: blk p7 (cl [I y20.1, I y29.2.2.2.1, .bool y20.2.2.1, I y29.2.2.2.2.1, .map (some p8)] 42) :: mpr S (rPt r_T_platter_file) p8 y29.2.2.2.2.2 :: dsl r_T_term_Entry a12 c12 y23 :: dsl rS a1 c1 x1 :: dsl (rI .i64) a2 c2 x2 :: F)) ?_ ?_
                    · rintro _ w ⟨b, rfl, hst⟩
                      have hr := hk17
                      refine wp_cond_mkF (t := y32) rfl (fun h => ?_) (fun h => ?_)
                      · have hr := (if_pos h).symm.trans hr
                        refine wp_skip ?_
                        refine th_n ?_
                        refine wp_seq ?_
                        refine wp_block ?_
                        refine wp_seq ?_
                        refine wp_reg ?_
                        refine L_pure 2 [(3, I (mn2 (mx2 x4 1) 20)), (10, .slice a12 y23.length c12), (12, pt p11 0), (14, I v17), (15, I v18), (109, I v17), (110, I (mn2 (mx2 x4 1) 20))] (by kernel_rfl) fun b => ?_
                        obtain ⟨y33, hy33, hr⟩ := bnd hr
                        refine L_op rfl (O_call (vs := #[pt p11 0, I v17, I (mn2 (mx2 x4 1) 20)]) Try.call31 (by kernel_rfl) (term_State_From_ok k (T_term_State.mk y29.2.1.Term y29.2.1.Vote y29.2.1.Base y29.2.1.BaseTerm y29.2.1.Snap y29.1) v17 (mn2 (mx2 x4 1) 20) p11 a16 c16 y33 ((hst.pull 1).pull 1) hy33 fun a17 c17 w hst => ?_))
                        refine CK_ret rfl ?_
                        refine L_pure 1 [(3, I (mn2 (mx2 x4 1) 20)), (10, .slice a12 y23.length c12), (12, pt p11 0), (14, I v17), (15, I v18), (16, .slice a17 y33.length c17)] (by kernel_rfl) fun b => ?_
                        refine wpL_nil ?_
                        refine th_n ?_
                        refine wp_seq ?_
                        refine wp_seq ?_
                        refine wp_reg ?_
                        refine L_pure 3 [(3, I (mn2 (mx2 x4 1) 20)), (10, .slice a12 y23.length c12), (12, pt p11 0), (14, I v17), (15, I v18), (16, .slice a17 y33.length c17), (114, .bool ((y33.length : Int) == 0))] (by kernel_rfl) fun b => ?_
                        refine wpL_nil ?_
                        refine th_n ?_
                        refine wp_cond_mkF (t := ((y33.length : Int) == 0)) rfl (fun h => ?_) (fun h => ?_)
                        · have hr := (if_pos h).symm.trans hr
                          refine wp_seq ?_
                          refine wp_reg ?_
                          refine L_pure 1 [(8, .bool false)] (by kernel_rfl) fun b => ?_
                          refine wpL_nil ?_
                          refine th_n ?_
                          refine wp_ret ?_
                          refine th_r (ib_r (th_r (th_r (ib_r (th_r (th_r ?_))))))
                          refine ret1 rfl rfl ?_
                          obtain rfl := Option.some.inj hr
                          obtain rfl := Option.some.inj hk16
                          have hst := (((hst.pull 7).pull 7).cut 2 6)
                          exact hR _ hst
                        · have hr := (if_neg (by rw [h]; exact Bool.false_ne_true)).symm.trans hr
                          refine wp_skip ?_
                          refine th_n ?_
                          refine wp_seq ?_
                          refine wp_seq ?_
                          refine wp_reg ?_
                          refine L_pure 3 [(3, I (mn2 (mx2 x4 1) 20)), (10, .slice a12 y23.length c12), (12, pt p11 0), (14, I v17), (15, I v18), (16, .slice a17 y33.length c17), (115, .slice a17 y33.length c17), (116, I (y33.length : Int)), (117, I 0)] (by kernel_rfl) fun b => ?_
                          refine wpL_nil ?_
                          refine th_n ?_
                          obtain ⟨y34, hy34, hk18⟩ := bnd hr
                          clear hr
                          refine Go.Hx.wp_cut (fun a w => ∃ (z4 : Unit) (b : Nat → Value), y34 = .go z4 ∧ a = mkF 165 b [(3, I (mn2 (mx2 x4 1) 20)), (10, .slice a12 y23.length c12), (12, pt p11 0), (14, I v17), (15, I v18), (16, .slice a17 y33.length c17)] ∧ St G w (osl r_T_term_Entry 52 a17 c17 y33 :: blk p11 (cl [I y29.2.1.Term, I y29.2.1.Vote, I y29.2.1.Base, I y29.2.1.BaseTerm, S y29.2.1.Snap, .slice a16 y29.1.length c16] 55) :: dsl r_T_term_Entry a16 c16 y29.1 :: blk p7 (cl [I y20.1, I y29.2.2.2.1, .bool y20.2.2.1, I y29.2.2.2.2.1, .map (some p8)] 42) :: mpr S (rPt r_T_platter_file) p8 y29.2.2.2.2.2 :: dsl r_T_term_Entry a12 c12 y23 :: dsl rS a1 c1 x1 :: dsl (rI .i64) a2 c2 x2 :: F)) ?_ ?_
                          · rintro _ w ⟨z4, b, rfl, rfl, hst⟩
                            have hr := hk18
                            refine th_n ?_
                            refine wp_reg ?_
                            refine L_pure 5 [(3, I (mn2 (mx2 x4 1) 20)), (10, .slice a12 y23.length c12), (12, pt p11 0), (14, I (IntKind.i64.wrap (v17 + (y33.length : Int)))), (15, I v18)] (by kernel_rfl) fun b => ?_
                            refine wpL_nil ?_
                            refine ib_n (th_n ?_)
                            refine wp_reg ?_
                            refine L_pure 3 [(3, I (mn2 (mx2 x4 1) 20)), (10, .slice a12 y23.length c12), (12, pt p11 0), (14, I (IntKind.i64.wrap (v17 + (y33.length : Int)))), (15, I (IntKind.i64.wrap (v18 + 1)))] (by kernel_rfl) fun b => ?_
                            refine wpL_nil ?_
                            refine th_n ?_
                            have hst := ((((((((hst.pull 7).pull 7).pull 7).pull 7).pull 7).pull 7).pull 7).cut 7 1)
                            exact ⟨(IntKind.i64.wrap (v17 + (y33.length : Int))), (IntKind.i64.wrap (v18 + 1)), (kpX [(3, I (mn2 (mx2 x4 1) 20)), (10, .slice a12 y23.length c12), (12, pt p11 0), (14, I (IntKind.i64.wrap (v17 + (y33.length : Int)))), (15, I (IntKind.i64.wrap (v18 + 1)))] rfl ⟨hst, hr⟩)⟩
                          · have hst := ((((((((hst.pull 7).pull 7).pull 7).pull 7).pull 7).pull 7).pull 7).pull 7)
                            refine wp_block ?_
                            refine wp_loop_fuel (fun j a w => ∃ (v20 : Int) (b : Nat → Value), a = mkF 165 b [(3, I (mn2 (mx2 x4 1) 20)), (10, .slice a12 y23.length c12), (12, pt p11 0), (14, I v17), (15, I v18), (16, .slice a17 y33.length c17), (115, .slice a17 y33.length c17), (116, I (y33.length : Int)), (117, I v20)] ∧ St G w (osl r_T_term_Entry 52 a17 c17 y33 :: blk p11 (cl [I y29.2.1.Term, I y29.2.1.Vote, I y29.2.1.Base, I y29.2.1.BaseTerm, S y29.2.1.Snap, .slice a16 y29.1.length c16] 55) :: dsl r_T_term_Entry a16 c16 y29.1 :: blk p7 (cl [I y20.1, I y29.2.2.2.1, .bool y20.2.2.1, I y29.2.2.2.2.1, .map (some p8)] 42) :: mpr S (rPt r_T_platter_file) p8 y29.2.2.2.2.2 :: dsl r_T_term_Entry a12 c12 y23 :: dsl rS a1 c1 x1 :: dsl (rI .i64) a2 c2 x2 :: F) ∧ glacierlaw09_TermParts_l3 k v17 y23 y29 y33 j v20 = some y34) (k := k) ⟨(0 : Int), (kpX [(3, I (mn2 (mx2 x4 1) 20)), (10, .slice a12 y23.length c12), (12, pt p11 0), (14, I v17), (15, I v18), (16, .slice a17 y33.length c17), (115, .slice a17 y33.length c17), (116, I (y33.length : Int)), (117, I 0)] rfl ⟨hst, hy34⟩)⟩ ?_ ?_
                            · rintro _ _ ⟨_, _, _, _, h⟩
                              rw [glacierlaw09_TermParts_l3] at h
                              cases h
                            · rintro j _ w ⟨v20, b, rfl, hst, hr⟩
                              rw [glacierlaw09_TermParts_l3] at hr
                              refine wp_seq ?_
                              refine wp_reg ?_
                              refine L_pure 1 [(3, I (mn2 (mx2 x4 1) 20)), (10, .slice a12 y23.length c12), (12, pt p11 0), (14, I v17), (15, I v18), (16, .slice a17 y33.length c17), (115, .slice a17 y33.length c17), (116, I (y33.length : Int)), (117, I v20), (118, .bool (decide (v20 < (y33.length : Int))))] (by kernel_rfl) fun b => ?_
                              refine wpL_nil ?_
                              refine th_n ?_
                              refine wp_seq ?_
                              refine wp_cond_mkF (t := decide (v20 < (y33.length : Int))) rfl (fun h => ?_) (fun h => ?_)
                              · have hr := (if_pos h).symm.trans hr
                                refine wp_skip ?_
                                refine th_n ?_
                                refine wp_seq ?_
                                refine wp_block ?_
                                refine wp_seq ?_
                                refine wp_reg ?_
                                refine L_pure 1 [(3, I (mn2 (mx2 x4 1) 20)), (10, .slice a12 y23.length c12), (12, pt p11 0), (14, I v17), (15, I v18), (16, .slice a17 y33.length c17), (115, .slice a17 y33.length c17), (116, I (y33.length : Int)), (117, I v20), (119, I v20)] (by kernel_rfl) fun b => ?_
                                obtain ⟨x15, hx11, hr⟩ := bnd hr
                                refine L_op rfl (O_run (v := pt (ab a17) (ao a17 + v20.toNat * 3)) (w' := w) (R_ia L50 rfl rfl (osl_addr hst hx11) (gt_some hx11).1 (gt_some hx11).2.1) rfl rfl ?_)
                                obtain ⟨q7, hc7, hst⟩ := osl_cells hst hx11
                                have hst := hst.drop
                                refine L_op rfl (O_run (v := .agg #[I x15.Index, I x15.Term, S x15.Cmd]) (w' := w) (R_loadAt (off := ao a17 + v20.toNat * 3) (j := 0) hc7 rfl rfl) rfl rfl ?_)
                                refine L_op rfl (O_alloc (i := Try.t52) (z := .agg #[I 0, I 0, S ([])]) [I 0, I 0, S ([])] hst rfl rfl rfl rfl fun p12 w hst => ?_)
                                refine L_pure 1 [(3, I (mn2 (mx2 x4 1) 20)), (10, .slice a12 y23.length c12), (12, pt p11 0), (14, I v17), (15, I v18), (16, .slice a17 y33.length c17), (17, I v20), (18, pt p12 0), (115, .slice a17 y33.length c17), (116, I (y33.length : Int)), (117, I v20), (121, .agg #[I x15.Index, I x15.Term, S x15.Cmd])] (by kernel_rfl) fun b => ?_
                                refine L_op rfl (O_store [I x15.Index, I x15.Term, S x15.Cmd] hst rfl rfl (by kernel_rfl) fun w hst => ?_)
                                refine wpL_nil ?_
                                refine th_n ?_
                                refine wp_seq ?_
                                refine wp_reg ?_
                                refine L_pure 3 [(3, I (mn2 (mx2 x4 1) 20)), (10, .slice a12 y23.length c12), (12, pt p11 0), (14, I v17), (15, I v18), (16, .slice a17 y33.length c17), (17, I v20), (18, pt p12 0), (115, .slice a17 y33.length c17), (116, I (y33.length : Int)), (117, I v20), (125, I (IntKind.i64.wrap (v17 + v20)))] (by kernel_rfl) fun b => ?_
                                obtain ⟨y35, hy35, hr⟩ := bnd hr
                                refine L_op rfl (O_call (vs := #[pt p11 0, I (IntKind.i64.wrap (v17 + v20))]) Try.call32 (by kernel_rfl) (term_State_TermAt_ok k (T_term_State.mk y29.2.1.Term y29.2.1.Vote y29.2.1.Base y29.2.1.BaseTerm y29.2.1.Snap y29.1) (IntKind.i64.wrap (v17 + v20)) p11 a16 c16 y35 ((hst.pull 3).pull 3) hy35 fun w hst => ?_))
                                refine CK_ret rfl ?_
                                refine L_pure 5 [(3, I (mn2 (mx2 x4 1) 20)), (10, .slice a12 y23.length c12), (12, pt p11 0), (14, I v17), (15, I v18), (16, .slice a17 y33.length c17), (17, I v20), (18, pt p12 0), (19, I y35.1), (20, .bool y35.2), (115, .slice a17 y33.length c17), (116, I (y33.length : Int)), (117, I v20)] (by kernel_rfl) fun b => ?_
                                refine wpL_nil ?_
                                refine th_n ?_
                                obtain ⟨y36, hy36, hk19⟩ := bnd hr
                                clear hr
                                refine wp_seq_cut (fun a w => ∃ (b : Nat → Value), a = mkF 165 b [(3, I (mn2 (mx2 x4 1) 20)), (10, .slice a12 y23.length c12), (12, pt p11 0), (14, I v17), (15, I v18), (16, .slice a17 y33.length c17), (115, .slice a17 y33.length c17), (116, I (y33.length : Int)), (117, I v20), (147, .bool y36)] ∧ St G w (dsl r_T_term_Entry a12 c12 y23 :: blk p11 (cl [I y29.2.1.Term, I y29.2.1.Vote, I y29.2.1.Base, I y29.2.1.BaseTerm, S y29.2.1.Snap, .slice a16 y29.1.length c16] 55) :: dsl r_T_term_Entry a16 c16 y29.1 :: blk p12 (cl [I x15.Index, I x15.Term, S x15.Cmd] 52) :: osl r_T_term_Entry 52 a17 c17 y33 :: blk p7 (cl [I y20.1, I y29.2.2.2.1, .bool y20.2.2.1, I y29.2.2.2.2.1, .map (some p8)] 42) :: mpr S (rPt r_T_platter_file) p8 y29.2.2.2.2.2 :: dsl rS a1 c1 x1 :: dsl (rI .i64) a2 c2 x2 :: F)) ?_ ?_
                                · rintro _ w ⟨b, rfl, hst⟩
                                  have hr := hk19
                                  refine wp_cond_mkF (t := y36) rfl (fun h => ?_) (fun h => ?_)
                                  · have hr := (if_pos h).symm.trans hr
                                    refine wp_seq ?_
                                    refine wp_reg ?_
                                    refine L_pure 1 [(8, .bool false)] (by kernel_rfl) fun b => ?_
                                    refine wpL_nil ?_
                                    refine th_n ?_
                                    refine wp_ret ?_
                                    refine ib_r (th_r (th_r (ib_r (th_r (th_r (ib_r (th_r (th_r (ib_r (th_r (th_r ?_)))))))))))
                                    refine ret1 rfl rfl ?_
                                    obtain rfl := Option.some.inj hr
                                    obtain rfl := Option.some.inj hk18
                                    obtain rfl := Option.some.inj hk16
                                    have hst := (((hst.pull 8).pull 8).cut 2 7)
                                    exact hR _ hst
                                  · have hr := (if_neg (by rw [h]; exact Bool.false_ne_true)).symm.trans hr
                                    refine wp_skip ?_
                                    refine ib_n (th_n ?_)
                                    refine wp_reg ?_
                                    refine L_pure 2 [(3, I (mn2 (mx2 x4 1) 20)), (10, .slice a12 y23.length c12), (12, pt p11 0), (14, I v17), (15, I v18), (16, .slice a17 y33.length c17), (115, .slice a17 y33.length c17), (116, I (y33.length : Int)), (117, I (IntKind.i64.wrap (v20 + 1)))] (by kernel_rfl) fun b => ?_
                                    refine wpL_nil ?_
                                    refine th_n ?_
                                    have hst := (((((((((hst.pull 8).pull 8).pull 2).pull 8).pull 8).pull 6).pull 6).pull 8).cut 8 1)
                                    exact ⟨(IntKind.i64.wrap (v20 + 1)), (kpX [(3, I (mn2 (mx2 x4 1) 20)), (10, .slice a12 y23.length c12), (12, pt p11 0), (14, I v17), (15, I v18), (16, .slice a17 y33.length c17), (115, .slice a17 y33.length c17), (116, I (y33.length : Int)), (117, I (IntKind.i64.wrap (v20 + 1)))] rfl ⟨hst, hr⟩)⟩
                                · have hr := hy36
                                  refine wp_regG (SN { w with drawn := w.drawn + 1 }) rfl ?_
                                  have hst := hst.draw (n := w.drawn + 1)
                                  generalize { w with drawn := w.drawn + 1 } = w at hst ⊢
                                  refine C_take (i := 0) (v := .agg #[I x15.Index, I x15.Term, S x15.Cmd]) rfl (by kernel_rfl) (fun _ _ _ h => h) rfl rfl rfl (R_load (hst.pull 2) rfl rfl) ?_
                                  refine C_take (i := 1) (v := .slice a12 y23.length c12) rfl (by kernel_rfl) (fun _ _ _ h => h) rfl rfl rfl (R_pure (by kernel_rfl)) ?_
                                  refine C_take (i := 2) (v := I v17) rfl (by kernel_rfl) (fun _ _ _ h => h) rfl rfl rfl (R_pure (by kernel_rfl)) ?_
                                  refine C_take (i := 3) (v := I v20) rfl (by kernel_rfl) (fun _ _ _ h => h) rfl rfl rfl (R_pure (by kernel_rfl)) ?_
                                  refine C_take (i := 4) (v := I (IntKind.i64.wrap (v17 + v20))) rfl (by kernel_rfl) (fun _ _ _ h => h) rfl rfl rfl (R_pure (by kernel_rfl)) ?_
                                  refine C_take (i := 5) (v := I (IntKind.i64.wrap ((IntKind.i64.wrap (v17 + v20)) - 1))) rfl (by kernel_rfl) (fun _ _ _ h => h) rfl rfl rfl (R_pure (by kernel_rfl)) ?_
                                  obtain ⟨x16, hx12, hr⟩ := bnd hr
                                  refine C_take (i := 6) (v := pt (ab a12) (ao a12 + (IntKind.i64.wrap ((IntKind.i64.wrap (v17 + v20)) - 1)).toNat * 3)) rfl (by kernel_rfl) (fun _ _ _ h => h) rfl rfl rfl (R_ia L50 rfl rfl (dsl_addr (hst.pull 6) hx12) (gt_some hx12).1 (gt_some hx12).2.1) ?_
                                  obtain ⟨q8, hc8, hst⟩ := dsl_cells (hst.pull 6) hx12
                                  have hst := hst.drop
                                  refine C_take (i := 7) (v := .agg #[I x16.Index, I x16.Term, S x16.Cmd]) rfl (by kernel_rfl) (fun _ _ _ h => h) rfl rfl rfl (R_loadAt (off := ao a12 + (IntKind.i64.wrap ((IntKind.i64.wrap (v17 + v20)) - 1)).toNat * 3) (j := 0) hc8 rfl rfl) ?_
                                  refine C_take (i := 8) (v := .bool (!(decide (x15 = x16)))) rfl (by kernel_rfl) (fun _ _ _ h => h) rfl rfl rfl (R_sne rfl rfl G52 (EQ52 x15 x16 _)) ?_
                                  refine C_take (i := 9) (v := .bool (!(decide (x15 = x16)))) rfl (by kernel_rfl) (fun _ _ _ h => h) rfl rfl rfl (R_pure (by kernel_rfl)) ?_
                                  by_cases h : (!(decide (x15 = x16))) = true
                                  · have hr := (if_pos h).symm.trans hr
                                    refine C_keep ((138, .bool (!(decide (x15 = x16)))) :: [(3, I (mn2 (mx2 x4 1) 20)), (10, .slice a12 y23.length c12), (12, pt p11 0), (14, I v17), (15, I v18), (16, .slice a17 y33.length c17), (17, I v20), (18, pt p12 0), (19, I y35.1), (20, .bool y35.2), (115, .slice a17 y33.length c17), (116, I (y33.length : Int)), (117, I v20), (129, .agg #[I x15.Index, I x15.Term, S x15.Cmd]), (130, .slice a12 y23.length c12), (131, I v17), (132, I v20), (133, I (IntKind.i64.wrap (v17 + v20))), (134, I (IntKind.i64.wrap ((IntKind.i64.wrap (v17 + v20)) - 1))), (135, pt (ab a12) (ao a12 + (IntKind.i64.wrap ((IntKind.i64.wrap (v17 + v20)) - 1)).toNat * 3)), (136, .agg #[I x16.Index, I x16.Term, S x16.Cmd]), (137, .bool (!(decide (x15 = x16))))]) rfl fun b => ?_
                                    refine C_bool h ?_
                                    refine C_skip (i := 10) rfl (by kernel_rfl) (fun _ _ _ h => h) rfl rfl rfl ?_
                                    refine C_skip (i := 11) rfl (by kernel_rfl) (fun _ _ _ h => h) rfl rfl rfl ?_
                                    refine C_take (i := 12) (v := .bool true) rfl (by kernel_rfl) (fun _ _ _ h => h) rfl rfl rfl (R_pure (by kernel_rfl)) ?_
                                    refine C_take (i := 13) (v := .bool true) rfl (by kernel_rfl) (fun _ _ _ h => h) rfl rfl rfl (R_pure (by kernel_rfl)) ?_
                                    refine C_skip (i := 14) rfl (by kernel_rfl) (fun _ _ _ h => h) rfl rfl rfl ?_
                                    refine C_skip (i := 15) rfl (by kernel_rfl) (fun _ _ _ h => h) rfl rfl rfl ?_
                                    refine C_skip (i := 16) rfl (by kernel_rfl) (fun _ _ _ h => h) rfl rfl rfl ?_
                                    refine C_skip (i := 17) rfl (by kernel_rfl) (fun _ _ _ h => h) rfl rfl rfl ?_
                                    refine C_take (i := 18) (v := .bool true) rfl (by kernel_rfl) (fun _ _ _ h => h) rfl rfl rfl (R_pure (by kernel_rfl)) ?_
                                    refine wpG_done (by kernel_rfl) ?_ _
                                    refine C_keepQ [(3, I (mn2 (mx2 x4 1) 20)), (10, .slice a12 y23.length c12), (12, pt p11 0), (14, I v17), (15, I v18), (16, .slice a17 y33.length c17), (115, .slice a17 y33.length c17), (116, I (y33.length : Int)), (117, I v20), (147, .bool true)] rfl fun b => ?_
                                    refine th_n ?_
                                    obtain rfl := Option.some.inj hr
                                    have hst := (((((((((hst.pull 8).pull 8).pull 8).pull 8).pull 8).pull 8).pull 8).pull 8).pull 8)
                                    exact (kpX [(3, I (mn2 (mx2 x4 1) 20)), (10, .slice a12 y23.length c12), (12, pt p11 0), (14, I v17), (15, I v18), (16, .slice a17 y33.length c17), (115, .slice a17 y33.length c17), (116, I (y33.length : Int)), (117, I v20), (147, .bool true)] rfl hst)
                                  · have hr := (if_neg h).symm.trans hr
                                    refine C_keep ((138, .bool (!(decide (x15 = x16)))) :: [(3, I (mn2 (mx2 x4 1) 20)), (10, .slice a12 y23.length c12), (12, pt p11 0), (14, I v17), (15, I v18), (16, .slice a17 y33.length c17), (17, I v20), (18, pt p12 0), (19, I y35.1), (20, .bool y35.2), (115, .slice a17 y33.length c17), (116, I (y33.length : Int)), (117, I v20), (129, .agg #[I x15.Index, I x15.Term, S x15.Cmd]), (130, .slice a12 y23.length c12), (131, I v17), (132, I v20), (133, I (IntKind.i64.wrap (v17 + v20))), (134, I (IntKind.i64.wrap ((IntKind.i64.wrap (v17 + v20)) - 1))), (135, pt (ab a12) (ao a12 + (IntKind.i64.wrap ((IntKind.i64.wrap (v17 + v20)) - 1)).toNat * 3)), (136, .agg #[I x16.Index, I x16.Term, S x16.Cmd]), (137, .bool (!(decide (x15 = x16))))]) rfl fun b => ?_
                                    refine C_bool (eq_false_of_ne_true h) ?_
                                    refine C_take (i := 10) (v := .bool y35.2) rfl (by kernel_rfl) (fun _ _ _ h => h) rfl rfl rfl (R_pure (by kernel_rfl)) ?_
                                    refine C_take (i := 11) (v := .bool (!y35.2)) rfl (by kernel_rfl) (fun _ _ _ h => h) rfl rfl rfl (R_pure (by kernel_rfl)) ?_
                                    refine C_take (i := 12) (v := .bool (!y35.2)) rfl (by kernel_rfl) (fun _ _ _ h => h) rfl rfl rfl (R_pure (by kernel_rfl)) ?_
                                    refine C_take (i := 13) (v := .bool (!y35.2)) rfl (by kernel_rfl) (fun _ _ _ h => h) rfl rfl rfl (R_pure (by kernel_rfl)) ?_
                                    by_cases h : (!y35.2) = true
                                    · have hr := (if_pos h).symm.trans hr
                                      refine C_keep ((142, .bool (!y35.2)) :: [(3, I (mn2 (mx2 x4 1) 20)), (10, .slice a12 y23.length c12), (12, pt p11 0), (14, I v17), (15, I v18), (16, .slice a17 y33.length c17), (17, I v20), (18, pt p12 0), (19, I y35.1), (20, .bool y35.2), (115, .slice a17 y33.length c17), (116, I (y33.length : Int)), (117, I v20), (129, .agg #[I x15.Index, I x15.Term, S x15.Cmd]), (130, .slice a12 y23.length c12), (131, I v17), (132, I v20), (133, I (IntKind.i64.wrap (v17 + v20))), (134, I (IntKind.i64.wrap ((IntKind.i64.wrap (v17 + v20)) - 1))), (135, pt (ab a12) (ao a12 + (IntKind.i64.wrap ((IntKind.i64.wrap (v17 + v20)) - 1)).toNat * 3)), (136, .agg #[I x16.Index, I x16.Term, S x16.Cmd]), (137, .bool (!(decide (x15 = x16)))), (138, .bool false), (139, .bool y35.2), (140, .bool (!y35.2)), (141, .bool (!y35.2))]) rfl fun b => ?_
                                      refine C_bool h ?_
                                      refine C_skip (i := 14) rfl (by kernel_rfl) (fun _ _ _ h => h) rfl rfl rfl ?_
                                      refine C_skip (i := 15) rfl (by kernel_rfl) (fun _ _ _ h => h) rfl rfl rfl ?_
                                      refine C_skip (i := 16) rfl (by kernel_rfl) (fun _ _ _ h => h) rfl rfl rfl ?_
                                      refine C_skip (i := 17) rfl (by kernel_rfl) (fun _ _ _ h => h) rfl rfl rfl ?_
                                      refine C_take (i := 18) (v := .bool true) rfl (by kernel_rfl) (fun _ _ _ h => h) rfl rfl rfl (R_pure (by kernel_rfl)) ?_
                                      refine wpG_done (by kernel_rfl) ?_ _
                                      refine C_keepQ [(3, I (mn2 (mx2 x4 1) 20)), (10, .slice a12 y23.length c12), (12, pt p11 0), (14, I v17), (15, I v18), (16, .slice a17 y33.length c17), (115, .slice a17 y33.length c17), (116, I (y33.length : Int)), (117, I v20), (147, .bool true)] rfl fun b => ?_
                                      refine th_n ?_
                                      obtain rfl := Option.some.inj hr
                                      have hst := (((((((((hst.pull 8).pull 8).pull 8).pull 8).pull 8).pull 8).pull 8).pull 8).pull 8)
                                      exact (kpX [(3, I (mn2 (mx2 x4 1) 20)), (10, .slice a12 y23.length c12), (12, pt p11 0), (14, I v17), (15, I v18), (16, .slice a17 y33.length c17), (115, .slice a17 y33.length c17), (116, I (y33.length : Int)), (117, I v20), (147, .bool true)] rfl hst)
                                    · have hr := (if_neg h).symm.trans hr
                                      refine C_keep ((142, .bool (!y35.2)) :: [(3, I (mn2 (mx2 x4 1) 20)), (10, .slice a12 y23.length c12), (12, pt p11 0), (14, I v17), (15, I v18), (16, .slice a17 y33.length c17), (17, I v20), (18, pt p12 0), (19, I y35.1), (20, .bool y35.2), (115, .slice a17 y33.length c17), (116, I (y33.length : Int)), (117, I v20), (129, .agg #[I x15.Index, I x15.Term, S x15.Cmd]), (130, .slice a12 y23.length c12), (131, I v17), (132, I v20), (133, I (IntKind.i64.wrap (v17 + v20))), (134, I (IntKind.i64.wrap ((IntKind.i64.wrap (v17 + v20)) - 1))), (135, pt (ab a12) (ao a12 + (IntKind.i64.wrap ((IntKind.i64.wrap (v17 + v20)) - 1)).toNat * 3)), (136, .agg #[I x16.Index, I x16.Term, S x16.Cmd]), (137, .bool (!(decide (x15 = x16)))), (138, .bool false), (139, .bool y35.2), (140, .bool (!y35.2)), (141, .bool (!y35.2))]) rfl fun b => ?_
                                      refine C_bool (eq_false_of_ne_true h) ?_
                                      refine C_take (i := 14) (v := I y35.1) rfl (by kernel_rfl) (fun _ _ _ h => h) rfl rfl rfl (R_pure (by kernel_rfl)) ?_
                                      refine C_take (i := 15) (v := pt p12 1) rfl (by kernel_rfl) (fun _ _ _ h => h) rfl rfl rfl (R_pure (by kernel_rfl)) ?_
                                      refine C_take (i := 16) (v := I x15.Term) rfl (by kernel_rfl) (fun _ _ _ h => h) rfl rfl rfl (R_load (hst.pull 3) rfl rfl) ?_
                                      refine C_take (i := 17) (v := .bool (y35.1 != x15.Term)) rfl (by kernel_rfl) (fun _ _ _ h => h) rfl rfl rfl (R_pure (by kernel_rfl)) ?_
                                      refine C_take (i := 18) (v := .bool (y35.1 != x15.Term)) rfl (by kernel_rfl) (fun _ _ _ h => h) rfl rfl rfl (R_pure (by kernel_rfl)) ?_
                                      refine wpG_done (by kernel_rfl) ?_ _
                                      refine C_keepQ [(3, I (mn2 (mx2 x4 1) 20)), (10, .slice a12 y23.length c12), (12, pt p11 0), (14, I v17), (15, I v18), (16, .slice a17 y33.length c17), (115, .slice a17 y33.length c17), (116, I (y33.length : Int)), (117, I v20), (147, .bool (y35.1 != x15.Term))] rfl fun b => ?_
                                      refine th_n ?_
                                      obtain rfl := Option.some.inj hr
                                      have hst := (((((((((hst.pull 8).pull 8).pull 8).pull 8).pull 8).pull 8).pull 8).pull 8).pull 8)
                                      exact (kpX [(3, I (mn2 (mx2 x4 1) 20)), (10, .slice a12 y23.length c12), (12, pt p11 0), (14, I v17), (15, I v18), (16, .slice a17 y33.length c17), (115, .slice a17 y33.length c17), (116, I (y33.length : Int)), (117, I v20), (147, .bool (y35.1 != x15.Term))] rfl hst)
                              · have hr := (if_neg (by rw [h]; exact Bool.false_ne_true)).symm.trans hr
                                refine wp_exit ?_
                                refine th_x (th_x (ib_x (th_n ?_)))
                                obtain rfl := Option.some.inj hr
                                have hst := ((((((((hst.pull 7).pull 7).pull 7).pull 7).pull 7).pull 7).pull 7).pull 7)
                                exact ⟨(), (kpXf [(3, I (mn2 (mx2 x4 1) 20)), (10, .slice a12 y23.length c12), (12, pt p11 0), (14, I v17), (15, I v18), (16, .slice a17 y33.length c17)] rfl hst)⟩
                      · have hr := (if_neg (by rw [h]; exact Bool.false_ne_true)).symm.trans hr
                        refine wp_exit ?_
                        refine th_x (th_x (ib_x (th_n ?_)))
                        obtain rfl := Option.some.inj hr
                        have hst := (((((((hst.pull 6).pull 6).pull 6).pull 6).pull 6).pull 6).pull 6)
                        exact ⟨(v17), (kpXf [(3, I (mn2 (mx2 x4 1) 20)), (10, .slice a12 y23.length c12), (12, pt p11 0), (14, I v17)] rfl hst)⟩
                    · have hr := hy32
                      refine wp_reg ?_
                      refine L_pure 3 [(3, I (mn2 (mx2 x4 1) 20)), (10, .slice a12 y23.length c12), (12, pt p11 0), (14, I v17), (15, I v18), (101, .bool (decide (v18 < 20)))] (by kernel_rfl) fun b => ?_
                      by_cases h : (decide (v18 < 20)) = true
                      · have hr := (if_pos h).symm.trans hr
                        refine L_keep ((101, .bool (decide (v18 < 20))) :: [(3, I (mn2 (mx2 x4 1) 20)), (10, .slice a12 y23.length c12), (12, pt p11 0), (14, I v17), (15, I v18)]) rfl fun b => ?_
                        refine L_bool h ?_
                        refine L_pure 5 [(3, I (mn2 (mx2 x4 1) 20)), (10, .slice a12 y23.length c12), (12, pt p11 0), (14, I v17), (15, I v18), (106, .bool (decide (v17 ≤ (y23.length : Int))))] (by kernel_rfl) fun b => ?_
                        refine wpL_nil ?_
                        refine th_n ?_
                        obtain rfl := Option.some.inj hr
                        have hst := (((((((hst.pull 6).pull 6).pull 6).pull 6).pull 6).pull 6).pull 6)
                        exact (kpX [(3, I (mn2 (mx2 x4 1) 20)), (10, .slice a12 y23.length c12), (12, pt p11 0), (14, I v17), (15, I v18), (106, .bool (decide (v17 ≤ (y23.length : Int))))] rfl hst)
                      · have hr := (if_neg h).symm.trans hr
                        refine L_keep ((101, .bool (decide (v18 < 20))) :: [(3, I (mn2 (mx2 x4 1) 20)), (10, .slice a12 y23.length c12), (12, pt p11 0), (14, I v17), (15, I v18)]) rfl fun b => ?_
                        refine L_bool (eq_false_of_ne_true h) ?_
                        refine L_pure 5 [(3, I (mn2 (mx2 x4 1) 20)), (10, .slice a12 y23.length c12), (12, pt p11 0), (14, I v17), (15, I v18), (106, .bool false)] (by kernel_rfl) fun b => ?_
                        refine wpL_nil ?_
                        refine th_n ?_
                        obtain rfl := Option.some.inj hr
                        have hst := (((((((hst.pull 6).pull 6).pull 6).pull 6).pull 6).pull 6).pull 6)
                        exact (kpX [(3, I (mn2 (mx2 x4 1) 20)), (10, .slice a12 y23.length c12), (12, pt p11 0), (14, I v17), (15, I v18), (106, .bool false)] rfl hst)
            · have hr := hy30
              refine wp_reg ?_
              refine L_pure 3 [(3, I (mn2 (mx2 x4 1) 20)), (10, .slice a12 y23.length c12), (12, pt p11 0), (91, .bool (y29.2.2.1 != 0))] (by kernel_rfl) fun b => ?_
              by_cases h : (y29.2.2.1 != 0) = true
              · have hr := (if_pos h).symm.trans hr
                refine L_keep ((91, .bool (y29.2.2.1 != 0)) :: [(3, I (mn2 (mx2 x4 1) 20)), (10, .slice a12 y23.length c12), (12, pt p11 0)]) rfl fun b => ?_
                refine L_bool h ?_
                refine L_pure 7 [(3, I (mn2 (mx2 x4 1) 20)), (10, .slice a12 y23.length c12), (12, pt p11 0), (98, .bool true)] (by kernel_rfl) fun b => ?_
                refine wpL_nil ?_
                refine th_n ?_
                obtain rfl := Option.some.inj hr
                have hst := (((((((hst.pull 6).pull 6).pull 6).pull 6).pull 6).pull 6).pull 6)
                exact (kpX [(3, I (mn2 (mx2 x4 1) 20)), (10, .slice a12 y23.length c12), (12, pt p11 0), (98, .bool true)] rfl hst)
              · have hr := (if_neg h).symm.trans hr
                refine L_keep ((91, .bool (y29.2.2.1 != 0)) :: [(3, I (mn2 (mx2 x4 1) 20)), (10, .slice a12 y23.length c12), (12, pt p11 0)]) rfl fun b => ?_
                refine L_bool (eq_false_of_ne_true h) ?_
                refine L_pure 1 [(3, I (mn2 (mx2 x4 1) 20)), (10, .slice a12 y23.length c12), (12, pt p11 0), (91, .bool false), (92, pt p11 5)] (by kernel_rfl) fun b => ?_
                refine L_op rfl (O_run (v := .slice a16 y29.1.length c16) (w' := w) (R_load hst rfl rfl) rfl rfl ?_)
                refine L_pure 5 [(3, I (mn2 (mx2 x4 1) 20)), (10, .slice a12 y23.length c12), (12, pt p11 0), (98, .bool ((y29.1.length : Int) != (y23.length : Int)))] (by kernel_rfl) fun b => ?_
                refine wpL_nil ?_
                refine th_n ?_
                obtain rfl := Option.some.inj hr
                have hst := (((((((hst.pull 6).pull 6).pull 6).pull 6).pull 6).pull 6).pull 6)
                exact (kpX [(3, I (mn2 (mx2 x4 1) 20)), (10, .slice a12 y23.length c12), (12, pt p11 0), (98, .bool ((y29.1.length : Int) != (y23.length : Int)))] rfl hst)
        · have hr := hy26
          refine wp_reg ?_
          refine L_pure 3 [(2, I (mn2 (mx2 x3 0) (y23.length : Int))), (3, I (mn2 (mx2 x4 1) 20)), (9, pt p7 0), (10, .slice a12 y23.length c12), (70, pt p7 0), (71, .slice a12 y23.length c12), (72, I (mn2 (mx2 x3 0) (y23.length : Int)))] (by kernel_rfl) fun b => ?_
          obtain ⟨x13, hx9, hr⟩ := bnd hr
          have hst := osl_freeze hst
          refine L_op rfl (O_slice_d L50 hst rfl rfl rfl hx9 rfl fun a14 c14 hst => ?_)
          obtain ⟨y27, hy27, hr⟩ := bnd hr
          refine L_op rfl (O_call (vs := #[pt p7 0, .slice a14 x13.length c14]) Try.call29 (by kernel_rfl) (term_Append_ok k y20.1 y20.2.1 y20.2.2.1 y20.2.2.2.1 y20.2.2.2.2 x13 p7 p8 a14 c14 y27 ((hst.pull 3).pull 3) hy27 fun w hst => ?_))
          refine CK_ret rfl ?_
          refine L_pure 2 [(2, I (mn2 (mx2 x3 0) (y23.length : Int))), (3, I (mn2 (mx2 x4 1) 20)), (9, pt p7 0), (10, .slice a12 y23.length c12), (76, .bool (y27.1 != 0))] (by kernel_rfl) fun b => ?_
          by_cases h : (y27.1 != 0) = true
          · have hr := (if_pos h).symm.trans hr
            refine L_keep ((76, .bool (y27.1 != 0)) :: [(2, I (mn2 (mx2 x3 0) (y23.length : Int))), (3, I (mn2 (mx2 x4 1) 20)), (9, pt p7 0), (10, .slice a12 y23.length c12)]) rfl fun b => ?_
            refine L_bool h ?_
            refine L_pure 7 [(3, I (mn2 (mx2 x4 1) 20)), (9, pt p7 0), (10, .slice a12 y23.length c12), (83, .bool true)] (by kernel_rfl) fun b => ?_
            refine wpL_nil ?_
            refine th_n ?_
            obtain rfl := Option.some.inj hr
            have hst := ((((((hst.pull 5).pull 5).pull 5).pull 4).pull 4).cut 5 1)
            exact (kpX [(3, I (mn2 (mx2 x4 1) 20)), (9, pt p7 0), (10, .slice a12 y23.length c12), (83, .bool true)] rfl hst)
          · have hr := (if_neg h).symm.trans hr
            refine L_keep ((76, .bool (y27.1 != 0)) :: [(2, I (mn2 (mx2 x3 0) (y23.length : Int))), (3, I (mn2 (mx2 x4 1) 20)), (9, pt p7 0), (10, .slice a12 y23.length c12)]) rfl fun b => ?_
            refine L_bool (eq_false_of_ne_true h) ?_
            refine L_pure 3 [(3, I (mn2 (mx2 x4 1) 20)), (9, pt p7 0), (10, .slice a12 y23.length c12), (76, .bool false), (77, pt p7 0), (78, .slice a12 y23.length c12), (79, I (mn2 (mx2 x3 0) (y23.length : Int)))] (by kernel_rfl) fun b => ?_
            obtain ⟨x14, hx10, hr⟩ := bnd hr
            refine L_op rfl (O_slice_d L50 (hst.pull 3) rfl rfl rfl hx10 rfl fun a15 c15 hst => ?_)
            obtain ⟨y28, hy28, hr⟩ := bnd hr
            refine L_op rfl (O_call (vs := #[pt p7 0, .slice a15 x14.length c15]) Try.call29 (by kernel_rfl) (term_Append_ok k y20.1 y27.2.1 y20.2.2.1 y27.2.2.1 y27.2.2.2 x14 p7 p8 a15 c15 y28 ((hst.pull 3).pull 3) hy28 fun w hst => ?_))
            refine CK_ret rfl ?_
            refine L_pure 2 [(3, I (mn2 (mx2 x4 1) 20)), (9, pt p7 0), (10, .slice a12 y23.length c12), (83, .bool (y28.1 != 0))] (by kernel_rfl) fun b => ?_
            refine wpL_nil ?_
            refine th_n ?_
            obtain rfl := Option.some.inj hr
            have hst := ((((((hst.pull 6).pull 6).pull 5).pull 4).pull 4).cut 5 2)
            exact (kpX [(3, I (mn2 (mx2 x4 1) 20)), (9, pt p7 0), (10, .slice a12 y23.length c12), (83, .bool (y28.1 != 0))] rfl hst)
      · have hst := (((((hst.pull 4).pull 4).pull 4).pull 4).pull 4)
        refine wp_block ?_
        refine wp_loop_fuel (fun j a w => ∃ (v13 : (List T_term_Entry)) (v14 : Int) (a11 : Option Addr) (c11 : Nat) (b : Nat → Value), a = mkF 165 b [(0, .slice a1 x1.length c1), (1, .slice a2 x2.length c2), (2, I x3), (3, I x4), (9, pt p7 0), (10, .slice a11 v13.length c11), (11, I v14)] ∧ St G w (osl r_T_term_Entry 52 a11 c11 v13 :: blk p7 (cl [I y20.1, I y20.2.1, .bool y20.2.2.1, I y20.2.2.2.1, .map (some p8)] 42) :: mpr S (rPt r_T_platter_file) p8 y20.2.2.2.2 :: dsl rS a1 c1 x1 :: dsl (rI .i64) a2 c2 x2 :: F) ∧ glacierlaw09_TermParts_l1 k x1 x2 j v13 v14 = some y23) (k := k) ⟨[], (0 : Int), (some ⟨p9, 0, none⟩), 0, (kpX [(0, .slice a1 x1.length c1), (1, .slice a2 x2.length c2), (2, I x3), (3, I x4), (9, pt p7 0), (10, .slice (some ⟨p9, 0, none⟩) 0 0), (11, I 0)] rfl ⟨hst, hy23⟩)⟩ ?_ ?_
        · rintro _ _ ⟨_, _, _, _, _, _, _, h⟩
          rw [glacierlaw09_TermParts_l1] at h
          cases h
        · rintro j _ w ⟨v13, v14, a11, c11, b, rfl, hst, hr⟩
          rw [glacierlaw09_TermParts_l1] at hr
          refine wp_seq ?_
          obtain ⟨y24, hy24, hk13⟩ := bnd hr
          clear hr
          refine wp_seq_cut (fun a w => ∃ (b : Nat → Value), a = mkF 165 b [(0, .slice a1 x1.length c1), (1, .slice a2 x2.length c2), (2, I x3), (3, I x4), (9, pt p7 0), (10, .slice a11 v13.length c11), (11, I v14), (42, .bool y24)] ∧ St G w (osl r_T_term_Entry 52 a11 c11 v13 :: blk p7 (cl [I y20.1, I y20.2.1, .bool y20.2.2.1, I y20.2.2.2.1, .map (some p8)] 42) :: mpr S (rPt r_T_platter_file) p8 y20.2.2.2.2 :: dsl rS a1 c1 x1 :: dsl (rI .i64) a2 c2 x2 :: F)) ?_ ?_
          · rintro _ w ⟨b, rfl, hst⟩
            have hr := hk13
            refine wp_cond_mkF (t := y24) rfl (fun h => ?_) (fun h => ?_)
            · have hr := (if_pos h).symm.trans hr
              refine wp_skip ?_
              refine th_n ?_
              refine wp_seq ?_
              refine wp_block ?_
              refine wp_regG (SP 16 (fun w => St G w (osl r_T_term_Entry 52 a11 c11 v13 :: blk p7 (cl [I y20.1, I y20.2.1, .bool y20.2.2.1, I y20.2.2.2.1, .map (some p8)] 42) :: mpr S (rPt r_T_platter_file) p8 y20.2.2.2.2 :: dsl rS a1 c1 x1 :: dsl (rI .i64) a2 c2 x2 :: F))) rfl ?_
              have hst := hst.draw (n := w.drawn + 1)
              generalize { w with drawn := w.drawn + 1 } = w at hst ⊢
              refine P_pure (i := 0) (v := .slice a11 v13.length c11) 16 rfl rfl (by kernel_rfl) (fun _ _ _ h => h) rfl rfl rfl (by kernel_rfl) (.inr (((((hst.pull 4).pull 4).pull 4).pull 4).pull 4)) ?_
              refine P_pure (i := 1) (v := I v14) 16 rfl rfl (by kernel_rfl) (fun _ _ _ h => h) rfl rfl rfl (by kernel_rfl) (.inr (((((hst.pull 4).pull 4).pull 4).pull 4).pull 4)) ?_
              refine P_pure (i := 2) (v := I (IntKind.i64.wrap (v14 + 1))) 16 rfl rfl (by kernel_rfl) (fun _ _ _ h => h) rfl rfl rfl (by kernel_rfl) (.inr (((((hst.pull 4).pull 4).pull 4).pull 4).pull 4)) ?_
              refine P_pure (i := 3) (v := .slice a2 x2.length c2) 16 rfl rfl (by kernel_rfl) (fun _ _ _ h => h) rfl rfl rfl (by kernel_rfl) (.inr (((((hst.pull 4).pull 4).pull 4).pull 4).pull 4)) ?_
              refine P_pure (i := 4) (v := I v14) 16 rfl rfl (by kernel_rfl) (fun _ _ _ h => h) rfl rfl rfl (by kernel_rfl) (.inr (((((hst.pull 4).pull 4).pull 4).pull 4).pull 4)) ?_
              obtain ⟨x11, hx7, hr⟩ := bnd hr
              refine P_any (i := 5) (v := pt (ab a2) (ao a2 + v14.toNat * 1)) 16 rfl rfl (by kernel_rfl) (fun _ _ _ h => h) rfl rfl rfl (fun w => (R_ia L30 rfl rfl (dsl_addr (hst.pull 4) hx7) (gt_some hx7).1 (gt_some hx7).2.1)) (.inr (((((hst.pull 4).pull 4).pull 4).pull 4).pull 4)) ?_
              obtain ⟨q5, hc5, hst⟩ := dsl_cells (hst.pull 4) hx7
              have hst := hst.drop
              refine P_take (i := 6) (v := I x11) 16 [15, 14, 8, 7, 6] (by kernel_rfl) rfl (by kernel_rfl) (fun _ _ _ h => h) rfl rfl rfl (fun w hst => by obtain ⟨_, hc, _⟩ := dsl_cells (hst.pull 4) hx7; exact R_loadAt (off := ao a2 + v14.toNat * 1) (j := 0) hc rfl rfl) (((((hst.pull 4).pull 4).pull 4).pull 4)) ?_
              refine P_pure (i := 7) (v := I (mx2 x11 0)) 16 rfl rfl (by kernel_rfl) (fun _ _ _ h => h) rfl rfl rfl (by kernel_rfl) (.inr ((((hst.pull 4).pull 4).pull 4).pull 4)) ?_
              refine P_pure (i := 8) (v := I (mn2 (mx2 x11 0) 100)) 16 rfl rfl (by kernel_rfl) (fun _ _ _ h => h) rfl rfl rfl (by kernel_rfl) (.inr ((((hst.pull 4).pull 4).pull 4).pull 4)) ?_
              refine P_pure (i := 9) (v := .slice a1 x1.length c1) 16 rfl rfl (by kernel_rfl) (fun _ _ _ h => h) rfl rfl rfl (by kernel_rfl) (.inr ((((hst.pull 4).pull 4).pull 4).pull 4)) ?_
              refine P_pure (i := 10) (v := I v14) 16 rfl rfl (by kernel_rfl) (fun _ _ _ h => h) rfl rfl rfl (by kernel_rfl) (.inr ((((hst.pull 4).pull 4).pull 4).pull 4)) ?_
              obtain ⟨x12, hx8, hr⟩ := bnd hr
              refine P_any (i := 11) (v := pt (ab a1) (ao a1 + v14.toNat * 1)) 16 rfl rfl (by kernel_rfl) (fun _ _ _ h => h) rfl rfl rfl (fun w => (R_ia L34 rfl rfl (dsl_addr (hst.pull 4) hx8) (gt_some hx8).1 (gt_some hx8).2.1)) (.inr ((((hst.pull 4).pull 4).pull 4).pull 4)) ?_
              obtain ⟨q6, hc6, hst⟩ := dsl_cells (hst.pull 4) hx8
              have hst := hst.drop
              refine P_take (i := 12) (v := S x12) 16 [13, 12] (by kernel_rfl) rfl (by kernel_rfl) (fun _ _ _ h => h) rfl rfl rfl (fun w hst => by obtain ⟨_, hc, _⟩ := dsl_cells (hst.pull 3) hx8; exact R_loadAt (off := ao a1 + v14.toNat * 1) (j := 0) hc rfl rfl) ((((((hst.pull 1).pull 1).pull 4).pull 4).pull 4)) ?_
              obtain ⟨y25, hy25, hr⟩ := bnd hr
              refine P_one (i := 13) 16 (by kernel_rfl) rfl rfl (O_call (vs := #[S x12, I 20]) Try.call13 (by kernel_rfl) (glacierlaw01_Cut_ok k x12 20 y25 hst hy25 fun w hst => ?_))
              refine CK_ret rfl ?_
              refine ⟨(((((hst.pull 1).pull 1).pull 4).pull 4).pull 4), ?_⟩
              refine P_pure (i := 14) (v := .agg #[I (IntKind.i64.wrap (v14 + 1)), I (mn2 (mx2 x11 0) 100), S y25]) 16 rfl rfl (by kernel_rfl) (fun _ _ _ h => h) rfl rfl rfl (by kernel_rfl) (.inr (((((hst.pull 1).pull 1).pull 4).pull 4).pull 4)) ?_
              refine P_one (i := 15) 16 (by kernel_rfl) rfl rfl (O_bs (T := 52) [I (IntKind.i64.wrap (v14 + 1)), I (mn2 (mx2 x11 0) 100), S y25] #[(0, .agg #[I (IntKind.i64.wrap (v14 + 1)), I (mn2 (mx2 x11 0) 100), S y25])] hst (by kernel_rfl) (by kernel_rfl) rfl fun p10 w hst => ?_)
              have hst := osl_of_blk0 (ecs := [[I (IntKind.i64.wrap (v14 + 1)), I (mn2 (mx2 x11 0) 100), S y25]]) r_T_term_Entry [(T_term_Entry.mk (IntKind.i64.wrap (v14 + 1)) (mn2 (mx2 x11 0) 100) y25)] rfl (fun m => ⟨⟨(), rfl, trivial⟩, trivial⟩) rfl hst
              refine ⟨((((((hst.pull 2).pull 2).pull 5).pull 5).pull 5).cut 5 1), ?_⟩
              obtain ⟨hb2, hr⟩ := chk hr
              refine P_act (i := 16) 16 (by kernel_rfl) rfl rfl (by kernel_rfl) (O_app_o L50 (hst.pull 3) rfl rfl hb2 rfl fun a13 c13 w hst => ?_)
              refine P_pure (i := 17) (v := .slice a13 (v13 ++ ([(T_term_Entry.mk (IntKind.i64.wrap (v14 + 1)) (mn2 (mx2 x11 0) 100) y25)])).length c13) 16 rfl rfl (by kernel_rfl) (fun _ _ _ h => h) rfl rfl rfl (by kernel_rfl) (.inl (by kernel_rfl)) ?_
              refine wpG_done (by kernel_rfl) ?_ _
              refine C_keepQ [(0, .slice a1 x1.length c1), (1, .slice a2 x2.length c2), (2, I x3), (3, I x4), (9, pt p7 0), (10, .slice a13 (v13 ++ ([(T_term_Entry.mk (IntKind.i64.wrap (v14 + 1)) (mn2 (mx2 x11 0) 100) y25)])).length c13), (11, I v14)] rfl fun b => ?_
              refine ib_n (th_n ?_)
              refine wp_reg ?_
              refine L_pure 3 [(0, .slice a1 x1.length c1), (1, .slice a2 x2.length c2), (2, I x3), (3, I x4), (9, pt p7 0), (10, .slice a13 (v13 ++ ([(T_term_Entry.mk (IntKind.i64.wrap (v14 + 1)) (mn2 (mx2 x11 0) 100) y25)])).length c13), (11, I (IntKind.i64.wrap (v14 + 1)))] (by kernel_rfl) fun b => ?_
              refine wpL_nil ?_
              refine th_n ?_
              have hst := ((((((hst.pull 3).pull 3).pull 5).pull 5).pull 4).cut 5 1)
              exact ⟨(v13 ++ ([(T_term_Entry.mk (IntKind.i64.wrap (v14 + 1)) (mn2 (mx2 x11 0) 100) y25)])), (IntKind.i64.wrap (v14 + 1)), a13, c13, (kpX [(0, .slice a1 x1.length c1), (1, .slice a2 x2.length c2), (2, I x3), (3, I x4), (9, pt p7 0), (10, .slice a13 (v13 ++ ([(T_term_Entry.mk (IntKind.i64.wrap (v14 + 1)) (mn2 (mx2 x11 0) 100) y25)])).length c13), (11, I (IntKind.i64.wrap (v14 + 1)))] rfl ⟨hst, hr⟩)⟩
            · have hr := (if_neg (by rw [h]; exact Bool.false_ne_true)).symm.trans hr
              refine wp_exit ?_
              refine th_x (th_x (ib_x (th_n ?_)))
              obtain rfl := Option.some.inj hr
              have hst := (((((hst.pull 4).pull 4).pull 4).pull 4).pull 4)
              exact ⟨a11, c11, (kpX [(2, I x3), (3, I x4), (9, pt p7 0), (10, .slice a11 v13.length c11)] rfl hst)⟩
          · have hr := hy24
            refine wp_reg ?_
            refine L_pure 5 [(0, .slice a1 x1.length c1), (1, .slice a2 x2.length c2), (2, I x3), (3, I x4), (9, pt p7 0), (10, .slice a11 v13.length c11), (11, I v14), (33, .bool (decide (v14 < (x1.length : Int))))] (by kernel_rfl) fun b => ?_
            by_cases h : (decide (v14 < (x1.length : Int))) = true
            · have hr := (if_pos h).symm.trans hr
              refine L_keep ((33, .bool (decide (v14 < (x1.length : Int)))) :: [(0, .slice a1 x1.length c1), (1, .slice a2 x2.length c2), (2, I x3), (3, I x4), (9, pt p7 0), (10, .slice a11 v13.length c11), (11, I v14)]) rfl fun b => ?_
              refine L_bool h ?_
              refine L_pure 6 [(0, .slice a1 x1.length c1), (1, .slice a2 x2.length c2), (2, I x3), (3, I x4), (9, pt p7 0), (10, .slice a11 v13.length c11), (11, I v14), (39, .bool (decide (v14 < (x2.length : Int))))] (by kernel_rfl) fun b => ?_
              by_cases h : (decide (v14 < (x2.length : Int))) = true
              · have hr := (if_pos h).symm.trans hr
                refine L_keep ((39, .bool (decide (v14 < (x2.length : Int)))) :: [(0, .slice a1 x1.length c1), (1, .slice a2 x2.length c2), (2, I x3), (3, I x4), (9, pt p7 0), (10, .slice a11 v13.length c11), (11, I v14)]) rfl fun b => ?_
                refine L_bool h ?_
                refine L_pure 3 [(0, .slice a1 x1.length c1), (1, .slice a2 x2.length c2), (2, I x3), (3, I x4), (9, pt p7 0), (10, .slice a11 v13.length c11), (11, I v14), (42, .bool (decide (v14 < 10)))] (by kernel_rfl) fun b => ?_
                refine wpL_nil ?_
                refine th_n ?_
                obtain rfl := Option.some.inj hr
                have hst := (((((hst.pull 4).pull 4).pull 4).pull 4).pull 4)
                exact (kpX [(0, .slice a1 x1.length c1), (1, .slice a2 x2.length c2), (2, I x3), (3, I x4), (9, pt p7 0), (10, .slice a11 v13.length c11), (11, I v14), (42, .bool (decide (v14 < 10)))] rfl hst)
              · have hr := (if_neg h).symm.trans hr
                refine L_keep ((39, .bool (decide (v14 < (x2.length : Int)))) :: [(0, .slice a1 x1.length c1), (1, .slice a2 x2.length c2), (2, I x3), (3, I x4), (9, pt p7 0), (10, .slice a11 v13.length c11), (11, I v14)]) rfl fun b => ?_
                refine L_bool (eq_false_of_ne_true h) ?_
                refine L_pure 3 [(0, .slice a1 x1.length c1), (1, .slice a2 x2.length c2), (2, I x3), (3, I x4), (9, pt p7 0), (10, .slice a11 v13.length c11), (11, I v14), (42, .bool false)] (by kernel_rfl) fun b => ?_
                refine wpL_nil ?_
                refine th_n ?_
                obtain rfl := Option.some.inj hr
                have hst := (((((hst.pull 4).pull 4).pull 4).pull 4).pull 4)
                exact (kpX [(0, .slice a1 x1.length c1), (1, .slice a2 x2.length c2), (2, I x3), (3, I x4), (9, pt p7 0), (10, .slice a11 v13.length c11), (11, I v14), (42, .bool false)] rfl hst)
            · have hr := (if_neg h).symm.trans hr
              refine L_keep ((33, .bool (decide (v14 < (x1.length : Int)))) :: [(0, .slice a1 x1.length c1), (1, .slice a2 x2.length c2), (2, I x3), (3, I x4), (9, pt p7 0), (10, .slice a11 v13.length c11), (11, I v14)]) rfl fun b => ?_
              refine L_bool (eq_false_of_ne_true h) ?_
              refine L_pure 9 [(0, .slice a1 x1.length c1), (1, .slice a2 x2.length c2), (2, I x3), (3, I x4), (9, pt p7 0), (10, .slice a11 v13.length c11), (11, I v14), (42, .bool false)] (by kernel_rfl) fun b => ?_
              refine wpL_nil ?_
              refine th_n ?_
              obtain rfl := Option.some.inj hr
              have hst := (((((hst.pull 4).pull 4).pull 4).pull 4).pull 4)
              exact (kpX [(0, .slice a1 x1.length c1), (1, .slice a2 x2.length c2), (2, I x3), (3, I x4), (9, pt p7 0), (10, .slice a11 v13.length c11), (11, I v14), (42, .bool false)] rfl hst)
  · have hr := hy21
    refine wp_reg ?_
    obtain ⟨y22, hy22, hr⟩ := bnd hr
    refine L_op rfl (O_call (vs := #[]) Try.call25 (by kernel_rfl) (glacierlaw09_awake_ok k y22 hst hy22 fun w hst => ?_))
    refine CK_ret rfl ?_
    refine L_pure 2 [(0, .slice a1 x1.length c1), (1, .slice a2 x2.length c2), (2, I x3), (3, I x4), (9, pt p7 0), (24, .bool (!y22))] (by kernel_rfl) fun b => ?_
    by_cases h : (!y22) = true
    · have hr := (if_pos h).symm.trans hr
      refine L_keep ((24, .bool (!y22)) :: [(0, .slice a1 x1.length c1), (1, .slice a2 x2.length c2), (2, I x3), (3, I x4), (9, pt p7 0)]) rfl fun b => ?_
      refine L_bool h ?_
      refine L_pure 3 [(0, .slice a1 x1.length c1), (1, .slice a2 x2.length c2), (2, I x3), (3, I x4), (9, pt p7 0), (27, .bool true)] (by kernel_rfl) fun b => ?_
      refine wpL_nil ?_
      refine th_n ?_
      obtain rfl := Option.some.inj hr
      have hst := ((((hst.pull 3).pull 3).pull 3).pull 3)
      exact (kpX [(0, .slice a1 x1.length c1), (1, .slice a2 x2.length c2), (2, I x3), (3, I x4), (9, pt p7 0), (27, .bool true)] rfl hst)
    · have hr := (if_neg h).symm.trans hr
      refine L_keep ((24, .bool (!y22)) :: [(0, .slice a1 x1.length c1), (1, .slice a2 x2.length c2), (2, I x3), (3, I x4), (9, pt p7 0)]) rfl fun b => ?_
      refine L_bool (eq_false_of_ne_true h) ?_
      refine L_pure 3 [(0, .slice a1 x1.length c1), (1, .slice a2 x2.length c2), (2, I x3), (3, I x4), (9, pt p7 0), (27, .bool false)] (by kernel_rfl) fun b => ?_
      refine wpL_nil ?_
      refine th_n ?_
      obtain rfl := Option.some.inj hr
      have hst := ((((hst.pull 3).pull 3).pull 3).pull 3)
      exact (kpX [(0, .slice a1 x1.length c1), (1, .slice a2 x2.length c2), (2, I x3), (3, I x4), (9, pt p7 0), (27, .bool false)] rfl hst)
end Go.Proofs.Ythmjdekmacoaaaa
