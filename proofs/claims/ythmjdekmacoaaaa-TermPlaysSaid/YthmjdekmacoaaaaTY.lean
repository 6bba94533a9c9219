/- TY, one part more. -/
import Derived.Test.YthmjdekmacoaaaaTYc
namespace Go.Proofs.Ythmjdekmacoaaaa
open Go.Hx Go.RowKit
def glacierlaw09_TermPlays_l2 (k : Nat) (v41 : (List T_glacierref09_State)) (y55 : ((List T_term_Entry) × T_term_State × Int × Int × Int × (List ((List UInt8) × (Option T_platter_file))))) : Nat → Bool → Int → Option (Bool)
  | 0, _, _ => none
  | j + 1, v55, v56 => (if decide (v56 < (v41.length : Int)) = true then (Option.bind (gt v41 v56) fun x7 => (Option.bind (if v55 = true then some (true) else (Option.bind (glacierlaw09_Told k (T_term_State.mk y55.2.1.Term y55.2.1.Vote y55.2.1.Base y55.2.1.BaseTerm y55.2.1.Snap y55.1)) fun y58 => (Option.bind (glacierref09_Same k (T_glacierref09_State.mk y58.2.Term y58.2.Vote y58.2.Base y58.2.BaseTerm y58.2.Snap y58.1) x7) fun y59 => some (y59)))) fun y57 => (glacierlaw09_TermPlays_l2 k v41 y55 j y57 (IntKind.i64.wrap (v56 + 1))))) else some (v55))
def glacierlaw09_TermPlays_l1 (k : Nat) (x1 : (List T_glacierlaw09_Act)) (y32 : (Int × Int × Bool × Int × (List ((List UInt8) × (Option T_platter_file))))) : Nat → (List T_glacierref09_State) → Bool → Int → Int → Int → Int → Int → (List UInt8) → (List T_glacierref09_Entry) → Int → Int → (List ((List UInt8) × (Option T_platter_file))) → Option (Flow (Bool) (Int × Int × Int × Int × (List UInt8) × (List T_glacierref09_Entry) × Int × Int × (List ((List UInt8) × (Option T_platter_file)))))
  | 0, _, _, _, _, _, _, _, _, _, _, _, _ => none
  | j + 1, v41, v42, v43, v44, v45, v46, v47, v48, v49, v50, v51, v52 => (Option.bind (if decide (v43 < (x1.length : Int)) = true then some (decide (v43 < 20)) else some (false)) fun y36 => (if y36 = true then (Option.bind (Option.bind (gt x1 v43) fun x5 => (Option.bind (if v42 = true then some ((x5.Kind != 5)) else some (false)) fun y38 => (if y38 = true then some (Flow.go (v41, v42, v44, v45, v46, v47, v48, v49, v50, v51, v52)) else (Option.bind (glacierlaw09_may k (T_glacierref09_State.mk v44 v45 v46 v47 v48 v49) (T_glacierlaw09_Act.mk x5.Kind (mn2 (mx2 x5.N 0) 1000) (mn2 (mx2 x5.M 0) 5) x5.S x5.Texts x5.Choice)) fun y39 => (if (x5.Kind == 1) = true then (Option.bind (term_SaveTerm k y32.1 v50 y32.2.2.1 v51 v52 (mn2 (mx2 x5.N 0) 1000) (mn2 (mx2 x5.M 0) 5)) fun y40 => (if (y40.1 == 0) = true then some (Flow.go ([(T_glacierref09_State.mk y39.2.1.Term y39.2.1.Vote y39.2.1.Base y39.2.1.BaseTerm y39.2.1.Snap y39.1)], v42, y39.2.1.Term, y39.2.1.Vote, y39.2.1.Base, y39.2.1.BaseTerm, y39.2.1.Snap, y39.1, y40.2.1, y40.2.2.1, y40.2.2.2)) else (if (y40.1 != 8) = true then some (Flow.ret (false)) else (if room (([(T_glacierref09_State.mk v44 v45 v46 v47 v48 v49)]).length + y39.2.2.length) 72 = true then (if room ((([(T_glacierref09_State.mk v44 v45 v46 v47 v48 v49)]) ++ y39.2.2).length + ([(T_glacierref09_State.mk y39.2.1.Term y39.2.1.Vote y39.2.1.Base y39.2.1.BaseTerm y39.2.1.Snap y39.1)]).length) 72 = true then some (Flow.go (((([(T_glacierref09_State.mk v44 v45 v46 v47 v48 v49)]) ++ y39.2.2) ++ ([(T_glacierref09_State.mk y39.2.1.Term y39.2.1.Vote y39.2.1.Base y39.2.1.BaseTerm y39.2.1.Snap y39.1)])), true, v44, v45, v46, v47, v48, v49, y40.2.1, y40.2.2.1, y40.2.2.2)) else none) else none)))) else (if (x5.Kind == 2) = true then (Option.bind (sl y39.1 (v49.length : Int) (y39.1.length : Int)) fun x6 => (Option.bind (glacierlaw09_entries k x6) fun y41 => (Option.bind (term_Append k y32.1 v50 y32.2.2.1 v51 v52 y41) fun y42 => (if (y42.1 == 0) = true then some (Flow.go ([(T_glacierref09_State.mk y39.2.1.Term y39.2.1.Vote y39.2.1.Base y39.2.1.BaseTerm y39.2.1.Snap y39.1)], v42, y39.2.1.Term, y39.2.1.Vote, y39.2.1.Base, y39.2.1.BaseTerm, y39.2.1.Snap, y39.1, y42.2.1, y42.2.2.1, y42.2.2.2)) else (if (y42.1 != 8) = true then some (Flow.ret (false)) else (if room (([(T_glacierref09_State.mk v44 v45 v46 v47 v48 v49)]).length + y39.2.2.length) 72 = true then (if room ((([(T_glacierref09_State.mk v44 v45 v46 v47 v48 v49)]) ++ y39.2.2).length + ([(T_glacierref09_State.mk y39.2.1.Term y39.2.1.Vote y39.2.1.Base y39.2.1.BaseTerm y39.2.1.Snap y39.1)]).length) 72 = true then some (Flow.go (((([(T_glacierref09_State.mk v44 v45 v46 v47 v48 v49)]) ++ y39.2.2) ++ ([(T_glacierref09_State.mk y39.2.1.Term y39.2.1.Vote y39.2.1.Base y39.2.1.BaseTerm y39.2.1.Snap y39.1)])), true, v44, v45, v46, v47, v48, v49, y42.2.1, y42.2.2.1, y42.2.2.2)) else none) else none)))))) else (if (x5.Kind == 3) = true then (Option.bind (glacierlaw09_entries k y39.1) fun y43 => (Option.bind (term_Rewrite k y32.1 v50 y32.2.2.1 v51 v52 y43) fun y44 => (if (y44.1 == 0) = true then some (Flow.go ([(T_glacierref09_State.mk y39.2.1.Term y39.2.1.Vote y39.2.1.Base y39.2.1.BaseTerm y39.2.1.Snap y39.1)], v42, y39.2.1.Term, y39.2.1.Vote, y39.2.1.Base, y39.2.1.BaseTerm, y39.2.1.Snap, y39.1, y44.2.1, y44.2.2.1, y44.2.2.2)) else (if (y44.1 != 8) = true then some (Flow.ret (false)) else (if room (([(T_glacierref09_State.mk v44 v45 v46 v47 v48 v49)]).length + y39.2.2.length) 72 = true then (if room ((([(T_glacierref09_State.mk v44 v45 v46 v47 v48 v49)]) ++ y39.2.2).length + ([(T_glacierref09_State.mk y39.2.1.Term y39.2.1.Vote y39.2.1.Base y39.2.1.BaseTerm y39.2.1.Snap y39.1)]).length) 72 = true then some (Flow.go (((([(T_glacierref09_State.mk v44 v45 v46 v47 v48 v49)]) ++ y39.2.2) ++ ([(T_glacierref09_State.mk y39.2.1.Term y39.2.1.Vote y39.2.1.Base y39.2.1.BaseTerm y39.2.1.Snap y39.1)])), true, v44, v45, v46, v47, v48, v49, y44.2.1, y44.2.2.1, y44.2.2.2)) else none) else none))))) else (if (x5.Kind == 4) = true then (Option.bind (glacierlaw09_entries k y39.1) fun y51 => (Option.bind (term_SaveSnap k y32.1 v50 y32.2.2.1 v51 v52 y39.2.1.Base y39.2.1.BaseTerm y39.2.1.Snap y51) fun y52 => (if (y52.1 == 0) = true then some (Flow.go ([(T_glacierref09_State.mk y39.2.1.Term y39.2.1.Vote y39.2.1.Base y39.2.1.BaseTerm y39.2.1.Snap y39.1)], v42, y39.2.1.Term, y39.2.1.Vote, y39.2.1.Base, y39.2.1.BaseTerm, y39.2.1.Snap, y39.1, y52.2.1, y52.2.2.1, y52.2.2.2)) else (if (y52.1 != 8) = true then some (Flow.ret (false)) else (if room (([(T_glacierref09_State.mk v44 v45 v46 v47 v48 v49)]).length + y39.2.2.length) 72 = true then (if room ((([(T_glacierref09_State.mk v44 v45 v46 v47 v48 v49)]) ++ y39.2.2).length + ([(T_glacierref09_State.mk y39.2.1.Term y39.2.1.Vote y39.2.1.Base y39.2.1.BaseTerm y39.2.1.Snap y39.1)]).length) 72 = true then some (Flow.go (((([(T_glacierref09_State.mk v44 v45 v46 v47 v48 v49)]) ++ y39.2.2) ++ ([(T_glacierref09_State.mk y39.2.1.Term y39.2.1.Vote y39.2.1.Base y39.2.1.BaseTerm y39.2.1.Snap y39.1)])), true, v44, v45, v46, v47, v48, v49, y52.2.1, y52.2.2.1, y52.2.2.2)) else none) else none))))) else (if (x5.Kind == 5) = true then (Option.bind (platter_Disk_Crash k y32.1 v50 y32.2.2.1 v51 v52 x5.Choice) fun y53 => (Option.bind (meter_Luck_Fail k y32.1 y53.1 y32.2.2.1 v51 y53.2 (-1)) fun y54 => (Option.bind (term_Load k y32.1 y53.1 y32.2.2.1 y54 y53.2) fun y55 => (if (y55.2.2.1 != 0) = true then some (Flow.ret (false)) else (Option.bind (glacierlaw09_TermPlays_l2 k v41 y55 k false (0 : Int)) fun y56 => (if (!y56) = true then some (Flow.ret (false)) else (Option.bind (glacierlaw09_Told k (T_term_State.mk y55.2.1.Term y55.2.1.Vote y55.2.1.Base y55.2.1.BaseTerm y55.2.1.Snap y55.1)) fun y60 => some (Flow.go ([(T_glacierref09_State.mk y60.2.Term y60.2.Vote y60.2.Base y60.2.BaseTerm y60.2.Snap y60.1)], false, y60.2.Term, y60.2.Vote, y60.2.Base, y60.2.BaseTerm, y60.2.Snap, y60.1, y55.2.2.2.1, y55.2.2.2.2.1, y55.2.2.2.2.2))))))))) else (if (x5.Kind == 6) = true then (Option.bind (meter_Luck_Fail k y32.1 v50 y32.2.2.1 v51 v52 ((mn2 (mx2 x5.N 0) 1000).tmod 6)) fun y62 => some (Flow.go (v41, v42, v44, v45, v46, v47, v48, v49, v50, y62, v52))) else some (Flow.go (v41, v42, v44, v45, v46, v47, v48, v49, v50, v51, v52)))))))))))) fun y37 => (match y37 with | Flow.ret r => some (Flow.ret r) | Flow.go z4 => (glacierlaw09_TermPlays_l1 k x1 y32 j z4.1 z4.2.1 (IntKind.i64.wrap (v43 + 1)) z4.2.2.1 z4.2.2.2.1 z4.2.2.2.2.1 z4.2.2.2.2.2.1 z4.2.2.2.2.2.2.1 z4.2.2.2.2.2.2.2.1 z4.2.2.2.2.2.2.2.2.1 z4.2.2.2.2.2.2.2.2.2.1 z4.2.2.2.2.2.2.2.2.2.2))) else some (Flow.go (v44, v45, v46, v47, v48, v49, v50, v51, v52))))
def glacierlaw09_TermPlays (k : Nat) (x1 : (List T_glacierlaw09_Act)) : Option (Bool) := (Option.bind (platter_New k 100000) fun y32 => (Option.bind (Option.bind (glacierlaw09_awake k) fun y34 => (if (!y34) = true then some (true) else some (false))) fun y33 => (if y33 = true then some (false) else (Option.bind (glacierlaw09_TermPlays_l1 k x1 y32 k ([(T_glacierref09_State.mk 0 0 0 0 ([]) ([]))]) false (0 : Int) (0 : Int) (0 : Int) (0 : Int) (0 : Int) ([]) ([]) y32.2.1 y32.2.2.2.1 y32.2.2.2.2) fun y35 => (match y35 with | Flow.ret r => some r | Flow.go _ => some (true))))))
set_option maxRecDepth 100000 in
set_option maxHeartbeats 4000000 in
theorem glacierlaw09_TermPlays_ok {G w : World} {F : List HP} {R : Ending → World → Prop} (k : Nat) (x1 : (List T_glacierlaw09_Act)) (a1 : Option Addr) (c1 : Nat) (r : (Bool)) (hst : St G w (dsl r_T_glacierlaw09_Act a1 c1 x1 :: F)) (hr : glacierlaw09_TermPlays k x1 = some r)
    (hR : ∀ w', St G w' (dsl r_T_glacierlaw09_Act a1 c1 x1 :: F) → R (.returned (.bool r)) w') :
    Calls Try.prog 12 #[.slice a1 x1.length c1] w R := by
  unfold glacierlaw09_TermPlays at hr
  refine enter Try.func12 rfl [(0, .slice a1 x1.length c1)] rfl rfl fun b => ?_
  refine wp_seq ?_
  refine wp_reg ?_
  refine L_pure 1 [(0, .slice a1 x1.length c1)] (by kernel_rfl) fun b => ?_
  refine wpL_nil ?_
  refine th_n ?_
  refine wp_seq ?_
  refine wp_reg ?_
  obtain ⟨y32, hy32, hr⟩ := bnd hr
  refine L_op rfl (O_call (vs := #[I 100000]) Try.call14 (by kernel_rfl) (platter_New_ok k 100000 y32 hst hy32 fun p30 p31 w hst => ?_))
  refine CK_ret rfl ?_
  refine L_pure 1 [(0, .slice a1 x1.length c1), (3, pt p30 0)] (by kernel_rfl) fun b => ?_
  refine wpL_nil ?_
  refine th_n ?_
  refine wp_seq ?_
  obtain ⟨y33, hy33, hk8⟩ := bnd hr
  clear hr
  refine wp_seq_cut (fun a w => ∃ (b : Nat → Value), a = mkF 164 b [(0, .slice a1 x1.length c1), (3, pt p30 0), (23, .bool y33)] ∧ St G w (blk p30 (cl [I y32.1, I y32.2.1, .bool y32.2.2.1, I y32.2.2.2.1, .map (some p31)] 42) :: mpr S (rPt r_T_platter_file) p31 y32.2.2.2.2 :: dsl r_T_glacierlaw09_Act a1 c1 x1 :: F)) ?_ ?_
  · rintro _ w ⟨b, rfl, hst⟩
    have hr := hk8
    refine wp_cond_mkF (t := y33) rfl (fun h => ?_) (fun h => ?_)
    · have hr := (if_pos h).symm.trans hr
      refine wp_seq ?_
      refine wp_reg ?_
      refine L_pure 1 [(2, .bool false)] (by kernel_rfl) fun b => ?_
      refine wpL_nil ?_
      refine th_n ?_
      refine wp_ret ?_
      refine th_r ?_
      refine ret1 rfl rfl ?_
      obtain rfl := Option.some.inj hr
      have hst := ((hst.pull 2).cut 1 2)
      exact hR _ hst
    · have hr := (if_neg (by rw [h]; exact Bool.false_ne_true)).symm.trans hr
      refine wp_skip ?_
      refine th_n ?_
      refine wp_seq ?_
      refine wp_reg ?_
      refine L_pure 1 [(0, .slice a1 x1.length c1), (3, pt p30 0), (24, .agg #[I 0, I 0, I 0, I 0, S ([]), .slice none 0 0])] (by kernel_rfl) fun b => ?_
      refine L_op rfl (O_alloc (i := Try.t71) (z := .agg #[I 0, I 0, I 0, I 0, S ([]), .slice none 0 0]) [I 0, I 0, I 0, I 0, S ([]), .slice none 0 0] hst rfl rfl rfl rfl fun p32 w hst => ?_)
      refine L_op rfl (O_store [I 0, I 0, I 0, I 0, S ([]), .slice none 0 0] hst rfl rfl (by kernel_rfl) fun w hst => ?_)
      refine wpL_nil ?_
      refine th_n ?_
      refine wp_seq ?_
      refine wp_reg ?_
      refine L_op rfl (O_run (v := .agg #[I 0, I 0, I 0, I 0, S ([]), .slice none 0 0]) (w' := w) (R_load hst rfl rfl) rfl rfl ?_)
      have hst := dsl_nil r_T_glacierref09_Entry hst
      refine L_op rfl (O_bs (T := 71) [I 0, I 0, I 0, I 0, S ([]), .slice none 0 0] #[(0, .agg #[I 0, I 0, I 0, I 0, S ([]), .slice none 0 0])] hst (by kernel_rfl) (by kernel_rfl) rfl fun p33 w hst => ?_)
      have hst := (hst.pull 1).dup
      have hst := ((hst.pull 2).pull 1)
      have hst := osl_of_blk (ecs := [[I 0, I 0, I 0, I 0, S ([]), .slice none 0 0]]) r_T_glacierref09_State [(T_glacierref09_State.mk 0 0 0 0 ([]) ([]))] rfl (fun m h => ⟨⟨((none, 0)), rfl, h⟩, trivial⟩) rfl hst
      refine L_pure 1 [(0, .slice a1 x1.length c1), (3, pt p30 0), (4, pt p32 0), (5, .slice (some ⟨p33, 0, none⟩) ([(T_glacierref09_State.mk 0 0 0 0 ([]) ([]))]).length 1)] (by kernel_rfl) fun b => ?_
      refine wpL_nil ?_
      refine th_n ?_
      refine wp_seq ?_
      refine wp_reg ?_
      refine L_pure 1 [(0, .slice a1 x1.length c1), (3, pt p30 0), (4, pt p32 0), (5, .slice (some ⟨p33, 0, none⟩) ([(T_glacierref09_State.mk 0 0 0 0 ([]) ([]))]).length 1), (6, .bool false)] (by kernel_rfl) fun b => ?_
      refine wpL_nil ?_
      refine th_n ?_
      refine wp_seq ?_
      refine wp_seq ?_
      refine wp_reg ?_
      refine L_pure 1 [(0, .slice a1 x1.length c1), (3, pt p30 0), (4, pt p32 0), (5, .slice (some ⟨p33, 0, none⟩) ([(T_glacierref09_State.mk 0 0 0 0 ([]) ([]))]).length 1), (6, .bool false), (7, I 0)] (by kernel_rfl) fun b => ?_
      refine wpL_nil ?_
      refine th_n ?_
      obtain ⟨y35, hy35, hk9⟩ := bnd hr
      clear hr
      refine Go.Hx.wp_cut (fun a w => ∃ (z3 : Int × Int × Int × Int × (List UInt8) × (List T_glacierref09_Entry) × Int × Int × (List ((List UInt8) × (Option T_platter_file)))) (a35 : Option Addr) (c35 : Nat)(b : Nat → Value), y35 = .go z3 ∧ a = mkF 164 b [] ∧ St G w (dsl r_T_glacierref09_Entry a35 c35 z3.2.2.2.2.2.1 :: dsl r_T_glacierref09_Entry none 0 ([]) :: blk p32 (cl [I z3.1, I z3.2.1, I z3.2.2.1, I z3.2.2.2.1, S z3.2.2.2.2.1, .slice a35 z3.2.2.2.2.2.1.length c35] 71) :: blk p30 (cl [I y32.1, I z3.2.2.2.2.2.2.1, .bool y32.2.2.1, I z3.2.2.2.2.2.2.2.1, .map (some p31)] 42) :: mpr S (rPt r_T_platter_file) p31 z3.2.2.2.2.2.2.2.2 :: dsl r_T_glacierlaw09_Act a1 c1 x1 :: F)) ?_ ?_
      · rintro _ w ⟨z3, a35, c35, b, rfl, rfl, hst⟩
        have hr := hk9
        refine th_n ?_
        refine wp_seq ?_
        refine wp_reg ?_
        refine L_pure 1 [(2, .bool true)] (by kernel_rfl) fun b => ?_
        refine wpL_nil ?_
        refine th_n ?_
        refine wp_ret ?_
        refine ret1 rfl rfl ?_
        obtain rfl := Option.some.inj hr
        have hst := ((hst.pull 5).cut 1 5)
        exact hR _ hst
      · have hst := dsl_nil r_T_glacierref09_Entry hst
        have hst := (((((((hst.pull 6).pull 6).pull 6).pull 6).pull 6).pull 5).pull 6)
        refine wp_block ?_
        refine wp_loop_fuel (fun j a w => ∃ (v41 : (List T_glacierref09_State)) (v42 : Bool) (v43 : Int) (v44 : Int) (v45 : Int) (v46 : Int) (v47 : Int) (v48 : (List UInt8)) (v49 : (List T_glacierref09_Entry)) (v50 : Int) (v51 : Int) (v52 : (List ((List UInt8) × (Option T_platter_file)))) (a31 : Option Addr) (c31 : Nat) (a32 : Option Addr) (c32 : Nat) (b : Nat → Value), a = mkF 164 b [(0, .slice a1 x1.length c1), (3, pt p30 0), (4, pt p32 0), (5, .slice a31 v41.length c31), (6, .bool v42), (7, I v43)] ∧ St G w (osl r_T_glacierref09_State 71 a31 c31 v41 :: dsl r_T_glacierref09_Entry a32 c32 v49 :: dsl r_T_glacierref09_Entry none 0 ([]) :: blk p32 (cl [I v44, I v45, I v46, I v47, S v48, .slice a32 v49.length c32] 71) :: blk p30 (cl [I y32.1, I v50, .bool y32.2.2.1, I v51, .map (some p31)] 42) :: mpr S (rPt r_T_platter_file) p31 v52 :: dsl r_T_glacierlaw09_Act a1 c1 x1 :: F) ∧ glacierlaw09_TermPlays_l1 k x1 y32 j v41 v42 v43 v44 v45 v46 v47 v48 v49 v50 v51 v52 = some y35) (k := k) ⟨[(T_glacierref09_State.mk 0 0 0 0 ([]) ([]))], false, (0 : Int), (0 : Int), (0 : Int), (0 : Int), (0 : Int), [], [], y32.2.1, y32.2.2.2.1, y32.2.2.2.2, (some ⟨p33, 0, none⟩), 1, none, 0, (kpX [(0, .slice a1 x1.length c1), (3, pt p30 0), (4, pt p32 0), (5, .slice (some ⟨p33, 0, none⟩) ([(T_glacierref09_State.mk 0 0 0 0 ([]) ([]))]).length 1), (6, .bool false), (7, I 0)] rfl ⟨hst, hy35⟩)⟩ ?_ ?_
        · rintro _ _ ⟨_, _, _, _, _, _, _, _, _, _, _, _, _, _, _, _, _, _, _, h⟩
          rw [glacierlaw09_TermPlays_l1] at h
          cases h
        · rintro j _ w ⟨v41, v42, v43, v44, v45, v46, v47, v48, v49, v50, v51, v52, a31, c31, a32, c32, b, rfl, hst, hr⟩
          rw [glacierlaw09_TermPlays_l1] at hr
          refine wp_seq ?_
          obtain ⟨y36, hy36, hk10⟩ := bnd hr
          clear hr
          refine wp_seq_cut (fun a w => ∃ (b : Nat → Value), a = mkF 164 b [(0, .slice a1 x1.length c1), (3, pt p30 0), (4, pt p32 0), (5, .slice a31 v41.length c31), (6, .bool v42), (7, I v43), (34, .bool y36)] ∧ St G w (osl r_T_glacierref09_State 71 a31 c31 v41 :: dsl r_T_glacierref09_Entry a32 c32 v49 :: dsl r_T_glacierref09_Entry none 0 ([]) :: blk p32 (cl [I v44, I v45, I v46, I v47, S v48, .slice a32 v49.length c32] 71) :: blk p30 (cl [I y32.1, I v50, .bool y32.2.2.1, I v51, .map (some p31)] 42) :: mpr S (rPt r_T_platter_file) p31 v52 :: dsl r_T_glacierlaw09_Act a1 c1 x1 :: F)) ?_ ?_
          · rintro _ w ⟨b, rfl, hst⟩
            have hr := hk10
            refine wp_cond_mkF (t := y36) rfl (fun h => ?_) (fun h => ?_)
            · have hr := (if_pos h).symm.trans hr
              refine wp_skip ?_
              refine th_n ?_
              obtain ⟨y37, hy37, hk11⟩ := bnd hr
              clear hr
              refine wp_seq_cut (fun a w => ∃ (z4 : (List T_glacierref09_State) × Bool × Int × Int × Int × Int × (List UInt8) × (List T_glacierref09_Entry) × Int × Int × (List ((List UInt8) × (Option T_platter_file)))) (a36 : Option Addr) (c36 : Nat) (a37 : Option Addr) (c37 : Nat)(b : Nat → Value), y37 = .go z4 ∧ a = mkF 164 b [(0, .slice a1 x1.length c1), (3, pt p30 0), (4, pt p32 0), (5, .slice a36 z4.1.length c36), (6, .bool z4.2.1), (7, I v43)] ∧ St G w (osl r_T_glacierref09_State 71 a36 c36 z4.1 :: dsl r_T_glacierref09_Entry a37 c37 z4.2.2.2.2.2.2.2.1 :: dsl r_T_glacierlaw09_Act a1 c1 x1 :: dsl r_T_glacierref09_Entry a32 c32 v49 :: dsl r_T_glacierref09_Entry none 0 ([]) :: blk p32 (cl [I z4.2.2.1, I z4.2.2.2.1, I z4.2.2.2.2.1, I z4.2.2.2.2.2.1, S z4.2.2.2.2.2.2.1, .slice a37 z4.2.2.2.2.2.2.2.1.length c37] 71) :: blk p30 (cl [I y32.1, I z4.2.2.2.2.2.2.2.2.1, .bool y32.2.2.1, I z4.2.2.2.2.2.2.2.2.2.1, .map (some p31)] 42) :: mpr S (rPt r_T_platter_file) p31 z4.2.2.2.2.2.2.2.2.2.2 :: F)) ?_ ?_
              · rintro _ w ⟨z4, a36, c36, a37, c37, b, rfl, rfl, hst⟩
                have hr := hk11
                refine wp_reg ?_
                refine L_pure 3 [(0, .slice a1 x1.length c1), (3, pt p30 0), (4, pt p32 0), (5, .slice a36 z4.1.length c36), (6, .bool z4.2.1), (7, I (IntKind.i64.wrap (v43 + 1)))] (by kernel_rfl) fun b => ?_
                refine wpL_nil ?_
                refine th_n ?_
                have hst := ((((((((hst.pull 2).pull 7).pull 7).pull 7).pull 7).pull 6).pull 6).cut 7 1)
                exact ⟨z4.1, z4.2.1, (IntKind.i64.wrap (v43 + 1)), z4.2.2.1, z4.2.2.2.1, z4.2.2.2.2.1, z4.2.2.2.2.2.1, z4.2.2.2.2.2.2.1, z4.2.2.2.2.2.2.2.1, z4.2.2.2.2.2.2.2.2.1, z4.2.2.2.2.2.2.2.2.2.1, z4.2.2.2.2.2.2.2.2.2.2, a36, c36, a37, c37, (kpX [(0, .slice a1 x1.length c1), (3, pt p30 0), (4, pt p32 0), (5, .slice a36 z4.1.length c36), (6, .bool z4.2.1), (7, I (IntKind.i64.wrap (v43 + 1)))] rfl ⟨hst, hr⟩)⟩
              · have hr := hy37
                refine wp_block ?_
                refine wp_seq ?_
                refine wp_reg ?_
                refine L_pure 2 [(0, .slice a1 x1.length c1), (3, pt p30 0), (4, pt p32 0), (5, .slice a31 v41.length c31), (6, .bool v42), (7, I v43), (37, .slice a1 x1.length c1), (38, I v43)] (by kernel_rfl) fun b => ?_
                obtain ⟨x5, hx4, hr⟩ := bnd hr
                refine L_op rfl (O_run (v := pt (ab a1) (ao a1 + v43.toNat * 6)) (w' := w) (R_ia L74 rfl rfl (dsl_addr (hst.pull 6) hx4) (gt_some hx4).1 (gt_some hx4).2.1) rfl rfl ?_)
                obtain ⟨q3, hc3, hst⟩ := dsl_cells (hst.pull 6) hx4
                have hst := hst.split (h1 := dslP_mono _ _ _ _) (h2 := dslP_mono _ _ _ _)
                refine L_op rfl (O_run (v := .agg #[I x5.Kind, I x5.N, I x5.M, S x5.S, .slice q3.1.1 x5.Texts.length q3.1.2, .slice q3.2.1 x5.Choice.length q3.2.2]) (w' := w) (R_loadAt (off := ao a1 + v43.toNat * 6) (j := 0) hc3 rfl rfl) rfl rfl ?_)
                refine L_op rfl (O_alloc (i := Try.t77) (z := .agg #[I 0, I 0, I 0, S ([]), .slice none 0 0, .slice none 0 0]) [I 0, I 0, I 0, S ([]), .slice none 0 0, .slice none 0 0] hst rfl rfl rfl rfl fun p34 w hst => ?_)
                refine L_op rfl (O_store [I x5.Kind, I x5.N, I x5.M, S x5.S, .slice q3.1.1 x5.Texts.length q3.1.2, .slice q3.2.1 x5.Choice.length q3.2.2] hst rfl rfl (by kernel_rfl) fun w hst => ?_)
                refine wpL_nil ?_
                refine th_n ?_
                refine wp_seq ?_
                refine wp_reg ?_
                refine L_pure 1 [(0, .slice a1 x1.length c1), (3, pt p30 0), (4, pt p32 0), (5, .slice a31 v41.length c31), (6, .bool v42), (7, I v43), (8, pt p34 0), (41, pt p34 1)] (by kernel_rfl) fun b => ?_
                refine L_op rfl (O_run (v := I x5.N) (w' := w) (R_load hst rfl rfl) rfl rfl ?_)
                refine L_pure 3 [(0, .slice a1 x1.length c1), (3, pt p30 0), (4, pt p32 0), (5, .slice a31 v41.length c31), (6, .bool v42), (7, I v43), (8, pt p34 0), (44, I (mn2 (mx2 x5.N 0) 1000)), (45, pt p34 1)] (by kernel_rfl) fun b => ?_
                refine L_op rfl (O_store [I x5.Kind, I (mn2 (mx2 x5.N 0) 1000), I x5.M, S x5.S, .slice q3.1.1 x5.Texts.length q3.1.2, .slice q3.2.1 x5.Choice.length q3.2.2] hst rfl rfl (by kernel_rfl) fun w hst => ?_)
                refine wpL_nil ?_
                refine th_n ?_
                refine wp_seq ?_
                refine wp_reg ?_
                refine L_pure 1 [(0, .slice a1 x1.length c1), (3, pt p30 0), (4, pt p32 0), (5, .slice a31 v41.length c31), (6, .bool v42), (7, I v43), (8, pt p34 0), (46, pt p34 2)] (by kernel_rfl) fun b => ?_
                refine L_op rfl (O_run (v := I x5.M) (w' := w) (R_load hst rfl rfl) rfl rfl ?_)
                refine L_pure 3 [(0, .slice a1 x1.length c1), (3, pt p30 0), (4, pt p32 0), (5, .slice a31 v41.length c31), (6, .bool v42), (7, I v43), (8, pt p34 0), (49, I (mn2 (mx2 x5.M 0) 5)), (50, pt p34 2)] (by kernel_rfl) fun b => ?_
                refine L_op rfl (O_store [I x5.Kind, I (mn2 (mx2 x5.N 0) 1000), I (mn2 (mx2 x5.M 0) 5), S x5.S, .slice q3.1.1 x5.Texts.length q3.1.2, .slice q3.2.1 x5.Choice.length q3.2.2] hst rfl rfl (by kernel_rfl) fun w hst => ?_)
                refine wpL_nil ?_
                refine th_n ?_
                refine wp_seq ?_
                obtain ⟨y38, hy38, hk12⟩ := bnd hr
                clear hr
                refine wp_seq_cut (fun a w => ∃ (b : Nat → Value), a = mkF 164 b [(0, .slice a1 x1.length c1), (3, pt p30 0), (4, pt p32 0), (5, .slice a31 v41.length c31), (6, .bool v42), (7, I v43), (8, pt p34 0), (56, .bool y38)] ∧ St G w (blk p34 (cl [I x5.Kind, I (mn2 (mx2 x5.N 0) 1000), I (mn2 (mx2 x5.M 0) 5), S x5.S, .slice q3.1.1 x5.Texts.length q3.1.2, .slice q3.2.1 x5.Choice.length q3.2.2] 77) :: dsl rS q3.1.1 q3.1.2 x5.Texts :: dsl (rI .i64) q3.2.1 q3.2.2 x5.Choice :: dsl r_T_glacierlaw09_Act a1 c1 x1 :: osl r_T_glacierref09_State 71 a31 c31 v41 :: dsl r_T_glacierref09_Entry a32 c32 v49 :: dsl r_T_glacierref09_Entry none 0 ([]) :: blk p32 (cl [I v44, I v45, I v46, I v47, S v48, .slice a32 v49.length c32] 71) :: blk p30 (cl [I y32.1, I v50, .bool y32.2.2.1, I v51, .map (some p31)] 42) :: mpr S (rPt r_T_platter_file) p31 v52 :: F)) ?_ ?_
                · rintro _ w ⟨b, rfl, hst⟩
                  have hr := hk12
                  refine wp_cond_mkF (t := y38) rfl (fun h => ?_) (fun h => ?_)
                  · have hr := (if_pos h).symm.trans hr
                    refine wp_exit ?_
                    refine th_x (ib_x (th_n ?_))
                    obtain rfl := Option.some.inj hr
                    have hst := (hst.pull 5).dup
                    have hst := (((((((((hst.pull 10).pull 10).pull 10).pull 10).pull 4).pull 9).pull 6).pull 10).cut 8 3)
                    exact ⟨(v41, v42, v44, v45, v46, v47, v48, v49, v50, v51, v52), a31, c31, a32, c32, (kpXf [(0, .slice a1 x1.length c1), (3, pt p30 0), (4, pt p32 0), (5, .slice a31 v41.length c31), (6, .bool v42), (7, I v43)] rfl hst)⟩
                  · have hr := (if_neg (by rw [h]; exact Bool.false_ne_true)).symm.trans hr
                    refine wp_skip ?_
                    refine th_n ?_
                    refine wp_seq ?_
                    refine wp_reg ?_
                    refine L_pure 1 [(0, .slice a1 x1.length c1), (3, pt p30 0), (4, pt p32 0), (5, .slice a31 v41.length c31), (6, .bool v42), (7, I v43), (8, pt p34 0)] (by kernel_rfl) fun b => ?_
                    refine wpL_nil ?_
                    refine th_n ?_
                    refine wp_seq ?_
                    refine wp_reg ?_
                    refine L_op rfl (O_run (v := .agg #[I v44, I v45, I v46, I v47, S v48, .slice a32 v49.length c32]) (w' := w) (R_load (hst.pull 7) rfl rfl) rfl rfl ?_)
                    refine L_op rfl (O_run (v := .agg #[I x5.Kind, I (mn2 (mx2 x5.N 0) 1000), I (mn2 (mx2 x5.M 0) 5), S x5.S, .slice q3.1.1 x5.Texts.length q3.1.2, .slice q3.2.1 x5.Choice.length q3.2.2]) (w' := w) (R_load hst rfl rfl) rfl rfl ?_)
                    obtain ⟨y39, hy39, hr⟩ := bnd hr
                    refine L_op rfl (O_call (vs := #[.agg #[I v44, I v45, I v46, I v47, S v48, .slice a32 v49.length c32], .agg #[I x5.Kind, I (mn2 (mx2 x5.N 0) 1000), I (mn2 (mx2 x5.M 0) 5), S x5.S, .slice q3.1.1 x5.Texts.length q3.1.2, .slice q3.2.1 x5.Choice.length q3.2.2]]) Try.call35 (by kernel_rfl) (glacierlaw09_may_ok k (T_glacierref09_State.mk v44 v45 v46 v47 v48 v49) (T_glacierlaw09_Act.mk x5.Kind (mn2 (mx2 x5.N 0) 1000) (mn2 (mx2 x5.M 0) 5) x5.S x5.Texts x5.Choice) a32 c32 q3.1.1 q3.1.2 q3.2.1 q3.2.2 y39 (((hst.pull 2).pull 2).pull 5) hy39 fun a38 c38 a39 c39 w hst => ?_))
                    refine CK_ret rfl ?_
                    refine L_pure 3 [(0, .slice a1 x1.length c1), (3, pt p30 0), (4, pt p32 0), (5, .slice a31 v41.length c31), (6, .bool v42), (7, I v43), (8, pt p34 0), (61, .agg #[I y39.2.1.Term, I y39.2.1.Vote, I y39.2.1.Base, I y39.2.1.BaseTerm, S y39.2.1.Snap, .slice a38 y39.1.length c38]), (62, .slice a39 y39.2.2.length c39)] (by kernel_rfl) fun b => ?_
                    refine L_op rfl (O_alloc (i := Try.t71) (z := .agg #[I 0, I 0, I 0, I 0, S ([]), .slice none 0 0]) [I 0, I 0, I 0, I 0, S ([]), .slice none 0 0] hst rfl rfl rfl rfl fun p35 w hst => ?_)
                    refine L_op rfl (O_store [I y39.2.1.Term, I y39.2.1.Vote, I y39.2.1.Base, I y39.2.1.BaseTerm, S y39.2.1.Snap, .slice a38 y39.1.length c38] hst rfl rfl (by kernel_rfl) fun w hst => ?_)
                    refine L_pure 1 [(0, .slice a1 x1.length c1), (3, pt p30 0), (4, pt p32 0), (5, .slice a31 v41.length c31), (6, .bool v42), (7, I v43), (8, pt p34 0), (10, pt p35 0), (11, .slice a39 y39.2.2.length c39)] (by kernel_rfl) fun b => ?_
                    refine wpL_nil ?_
                    refine th_n ?_
                    refine wp_seq ?_
                    refine wp_seq ?_
                    refine wp_reg ?_
                    refine L_pure 1 [(0, .slice a1 x1.length c1), (3, pt p30 0), (4, pt p32 0), (5, .slice a31 v41.length c31), (6, .bool v42), (7, I v43), (8, pt p34 0), (10, pt p35 0), (11, .slice a39 y39.2.2.length c39), (63, pt p34 0)] (by kernel_rfl) fun b => ?_
                    refine L_op rfl (O_run (v := I x5.Kind) (w' := w) (R_load (hst.pull 6) rfl rfl) rfl rfl ?_)
                    refine wpL_nil ?_
                    refine th_n ?_
                    refine wp_block ?_
                    refine wp_seq ?_
                    refine wp_reg ?_
                    refine L_pure 2 [(0, .slice a1 x1.length c1), (3, pt p30 0), (4, pt p32 0), (5, .slice a31 v41.length c31), (6, .bool v42), (7, I v43), (8, pt p34 0), (10, pt p35 0), (11, .slice a39 y39.2.2.length c39), (64, I x5.Kind), (65, .bool (x5.Kind == 1))] (by kernel_rfl) fun b => ?_
                    refine wpL_nil ?_
                    refine th_n ?_
                    refine wp_cond_mkF (t := (x5.Kind == 1)) rfl (fun h => ?_) (fun h => ?_)
                    · have hr := (if_pos h).symm.trans hr
                      refine wp_reg ?_
                      refine L_pure 2 [(0, .slice a1 x1.length c1), (3, pt p30 0), (4, pt p32 0), (6, .bool v42), (7, I v43), (8, pt p34 0), (10, pt p35 0), (11, .slice a39 y39.2.2.length c39), (67, pt p30 0), (68, pt p34 1)] (by kernel_rfl) fun b => ?_
                      refine L_op rfl (O_run (v := I (mn2 (mx2 x5.N 0) 1000)) (w' := w) (R_load (hst.pull 6) rfl rfl) rfl rfl ?_)
                      refine L_pure 1 [(0, .slice a1 x1.length c1), (3, pt p30 0), (4, pt p32 0), (6, .bool v42), (7, I v43), (10, pt p35 0), (11, .slice a39 y39.2.2.length c39), (67, pt p30 0), (69, I (mn2 (mx2 x5.N 0) 1000)), (70, pt p34 2)] (by kernel_rfl) fun b => ?_
                      refine L_op rfl (O_run (v := I (mn2 (mx2 x5.M 0) 5)) (w' := w) (R_load (hst.pull 6) rfl rfl) rfl rfl ?_)
                      obtain ⟨y40, hy40, hr⟩ := bnd hr
                      refine L_op rfl (O_call (vs := #[pt p30 0, I (mn2 (mx2 x5.N 0) 1000), I (mn2 (mx2 x5.M 0) 5)]) Try.call30 (by kernel_rfl) (term_SaveTerm_ok k y32.1 v50 y32.2.2.1 v51 v52 (mn2 (mx2 x5.N 0) 1000) (mn2 (mx2 x5.M 0) 5) p30 p31 y40 ((hst.pull 12).pull 12) hy40 fun w hst => ?_))
                      refine CK_ret rfl ?_
                      refine L_pure 1 [(0, .slice a1 x1.length c1), (3, pt p30 0), (4, pt p32 0), (6, .bool v42), (7, I v43), (9, I y40.1), (10, pt p35 0), (11, .slice a39 y39.2.2.length c39)] (by kernel_rfl) fun b => ?_
                      refine wpL_nil ?_
                      refine ib_n (th_n ?_)
                      refine wp_seq ?_
                      refine wp_seq ?_
                      refine wp_reg ?_
                      refine L_pure 2 [(0, .slice a1 x1.length c1), (3, pt p30 0), (4, pt p32 0), (6, .bool v42), (7, I v43), (9, I y40.1), (10, pt p35 0), (11, .slice a39 y39.2.2.length c39), (151, .bool (y40.1 == 0))] (by kernel_rfl) fun b => ?_
                      refine wpL_nil ?_
                      refine th_n ?_
                      refine wp_cond_mkF (t := (y40.1 == 0)) rfl (fun h => ?_) (fun h => ?_)
                      · have hr := (if_pos h).symm.trans hr
                        refine wp_seq ?_
                        refine wp_reg ?_
                        refine L_op rfl (O_run (v := .agg #[I y39.2.1.Term, I y39.2.1.Vote, I y39.2.1.Base, I y39.2.1.BaseTerm, S y39.2.1.Snap, .slice a38 y39.1.length c38]) (w' := w) (R_load (hst.pull 2) rfl rfl) rfl rfl ?_)
                        refine L_op rfl (O_store [I y39.2.1.Term, I y39.2.1.Vote, I y39.2.1.Base, I y39.2.1.BaseTerm, S y39.2.1.Snap, .slice a38 y39.1.length c38] (hst.pull 12) rfl rfl (by kernel_rfl) fun w hst => ?_)
                        refine wpL_nil ?_
                        refine th_n ?_
                        refine wp_seq ?_
                        refine wp_reg ?_
                        refine L_op rfl (O_run (v := .agg #[I y39.2.1.Term, I y39.2.1.Vote, I y39.2.1.Base, I y39.2.1.BaseTerm, S y39.2.1.Snap, .slice a38 y39.1.length c38]) (w' := w) (R_load (hst.pull 3) rfl rfl) rfl rfl ?_)
                        refine L_op rfl (O_bs (T := 71) [I y39.2.1.Term, I y39.2.1.Vote, I y39.2.1.Base, I y39.2.1.BaseTerm, S y39.2.1.Snap, .slice a38 y39.1.length c38] #[(0, .agg #[I y39.2.1.Term, I y39.2.1.Vote, I y39.2.1.Base, I y39.2.1.BaseTerm, S y39.2.1.Snap, .slice a38 y39.1.length c38])] hst (by kernel_rfl) (by kernel_rfl) rfl fun p36 w hst => ?_)
                        have hst := (hst.pull 5).dup
                        have hst := ((hst.pull 2).pull 1)
                        have hst := osl_of_blk (ecs := [[I y39.2.1.Term, I y39.2.1.Vote, I y39.2.1.Base, I y39.2.1.BaseTerm, S y39.2.1.Snap, .slice a38 y39.1.length c38]]) r_T_glacierref09_State [(T_glacierref09_State.mk y39.2.1.Term y39.2.1.Vote y39.2.1.Base y39.2.1.BaseTerm y39.2.1.Snap y39.1)] rfl (fun m h => ⟨⟨((a38, c38)), rfl, h⟩, trivial⟩) rfl hst
                        refine L_pure 1 [(0, .slice a1 x1.length c1), (3, pt p30 0), (4, pt p32 0), (5, .slice (some ⟨p36, 0, none⟩) ([(T_glacierref09_State.mk y39.2.1.Term y39.2.1.Vote y39.2.1.Base y39.2.1.BaseTerm y39.2.1.Snap y39.1)]).length 1), (6, .bool v42), (7, I v43)] (by kernel_rfl) fun b => ?_
                        refine wpL_nil ?_
                        refine th_n ?_
                        refine wp_exit ?_
                        refine th_x (ib_x (th_n ?_))
                        obtain rfl := Option.some.inj hr
                        have hst := (((((((((hst.pull 4).pull 4).pull 4).pull 13).pull 8).pull 12).pull 7).pull 7).cut 8 6)
                        exact ⟨([(T_glacierref09_State.mk y39.2.1.Term y39.2.1.Vote y39.2.1.Base y39.2.1.BaseTerm y39.2.1.Snap y39.1)], v42, y39.2.1.Term, y39.2.1.Vote, y39.2.1.Base, y39.2.1.BaseTerm, y39.2.1.Snap, y39.1, y40.2.1, y40.2.2.1, y40.2.2.2), (some ⟨p36, 0, none⟩), 1, a38, c38, (kpXf [(0, .slice a1 x1.length c1), (3, pt p30 0), (4, pt p32 0), (5, .slice (some ⟨p36, 0, none⟩) ([(T_glacierref09_State.mk y39.2.1.Term y39.2.1.Vote y39.2.1.Base y39.2.1.BaseTerm y39.2.1.Snap y39.1)]).length 1), (6, .bool v42), (7, I v43)] rfl hst)⟩
                      · have hr := (if_neg (by rw [h]; exact Bool.false_ne_true)).symm.trans hr
                        refine wp_skip ?_
                        refine th_n ?_
                        refine wp_seq ?_
                        refine wp_seq ?_
                        refine wp_reg ?_
                        refine L_pure 2 [(0, .slice a1 x1.length c1), (3, pt p30 0), (4, pt p32 0), (7, I v43), (10, pt p35 0), (11, .slice a39 y39.2.2.length c39), (156, .bool (y40.1 != 8))] (by kernel_rfl) fun b => ?_
                        refine wpL_nil ?_
                        refine th_n ?_
                        refine wp_cond_mkF (t := (y40.1 != 8)) rfl (fun h => ?_) (fun h => ?_)
                        · have hr := (if_pos h).symm.trans hr
                          refine wp_seq ?_
                          refine wp_reg ?_
                          refine L_pure 1 [(2, .bool false)] (by kernel_rfl) fun b => ?_
                          refine wpL_nil ?_
                          refine th_n ?_
                          refine wp_ret ?_
                          refine th_r (ib_r (th_r (th_r (ib_r (th_r (th_r ?_))))))
                          refine ret1 rfl rfl ?_
                          obtain rfl := Option.some.inj hr
                          obtain rfl := Option.some.inj hk11
                          obtain rfl := Option.some.inj hk9
                          have hst := ((hst.pull 9).cut 1 12)
                          exact hR _ hst
                        · have hr := (if_neg (by rw [h]; exact Bool.false_ne_true)).symm.trans hr
                          refine wp_skip ?_
                          refine th_n ?_
                          refine wp_seq ?_
                          refine wp_reg ?_
                          refine L_pure 1 [(0, .slice a1 x1.length c1), (3, pt p30 0), (4, pt p32 0), (6, .bool true), (7, I v43), (10, pt p35 0), (11, .slice a39 y39.2.2.length c39)] (by kernel_rfl) fun b => ?_
                          refine wpL_nil ?_
                          refine th_n ?_
                          refine wp_regG (SQ (fun w => St G w (blk p30 (cl [I y32.1, I y40.2.1, .bool y32.2.2.1, I y40.2.2.1, .map (some p31)] 42) :: mpr S (rPt r_T_platter_file) p31 y40.2.2.2 :: blk p35 (cl [I y39.2.1.Term, I y39.2.1.Vote, I y39.2.1.Base, I y39.2.1.BaseTerm, S y39.2.1.Snap, .slice a38 y39.1.length c38] 71) :: dsl r_T_glacierref09_Entry a38 c38 y39.1 :: osl r_T_glacierref09_State 71 a39 c39 y39.2.2 :: dsl r_T_glacierref09_Entry a32 c32 v49 :: dsl rS q3.1.1 q3.1.2 x5.Texts :: dsl (rI .i64) q3.2.1 q3.2.2 x5.Choice :: blk p34 (cl [I x5.Kind, I (mn2 (mx2 x5.N 0) 1000), I (mn2 (mx2 x5.M 0) 5), S x5.S, .slice q3.1.1 x5.Texts.length q3.1.2, .slice q3.2.1 x5.Choice.length q3.2.2] 77) :: dsl r_T_glacierlaw09_Act a1 c1 x1 :: osl r_T_glacierref09_State 71 a31 c31 v41 :: dsl r_T_glacierref09_Entry none 0 ([]) :: blk p32 (cl [I v44, I v45, I v46, I v47, S v48, .slice a32 v49.length c32] 71) :: F))) rfl ?_
                          have hst := hst.draw (n := w.drawn + 1)
                          generalize { w with drawn := w.drawn + 1 } = w at hst ⊢
                          refine Q_take (i := 0) (v := .agg #[I v44, I v45, I v46, I v47, S v48, .slice a32 v49.length c32]) rfl (by kernel_rfl) (fun _ _ _ h => h) rfl rfl rfl (fun w hst => R_load (hst.pull 12) rfl rfl) (((((((((((((hst.pull 12).pull 12).pull 12).pull 12).pull 12).pull 12).pull 12).pull 12).pull 12).pull 12).pull 12).pull 12).pull 12) ?_
                          refine Q_take (i := 2) (v := .slice a39 y39.2.2.length c39) rfl (by kernel_rfl) (fun _ _ _ h => h) rfl rfl rfl (fun _ _ => R_pure (by kernel_rfl)) (((((((((((((hst.pull 12).pull 12).pull 12).pull 12).pull 12).pull 12).pull 12).pull 12).pull 12).pull 12).pull 12).pull 12).pull 12) ?_
                          refine Q_take (i := 4) (v := .agg #[I y39.2.1.Term, I y39.2.1.Vote, I y39.2.1.Base, I y39.2.1.BaseTerm, S y39.2.1.Snap, .slice a38 y39.1.length c38]) rfl (by kernel_rfl) (fun _ _ _ h => h) rfl rfl rfl (fun w hst => R_load (hst.pull 2) rfl rfl) (((((((((((((hst.pull 12).pull 12).pull 12).pull 12).pull 12).pull 12).pull 12).pull 12).pull 12).pull 12).pull 12).pull 12).pull 12) ?_
                          refine Q_two (i := 1) (j := 5) (by kernel_rfl) rfl rfl rfl rfl ?_ ?_
                          · refine O_bs (T := 71) [I v44, I v45, I v46, I v47, S v48, .slice a32 v49.length c32] #[(0, .agg #[I v44, I v45, I v46, I v47, S v48, .slice a32 v49.length c32])] hst (by kernel_rfl) (by kernel_rfl) rfl fun p38 w hst => ?_
                            have hst := (hst.pull 6).dup
                            have hst := ((hst.pull 2).pull 1)
                            have hst := osl_of_blk (ecs := [[I v44, I v45, I v46, I v47, S v48, .slice a32 v49.length c32]]) r_T_glacierref09_State [(T_glacierref09_State.mk v44 v45 v46 v47 v48 v49)] rfl (fun m h => ⟨⟨((a32, c32)), rfl, h⟩, trivial⟩) rfl hst
                            refine ⟨((((((((((((((hst.pull 13).pull 13).pull 13).pull 13).pull 13).pull 13).pull 13).pull 8).pull 13).pull 13).pull 13).pull 13).pull 13).cut 13 1), ?_⟩
                            refine Q_two (i := 3) (j := 5) (by kernel_rfl) rfl rfl rfl rfl ?_ ?_
                            · obtain ⟨hb11, hr⟩ := chk hr
                              refine O_app_o L75 ((hst.pull 6).pull 1) rfl rfl hb11 rfl fun a40 c40 w hst => ?_
                              refine ⟨((((((((((((((hst.pull 13).pull 13).pull 13).pull 13).pull 13).pull 13).pull 13).pull 9).pull 9).pull 13).pull 13).pull 13).pull 13).cut 13 1), ?_⟩
                              refine Q_one (i := 5) (by kernel_rfl) rfl rfl (O_bs (T := 71) [I y39.2.1.Term, I y39.2.1.Vote, I y39.2.1.Base, I y39.2.1.BaseTerm, S y39.2.1.Snap, .slice a38 y39.1.length c38] #[(0, .agg #[I y39.2.1.Term, I y39.2.1.Vote, I y39.2.1.Base, I y39.2.1.BaseTerm, S y39.2.1.Snap, .slice a38 y39.1.length c38])] hst (by kernel_rfl) (by kernel_rfl) rfl fun p39 w hst => ?_)
                              have hst := (hst.pull 7).dup
                              have hst := ((hst.pull 2).pull 1)
                              have hst := osl_of_blk (ecs := [[I y39.2.1.Term, I y39.2.1.Vote, I y39.2.1.Base, I y39.2.1.BaseTerm, S y39.2.1.Snap, .slice a38 y39.1.length c38]]) r_T_glacierref09_State [(T_glacierref09_State.mk y39.2.1.Term y39.2.1.Vote y39.2.1.Base y39.2.1.BaseTerm y39.2.1.Snap y39.1)] rfl (fun m h => ⟨⟨((a38, c38)), rfl, h⟩, trivial⟩) rfl hst
                              refine ⟨((((((((((((((hst.pull 14).pull 14).pull 14).pull 14).pull 14).pull 14).pull 14).pull 11).pull 11).pull 10).pull 14).pull 14).pull 14).cut 13 2), ?_⟩
                              obtain ⟨hb12, hr⟩ := chk hr
                              refine Q_one (i := 6) (by kernel_rfl) rfl rfl (O_app_o L75 (hst.pull 2) rfl rfl hb12 rfl fun a41 c41 w hst => ?_)
                              refine ⟨((((((((((((((hst.pull 14).pull 14).pull 14).pull 14).pull 14).pull 14).pull 14).pull 11).pull 11).pull 11).pull 14).pull 14).pull 14).cut 13 2), ?_⟩
                              refine Q_take (i := 7) (v := .slice a41 ((([(T_glacierref09_State.mk v44 v45 v46 v47 v48 v49)]) ++ y39.2.2) ++ ([(T_glacierref09_State.mk y39.2.1.Term y39.2.1.Vote y39.2.1.Base y39.2.1.BaseTerm y39.2.1.Snap y39.1)])).length c41) rfl (by kernel_rfl) (fun _ _ _ h => h) rfl rfl rfl (fun _ _ => R_pure (by kernel_rfl)) ((((((((((((((hst.pull 14).pull 14).pull 14).pull 14).pull 14).pull 14).pull 14).pull 11).pull 11).pull 11).pull 14).pull 14).pull 14).cut 13 2) ?_
                              refine wpG_done (by kernel_rfl) ?_ _
                              refine C_keepQ [(0, .slice a1 x1.length c1), (3, pt p30 0), (4, pt p32 0), (5, .slice a41 ((([(T_glacierref09_State.mk v44 v45 v46 v47 v48 v49)]) ++ y39.2.2) ++ ([(T_glacierref09_State.mk y39.2.1.Term y39.2.1.Vote y39.2.1.Base y39.2.1.BaseTerm y39.2.1.Snap y39.1)])).length c41), (6, .bool true), (7, I v43)] rfl fun b => ?_
                              refine ib_n (th_n ?_)
                              obtain rfl := Option.some.inj hr
                              have hst := (hst.pull 4).dup
                              have hst := (((((((((hst.pull 7).pull 7).pull 15).pull 15).pull 4).pull 14).pull 6).pull 7).cut 8 8)
                              exact ⟨(((([(T_glacierref09_State.mk v44 v45 v46 v47 v48 v49)]) ++ y39.2.2) ++ ([(T_glacierref09_State.mk y39.2.1.Term y39.2.1.Vote y39.2.1.Base y39.2.1.BaseTerm y39.2.1.Snap y39.1)])), true, v44, v45, v46, v47, v48, v49, y40.2.1, y40.2.2.1, y40.2.2.2), a41, c41, a32, c32, (kpXf [(0, .slice a1 x1.length c1), (3, pt p30 0), (4, pt p32 0), (5, .slice a41 ((([(T_glacierref09_State.mk v44 v45 v46 v47 v48 v49)]) ++ y39.2.2) ++ ([(T_glacierref09_State.mk y39.2.1.Term y39.2.1.Vote y39.2.1.Base y39.2.1.BaseTerm y39.2.1.Snap y39.1)])).length c41), (6, .bool true), (7, I v43)] rfl hst)⟩
                            · refine O_bs (T := 71) [I y39.2.1.Term, I y39.2.1.Vote, I y39.2.1.Base, I y39.2.1.BaseTerm, S y39.2.1.Snap, .slice a38 y39.1.length c38] #[(0, .agg #[I y39.2.1.Term, I y39.2.1.Vote, I y39.2.1.Base, I y39.2.1.BaseTerm, S y39.2.1.Snap, .slice a38 y39.1.length c38])] hst (by kernel_rfl) (by kernel_rfl) rfl fun p39 w hst => ?_
                              have hst := (hst.pull 6).dup
                              have hst := ((hst.pull 2).pull 1)
                              have hst := osl_of_blk (ecs := [[I y39.2.1.Term, I y39.2.1.Vote, I y39.2.1.Base, I y39.2.1.BaseTerm, S y39.2.1.Snap, .slice a38 y39.1.length c38]]) r_T_glacierref09_State [(T_glacierref09_State.mk y39.2.1.Term y39.2.1.Vote y39.2.1.Base y39.2.1.BaseTerm y39.2.1.Snap y39.1)] rfl (fun m h => ⟨⟨((a38, c38)), rfl, h⟩, trivial⟩) rfl hst
                              refine ⟨((((((((((((((hst.pull 14).pull 14).pull 14).pull 14).pull 14).pull 14).pull 14).pull 10).pull 14).pull 10).pull 14).pull 14).pull 14).cut 13 2), ?_⟩
                              obtain ⟨hb11, hr⟩ := chk hr
                              refine Q_one (i := 3) (by kernel_rfl) rfl rfl (O_app_o L75 ((hst.pull 7).pull 3) rfl rfl hb11 rfl fun a40 c40 w hst => ?_)
                              refine ⟨((((((((((((((hst.pull 14).pull 14).pull 14).pull 14).pull 14).pull 14).pull 14).pull 11).pull 9).pull 11).pull 14).pull 14).pull 14).cut 13 2), ?_⟩
                              obtain ⟨hb12, hr⟩ := chk hr
                              refine Q_one (i := 6) (by kernel_rfl) rfl rfl (O_app_o L75 ((hst.pull 2).pull 1) rfl rfl hb12 rfl fun a41 c41 w hst => ?_)
                              refine ⟨((((((((((((((hst.pull 14).pull 14).pull 14).pull 14).pull 14).pull 14).pull 14).pull 11).pull 10).pull 11).pull 14).pull 14).pull 14).cut 13 2), ?_⟩
                              refine Q_take (i := 7) (v := .slice a41 ((([(T_glacierref09_State.mk v44 v45 v46 v47 v48 v49)]) ++ y39.2.2) ++ ([(T_glacierref09_State.mk y39.2.1.Term y39.2.1.Vote y39.2.1.Base y39.2.1.BaseTerm y39.2.1.Snap y39.1)])).length c41) rfl (by kernel_rfl) (fun _ _ _ h => h) rfl rfl rfl (fun _ _ => R_pure (by kernel_rfl)) ((((((((((((((hst.pull 14).pull 14).pull 14).pull 14).pull 14).pull 14).pull 14).pull 11).pull 10).pull 11).pull 14).pull 14).pull 14).cut 13 2) ?_
                              refine wpG_done (by kernel_rfl) ?_ _
                              refine C_keepQ [(0, .slice a1 x1.length c1), (3, pt p30 0), (4, pt p32 0), (5, .slice a41 ((([(T_glacierref09_State.mk v44 v45 v46 v47 v48 v49)]) ++ y39.2.2) ++ ([(T_glacierref09_State.mk y39.2.1.Term y39.2.1.Vote y39.2.1.Base y39.2.1.BaseTerm y39.2.1.Snap y39.1)])).length c41), (6, .bool true), (7, I v43)] rfl fun b => ?_
                              refine ib_n (th_n ?_)
                              obtain rfl := Option.some.inj hr
                              have hst := (hst.pull 4).dup
                              have hst := (((((((((hst.pull 7).pull 7).pull 15).pull 15).pull 4).pull 14).pull 6).pull 7).cut 8 8)
                              exact ⟨(((([(T_glacierref09_State.mk v44 v45 v46 v47 v48 v49)]) ++ y39.2.2) ++ ([(T_glacierref09_State.mk y39.2.1.Term y39.2.1.Vote y39.2.1.Base y39.2.1.BaseTerm y39.2.1.Snap y39.1)])), true, v44, v45, v46, v47, v48, v49, y40.2.1, y40.2.2.1, y40.2.2.2), a41, c41, a32, c32, (kpXf [(0, .slice a1 x1.length c1), (3, pt p30 0), (4, pt p32 0), (5, .slice a41 ((([(T_glacierref09_State.mk v44 v45 v46 v47 v48 v49)]) ++ y39.2.2) ++ ([(T_glacierref09_State.mk y39.2.1.Term y39.2.1.Vote y39.2.1.Base y39.2.1.BaseTerm y39.2.1.Snap y39.1)])).length c41), (6, .bool true), (7, I v43)] rfl hst)⟩
                          · refine O_bs (T := 71) [I y39.2.1.Term, I y39.2.1.Vote, I y39.2.1.Base, I y39.2.1.BaseTerm, S y39.2.1.Snap, .slice a38 y39.1.length c38] #[(0, .agg #[I y39.2.1.Term, I y39.2.1.Vote, I y39.2.1.Base, I y39.2.1.BaseTerm, S y39.2.1.Snap, .slice a38 y39.1.length c38])] hst (by kernel_rfl) (by kernel_rfl) rfl fun p38 w hst => ?_
                            have hst := (hst.pull 4).dup
                            have hst := ((hst.pull 2).pull 1)
                            have hst := osl_of_blk (ecs := [[I y39.2.1.Term, I y39.2.1.Vote, I y39.2.1.Base, I y39.2.1.BaseTerm, S y39.2.1.Snap, .slice a38 y39.1.length c38]]) r_T_glacierref09_State [(T_glacierref09_State.mk y39.2.1.Term y39.2.1.Vote y39.2.1.Base y39.2.1.BaseTerm y39.2.1.Snap y39.1)] rfl (fun m h => ⟨⟨((a38, c38)), rfl, h⟩, trivial⟩) rfl hst
                            refine ⟨((((((((((((((hst.pull 13).pull 13).pull 13).pull 13).pull 13).pull 13).pull 13).pull 13).pull 13).pull 10).pull 13).pull 13).pull 13).cut 13 1), ?_⟩
                            refine Q_one (i := 1) (by kernel_rfl) rfl rfl (O_bs (T := 71) [I v44, I v45, I v46, I v47, S v48, .slice a32 v49.length c32] #[(0, .agg #[I v44, I v45, I v46, I v47, S v48, .slice a32 v49.length c32])] hst (by kernel_rfl) (by kernel_rfl) rfl fun p39 w hst => ?_)
                            have hst := (hst.pull 7).dup
                            have hst := ((hst.pull 2).pull 1)
                            have hst := osl_of_blk (ecs := [[I v44, I v45, I v46, I v47, S v48, .slice a32 v49.length c32]]) r_T_glacierref09_State [(T_glacierref09_State.mk v44 v45 v46 v47 v48 v49)] rfl (fun m h => ⟨⟨((a32, c32)), rfl, h⟩, trivial⟩) rfl hst
                            refine ⟨((((((((((((((hst.pull 14).pull 14).pull 14).pull 14).pull 14).pull 14).pull 14).pull 8).pull 14).pull 11).pull 14).pull 14).pull 14).cut 13 2), ?_⟩
                            obtain ⟨hb11, hr⟩ := chk hr
                            refine Q_one (i := 3) (by kernel_rfl) rfl rfl (O_app_o L75 ((hst.pull 7).pull 1) rfl rfl hb11 rfl fun a40 c40 w hst => ?_)
                            refine ⟨((((((((((((((hst.pull 14).pull 14).pull 14).pull 14).pull 14).pull 14).pull 14).pull 9).pull 9).pull 11).pull 14).pull 14).pull 14).cut 13 2), ?_⟩
                            obtain ⟨hb12, hr⟩ := chk hr
                            refine Q_one (i := 6) (by kernel_rfl) rfl rfl (O_app_o L75 ((hst.pull 3).pull 1) rfl rfl hb12 rfl fun a41 c41 w hst => ?_)
                            refine ⟨((((((((((((((hst.pull 14).pull 14).pull 14).pull 14).pull 14).pull 14).pull 14).pull 10).pull 10).pull 11).pull 14).pull 14).pull 14).cut 13 2), ?_⟩
                            refine Q_take (i := 7) (v := .slice a41 ((([(T_glacierref09_State.mk v44 v45 v46 v47 v48 v49)]) ++ y39.2.2) ++ ([(T_glacierref09_State.mk y39.2.1.Term y39.2.1.Vote y39.2.1.Base y39.2.1.BaseTerm y39.2.1.Snap y39.1)])).length c41) rfl (by kernel_rfl) (fun _ _ _ h => h) rfl rfl rfl (fun _ _ => R_pure (by kernel_rfl)) ((((((((((((((hst.pull 14).pull 14).pull 14).pull 14).pull 14).pull 14).pull 14).pull 10).pull 10).pull 11).pull 14).pull 14).pull 14).cut 13 2) ?_
                            refine wpG_done (by kernel_rfl) ?_ _
                            refine C_keepQ [(0, .slice a1 x1.length c1), (3, pt p30 0), (4, pt p32 0), (5, .slice a41 ((([(T_glacierref09_State.mk v44 v45 v46 v47 v48 v49)]) ++ y39.2.2) ++ ([(T_glacierref09_State.mk y39.2.1.Term y39.2.1.Vote y39.2.1.Base y39.2.1.BaseTerm y39.2.1.Snap y39.1)])).length c41), (6, .bool true), (7, I v43)] rfl fun b => ?_
                            refine ib_n (th_n ?_)
                            obtain rfl := Option.some.inj hr
                            have hst := (hst.pull 3).dup
                            have hst := (((((((((hst.pull 7).pull 7).pull 15).pull 15).pull 4).pull 14).pull 6).pull 7).cut 8 8)
                            exact ⟨(((([(T_glacierref09_State.mk v44 v45 v46 v47 v48 v49)]) ++ y39.2.2) ++ ([(T_glacierref09_State.mk y39.2.1.Term y39.2.1.Vote y39.2.1.Base y39.2.1.BaseTerm y39.2.1.Snap y39.1)])), true, v44, v45, v46, v47, v48, v49, y40.2.1, y40.2.2.1, y40.2.2.2), a41, c41, a32, c32, (kpXf [(0, .slice a1 x1.length c1), (3, pt p30 0), (4, pt p32 0), (5, .slice a41 ((([(T_glacierref09_State.mk v44 v45 v46 v47 v48 v49)]) ++ y39.2.2) ++ ([(T_glacierref09_State.mk y39.2.1.Term y39.2.1.Vote y39.2.1.Base y39.2.1.BaseTerm y39.2.1.Snap y39.1)])).length c41), (6, .bool true), (7, I v43)] rfl hst)⟩
                    · have hr := (if_neg (by rw [h]; exact Bool.false_ne_true)).symm.trans hr
                      refine wp_seq ?_
                      refine wp_reg ?_
                      refine L_pure 2 [(0, .slice a1 x1.length c1), (3, pt p30 0), (4, pt p32 0), (5, .slice a31 v41.length c31), (6, .bool v42), (7, I v43), (8, pt p34 0), (10, pt p35 0), (11, .slice a39 y39.2.2.length c39), (64, I x5.Kind), (73, .bool (x5.Kind == 2))] (by kernel_rfl) fun b => ?_
                      refine wpL_nil ?_
                      refine th_n ?_
                      refine wp_cond_mkF (t := (x5.Kind == 2)) rfl (fun h => ?_) (fun h => ?_)
                      · have hr := (if_pos h).symm.trans hr
                        refine wp_reg ?_
                        refine L_pure 2 [(0, .slice a1 x1.length c1), (3, pt p30 0), (4, pt p32 0), (6, .bool v42), (7, I v43), (10, pt p35 0), (11, .slice a39 y39.2.2.length c39), (75, pt p30 0), (76, pt p35 5)] (by kernel_rfl) fun b => ?_
                        refine L_op rfl (O_run (v := .slice a38 y39.1.length c38) (w' := w) (R_load hst rfl rfl) rfl rfl ?_)
                        refine L_pure 1 [(0, .slice a1 x1.length c1), (3, pt p30 0), (4, pt p32 0), (6, .bool v42), (7, I v43), (10, pt p35 0), (11, .slice a39 y39.2.2.length c39), (75, pt p30 0), (77, .slice a38 y39.1.length c38), (78, pt p32 5)] (by kernel_rfl) fun b => ?_
                        refine L_op rfl (O_run (v := .slice a32 v49.length c32) (w' := w) (R_load (hst.pull 10) rfl rfl) rfl rfl ?_)
                        refine L_pure 1 [(0, .slice a1 x1.length c1), (3, pt p30 0), (4, pt p32 0), (6, .bool v42), (7, I v43), (10, pt p35 0), (11, .slice a39 y39.2.2.length c39), (75, pt p30 0), (77, .slice a38 y39.1.length c38), (80, I (v49.length : Int))] (by kernel_rfl) fun b => ?_
                        obtain ⟨x6, hx5, hr⟩ := bnd hr
                        refine L_op rfl (O_slice_d L69 (hst.pull 1) rfl rfl rfl hx5 rfl fun a42 c42 hst => ?_)
                        obtain ⟨y41, hy41, hr⟩ := bnd hr
                        refine L_op rfl (O_call (vs := #[.slice a42 x6.length c42]) Try.call36 (by kernel_rfl) (glacierlaw09_entries_ok k x6 a42 c42 y41 hst hy41 fun a43 c43 w hst => ?_))
                        refine CK_ret rfl ?_
                        obtain ⟨y42, hy42, hr⟩ := bnd hr
                        have hst := osl_freeze hst
                        refine L_op rfl (O_call (vs := #[pt p30 0, .slice a43 y41.length c43]) Try.call29 (by kernel_rfl) (term_Append_ok k y32.1 v50 y32.2.2.1 v51 v52 y41 p30 p31 a43 c43 y42 ((hst.pull 14).pull 14) hy42 fun w hst => ?_))
                        refine CK_ret rfl ?_
                        refine L_pure 1 [(0, .slice a1 x1.length c1), (3, pt p30 0), (4, pt p32 0), (6, .bool v42), (7, I v43), (9, I y42.1), (10, pt p35 0), (11, .slice a39 y39.2.2.length c39)] (by kernel_rfl) fun b => ?_
                        refine wpL_nil ?_
                        refine ib_n (th_n ?_)
                        refine wp_seq ?_
                        refine wp_seq ?_
                        refine wp_reg ?_
                        refine L_pure 2 [(0, .slice a1 x1.length c1), (3, pt p30 0), (4, pt p32 0), (6, .bool v42), (7, I v43), (9, I y42.1), (10, pt p35 0), (11, .slice a39 y39.2.2.length c39), (151, .bool (y42.1 == 0))] (by kernel_rfl) fun b => ?_
                        refine wpL_nil ?_
                        refine th_n ?_
                        refine wp_cond_mkF (t := (y42.1 == 0)) rfl (fun h => ?_) (fun h => ?_)
                        · have hr := (if_pos h).symm.trans hr
                          refine wp_seq ?_
                          refine wp_reg ?_
                          refine L_op rfl (O_run (v := .agg #[I y39.2.1.Term, I y39.2.1.Vote, I y39.2.1.Base, I y39.2.1.BaseTerm, S y39.2.1.Snap, .slice a38 y39.1.length c38]) (w' := w) (R_load (hst.pull 5) rfl rfl) rfl rfl ?_)
                          refine L_op rfl (O_store [I y39.2.1.Term, I y39.2.1.Vote, I y39.2.1.Base, I y39.2.1.BaseTerm, S y39.2.1.Snap, .slice a38 y39.1.length c38] (hst.pull 14) rfl rfl (by kernel_rfl) fun w hst => ?_)
                          refine wpL_nil ?_
                          refine th_n ?_
                          refine wp_seq ?_
                          refine wp_reg ?_
                          refine L_op rfl (O_run (v := .agg #[I y39.2.1.Term, I y39.2.1.Vote, I y39.2.1.Base, I y39.2.1.BaseTerm, S y39.2.1.Snap, .slice a38 y39.1.length c38]) (w' := w) (R_load (hst.pull 6) rfl rfl) rfl rfl ?_)
                          refine L_op rfl (O_bs (T := 71) [I y39.2.1.Term, I y39.2.1.Vote, I y39.2.1.Base, I y39.2.1.BaseTerm, S y39.2.1.Snap, .slice a38 y39.1.length c38] #[(0, .agg #[I y39.2.1.Term, I y39.2.1.Vote, I y39.2.1.Base, I y39.2.1.BaseTerm, S y39.2.1.Snap, .slice a38 y39.1.length c38])] hst (by kernel_rfl) (by kernel_rfl) rfl fun p40 w hst => ?_)
                          have hst := (hst.pull 6).dup
                          have hst := ((hst.pull 2).pull 1)
                          have hst := osl_of_blk (ecs := [[I y39.2.1.Term, I y39.2.1.Vote, I y39.2.1.Base, I y39.2.1.BaseTerm, S y39.2.1.Snap, .slice a38 y39.1.length c38]]) r_T_glacierref09_State [(T_glacierref09_State.mk y39.2.1.Term y39.2.1.Vote y39.2.1.Base y39.2.1.BaseTerm y39.2.1.Snap y39.1)] rfl (fun m h => ⟨⟨((a38, c38)), rfl, h⟩, trivial⟩) rfl hst
                          refine L_pure 1 [(0, .slice a1 x1.length c1), (3, pt p30 0), (4, pt p32 0), (5, .slice (some ⟨p40, 0, none⟩) ([(T_glacierref09_State.mk y39.2.1.Term y39.2.1.Vote y39.2.1.Base y39.2.1.BaseTerm y39.2.1.Snap y39.1)]).length 1), (6, .bool v42), (7, I v43)] (by kernel_rfl) fun b => ?_
                          refine wpL_nil ?_
                          refine th_n ?_
                          refine wp_exit ?_
                          refine th_x (ib_x (th_n ?_))
                          obtain rfl := Option.some.inj hr
                          have hst := (((((((((hst.pull 4).pull 4).pull 4).pull 15).pull 10).pull 14).pull 7).pull 7).cut 8 8)
                          exact ⟨([(T_glacierref09_State.mk y39.2.1.Term y39.2.1.Vote y39.2.1.Base y39.2.1.BaseTerm y39.2.1.Snap y39.1)], v42, y39.2.1.Term, y39.2.1.Vote, y39.2.1.Base, y39.2.1.BaseTerm, y39.2.1.Snap, y39.1, y42.2.1, y42.2.2.1, y42.2.2.2), (some ⟨p40, 0, none⟩), 1, a38, c38, (kpXf [(0, .slice a1 x1.length c1), (3, pt p30 0), (4, pt p32 0), (5, .slice (some ⟨p40, 0, none⟩) ([(T_glacierref09_State.mk y39.2.1.Term y39.2.1.Vote y39.2.1.Base y39.2.1.BaseTerm y39.2.1.Snap y39.1)]).length 1), (6, .bool v42), (7, I v43)] rfl hst)⟩
                        · have hr := (if_neg (by rw [h]; exact Bool.false_ne_true)).symm.trans hr
                          refine wp_skip ?_
                          refine th_n ?_
                          refine wp_seq ?_
                          refine wp_seq ?_
                          refine wp_reg ?_
                          refine L_pure 2 [(0, .slice a1 x1.length c1), (3, pt p30 0), (4, pt p32 0), (7, I v43), (10, pt p35 0), (11, .slice a39 y39.2.2.length c39), (156, .bool (y42.1 != 8))] (by kernel_rfl) fun b => ?_
                          refine wpL_nil ?_
                          refine th_n ?_
                          refine wp_cond_mkF (t := (y42.1 != 8)) rfl (fun h => ?_) (fun h => ?_)
                          · have hr := (if_pos h).symm.trans hr
                            refine wp_seq ?_
                            refine wp_reg ?_
                            refine L_pure 1 [(2, .bool false)] (by kernel_rfl) fun b => ?_
                            refine wpL_nil ?_
                            refine th_n ?_
                            refine wp_ret ?_
                            refine th_r (ib_r (th_r (th_r (ib_r (th_r (th_r ?_))))))
                            refine ret1 rfl rfl ?_
                            obtain rfl := Option.some.inj hr
                            obtain rfl := Option.some.inj hk11
                            obtain rfl := Option.some.inj hk9
                            have hst := ((hst.pull 11).cut 1 14)
                            exact hR _ hst
                          · have hr := (if_neg (by rw [h]; exact Bool.false_ne_true)).symm.trans hr
                            refine wp_skip ?_
                            refine th_n ?_
                            refine wp_seq ?_
                            refine wp_reg ?_
                            refine L_pure 1 [(0, .slice a1 x1.length c1), (3, pt p30 0), (4, pt p32 0), (6, .bool true), (7, I v43), (10, pt p35 0), (11, .slice a39 y39.2.2.length c39)] (by kernel_rfl) fun b => ?_
                            refine wpL_nil ?_
                            refine th_n ?_
                            refine wp_regG (SQ (fun w => St G w (blk p30 (cl [I y32.1, I y42.2.1, .bool y32.2.2.1, I y42.2.2.1, .map (some p31)] 42) :: mpr S (rPt r_T_platter_file) p31 y42.2.2.2 :: dsl r_T_term_Entry a43 c43 y41 :: dsl r_T_glacierref09_Entry a42 c42 x6 :: dsl r_T_glacierref09_Entry a38 c38 y39.1 :: blk p35 (cl [I y39.2.1.Term, I y39.2.1.Vote, I y39.2.1.Base, I y39.2.1.BaseTerm, S y39.2.1.Snap, .slice a38 y39.1.length c38] 71) :: osl r_T_glacierref09_State 71 a39 c39 y39.2.2 :: dsl r_T_glacierref09_Entry a32 c32 v49 :: dsl rS q3.1.1 q3.1.2 x5.Texts :: dsl (rI .i64) q3.2.1 q3.2.2 x5.Choice :: blk p34 (cl [I x5.Kind, I (mn2 (mx2 x5.N 0) 1000), I (mn2 (mx2 x5.M 0) 5), S x5.S, .slice q3.1.1 x5.Texts.length q3.1.2, .slice q3.2.1 x5.Choice.length q3.2.2] 77) :: dsl r_T_glacierlaw09_Act a1 c1 x1 :: osl r_T_glacierref09_State 71 a31 c31 v41 :: dsl r_T_glacierref09_Entry none 0 ([]) :: blk p32 (cl [I v44, I v45, I v46, I v47, S v48, .slice a32 v49.length c32] 71) :: F))) rfl ?_
                            have hst := hst.draw (n := w.drawn + 1)
                            generalize { w with drawn := w.drawn + 1 } = w at hst ⊢
                            refine Q_take (i := 0) (v := .agg #[I v44, I v45, I v46, I v47, S v48, .slice a32 v49.length c32]) rfl (by kernel_rfl) (fun _ _ _ h => h) rfl rfl rfl (fun w hst => R_load (hst.pull 14) rfl rfl) (((((((((((((((hst.pull 14).pull 14).pull 14).pull 14).pull 14).pull 14).pull 14).pull 14).pull 14).pull 14).pull 14).pull 14).pull 14).pull 14).pull 14) ?_
                            refine Q_take (i := 2) (v := .slice a39 y39.2.2.length c39) rfl (by kernel_rfl) (fun _ _ _ h => h) rfl rfl rfl (fun _ _ => R_pure (by kernel_rfl)) (((((((((((((((hst.pull 14).pull 14).pull 14).pull 14).pull 14).pull 14).pull 14).pull 14).pull 14).pull 14).pull 14).pull 14).pull 14).pull 14).pull 14) ?_
                            refine Q_take (i := 4) (v := .agg #[I y39.2.1.Term, I y39.2.1.Vote, I y39.2.1.Base, I y39.2.1.BaseTerm, S y39.2.1.Snap, .slice a38 y39.1.length c38]) rfl (by kernel_rfl) (fun _ _ _ h => h) rfl rfl rfl (fun w hst => R_load (hst.pull 5) rfl rfl) (((((((((((((((hst.pull 14).pull 14).pull 14).pull 14).pull 14).pull 14).pull 14).pull 14).pull 14).pull 14).pull 14).pull 14).pull 14).pull 14).pull 14) ?_
                            refine Q_two (i := 1) (j := 5) (by kernel_rfl) rfl rfl rfl rfl ?_ ?_
                            · refine O_bs (T := 71) [I v44, I v45, I v46, I v47, S v48, .slice a32 v49.length c32] #[(0, .agg #[I v44, I v45, I v46, I v47, S v48, .slice a32 v49.length c32])] hst (by kernel_rfl) (by kernel_rfl) rfl fun p42 w hst => ?_
                              have hst := (hst.pull 8).dup
                              have hst := ((hst.pull 2).pull 1)
                              have hst := osl_of_blk (ecs := [[I v44, I v45, I v46, I v47, S v48, .slice a32 v49.length c32]]) r_T_glacierref09_State [(T_glacierref09_State.mk v44 v45 v46 v47 v48 v49)] rfl (fun m h => ⟨⟨((a32, c32)), rfl, h⟩, trivial⟩) rfl hst
                              refine ⟨((((((((((((((((hst.pull 15).pull 15).pull 15).pull 15).pull 15).pull 15).pull 15).pull 8).pull 15).pull 15).pull 15).pull 15).pull 15).pull 15).pull 15).cut 15 1), ?_⟩
                              refine Q_two (i := 3) (j := 5) (by kernel_rfl) rfl rfl rfl rfl ?_ ?_
                              · obtain ⟨hb13, hr⟩ := chk hr
                                refine O_app_o L75 ((hst.pull 8).pull 1) rfl rfl hb13 rfl fun a44 c44 w hst => ?_
                                refine ⟨((((((((((((((((hst.pull 15).pull 15).pull 15).pull 15).pull 15).pull 15).pull 15).pull 9).pull 9).pull 15).pull 15).pull 15).pull 15).pull 15).pull 15).cut 15 1), ?_⟩
                                refine Q_one (i := 5) (by kernel_rfl) rfl rfl (O_bs (T := 71) [I y39.2.1.Term, I y39.2.1.Vote, I y39.2.1.Base, I y39.2.1.BaseTerm, S y39.2.1.Snap, .slice a38 y39.1.length c38] #[(0, .agg #[I y39.2.1.Term, I y39.2.1.Vote, I y39.2.1.Base, I y39.2.1.BaseTerm, S y39.2.1.Snap, .slice a38 y39.1.length c38])] hst (by kernel_rfl) (by kernel_rfl) rfl fun p43 w hst => ?_)
                                have hst := (hst.pull 8).dup
                                have hst := ((hst.pull 2).pull 1)
                                have hst := osl_of_blk (ecs := [[I y39.2.1.Term, I y39.2.1.Vote, I y39.2.1.Base, I y39.2.1.BaseTerm, S y39.2.1.Snap, .slice a38 y39.1.length c38]]) r_T_glacierref09_State [(T_glacierref09_State.mk y39.2.1.Term y39.2.1.Vote y39.2.1.Base y39.2.1.BaseTerm y39.2.1.Snap y39.1)] rfl (fun m h => ⟨⟨((a38, c38)), rfl, h⟩, trivial⟩) rfl hst
                                refine ⟨((((((((((((((((hst.pull 16).pull 16).pull 16).pull 16).pull 16).pull 16).pull 16).pull 11).pull 11).pull 16).pull 11).pull 16).pull 16).pull 16).pull 16).cut 15 2), ?_⟩
                                obtain ⟨hb14, hr⟩ := chk hr
                                refine Q_one (i := 6) (by kernel_rfl) rfl rfl (O_app_o L75 (hst.pull 2) rfl rfl hb14 rfl fun a45 c45 w hst => ?_)
                                refine ⟨((((((((((((((((hst.pull 16).pull 16).pull 16).pull 16).pull 16).pull 16).pull 16).pull 11).pull 11).pull 16).pull 12).pull 16).pull 16).pull 16).pull 16).cut 15 2), ?_⟩
                                refine Q_take (i := 7) (v := .slice a45 ((([(T_glacierref09_State.mk v44 v45 v46 v47 v48 v49)]) ++ y39.2.2) ++ ([(T_glacierref09_State.mk y39.2.1.Term y39.2.1.Vote y39.2.1.Base y39.2.1.BaseTerm y39.2.1.Snap y39.1)])).length c45) rfl (by kernel_rfl) (fun _ _ _ h => h) rfl rfl rfl (fun _ _ => R_pure (by kernel_rfl)) ((((((((((((((((hst.pull 16).pull 16).pull 16).pull 16).pull 16).pull 16).pull 16).pull 11).pull 11).pull 16).pull 12).pull 16).pull 16).pull 16).pull 16).cut 15 2) ?_
                                refine wpG_done (by kernel_rfl) ?_ _
                                refine C_keepQ [(0, .slice a1 x1.length c1), (3, pt p30 0), (4, pt p32 0), (5, .slice a45 ((([(T_glacierref09_State.mk v44 v45 v46 v47 v48 v49)]) ++ y39.2.2) ++ ([(T_glacierref09_State.mk y39.2.1.Term y39.2.1.Vote y39.2.1.Base y39.2.1.BaseTerm y39.2.1.Snap y39.1)])).length c45), (6, .bool true), (7, I v43)] rfl fun b => ?_
                                refine ib_n (th_n ?_)
                                obtain rfl := Option.some.inj hr
                                have hst := (hst.pull 4).dup
                                have hst := (((((((((hst.pull 7).pull 7).pull 17).pull 17).pull 4).pull 16).pull 6).pull 7).cut 8 10)
                                exact ⟨(((([(T_glacierref09_State.mk v44 v45 v46 v47 v48 v49)]) ++ y39.2.2) ++ ([(T_glacierref09_State.mk y39.2.1.Term y39.2.1.Vote y39.2.1.Base y39.2.1.BaseTerm y39.2.1.Snap y39.1)])), true, v44, v45, v46, v47, v48, v49, y42.2.1, y42.2.2.1, y42.2.2.2), a45, c45, a32, c32, (kpXf [(0, .slice a1 x1.length c1), (3, pt p30 0), (4, pt p32 0), (5, .slice a45 ((([(T_glacierref09_State.mk v44 v45 v46 v47 v48 v49)]) ++ y39.2.2) ++ ([(T_glacierref09_State.mk y39.2.1.Term y39.2.1.Vote y39.2.1.Base y39.2.1.BaseTerm y39.2.1.Snap y39.1)])).length c45), (6, .bool true), (7, I v43)] rfl hst)⟩
                              · refine O_bs (T := 71) [I y39.2.1.Term, I y39.2.1.Vote, I y39.2.1.Base, I y39.2.1.BaseTerm, S y39.2.1.Snap, .slice a38 y39.1.length c38] #[(0, .agg #[I y39.2.1.Term, I y39.2.1.Vote, I y39.2.1.Base, I y39.2.1.BaseTerm, S y39.2.1.Snap, .slice a38 y39.1.length c38])] hst (by kernel_rfl) (by kernel_rfl) rfl fun p43 w hst => ?_
                                have hst := (hst.pull 7).dup
                                have hst := ((hst.pull 2).pull 1)
                                have hst := osl_of_blk (ecs := [[I y39.2.1.Term, I y39.2.1.Vote, I y39.2.1.Base, I y39.2.1.BaseTerm, S y39.2.1.Snap, .slice a38 y39.1.length c38]]) r_T_glacierref09_State [(T_glacierref09_State.mk y39.2.1.Term y39.2.1.Vote y39.2.1.Base y39.2.1.BaseTerm y39.2.1.Snap y39.1)] rfl (fun m h => ⟨⟨((a38, c38)), rfl, h⟩, trivial⟩) rfl hst
                                refine ⟨((((((((((((((((hst.pull 16).pull 16).pull 16).pull 16).pull 16).pull 16).pull 16).pull 10).pull 16).pull 16).pull 11).pull 16).pull 16).pull 16).pull 16).cut 15 2), ?_⟩
                                obtain ⟨hb13, hr⟩ := chk hr
                                refine Q_one (i := 3) (by kernel_rfl) rfl rfl (O_app_o L75 ((hst.pull 9).pull 3) rfl rfl hb13 rfl fun a44 c44 w hst => ?_)
                                refine ⟨((((((((((((((((hst.pull 16).pull 16).pull 16).pull 16).pull 16).pull 16).pull 16).pull 11).pull 9).pull 16).pull 12).pull 16).pull 16).pull 16).pull 16).cut 15 2), ?_⟩
                                obtain ⟨hb14, hr⟩ := chk hr
                                refine Q_one (i := 6) (by kernel_rfl) rfl rfl (O_app_o L75 ((hst.pull 2).pull 1) rfl rfl hb14 rfl fun a45 c45 w hst => ?_)
                                refine ⟨((((((((((((((((hst.pull 16).pull 16).pull 16).pull 16).pull 16).pull 16).pull 16).pull 11).pull 10).pull 16).pull 12).pull 16).pull 16).pull 16).pull 16).cut 15 2), ?_⟩
                                refine Q_take (i := 7) (v := .slice a45 ((([(T_glacierref09_State.mk v44 v45 v46 v47 v48 v49)]) ++ y39.2.2) ++ ([(T_glacierref09_State.mk y39.2.1.Term y39.2.1.Vote y39.2.1.Base y39.2.1.BaseTerm y39.2.1.Snap y39.1)])).length c45) rfl (by kernel_rfl) (fun _ _ _ h => h) rfl rfl rfl (fun _ _ => R_pure (by kernel_rfl)) ((((((((((((((((hst.pull 16).pull 16).pull 16).pull 16).pull 16).pull 16).pull 16).pull 11).pull 10).pull 16).pull 12).pull 16).pull 16).pull 16).pull 16).cut 15 2) ?_
                                refine wpG_done (by kernel_rfl) ?_ _
                                refine C_keepQ [(0, .slice a1 x1.length c1), (3, pt p30 0), (4, pt p32 0), (5, .slice a45 ((([(T_glacierref09_State.mk v44 v45 v46 v47 v48 v49)]) ++ y39.2.2) ++ ([(T_glacierref09_State.mk y39.2.1.Term y39.2.1.Vote y39.2.1.Base y39.2.1.BaseTerm y39.2.1.Snap y39.1)])).length c45), (6, .bool true), (7, I v43)] rfl fun b => ?_
                                refine ib_n (th_n ?_)
                                obtain rfl := Option.some.inj hr
                                have hst := (hst.pull 4).dup
                                have hst := (((((((((hst.pull 7).pull 7).pull 17).pull 17).pull 4).pull 16).pull 6).pull 7).cut 8 10)
                                exact ⟨(((([(T_glacierref09_State.mk v44 v45 v46 v47 v48 v49)]) ++ y39.2.2) ++ ([(T_glacierref09_State.mk y39.2.1.Term y39.2.1.Vote y39.2.1.Base y39.2.1.BaseTerm y39.2.1.Snap y39.1)])), true, v44, v45, v46, v47, v48, v49, y42.2.1, y42.2.2.1, y42.2.2.2), a45, c45, a32, c32, (kpXf [(0, .slice a1 x1.length c1), (3, pt p30 0), (4, pt p32 0), (5, .slice a45 ((([(T_glacierref09_State.mk v44 v45 v46 v47 v48 v49)]) ++ y39.2.2) ++ ([(T_glacierref09_State.mk y39.2.1.Term y39.2.1.Vote y39.2.1.Base y39.2.1.BaseTerm y39.2.1.Snap y39.1)])).length c45), (6, .bool true), (7, I v43)] rfl hst)⟩
                            · refine O_bs (T := 71) [I y39.2.1.Term, I y39.2.1.Vote, I y39.2.1.Base, I y39.2.1.BaseTerm, S y39.2.1.Snap, .slice a38 y39.1.length c38] #[(0, .agg #[I y39.2.1.Term, I y39.2.1.Vote, I y39.2.1.Base, I y39.2.1.BaseTerm, S y39.2.1.Snap, .slice a38 y39.1.length c38])] hst (by kernel_rfl) (by kernel_rfl) rfl fun p42 w hst => ?_
                              have hst := (hst.pull 5).dup
                              have hst := ((hst.pull 2).pull 1)
                              have hst := osl_of_blk (ecs := [[I y39.2.1.Term, I y39.2.1.Vote, I y39.2.1.Base, I y39.2.1.BaseTerm, S y39.2.1.Snap, .slice a38 y39.1.length c38]]) r_T_glacierref09_State [(T_glacierref09_State.mk y39.2.1.Term y39.2.1.Vote y39.2.1.Base y39.2.1.BaseTerm y39.2.1.Snap y39.1)] rfl (fun m h => ⟨⟨((a38, c38)), rfl, h⟩, trivial⟩) rfl hst
                              refine ⟨((((((((((((((((hst.pull 15).pull 15).pull 15).pull 15).pull 15).pull 15).pull 15).pull 15).pull 15).pull 15).pull 11).pull 15).pull 15).pull 15).pull 15).cut 15 1), ?_⟩
                              refine Q_one (i := 1) (by kernel_rfl) rfl rfl (O_bs (T := 71) [I v44, I v45, I v46, I v47, S v48, .slice a32 v49.length c32] #[(0, .agg #[I v44, I v45, I v46, I v47, S v48, .slice a32 v49.length c32])] hst (by kernel_rfl) (by kernel_rfl) rfl fun p43 w hst => ?_)
                              have hst := (hst.pull 9).dup
                              have hst := ((hst.pull 2).pull 1)
                              have hst := osl_of_blk (ecs := [[I v44, I v45, I v46, I v47, S v48, .slice a32 v49.length c32]]) r_T_glacierref09_State [(T_glacierref09_State.mk v44 v45 v46 v47 v48 v49)] rfl (fun m h => ⟨⟨((a32, c32)), rfl, h⟩, trivial⟩) rfl hst
                              refine ⟨((((((((((((((((hst.pull 16).pull 16).pull 16).pull 16).pull 16).pull 16).pull 16).pull 8).pull 16).pull 16).pull 12).pull 16).pull 16).pull 16).pull 16).cut 15 2), ?_⟩
                              obtain ⟨hb13, hr⟩ := chk hr
                              refine Q_one (i := 3) (by kernel_rfl) rfl rfl (O_app_o L75 ((hst.pull 9).pull 1) rfl rfl hb13 rfl fun a44 c44 w hst => ?_)
                              refine ⟨((((((((((((((((hst.pull 16).pull 16).pull 16).pull 16).pull 16).pull 16).pull 16).pull 9).pull 9).pull 16).pull 12).pull 16).pull 16).pull 16).pull 16).cut 15 2), ?_⟩
                              obtain ⟨hb14, hr⟩ := chk hr
                              refine Q_one (i := 6) (by kernel_rfl) rfl rfl (O_app_o L75 ((hst.pull 3).pull 1) rfl rfl hb14 rfl fun a45 c45 w hst => ?_)
                              refine ⟨((((((((((((((((hst.pull 16).pull 16).pull 16).pull 16).pull 16).pull 16).pull 16).pull 10).pull 10).pull 16).pull 12).pull 16).pull 16).pull 16).pull 16).cut 15 2), ?_⟩
                              refine Q_take (i := 7) (v := .slice a45 ((([(T_glacierref09_State.mk v44 v45 v46 v47 v48 v49)]) ++ y39.2.2) ++ ([(T_glacierref09_State.mk y39.2.1.Term y39.2.1.Vote y39.2.1.Base y39.2.1.BaseTerm y39.2.1.Snap y39.1)])).length c45) rfl (by kernel_rfl) (fun _ _ _ h => h) rfl rfl rfl (fun _ _ => R_pure (by kernel_rfl)) ((((((((((((((((hst.pull 16).pull 16).pull 16).pull 16).pull 16).pull 16).pull 16).pull 10).pull 10).pull 16).pull 12).pull 16).pull 16).pull 16).pull 16).cut 15 2) ?_
                              refine wpG_done (by kernel_rfl) ?_ _
                              refine C_keepQ [(0, .slice a1 x1.length c1), (3, pt p30 0), (4, pt p32 0), (5, .slice a45 ((([(T_glacierref09_State.mk v44 v45 v46 v47 v48 v49)]) ++ y39.2.2) ++ ([(T_glacierref09_State.mk y39.2.1.Term y39.2.1.Vote y39.2.1.Base y39.2.1.BaseTerm y39.2.1.Snap y39.1)])).length c45), (6, .bool true), (7, I v43)] rfl fun b => ?_
                              refine ib_n (th_n ?_)
                              obtain rfl := Option.some.inj hr
                              have hst := (hst.pull 3).dup
                              have hst := (((((((((hst.pull 7).pull 7).pull 17).pull 17).pull 4).pull 16).pull 6).pull 7).cut 8 10)
                              exact ⟨(((([(T_glacierref09_State.mk v44 v45 v46 v47 v48 v49)]) ++ y39.2.2) ++ ([(T_glacierref09_State.mk y39.2.1.Term y39.2.1.Vote y39.2.1.Base y39.2.1.BaseTerm y39.2.1.Snap y39.1)])), true, v44, v45, v46, v47, v48, v49, y42.2.1, y42.2.2.1, y42.2.2.2), a45, c45, a32, c32, (kpXf [(0, .slice a1 x1.length c1), (3, pt p30 0), (4, pt p32 0), (5, .slice a45 ((([(T_glacierref09_State.mk v44 v45 v46 v47 v48 v49)]) ++ y39.2.2) ++ ([(T_glacierref09_State.mk y39.2.1.Term y39.2.1.Vote y39.2.1.Base y39.2.1.BaseTerm y39.2.1.Snap y39.1)])).length c45), (6, .bool true), (7, I v43)] rfl hst)⟩
                      · have hr := (if_neg (by rw [h]; exact Bool.false_ne_true)).symm.trans hr
                        refine wp_seq ?_
                        refine wp_reg ?_
                        refine L_pure 2 [(0, .slice a1 x1.length c1), (3, pt p30 0), (4, pt p32 0), (5, .slice a31 v41.length c31), (6, .bool v42), (7, I v43), (8, pt p34 0), (10, pt p35 0), (11, .slice a39 y39.2.2.length c39), (64, I x5.Kind), (84, .bool (x5.Kind == 3))] (by kernel_rfl) fun b => ?_
                        refine wpL_nil ?_
                        refine th_n ?_
                        refine wp_cond_mkF (t := (x5.Kind == 3)) rfl (fun h => ?_) (fun h => ?_)
                        · have hr := (if_pos h).symm.trans hr
                          refine wp_reg ?_
                          refine L_pure 2 [(0, .slice a1 x1.length c1), (3, pt p30 0), (4, pt p32 0), (6, .bool v42), (7, I v43), (10, pt p35 0), (11, .slice a39 y39.2.2.length c39), (86, pt p30 0), (87, pt p35 5)] (by kernel_rfl) fun b => ?_
                          refine L_op rfl (O_run (v := .slice a38 y39.1.length c38) (w' := w) (R_load hst rfl rfl) rfl rfl ?_)
                          obtain ⟨y43, hy43, hr⟩ := bnd hr
                          refine L_op rfl (O_call (vs := #[.slice a38 y39.1.length c38]) Try.call36 (by kernel_rfl) (glacierlaw09_entries_ok k y39.1 a38 c38 y43 (hst.pull 1) hy43 fun a46 c46 w hst => ?_))
                          refine CK_ret rfl ?_
                          obtain ⟨y44, hy44, hr⟩ := bnd hr
                          have hst := osl_freeze hst
                          refine L_op rfl (O_call (vs := #[pt p30 0, .slice a46 y43.length c46]) Try.call37 (by kernel_rfl) (term_Rewrite_ok k y32.1 v50 y32.2.2.1 v51 v52 y43 p30 p31 a46 c46 y44 ((hst.pull 13).pull 13) hy44 fun w hst => ?_))
                          refine CK_ret rfl ?_
                          refine L_pure 1 [(0, .slice a1 x1.length c1), (3, pt p30 0), (4, pt p32 0), (6, .bool v42), (7, I v43), (9, I y44.1), (10, pt p35 0), (11, .slice a39 y39.2.2.length c39)] (by kernel_rfl) fun b => ?_
                          refine wpL_nil ?_
                          refine ib_n (th_n ?_)
                          refine wp_seq ?_
                          refine wp_seq ?_
                          refine wp_reg ?_
                          refine L_pure 2 [(0, .slice a1 x1.length c1), (3, pt p30 0), (4, pt p32 0), (6, .bool v42), (7, I v43), (9, I y44.1), (10, pt p35 0), (11, .slice a39 y39.2.2.length c39), (151, .bool (y44.1 == 0))] (by kernel_rfl) fun b => ?_
                          refine wpL_nil ?_
                          refine th_n ?_
                          refine wp_cond_mkF (t := (y44.1 == 0)) rfl (fun h => ?_) (fun h => ?_)
                          · have hr := (if_pos h).symm.trans hr
                            refine wp_seq ?_
                            refine wp_reg ?_
                            refine L_op rfl (O_run (v := .agg #[I y39.2.1.Term, I y39.2.1.Vote, I y39.2.1.Base, I y39.2.1.BaseTerm, S y39.2.1.Snap, .slice a38 y39.1.length c38]) (w' := w) (R_load (hst.pull 4) rfl rfl) rfl rfl ?_)
                            refine L_op rfl (O_store [I y39.2.1.Term, I y39.2.1.Vote, I y39.2.1.Base, I y39.2.1.BaseTerm, S y39.2.1.Snap, .slice a38 y39.1.length c38] (hst.pull 13) rfl rfl (by kernel_rfl) fun w hst => ?_)
                            refine wpL_nil ?_
                            refine th_n ?_
                            refine wp_seq ?_
                            refine wp_reg ?_
                            refine L_op rfl (O_run (v := .agg #[I y39.2.1.Term, I y39.2.1.Vote, I y39.2.1.Base, I y39.2.1.BaseTerm, S y39.2.1.Snap, .slice a38 y39.1.length c38]) (w' := w) (R_load (hst.pull 5) rfl rfl) rfl rfl ?_)
                            refine L_op rfl (O_bs (T := 71) [I y39.2.1.Term, I y39.2.1.Vote, I y39.2.1.Base, I y39.2.1.BaseTerm, S y39.2.1.Snap, .slice a38 y39.1.length c38] #[(0, .agg #[I y39.2.1.Term, I y39.2.1.Vote, I y39.2.1.Base, I y39.2.1.BaseTerm, S y39.2.1.Snap, .slice a38 y39.1.length c38])] hst (by kernel_rfl) (by kernel_rfl) rfl fun p44 w hst => ?_)
                            have hst := (hst.pull 5).dup
                            have hst := ((hst.pull 2).pull 1)
                            have hst := osl_of_blk (ecs := [[I y39.2.1.Term, I y39.2.1.Vote, I y39.2.1.Base, I y39.2.1.BaseTerm, S y39.2.1.Snap, .slice a38 y39.1.length c38]]) r_T_glacierref09_State [(T_glacierref09_State.mk y39.2.1.Term y39.2.1.Vote y39.2.1.Base y39.2.1.BaseTerm y39.2.1.Snap y39.1)] rfl (fun m h => ⟨⟨((a38, c38)), rfl, h⟩, trivial⟩) rfl hst
                            refine L_pure 1 [(0, .slice a1 x1.length c1), (3, pt p30 0), (4, pt p32 0), (5, .slice (some ⟨p44, 0, none⟩) ([(T_glacierref09_State.mk y39.2.1.Term y39.2.1.Vote y39.2.1.Base y39.2.1.BaseTerm y39.2.1.Snap y39.1)]).length 1), (6, .bool v42), (7, I v43)] (by kernel_rfl) fun b => ?_
                            refine wpL_nil ?_
                            refine th_n ?_
                            refine wp_exit ?_
                            refine th_x (ib_x (th_n ?_))
                            obtain rfl := Option.some.inj hr
                            have hst := (((((((((hst.pull 4).pull 4).pull 4).pull 14).pull 9).pull 13).pull 7).pull 7).cut 8 7)
                            exact ⟨([(T_glacierref09_State.mk y39.2.1.Term y39.2.1.Vote y39.2.1.Base y39.2.1.BaseTerm y39.2.1.Snap y39.1)], v42, y39.2.1.Term, y39.2.1.Vote, y39.2.1.Base, y39.2.1.BaseTerm, y39.2.1.Snap, y39.1, y44.2.1, y44.2.2.1, y44.2.2.2), (some ⟨p44, 0, none⟩), 1, a38, c38, (kpXf [(0, .slice a1 x1.length c1), (3, pt p30 0), (4, pt p32 0), (5, .slice (some ⟨p44, 0, none⟩) ([(T_glacierref09_State.mk y39.2.1.Term y39.2.1.Vote y39.2.1.Base y39.2.1.BaseTerm y39.2.1.Snap y39.1)]).length 1), (6, .bool v42), (7, I v43)] rfl hst)⟩
                          · have hr := (if_neg (by rw [h]; exact Bool.false_ne_true)).symm.trans hr
                            refine wp_skip ?_
                            refine th_n ?_
                            refine wp_seq ?_
                            refine wp_seq ?_
                            refine wp_reg ?_
                            refine L_pure 2 [(0, .slice a1 x1.length c1), (3, pt p30 0), (4, pt p32 0), (7, I v43), (10, pt p35 0), (11, .slice a39 y39.2.2.length c39), (156, .bool (y44.1 != 8))] (by kernel_rfl) fun b => ?_
                            refine wpL_nil ?_
                            refine th_n ?_
                            refine wp_cond_mkF (t := (y44.1 != 8)) rfl (fun h => ?_) (fun h => ?_)
                            · have hr := (if_pos h).symm.trans hr
                              refine wp_seq ?_
                              refine wp_reg ?_
                              refine L_pure 1 [(2, .bool false)] (by kernel_rfl) fun b => ?_
                              refine wpL_nil ?_
                              refine th_n ?_
                              refine wp_ret ?_
                              refine th_r (ib_r (th_r (th_r (ib_r (th_r (th_r ?_))))))
                              refine ret1 rfl rfl ?_
                              obtain rfl := Option.some.inj hr
                              obtain rfl := Option.some.inj hk11
                              obtain rfl := Option.some.inj hk9
                              have hst := ((hst.pull 10).cut 1 13)
                              exact hR _ hst
                            · have hr := (if_neg (by rw [h]; exact Bool.false_ne_true)).symm.trans hr
                              refine wp_skip ?_
                              refine th_n ?_
                              refine wp_seq ?_
                              refine wp_reg ?_
                              refine L_pure 1 [(0, .slice a1 x1.length c1), (3, pt p30 0), (4, pt p32 0), (6, .bool true), (7, I v43), (10, pt p35 0), (11, .slice a39 y39.2.2.length c39)] (by kernel_rfl) fun b => ?_
                              refine wpL_nil ?_
                              refine th_n ?_
                              refine wp_regG (SQ (fun w => St G w (blk p30 (cl [I y32.1, I y44.2.1, .bool y32.2.2.1, I y44.2.2.1, .map (some p31)] 42) :: mpr S (rPt r_T_platter_file) p31 y44.2.2.2 :: dsl r_T_term_Entry a46 c46 y43 :: dsl r_T_glacierref09_Entry a38 c38 y39.1 :: blk p35 (cl [I y39.2.1.Term, I y39.2.1.Vote, I y39.2.1.Base, I y39.2.1.BaseTerm, S y39.2.1.Snap, .slice a38 y39.1.length c38] 71) :: osl r_T_glacierref09_State 71 a39 c39 y39.2.2 :: dsl r_T_glacierref09_Entry a32 c32 v49 :: dsl rS q3.1.1 q3.1.2 x5.Texts :: dsl (rI .i64) q3.2.1 q3.2.2 x5.Choice :: blk p34 (cl [I x5.Kind, I (mn2 (mx2 x5.N 0) 1000), I (mn2 (mx2 x5.M 0) 5), S x5.S, .slice q3.1.1 x5.Texts.length q3.1.2, .slice q3.2.1 x5.Choice.length q3.2.2] 77) :: dsl r_T_glacierlaw09_Act a1 c1 x1 :: osl r_T_glacierref09_State 71 a31 c31 v41 :: dsl r_T_glacierref09_Entry none 0 ([]) :: blk p32 (cl [I v44, I v45, I v46, I v47, S v48, .slice a32 v49.length c32] 71) :: F))) rfl ?_
                              have hst := hst.draw (n := w.drawn + 1)
                              generalize { w with drawn := w.drawn + 1 } = w at hst ⊢
                              refine Q_take (i := 0) (v := .agg #[I v44, I v45, I v46, I v47, S v48, .slice a32 v49.length c32]) rfl (by kernel_rfl) (fun _ _ _ h => h) rfl rfl rfl (fun w hst => R_load (hst.pull 13) rfl rfl) ((((((((((((((hst.pull 13).pull 13).pull 13).pull 13).pull 13).pull 13).pull 13).pull 13).pull 13).pull 13).pull 13).pull 13).pull 13).pull 13) ?_
                              refine Q_take (i := 2) (v := .slice a39 y39.2.2.length c39) rfl (by kernel_rfl) (fun _ _ _ h => h) rfl rfl rfl (fun _ _ => R_pure (by kernel_rfl)) ((((((((((((((hst.pull 13).pull 13).pull 13).pull 13).pull 13).pull 13).pull 13).pull 13).pull 13).pull 13).pull 13).pull 13).pull 13).pull 13) ?_
                              refine Q_take (i := 4) (v := .agg #[I y39.2.1.Term, I y39.2.1.Vote, I y39.2.1.Base, I y39.2.1.BaseTerm, S y39.2.1.Snap, .slice a38 y39.1.length c38]) rfl (by kernel_rfl) (fun _ _ _ h => h) rfl rfl rfl (fun w hst => R_load (hst.pull 4) rfl rfl) ((((((((((((((hst.pull 13).pull 13).pull 13).pull 13).pull 13).pull 13).pull 13).pull 13).pull 13).pull 13).pull 13).pull 13).pull 13).pull 13) ?_
                              refine Q_two (i := 1) (j := 5) (by kernel_rfl) rfl rfl rfl rfl ?_ ?_
                              · refine O_bs (T := 71) [I v44, I v45, I v46, I v47, S v48, .slice a32 v49.length c32] #[(0, .agg #[I v44, I v45, I v46, I v47, S v48, .slice a32 v49.length c32])] hst (by kernel_rfl) (by kernel_rfl) rfl fun p46 w hst => ?_
                                have hst := (hst.pull 7).dup
                                have hst := ((hst.pull 2).pull 1)
                                have hst := osl_of_blk (ecs := [[I v44, I v45, I v46, I v47, S v48, .slice a32 v49.length c32]]) r_T_glacierref09_State [(T_glacierref09_State.mk v44 v45 v46 v47 v48 v49)] rfl (fun m h => ⟨⟨((a32, c32)), rfl, h⟩, trivial⟩) rfl hst
                                refine ⟨(((((((((((((((hst.pull 14).pull 14).pull 14).pull 14).pull 14).pull 14).pull 14).pull 8).pull 14).pull 14).pull 14).pull 14).pull 14).pull 14).cut 14 1), ?_⟩
                                refine Q_two (i := 3) (j := 5) (by kernel_rfl) rfl rfl rfl rfl ?_ ?_
                                · obtain ⟨hb15, hr⟩ := chk hr
                                  refine O_app_o L75 ((hst.pull 7).pull 1) rfl rfl hb15 rfl fun a47 c47 w hst => ?_
                                  refine ⟨(((((((((((((((hst.pull 14).pull 14).pull 14).pull 14).pull 14).pull 14).pull 14).pull 9).pull 9).pull 14).pull 14).pull 14).pull 14).pull 14).cut 14 1), ?_⟩
                                  refine Q_one (i := 5) (by kernel_rfl) rfl rfl (O_bs (T := 71) [I y39.2.1.Term, I y39.2.1.Vote, I y39.2.1.Base, I y39.2.1.BaseTerm, S y39.2.1.Snap, .slice a38 y39.1.length c38] #[(0, .agg #[I y39.2.1.Term, I y39.2.1.Vote, I y39.2.1.Base, I y39.2.1.BaseTerm, S y39.2.1.Snap, .slice a38 y39.1.length c38])] hst (by kernel_rfl) (by kernel_rfl) rfl fun p47 w hst => ?_)
                                  have hst := (hst.pull 7).dup
                                  have hst := ((hst.pull 2).pull 1)
                                  have hst := osl_of_blk (ecs := [[I y39.2.1.Term, I y39.2.1.Vote, I y39.2.1.Base, I y39.2.1.BaseTerm, S y39.2.1.Snap, .slice a38 y39.1.length c38]]) r_T_glacierref09_State [(T_glacierref09_State.mk y39.2.1.Term y39.2.1.Vote y39.2.1.Base y39.2.1.BaseTerm y39.2.1.Snap y39.1)] rfl (fun m h => ⟨⟨((a38, c38)), rfl, h⟩, trivial⟩) rfl hst
                                  refine ⟨(((((((((((((((hst.pull 15).pull 15).pull 15).pull 15).pull 15).pull 15).pull 15).pull 11).pull 11).pull 15).pull 11).pull 15).pull 15).pull 15).cut 14 2), ?_⟩
                                  obtain ⟨hb16, hr⟩ := chk hr
                                  refine Q_one (i := 6) (by kernel_rfl) rfl rfl (O_app_o L75 (hst.pull 2) rfl rfl hb16 rfl fun a48 c48 w hst => ?_)
                                  refine ⟨(((((((((((((((hst.pull 15).pull 15).pull 15).pull 15).pull 15).pull 15).pull 15).pull 11).pull 11).pull 15).pull 12).pull 15).pull 15).pull 15).cut 14 2), ?_⟩
                                  refine Q_take (i := 7) (v := .slice a48 ((([(T_glacierref09_State.mk v44 v45 v46 v47 v48 v49)]) ++ y39.2.2) ++ ([(T_glacierref09_State.mk y39.2.1.Term y39.2.1.Vote y39.2.1.Base y39.2.1.BaseTerm y39.2.1.Snap y39.1)])).length c48) rfl (by kernel_rfl) (fun _ _ _ h => h) rfl rfl rfl (fun _ _ => R_pure (by kernel_rfl)) (((((((((((((((hst.pull 15).pull 15).pull 15).pull 15).pull 15).pull 15).pull 15).pull 11).pull 11).pull 15).pull 12).pull 15).pull 15).pull 15).cut 14 2) ?_
                                  refine wpG_done (by kernel_rfl) ?_ _
                                  refine C_keepQ [(0, .slice a1 x1.length c1), (3, pt p30 0), (4, pt p32 0), (5, .slice a48 ((([(T_glacierref09_State.mk v44 v45 v46 v47 v48 v49)]) ++ y39.2.2) ++ ([(T_glacierref09_State.mk y39.2.1.Term y39.2.1.Vote y39.2.1.Base y39.2.1.BaseTerm y39.2.1.Snap y39.1)])).length c48), (6, .bool true), (7, I v43)] rfl fun b => ?_
                                  refine ib_n (th_n ?_)
                                  obtain rfl := Option.some.inj hr
                                  have hst := (hst.pull 4).dup
                                  have hst := (((((((((hst.pull 7).pull 7).pull 16).pull 16).pull 4).pull 15).pull 6).pull 7).cut 8 9)
                                  exact ⟨(((([(T_glacierref09_State.mk v44 v45 v46 v47 v48 v49)]) ++ y39.2.2) ++ ([(T_glacierref09_State.mk y39.2.1.Term y39.2.1.Vote y39.2.1.Base y39.2.1.BaseTerm y39.2.1.Snap y39.1)])), true, v44, v45, v46, v47, v48, v49, y44.2.1, y44.2.2.1, y44.2.2.2), a48, c48, a32, c32, (kpXf [(0, .slice a1 x1.length c1), (3, pt p30 0), (4, pt p32 0), (5, .slice a48 ((([(T_glacierref09_State.mk v44 v45 v46 v47 v48 v49)]) ++ y39.2.2) ++ ([(T_glacierref09_State.mk y39.2.1.Term y39.2.1.Vote y39.2.1.Base y39.2.1.BaseTerm y39.2.1.Snap y39.1)])).length c48), (6, .bool true), (7, I v43)] rfl hst)⟩
                                · refine O_bs (T := 71) [I y39.2.1.Term, I y39.2.1.Vote, I y39.2.1.Base, I y39.2.1.BaseTerm, S y39.2.1.Snap, .slice a38 y39.1.length c38] #[(0, .agg #[I y39.2.1.Term, I y39.2.1.Vote, I y39.2.1.Base, I y39.2.1.BaseTerm, S y39.2.1.Snap, .slice a38 y39.1.length c38])] hst (by kernel_rfl) (by kernel_rfl) rfl fun p47 w hst => ?_
                                  have hst := (hst.pull 6).dup
                                  have hst := ((hst.pull 2).pull 1)
                                  have hst := osl_of_blk (ecs := [[I y39.2.1.Term, I y39.2.1.Vote, I y39.2.1.Base, I y39.2.1.BaseTerm, S y39.2.1.Snap, .slice a38 y39.1.length c38]]) r_T_glacierref09_State [(T_glacierref09_State.mk y39.2.1.Term y39.2.1.Vote y39.2.1.Base y39.2.1.BaseTerm y39.2.1.Snap y39.1)] rfl (fun m h => ⟨⟨((a38, c38)), rfl, h⟩, trivial⟩) rfl hst
                                  refine ⟨(((((((((((((((hst.pull 15).pull 15).pull 15).pull 15).pull 15).pull 15).pull 15).pull 10).pull 15).pull 15).pull 11).pull 15).pull 15).pull 15).cut 14 2), ?_⟩
                                  obtain ⟨hb15, hr⟩ := chk hr
                                  refine Q_one (i := 3) (by kernel_rfl) rfl rfl (O_app_o L75 ((hst.pull 8).pull 3) rfl rfl hb15 rfl fun a47 c47 w hst => ?_)
                                  refine ⟨(((((((((((((((hst.pull 15).pull 15).pull 15).pull 15).pull 15).pull 15).pull 15).pull 11).pull 9).pull 15).pull 12).pull 15).pull 15).pull 15).cut 14 2), ?_⟩
                                  obtain ⟨hb16, hr⟩ := chk hr
                                  refine Q_one (i := 6) (by kernel_rfl) rfl rfl (O_app_o L75 ((hst.pull 2).pull 1) rfl rfl hb16 rfl fun a48 c48 w hst => ?_)
                                  refine ⟨(((((((((((((((hst.pull 15).pull 15).pull 15).pull 15).pull 15).pull 15).pull 15).pull 11).pull 10).pull 15).pull 12).pull 15).pull 15).pull 15).cut 14 2), ?_⟩
                                  refine Q_take (i := 7) (v := .slice a48 ((([(T_glacierref09_State.mk v44 v45 v46 v47 v48 v49)]) ++ y39.2.2) ++ ([(T_glacierref09_State.mk y39.2.1.Term y39.2.1.Vote y39.2.1.Base y39.2.1.BaseTerm y39.2.1.Snap y39.1)])).length c48) rfl (by kernel_rfl) (fun _ _ _ h => h) rfl rfl rfl (fun _ _ => R_pure (by kernel_rfl)) (((((((((((((((hst.pull 15).pull 15).pull 15).pull 15).pull 15).pull 15).pull 15).pull 11).pull 10).pull 15).pull 12).pull 15).pull 15).pull 15).cut 14 2) ?_
                                  refine wpG_done (by kernel_rfl) ?_ _
                                  refine C_keepQ [(0, .slice a1 x1.length c1), (3, pt p30 0), (4, pt p32 0), (5, .slice a48 ((([(T_glacierref09_State.mk v44 v45 v46 v47 v48 v49)]) ++ y39.2.2) ++ ([(T_glacierref09_State.mk y39.2.1.Term y39.2.1.Vote y39.2.1.Base y39.2.1.BaseTerm y39.2.1.Snap y39.1)])).length c48), (6, .bool true), (7, I v43)] rfl fun b => ?_
                                  refine ib_n (th_n ?_)
                                  obtain rfl := Option.some.inj hr
                                  have hst := (hst.pull 4).dup
                                  have hst := (((((((((hst.pull 7).pull 7).pull 16).pull 16).pull 4).pull 15).pull 6).pull 7).cut 8 9)
                                  exact ⟨(((([(T_glacierref09_State.mk v44 v45 v46 v47 v48 v49)]) ++ y39.2.2) ++ ([(T_glacierref09_State.mk y39.2.1.Term y39.2.1.Vote y39.2.1.Base y39.2.1.BaseTerm y39.2.1.Snap y39.1)])), true, v44, v45, v46, v47, v48, v49, y44.2.1, y44.2.2.1, y44.2.2.2), a48, c48, a32, c32, (kpXf [(0, .slice a1 x1.length c1), (3, pt p30 0), (4, pt p32 0), (5, .slice a48 ((([(T_glacierref09_State.mk v44 v45 v46 v47 v48 v49)]) ++ y39.2.2) ++ ([(T_glacierref09_State.mk y39.2.1.Term y39.2.1.Vote y39.2.1.Base y39.2.1.BaseTerm y39.2.1.Snap y39.1)])).length c48), (6, .bool true), (7, I v43)] rfl hst)⟩
                              · refine O_bs (T := 71) [I y39.2.1.Term, I y39.2.1.Vote, I y39.2.1.Base, I y39.2.1.BaseTerm, S y39.2.1.Snap, .slice a38 y39.1.length c38] #[(0, .agg #[I y39.2.1.Term, I y39.2.1.Vote, I y39.2.1.Base, I y39.2.1.BaseTerm, S y39.2.1.Snap, .slice a38 y39.1.length c38])] hst (by kernel_rfl) (by kernel_rfl) rfl fun p46 w hst => ?_
                                have hst := (hst.pull 4).dup
                                have hst := ((hst.pull 2).pull 1)
                                have hst := osl_of_blk (ecs := [[I y39.2.1.Term, I y39.2.1.Vote, I y39.2.1.Base, I y39.2.1.BaseTerm, S y39.2.1.Snap, .slice a38 y39.1.length c38]]) r_T_glacierref09_State [(T_glacierref09_State.mk y39.2.1.Term y39.2.1.Vote y39.2.1.Base y39.2.1.BaseTerm y39.2.1.Snap y39.1)] rfl (fun m h => ⟨⟨((a38, c38)), rfl, h⟩, trivial⟩) rfl hst
                                refine ⟨(((((((((((((((hst.pull 14).pull 14).pull 14).pull 14).pull 14).pull 14).pull 14).pull 14).pull 14).pull 14).pull 11).pull 14).pull 14).pull 14).cut 14 1), ?_⟩
                                refine Q_one (i := 1) (by kernel_rfl) rfl rfl (O_bs (T := 71) [I v44, I v45, I v46, I v47, S v48, .slice a32 v49.length c32] #[(0, .agg #[I v44, I v45, I v46, I v47, S v48, .slice a32 v49.length c32])] hst (by kernel_rfl) (by kernel_rfl) rfl fun p47 w hst => ?_)
                                have hst := (hst.pull 8).dup
                                have hst := ((hst.pull 2).pull 1)
                                have hst := osl_of_blk (ecs := [[I v44, I v45, I v46, I v47, S v48, .slice a32 v49.length c32]]) r_T_glacierref09_State [(T_glacierref09_State.mk v44 v45 v46 v47 v48 v49)] rfl (fun m h => ⟨⟨((a32, c32)), rfl, h⟩, trivial⟩) rfl hst
                                refine ⟨(((((((((((((((hst.pull 15).pull 15).pull 15).pull 15).pull 15).pull 15).pull 15).pull 8).pull 15).pull 15).pull 12).pull 15).pull 15).pull 15).cut 14 2), ?_⟩
                                obtain ⟨hb15, hr⟩ := chk hr
                                refine Q_one (i := 3) (by kernel_rfl) rfl rfl (O_app_o L75 ((hst.pull 8).pull 1) rfl rfl hb15 rfl fun a47 c47 w hst => ?_)
                                refine ⟨(((((((((((((((hst.pull 15).pull 15).pull 15).pull 15).pull 15).pull 15).pull 15).pull 9).pull 9).pull 15).pull 12).pull 15).pull 15).pull 15).cut 14 2), ?_⟩
                                obtain ⟨hb16, hr⟩ := chk hr
                                refine Q_one (i := 6) (by kernel_rfl) rfl rfl (O_app_o L75 ((hst.pull 3).pull 1) rfl rfl hb16 rfl fun a48 c48 w hst => ?_)
                                refine ⟨(((((((((((((((hst.pull 15).pull 15).pull 15).pull 15).pull 15).pull 15).pull 15).pull 10).pull 10).pull 15).pull 12).pull 15).pull 15).pull 15).cut 14 2), ?_⟩
                                refine Q_take (i := 7) (v := .slice a48 ((([(T_glacierref09_State.mk v44 v45 v46 v47 v48 v49)]) ++ y39.2.2) ++ ([(T_glacierref09_State.mk y39.2.1.Term y39.2.1.Vote y39.2.1.Base y39.2.1.BaseTerm y39.2.1.Snap y39.1)])).length c48) rfl (by kernel_rfl) (fun _ _ _ h => h) rfl rfl rfl (fun _ _ => R_pure (by kernel_rfl)) (((((((((((((((hst.pull 15).pull 15).pull 15).pull 15).pull 15).pull 15).pull 15).pull 10).pull 10).pull 15).pull 12).pull 15).pull 15).pull 15).cut 14 2) ?_
                                refine wpG_done (by kernel_rfl) ?_ _
                                refine C_keepQ [(0, .slice a1 x1.length c1), (3, pt p30 0), (4, pt p32 0), (5, .slice a48 ((([(T_glacierref09_State.mk v44 v45 v46 v47 v48 v49)]) ++ y39.2.2) ++ ([(T_glacierref09_State.mk y39.2.1.Term y39.2.1.Vote y39.2.1.Base y39.2.1.BaseTerm y39.2.1.Snap y39.1)])).length c48), (6, .bool true), (7, I v43)] rfl fun b => ?_
                                refine ib_n (th_n ?_)
                                obtain rfl := Option.some.inj hr
                                have hst := (hst.pull 3).dup
                                have hst := (((((((((hst.pull 7).pull 7).pull 16).pull 16).pull 4).pull 15).pull 6).pull 7).cut 8 9)
                                exact ⟨(((([(T_glacierref09_State.mk v44 v45 v46 v47 v48 v49)]) ++ y39.2.2) ++ ([(T_glacierref09_State.mk y39.2.1.Term y39.2.1.Vote y39.2.1.Base y39.2.1.BaseTerm y39.2.1.Snap y39.1)])), true, v44, v45, v46, v47, v48, v49, y44.2.1, y44.2.2.1, y44.2.2.2), a48, c48, a32, c32, (kpXf [(0, .slice a1 x1.length c1), (3, pt p30 0), (4, pt p32 0), (5, .slice a48 ((([(T_glacierref09_State.mk v44 v45 v46 v47 v48 v49)]) ++ y39.2.2) ++ ([(T_glacierref09_State.mk y39.2.1.Term y39.2.1.Vote y39.2.1.Base y39.2.1.BaseTerm y39.2.1.Snap y39.1)])).length c48), (6, .bool true), (7, I v43)] rfl hst)⟩
                        · have hr := (if_neg (by rw [h]; exact Bool.false_ne_true)).symm.trans hr
                          refine wp_seq ?_
                          refine wp_reg ?_
                          refine L_pure 2 [(0, .slice a1 x1.length c1), (3, pt p30 0), (4, pt p32 0), (5, .slice a31 v41.length c31), (6, .bool v42), (7, I v43), (8, pt p34 0), (10, pt p35 0), (11, .slice a39 y39.2.2.length c39), (64, I x5.Kind), (91, .bool (x5.Kind == 4))] (by kernel_rfl) fun b => ?_
                          refine wpL_nil ?_
                          refine th_n ?_
                          refine wp_cond_mkF (t := (x5.Kind == 4)) rfl (fun h => ?_) (fun h => ?_)
                          · have hr := (if_pos h).symm.trans hr
                            refine wp_regG (SP 10 (fun w => St G w (blk p35 (cl [I y39.2.1.Term, I y39.2.1.Vote, I y39.2.1.Base, I y39.2.1.BaseTerm, S y39.2.1.Snap, .slice a38 y39.1.length c38] 71) :: dsl r_T_glacierref09_Entry a38 c38 y39.1 :: osl r_T_glacierref09_State 71 a39 c39 y39.2.2 :: dsl r_T_glacierref09_Entry a32 c32 v49 :: dsl rS q3.1.1 q3.1.2 x5.Texts :: dsl (rI .i64) q3.2.1 q3.2.2 x5.Choice :: blk p34 (cl [I x5.Kind, I (mn2 (mx2 x5.N 0) 1000), I (mn2 (mx2 x5.M 0) 5), S x5.S, .slice q3.1.1 x5.Texts.length q3.1.2, .slice q3.2.1 x5.Choice.length q3.2.2] 77) :: dsl r_T_glacierlaw09_Act a1 c1 x1 :: osl r_T_glacierref09_State 71 a31 c31 v41 :: dsl r_T_glacierref09_Entry none 0 ([]) :: blk p32 (cl [I v44, I v45, I v46, I v47, S v48, .slice a32 v49.length c32] 71) :: blk p30 (cl [I y32.1, I v50, .bool y32.2.2.1, I v51, .map (some p31)] 42) :: mpr S (rPt r_T_platter_file) p31 v52 :: F))) rfl ?_
                            have hst := hst.draw (n := w.drawn + 1)
                            generalize { w with drawn := w.drawn + 1 } = w at hst ⊢
                            refine P_pure (i := 0) (v := pt p30 0) 10 rfl rfl (by kernel_rfl) (fun _ _ _ h => h) rfl rfl rfl (by kernel_rfl) (.inr (((((((((((((hst.pull 12).pull 12).pull 12).pull 12).pull 12).pull 12).pull 12).pull 12).pull 12).pull 12).pull 12).pull 12).pull 12)) ?_
                            refine P_pure (i := 1) (v := pt p35 2) 10 rfl rfl (by kernel_rfl) (fun _ _ _ h => h) rfl rfl rfl (by kernel_rfl) (.inr (((((((((((((hst.pull 12).pull 12).pull 12).pull 12).pull 12).pull 12).pull 12).pull 12).pull 12).pull 12).pull 12).pull 12).pull 12)) ?_
                            refine P_take (i := 2) (v := I y39.2.1.Base) 10 [2] (by kernel_rfl) rfl (by kernel_rfl) (fun _ _ _ h => h) rfl rfl rfl (fun w hst => R_load hst rfl rfl) ((((((((((((((hst.pull 12).pull 12).pull 12).pull 12).pull 12).pull 12).pull 12).pull 12).pull 12).pull 12).pull 12).pull 12).pull 12)) ?_
                            refine P_pure (i := 3) (v := pt p35 3) 10 rfl rfl (by kernel_rfl) (fun _ _ _ h => h) rfl rfl rfl (by kernel_rfl) (.inr (((((((((((((hst.pull 12).pull 12).pull 12).pull 12).pull 12).pull 12).pull 12).pull 12).pull 12).pull 12).pull 12).pull 12).pull 12)) ?_
                            refine P_take (i := 4) (v := I y39.2.1.BaseTerm) 10 [4] (by kernel_rfl) rfl (by kernel_rfl) (fun _ _ _ h => h) rfl rfl rfl (fun w hst => R_load hst rfl rfl) ((((((((((((((hst.pull 12).pull 12).pull 12).pull 12).pull 12).pull 12).pull 12).pull 12).pull 12).pull 12).pull 12).pull 12).pull 12)) ?_
                            refine P_pure (i := 5) (v := pt p35 4) 10 rfl rfl (by kernel_rfl) (fun _ _ _ h => h) rfl rfl rfl (by kernel_rfl) (.inr (((((((((((((hst.pull 12).pull 12).pull 12).pull 12).pull 12).pull 12).pull 12).pull 12).pull 12).pull 12).pull 12).pull 12).pull 12)) ?_
                            refine P_take (i := 6) (v := S y39.2.1.Snap) 10 [6] (by kernel_rfl) rfl (by kernel_rfl) (fun _ _ _ h => h) rfl rfl rfl (fun w hst => R_load hst rfl rfl) ((((((((((((((hst.pull 12).pull 12).pull 12).pull 12).pull 12).pull 12).pull 12).pull 12).pull 12).pull 12).pull 12).pull 12).pull 12)) ?_
                            refine P_pure (i := 7) (v := pt p35 5) 10 rfl rfl (by kernel_rfl) (fun _ _ _ h => h) rfl rfl rfl (by kernel_rfl) (.inr (((((((((((((hst.pull 12).pull 12).pull 12).pull 12).pull 12).pull 12).pull 12).pull 12).pull 12).pull 12).pull 12).pull 12).pull 12)) ?_
                            refine P_take (i := 8) (v := .slice a38 y39.1.length c38) 10 [9, 8] (by kernel_rfl) rfl (by kernel_rfl) (fun _ _ _ h => h) rfl rfl rfl (fun w hst => R_load hst rfl rfl) ((((((((((((((hst.pull 12).pull 12).pull 12).pull 12).pull 12).pull 12).pull 12).pull 12).pull 12).pull 12).pull 12).pull 12).pull 12)) ?_
                            obtain ⟨y51, hy51, hr⟩ := bnd hr
                            refine P_one (i := 9) 10 (by kernel_rfl) rfl rfl (O_call (vs := #[.slice a38 y39.1.length c38]) Try.call36 (by kernel_rfl) (glacierlaw09_entries_ok k y39.1 a38 c38 y51 (hst.pull 1) hy51 fun a54 c54 w hst => ?_))
                            refine CK_ret rfl ?_
                            refine ⟨((((((((((((((hst.pull 13).pull 13).pull 13).pull 13).pull 13).pull 13).pull 13).pull 13).pull 13).pull 13).pull 13).pull 12).pull 13).cut 13 1), ?_⟩
                            obtain ⟨y52, hy52, hr⟩ := bnd hr
                            have hst := osl_freeze hst
                            refine P_act (i := 10) 10 (by kernel_rfl) rfl rfl (by kernel_rfl) (O_call (vs := #[pt p30 0, I y39.2.1.Base, I y39.2.1.BaseTerm, S y39.2.1.Snap, .slice a54 y51.length c54]) Try.call26 (by kernel_rfl) (term_SaveSnap_ok k y32.1 v50 y32.2.2.1 v51 v52 y39.2.1.Base y39.2.1.BaseTerm y39.2.1.Snap y51 p30 p31 a54 c54 y52 ((hst.pull 13).pull 13) hy52 fun w hst => ?_))
                            refine CK_ret rfl ?_
                            refine P_pure (i := 11) (v := I y52.1) 10 rfl rfl (by kernel_rfl) (fun _ _ _ h => h) rfl rfl rfl (by kernel_rfl) (.inl (by kernel_rfl)) ?_
                            refine wpG_done (by kernel_rfl) ?_ _
                            refine C_keepQ [(0, .slice a1 x1.length c1), (3, pt p30 0), (4, pt p32 0), (6, .bool v42), (7, I v43), (9, I y52.1), (10, pt p35 0), (11, .slice a39 y39.2.2.length c39)] rfl fun b => ?_
                            refine ib_n (th_n ?_)
                            refine wp_seq ?_
                            refine wp_seq ?_
                            refine wp_reg ?_
                            refine L_pure 2 [(0, .slice a1 x1.length c1), (3, pt p30 0), (4, pt p32 0), (6, .bool v42), (7, I v43), (9, I y52.1), (10, pt p35 0), (11, .slice a39 y39.2.2.length c39), (151, .bool (y52.1 == 0))] (by kernel_rfl) fun b => ?_
                            refine wpL_nil ?_
                            refine th_n ?_
                            refine wp_cond_mkF (t := (y52.1 == 0)) rfl (fun h => ?_) (fun h => ?_)
                            · have hr := (if_pos h).symm.trans hr
                              refine wp_seq ?_
                              refine wp_reg ?_
                              refine L_op rfl (O_run (v := .agg #[I y39.2.1.Term, I y39.2.1.Vote, I y39.2.1.Base, I y39.2.1.BaseTerm, S y39.2.1.Snap, .slice a38 y39.1.length c38]) (w' := w) (R_load (hst.pull 4) rfl rfl) rfl rfl ?_)
                              refine L_op rfl (O_store [I y39.2.1.Term, I y39.2.1.Vote, I y39.2.1.Base, I y39.2.1.BaseTerm, S y39.2.1.Snap, .slice a38 y39.1.length c38] (hst.pull 13) rfl rfl (by kernel_rfl) fun w hst => ?_)
                              refine wpL_nil ?_
                              refine th_n ?_
                              refine wp_seq ?_
                              refine wp_reg ?_
                              refine L_op rfl (O_run (v := .agg #[I y39.2.1.Term, I y39.2.1.Vote, I y39.2.1.Base, I y39.2.1.BaseTerm, S y39.2.1.Snap, .slice a38 y39.1.length c38]) (w' := w) (R_load (hst.pull 5) rfl rfl) rfl rfl ?_)
                              refine L_op rfl (O_bs (T := 71) [I y39.2.1.Term, I y39.2.1.Vote, I y39.2.1.Base, I y39.2.1.BaseTerm, S y39.2.1.Snap, .slice a38 y39.1.length c38] #[(0, .agg #[I y39.2.1.Term, I y39.2.1.Vote, I y39.2.1.Base, I y39.2.1.BaseTerm, S y39.2.1.Snap, .slice a38 y39.1.length c38])] hst (by kernel_rfl) (by kernel_rfl) rfl fun p52 w hst => ?_)
                              have hst := (hst.pull 5).dup
                              have hst := ((hst.pull 2).pull 1)
                              have hst := osl_of_blk (ecs := [[I y39.2.1.Term, I y39.2.1.Vote, I y39.2.1.Base, I y39.2.1.BaseTerm, S y39.2.1.Snap, .slice a38 y39.1.length c38]]) r_T_glacierref09_State [(T_glacierref09_State.mk y39.2.1.Term y39.2.1.Vote y39.2.1.Base y39.2.1.BaseTerm y39.2.1.Snap y39.1)] rfl (fun m h => ⟨⟨((a38, c38)), rfl, h⟩, trivial⟩) rfl hst
                              refine L_pure 1 [(0, .slice a1 x1.length c1), (3, pt p30 0), (4, pt p32 0), (5, .slice (some ⟨p52, 0, none⟩) ([(T_glacierref09_State.mk y39.2.1.Term y39.2.1.Vote y39.2.1.Base y39.2.1.BaseTerm y39.2.1.Snap y39.1)]).length 1), (6, .bool v42), (7, I v43)] (by kernel_rfl) fun b => ?_
                              refine wpL_nil ?_
                              refine th_n ?_
                              refine wp_exit ?_
                              refine th_x (ib_x (th_n ?_))
                              obtain rfl := Option.some.inj hr
                              have hst := (((((((((hst.pull 4).pull 4).pull 4).pull 14).pull 9).pull 13).pull 7).pull 7).cut 8 7)
                              exact ⟨([(T_glacierref09_State.mk y39.2.1.Term y39.2.1.Vote y39.2.1.Base y39.2.1.BaseTerm y39.2.1.Snap y39.1)], v42, y39.2.1.Term, y39.2.1.Vote, y39.2.1.Base, y39.2.1.BaseTerm, y39.2.1.Snap, y39.1, y52.2.1, y52.2.2.1, y52.2.2.2), (some ⟨p52, 0, none⟩), 1, a38, c38, (kpXf [(0, .slice a1 x1.length c1), (3, pt p30 0), (4, pt p32 0), (5, .slice (some ⟨p52, 0, none⟩) ([(T_glacierref09_State.mk y39.2.1.Term y39.2.1.Vote y39.2.1.Base y39.2.1.BaseTerm y39.2.1.Snap y39.1)]).length 1), (6, .bool v42), (7, I v43)] rfl hst)⟩
                            · have hr := (if_neg (by rw [h]; exact Bool.false_ne_true)).symm.trans hr
                              refine wp_skip ?_
                              refine th_n ?_
                              refine wp_seq ?_
                              refine wp_seq ?_
                              refine wp_reg ?_
                              refine L_pure 2 [(0, .slice a1 x1.length c1), (3, pt p30 0), (4, pt p32 0), (7, I v43), (10, pt p35 0), (11, .slice a39 y39.2.2.length c39), (156, .bool (y52.1 != 8))] (by kernel_rfl) fun b => ?_
                              refine wpL_nil ?_
                              refine th_n ?_
                              refine wp_cond_mkF (t := (y52.1 != 8)) rfl (fun h => ?_) (fun h => ?_)
                              · have hr := (if_pos h).symm.trans hr
                                refine wp_seq ?_
                                refine wp_reg ?_
                                refine L_pure 1 [(2, .bool false)] (by kernel_rfl) fun b => ?_
                                refine wpL_nil ?_
                                refine th_n ?_
                                refine wp_ret ?_
                                refine th_r (ib_r (th_r (th_r (ib_r (th_r (th_r ?_))))))
                                refine ret1 rfl rfl ?_
                                obtain rfl := Option.some.inj hr
                                obtain rfl := Option.some.inj hk11
                                obtain rfl := Option.some.inj hk9
                                have hst := ((hst.pull 10).cut 1 13)
                                exact hR _ hst
                              · have hr := (if_neg (by rw [h]; exact Bool.false_ne_true)).symm.trans hr
                                refine wp_skip ?_
                                refine th_n ?_
                                refine wp_seq ?_
                                refine wp_reg ?_
                                refine L_pure 1 [(0, .slice a1 x1.length c1), (3, pt p30 0), (4, pt p32 0), (6, .bool true), (7, I v43), (10, pt p35 0), (11, .slice a39 y39.2.2.length c39)] (by kernel_rfl) fun b => ?_
                                refine wpL_nil ?_
                                refine th_n ?_
                                refine wp_regG (SQ (fun w => St G w (blk p30 (cl [I y32.1, I y52.2.1, .bool y32.2.2.1, I y52.2.2.1, .map (some p31)] 42) :: mpr S (rPt r_T_platter_file) p31 y52.2.2.2 :: dsl r_T_term_Entry a54 c54 y51 :: dsl r_T_glacierref09_Entry a38 c38 y39.1 :: blk p35 (cl [I y39.2.1.Term, I y39.2.1.Vote, I y39.2.1.Base, I y39.2.1.BaseTerm, S y39.2.1.Snap, .slice a38 y39.1.length c38] 71) :: osl r_T_glacierref09_State 71 a39 c39 y39.2.2 :: dsl r_T_glacierref09_Entry a32 c32 v49 :: dsl rS q3.1.1 q3.1.2 x5.Texts :: dsl (rI .i64) q3.2.1 q3.2.2 x5.Choice :: blk p34 (cl [I x5.Kind, I (mn2 (mx2 x5.N 0) 1000), I (mn2 (mx2 x5.M 0) 5), S x5.S, .slice q3.1.1 x5.Texts.length q3.1.2, .slice q3.2.1 x5.Choice.length q3.2.2] 77) :: dsl r_T_glacierlaw09_Act a1 c1 x1 :: osl r_T_glacierref09_State 71 a31 c31 v41 :: dsl r_T_glacierref09_Entry none 0 ([]) :: blk p32 (cl [I v44, I v45, I v46, I v47, S v48, .slice a32 v49.length c32] 71) :: F))) rfl ?_
                                have hst := hst.draw (n := w.drawn + 1)
                                generalize { w with drawn := w.drawn + 1 } = w at hst ⊢
                                refine Q_take (i := 0) (v := .agg #[I v44, I v45, I v46, I v47, S v48, .slice a32 v49.length c32]) rfl (by kernel_rfl) (fun _ _ _ h => h) rfl rfl rfl (fun w hst => R_load (hst.pull 13) rfl rfl) ((((((((((((((hst.pull 13).pull 13).pull 13).pull 13).pull 13).pull 13).pull 13).pull 13).pull 13).pull 13).pull 13).pull 13).pull 13).pull 13) ?_
                                refine Q_take (i := 2) (v := .slice a39 y39.2.2.length c39) rfl (by kernel_rfl) (fun _ _ _ h => h) rfl rfl rfl (fun _ _ => R_pure (by kernel_rfl)) ((((((((((((((hst.pull 13).pull 13).pull 13).pull 13).pull 13).pull 13).pull 13).pull 13).pull 13).pull 13).pull 13).pull 13).pull 13).pull 13) ?_
                                refine Q_take (i := 4) (v := .agg #[I y39.2.1.Term, I y39.2.1.Vote, I y39.2.1.Base, I y39.2.1.BaseTerm, S y39.2.1.Snap, .slice a38 y39.1.length c38]) rfl (by kernel_rfl) (fun _ _ _ h => h) rfl rfl rfl (fun w hst => R_load (hst.pull 4) rfl rfl) ((((((((((((((hst.pull 13).pull 13).pull 13).pull 13).pull 13).pull 13).pull 13).pull 13).pull 13).pull 13).pull 13).pull 13).pull 13).pull 13) ?_
                                refine Q_two (i := 1) (j := 5) (by kernel_rfl) rfl rfl rfl rfl ?_ ?_
                                · refine O_bs (T := 71) [I v44, I v45, I v46, I v47, S v48, .slice a32 v49.length c32] #[(0, .agg #[I v44, I v45, I v46, I v47, S v48, .slice a32 v49.length c32])] hst (by kernel_rfl) (by kernel_rfl) rfl fun p54 w hst => ?_
                                  have hst := (hst.pull 7).dup
                                  have hst := ((hst.pull 2).pull 1)
                                  have hst := osl_of_blk (ecs := [[I v44, I v45, I v46, I v47, S v48, .slice a32 v49.length c32]]) r_T_glacierref09_State [(T_glacierref09_State.mk v44 v45 v46 v47 v48 v49)] rfl (fun m h => ⟨⟨((a32, c32)), rfl, h⟩, trivial⟩) rfl hst
                                  refine ⟨(((((((((((((((hst.pull 14).pull 14).pull 14).pull 14).pull 14).pull 14).pull 14).pull 8).pull 14).pull 14).pull 14).pull 14).pull 14).pull 14).cut 14 1), ?_⟩
                                  refine Q_two (i := 3) (j := 5) (by kernel_rfl) rfl rfl rfl rfl ?_ ?_
                                  · obtain ⟨hb19, hr⟩ := chk hr
                                    refine O_app_o L75 ((hst.pull 7).pull 1) rfl rfl hb19 rfl fun a55 c55 w hst => ?_
                                    refine ⟨(((((((((((((((hst.pull 14).pull 14).pull 14).pull 14).pull 14).pull 14).pull 14).pull 9).pull 9).pull 14).pull 14).pull 14).pull 14).pull 14).cut 14 1), ?_⟩
                                    refine Q_one (i := 5) (by kernel_rfl) rfl rfl (O_bs (T := 71) [I y39.2.1.Term, I y39.2.1.Vote, I y39.2.1.Base, I y39.2.1.BaseTerm, S y39.2.1.Snap, .slice a38 y39.1.length c38] #[(0, .agg #[I y39.2.1.Term, I y39.2.1.Vote, I y39.2.1.Base, I y39.2.1.BaseTerm, S y39.2.1.Snap, .slice a38 y39.1.length c38])] hst (by kernel_rfl) (by kernel_rfl) rfl fun p55 w hst => ?_)
                                    have hst := (hst.pull 7).dup
                                    have hst := ((hst.pull 2).pull 1)
                                    have hst := osl_of_blk (ecs := [[I y39.2.1.Term, I y39.2.1.Vote, I y39.2.1.Base, I y39.2.1.BaseTerm, S y39.2.1.Snap, .slice a38 y39.1.length c38]]) r_T_glacierref09_State [(T_glacierref09_State.mk y39.2.1.Term y39.2.1.Vote y39.2.1.Base y39.2.1.BaseTerm y39.2.1.Snap y39.1)] rfl (fun m h => ⟨⟨((a38, c38)), rfl, h⟩, trivial⟩) rfl hst
                                    refine ⟨(((((((((((((((hst.pull 15).pull 15).pull 15).pull 15).pull 15).pull 15).pull 15).pull 11).pull 11).pull 15).pull 11).pull 15).pull 15).pull 15).cut 14 2), ?_⟩
                                    obtain ⟨hb20, hr⟩ := chk hr
                                    refine Q_one (i := 6) (by kernel_rfl) rfl rfl (O_app_o L75 (hst.pull 2) rfl rfl hb20 rfl fun a56 c56 w hst => ?_)
                                    refine ⟨(((((((((((((((hst.pull 15).pull 15).pull 15).pull 15).pull 15).pull 15).pull 15).pull 11).pull 11).pull 15).pull 12).pull 15).pull 15).pull 15).cut 14 2), ?_⟩
                                    refine Q_take (i := 7) (v := .slice a56 ((([(T_glacierref09_State.mk v44 v45 v46 v47 v48 v49)]) ++ y39.2.2) ++ ([(T_glacierref09_State.mk y39.2.1.Term y39.2.1.Vote y39.2.1.Base y39.2.1.BaseTerm y39.2.1.Snap y39.1)])).length c56) rfl (by kernel_rfl) (fun _ _ _ h => h) rfl rfl rfl (fun _ _ => R_pure (by kernel_rfl)) (((((((((((((((hst.pull 15).pull 15).pull 15).pull 15).pull 15).pull 15).pull 15).pull 11).pull 11).pull 15).pull 12).pull 15).pull 15).pull 15).cut 14 2) ?_
                                    refine wpG_done (by kernel_rfl) ?_ _
                                    refine C_keepQ [(0, .slice a1 x1.length c1), (3, pt p30 0), (4, pt p32 0), (5, .slice a56 ((([(T_glacierref09_State.mk v44 v45 v46 v47 v48 v49)]) ++ y39.2.2) ++ ([(T_glacierref09_State.mk y39.2.1.Term y39.2.1.Vote y39.2.1.Base y39.2.1.BaseTerm y39.2.1.Snap y39.1)])).length c56), (6, .bool true), (7, I v43)] rfl fun b => ?_
                                    refine ib_n (th_n ?_)
                                    obtain rfl := Option.some.inj hr
                                    have hst := (hst.pull 4).dup
                                    have hst := (((((((((hst.pull 7).pull 7).pull 16).pull 16).pull 4).pull 15).pull 6).pull 7).cut 8 9)
                                    exact ⟨(((([(T_glacierref09_State.mk v44 v45 v46 v47 v48 v49)]) ++ y39.2.2) ++ ([(T_glacierref09_State.mk y39.2.1.Term y39.2.1.Vote y39.2.1.Base y39.2.1.BaseTerm y39.2.1.Snap y39.1)])), true, v44, v45, v46, v47, v48, v49, y52.2.1, y52.2.2.1, y52.2.2.2), a56, c56, a32, c32, (kpXf [(0, .slice a1 x1.length c1), (3, pt p30 0), (4, pt p32 0), (5, .slice a56 ((([(T_glacierref09_State.mk v44 v45 v46 v47 v48 v49)]) ++ y39.2.2) ++ ([(T_glacierref09_State.mk y39.2.1.Term y39.2.1.Vote y39.2.1.Base y39.2.1.BaseTerm y39.2.1.Snap y39.1)])).length c56), (6, .bool true), (7, I v43)] rfl hst)⟩
                                  · refine O_bs (T := 71) [I y39.2.1.Term, I y39.2.1.Vote, I y39.2.1.Base, I y39.2.1.BaseTerm, S y39.2.1.Snap, .slice a38 y39.1.length c38] #[(0, .agg #[I y39.2.1.Term, I y39.2.1.Vote, I y39.2.1.Base, I y39.2.1.BaseTerm, S y39.2.1.Snap, .slice a38 y39.1.length c38])] hst (by kernel_rfl) (by kernel_rfl) rfl fun p55 w hst => ?_
                                    have hst := (hst.pull 6).dup
                                    have hst := ((hst.pull 2).pull 1)
                                    have hst := osl_of_blk (ecs := [[I y39.2.1.Term, I y39.2.1.Vote, I y39.2.1.Base, I y39.2.1.BaseTerm, S y39.2.1.Snap, .slice a38 y39.1.length c38]]) r_T_glacierref09_State [(T_glacierref09_State.mk y39.2.1.Term y39.2.1.Vote y39.2.1.Base y39.2.1.BaseTerm y39.2.1.Snap y39.1)] rfl (fun m h => ⟨⟨((a38, c38)), rfl, h⟩, trivial⟩) rfl hst
                                    refine ⟨(((((((((((((((hst.pull 15).pull 15).pull 15).pull 15).pull 15).pull 15).pull 15).pull 10).pull 15).pull 15).pull 11).pull 15).pull 15).pull 15).cut 14 2), ?_⟩
                                    obtain ⟨hb19, hr⟩ := chk hr
                                    refine Q_one (i := 3) (by kernel_rfl) rfl rfl (O_app_o L75 ((hst.pull 8).pull 3) rfl rfl hb19 rfl fun a55 c55 w hst => ?_)
                                    refine ⟨(((((((((((((((hst.pull 15).pull 15).pull 15).pull 15).pull 15).pull 15).pull 15).pull 11).pull 9).pull 15).pull 12).pull 15).pull 15).pull 15).cut 14 2), ?_⟩
                                    obtain ⟨hb20, hr⟩ := chk hr
                                    refine Q_one (i := 6) (by kernel_rfl) rfl rfl (O_app_o L75 ((hst.pull 2).pull 1) rfl rfl hb20 rfl fun a56 c56 w hst => ?_)
                                    refine ⟨(((((((((((((((hst.pull 15).pull 15).pull 15).pull 15).pull 15).pull 15).pull 15).pull 11).pull 10).pull 15).pull 12).pull 15).pull 15).pull 15).cut 14 2), ?_⟩
                                    refine Q_take (i := 7) (v := .slice a56 ((([(T_glacierref09_State.mk v44 v45 v46 v47 v48 v49)]) ++ y39.2.2) ++ ([(T_glacierref09_State.mk y39.2.1.Term y39.2.1.Vote y39.2.1.Base y39.2.1.BaseTerm y39.2.1.Snap y39.1)])).length c56) rfl (by kernel_rfl) (fun _ _ _ h => h) rfl rfl rfl (fun _ _ => R_pure (by kernel_rfl)) (((((((((((((((hst.pull 15).pull 15).pull 15).pull 15).pull 15).pull 15).pull 15).pull 11).pull 10).pull 15).pull 12).pull 15).pull 15).pull 15).cut 14 2) ?_
                                    refine wpG_done (by kernel_rfl) ?_ _
                                    refine C_keepQ [(0, .slice a1 x1.length c1), (3, pt p30 0), (4, pt p32 0), (5, .slice a56 ((([(T_glacierref09_State.mk v44 v45 v46 v47 v48 v49)]) ++ y39.2.2) ++ ([(T_glacierref09_State.mk y39.2.1.Term y39.2.1.Vote y39.2.1.Base y39.2.1.BaseTerm y39.2.1.Snap y39.1)])).length c56), (6, .bool true), (7, I v43)] rfl fun b => ?_
                                    refine ib_n (th_n ?_)
                                    obtain rfl := Option.some.inj hr
                                    have hst := (hst.pull 4).dup
                                    have hst := (((((((((hst.pull 7).pull 7).pull 16).pull 16).pull 4).pull 15).pull 6).pull 7).cut 8 9)
                                    exact ⟨(((([(T_glacierref09_State.mk v44 v45 v46 v47 v48 v49)]) ++ y39.2.2) ++ ([(T_glacierref09_State.mk y39.2.1.Term y39.2.1.Vote y39.2.1.Base y39.2.1.BaseTerm y39.2.1.Snap y39.1)])), true, v44, v45, v46, v47, v48, v49, y52.2.1, y52.2.2.1, y52.2.2.2), a56, c56, a32, c32, (kpXf [(0, .slice a1 x1.length c1), (3, pt p30 0), (4, pt p32 0), (5, .slice a56 ((([(T_glacierref09_State.mk v44 v45 v46 v47 v48 v49)]) ++ y39.2.2) ++ ([(T_glacierref09_State.mk y39.2.1.Term y39.2.1.Vote y39.2.1.Base y39.2.1.BaseTerm y39.2.1.Snap y39.1)])).length c56), (6, .bool true), (7, I v43)] rfl hst)⟩
                                · refine O_bs (T := 71) [I y39.2.1.Term, I y39.2.1.Vote, I y39.2.1.Base, I y39.2.1.BaseTerm, S y39.2.1.Snap, .slice a38 y39.1.length c38] #[(0, .agg #[I y39.2.1.Term, I y39.2.1.Vote, I y39.2.1.Base, I y39.2.1.BaseTerm, S y39.2.1.Snap, .slice a38 y39.1.length c38])] hst (by kernel_rfl) (by kernel_rfl) rfl fun p54 w hst => ?_
                                  have hst := (hst.pull 4).dup
                                  have hst := ((hst.pull 2).pull 1)
                                  have hst := osl_of_blk (ecs := [[I y39.2.1.Term, I y39.2.1.Vote, I y39.2.1.Base, I y39.2.1.BaseTerm, S y39.2.1.Snap, .slice a38 y39.1.length c38]]) r_T_glacierref09_State [(T_glacierref09_State.mk y39.2.1.Term y39.2.1.Vote y39.2.1.Base y39.2.1.BaseTerm y39.2.1.Snap y39.1)] rfl (fun m h => ⟨⟨((a38, c38)), rfl, h⟩, trivial⟩) rfl hst
                                  refine ⟨(((((((((((((((hst.pull 14).pull 14).pull 14).pull 14).pull 14).pull 14).pull 14).pull 14).pull 14).pull 14).pull 11).pull 14).pull 14).pull 14).cut 14 1), ?_⟩
                                  refine Q_one (i := 1) (by kernel_rfl) rfl rfl (O_bs (T := 71) [I v44, I v45, I v46, I v47, S v48, .slice a32 v49.length c32] #[(0, .agg #[I v44, I v45, I v46, I v47, S v48, .slice a32 v49.length c32])] hst (by kernel_rfl) (by kernel_rfl) rfl fun p55 w hst => ?_)
                                  have hst := (hst.pull 8).dup
                                  have hst := ((hst.pull 2).pull 1)
                                  have hst := osl_of_blk (ecs := [[I v44, I v45, I v46, I v47, S v48, .slice a32 v49.length c32]]) r_T_glacierref09_State [(T_glacierref09_State.mk v44 v45 v46 v47 v48 v49)] rfl (fun m h => ⟨⟨((a32, c32)), rfl, h⟩, trivial⟩) rfl hst
                                  refine ⟨(((((((((((((((hst.pull 15).pull 15).pull 15).pull 15).pull 15).pull 15).pull 15).pull 8).pull 15).pull 15).pull 12).pull 15).pull 15).pull 15).cut 14 2), ?_⟩
                                  obtain ⟨hb19, hr⟩ := chk hr
                                  refine Q_one (i := 3) (by kernel_rfl) rfl rfl (O_app_o L75 ((hst.pull 8).pull 1) rfl rfl hb19 rfl fun a55 c55 w hst => ?_)
                                  refine ⟨(((((((((((((((hst.pull 15).pull 15).pull 15).pull 15).pull 15).pull 15).pull 15).pull 9).pull 9).pull 15).pull 12).pull 15).pull 15).pull 15).cut 14 2), ?_⟩
                                  obtain ⟨hb20, hr⟩ := chk hr
                                  refine Q_one (i := 6) (by kernel_rfl) rfl rfl (O_app_o L75 ((hst.pull 3).pull 1) rfl rfl hb20 rfl fun a56 c56 w hst => ?_)
                                  refine ⟨(((((((((((((((hst.pull 15).pull 15).pull 15).pull 15).pull 15).pull 15).pull 15).pull 10).pull 10).pull 15).pull 12).pull 15).pull 15).pull 15).cut 14 2), ?_⟩
                                  refine Q_take (i := 7) (v := .slice a56 ((([(T_glacierref09_State.mk v44 v45 v46 v47 v48 v49)]) ++ y39.2.2) ++ ([(T_glacierref09_State.mk y39.2.1.Term y39.2.1.Vote y39.2.1.Base y39.2.1.BaseTerm y39.2.1.Snap y39.1)])).length c56) rfl (by kernel_rfl) (fun _ _ _ h => h) rfl rfl rfl (fun _ _ => R_pure (by kernel_rfl)) (((((((((((((((hst.pull 15).pull 15).pull 15).pull 15).pull 15).pull 15).pull 15).pull 10).pull 10).pull 15).pull 12).pull 15).pull 15).pull 15).cut 14 2) ?_
                                  refine wpG_done (by kernel_rfl) ?_ _
                                  refine C_keepQ [(0, .slice a1 x1.length c1), (3, pt p30 0), (4, pt p32 0), (5, .slice a56 ((([(T_glacierref09_State.mk v44 v45 v46 v47 v48 v49)]) ++ y39.2.2) ++ ([(T_glacierref09_State.mk y39.2.1.Term y39.2.1.Vote y39.2.1.Base y39.2.1.BaseTerm y39.2.1.Snap y39.1)])).length c56), (6, .bool true), (7, I v43)] rfl fun b => ?_
                                  refine ib_n (th_n ?_)
                                  obtain rfl := Option.some.inj hr
                                  have hst := (hst.pull 3).dup
                                  have hst := (((((((((hst.pull 7).pull 7).pull 16).pull 16).pull 4).pull 15).pull 6).pull 7).cut 8 9)
                                  exact ⟨(((([(T_glacierref09_State.mk v44 v45 v46 v47 v48 v49)]) ++ y39.2.2) ++ ([(T_glacierref09_State.mk y39.2.1.Term y39.2.1.Vote y39.2.1.Base y39.2.1.BaseTerm y39.2.1.Snap y39.1)])), true, v44, v45, v46, v47, v48, v49, y52.2.1, y52.2.2.1, y52.2.2.2), a56, c56, a32, c32, (kpXf [(0, .slice a1 x1.length c1), (3, pt p30 0), (4, pt p32 0), (5, .slice a56 ((([(T_glacierref09_State.mk v44 v45 v46 v47 v48 v49)]) ++ y39.2.2) ++ ([(T_glacierref09_State.mk y39.2.1.Term y39.2.1.Vote y39.2.1.Base y39.2.1.BaseTerm y39.2.1.Snap y39.1)])).length c56), (6, .bool true), (7, I v43)] rfl hst)⟩
                          · have hr := (if_neg (by rw [h]; exact Bool.false_ne_true)).symm.trans hr
                            refine wp_seq ?_
                            refine wp_reg ?_
                            refine L_pure 2 [(0, .slice a1 x1.length c1), (3, pt p30 0), (4, pt p32 0), (5, .slice a31 v41.length c31), (6, .bool v42), (7, I v43), (8, pt p34 0), (64, I x5.Kind), (104, .bool (x5.Kind == 5))] (by kernel_rfl) fun b => ?_
                            refine wpL_nil ?_
                            refine th_n ?_
                            refine wp_cond_mkF (t := (x5.Kind == 5)) rfl (fun h => ?_) (fun h => ?_)
                            · have hr := (if_pos h).symm.trans hr
                              refine wp_seq ?_
                              refine wp_reg ?_
                              refine L_pure 2 [(0, .slice a1 x1.length c1), (3, pt p30 0), (4, pt p32 0), (5, .slice a31 v41.length c31), (7, I v43), (106, pt p30 0), (107, pt p34 5)] (by kernel_rfl) fun b => ?_
                              refine L_op rfl (O_run (v := .slice q3.2.1 x5.Choice.length q3.2.2) (w' := w) (R_load (hst.pull 6) rfl rfl) rfl rfl ?_)
                              obtain ⟨y53, hy53, hr⟩ := bnd hr
                              refine L_op rfl (O_call (vs := #[pt p30 0, .slice q3.2.1 x5.Choice.length q3.2.2]) Try.call19 (by kernel_rfl) (platter_Disk_Crash_ok k y32.1 v50 y32.2.2.1 v51 v52 x5.Choice p30 p31 q3.2.1 q3.2.2 y53 (((hst.pull 5).pull 12).pull 12) hy53 fun w hst => ?_))
                              refine CK_ret rfl ?_
                              refine wpL_nil ?_
                              refine th_n ?_
                              refine wp_seq ?_
                              refine wp_reg ?_
                              refine L_pure 3 [(0, .slice a1 x1.length c1), (3, pt p30 0), (4, pt p32 0), (5, .slice a31 v41.length c31), (7, I v43), (112, pt p30 2)] (by kernel_rfl) fun b => ?_
                              obtain ⟨y54, hy54, hr⟩ := bnd hr
                              refine L_op rfl (O_call (vs := #[pt p30 2, I (-1)]) Try.call24 (by kernel_rfl) (meter_Luck_Fail_ok k y32.1 y53.1 y32.2.2.1 v51 y53.2 (-1) p30 p31 y54 ((hst.pull 1).pull 1) hy54 fun w hst => ?_))
                              refine CK_ret rfl ?_
                              refine wpL_nil ?_
                              refine th_n ?_
                              refine wp_seq ?_
                              refine wp_reg ?_
                              refine L_pure 1 [(0, .slice a1 x1.length c1), (3, pt p30 0), (4, pt p32 0), (5, .slice a31 v41.length c31), (7, I v43), (115, pt p30 0)] (by kernel_rfl) fun b => ?_
                              obtain ⟨y55, hy55, hr⟩ := bnd hr
                              refine L_op rfl (O_call (vs := #[pt p30 0]) Try.call27 (by kernel_rfl) (term_Load_ok k y32.1 y53.1 y32.2.2.1 y54 y53.2 p30 p31 y55 ((hst.pull 1).pull 1) hy55 fun a57 c57 w hst => ?_))
                              refine CK_ret rfl ?_
                              refine L_pure 3 [(0, .slice a1 x1.length c1), (3, pt p30 0), (4, pt p32 0), (5, .slice a31 v41.length c31), (7, I v43), (117, .agg #[I y55.2.1.Term, I y55.2.1.Vote, I y55.2.1.Base, I y55.2.1.BaseTerm, S y55.2.1.Snap, .slice a57 y55.1.length c57]), (118, I y55.2.2.1)] (by kernel_rfl) fun b => ?_
                              refine L_op rfl (O_alloc (i := Try.t55) (z := .agg #[I 0, I 0, I 0, I 0, S ([]), .slice none 0 0]) [I 0, I 0, I 0, I 0, S ([]), .slice none 0 0] hst rfl rfl rfl rfl fun p56 w hst => ?_)
                              refine L_op rfl (O_store [I y55.2.1.Term, I y55.2.1.Vote, I y55.2.1.Base, I y55.2.1.BaseTerm, S y55.2.1.Snap, .slice a57 y55.1.length c57] hst rfl rfl (by kernel_rfl) fun w hst => ?_)
                              refine L_pure 1 [(0, .slice a1 x1.length c1), (3, pt p30 0), (4, pt p32 0), (5, .slice a31 v41.length c31), (7, I v43), (12, pt p56 0), (13, I y55.2.2.1)] (by kernel_rfl) fun b => ?_
                              refine wpL_nil ?_
                              refine th_n ?_
                              refine wp_seq ?_
                              refine wp_seq ?_
                              refine wp_reg ?_
                              refine L_pure 2 [(0, .slice a1 x1.length c1), (3, pt p30 0), (4, pt p32 0), (5, .slice a31 v41.length c31), (7, I v43), (12, pt p56 0), (120, .bool (y55.2.2.1 != 0))] (by kernel_rfl) fun b => ?_
                              refine wpL_nil ?_
                              refine th_n ?_
                              refine wp_cond_mkF (t := (y55.2.2.1 != 0)) rfl (fun h => ?_) (fun h => ?_)
                              · have hr := (if_pos h).symm.trans hr
                                refine wp_seq ?_
                                refine wp_reg ?_
                                refine L_pure 1 [(2, .bool false)] (by kernel_rfl) fun b => ?_
                                refine wpL_nil ?_
                                refine th_n ?_
                                refine wp_ret ?_
                                refine th_r (ib_r (th_r (ib_r (th_r (th_r (ib_r (th_r (th_r ?_))))))))
                                refine ret1 rfl rfl ?_
                                obtain rfl := Option.some.inj hr
                                obtain rfl := Option.some.inj hk11
                                obtain rfl := Option.some.inj hk9
                                have hst := ((hst.pull 11).cut 1 14)
                                exact hR _ hst
                              · have hr := (if_neg (by rw [h]; exact Bool.false_ne_true)).symm.trans hr
                                refine wp_skip ?_
                                refine th_n ?_
                                refine wp_seq ?_
                                refine wp_reg ?_
                                refine L_pure 1 [(0, .slice a1 x1.length c1), (3, pt p30 0), (4, pt p32 0), (5, .slice a31 v41.length c31), (7, I v43), (12, pt p56 0), (14, .bool false)] (by kernel_rfl) fun b => ?_
                                refine wpL_nil ?_
                                refine th_n ?_
                                refine wp_seq ?_
                                refine wp_seq ?_
                                refine wp_reg ?_
                                refine L_pure 3 [(0, .slice a1 x1.length c1), (3, pt p30 0), (4, pt p32 0), (7, I v43), (12, pt p56 0), (14, .bool false), (121, .slice a31 v41.length c31), (122, I (v41.length : Int)), (123, I 0)] (by kernel_rfl) fun b => ?_
                                refine wpL_nil ?_
                                refine th_n ?_
                                obtain ⟨y56, hy56, hk13⟩ := bnd hr
                                clear hr
                                refine Go.Hx.wp_cut (fun a w => ∃ (b : Nat → Value), a = mkF 164 b [(0, .slice a1 x1.length c1), (3, pt p30 0), (4, pt p32 0), (7, I v43), (12, pt p56 0), (14, .bool y56)] ∧ St G w (blk p56 (cl [I y55.2.1.Term, I y55.2.1.Vote, I y55.2.1.Base, I y55.2.1.BaseTerm, S y55.2.1.Snap, .slice a57 y55.1.length c57] 55) :: dsl r_T_term_Entry a57 c57 y55.1 :: blk p30 (cl [I y32.1, I y55.2.2.2.1, .bool y32.2.2.1, I y55.2.2.2.2.1, .map (some p31)] 42) :: mpr S (rPt r_T_platter_file) p31 y55.2.2.2.2.2 :: dsl (rI .i64) q3.2.1 q3.2.2 x5.Choice :: blk p35 (cl [I y39.2.1.Term, I y39.2.1.Vote, I y39.2.1.Base, I y39.2.1.BaseTerm, S y39.2.1.Snap, .slice a38 y39.1.length c38] 71) :: dsl r_T_glacierref09_Entry a38 c38 y39.1 :: osl r_T_glacierref09_State 71 a39 c39 y39.2.2 :: dsl r_T_glacierref09_Entry a32 c32 v49 :: dsl rS q3.1.1 q3.1.2 x5.Texts :: blk p34 (cl [I x5.Kind, I (mn2 (mx2 x5.N 0) 1000), I (mn2 (mx2 x5.M 0) 5), S x5.S, .slice q3.1.1 x5.Texts.length q3.1.2, .slice q3.2.1 x5.Choice.length q3.2.2] 77) :: dsl r_T_glacierlaw09_Act a1 c1 x1 :: osl r_T_glacierref09_State 71 a31 c31 v41 :: dsl r_T_glacierref09_Entry none 0 ([]) :: blk p32 (cl [I v44, I v45, I v46, I v47, S v48, .slice a32 v49.length c32] 71) :: F)) ?_ ?_
                                · rintro _ w ⟨b, rfl, hst⟩
                                  have hr := hk13
                                  refine th_n ?_
                                  refine wp_seq ?_
                                  refine wp_seq ?_
                                  refine wp_reg ?_
                                  refine L_pure 2 [(0, .slice a1 x1.length c1), (3, pt p30 0), (4, pt p32 0), (7, I v43), (12, pt p56 0), (136, .bool (!y56))] (by kernel_rfl) fun b => ?_
                                  refine wpL_nil ?_
                                  refine th_n ?_
                                  refine wp_cond_mkF (t := (!y56)) rfl (fun h => ?_) (fun h => ?_)
                                  · have hr := (if_pos h).symm.trans hr
                                    refine wp_seq ?_
                                    refine wp_reg ?_
                                    refine L_pure 1 [(2, .bool false)] (by kernel_rfl) fun b => ?_
                                    refine wpL_nil ?_
                                    refine th_n ?_
                                    refine wp_ret ?_
                                    refine th_r (ib_r (th_r (ib_r (th_r (th_r (ib_r (th_r (th_r ?_))))))))
                                    refine ret1 rfl rfl ?_
                                    obtain rfl := Option.some.inj hr
                                    obtain rfl := Option.some.inj hk11
                                    obtain rfl := Option.some.inj hk9
                                    have hst := ((hst.pull 11).cut 1 14)
                                    exact hR _ hst
                                  · have hr := (if_neg (by rw [h]; exact Bool.false_ne_true)).symm.trans hr
                                    refine wp_skip ?_
                                    refine th_n ?_
                                    refine wp_seq ?_
                                    refine wp_reg ?_
                                    refine L_op rfl (O_run (v := .agg #[I y55.2.1.Term, I y55.2.1.Vote, I y55.2.1.Base, I y55.2.1.BaseTerm, S y55.2.1.Snap, .slice a57 y55.1.length c57]) (w' := w) (R_load hst rfl rfl) rfl rfl ?_)
                                    obtain ⟨y60, hy60, hr⟩ := bnd hr
                                    refine L_op rfl (O_call (vs := #[.agg #[I y55.2.1.Term, I y55.2.1.Vote, I y55.2.1.Base, I y55.2.1.BaseTerm, S y55.2.1.Snap, .slice a57 y55.1.length c57]]) Try.call34 (by kernel_rfl) (glacierlaw09_Told_ok k (T_term_State.mk y55.2.1.Term y55.2.1.Vote y55.2.1.Base y55.2.1.BaseTerm y55.2.1.Snap y55.1) a57 c57 y60 (hst.pull 1) hy60 fun a59 c59 w hst => ?_))
                                    refine CK_ret rfl ?_
                                    refine L_op rfl (O_store [I y60.2.Term, I y60.2.Vote, I y60.2.Base, I y60.2.BaseTerm, S y60.2.Snap, .slice a59 y60.1.length c59] (hst.pull 15) rfl rfl (by kernel_rfl) fun w hst => ?_)
                                    refine wpL_nil ?_
                                    refine th_n ?_
                                    refine wp_seq ?_
                                    refine wp_reg ?_
                                    refine L_op rfl (O_run (v := .agg #[I y60.2.Term, I y60.2.Vote, I y60.2.Base, I y60.2.BaseTerm, S y60.2.Snap, .slice a59 y60.1.length c59]) (w' := w) (R_load hst rfl rfl) rfl rfl ?_)
                                    have hst := osl_freeze (hst.pull 1)
                                    refine L_op rfl (O_bs (T := 71) [I y60.2.Term, I y60.2.Vote, I y60.2.Base, I y60.2.BaseTerm, S y60.2.Snap, .slice a59 y60.1.length c59] #[(0, .agg #[I y60.2.Term, I y60.2.Vote, I y60.2.Base, I y60.2.BaseTerm, S y60.2.Snap, .slice a59 y60.1.length c59])] hst (by kernel_rfl) (by kernel_rfl) rfl fun p58 w hst => ?_)
                                    have hst := (hst.pull 1).dup
                                    have hst := ((hst.pull 2).pull 1)
                                    have hst := osl_of_blk (ecs := [[I y60.2.Term, I y60.2.Vote, I y60.2.Base, I y60.2.BaseTerm, S y60.2.Snap, .slice a59 y60.1.length c59]]) r_T_glacierref09_State [(T_glacierref09_State.mk y60.2.Term y60.2.Vote y60.2.Base y60.2.BaseTerm y60.2.Snap y60.1)] rfl (fun m h => ⟨⟨((a59, c59)), rfl, h⟩, trivial⟩) rfl hst
                                    refine L_pure 1 [(0, .slice a1 x1.length c1), (3, pt p30 0), (4, pt p32 0), (5, .slice (some ⟨p58, 0, none⟩) ([(T_glacierref09_State.mk y60.2.Term y60.2.Vote y60.2.Base y60.2.BaseTerm y60.2.Snap y60.1)]).length 1), (7, I v43)] (by kernel_rfl) fun b => ?_
                                    refine wpL_nil ?_
                                    refine th_n ?_
                                    refine wp_seq ?_
                                    refine wp_reg ?_
                                    refine L_pure 1 [(0, .slice a1 x1.length c1), (3, pt p30 0), (4, pt p32 0), (5, .slice (some ⟨p58, 0, none⟩) ([(T_glacierref09_State.mk y60.2.Term y60.2.Vote y60.2.Base y60.2.BaseTerm y60.2.Snap y60.1)]).length 1), (6, .bool false), (7, I v43)] (by kernel_rfl) fun b => ?_
                                    refine wpL_nil ?_
                                    refine th_n ?_
                                    refine wp_exit ?_
                                    refine ib_o rfl (th_x (ib_x (th_n ?_)))
                                    obtain rfl := Option.some.inj hr
                                    have hst := (((((((((hst.pull 6).pull 6).pull 4).pull 16).pull 12).pull 15).pull 7).pull 7).cut 8 9)
                                    exact ⟨([(T_glacierref09_State.mk y60.2.Term y60.2.Vote y60.2.Base y60.2.BaseTerm y60.2.Snap y60.1)], false, y60.2.Term, y60.2.Vote, y60.2.Base, y60.2.BaseTerm, y60.2.Snap, y60.1, y55.2.2.2.1, y55.2.2.2.2.1, y55.2.2.2.2.2), (some ⟨p58, 0, none⟩), 1, a59, c59, (kpXf [(0, .slice a1 x1.length c1), (3, pt p30 0), (4, pt p32 0), (5, .slice (some ⟨p58, 0, none⟩) ([(T_glacierref09_State.mk y60.2.Term y60.2.Vote y60.2.Base y60.2.BaseTerm y60.2.Snap y60.1)]).length 1), (6, .bool false), (7, I v43)] rfl hst)⟩
                                · have hst := osl_freeze (hst.pull 1)
                                  have hst := (((((((((((((((hst.pull 14).pull 14).pull 14).pull 14).pull 14).pull 14).pull 14).pull 14).pull 14).pull 14).pull 14).pull 14).pull 14).pull 13).pull 14)
                                  refine wp_block ?_
                                  refine wp_loop_fuel (fun j a w => ∃ (v55 : Bool) (v56 : Int) (b : Nat → Value), a = mkF 164 b [(0, .slice a1 x1.length c1), (3, pt p30 0), (4, pt p32 0), (7, I v43), (12, pt p56 0), (14, .bool v55), (121, .slice a31 v41.length c31), (122, I (v41.length : Int)), (123, I v56)] ∧ St G w (blk p56 (cl [I y55.2.1.Term, I y55.2.1.Vote, I y55.2.1.Base, I y55.2.1.BaseTerm, S y55.2.1.Snap, .slice a57 y55.1.length c57] 55) :: dsl r_T_term_Entry a57 c57 y55.1 :: blk p30 (cl [I y32.1, I y55.2.2.2.1, .bool y32.2.2.1, I y55.2.2.2.2.1, .map (some p31)] 42) :: mpr S (rPt r_T_platter_file) p31 y55.2.2.2.2.2 :: dsl (rI .i64) q3.2.1 q3.2.2 x5.Choice :: blk p35 (cl [I y39.2.1.Term, I y39.2.1.Vote, I y39.2.1.Base, I y39.2.1.BaseTerm, S y39.2.1.Snap, .slice a38 y39.1.length c38] 71) :: dsl r_T_glacierref09_Entry a38 c38 y39.1 :: osl r_T_glacierref09_State 71 a39 c39 y39.2.2 :: dsl r_T_glacierref09_Entry a32 c32 v49 :: dsl rS q3.1.1 q3.1.2 x5.Texts :: blk p34 (cl [I x5.Kind, I (mn2 (mx2 x5.N 0) 1000), I (mn2 (mx2 x5.M 0) 5), S x5.S, .slice q3.1.1 x5.Texts.length q3.1.2, .slice q3.2.1 x5.Choice.length q3.2.2] 77) :: dsl r_T_glacierlaw09_Act a1 c1 x1 :: osl r_T_glacierref09_State 71 a31 c31 v41 :: dsl r_T_glacierref09_Entry none 0 ([]) :: blk p32 (cl [I v44, I v45, I v46, I v47, S v48, .slice a32 v49.length c32] 71) :: F) ∧ glacierlaw09_TermPlays_l2 k v41 y55 j v55 v56 = some y56) (k := k) ⟨false, (0 : Int), (kpX [(0, .slice a1 x1.length c1), (3, pt p30 0), (4, pt p32 0), (7, I v43), (12, pt p56 0), (14, .bool false), (121, .slice a31 v41.length c31), (122, I (v41.length : Int)), (123, I 0)] rfl ⟨hst, hy56⟩)⟩ ?_ ?_
                                  · rintro _ _ ⟨_, _, _, _, _, h⟩
                                    rw [glacierlaw09_TermPlays_l2] at h
                                    cases h
                                  · rintro j _ w ⟨v55, v56, b, rfl, hst, hr⟩
                                    rw [glacierlaw09_TermPlays_l2] at hr
                                    refine wp_seq ?_
                                    refine wp_reg ?_
                                    refine L_pure 1 [(0, .slice a1 x1.length c1), (3, pt p30 0), (4, pt p32 0), (7, I v43), (12, pt p56 0), (14, .bool v55), (121, .slice a31 v41.length c31), (122, I (v41.length : Int)), (123, I v56), (124, .bool (decide (v56 < (v41.length : Int))))] (by kernel_rfl) fun b => ?_
                                    refine wpL_nil ?_
                                    refine th_n ?_
                                    refine wp_seq ?_
                                    refine wp_cond_mkF (t := decide (v56 < (v41.length : Int))) rfl (fun h => ?_) (fun h => ?_)
                                    · have hr := (if_pos h).symm.trans hr
                                      refine wp_skip ?_
                                      refine th_n ?_
                                      refine wp_seq ?_
                                      refine wp_block ?_
                                      refine wp_seq ?_
                                      refine wp_reg ?_
                                      obtain ⟨x7, hx6, hr⟩ := bnd hr
                                      refine L_op rfl (O_run (v := pt (ab a31) (ao a31 + v56.toNat * 6)) (w' := w) (R_ia L75 rfl rfl (osl_addr (hst.pull 12) hx6) (gt_some hx6).1 (gt_some hx6).2.1) rfl rfl ?_)
                                      obtain ⟨q4, hc4, hst⟩ := osl_cells (hst.pull 12) hx6
                                      refine L_op rfl (O_run (v := .agg #[I x7.Term, I x7.Vote, I x7.Base, I x7.BaseTerm, S x7.Snap, .slice q4.1 x7.Log.length q4.2]) (w' := w) (R_loadAt (off := ao a31 + v56.toNat * 6) (j := 0) hc4 rfl rfl) rfl rfl ?_)
                                      refine L_op rfl (O_alloc (i := Try.t71) (z := .agg #[I 0, I 0, I 0, I 0, S ([]), .slice none 0 0]) [I 0, I 0, I 0, I 0, S ([]), .slice none 0 0] hst rfl rfl rfl rfl fun p57 w hst => ?_)
                                      refine L_op rfl (O_store [I x7.Term, I x7.Vote, I x7.Base, I x7.BaseTerm, S x7.Snap, .slice q4.1 x7.Log.length q4.2] hst rfl rfl (by kernel_rfl) fun w hst => ?_)
                                      refine wpL_nil ?_
                                      refine th_n ?_
                                      obtain ⟨y57, hy57, hk14⟩ := bnd hr
                                      clear hr
                                      refine Go.Hx.wp_cut (fun a w => ∃ (b : Nat → Value), a = mkF 164 b [(0, .slice a1 x1.length c1), (3, pt p30 0), (4, pt p32 0), (7, I v43), (12, pt p56 0), (14, .bool y57), (121, .slice a31 v41.length c31), (122, I (v41.length : Int)), (123, I v56)] ∧ St G w (blk p57 (cl [I x7.Term, I x7.Vote, I x7.Base, I x7.BaseTerm, S x7.Snap, .slice q4.1 x7.Log.length q4.2] 71) :: dsl r_T_glacierref09_Entry q4.1 q4.2 x7.Log :: osl r_T_glacierref09_State 71 a31 c31 v41 :: blk p56 (cl [I y55.2.1.Term, I y55.2.1.Vote, I y55.2.1.Base, I y55.2.1.BaseTerm, S y55.2.1.Snap, .slice a57 y55.1.length c57] 55) :: dsl r_T_term_Entry a57 c57 y55.1 :: blk p30 (cl [I y32.1, I y55.2.2.2.1, .bool y32.2.2.1, I y55.2.2.2.2.1, .map (some p31)] 42) :: mpr S (rPt r_T_platter_file) p31 y55.2.2.2.2.2 :: dsl (rI .i64) q3.2.1 q3.2.2 x5.Choice :: blk p35 (cl [I y39.2.1.Term, I y39.2.1.Vote, I y39.2.1.Base, I y39.2.1.BaseTerm, S y39.2.1.Snap, .slice a38 y39.1.length c38] 71) :: dsl r_T_glacierref09_Entry a38 c38 y39.1 :: osl r_T_glacierref09_State 71 a39 c39 y39.2.2 :: dsl r_T_glacierref09_Entry a32 c32 v49 :: dsl rS q3.1.1 q3.1.2 x5.Texts :: blk p34 (cl [I x5.Kind, I (mn2 (mx2 x5.N 0) 1000), I (mn2 (mx2 x5.M 0) 5), S x5.S, .slice q3.1.1 x5.Texts.length q3.1.2, .slice q3.2.1 x5.Choice.length q3.2.2] 77) :: dsl r_T_glacierlaw09_Act a1 c1 x1 :: dsl r_T_glacierref09_Entry none 0 ([]) :: blk p32 (cl [I v44, I v45, I v46, I v47, S v48, .slice a32 v49.length c32] 71) :: F)) ?_ ?_
                                      · rintro _ w ⟨b, rfl, hst⟩
                                        have hr := hk14
                                        refine ib_n (th_n ?_)
                                        refine wp_reg ?_
                                        refine L_pure 2 [(0, .slice a1 x1.length c1), (3, pt p30 0), (4, pt p32 0), (7, I v43), (12, pt p56 0), (14, .bool y57), (121, .slice a31 v41.length c31), (122, I (v41.length : Int)), (123, I (IntKind.i64.wrap (v56 + 1)))] (by kernel_rfl) fun b => ?_
                                        refine wpL_nil ?_
                                        refine th_n ?_
                                        have hst := ((((((((((((((((hst.pull 16).pull 16).pull 4).pull 16).pull 16).pull 16).pull 16).pull 16).pull 16).pull 16).pull 16).pull 16).pull 16).pull 16).pull 16).cut 15 2)
                                        exact ⟨y57, (IntKind.i64.wrap (v56 + 1)), (kpX [(0, .slice a1 x1.length c1), (3, pt p30 0), (4, pt p32 0), (7, I v43), (12, pt p56 0), (14, .bool y57), (121, .slice a31 v41.length c31), (122, I (v41.length : Int)), (123, I (IntKind.i64.wrap (v56 + 1)))] rfl ⟨hst, hr⟩)⟩
                                      · have hr := hy57
                                        refine wp_regG SA rfl ?_
                                        have hst := hst.draw (n := w.drawn + 1)
                                        generalize { w with drawn := w.drawn + 1 } = w at hst ⊢
                                        refine A_take (i := 0) (v := .bool v55) rfl (by kernel_rfl) (fun _ _ _ h => h) rfl rfl rfl (fun _ => R_pure (by kernel_rfl)) ?_
                                        refine A_take (i := 1) (v := .bool v55) rfl (by kernel_rfl) (fun _ _ _ h => h) rfl rfl rfl (fun _ => R_pure (by kernel_rfl)) ?_
                                        by_cases h : v55 = true
                                        · have hr := (if_pos h).symm.trans hr
                                          refine C_keep ((128, .bool v55) :: [(0, .slice a1 x1.length c1), (3, pt p30 0), (4, pt p32 0), (7, I v43), (12, pt p56 0), (14, .bool v55), (16, pt p57 0), (121, .slice a31 v41.length c31), (122, I (v41.length : Int)), (123, I v56), (124, .bool (decide (v56 < (v41.length : Int)))), (125, pt (ab a31) (ao a31 + v56.toNat * 6)), (126, .agg #[I x7.Term, I x7.Vote, I x7.Base, I x7.BaseTerm, S x7.Snap, .slice q4.1 x7.Log.length q4.2]), (127, .bool v55)]) rfl fun b => ?_
                                          refine C_bool h ?_
                                          refine A_skip (i := 2) rfl (by kernel_rfl) (fun _ _ _ h => h) rfl rfl rfl ?_
                                          refine A_skip (i := 3) rfl (by kernel_rfl) (fun _ _ _ h => h) rfl rfl rfl ?_
                                          refine A_skip (i := 4) rfl (by kernel_rfl) (fun _ _ _ h => h) rfl rfl rfl ?_
                                          refine A_skip (i := 5) rfl (by kernel_rfl) (fun _ _ _ h => h) rfl rfl rfl ?_
                                          refine A_take (i := 6) (v := .bool true) rfl (by kernel_rfl) (fun _ _ _ h => h) rfl rfl rfl (fun _ => R_pure (by kernel_rfl)) ?_
                                          refine A_take (i := 7) (v := .bool true) rfl (by kernel_rfl) (fun _ _ _ h => h) rfl rfl rfl (fun _ => R_pure (by kernel_rfl)) ?_
                                          refine wpG_done (by kernel_rfl) ?_ _
                                          refine C_keepQ [(0, .slice a1 x1.length c1), (3, pt p30 0), (4, pt p32 0), (7, I v43), (12, pt p56 0), (14, .bool true), (121, .slice a31 v41.length c31), (122, I (v41.length : Int)), (123, I v56)] rfl fun b => ?_
                                          refine th_n ?_
                                          obtain rfl := Option.some.inj hr
                                          have hst := (((((((((((((((((hst.pull 16).pull 16).pull 16).pull 16).pull 16).pull 16).pull 16).pull 16).pull 16).pull 16).pull 16).pull 16).pull 16).pull 16).pull 16).pull 16).pull 16)
                                          exact (kpX [(0, .slice a1 x1.length c1), (3, pt p30 0), (4, pt p32 0), (7, I v43), (12, pt p56 0), (14, .bool true), (121, .slice a31 v41.length c31), (122, I (v41.length : Int)), (123, I v56)] rfl hst)
                                        · have hr := (if_neg h).symm.trans hr
                                          refine C_keep ((128, .bool v55) :: [(0, .slice a1 x1.length c1), (3, pt p30 0), (4, pt p32 0), (7, I v43), (12, pt p56 0), (14, .bool v55), (16, pt p57 0), (121, .slice a31 v41.length c31), (122, I (v41.length : Int)), (123, I v56), (124, .bool (decide (v56 < (v41.length : Int)))), (125, pt (ab a31) (ao a31 + v56.toNat * 6)), (126, .agg #[I x7.Term, I x7.Vote, I x7.Base, I x7.BaseTerm, S x7.Snap, .slice q4.1 x7.Log.length q4.2]), (127, .bool v55)]) rfl fun b => ?_
                                          refine C_bool (eq_false_of_ne_true h) ?_
                                          refine A_all [2, 4] (by kernel_rfl) ⟨⟨_, rfl, rfl, ?_⟩, ⟨_, rfl, rfl, ?_⟩, trivial⟩
                                          · refine O_run (v := .agg #[I y55.2.1.Term, I y55.2.1.Vote, I y55.2.1.Base, I y55.2.1.BaseTerm, S y55.2.1.Snap, .slice a57 y55.1.length c57]) (w' := w) (R_load (hst.pull 3) rfl rfl) rfl rfl ?_
                                            refine A_all [3, 4] (by kernel_rfl) ⟨⟨_, rfl, rfl, ?_⟩, ⟨_, rfl, rfl, ?_⟩, trivial⟩
                                            · obtain ⟨y58, hy58, hr⟩ := bnd hr
                                              refine O_call (vs := #[.agg #[I y55.2.1.Term, I y55.2.1.Vote, I y55.2.1.Base, I y55.2.1.BaseTerm, S y55.2.1.Snap, .slice a57 y55.1.length c57]]) Try.call34 (by kernel_rfl) (glacierlaw09_Told_ok k (T_term_State.mk y55.2.1.Term y55.2.1.Vote y55.2.1.Base y55.2.1.BaseTerm y55.2.1.Snap y55.1) a57 c57 y58 (hst.pull 4) hy58 fun a58 c58 w hst => ?_)
                                              refine CK_ret rfl ?_
                                              refine A_all [4] (by kernel_rfl) ⟨⟨_, rfl, rfl, ?_⟩, trivial⟩
                                              refine O_run (v := .agg #[I x7.Term, I x7.Vote, I x7.Base, I x7.BaseTerm, S x7.Snap, .slice q4.1 x7.Log.length q4.2]) (w' := w) (R_load (hst.pull 2) rfl rfl) rfl rfl ?_
                                              refine A_all [5] (by kernel_rfl) ⟨⟨_, rfl, rfl, ?_⟩, trivial⟩
                                              obtain ⟨y59, hy59, hr⟩ := bnd hr
                                              have hst := osl_freeze hst
                                              refine O_call (vs := #[.agg #[I y58.2.Term, I y58.2.Vote, I y58.2.Base, I y58.2.BaseTerm, S y58.2.Snap, .slice a58 y58.1.length c58], .agg #[I x7.Term, I x7.Vote, I x7.Base, I x7.BaseTerm, S x7.Snap, .slice q4.1 x7.Log.length q4.2]]) Try.call33 (by kernel_rfl) (glacierref09_Same_ok k (T_glacierref09_State.mk y58.2.Term y58.2.Vote y58.2.Base y58.2.BaseTerm y58.2.Snap y58.1) x7 a58 c58 q4.1 q4.2 y59 ((hst.pull 3).pull 1) hy59 fun w hst => ?_)
                                              refine CK_ret rfl ?_
                                              refine A_take (i := 6) (v := .bool y59) rfl (by kernel_rfl) (fun _ _ _ h => h) rfl rfl rfl (fun _ => R_pure (by kernel_rfl)) ?_
                                              refine A_take (i := 7) (v := .bool y59) rfl (by kernel_rfl) (fun _ _ _ h => h) rfl rfl rfl (fun _ => R_pure (by kernel_rfl)) ?_
                                              refine wpG_done (by kernel_rfl) ?_ _
                                              refine C_keepQ [(0, .slice a1 x1.length c1), (3, pt p30 0), (4, pt p32 0), (7, I v43), (12, pt p56 0), (14, .bool y59), (121, .slice a31 v41.length c31), (122, I (v41.length : Int)), (123, I v56)] rfl fun b => ?_
                                              refine th_n ?_
                                              obtain rfl := Option.some.inj hr
                                              have hst := ((((((((((((((((((hst.pull 17).pull 17).pull 17).pull 17).pull 17).pull 17).pull 17).pull 17).pull 17).pull 17).pull 17).pull 17).pull 14).pull 17).pull 17).pull 16).pull 17).cut 17 1)
                                              exact (kpX [(0, .slice a1 x1.length c1), (3, pt p30 0), (4, pt p32 0), (7, I v43), (12, pt p56 0), (14, .bool y59), (121, .slice a31 v41.length c31), (122, I (v41.length : Int)), (123, I v56)] rfl hst)
                                            · refine O_run (v := .agg #[I x7.Term, I x7.Vote, I x7.Base, I x7.BaseTerm, S x7.Snap, .slice q4.1 x7.Log.length q4.2]) (w' := w) (R_load hst rfl rfl) rfl rfl ?_
                                              refine A_all [3] (by kernel_rfl) ⟨⟨_, rfl, rfl, ?_⟩, trivial⟩
                                              obtain ⟨y58, hy58, hr⟩ := bnd hr
                                              refine O_call (vs := #[.agg #[I y55.2.1.Term, I y55.2.1.Vote, I y55.2.1.Base, I y55.2.1.BaseTerm, S y55.2.1.Snap, .slice a57 y55.1.length c57]]) Try.call34 (by kernel_rfl) (glacierlaw09_Told_ok k (T_term_State.mk y55.2.1.Term y55.2.1.Vote y55.2.1.Base y55.2.1.BaseTerm y55.2.1.Snap y55.1) a57 c57 y58 (hst.pull 4) hy58 fun a58 c58 w hst => ?_)
                                              refine CK_ret rfl ?_
                                              refine A_all [5] (by kernel_rfl) ⟨⟨_, rfl, rfl, ?_⟩, trivial⟩
                                              obtain ⟨y59, hy59, hr⟩ := bnd hr
                                              have hst := osl_freeze hst
                                              refine O_call (vs := #[.agg #[I y58.2.Term, I y58.2.Vote, I y58.2.Base, I y58.2.BaseTerm, S y58.2.Snap, .slice a58 y58.1.length c58], .agg #[I x7.Term, I x7.Vote, I x7.Base, I x7.BaseTerm, S x7.Snap, .slice q4.1 x7.Log.length q4.2]]) Try.call33 (by kernel_rfl) (glacierref09_Same_ok k (T_glacierref09_State.mk y58.2.Term y58.2.Vote y58.2.Base y58.2.BaseTerm y58.2.Snap y58.1) x7 a58 c58 q4.1 q4.2 y59 ((hst.pull 3).pull 1) hy59 fun w hst => ?_)
                                              refine CK_ret rfl ?_
                                              refine A_take (i := 6) (v := .bool y59) rfl (by kernel_rfl) (fun _ _ _ h => h) rfl rfl rfl (fun _ => R_pure (by kernel_rfl)) ?_
                                              refine A_take (i := 7) (v := .bool y59) rfl (by kernel_rfl) (fun _ _ _ h => h) rfl rfl rfl (fun _ => R_pure (by kernel_rfl)) ?_
                                              refine wpG_done (by kernel_rfl) ?_ _
                                              refine C_keepQ [(0, .slice a1 x1.length c1), (3, pt p30 0), (4, pt p32 0), (7, I v43), (12, pt p56 0), (14, .bool y59), (121, .slice a31 v41.length c31), (122, I (v41.length : Int)), (123, I v56)] rfl fun b => ?_
                                              refine th_n ?_
                                              obtain rfl := Option.some.inj hr
                                              have hst := ((((((((((((((((((hst.pull 17).pull 17).pull 17).pull 17).pull 17).pull 17).pull 17).pull 17).pull 17).pull 17).pull 17).pull 17).pull 14).pull 17).pull 17).pull 16).pull 17).cut 17 1)
                                              exact (kpX [(0, .slice a1 x1.length c1), (3, pt p30 0), (4, pt p32 0), (7, I v43), (12, pt p56 0), (14, .bool y59), (121, .slice a31 v41.length c31), (122, I (v41.length : Int)), (123, I v56)] rfl hst)
                                          · refine O_run (v := .agg #[I x7.Term, I x7.Vote, I x7.Base, I x7.BaseTerm, S x7.Snap, .slice q4.1 x7.Log.length q4.2]) (w' := w) (R_load hst rfl rfl) rfl rfl ?_
                                            refine A_all [2] (by kernel_rfl) ⟨⟨_, rfl, rfl, ?_⟩, trivial⟩
                                            refine O_run (v := .agg #[I y55.2.1.Term, I y55.2.1.Vote, I y55.2.1.Base, I y55.2.1.BaseTerm, S y55.2.1.Snap, .slice a57 y55.1.length c57]) (w' := w) (R_load (hst.pull 3) rfl rfl) rfl rfl ?_
                                            refine A_all [3] (by kernel_rfl) ⟨⟨_, rfl, rfl, ?_⟩, trivial⟩
                                            obtain ⟨y58, hy58, hr⟩ := bnd hr
                                            refine O_call (vs := #[.agg #[I y55.2.1.Term, I y55.2.1.Vote, I y55.2.1.Base, I y55.2.1.BaseTerm, S y55.2.1.Snap, .slice a57 y55.1.length c57]]) Try.call34 (by kernel_rfl) (glacierlaw09_Told_ok k (T_term_State.mk y55.2.1.Term y55.2.1.Vote y55.2.1.Base y55.2.1.BaseTerm y55.2.1.Snap y55.1) a57 c57 y58 (hst.pull 4) hy58 fun a58 c58 w hst => ?_)
                                            refine CK_ret rfl ?_
                                            refine A_all [5] (by kernel_rfl) ⟨⟨_, rfl, rfl, ?_⟩, trivial⟩
                                            obtain ⟨y59, hy59, hr⟩ := bnd hr
                                            have hst := osl_freeze hst
                                            refine O_call (vs := #[.agg #[I y58.2.Term, I y58.2.Vote, I y58.2.Base, I y58.2.BaseTerm, S y58.2.Snap, .slice a58 y58.1.length c58], .agg #[I x7.Term, I x7.Vote, I x7.Base, I x7.BaseTerm, S x7.Snap, .slice q4.1 x7.Log.length q4.2]]) Try.call33 (by kernel_rfl) (glacierref09_Same_ok k (T_glacierref09_State.mk y58.2.Term y58.2.Vote y58.2.Base y58.2.BaseTerm y58.2.Snap y58.1) x7 a58 c58 q4.1 q4.2 y59 ((hst.pull 3).pull 1) hy59 fun w hst => ?_)
                                            refine CK_ret rfl ?_
                                            refine A_take (i := 6) (v := .bool y59) rfl (by kernel_rfl) (fun _ _ _ h => h) rfl rfl rfl (fun _ => R_pure (by kernel_rfl)) ?_
                                            refine A_take (i := 7) (v := .bool y59) rfl (by kernel_rfl) (fun _ _ _ h => h) rfl rfl rfl (fun _ => R_pure (by kernel_rfl)) ?_
                                            refine wpG_done (by kernel_rfl) ?_ _
                                            refine C_keepQ [(0, .slice a1 x1.length c1), (3, pt p30 0), (4, pt p32 0), (7, I v43), (12, pt p56 0), (14, .bool y59), (121, .slice a31 v41.length c31), (122, I (v41.length : Int)), (123, I v56)] rfl fun b => ?_
                                            refine th_n ?_
                                            obtain rfl := Option.some.inj hr
                                            have hst := ((((((((((((((((((hst.pull 17).pull 17).pull 17).pull 17).pull 17).pull 17).pull 17).pull 17).pull 17).pull 17).pull 17).pull 17).pull 14).pull 17).pull 17).pull 16).pull 17).cut 17 1)
                                            exact (kpX [(0, .slice a1 x1.length c1), (3, pt p30 0), (4, pt p32 0), (7, I v43), (12, pt p56 0), (14, .bool y59), (121, .slice a31 v41.length c31), (122, I (v41.length : Int)), (123, I v56)] rfl hst)
                                    · have hr := (if_neg (by rw [h]; exact Bool.false_ne_true)).symm.trans hr
                                      refine wp_exit ?_
                                      refine th_x (th_x (ib_x (th_n ?_)))
                                      obtain rfl := Option.some.inj hr
                                      have hst := (((((((((((((((hst.pull 14).pull 14).pull 14).pull 14).pull 14).pull 14).pull 14).pull 14).pull 14).pull 14).pull 14).pull 14).pull 14).pull 14).pull 14)
                                      exact (kpX [(0, .slice a1 x1.length c1), (3, pt p30 0), (4, pt p32 0), (7, I v43), (12, pt p56 0), (14, .bool v55)] rfl hst)
                            · have hr := (if_neg (by rw [h]; exact Bool.false_ne_true)).symm.trans hr
                              refine wp_seq ?_
                              refine wp_reg ?_
                              refine L_pure 2 [(0, .slice a1 x1.length c1), (3, pt p30 0), (4, pt p32 0), (5, .slice a31 v41.length c31), (6, .bool v42), (7, I v43), (8, pt p34 0), (141, .bool (x5.Kind == 6))] (by kernel_rfl) fun b => ?_
                              refine wpL_nil ?_
                              refine th_n ?_
                              refine wp_cond_mkF (t := (x5.Kind == 6)) rfl (fun h => ?_) (fun h => ?_)
                              · have hr := (if_pos h).symm.trans hr
                                refine wp_seq ?_
                                refine wp_regG (SP 6 (fun w => St G w (blk p35 (cl [I y39.2.1.Term, I y39.2.1.Vote, I y39.2.1.Base, I y39.2.1.BaseTerm, S y39.2.1.Snap, .slice a38 y39.1.length c38] 71) :: dsl r_T_glacierref09_Entry a38 c38 y39.1 :: osl r_T_glacierref09_State 71 a39 c39 y39.2.2 :: dsl r_T_glacierref09_Entry a32 c32 v49 :: dsl rS q3.1.1 q3.1.2 x5.Texts :: dsl (rI .i64) q3.2.1 q3.2.2 x5.Choice :: blk p34 (cl [I x5.Kind, I (mn2 (mx2 x5.N 0) 1000), I (mn2 (mx2 x5.M 0) 5), S x5.S, .slice q3.1.1 x5.Texts.length q3.1.2, .slice q3.2.1 x5.Choice.length q3.2.2] 77) :: dsl r_T_glacierlaw09_Act a1 c1 x1 :: osl r_T_glacierref09_State 71 a31 c31 v41 :: dsl r_T_glacierref09_Entry none 0 ([]) :: blk p32 (cl [I v44, I v45, I v46, I v47, S v48, .slice a32 v49.length c32] 71) :: blk p30 (cl [I y32.1, I v50, .bool y32.2.2.1, I v51, .map (some p31)] 42) :: mpr S (rPt r_T_platter_file) p31 v52 :: F))) rfl ?_
                                have hst := hst.draw (n := w.drawn + 1)
                                generalize { w with drawn := w.drawn + 1 } = w at hst ⊢
                                refine P_pure (i := 0) (v := pt p30 0) 6 rfl rfl (by kernel_rfl) (fun _ _ _ h => h) rfl rfl rfl (by kernel_rfl) (.inr (((((((((((((hst.pull 12).pull 12).pull 12).pull 12).pull 12).pull 12).pull 12).pull 12).pull 12).pull 12).pull 12).pull 12).pull 12)) ?_
                                refine P_pure (i := 1) (v := pt p30 0) 6 rfl rfl (by kernel_rfl) (fun _ _ _ h => h) rfl rfl rfl (by kernel_rfl) (.inr (((((((((((((hst.pull 12).pull 12).pull 12).pull 12).pull 12).pull 12).pull 12).pull 12).pull 12).pull 12).pull 12).pull 12).pull 12)) ?_
                                refine P_pure (i := 2) (v := pt p30 2) 6 rfl rfl (by kernel_rfl) (fun _ _ _ h => h) rfl rfl rfl (by kernel_rfl) (.inr (((((((((((((hst.pull 12).pull 12).pull 12).pull 12).pull 12).pull 12).pull 12).pull 12).pull 12).pull 12).pull 12).pull 12).pull 12)) ?_
                                refine P_pure (i := 3) (v := pt p34 1) 6 rfl rfl (by kernel_rfl) (fun _ _ _ h => h) rfl rfl rfl (by kernel_rfl) (.inr (((((((((((((hst.pull 12).pull 12).pull 12).pull 12).pull 12).pull 12).pull 12).pull 12).pull 12).pull 12).pull 12).pull 12).pull 12)) ?_
                                refine P_take (i := 4) (v := I (mn2 (mx2 x5.N 0) 1000)) 6 [5, 4] (by kernel_rfl) rfl (by kernel_rfl) (fun _ _ _ h => h) rfl rfl rfl (fun w hst => R_load (hst.pull 6) rfl rfl) ((((((((((((((hst.pull 12).pull 12).pull 12).pull 12).pull 12).pull 12).pull 12).pull 12).pull 12).pull 12).pull 12).pull 12).pull 12)) ?_
                                refine P_pure (i := 5) (v := I ((mn2 (mx2 x5.N 0) 1000).tmod 6)) 6 rfl rfl (by kernel_rfl) (fun _ _ _ h => h) rfl rfl rfl (by kernel_rfl) (.inr (((((((((((((hst.pull 12).pull 12).pull 12).pull 12).pull 12).pull 12).pull 12).pull 12).pull 12).pull 12).pull 12).pull 12).pull 12)) ?_
                                obtain ⟨y62, hy62, hr⟩ := bnd hr
                                refine P_act (i := 6) 6 (by kernel_rfl) rfl rfl (by kernel_rfl) (O_call (vs := #[pt p30 2, I ((mn2 (mx2 x5.N 0) 1000).tmod 6)]) Try.call24 (by kernel_rfl) (meter_Luck_Fail_ok k y32.1 v50 y32.2.2.1 v51 v52 ((mn2 (mx2 x5.N 0) 1000).tmod 6) p30 p31 y62 ((hst.pull 12).pull 12) hy62 fun w hst => ?_))
                                refine CK_ret rfl ?_
                                refine wpG_done (by kernel_rfl) ?_ _
                                refine C_keepQ [(0, .slice a1 x1.length c1), (3, pt p30 0), (4, pt p32 0), (5, .slice a31 v41.length c31), (6, .bool v42), (7, I v43)] rfl fun b => ?_
                                refine th_n ?_
                                refine wp_exit ?_
                                refine ib_o rfl (th_x (ib_x (th_n ?_)))
                                obtain rfl := Option.some.inj hr
                                have hst := (hst.pull 5).dup
                                have hst := (((((((((hst.pull 3).pull 3).pull 13).pull 13).pull 4).pull 12).pull 6).pull 13).cut 8 6)
                                exact ⟨(v41, v42, v44, v45, v46, v47, v48, v49, v50, y62, v52), a31, c31, a32, c32, (kpXf [(0, .slice a1 x1.length c1), (3, pt p30 0), (4, pt p32 0), (5, .slice a31 v41.length c31), (6, .bool v42), (7, I v43)] rfl hst)⟩
                              · have hr := (if_neg (by rw [h]; exact Bool.false_ne_true)).symm.trans hr
                                refine wp_exit ?_
                                refine ib_o rfl (th_x (ib_x (th_n ?_)))
                                obtain rfl := Option.some.inj hr
                                have hst := (hst.pull 3).dup
                                have hst := (((((((((hst.pull 13).pull 13).pull 13).pull 13).pull 4).pull 12).pull 6).pull 13).cut 8 6)
                                exact ⟨(v41, v42, v44, v45, v46, v47, v48, v49, v50, v51, v52), a31, c31, a32, c32, (kpXf [(0, .slice a1 x1.length c1), (3, pt p30 0), (4, pt p32 0), (5, .slice a31 v41.length c31), (6, .bool v42), (7, I v43)] rfl hst)⟩
                · have hr := hy38
                  refine wp_reg ?_
                  refine L_pure 2 [(0, .slice a1 x1.length c1), (3, pt p30 0), (4, pt p32 0), (5, .slice a31 v41.length c31), (6, .bool v42), (7, I v43), (8, pt p34 0), (52, .bool v42)] (by kernel_rfl) fun b => ?_
                  by_cases h : v42 = true
                  · have hr := (if_pos h).symm.trans hr
                    refine L_keep ((52, .bool v42) :: [(0, .slice a1 x1.length c1), (3, pt p30 0), (4, pt p32 0), (5, .slice a31 v41.length c31), (6, .bool v42), (7, I v43), (8, pt p34 0)]) rfl fun b => ?_
                    refine L_bool h ?_
                    refine L_pure 1 [(0, .slice a1 x1.length c1), (3, pt p30 0), (4, pt p32 0), (5, .slice a31 v41.length c31), (6, .bool v42), (7, I v43), (8, pt p34 0), (52, .bool true), (53, pt p34 0)] (by kernel_rfl) fun b => ?_
                    refine L_op rfl (O_run (v := I x5.Kind) (w' := w) (R_load hst rfl rfl) rfl rfl ?_)
                    refine L_pure 2 [(0, .slice a1 x1.length c1), (3, pt p30 0), (4, pt p32 0), (5, .slice a31 v41.length c31), (6, .bool v42), (7, I v43), (8, pt p34 0), (56, .bool (x5.Kind != 5))] (by kernel_rfl) fun b => ?_
                    refine wpL_nil ?_
                    refine th_n ?_
                    obtain rfl := Option.some.inj hr
                    have hst := ((((((((((hst.pull 9).pull 9).pull 9).pull 9).pull 9).pull 9).pull 9).pull 9).pull 9).pull 9)
                    exact (kpX [(0, .slice a1 x1.length c1), (3, pt p30 0), (4, pt p32 0), (5, .slice a31 v41.length c31), (6, .bool v42), (7, I v43), (8, pt p34 0), (56, .bool (x5.Kind != 5))] rfl hst)
                  · have hr := (if_neg h).symm.trans hr
                    refine L_keep ((52, .bool v42) :: [(0, .slice a1 x1.length c1), (3, pt p30 0), (4, pt p32 0), (5, .slice a31 v41.length c31), (6, .bool v42), (7, I v43), (8, pt p34 0)]) rfl fun b => ?_
                    refine L_bool (eq_false_of_ne_true h) ?_
                    refine L_pure 4 [(0, .slice a1 x1.length c1), (3, pt p30 0), (4, pt p32 0), (5, .slice a31 v41.length c31), (6, .bool v42), (7, I v43), (8, pt p34 0), (56, .bool false)] (by kernel_rfl) fun b => ?_
                    refine wpL_nil ?_
                    refine th_n ?_
                    obtain rfl := Option.some.inj hr
                    have hst := ((((((((((hst.pull 9).pull 9).pull 9).pull 9).pull 9).pull 9).pull 9).pull 9).pull 9).pull 9)
                    exact (kpX [(0, .slice a1 x1.length c1), (3, pt p30 0), (4, pt p32 0), (5, .slice a31 v41.length c31), (6, .bool v42), (7, I v43), (8, pt p34 0), (56, .bool false)] rfl hst)
            · have hr := (if_neg (by rw [h]; exact Bool.false_ne_true)).symm.trans hr
              refine wp_exit ?_
              refine th_x (th_x (ib_x (th_n ?_)))
              obtain rfl := Option.some.inj hr
              have hst := (((((((hst.pull 6).pull 6).pull 6).pull 6).pull 6).pull 6).cut 6 1)
              exact ⟨(v44, v45, v46, v47, v48, v49, v50, v51, v52), a32, c32, (kpXf [] rfl hst)⟩
          · have hr := hy36
            refine wp_reg ?_
            refine L_pure 5 [(0, .slice a1 x1.length c1), (3, pt p30 0), (4, pt p32 0), (5, .slice a31 v41.length c31), (6, .bool v42), (7, I v43), (31, .bool (decide (v43 < (x1.length : Int))))] (by kernel_rfl) fun b => ?_
            by_cases h : (decide (v43 < (x1.length : Int))) = true
            · have hr := (if_pos h).symm.trans hr
              refine L_keep ((31, .bool (decide (v43 < (x1.length : Int)))) :: [(0, .slice a1 x1.length c1), (3, pt p30 0), (4, pt p32 0), (5, .slice a31 v41.length c31), (6, .bool v42), (7, I v43)]) rfl fun b => ?_
              refine L_bool h ?_
              refine L_pure 3 [(0, .slice a1 x1.length c1), (3, pt p30 0), (4, pt p32 0), (5, .slice a31 v41.length c31), (6, .bool v42), (7, I v43), (34, .bool (decide (v43 < 20)))] (by kernel_rfl) fun b => ?_
              refine wpL_nil ?_
              refine th_n ?_
              obtain rfl := Option.some.inj hr
              have hst := (((((((hst.pull 6).pull 6).pull 6).pull 6).pull 6).pull 6).pull 6)
              exact (kpX [(0, .slice a1 x1.length c1), (3, pt p30 0), (4, pt p32 0), (5, .slice a31 v41.length c31), (6, .bool v42), (7, I v43), (34, .bool (decide (v43 < 20)))] rfl hst)
            · have hr := (if_neg h).symm.trans hr
              refine L_keep ((31, .bool (decide (v43 < (x1.length : Int)))) :: [(0, .slice a1 x1.length c1), (3, pt p30 0), (4, pt p32 0), (5, .slice a31 v41.length c31), (6, .bool v42), (7, I v43)]) rfl fun b => ?_
              refine L_bool (eq_false_of_ne_true h) ?_
              refine L_pure 3 [(0, .slice a1 x1.length c1), (3, pt p30 0), (4, pt p32 0), (5, .slice a31 v41.length c31), (6, .bool v42), (7, I v43), (34, .bool false)] (by kernel_rfl) fun b => ?_
              refine wpL_nil ?_
              refine th_n ?_
              obtain rfl := Option.some.inj hr
              have hst := (((((((hst.pull 6).pull 6).pull 6).pull 6).pull 6).pull 6).pull 6)
              exact (kpX [(0, .slice a1 x1.length c1), (3, pt p30 0), (4, pt p32 0), (5, .slice a31 v41.length c31), (6, .bool v42), (7, I v43), (34, .bool false)] rfl hst)
  · have hr := hy33
    refine wp_reg ?_
    obtain ⟨y34, hy34, hr⟩ := bnd hr
    refine L_op rfl (O_call (vs := #[]) Try.call25 (by kernel_rfl) (glacierlaw09_awake_ok k y34 hst hy34 fun w hst => ?_))
    refine CK_ret rfl ?_
    refine L_pure 2 [(0, .slice a1 x1.length c1), (3, pt p30 0), (20, .bool (!y34))] (by kernel_rfl) fun b => ?_
    by_cases h : (!y34) = true
    · have hr := (if_pos h).symm.trans hr
      refine L_keep ((20, .bool (!y34)) :: [(0, .slice a1 x1.length c1), (3, pt p30 0)]) rfl fun b => ?_
      refine L_bool h ?_
      refine L_pure 3 [(0, .slice a1 x1.length c1), (3, pt p30 0), (23, .bool true)] (by kernel_rfl) fun b => ?_
      refine wpL_nil ?_
      refine th_n ?_
      obtain rfl := Option.some.inj hr
      have hst := (((hst.pull 2).pull 2).pull 2)
      exact (kpX [(0, .slice a1 x1.length c1), (3, pt p30 0), (23, .bool true)] rfl hst)
    · have hr := (if_neg h).symm.trans hr
      refine L_keep ((20, .bool (!y34)) :: [(0, .slice a1 x1.length c1), (3, pt p30 0)]) rfl fun b => ?_
      refine L_bool (eq_false_of_ne_true h) ?_
      refine L_pure 3 [(0, .slice a1 x1.length c1), (3, pt p30 0), (23, .bool false)] (by kernel_rfl) fun b => ?_
      refine wpL_nil ?_
      refine th_n ?_
      obtain rfl := Option.some.inj hr
      have hst := (((hst.pull 2).pull 2).pull 2)
      exact (kpX [(0, .slice a1 x1.length c1), (3, pt p30 0), (23, .bool false)] rfl hst)
end Go.Proofs.Ythmjdekmacoaaaa
