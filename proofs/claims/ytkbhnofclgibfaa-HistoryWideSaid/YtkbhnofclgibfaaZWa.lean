/- ZW: printed by hx.py (own work) out of the program. -/
import Derived.Test.YtkbhnofclgibfaaHxU
import Derived.Tactics
import Derived.Test.YtkbhnofclgibfaaHxN
import Derived.Test.YtkbhnofclgibfaaHxI
import Derived.Test.YtkbhnofclgibfaaHxS
import Derived.Test.YtkbhnofclgibfaaHxM
import Derived.Test.YtkbhnofclgibfaaChecked
namespace Go.Proofs.Ytkbhnofclgibfaa
open Go.Hx Go.RowKit
structure T_history_Op where
  Kind : Int
  Name : (List UInt8)
  Value : Int
  Start : Int
  End : Int
  Err : Int
  Got : Int
  Names : (List (List UInt8))
def r_T_history_Op : Rp T_history_Op := ⟨(Option Addr × Nat), 8, fun x y => [.int .i64 x.Kind, S x.Name, .int .u64 x.Value, .int .i64 x.Start, .int .i64 x.End, .int .i64 x.Err, .int .u64 x.Got, .slice y.1 x.Names.length y.2], fun x y => dslP rS y.1 y.2 x.Names, fun _ _ _ _ hm h => dslP_mono _ _ _ _ _ _ hm h, fun _ _ => rfl, fun _ _ => rfl⟩
structure T_history_key where
  done : Int
  world : (List UInt8)
  deriving DecidableEq
def r_T_history_key : Rp T_history_key := ⟨Unit, 2, fun x _ => [.int .u32 x.done, S x.world], fun _ _ _ => True, fun _ _ _ _ _ h => h, fun _ _ => rfl, fun _ _ => rfl⟩
structure T_history_entry where
  name : (List UInt8)
  v : Int
  deriving DecidableEq
def r_T_history_entry : Rp T_history_entry := ⟨Unit, 2, fun x _ => [S x.name, .int .u64 x.v], fun _ _ _ => True, fun _ _ _ _ _ h => h, fun _ _ => rfl, fun _ _ => rfl⟩
theorem L22 : Lst Try.prog 22 32 8 88 := ⟨Try.underlying22, Try.t32, _, by kernel_rfl, rfl, rfl, rfl, rfl⟩
theorem L30 : Lst Try.prog 30 9 1 16 := ⟨Try.underlying30, Try.t9, _, by kernel_rfl, rfl, rfl, rfl, rfl⟩
theorem L57 : Lst Try.prog 57 68 2 24 := ⟨Try.underlying57, Try.t68, _, by kernel_rfl, rfl, rfl, rfl, rfl⟩
theorem L58 : Lst Try.prog 58 68 2 24 := ⟨Try.underlying58, Try.t68, _, by kernel_rfl, rfl, rfl, rfl, rfl⟩
theorem L66 : Lst Try.prog 66 5 1 1 := ⟨Try.underlying66, Try.t5, _, by kernel_rfl, rfl, rfl, rfl, rfl⟩
theorem G62 : Try.prog.eqGuardType Try.prog.depth 62 = false := by kernel_rfl
theorem EQ62 (x y : T_history_key) (w : World) : (Op.equalIn 10000 62 (.agg #[.int .u32 x.done, S x.world]) (.agg #[.int .u32 y.done, S y.world])).run Try.prog w = .ok (decide (x = y)) w := by
  have hS : Try.prog.underlying 62 = some (.struct (Try.prog.fieldsOf 62)) := by kernel_rfl
  have hp : Try.prog.stoodInHeld 62 = false := by kernel_rfl
  have u9 := run_underlying (P := Try.prog) Try.underlying9
  have z9 := Try.sizeOf9; have a9 := Try.isAgg9
  have u54 := run_underlying (P := Try.prog) Try.underlying54
  have z54 := Try.sizeOf54; have a54 := Try.isAgg54
  rw [show (10000 : Nat) = 9999 + 1 from rfl, run_equalIn_agg w 9999 62 _ _ hS hp]
  simp only [Program.fieldsOf, Try.underlying62]
  go_simp
  cases x; cases y; simp; repeat' split
  all_goals simp_all
theorem CK62 (e : Bool) (x : T_history_key) (w : World) : (Instr.checkKey e 10000 62 (.agg #[.int .u32 x.done, S x.world])).run Try.prog w = .ok () w := by
  have u9 := run_underlying (P := Try.prog) Try.underlying9
  have z9 := Try.sizeOf9; have a9 := Try.isAgg9
  have u54 := run_underlying (P := Try.prog) Try.underlying54
  have z54 := Try.sizeOf54; have a54 := Try.isAgg54
  have u62 := run_underlying (P := Try.prog) Try.underlying62
  have z62 := Try.sizeOf62; have a62 := Try.isAgg62
  have c9 : ∀ v w, (Instr.checkKey e 9999 9 (S v)).run Try.prog w = .ok () w := fun v w => Go.MapKept.run_checkKey (k := S v) Try.underlying9 trivial e 9998
  have c54 : ∀ v w, (Instr.checkKey e 9999 54 (.int .u32 v)).run Try.prog w = .ok () w := fun v w => Go.MapKept.run_checkKey (k := .int .u32 v) Try.underlying54 rfl e 9998
  rw [show (10000 : Nat) = 9999 + 1 from rfl]
  unfold Instr.checkKey
  simp only [Sem.run_bind, u62, Result.andThen_ok]
  go_simp
theorem ST62 (x : T_history_key) (w : World) : (Instr.keyThatStays (.agg #[.int .u32 x.done, S x.world]) (.agg #[.int .u32 x.done, S x.world])).run Try.prog w = .ok (.agg #[.int .u32 x.done, S x.world]) w := by
  have h : Instr.sameBits 10000 (.agg #[.int .u32 x.done, S x.world]) (.agg #[.int .u32 x.done, S x.world]) = true := by
    rw [show (10000 : Nat) = 9999 + 1 from rfl]
    simp [Instr.sameBits, S, Go.MapKept.bytes_beq]
  simp [Instr.keyThatStays, h]
theorem M50 : MapG Try.prog 50 62 3 (fun x : T_history_key => .agg #[.int .u32 x.done, S x.world]) (fun n => .int .i64 n) (0 : Int) := ⟨Try.underlying50, ⟨⟨_, Try.underlying62, fun _ _ => rfl⟩, CK62, fun a b w => EQ62 a b w, ST62⟩, ⟨Try.t3, by kernel_rfl, rfl⟩⟩
def glacierlaw01_Cut (_k : Nat) (x1 : (List UInt8)) (x2 : Int) : Option ((List UInt8)) := (if decide ((x1.length : Int) > x2) = true then (Option.bind (sl x1 0 x2) fun x4 => some (x4)) else some (x1))
set_option maxRecDepth 100000 in
set_option maxHeartbeats 4000000 in
theorem glacierlaw01_Cut_ok {G w : World} {F : List HP} {R : Ending → World → Prop} (k : Nat) (x1 : (List UInt8)) (x2 : Int) (r : ((List UInt8))) (hst : St G w (F)) (hr : glacierlaw01_Cut k x1 x2 = some r)
    (hR : ∀ w', St G w' (F) → R (.returned (S r)) w') :
    Calls Try.prog 16 #[S x1, I x2] w R := by
  unfold glacierlaw01_Cut at hr
  refine enter Try.func16 rfl [(0, S x1), (1, I x2)] rfl rfl fun b => ?_
  refine wp_seq ?_
  refine wp_reg ?_
  refine L_pure 1 [(0, S x1), (1, I x2)] (by kernel_rfl) fun b => ?_
  refine wpL_nil ?_
  refine th_n ?_
  refine wp_seq ?_
  refine wp_seq ?_
  refine wp_reg ?_
  refine L_pure 4 [(0, S x1), (1, I x2), (8, .bool (decide ((x1.length : Int) > x2)))] (by kernel_rfl) fun b => ?_
  refine wpL_nil ?_
  refine th_n ?_
  refine wp_cond_mkF (t := decide ((x1.length : Int) > x2)) rfl (fun h => ?_) (fun h => ?_)
  · have hr := (if_pos h).symm.trans hr
    refine wp_seq ?_
    refine wp_reg ?_
    refine L_pure 2 [(9, S x1), (10, I x2)] (by kernel_rfl) fun b => ?_
    obtain ⟨x4, hx2, hr⟩ := bnd hr
    refine L_op rfl (O_run (v := S x4) (w' := w) (R_slice_s Try.underlying9 rfl rfl rfl hx2) rfl rfl ?_)
    refine L_pure 1 [(4, S x4)] (by kernel_rfl) fun b => ?_
    refine wpL_nil ?_
    refine th_n ?_
    refine wp_ret ?_
    refine th_r ?_
    refine ret1 rfl rfl ?_
    obtain rfl := Option.some.inj hr
    exact hR _ hst
  · have hr := (if_neg (by rw [h]; exact Bool.false_ne_true)).symm.trans hr
    refine wp_skip ?_
    refine th_n ?_
    refine wp_seq ?_
    refine wp_reg ?_
    refine L_pure 2 [(4, S x1)] (by kernel_rfl) fun b => ?_
    refine wpL_nil ?_
    refine th_n ?_
    refine wp_ret ?_
    refine ret1 rfl rfl ?_
    obtain rfl := Option.some.inj hr
    exact hR _ hst
def glacierlaw18_few_l1 (k : Nat) (x1 : (List T_history_Op)) (x2 : Int) : Nat → (List T_history_Op) → Int → Option ((List T_history_Op))
  | 0, _, _ => none
  | j + 1, v7, v8 => (Option.bind (if decide (v8 < (x1.length : Int)) = true then some (decide (v8 < x2)) else some (false)) fun y6 => (if y6 = true then (Option.bind (gt x1 v8) fun x5 => (Option.bind (glacierlaw01_Cut k x5.Name 2) fun y7 => (Option.bind (if decide (x5.End ≥ 0) = true then some ((mx2 (mn2 x5.End 2000) (mn2 (mx2 x5.Start 0) 1000))) else some (x5.End)) fun y8 => (Option.bind (sl x5.Names 0 (mn2 (x5.Names.length : Int) 4)) fun x6 => (if room (([] : List (List UInt8)).length + x6.length) 16 = true then (if room (v7.length + ([(T_history_Op.mk (IntKind.i64.wrap (1 + ((IntKind.i64.wrap ((x5.Kind.tmod 5) + 5)).tmod 5))) y7 x5.Value (mn2 (mx2 x5.Start 0) 1000) y8 x5.Err x5.Got ([] ++ x6))]).length) 88 = true then (glacierlaw18_few_l1 k x1 x2 j (v7 ++ ([(T_history_Op.mk (IntKind.i64.wrap (1 + ((IntKind.i64.wrap ((x5.Kind.tmod 5) + 5)).tmod 5))) y7 x5.Value (mn2 (mx2 x5.Start 0) 1000) y8 x5.Err x5.Got ([] ++ x6))])) (IntKind.i64.wrap (v8 + 1))) else none) else none))))) else some (v7)))
def glacierlaw18_few (k : Nat) (x1 : (List T_history_Op)) (x2 : Int) : Option ((List T_history_Op)) := (Option.bind (glacierlaw18_few_l1 k x1 x2 k ([]) (0 : Int)) fun y5 => some (y5))
set_option maxRecDepth 100000 in
set_option maxHeartbeats 4000000 in
theorem glacierlaw18_few_ok {G w : World} {F : List HP} {R : Ending → World → Prop} (k : Nat) (x1 : (List T_history_Op)) (x2 : Int) (a1 : Option Addr) (c1 : Nat) (r : ((List T_history_Op))) (hst : St G w (dsl r_T_history_Op a1 c1 x1 :: F)) (hr : glacierlaw18_few k x1 x2 = some r)
    (hR : ∀ (a8 : Option Addr) (c8 : Nat) w', St G w' (osl r_T_history_Op 32 a8 c8 r :: dsl r_T_history_Op a1 c1 x1 :: F) → R (.returned (.slice a8 r.length c8)) w') :
    Calls Try.prog 11 #[.slice a1 x1.length c1, I x2] w R := by
  unfold glacierlaw18_few at hr
  refine enter Try.func11 rfl [(0, .slice a1 x1.length c1), (1, I x2)] rfl rfl fun b => ?_
  refine wp_seq ?_
  refine wp_reg ?_
  refine L_pure 1 [(0, .slice a1 x1.length c1), (1, I x2)] (by kernel_rfl) fun b => ?_
  refine wpL_nil ?_
  refine th_n ?_
  refine wp_seq ?_
  refine wp_reg ?_
  refine L_op rfl (O_bs (T := 32) [] #[] hst (by kernel_rfl) (by kernel_rfl) rfl fun p5 w hst => ?_)
  have hst := osl_of_blk0 (ecs := []) r_T_history_Op [] rfl (fun m => trivial) rfl hst
  refine L_pure 1 [(0, .slice a1 x1.length c1), (1, I x2), (5, .slice (some ⟨p5, 0, none⟩) 0 0)] (by kernel_rfl) fun b => ?_
  refine wpL_nil ?_
  refine th_n ?_
  refine wp_seq ?_
  refine wp_seq ?_
  refine wp_reg ?_
  refine L_pure 1 [(0, .slice a1 x1.length c1), (1, I x2), (5, .slice (some ⟨p5, 0, none⟩) 0 0), (6, I 0)] (by kernel_rfl) fun b => ?_
  refine wpL_nil ?_
  refine th_n ?_
  obtain ⟨y5, hy5, hk4⟩ := bnd hr
  clear hr
  refine Go.Hx.wp_cut (fun a w => ∃ (a11 : Option Addr) (c11 : Nat)(b : Nat → Value), a = mkF 65 b [(5, .slice a11 y5.length c11)] ∧ St G w (osl r_T_history_Op 32 a11 c11 y5 :: dsl r_T_history_Op a1 c1 x1 :: F)) ?_ ?_
  · rintro _ w ⟨a11, c11, b, rfl, hst⟩
    have hr := hk4
    refine th_n ?_
    refine wp_seq ?_
    refine wp_reg ?_
    refine L_pure 2 [(4, .slice a11 y5.length c11)] (by kernel_rfl) fun b => ?_
    refine wpL_nil ?_
    refine th_n ?_
    refine wp_ret ?_
    refine ret1 rfl rfl ?_
    obtain rfl := Option.some.inj hr
    have hst := ((hst.pull 1).pull 1)
    exact hR a11 c11 _ hst
  · have hst := ((hst.pull 1).pull 1)
    refine wp_block ?_
    refine wp_loop_fuel (fun j a w => ∃ (v7 : (List T_history_Op)) (v8 : Int) (a9 : Option Addr) (c9 : Nat) (b : Nat → Value), a = mkF 65 b [(0, .slice a1 x1.length c1), (1, I x2), (5, .slice a9 v7.length c9), (6, I v8)] ∧ St G w (osl r_T_history_Op 32 a9 c9 v7 :: dsl r_T_history_Op a1 c1 x1 :: F) ∧ glacierlaw18_few_l1 k x1 x2 j v7 v8 = some y5) (k := k) ⟨[], (0 : Int), (some ⟨p5, 0, none⟩), 0, (kpX [(0, .slice a1 x1.length c1), (1, I x2), (5, .slice (some ⟨p5, 0, none⟩) 0 0), (6, I 0)] rfl ⟨hst, hy5⟩)⟩ ?_ ?_
    · rintro _ _ ⟨_, _, _, _, _, _, _, h⟩
      rw [glacierlaw18_few_l1] at h
      cases h
    · rintro j _ w ⟨v7, v8, a9, c9, b, rfl, hst, hr⟩
      rw [glacierlaw18_few_l1] at hr
      refine wp_seq ?_
      obtain ⟨y6, hy6, hk5⟩ := bnd hr
      clear hr
      refine wp_seq_cut (fun a w => ∃ (b : Nat → Value), a = mkF 65 b [(0, .slice a1 x1.length c1), (1, I x2), (5, .slice a9 v7.length c9), (6, I v8), (17, .bool y6)] ∧ St G w (osl r_T_history_Op 32 a9 c9 v7 :: dsl r_T_history_Op a1 c1 x1 :: F)) ?_ ?_
      · rintro _ w ⟨b, rfl, hst⟩
        have hr := hk5
        refine wp_cond_mkF (t := y6) rfl (fun h => ?_) (fun h => ?_)
        · have hr := (if_pos h).symm.trans hr
          refine wp_skip ?_
          refine th_n ?_
          refine wp_seq ?_
          refine wp_block ?_
          refine wp_seq ?_
          refine wp_reg ?_
          refine L_pure 2 [(0, .slice a1 x1.length c1), (1, I x2), (5, .slice a9 v7.length c9), (6, I v8), (20, .slice a1 x1.length c1), (21, I v8)] (by kernel_rfl) fun b => ?_
          obtain ⟨x5, hx3, hr⟩ := bnd hr
          refine L_op rfl (O_run (v := pt (ab a1) (ao a1 + v8.toNat * 8)) (w' := w) (R_ia L22 rfl rfl (dsl_addr (hst.pull 1) hx3) (gt_some hx3).1 (gt_some hx3).2.1) rfl rfl ?_)
          obtain ⟨q2, hc2, hst⟩ := dsl_cells (hst.pull 1) hx3
          refine L_op rfl (O_run (v := .agg #[I x5.Kind, S x5.Name, .int .u64 x5.Value, I x5.Start, I x5.End, I x5.Err, .int .u64 x5.Got, .slice q2.1 x5.Names.length q2.2]) (w' := w) (R_loadAt (off := ao a1 + v8.toNat * 8) (j := 0) hc2 rfl rfl) rfl rfl ?_)
          refine L_op rfl (O_alloc (i := Try.t32) (z := .agg #[I 0, S ([]), .int .u64 0, I 0, I 0, I 0, .int .u64 0, .slice none 0 0]) [I 0, S ([]), .int .u64 0, I 0, I 0, I 0, .int .u64 0, .slice none 0 0] hst rfl rfl rfl rfl fun p6 w hst => ?_)
          refine L_op rfl (O_store [I x5.Kind, S x5.Name, .int .u64 x5.Value, I x5.Start, I x5.End, I x5.Err, .int .u64 x5.Got, .slice q2.1 x5.Names.length q2.2] hst rfl rfl (by kernel_rfl) fun w hst => ?_)
          refine wpL_nil ?_
          refine th_n ?_
          refine wp_seq ?_
          refine wp_reg ?_
          refine L_pure 1 [(0, .slice a1 x1.length c1), (1, I x2), (5, .slice a9 v7.length c9), (6, I v8), (7, pt p6 0), (24, pt p6 0)] (by kernel_rfl) fun b => ?_
          refine L_op rfl (O_run (v := I x5.Kind) (w' := w) (R_load hst rfl rfl) rfl rfl ?_)
          refine L_pure 5 [(0, .slice a1 x1.length c1), (1, I x2), (5, .slice a9 v7.length c9), (6, I v8), (7, pt p6 0), (29, I (IntKind.i64.wrap (1 + ((IntKind.i64.wrap ((x5.Kind.tmod 5) + 5)).tmod 5)))), (30, pt p6 0)] (by kernel_rfl) fun b => ?_
          refine L_op rfl (O_store [I (IntKind.i64.wrap (1 + ((IntKind.i64.wrap ((x5.Kind.tmod 5) + 5)).tmod 5))), S x5.Name, .int .u64 x5.Value, I x5.Start, I x5.End, I x5.Err, .int .u64 x5.Got, .slice q2.1 x5.Names.length q2.2] hst rfl rfl (by kernel_rfl) fun w hst => ?_)
          refine wpL_nil ?_
          refine th_n ?_
          refine wp_seq ?_
          refine wp_reg ?_
          refine L_pure 1 [(0, .slice a1 x1.length c1), (1, I x2), (5, .slice a9 v7.length c9), (6, I v8), (7, pt p6 0), (31, pt p6 1)] (by kernel_rfl) fun b => ?_
          refine L_op rfl (O_run (v := S x5.Name) (w' := w) (R_load hst rfl rfl) rfl rfl ?_)
          obtain ⟨y7, hy7, hr⟩ := bnd hr
          refine L_op rfl (O_call (vs := #[S x5.Name, I 2]) Try.call16 (by kernel_rfl) (glacierlaw01_Cut_ok k x5.Name 2 y7 hst hy7 fun w hst => ?_))
          refine CK_ret rfl ?_
          refine L_pure 1 [(0, .slice a1 x1.length c1), (1, I x2), (5, .slice a9 v7.length c9), (6, I v8), (7, pt p6 0), (33, S y7), (34, pt p6 1)] (by kernel_rfl) fun b => ?_
          refine L_op rfl (O_store [I (IntKind.i64.wrap (1 + ((IntKind.i64.wrap ((x5.Kind.tmod 5) + 5)).tmod 5))), S y7, .int .u64 x5.Value, I x5.Start, I x5.End, I x5.Err, .int .u64 x5.Got, .slice q2.1 x5.Names.length q2.2] hst rfl rfl (by kernel_rfl) fun w hst => ?_)
          refine wpL_nil ?_
          refine th_n ?_
          refine wp_seq ?_
          refine wp_reg ?_
          refine L_pure 1 [(0, .slice a1 x1.length c1), (1, I x2), (5, .slice a9 v7.length c9), (6, I v8), (7, pt p6 0), (35, pt p6 3)] (by kernel_rfl) fun b => ?_
          refine L_op rfl (O_run (v := I x5.Start) (w' := w) (R_load hst rfl rfl) rfl rfl ?_)
          refine L_pure 3 [(0, .slice a1 x1.length c1), (1, I x2), (5, .slice a9 v7.length c9), (6, I v8), (7, pt p6 0), (38, I (mn2 (mx2 x5.Start 0) 1000)), (39, pt p6 3)] (by kernel_rfl) fun b => ?_
          refine L_op rfl (O_store [I (IntKind.i64.wrap (1 + ((IntKind.i64.wrap ((x5.Kind.tmod 5) + 5)).tmod 5))), S y7, .int .u64 x5.Value, I (mn2 (mx2 x5.Start 0) 1000), I x5.End, I x5.Err, .int .u64 x5.Got, .slice q2.1 x5.Names.length q2.2] hst rfl rfl (by kernel_rfl) fun w hst => ?_)
          refine wpL_nil ?_
          refine th_n ?_
          obtain ⟨y8, hy8, hk6⟩ := bnd hr
          clear hr
          refine wp_seq_cut (fun a w => ∃ (b : Nat → Value), a = mkF 65 b [(0, .slice a1 x1.length c1), (1, I x2), (5, .slice a9 v7.length c9), (6, I v8), (7, pt p6 0)] ∧ St G w (blk p6 (cl [I (IntKind.i64.wrap (1 + ((IntKind.i64.wrap ((x5.Kind.tmod 5) + 5)).tmod 5))), S y7, .int .u64 x5.Value, I (mn2 (mx2 x5.Start 0) 1000), I y8, I x5.Err, .int .u64 x5.Got, .slice q2.1 x5.Names.length q2.2] 32) :: dsl rS q2.1 q2.2 x5.Names :: dsl r_T_history_Op a1 c1 x1 :: osl r_T_history_Op 32 a9 c9 v7 :: F)) ?_ ?_
          · rintro _ w ⟨b, rfl, hst⟩
            have hr := hk6
            refine wp_seq ?_
            refine wp_reg ?_
            refine L_op rfl (O_bs (T := 9) [] #[] hst (by kernel_rfl) (by kernel_rfl) rfl fun p7 w hst => ?_)
            have hst := osl_of_blk0 (ecs := []) rS [] rfl (fun m => trivial) rfl hst
            refine L_pure 1 [(0, .slice a1 x1.length c1), (1, I x2), (5, .slice a9 v7.length c9), (6, I v8), (7, pt p6 0), (50, .slice (some ⟨p7, 0, none⟩) 0 0), (51, pt p6 7)] (by kernel_rfl) fun b => ?_
            refine L_op rfl (O_run (v := .slice q2.1 x5.Names.length q2.2) (w' := w) (R_load (hst.pull 1) rfl rfl) rfl rfl ?_)
            refine L_pure 1 [(0, .slice a1 x1.length c1), (1, I x2), (5, .slice a9 v7.length c9), (6, I v8), (7, pt p6 0), (50, .slice (some ⟨p7, 0, none⟩) 0 0), (52, .slice q2.1 x5.Names.length q2.2), (53, pt p6 7)] (by kernel_rfl) fun b => ?_
            refine L_op rfl (O_run (v := .slice q2.1 x5.Names.length q2.2) (w' := w) (R_load (hst.pull 1) rfl rfl) rfl rfl ?_)
            refine L_pure 2 [(0, .slice a1 x1.length c1), (1, I x2), (5, .slice a9 v7.length c9), (6, I v8), (7, pt p6 0), (50, .slice (some ⟨p7, 0, none⟩) 0 0), (52, .slice q2.1 x5.Names.length q2.2), (56, I (mn2 (x5.Names.length : Int) 4))] (by kernel_rfl) fun b => ?_
            obtain ⟨x6, hx4, hr⟩ := bnd hr
            refine L_op rfl (O_slice_d L30 (hst.pull 2) rfl rfl rfl hx4 rfl fun a12 c12 hst => ?_)
            obtain ⟨hb3, hr⟩ := chk hr
            refine L_op rfl (O_app_d L30 (hst.pull 2) rfl rfl hb3 rfl fun a13 c13 w hst => ?_)
            refine L_pure 1 [(0, .slice a1 x1.length c1), (1, I x2), (5, .slice a9 v7.length c9), (6, I v8), (7, pt p6 0), (58, .slice a13 ([] ++ x6).length c13), (59, pt p6 7)] (by kernel_rfl) fun b => ?_
            refine L_op rfl (O_store [I (IntKind.i64.wrap (1 + ((IntKind.i64.wrap ((x5.Kind.tmod 5) + 5)).tmod 5))), S y7, .int .u64 x5.Value, I (mn2 (mx2 x5.Start 0) 1000), I y8, I x5.Err, .int .u64 x5.Got, .slice a13 ([] ++ x6).length c13] (hst.pull 3) rfl rfl (by kernel_rfl) fun w hst => ?_)
            refine wpL_nil ?_
            refine th_n ?_
            refine wp_reg ?_
            refine L_pure 1 [(0, .slice a1 x1.length c1), (1, I x2), (6, I v8), (7, pt p6 0), (60, .slice a9 v7.length c9)] (by kernel_rfl) fun b => ?_
            refine L_op rfl (O_run (v := .agg #[I (IntKind.i64.wrap (1 + ((IntKind.i64.wrap ((x5.Kind.tmod 5) + 5)).tmod 5))), S y7, .int .u64 x5.Value, I (mn2 (mx2 x5.Start 0) 1000), I y8, I x5.Err, .int .u64 x5.Got, .slice a13 ([] ++ x6).length c13]) (w' := w) (R_load hst rfl rfl) rfl rfl ?_)
            have hst := osl_freeze (hst.pull 1)
            refine L_op rfl (O_bs (T := 32) [I (IntKind.i64.wrap (1 + ((IntKind.i64.wrap ((x5.Kind.tmod 5) + 5)).tmod 5))), S y7, .int .u64 x5.Value, I (mn2 (mx2 x5.Start 0) 1000), I y8, I x5.Err, .int .u64 x5.Got, .slice a13 ([] ++ x6).length c13] #[(0, .agg #[I (IntKind.i64.wrap (1 + ((IntKind.i64.wrap ((x5.Kind.tmod 5) + 5)).tmod 5))), S y7, .int .u64 x5.Value, I (mn2 (mx2 x5.Start 0) 1000), I y8, I x5.Err, .int .u64 x5.Got, .slice a13 ([] ++ x6).length c13])] hst (by kernel_rfl) (by kernel_rfl) rfl fun p8 w hst => ?_)
            have hst := (hst.pull 1).dup
            have hst := ((hst.pull 2).pull 1)
            have hst := osl_of_blk (ecs := [[I (IntKind.i64.wrap (1 + ((IntKind.i64.wrap ((x5.Kind.tmod 5) + 5)).tmod 5))), S y7, .int .u64 x5.Value, I (mn2 (mx2 x5.Start 0) 1000), I y8, I x5.Err, .int .u64 x5.Got, .slice a13 ([] ++ x6).length c13]]) r_T_history_Op [(T_history_Op.mk (IntKind.i64.wrap (1 + ((IntKind.i64.wrap ((x5.Kind.tmod 5) + 5)).tmod 5))) y7 x5.Value (mn2 (mx2 x5.Start 0) 1000) y8 x5.Err x5.Got ([] ++ x6))] rfl (fun m h => ⟨⟨((a13, c13)), rfl, h⟩, trivial⟩) rfl hst
            obtain ⟨hb4, hr⟩ := chk hr
            refine L_op rfl (O_app_o L22 (hst.pull 6) rfl rfl hb4 rfl fun a14 c14 w hst => ?_)
            refine L_pure 1 [(0, .slice a1 x1.length c1), (1, I x2), (5, .slice a14 (v7 ++ ([(T_history_Op.mk (IntKind.i64.wrap (1 + ((IntKind.i64.wrap ((x5.Kind.tmod 5) + 5)).tmod 5))) y7 x5.Value (mn2 (mx2 x5.Start 0) 1000) y8 x5.Err x5.Got ([] ++ x6))])).length c14), (6, I v8)] (by kernel_rfl) fun b => ?_
            refine wpL_nil ?_
            refine ib_n (th_n ?_)
            refine wp_reg ?_
            refine L_pure 3 [(0, .slice a1 x1.length c1), (1, I x2), (5, .slice a14 (v7 ++ ([(T_history_Op.mk (IntKind.i64.wrap (1 + ((IntKind.i64.wrap ((x5.Kind.tmod 5) + 5)).tmod 5))) y7 x5.Value (mn2 (mx2 x5.Start 0) 1000) y8 x5.Err x5.Got ([] ++ x6))])).length c14), (6, I (IntKind.i64.wrap (v8 + 1)))] (by kernel_rfl) fun b => ?_
            refine wpL_nil ?_
            refine th_n ?_
            have hst := (((hst.pull 6).pull 1).cut 2 5)
            exact ⟨(v7 ++ ([(T_history_Op.mk (IntKind.i64.wrap (1 + ((IntKind.i64.wrap ((x5.Kind.tmod 5) + 5)).tmod 5))) y7 x5.Value (mn2 (mx2 x5.Start 0) 1000) y8 x5.Err x5.Got ([] ++ x6))])), (IntKind.i64.wrap (v8 + 1)), a14, c14, (kpX [(0, .slice a1 x1.length c1), (1, I x2), (5, .slice a14 (v7 ++ ([(T_history_Op.mk (IntKind.i64.wrap (1 + ((IntKind.i64.wrap ((x5.Kind.tmod 5) + 5)).tmod 5))) y7 x5.Value (mn2 (mx2 x5.Start 0) 1000) y8 x5.Err x5.Got ([] ++ x6))])).length c14), (6, I (IntKind.i64.wrap (v8 + 1)))] rfl ⟨hst, hr⟩)⟩
          · have hr := hy8
            refine wp_seq ?_
            refine wp_reg ?_
            refine L_pure 1 [(0, .slice a1 x1.length c1), (1, I x2), (5, .slice a9 v7.length c9), (6, I v8), (7, pt p6 0), (40, pt p6 4)] (by kernel_rfl) fun b => ?_
            refine L_op rfl (O_run (v := I x5.End) (w' := w) (R_load hst rfl rfl) rfl rfl ?_)
            refine L_pure 1 [(0, .slice a1 x1.length c1), (1, I x2), (5, .slice a9 v7.length c9), (6, I v8), (7, pt p6 0), (42, .bool (decide (x5.End ≥ 0)))] (by kernel_rfl) fun b => ?_
            refine wpL_nil ?_
            refine th_n ?_
            refine wp_cond_mkF (t := decide (x5.End ≥ 0)) rfl (fun h => ?_) (fun h => ?_)
            · have hr := (if_pos h).symm.trans hr
              refine wp_reg ?_
              refine L_pure 1 [(0, .slice a1 x1.length c1), (1, I x2), (5, .slice a9 v7.length c9), (6, I v8), (7, pt p6 0), (43, pt p6 4)] (by kernel_rfl) fun b => ?_
              refine L_op rfl (O_run (v := I x5.End) (w' := w) (R_load hst rfl rfl) rfl rfl ?_)
              refine L_pure 2 [(0, .slice a1 x1.length c1), (1, I x2), (5, .slice a9 v7.length c9), (6, I v8), (7, pt p6 0), (45, I (mn2 x5.End 2000)), (46, pt p6 3)] (by kernel_rfl) fun b => ?_
              refine L_op rfl (O_run (v := I (mn2 (mx2 x5.Start 0) 1000)) (w' := w) (R_load hst rfl rfl) rfl rfl ?_)
              refine L_pure 2 [(0, .slice a1 x1.length c1), (1, I x2), (5, .slice a9 v7.length c9), (6, I v8), (7, pt p6 0), (48, I (mx2 (mn2 x5.End 2000) (mn2 (mx2 x5.Start 0) 1000))), (49, pt p6 4)] (by kernel_rfl) fun b => ?_
              refine L_op rfl (O_store [I (IntKind.i64.wrap (1 + ((IntKind.i64.wrap ((x5.Kind.tmod 5) + 5)).tmod 5))), S y7, .int .u64 x5.Value, I (mn2 (mx2 x5.Start 0) 1000), I (mx2 (mn2 x5.End 2000) (mn2 (mx2 x5.Start 0) 1000)), I x5.Err, .int .u64 x5.Got, .slice q2.1 x5.Names.length q2.2] hst rfl rfl (by kernel_rfl) fun w hst => ?_)
              refine wpL_nil ?_
              refine th_n ?_
              obtain rfl := Option.some.inj hr
              have hst := ((((hst.pull 3).pull 3).pull 3).pull 3)
              exact (kpX [(0, .slice a1 x1.length c1), (1, I x2), (5, .slice a9 v7.length c9), (6, I v8), (7, pt p6 0)] rfl hst)
            · have hr := (if_neg (by rw [h]; exact Bool.false_ne_true)).symm.trans hr
              refine wp_skip ?_
              refine th_n ?_
              obtain rfl := Option.some.inj hr
              have hst := ((((hst.pull 3).pull 3).pull 3).pull 3)
              exact (kpX [(0, .slice a1 x1.length c1), (1, I x2), (5, .slice a9 v7.length c9), (6, I v8), (7, pt p6 0)] rfl hst)
        · have hr := (if_neg (by rw [h]; exact Bool.false_ne_true)).symm.trans hr
          refine wp_exit ?_
          refine th_x (th_x (ib_x (th_n ?_)))
          obtain rfl := Option.some.inj hr
          have hst := ((hst.pull 1).pull 1)
          exact ⟨a9, c9, (kpX [(5, .slice a9 v7.length c9)] rfl hst)⟩
      · have hr := hy6
        refine wp_reg ?_
        refine L_pure 5 [(0, .slice a1 x1.length c1), (1, I x2), (5, .slice a9 v7.length c9), (6, I v8), (13, .bool (decide (v8 < (x1.length : Int))))] (by kernel_rfl) fun b => ?_
        by_cases h : (decide (v8 < (x1.length : Int))) = true
        · have hr := (if_pos h).symm.trans hr
          refine L_keep ((13, .bool (decide (v8 < (x1.length : Int)))) :: [(0, .slice a1 x1.length c1), (1, I x2), (5, .slice a9 v7.length c9), (6, I v8)]) rfl fun b => ?_
          refine L_bool h ?_
          refine L_pure 4 [(0, .slice a1 x1.length c1), (1, I x2), (5, .slice a9 v7.length c9), (6, I v8), (17, .bool (decide (v8 < x2)))] (by kernel_rfl) fun b => ?_
          refine wpL_nil ?_
          refine th_n ?_
          obtain rfl := Option.some.inj hr
          have hst := ((hst.pull 1).pull 1)
          exact (kpX [(0, .slice a1 x1.length c1), (1, I x2), (5, .slice a9 v7.length c9), (6, I v8), (17, .bool (decide (v8 < x2)))] rfl hst)
        · have hr := (if_neg h).symm.trans hr
          refine L_keep ((13, .bool (decide (v8 < (x1.length : Int)))) :: [(0, .slice a1 x1.length c1), (1, I x2), (5, .slice a9 v7.length c9), (6, I v8)]) rfl fun b => ?_
          refine L_bool (eq_false_of_ne_true h) ?_
          refine L_pure 4 [(0, .slice a1 x1.length c1), (1, I x2), (5, .slice a9 v7.length c9), (6, I v8), (17, .bool false)] (by kernel_rfl) fun b => ?_
          refine wpL_nil ?_
          refine th_n ?_
          obtain rfl := Option.some.inj hr
          have hst := ((hst.pull 1).pull 1)
          exact (kpX [(0, .slice a1 x1.length c1), (1, I x2), (5, .slice a9 v7.length c9), (6, I v8), (17, .bool false)] rfl hst)
def history_search_over_l1 (k : Nat) (x1 : (List T_history_Op)) (x3 : Int) : Nat → Int → Option (Flow (Bool) (Unit))
  | 0, _ => none
  | j + 1, v4 => (if decide (v4 < (x1.length : Int)) = true then (Option.bind (gt x1 v4) fun x5 => (Option.bind (if 0 ≤ v4 then (if ((bAnd .u32 (shR .u32 x3 v4) 1) == 0) = true then some (decide (x5.End ≥ 0)) else some (false)) else none) fun y4 => (if y4 = true then some (Flow.ret (false)) else (history_search_over_l1 k x1 x3 j (IntKind.i64.wrap (v4 + 1)))))) else some (Flow.go ()))
def history_search_over (k : Nat) (x1 : (List T_history_Op)) (_x2 : (List (T_history_key × Int))) (x3 : Int) : Option (Bool) := (Option.bind (history_search_over_l1 k x1 x3 k (0 : Int)) fun y3 => (match y3 with | Flow.ret r => some r | Flow.go _ => some (true)))
set_option maxRecDepth 100000 in
set_option maxHeartbeats 4000000 in
theorem history_search_over_ok {G w : World} {F : List HP} {R : Ending → World → Prop} (k : Nat) (x1 : (List T_history_Op)) (x2 : (List (T_history_key × Int))) (x3 : Int) (p1 : Nat) (a1 : Option Addr) (c1 : Nat) (p2 : Nat) (r : (Bool)) (hst : St G w (blk p1 (cl [.slice a1 x1.length c1, .map (some p2)] 52) :: osl r_T_history_Op 32 a1 c1 x1 :: mpo (fun x : T_history_key => .agg #[.int .u32 x.done, S x.world]) (fun n => .int .i64 n) p2 x2 :: F)) (hr : history_search_over k x1 x2 x3 = some r)
    (hR : ∀ w', St G w' (blk p1 (cl [.slice a1 x1.length c1, .map (some p2)] 52) :: osl r_T_history_Op 32 a1 c1 x1 :: mpo (fun x : T_history_key => .agg #[.int .u32 x.done, S x.world]) (fun n => .int .i64 n) p2 x2 :: F) → R (.returned (.bool r)) w') :
    Calls Try.prog 18 #[pt p1 0, .int .u32 x3] w R := by
  unfold history_search_over at hr
  refine enter Try.func18 rfl [(0, pt p1 0), (1, .int .u32 x3)] rfl rfl fun b => ?_
  refine wp_seq ?_
  refine wp_reg ?_
  refine L_pure 1 [(0, pt p1 0), (1, .int .u32 x3)] (by kernel_rfl) fun b => ?_
  refine wpL_nil ?_
  refine th_n ?_
  refine wp_seq ?_
  refine wp_seq ?_
  refine wp_reg ?_
  refine L_pure 3 [(1, .int .u32 x3), (9, pt p1 0)] (by kernel_rfl) fun b => ?_
  refine L_op rfl (O_run (v := .slice a1 x1.length c1) (w' := w) (R_load hst rfl rfl) rfl rfl ?_)
  refine L_pure 2 [(1, .int .u32 x3), (10, .slice a1 x1.length c1), (11, I (x1.length : Int)), (12, I 0)] (by kernel_rfl) fun b => ?_
  refine wpL_nil ?_
  refine th_n ?_
  obtain ⟨y3, hy3, hk3⟩ := bnd hr
  clear hr
  refine Go.Hx.wp_cut (fun a w => ∃ (z2 : Unit) (b : Nat → Value), y3 = .go z2 ∧ a = mkF 28 b [] ∧ St G w (blk p1 (cl [.slice a1 x1.length c1, .map (some p2)] 52) :: osl r_T_history_Op 32 a1 c1 x1 :: mpo (fun x : T_history_key => .agg #[.int .u32 x.done, S x.world]) (fun n => .int .i64 n) p2 x2 :: F)) ?_ ?_
  · rintro _ w ⟨z2, b, rfl, rfl, hst⟩
    have hr := hk3
    refine th_n ?_
    refine wp_seq ?_
    refine wp_reg ?_
    refine L_pure 1 [(4, .bool true)] (by kernel_rfl) fun b => ?_
    refine wpL_nil ?_
    refine th_n ?_
    refine wp_ret ?_
    refine ret1 rfl rfl ?_
    obtain rfl := Option.some.inj hr
    have hst := (((hst.pull 2).pull 2).pull 2)
    exact hR _ hst
  · have hst := (((hst.pull 2).pull 2).pull 2)
    refine wp_block ?_
    refine wp_loop_fuel (fun j a w => ∃ (v4 : Int) (b : Nat → Value), a = mkF 28 b [(1, .int .u32 x3), (10, .slice a1 x1.length c1), (11, I (x1.length : Int)), (12, I v4)] ∧ St G w (blk p1 (cl [.slice a1 x1.length c1, .map (some p2)] 52) :: osl r_T_history_Op 32 a1 c1 x1 :: mpo (fun x : T_history_key => .agg #[.int .u32 x.done, S x.world]) (fun n => .int .i64 n) p2 x2 :: F) ∧ history_search_over_l1 k x1 x3 j v4 = some y3) (k := k) ⟨(0 : Int), (kpX [(1, .int .u32 x3), (10, .slice a1 x1.length c1), (11, I (x1.length : Int)), (12, I 0)] rfl ⟨hst, hy3⟩)⟩ ?_ ?_
    · rintro _ _ ⟨_, _, _, _, h⟩
      rw [history_search_over_l1] at h
      cases h
    · rintro j _ w ⟨v4, b, rfl, hst, hr⟩
      rw [history_search_over_l1] at hr
      refine wp_seq ?_
      refine wp_reg ?_
      refine L_pure 1 [(1, .int .u32 x3), (10, .slice a1 x1.length c1), (11, I (x1.length : Int)), (12, I v4), (13, .bool (decide (v4 < (x1.length : Int))))] (by kernel_rfl) fun b => ?_
      refine wpL_nil ?_
      refine th_n ?_
      refine wp_seq ?_
      refine wp_cond_mkF (t := decide (v4 < (x1.length : Int))) rfl (fun h => ?_) (fun h => ?_)
      · have hr := (if_pos h).symm.trans hr
        refine wp_skip ?_
        refine th_n ?_
        refine wp_seq ?_
        refine wp_block ?_
        refine wp_seq ?_
        refine wp_reg ?_
        refine L_pure 1 [(1, .int .u32 x3), (10, .slice a1 x1.length c1), (11, I (x1.length : Int)), (12, I v4), (14, I v4)] (by kernel_rfl) fun b => ?_
        obtain ⟨x5, hx2, hr⟩ := bnd hr
        refine L_op rfl (O_run (v := pt (ab a1) (ao a1 + v4.toNat * 8)) (w' := w) (R_ia L22 rfl rfl (osl_addr (hst.pull 1) hx2) (gt_some hx2).1 (gt_some hx2).2.1) rfl rfl ?_)
        obtain ⟨q2, hc2, hst⟩ := osl_cells (hst.pull 1) hx2
        refine L_op rfl (O_run (v := .agg #[I x5.Kind, S x5.Name, .int .u64 x5.Value, I x5.Start, I x5.End, I x5.Err, .int .u64 x5.Got, .slice q2.1 x5.Names.length q2.2]) (w' := w) (R_loadAt (off := ao a1 + v4.toNat * 8) (j := 0) hc2 rfl rfl) rfl rfl ?_)
        refine L_op rfl (O_alloc (i := Try.t32) (z := .agg #[I 0, S ([]), .int .u64 0, I 0, I 0, I 0, .int .u64 0, .slice none 0 0]) [I 0, S ([]), .int .u64 0, I 0, I 0, I 0, .int .u64 0, .slice none 0 0] hst rfl rfl rfl rfl fun p4 w hst => ?_)
        refine L_pure 1 [(1, .int .u32 x3), (5, I v4), (6, pt p4 0), (10, .slice a1 x1.length c1), (11, I (x1.length : Int)), (12, I v4), (16, .agg #[I x5.Kind, S x5.Name, .int .u64 x5.Value, I x5.Start, I x5.End, I x5.Err, .int .u64 x5.Got, .slice q2.1 x5.Names.length q2.2])] (by kernel_rfl) fun b => ?_
        refine L_op rfl (O_store [I x5.Kind, S x5.Name, .int .u64 x5.Value, I x5.Start, I x5.End, I x5.Err, .int .u64 x5.Got, .slice q2.1 x5.Names.length q2.2] hst rfl rfl (by kernel_rfl) fun w hst => ?_)
        refine wpL_nil ?_
        refine th_n ?_
        obtain ⟨y4, hy4, hk4⟩ := bnd hr
        clear hr
        refine wp_seq_cut (fun a w => ∃ (b : Nat → Value), a = mkF 28 b [(1, .int .u32 x3), (10, .slice a1 x1.length c1), (11, I (x1.length : Int)), (12, I v4), (26, .bool y4)] ∧ St G w (blk p4 (cl [I x5.Kind, S x5.Name, .int .u64 x5.Value, I x5.Start, I x5.End, I x5.Err, .int .u64 x5.Got, .slice q2.1 x5.Names.length q2.2] 32) :: dsl rS q2.1 q2.2 x5.Names :: osl r_T_history_Op 32 a1 c1 x1 :: blk p1 (cl [.slice a1 x1.length c1, .map (some p2)] 52) :: mpo (fun x : T_history_key => .agg #[.int .u32 x.done, S x.world]) (fun n => .int .i64 n) p2 x2 :: F)) ?_ ?_
        · rintro _ w ⟨b, rfl, hst⟩
          have hr := hk4
          refine wp_cond_mkF (t := y4) rfl (fun h => ?_) (fun h => ?_)
          · have hr := (if_pos h).symm.trans hr
            refine wp_seq ?_
            refine wp_reg ?_
            refine L_pure 1 [(4, .bool false)] (by kernel_rfl) fun b => ?_
            refine wpL_nil ?_
            refine th_n ?_
            refine wp_ret ?_
            refine ib_r (th_r (th_r (ib_r (th_r (th_r ?_)))))
            refine ret1 rfl rfl ?_
            obtain rfl := Option.some.inj hr
            obtain rfl := Option.some.inj hk3
            have hst := ((((hst.pull 4).pull 3).pull 4).cut 3 2)
            exact hR _ hst
          · have hr := (if_neg (by rw [h]; exact Bool.false_ne_true)).symm.trans hr
            refine wp_skip ?_
            refine ib_n (th_n ?_)
            refine wp_reg ?_
            refine L_pure 2 [(1, .int .u32 x3), (10, .slice a1 x1.length c1), (11, I (x1.length : Int)), (12, I (IntKind.i64.wrap (v4 + 1)))] (by kernel_rfl) fun b => ?_
            refine wpL_nil ?_
            refine th_n ?_
            have hst := ((((hst.pull 4).pull 3).pull 4).cut 3 2)
            exact ⟨(IntKind.i64.wrap (v4 + 1)), (kpX [(1, .int .u32 x3), (10, .slice a1 x1.length c1), (11, I (x1.length : Int)), (12, I (IntKind.i64.wrap (v4 + 1)))] rfl ⟨hst, hr⟩)⟩
        · have hr := hy4
          refine wp_reg ?_
          refine L_pure 2 [(1, .int .u32 x3), (6, pt p4 0), (10, .slice a1 x1.length c1), (11, I (x1.length : Int)), (12, I v4), (17, .int .u32 x3), (18, I v4)] (by kernel_rfl) fun b => ?_
          obtain ⟨hy2, hr⟩ := chk hr
          refine L_op rfl (O_run (v := .int .u32 (shR .u32 x3 v4)) (w' := w) (R_shr rfl rfl hy2) rfl rfl ?_)
          refine L_pure 3 [(1, .int .u32 x3), (6, pt p4 0), (10, .slice a1 x1.length c1), (11, I (x1.length : Int)), (12, I v4), (22, .bool ((bAnd .u32 (shR .u32 x3 v4) 1) == 0))] (by kernel_rfl) fun b => ?_
          by_cases h : ((bAnd .u32 (shR .u32 x3 v4) 1) == 0) = true
          · have hr := (if_pos h).symm.trans hr
            refine L_keep ((22, .bool ((bAnd .u32 (shR .u32 x3 v4) 1) == 0)) :: [(1, .int .u32 x3), (6, pt p4 0), (10, .slice a1 x1.length c1), (11, I (x1.length : Int)), (12, I v4)]) rfl fun b => ?_
            refine L_bool h ?_
            refine L_pure 1 [(1, .int .u32 x3), (10, .slice a1 x1.length c1), (11, I (x1.length : Int)), (12, I v4), (22, .bool true), (23, pt p4 4)] (by kernel_rfl) fun b => ?_
            refine L_op rfl (O_run (v := I x5.End) (w' := w) (R_load hst rfl rfl) rfl rfl ?_)
            refine L_pure 2 [(1, .int .u32 x3), (10, .slice a1 x1.length c1), (11, I (x1.length : Int)), (12, I v4), (26, .bool (decide (x5.End ≥ 0)))] (by kernel_rfl) fun b => ?_
            refine wpL_nil ?_
            refine th_n ?_
            obtain rfl := Option.some.inj hr
            have hst := (((((hst.pull 4).pull 4).pull 4).pull 4).pull 4)
            exact (kpX [(1, .int .u32 x3), (10, .slice a1 x1.length c1), (11, I (x1.length : Int)), (12, I v4), (26, .bool (decide (x5.End ≥ 0)))] rfl hst)
          · have hr := (if_neg h).symm.trans hr
            refine L_keep ((22, .bool ((bAnd .u32 (shR .u32 x3 v4) 1) == 0)) :: [(1, .int .u32 x3), (6, pt p4 0), (10, .slice a1 x1.length c1), (11, I (x1.length : Int)), (12, I v4)]) rfl fun b => ?_
            refine L_bool (eq_false_of_ne_true h) ?_
            refine L_pure 4 [(1, .int .u32 x3), (10, .slice a1 x1.length c1), (11, I (x1.length : Int)), (12, I v4), (26, .bool false)] (by kernel_rfl) fun b => ?_
            refine wpL_nil ?_
            refine th_n ?_
            obtain rfl := Option.some.inj hr
            have hst := (((((hst.pull 4).pull 4).pull 4).pull 4).pull 4)
            exact (kpX [(1, .int .u32 x3), (10, .slice a1 x1.length c1), (11, I (x1.length : Int)), (12, I v4), (26, .bool false)] rfl hst)
      · have hr := (if_neg (by rw [h]; exact Bool.false_ne_true)).symm.trans hr
        refine wp_exit ?_
        refine th_x (th_x (ib_x (th_n ?_)))
        obtain rfl := Option.some.inj hr
        have hst := (((hst.pull 2).pull 2).pull 2)
        exact ⟨(), (kpXf [] rfl hst)⟩
def history_world_text_l2 (k : Nat) (x3 : T_history_entry) : Nat → (List Int) → Int → Option ((List Int))
  | 0, _, _ => none
  | j + 1, v15, v16 => (if decide (v16 < 8) = true then (if 0 ≤ (IntKind.i64.wrap (8 * v16)) then (if room (v15.length + ([(IntKind.u8.wrap (shR .u64 x3.v (IntKind.i64.wrap (8 * v16))))]).length) 1 = true then (history_world_text_l2 k x3 j (v15 ++ ([(IntKind.u8.wrap (shR .u64 x3.v (IntKind.i64.wrap (8 * v16))))])) (IntKind.i64.wrap (v16 + 1))) else none) else none) else some (v15))
def history_world_text_l1 (k : Nat) (x1 : (List T_history_entry)) : Nat → (List Int) → Int → Option ((List Int))
  | 0, _, _ => none
  | j + 1, v11, v12 => (if decide (v12 < (x1.length : Int)) = true then (Option.bind (gt x1 v12) fun x3 => (if room (v11.length + ([(IntKind.u8.wrap (x3.name.length : Int))]).length) 1 = true then (if room ((v11 ++ ([(IntKind.u8.wrap (x3.name.length : Int))])).length + (sB x3.name).length) 1 = true then (Option.bind (history_world_text_l2 k x3 k ((v11 ++ ([(IntKind.u8.wrap (x3.name.length : Int))])) ++ sB x3.name) (0 : Int)) fun y4 => (history_world_text_l1 k x1 j y4 (IntKind.i64.wrap (v12 + 1)))) else none) else none)) else some (v11))
def history_world_text (k : Nat) (x1 : (List T_history_entry)) : Option ((List UInt8)) := (Option.bind (history_world_text_l1 k x1 k ([]) (0 : Int)) fun y3 => some ((bS y3)))
set_option maxRecDepth 100000 in
set_option maxHeartbeats 4000000 in
theorem history_world_text_ok {G w : World} {F : List HP} {R : Ending → World → Prop} (k : Nat) (x1 : (List T_history_entry)) (a1 : Option Addr) (c1 : Nat) (r : ((List UInt8))) (hst : St G w (dsl r_T_history_entry a1 c1 x1 :: F)) (hr : history_world_text k x1 = some r)
    (hR : ∀ w', St G w' (dsl r_T_history_entry a1 c1 x1 :: F) → R (.returned (S r)) w') :
    Calls Try.prog 19 #[.slice a1 x1.length c1] w R := by
  unfold history_world_text at hr
  refine enter Try.func19 rfl [(0, .slice a1 x1.length c1)] rfl rfl fun b => ?_
  refine wp_seq ?_
  refine wp_reg ?_
  refine L_pure 1 [(0, .slice a1 x1.length c1)] (by kernel_rfl) fun b => ?_
  refine wpL_nil ?_
  refine th_n ?_
  refine wp_seq ?_
  refine wp_reg ?_
  refine L_pure 1 [(0, .slice a1 x1.length c1), (3, .slice none 0 0)] (by kernel_rfl) fun b => ?_
  refine wpL_nil ?_
  refine th_n ?_
  refine wp_seq ?_
  refine wp_seq ?_
  refine wp_reg ?_
  refine L_pure 3 [(3, .slice none 0 0), (7, .slice a1 x1.length c1), (8, I (x1.length : Int)), (9, I 0)] (by kernel_rfl) fun b => ?_
  refine wpL_nil ?_
  refine th_n ?_
  obtain ⟨y3, hy3, hk3⟩ := bnd hr
  clear hr
  refine Go.Hx.wp_cut (fun a w => ∃ (a13 : Option Addr) (c13 : Nat)(b : Nat → Value), a = mkF 40 b [(3, .slice a13 y3.length c13)] ∧ St G w (osl (rI .u8) 5 a13 c13 y3 :: dsl r_T_history_entry a1 c1 x1 :: F)) ?_ ?_
  · rintro _ w ⟨a13, c13, b, rfl, hst⟩
    have hr := hk3
    refine th_n ?_
    refine wp_seq ?_
    refine wp_reg ?_
    refine L_pure 1 [(38, .slice a13 y3.length c13)] (by kernel_rfl) fun b => ?_
    refine L_op rfl (O_run (v := S (bS y3)) (w' := w) (R_b2s Try.underlying66 Try.underlying5 Try.underlying9 (osl_b2s Try.underlying66 hst).1 (osl_b2s Try.underlying66 hst).2 rfl) rfl rfl ?_)
    refine L_pure 1 [(2, S (bS y3))] (by kernel_rfl) fun b => ?_
    refine wpL_nil ?_
    refine th_n ?_
    refine wp_ret ?_
    refine ret1 rfl rfl ?_
    obtain rfl := Option.some.inj hr
    have hst := ((hst.pull 1).cut 1 1)
    exact hR _ hst
  · have hst := osl_nil (rI .u8) 5 hst
    have hst := ((hst.pull 1).pull 1)
    refine wp_block ?_
    refine wp_loop_fuel (fun j a w => ∃ (v11 : (List Int)) (v12 : Int) (a11 : Option Addr) (c11 : Nat) (b : Nat → Value), a = mkF 40 b [(3, .slice a11 v11.length c11), (7, .slice a1 x1.length c1), (8, I (x1.length : Int)), (9, I v12)] ∧ St G w (osl (rI .u8) 5 a11 c11 v11 :: dsl r_T_history_entry a1 c1 x1 :: F) ∧ history_world_text_l1 k x1 j v11 v12 = some y3) (k := k) ⟨[], (0 : Int), none, 0, (kpX [(3, .slice none 0 0), (7, .slice a1 x1.length c1), (8, I (x1.length : Int)), (9, I 0)] rfl ⟨hst, hy3⟩)⟩ ?_ ?_
    · rintro _ _ ⟨_, _, _, _, _, _, _, h⟩
      rw [history_world_text_l1] at h
      cases h
    · rintro j _ w ⟨v11, v12, a11, c11, b, rfl, hst, hr⟩
      rw [history_world_text_l1] at hr
      refine wp_seq ?_
      refine wp_reg ?_
      refine L_pure 1 [(3, .slice a11 v11.length c11), (7, .slice a1 x1.length c1), (8, I (x1.length : Int)), (9, I v12), (10, .bool (decide (v12 < (x1.length : Int))))] (by kernel_rfl) fun b => ?_
      refine wpL_nil ?_
      refine th_n ?_
      refine wp_seq ?_
      refine wp_cond_mkF (t := decide (v12 < (x1.length : Int))) rfl (fun h => ?_) (fun h => ?_)
      · have hr := (if_pos h).symm.trans hr
        refine wp_skip ?_
        refine th_n ?_
        refine wp_seq ?_
        refine wp_block ?_
        refine wp_seq ?_
        refine wp_reg ?_
        obtain ⟨x3, hx2, hr⟩ := bnd hr
        refine L_op rfl (O_run (v := pt (ab a1) (ao a1 + v12.toNat * 2)) (w' := w) (R_ia L58 rfl rfl (dsl_addr (hst.pull 1) hx2) (gt_some hx2).1 (gt_some hx2).2.1) rfl rfl ?_)
        obtain ⟨q2, hc2, hst⟩ := dsl_cells (hst.pull 1) hx2
        have hst := hst.drop
        refine L_op rfl (O_run (v := .agg #[S x3.name, .int .u64 x3.v]) (w' := w) (R_loadAt (off := ao a1 + v12.toNat * 2) (j := 0) hc2 rfl rfl) rfl rfl ?_)
        refine L_op rfl (O_alloc (i := Try.t68) (z := .agg #[S ([]), .int .u64 0]) [S ([]), .int .u64 0] hst rfl rfl rfl rfl fun p4 w hst => ?_)
        refine L_op rfl (O_store [S x3.name, .int .u64 x3.v] hst rfl rfl (by kernel_rfl) fun w hst => ?_)
        refine wpL_nil ?_
        refine th_n ?_
        refine wp_seq ?_
        refine wp_reg ?_
        refine L_pure 2 [(5, pt p4 0), (7, .slice a1 x1.length c1), (8, I (x1.length : Int)), (9, I v12), (13, .slice a11 v11.length c11), (14, pt p4 0)] (by kernel_rfl) fun b => ?_
        refine L_op rfl (O_run (v := S x3.name) (w' := w) (R_load hst rfl rfl) rfl rfl ?_)
        refine L_pure 2 [(5, pt p4 0), (7, .slice a1 x1.length c1), (8, I (x1.length : Int)), (9, I v12), (13, .slice a11 v11.length c11), (17, .int .u8 (IntKind.u8.wrap (x3.name.length : Int)))] (by kernel_rfl) fun b => ?_
        refine L_op rfl (O_bs (T := 5) [.int .u8 (IntKind.u8.wrap (x3.name.length : Int))] #[(0, .int .u8 (IntKind.u8.wrap (x3.name.length : Int)))] hst (by kernel_rfl) (by kernel_rfl) rfl fun p5 w hst => ?_)
        have hst := osl_of_blk0 (ecs := [[.int .u8 (IntKind.u8.wrap (x3.name.length : Int))]]) (rI .u8) [(IntKind.u8.wrap (x3.name.length : Int))] rfl (fun m => ⟨⟨(), rfl, trivial⟩, trivial⟩) rfl hst
        obtain ⟨hb4, hr⟩ := chk hr
        refine L_op rfl (O_app_o L66 (hst.pull 3) rfl rfl hb4 rfl fun a14 c14 w hst => ?_)
        refine L_pure 1 [(3, .slice a14 (v11 ++ ([(IntKind.u8.wrap (x3.name.length : Int))])).length c14), (5, pt p4 0), (7, .slice a1 x1.length c1), (8, I (x1.length : Int)), (9, I v12)] (by kernel_rfl) fun b => ?_
        refine wpL_nil ?_
        refine th_n ?_
        refine wp_seq ?_
        refine wp_reg ?_
        refine L_pure 2 [(5, pt p4 0), (7, .slice a1 x1.length c1), (8, I (x1.length : Int)), (9, I v12), (20, .slice a14 (v11 ++ ([(IntKind.u8.wrap (x3.name.length : Int))])).length c14), (21, pt p4 0)] (by kernel_rfl) fun b => ?_
        refine L_op rfl (O_run (v := S x3.name) (w' := w) (R_load (hst.pull 2) rfl rfl) rfl rfl ?_)
        obtain ⟨hb5, hr⟩ := chk hr
        refine L_op rfl (O_app_s L66 Try.underlying9 hst rfl rfl hb5 rfl fun a15 c15 w hst => ?_)
        refine L_pure 1 [(3, .slice a15 ((v11 ++ ([(IntKind.u8.wrap (x3.name.length : Int))])) ++ sB x3.name).length c15), (5, pt p4 0), (7, .slice a1 x1.length c1), (8, I (x1.length : Int)), (9, I v12)] (by kernel_rfl) fun b => ?_
        refine wpL_nil ?_
        refine th_n ?_
        refine wp_seq ?_
        refine wp_reg ?_
        refine L_pure 1 [(3, .slice a15 ((v11 ++ ([(IntKind.u8.wrap (x3.name.length : Int))])) ++ sB x3.name).length c15), (5, pt p4 0), (7, .slice a1 x1.length c1), (8, I (x1.length : Int)), (9, I v12), (24, I 0)] (by kernel_rfl) fun b => ?_
        refine wpL_nil ?_
        refine th_n ?_
        obtain ⟨y4, hy4, hk4⟩ := bnd hr
        clear hr
        refine Go.Hx.wp_cut (fun a w => ∃ (a18 : Option Addr) (c18 : Nat)(b : Nat → Value), a = mkF 40 b [(3, .slice a18 y4.length c18), (7, .slice a1 x1.length c1), (8, I (x1.length : Int)), (9, I v12)] ∧ St G w (osl (rI .u8) 5 a18 c18 y4 :: osl (rI .u8) 5 (some ⟨p5, 0, none⟩) 1 ([(IntKind.u8.wrap (x3.name.length : Int))]) :: blk p4 (cl [S x3.name, .int .u64 x3.v] 68) :: dsl r_T_history_entry a1 c1 x1 :: F)) ?_ ?_
        · rintro _ w ⟨a18, c18, b, rfl, hst⟩
          have hr := hk4
          refine ib_n (th_n ?_)
          refine wp_reg ?_
          refine L_pure 2 [(3, .slice a18 y4.length c18), (7, .slice a1 x1.length c1), (8, I (x1.length : Int)), (9, I (IntKind.i64.wrap (v12 + 1)))] (by kernel_rfl) fun b => ?_
          refine wpL_nil ?_
          refine th_n ?_
          have hst := (((hst.pull 3).pull 1).cut 2 2)
          exact ⟨y4, (IntKind.i64.wrap (v12 + 1)), a18, c18, (kpX [(3, .slice a18 y4.length c18), (7, .slice a1 x1.length c1), (8, I (x1.length : Int)), (9, I (IntKind.i64.wrap (v12 + 1)))] rfl ⟨hst, hr⟩)⟩
        · have hst := ((((hst.pull 3).pull 3).pull 3).pull 3)
          refine wp_block ?_
          refine wp_loop_fuel (fun j a w => ∃ (v15 : (List Int)) (v16 : Int) (a16 : Option Addr) (c16 : Nat) (b : Nat → Value), a = mkF 40 b [(3, .slice a16 v15.length c16), (5, pt p4 0), (7, .slice a1 x1.length c1), (8, I (x1.length : Int)), (9, I v12), (24, I v16)] ∧ St G w (osl (rI .u8) 5 a16 c16 v15 :: osl (rI .u8) 5 (some ⟨p5, 0, none⟩) 1 ([(IntKind.u8.wrap (x3.name.length : Int))]) :: blk p4 (cl [S x3.name, .int .u64 x3.v] 68) :: dsl r_T_history_entry a1 c1 x1 :: F) ∧ history_world_text_l2 k x3 j v15 v16 = some y4) (k := k) ⟨((v11 ++ ([(IntKind.u8.wrap (x3.name.length : Int))])) ++ sB x3.name), (0 : Int), a15, c15, (kpX [(3, .slice a15 ((v11 ++ ([(IntKind.u8.wrap (x3.name.length : Int))])) ++ sB x3.name).length c15), (5, pt p4 0), (7, .slice a1 x1.length c1), (8, I (x1.length : Int)), (9, I v12), (24, I 0)] rfl ⟨hst, hy4⟩)⟩ ?_ ?_
          · rintro _ _ ⟨_, _, _, _, _, _, _, h⟩
            rw [history_world_text_l2] at h
            cases h
          · rintro j _ w ⟨v15, v16, a16, c16, b, rfl, hst, hr⟩
            rw [history_world_text_l2] at hr
            refine wp_seq ?_
            refine wp_reg ?_
            refine L_pure 1 [(3, .slice a16 v15.length c16), (5, pt p4 0), (7, .slice a1 x1.length c1), (8, I (x1.length : Int)), (9, I v12), (24, I v16), (25, .bool (decide (v16 < 8)))] (by kernel_rfl) fun b => ?_
            refine wpL_nil ?_
            refine th_n ?_
            refine wp_seq ?_
            refine wp_cond_mkF (t := decide (v16 < 8)) rfl (fun h => ?_) (fun h => ?_)
            · have hr := (if_pos h).symm.trans hr
              refine wp_skip ?_
              refine th_n ?_
              refine wp_seq ?_
              refine wp_block ?_
              refine wp_seq ?_
              refine wp_reg ?_
              refine L_pure 2 [(3, .slice a16 v15.length c16), (5, pt p4 0), (6, I v16), (7, .slice a1 x1.length c1), (8, I (x1.length : Int)), (9, I v12), (24, I v16)] (by kernel_rfl) fun b => ?_
              refine wpL_nil ?_
              refine th_n ?_
              refine wp_reg ?_
              refine L_pure 2 [(5, pt p4 0), (6, I v16), (7, .slice a1 x1.length c1), (8, I (x1.length : Int)), (9, I v12), (24, I v16), (27, .slice a16 v15.length c16), (28, pt p4 1)] (by kernel_rfl) fun b => ?_
              refine L_op rfl (O_run (v := .int .u64 x3.v) (w' := w) (R_load (hst.pull 2) rfl rfl) rfl rfl ?_)
              refine L_pure 2 [(5, pt p4 0), (7, .slice a1 x1.length c1), (8, I (x1.length : Int)), (9, I v12), (24, I v16), (27, .slice a16 v15.length c16), (29, .int .u64 x3.v), (31, I (IntKind.i64.wrap (8 * v16)))] (by kernel_rfl) fun b => ?_
              obtain ⟨hy2, hr⟩ := chk hr
              refine L_op rfl (O_run (v := .int .u64 (shR .u64 x3.v (IntKind.i64.wrap (8 * v16)))) (w' := w) (R_shr rfl rfl hy2) rfl rfl ?_)
              refine L_pure 1 [(5, pt p4 0), (7, .slice a1 x1.length c1), (8, I (x1.length : Int)), (9, I v12), (24, I v16), (27, .slice a16 v15.length c16), (33, .int .u8 (IntKind.u8.wrap (shR .u64 x3.v (IntKind.i64.wrap (8 * v16)))))] (by kernel_rfl) fun b => ?_
              refine L_op rfl (O_bs (T := 5) [.int .u8 (IntKind.u8.wrap (shR .u64 x3.v (IntKind.i64.wrap (8 * v16))))] #[(0, .int .u8 (IntKind.u8.wrap (shR .u64 x3.v (IntKind.i64.wrap (8 * v16)))))] hst (by kernel_rfl) (by kernel_rfl) rfl fun p6 w hst => ?_)
              have hst := osl_of_blk0 (ecs := [[.int .u8 (IntKind.u8.wrap (shR .u64 x3.v (IntKind.i64.wrap (8 * v16))))]]) (rI .u8) [(IntKind.u8.wrap (shR .u64 x3.v (IntKind.i64.wrap (8 * v16))))] rfl (fun m => ⟨⟨(), rfl, trivial⟩, trivial⟩) rfl hst
              obtain ⟨hb6, hr⟩ := chk hr
              refine L_op rfl (O_app_o L66 (hst.pull 1) rfl rfl hb6 rfl fun a19 c19 w hst => ?_)
              refine L_pure 1 [(3, .slice a19 (v15 ++ ([(IntKind.u8.wrap (shR .u64 x3.v (IntKind.i64.wrap (8 * v16))))])).length c19), (5, pt p4 0), (7, .slice a1 x1.length c1), (8, I (x1.length : Int)), (9, I v12), (24, I v16)] (by kernel_rfl) fun b => ?_
              refine wpL_nil ?_
              refine ib_n (th_n ?_)
              refine wp_reg ?_
              refine L_pure 2 [(3, .slice a19 (v15 ++ ([(IntKind.u8.wrap (shR .u64 x3.v (IntKind.i64.wrap (8 * v16))))])).length c19), (5, pt p4 0), (7, .slice a1 x1.length c1), (8, I (x1.length : Int)), (9, I v12), (24, I (IntKind.i64.wrap (v16 + 1)))] (by kernel_rfl) fun b => ?_
              refine wpL_nil ?_
              refine th_n ?_
              have hst := (((((hst.pull 4).pull 4).pull 4).pull 3).cut 4 1)
              exact ⟨(v15 ++ ([(IntKind.u8.wrap (shR .u64 x3.v (IntKind.i64.wrap (8 * v16))))])), (IntKind.i64.wrap (v16 + 1)), a19, c19, (kpX [(3, .slice a19 (v15 ++ ([(IntKind.u8.wrap (shR .u64 x3.v (IntKind.i64.wrap (8 * v16))))])).length c19), (5, pt p4 0), (7, .slice a1 x1.length c1), (8, I (x1.length : Int)), (9, I v12), (24, I (IntKind.i64.wrap (v16 + 1)))] rfl ⟨hst, hr⟩)⟩
            · have hr := (if_neg (by rw [h]; exact Bool.false_ne_true)).symm.trans hr
              refine wp_exit ?_
              refine th_x (th_x (ib_x (th_n ?_)))
              obtain rfl := Option.some.inj hr
              have hst := ((((hst.pull 3).pull 3).pull 3).pull 3)
              exact ⟨a16, c16, (kpX [(3, .slice a16 v15.length c16), (7, .slice a1 x1.length c1), (8, I (x1.length : Int)), (9, I v12)] rfl hst)⟩
      · have hr := (if_neg (by rw [h]; exact Bool.false_ne_true)).symm.trans hr
        refine wp_exit ?_
        refine th_x (th_x (ib_x (th_n ?_)))
        obtain rfl := Option.some.inj hr
        have hst := ((hst.pull 1).pull 1)
        exact ⟨a11, c11, (kpX [(3, .slice a11 v11.length c11)] rfl hst)⟩
def history_search_may_l1 (k : Nat) (x1 : (List T_history_Op)) (x3 : Int) (x4 : Int) : Nat → Int → Option (Flow (Bool) (Unit))
  | 0, _ => none
  | j + 1, v4 => (if decide (v4 < (x1.length : Int)) = true then (Option.bind (gt x1 v4) fun x7 => (Option.bind (if 0 ≤ v4 then (if ((bAnd .u32 (shR .u32 x4 v4) 1) == 0) = true then (if (v4 != x3) = true then (if decide (x7.End ≥ 0) = true then (Option.bind (gt x1 x3) fun x8 => some (decide (x7.End < x8.Start))) else some (false)) else some (false)) else some (false)) else none) fun y4 => (if y4 = true then some (Flow.ret (false)) else (history_search_may_l1 k x1 x3 x4 j (IntKind.i64.wrap (v4 + 1)))))) else some (Flow.go ()))
def history_search_may (k : Nat) (x1 : (List T_history_Op)) (_x2 : (List (T_history_key × Int))) (x3 : Int) (x4 : Int) : Option (Bool) := (Option.bind (history_search_may_l1 k x1 x3 x4 k (0 : Int)) fun y3 => (match y3 with | Flow.ret r => some r | Flow.go _ => some (true)))
set_option maxRecDepth 100000 in
set_option maxHeartbeats 4000000 in
theorem history_search_may_ok {G w : World} {F : List HP} {R : Ending → World → Prop} (k : Nat) (x1 : (List T_history_Op)) (x2 : (List (T_history_key × Int))) (x3 : Int) (x4 : Int) (p1 : Nat) (a1 : Option Addr) (c1 : Nat) (p2 : Nat) (r : (Bool)) (hst : St G w (blk p1 (cl [.slice a1 x1.length c1, .map (some p2)] 52) :: osl r_T_history_Op 32 a1 c1 x1 :: mpo (fun x : T_history_key => .agg #[.int .u32 x.done, S x.world]) (fun n => .int .i64 n) p2 x2 :: F)) (hr : history_search_may k x1 x2 x3 x4 = some r)
    (hR : ∀ w', St G w' (blk p1 (cl [.slice a1 x1.length c1, .map (some p2)] 52) :: osl r_T_history_Op 32 a1 c1 x1 :: mpo (fun x : T_history_key => .agg #[.int .u32 x.done, S x.world]) (fun n => .int .i64 n) p2 x2 :: F) → R (.returned (.bool r)) w') :
    Calls Try.prog 20 #[pt p1 0, I x3, .int .u32 x4] w R := by
  unfold history_search_may at hr
  refine enter Try.func20 rfl [(0, pt p1 0), (1, I x3), (2, .int .u32 x4)] rfl rfl fun b => ?_
  refine wp_seq ?_
  refine wp_reg ?_
  refine L_pure 1 [(0, pt p1 0), (1, I x3), (2, .int .u32 x4)] (by kernel_rfl) fun b => ?_
  refine wpL_nil ?_
  refine th_n ?_
  refine wp_seq ?_
  refine wp_seq ?_
  refine wp_reg ?_
  refine L_pure 3 [(0, pt p1 0), (1, I x3), (2, .int .u32 x4), (11, pt p1 0)] (by kernel_rfl) fun b => ?_
  refine L_op rfl (O_run (v := .slice a1 x1.length c1) (w' := w) (R_load hst rfl rfl) rfl rfl ?_)
  refine L_pure 2 [(0, pt p1 0), (1, I x3), (2, .int .u32 x4), (12, .slice a1 x1.length c1), (13, I (x1.length : Int)), (14, I 0)] (by kernel_rfl) fun b => ?_
  refine wpL_nil ?_
  refine th_n ?_
  obtain ⟨y3, hy3, hk3⟩ := bnd hr
  clear hr
  refine Go.Hx.wp_cut (fun a w => ∃ (z2 : Unit) (b : Nat → Value), y3 = .go z2 ∧ a = mkF 48 b [] ∧ St G w (blk p1 (cl [.slice a1 x1.length c1, .map (some p2)] 52) :: osl r_T_history_Op 32 a1 c1 x1 :: mpo (fun x : T_history_key => .agg #[.int .u32 x.done, S x.world]) (fun n => .int .i64 n) p2 x2 :: F)) ?_ ?_
  · rintro _ w ⟨z2, b, rfl, rfl, hst⟩
    have hr := hk3
    refine th_n ?_
    refine wp_seq ?_
    refine wp_reg ?_
    refine L_pure 1 [(6, .bool true)] (by kernel_rfl) fun b => ?_
    refine wpL_nil ?_
    refine th_n ?_
    refine wp_ret ?_
    refine ret1 rfl rfl ?_
    obtain rfl := Option.some.inj hr
    have hst := (((hst.pull 2).pull 2).pull 2)
    exact hR _ hst
  · have hst := (((hst.pull 2).pull 2).pull 2)
    refine wp_block ?_
    refine wp_loop_fuel (fun j a w => ∃ (v4 : Int) (b : Nat → Value), a = mkF 48 b [(0, pt p1 0), (1, I x3), (2, .int .u32 x4), (12, .slice a1 x1.length c1), (13, I (x1.length : Int)), (14, I v4)] ∧ St G w (blk p1 (cl [.slice a1 x1.length c1, .map (some p2)] 52) :: osl r_T_history_Op 32 a1 c1 x1 :: mpo (fun x : T_history_key => .agg #[.int .u32 x.done, S x.world]) (fun n => .int .i64 n) p2 x2 :: F) ∧ history_search_may_l1 k x1 x3 x4 j v4 = some y3) (k := k) ⟨(0 : Int), (kpX [(0, pt p1 0), (1, I x3), (2, .int .u32 x4), (12, .slice a1 x1.length c1), (13, I (x1.length : Int)), (14, I 0)] rfl ⟨hst, hy3⟩)⟩ ?_ ?_
    · rintro _ _ ⟨_, _, _, _, h⟩
      rw [history_search_may_l1] at h
      cases h
    · rintro j _ w ⟨v4, b, rfl, hst, hr⟩
      rw [history_search_may_l1] at hr
      refine wp_seq ?_
      refine wp_reg ?_
      refine L_pure 1 [(0, pt p1 0), (1, I x3), (2, .int .u32 x4), (12, .slice a1 x1.length c1), (13, I (x1.length : Int)), (14, I v4), (15, .bool (decide (v4 < (x1.length : Int))))] (by kernel_rfl) fun b => ?_
      refine wpL_nil ?_
      refine th_n ?_
      refine wp_seq ?_
      refine wp_cond_mkF (t := decide (v4 < (x1.length : Int))) rfl (fun h => ?_) (fun h => ?_)
      · have hr := (if_pos h).symm.trans hr
        refine wp_skip ?_
        refine th_n ?_
        refine wp_seq ?_
        refine wp_block ?_
        refine wp_seq ?_
        refine wp_reg ?_
        refine L_pure 1 [(0, pt p1 0), (1, I x3), (2, .int .u32 x4), (12, .slice a1 x1.length c1), (13, I (x1.length : Int)), (14, I v4), (16, I v4)] (by kernel_rfl) fun b => ?_
        obtain ⟨x7, hx3, hr⟩ := bnd hr
        refine L_op rfl (O_run (v := pt (ab a1) (ao a1 + v4.toNat * 8)) (w' := w) (R_ia L22 rfl rfl (osl_addr (hst.pull 1) hx3) (gt_some hx3).1 (gt_some hx3).2.1) rfl rfl ?_)
        obtain ⟨q3, hc3, hst⟩ := osl_cells (hst.pull 1) hx3
        refine L_op rfl (O_run (v := .agg #[I x7.Kind, S x7.Name, .int .u64 x7.Value, I x7.Start, I x7.End, I x7.Err, .int .u64 x7.Got, .slice q3.1 x7.Names.length q3.2]) (w' := w) (R_loadAt (off := ao a1 + v4.toNat * 8) (j := 0) hc3 rfl rfl) rfl rfl ?_)
        refine L_op rfl (O_alloc (i := Try.t32) (z := .agg #[I 0, S ([]), .int .u64 0, I 0, I 0, I 0, .int .u64 0, .slice none 0 0]) [I 0, S ([]), .int .u64 0, I 0, I 0, I 0, .int .u64 0, .slice none 0 0] hst rfl rfl rfl rfl fun p4 w hst => ?_)
        refine L_pure 1 [(0, pt p1 0), (1, I x3), (2, .int .u32 x4), (7, I v4), (8, pt p4 0), (12, .slice a1 x1.length c1), (13, I (x1.length : Int)), (14, I v4), (18, .agg #[I x7.Kind, S x7.Name, .int .u64 x7.Value, I x7.Start, I x7.End, I x7.Err, .int .u64 x7.Got, .slice q3.1 x7.Names.length q3.2])] (by kernel_rfl) fun b => ?_
        refine L_op rfl (O_store [I x7.Kind, S x7.Name, .int .u64 x7.Value, I x7.Start, I x7.End, I x7.Err, .int .u64 x7.Got, .slice q3.1 x7.Names.length q3.2] hst rfl rfl (by kernel_rfl) fun w hst => ?_)
        refine wpL_nil ?_
        refine th_n ?_
        obtain ⟨y4, hy4, hk4⟩ := bnd hr
        clear hr
        refine wp_seq_cut (fun a w => ∃ (b : Nat → Value), a = mkF 48 b [(0, pt p1 0), (1, I x3), (2, .int .u32 x4), (12, .slice a1 x1.length c1), (13, I (x1.length : Int)), (14, I v4), (46, .bool y4)] ∧ St G w (osl r_T_history_Op 32 a1 c1 x1 :: blk p4 (cl [I x7.Kind, S x7.Name, .int .u64 x7.Value, I x7.Start, I x7.End, I x7.Err, .int .u64 x7.Got, .slice q3.1 x7.Names.length q3.2] 32) :: dsl rS q3.1 q3.2 x7.Names :: blk p1 (cl [.slice a1 x1.length c1, .map (some p2)] 52) :: mpo (fun x : T_history_key => .agg #[.int .u32 x.done, S x.world]) (fun n => .int .i64 n) p2 x2 :: F)) ?_ ?_
        · rintro _ w ⟨b, rfl, hst⟩
          have hr := hk4
          refine wp_cond_mkF (t := y4) rfl (fun h => ?_) (fun h => ?_)
          · have hr := (if_pos h).symm.trans hr
            refine wp_seq ?_
            refine wp_reg ?_
            refine L_pure 1 [(6, .bool false)] (by kernel_rfl) fun b => ?_
            refine wpL_nil ?_
            refine th_n ?_
            refine wp_ret ?_
            refine ib_r (th_r (th_r (ib_r (th_r (th_r ?_)))))
            refine ret1 rfl rfl ?_
            obtain rfl := Option.some.inj hr
            obtain rfl := Option.some.inj hk3
            have hst := ((((hst.pull 4).pull 1).pull 4).cut 3 2)
            exact hR _ hst
          · have hr := (if_neg (by rw [h]; exact Bool.false_ne_true)).symm.trans hr
            refine wp_skip ?_
            refine ib_n (th_n ?_)
            refine wp_reg ?_
            refine L_pure 2 [(0, pt p1 0), (1, I x3), (2, .int .u32 x4), (12, .slice a1 x1.length c1), (13, I (x1.length : Int)), (14, I (IntKind.i64.wrap (v4 + 1)))] (by kernel_rfl) fun b => ?_
            refine wpL_nil ?_
            refine th_n ?_
            have hst := ((((hst.pull 4).pull 1).pull 4).cut 3 2)
            exact ⟨(IntKind.i64.wrap (v4 + 1)), (kpX [(0, pt p1 0), (1, I x3), (2, .int .u32 x4), (12, .slice a1 x1.length c1), (13, I (x1.length : Int)), (14, I (IntKind.i64.wrap (v4 + 1)))] rfl ⟨hst, hr⟩)⟩
        · have hr := hy4
          refine wp_regG (SN { w with drawn := w.drawn + 1 }) rfl ?_
          have hst := hst.draw (n := w.drawn + 1)
          generalize { w with drawn := w.drawn + 1 } = w at hst ⊢
          refine C_take (i := 0) (v := .int .u32 x4) rfl (by kernel_rfl) (fun _ _ _ h => h) rfl rfl rfl (R_pure (by kernel_rfl)) ?_
          refine C_take (i := 1) (v := I v4) rfl (by kernel_rfl) (fun _ _ _ h => h) rfl rfl rfl (R_pure (by kernel_rfl)) ?_
          obtain ⟨hy2, hr⟩ := chk hr
          refine C_take (i := 2) (v := .int .u32 (shR .u32 x4 v4)) rfl (by kernel_rfl) (fun _ _ _ h => h) rfl rfl rfl (R_shr rfl rfl hy2) ?_
          refine C_take (i := 3) (v := .int .u32 (bAnd .u32 (shR .u32 x4 v4) 1)) rfl (by kernel_rfl) (fun _ _ _ h => h) rfl rfl rfl (R_pure (by kernel_rfl)) ?_
          refine C_take (i := 4) (v := .bool ((bAnd .u32 (shR .u32 x4 v4) 1) == 0)) rfl (by kernel_rfl) (fun _ _ _ h => h) rfl rfl rfl (R_pure (by kernel_rfl)) ?_
          refine C_take (i := 5) (v := .bool ((bAnd .u32 (shR .u32 x4 v4) 1) == 0)) rfl (by kernel_rfl) (fun _ _ _ h => h) rfl rfl rfl (R_pure (by kernel_rfl)) ?_
          by_cases h : ((bAnd .u32 (shR .u32 x4 v4) 1) == 0) = true
          · have hr := (if_pos h).symm.trans hr
            refine C_keep ((24, .bool ((bAnd .u32 (shR .u32 x4 v4) 1) == 0)) :: [(0, pt p1 0), (1, I x3), (2, .int .u32 x4), (7, I v4), (8, pt p4 0), (12, .slice a1 x1.length c1), (13, I (x1.length : Int)), (14, I v4), (18, .agg #[I x7.Kind, S x7.Name, .int .u64 x7.Value, I x7.Start, I x7.End, I x7.Err, .int .u64 x7.Got, .slice q3.1 x7.Names.length q3.2]), (19, .int .u32 x4), (20, I v4), (21, .int .u32 (shR .u32 x4 v4)), (22, .int .u32 (bAnd .u32 (shR .u32 x4 v4) 1)), (23, .bool ((bAnd .u32 (shR .u32 x4 v4) 1) == 0))]) rfl fun b => ?_
            refine C_bool h ?_
            refine C_take (i := 6) (v := I v4) rfl (by kernel_rfl) (fun _ _ _ h => h) rfl rfl rfl (R_pure (by kernel_rfl)) ?_
            refine C_take (i := 7) (v := I x3) rfl (by kernel_rfl) (fun _ _ _ h => h) rfl rfl rfl (R_pure (by kernel_rfl)) ?_
            refine C_take (i := 8) (v := .bool (v4 != x3)) rfl (by kernel_rfl) (fun _ _ _ h => h) rfl rfl rfl (R_pure (by kernel_rfl)) ?_
            refine C_take (i := 9) (v := .bool (v4 != x3)) rfl (by kernel_rfl) (fun _ _ _ h => h) rfl rfl rfl (R_pure (by kernel_rfl)) ?_
            refine C_take (i := 10) (v := .bool (v4 != x3)) rfl (by kernel_rfl) (fun _ _ _ h => h) rfl rfl rfl (R_pure (by kernel_rfl)) ?_
            by_cases h : (v4 != x3) = true
            · have hr := (if_pos h).symm.trans hr
              refine C_keep ((29, .bool (v4 != x3)) :: [(0, pt p1 0), (1, I x3), (2, .int .u32 x4), (7, I v4), (8, pt p4 0), (12, .slice a1 x1.length c1), (13, I (x1.length : Int)), (14, I v4), (18, .agg #[I x7.Kind, S x7.Name, .int .u64 x7.Value, I x7.Start, I x7.End, I x7.Err, .int .u64 x7.Got, .slice q3.1 x7.Names.length q3.2]), (19, .int .u32 x4), (20, I v4), (21, .int .u32 (shR .u32 x4 v4)), (22, .int .u32 (bAnd .u32 (shR .u32 x4 v4) 1)), (23, .bool ((bAnd .u32 (shR .u32 x4 v4) 1) == 0)), (24, .bool true), (25, I v4), (26, I x3), (27, .bool (v4 != x3)), (28, .bool (v4 != x3))]) rfl fun b => ?_
              refine C_bool h ?_
              refine C_take (i := 11) (v := pt p4 4) rfl (by kernel_rfl) (fun _ _ _ h => h) rfl rfl rfl (R_pure (by kernel_rfl)) ?_
              refine C_take (i := 12) (v := I x7.End) rfl (by kernel_rfl) (fun _ _ _ h => h) rfl rfl rfl (R_load hst rfl rfl) ?_
              refine C_take (i := 13) (v := .bool (decide (x7.End ≥ 0))) rfl (by kernel_rfl) (fun _ _ _ h => h) rfl rfl rfl (R_pure (by kernel_rfl)) ?_
              refine C_take (i := 14) (v := .bool (decide (x7.End ≥ 0))) rfl (by kernel_rfl) (fun _ _ _ h => h) rfl rfl rfl (R_pure (by kernel_rfl)) ?_
              refine C_take (i := 15) (v := .bool (decide (x7.End ≥ 0))) rfl (by kernel_rfl) (fun _ _ _ h => h) rfl rfl rfl (R_pure (by kernel_rfl)) ?_
              by_cases h : (decide (x7.End ≥ 0)) = true
              · have hr := (if_pos h).symm.trans hr
                refine C_keep ((34, .bool (decide (x7.End ≥ 0))) :: [(0, pt p1 0), (1, I x3), (2, .int .u32 x4), (7, I v4), (8, pt p4 0), (12, .slice a1 x1.length c1), (13, I (x1.length : Int)), (14, I v4), (18, .agg #[I x7.Kind, S x7.Name, .int .u64 x7.Value, I x7.Start, I x7.End, I x7.Err, .int .u64 x7.Got, .slice q3.1 x7.Names.length q3.2]), (19, .int .u32 x4), (20, I v4), (21, .int .u32 (shR .u32 x4 v4)), (22, .int .u32 (bAnd .u32 (shR .u32 x4 v4) 1)), (23, .bool ((bAnd .u32 (shR .u32 x4 v4) 1) == 0)), (24, .bool true), (25, I v4), (26, I x3), (27, .bool (v4 != x3)), (28, .bool (v4 != x3)), (29, .bool true), (30, pt p4 4), (31, I x7.End), (32, .bool (decide (x7.End ≥ 0))), (33, .bool (decide (x7.End ≥ 0)))]) rfl fun b => ?_
                refine C_bool h ?_
                refine C_take (i := 16) (v := pt p4 4) rfl (by kernel_rfl) (fun _ _ _ h => h) rfl rfl rfl (R_pure (by kernel_rfl)) ?_
                refine C_take (i := 17) (v := I x7.End) rfl (by kernel_rfl) (fun _ _ _ h => h) rfl rfl rfl (R_load hst rfl rfl) ?_
                refine C_take (i := 18) (v := pt p1 0) rfl (by kernel_rfl) (fun _ _ _ h => h) rfl rfl rfl (R_pure (by kernel_rfl)) ?_
                refine C_take (i := 19) (v := pt p1 0) rfl (by kernel_rfl) (fun _ _ _ h => h) rfl rfl rfl (R_pure (by kernel_rfl)) ?_
                refine C_take (i := 20) (v := pt p1 0) rfl (by kernel_rfl) (fun _ _ _ h => h) rfl rfl rfl (R_pure (by kernel_rfl)) ?_
                refine C_take (i := 21) (v := .slice a1 x1.length c1) rfl (by kernel_rfl) (fun _ _ _ h => h) rfl rfl rfl (R_load (hst.pull 3) rfl rfl) ?_
                refine C_take (i := 22) (v := I x3) rfl (by kernel_rfl) (fun _ _ _ h => h) rfl rfl rfl (R_pure (by kernel_rfl)) ?_
                obtain ⟨x8, hx4, hr⟩ := bnd hr
                refine C_take (i := 23) (v := pt (ab a1) (ao a1 + x3.toNat * 8)) rfl (by kernel_rfl) (fun _ _ _ h => h) rfl rfl rfl (R_ia L22 rfl rfl (osl_addr (hst.pull 2) hx4) (gt_some hx4).1 (gt_some hx4).2.1) ?_
                refine C_take (i := 24) (v := pt (ab a1) (ao a1 + x3.toNat * 8 + 3)) rfl (by kernel_rfl) (fun _ _ _ h => h) rfl rfl rfl (R_pure (by kernel_rfl)) ?_
                obtain ⟨q4, hc4, hst⟩ := osl_cells (hst.pull 2) hx4
                refine C_take (i := 25) (v := I x8.Start) rfl (by kernel_rfl) (fun _ _ _ h => h) rfl rfl rfl (R_loadAt (off := ao a1 + x3.toNat * 8) (j := 3) hc4 rfl rfl) ?_
                refine C_take (i := 26) (v := .bool (decide (x7.End < x8.Start))) rfl (by kernel_rfl) (fun _ _ _ h => h) rfl rfl rfl (R_pure (by kernel_rfl)) ?_
                refine C_take (i := 27) (v := .bool (decide (x7.End < x8.Start))) rfl (by kernel_rfl) (fun _ _ _ h => h) rfl rfl rfl (R_pure (by kernel_rfl)) ?_
                refine wpG_done (by kernel_rfl) ?_ _
                refine C_keepQ [(0, pt p1 0), (1, I x3), (2, .int .u32 x4), (12, .slice a1 x1.length c1), (13, I (x1.length : Int)), (14, I v4), (46, .bool (decide (x7.End < x8.Start)))] rfl fun b => ?_
                refine th_n ?_
                obtain rfl := Option.some.inj hr
                have hst := ((((((hst.pull 5).pull 5).pull 5).pull 5).pull 5).cut 5 1)
                exact (kpX [(0, pt p1 0), (1, I x3), (2, .int .u32 x4), (12, .slice a1 x1.length c1), (13, I (x1.length : Int)), (14, I v4), (46, .bool (decide (x7.End < x8.Start)))] rfl hst)
              · have hr := (if_neg h).symm.trans hr
                refine C_keep ((34, .bool (decide (x7.End ≥ 0))) :: [(0, pt p1 0), (1, I x3), (2, .int .u32 x4), (7, I v4), (8, pt p4 0), (12, .slice a1 x1.length c1), (13, I (x1.length : Int)), (14, I v4), (18, .agg #[I x7.Kind, S x7.Name, .int .u64 x7.Value, I x7.Start, I x7.End, I x7.Err, .int .u64 x7.Got, .slice q3.1 x7.Names.length q3.2]), (19, .int .u32 x4), (20, I v4), (21, .int .u32 (shR .u32 x4 v4)), (22, .int .u32 (bAnd .u32 (shR .u32 x4 v4) 1)), (23, .bool ((bAnd .u32 (shR .u32 x4 v4) 1) == 0)), (24, .bool true), (25, I v4), (26, I x3), (27, .bool (v4 != x3)), (28, .bool (v4 != x3)), (29, .bool true), (30, pt p4 4), (31, I x7.End), (32, .bool (decide (x7.End ≥ 0))), (33, .bool (decide (x7.End ≥ 0)))]) rfl fun b => ?_
                refine C_bool (eq_false_of_ne_true h) ?_
                refine C_skip (i := 16) rfl (by kernel_rfl) (fun _ _ _ h => h) rfl rfl rfl ?_
                refine C_skip (i := 17) rfl (by kernel_rfl) (fun _ _ _ h => h) rfl rfl rfl ?_
                refine C_skip (i := 18) rfl (by kernel_rfl) (fun _ _ _ h => h) rfl rfl rfl ?_
                refine C_skip (i := 19) rfl (by kernel_rfl) (fun _ _ _ h => h) rfl rfl rfl ?_
                refine C_skip (i := 20) rfl (by kernel_rfl) (fun _ _ _ h => h) rfl rfl rfl ?_
                refine C_skip (i := 21) rfl (by kernel_rfl) (fun _ _ _ h => h) rfl rfl rfl ?_
                refine C_skip (i := 22) rfl (by kernel_rfl) (fun _ _ _ h => h) rfl rfl rfl ?_
                refine C_skip (i := 23) rfl (by kernel_rfl) (fun _ _ _ h => h) rfl rfl rfl ?_
                refine C_skip (i := 24) rfl (by kernel_rfl) (fun _ _ _ h => h) rfl rfl rfl ?_
                refine C_skip (i := 25) rfl (by kernel_rfl) (fun _ _ _ h => h) rfl rfl rfl ?_
                refine C_skip (i := 26) rfl (by kernel_rfl) (fun _ _ _ h => h) rfl rfl rfl ?_
                refine C_take (i := 27) (v := .bool false) rfl (by kernel_rfl) (fun _ _ _ h => h) rfl rfl rfl (R_pure (by kernel_rfl)) ?_
                refine wpG_done (by kernel_rfl) ?_ _
                refine C_keepQ [(0, pt p1 0), (1, I x3), (2, .int .u32 x4), (12, .slice a1 x1.length c1), (13, I (x1.length : Int)), (14, I v4), (46, .bool false)] rfl fun b => ?_
                refine th_n ?_
                obtain rfl := Option.some.inj hr
                have hst := (((((hst.pull 4).pull 4).pull 3).pull 3).pull 4)
                exact (kpX [(0, pt p1 0), (1, I x3), (2, .int .u32 x4), (12, .slice a1 x1.length c1), (13, I (x1.length : Int)), (14, I v4), (46, .bool false)] rfl hst)
            · have hr := (if_neg h).symm.trans hr
              refine C_keep ((29, .bool (v4 != x3)) :: [(0, pt p1 0), (1, I x3), (2, .int .u32 x4), (7, I v4), (8, pt p4 0), (12, .slice a1 x1.length c1), (13, I (x1.length : Int)), (14, I v4), (18, .agg #[I x7.Kind, S x7.Name, .int .u64 x7.Value, I x7.Start, I x7.End, I x7.Err, .int .u64 x7.Got, .slice q3.1 x7.Names.length q3.2]), (19, .int .u32 x4), (20, I v4), (21, .int .u32 (shR .u32 x4 v4)), (22, .int .u32 (bAnd .u32 (shR .u32 x4 v4) 1)), (23, .bool ((bAnd .u32 (shR .u32 x4 v4) 1) == 0)), (24, .bool true), (25, I v4), (26, I x3), (27, .bool (v4 != x3)), (28, .bool (v4 != x3))]) rfl fun b => ?_
              refine C_bool (eq_false_of_ne_true h) ?_
              refine C_skip (i := 11) rfl (by kernel_rfl) (fun _ _ _ h => h) rfl rfl rfl ?_
              refine C_skip (i := 12) rfl (by kernel_rfl) (fun _ _ _ h => h) rfl rfl rfl ?_
              refine C_skip (i := 13) rfl (by kernel_rfl) (fun _ _ _ h => h) rfl rfl rfl ?_
              refine C_take (i := 14) (v := .bool false) rfl (by kernel_rfl) (fun _ _ _ h => h) rfl rfl rfl (R_pure (by kernel_rfl)) ?_
              refine C_take (i := 15) (v := .bool false) rfl (by kernel_rfl) (fun _ _ _ h => h) rfl rfl rfl (R_pure (by kernel_rfl)) ?_
              refine C_skip (i := 16) rfl (by kernel_rfl) (fun _ _ _ h => h) rfl rfl rfl ?_
              refine C_skip (i := 17) rfl (by kernel_rfl) (fun _ _ _ h => h) rfl rfl rfl ?_
              refine C_skip (i := 18) rfl (by kernel_rfl) (fun _ _ _ h => h) rfl rfl rfl ?_
              refine C_skip (i := 19) rfl (by kernel_rfl) (fun _ _ _ h => h) rfl rfl rfl ?_
              refine C_skip (i := 20) rfl (by kernel_rfl) (fun _ _ _ h => h) rfl rfl rfl ?_
              refine C_skip (i := 21) rfl (by kernel_rfl) (fun _ _ _ h => h) rfl rfl rfl ?_
              refine C_skip (i := 22) rfl (by kernel_rfl) (fun _ _ _ h => h) rfl rfl rfl ?_
              refine C_skip (i := 23) rfl (by kernel_rfl) (fun _ _ _ h => h) rfl rfl rfl ?_
              refine C_skip (i := 24) rfl (by kernel_rfl) (fun _ _ _ h => h) rfl rfl rfl ?_
              refine C_skip (i := 25) rfl (by kernel_rfl) (fun _ _ _ h => h) rfl rfl rfl ?_
              refine C_skip (i := 26) rfl (by kernel_rfl) (fun _ _ _ h => h) rfl rfl rfl ?_
              refine C_take (i := 27) (v := .bool false) rfl (by kernel_rfl) (fun _ _ _ h => h) rfl rfl rfl (R_pure (by kernel_rfl)) ?_
              refine wpG_done (by kernel_rfl) ?_ _
              refine C_keepQ [(0, pt p1 0), (1, I x3), (2, .int .u32 x4), (12, .slice a1 x1.length c1), (13, I (x1.length : Int)), (14, I v4), (46, .bool false)] rfl fun b => ?_
              refine th_n ?_
              obtain rfl := Option.some.inj hr
              have hst := (((((hst.pull 4).pull 4).pull 3).pull 3).pull 4)
              exact (kpX [(0, pt p1 0), (1, I x3), (2, .int .u32 x4), (12, .slice a1 x1.length c1), (13, I (x1.length : Int)), (14, I v4), (46, .bool false)] rfl hst)
          · have hr := (if_neg h).symm.trans hr
            refine C_keep ((24, .bool ((bAnd .u32 (shR .u32 x4 v4) 1) == 0)) :: [(0, pt p1 0), (1, I x3), (2, .int .u32 x4), (7, I v4), (8, pt p4 0), (12, .slice a1 x1.length c1), (13, I (x1.length : Int)), (14, I v4), (18, .agg #[I x7.Kind, S x7.Name, .int .u64 x7.Value, I x7.Start, I x7.End, I x7.Err, .int .u64 x7.Got, .slice q3.1 x7.Names.length q3.2]), (19, .int .u32 x4), (20, I v4), (21, .int .u32 (shR .u32 x4 v4)), (22, .int .u32 (bAnd .u32 (shR .u32 x4 v4) 1)), (23, .bool ((bAnd .u32 (shR .u32 x4 v4) 1) == 0))]) rfl fun b => ?_
            refine C_bool (eq_false_of_ne_true h) ?_
            refine C_skip (i := 6) rfl (by kernel_rfl) (fun _ _ _ h => h) rfl rfl rfl ?_
            refine C_skip (i := 7) rfl (by kernel_rfl) (fun _ _ _ h => h) rfl rfl rfl ?_
            refine C_skip (i := 8) rfl (by kernel_rfl) (fun _ _ _ h => h) rfl rfl rfl ?_
            refine C_take (i := 9) (v := .bool false) rfl (by kernel_rfl) (fun _ _ _ h => h) rfl rfl rfl (R_pure (by kernel_rfl)) ?_
            refine C_take (i := 10) (v := .bool false) rfl (by kernel_rfl) (fun _ _ _ h => h) rfl rfl rfl (R_pure (by kernel_rfl)) ?_
            refine C_skip (i := 11) rfl (by kernel_rfl) (fun _ _ _ h => h) rfl rfl rfl ?_
            refine C_skip (i := 12) rfl (by kernel_rfl) (fun _ _ _ h => h) rfl rfl rfl ?_
            refine C_skip (i := 13) rfl (by kernel_rfl) (fun _ _ _ h => h) rfl rfl rfl ?_
            refine C_take (i := 14) (v := .bool false) rfl (by kernel_rfl) (fun _ _ _ h => h) rfl rfl rfl (R_pure (by kernel_rfl)) ?_
            refine C_take (i := 15) (v := .bool false) rfl (by kernel_rfl) (fun _ _ _ h => h) rfl rfl rfl (R_pure (by kernel_rfl)) ?_
            refine C_skip (i := 16) rfl (by kernel_rfl) (fun _ _ _ h => h) rfl rfl rfl ?_
            refine C_skip (i := 17) rfl (by kernel_rfl) (fun _ _ _ h => h) rfl rfl rfl ?_
            refine C_skip (i := 18) rfl (by kernel_rfl) (fun _ _ _ h => h) rfl rfl rfl ?_
            refine C_skip (i := 19) rfl (by kernel_rfl) (fun _ _ _ h => h) rfl rfl rfl ?_
            refine C_skip (i := 20) rfl (by kernel_rfl) (fun _ _ _ h => h) rfl rfl rfl ?_
            refine C_skip (i := 21) rfl (by kernel_rfl) (fun _ _ _ h => h) rfl rfl rfl ?_
            refine C_skip (i := 22) rfl (by kernel_rfl) (fun _ _ _ h => h) rfl rfl rfl ?_
            refine C_skip (i := 23) rfl (by kernel_rfl) (fun _ _ _ h => h) rfl rfl rfl ?_
            refine C_skip (i := 24) rfl (by kernel_rfl) (fun _ _ _ h => h) rfl rfl rfl ?_
            refine C_skip (i := 25) rfl (by kernel_rfl) (fun _ _ _ h => h) rfl rfl rfl ?_
            refine C_skip (i := 26) rfl (by kernel_rfl) (fun _ _ _ h => h) rfl rfl rfl ?_
            refine C_take (i := 27) (v := .bool false) rfl (by kernel_rfl) (fun _ _ _ h => h) rfl rfl rfl (R_pure (by kernel_rfl)) ?_
            refine wpG_done (by kernel_rfl) ?_ _
            refine C_keepQ [(0, pt p1 0), (1, I x3), (2, .int .u32 x4), (12, .slice a1 x1.length c1), (13, I (x1.length : Int)), (14, I v4), (46, .bool false)] rfl fun b => ?_
            refine th_n ?_
            obtain rfl := Option.some.inj hr
            have hst := (((((hst.pull 4).pull 4).pull 3).pull 3).pull 4)
            exact (kpX [(0, pt p1 0), (1, I x3), (2, .int .u32 x4), (12, .slice a1 x1.length c1), (13, I (x1.length : Int)), (14, I v4), (46, .bool false)] rfl hst)
      · have hr := (if_neg (by rw [h]; exact Bool.false_ne_true)).symm.trans hr
        refine wp_exit ?_
        refine th_x (th_x (ib_x (th_n ?_)))
        obtain rfl := Option.some.inj hr
        have hst := (((hst.pull 2).pull 2).pull 2)
        exact ⟨(), (kpXf [] rfl hst)⟩
def history_world_find_1 (_k : Nat) (x1 : T_history_entry) (x2 : (List UInt8)) : Option (Int) := (if (sLt x1.name x2) = true then some (((-1) : Int)) else (if (!(sLt x1.name x2 || sEq x1.name x2)) = true then some ((1 : Int)) else some ((0 : Int))))
set_option maxRecDepth 100000 in
set_option maxHeartbeats 4000000 in
theorem history_world_find_1_ok {G w : World} {F : List HP} {R : Ending → World → Prop} (k : Nat) (x1 : T_history_entry) (x2 : (List UInt8)) (r : (Int)) (hst : St G w (F)) (hr : history_world_find_1 k x1 x2 = some r)
    (hR : ∀ w', St G w' (F) → R (.returned (I r)) w') :
    Calls Try.prog 28 #[.agg #[S x1.name, .int .u64 x1.v], S x2] w R := by
  unfold history_world_find_1 at hr
  refine enter Try.func28 rfl [(0, .agg #[S x1.name, .int .u64 x1.v]), (1, S x2)] rfl rfl fun b => ?_
  refine wp_seq ?_
  refine wp_reg ?_
  refine L_op rfl (O_box [S x1.name, .int .u64 x1.v] hst rfl rfl fun p2 w hst => ?_)
  refine L_pure 1 [(1, S x2), (2, pt p2 0)] (by kernel_rfl) fun b => ?_
  refine wpL_nil ?_
  refine th_n ?_
  refine wp_seq ?_
  refine wp_block ?_
  refine wp_seq ?_
  refine wp_reg ?_
  refine L_pure 1 [(1, S x2), (2, pt p2 0), (6, pt p2 0)] (by kernel_rfl) fun b => ?_
  refine L_op rfl (O_run (v := S x1.name) (w' := w) (R_load hst rfl rfl) rfl rfl ?_)
  refine L_pure 3 [(1, S x2), (2, pt p2 0), (5, .bool (sLt x1.name x2))] (by kernel_rfl) fun b => ?_
  refine wpL_nil ?_
  refine th_n ?_
  refine wp_cond_mkF (t := (sLt x1.name x2)) rfl (fun h => ?_) (fun h => ?_)
  · have hr := (if_pos h).symm.trans hr
    refine wp_seq ?_
    refine wp_reg ?_
    refine L_pure 1 [(4, I (-1))] (by kernel_rfl) fun b => ?_
    refine wpL_nil ?_
    refine th_n ?_
    refine wp_ret ?_
    refine ib_r (th_r ?_)
    refine ret1 rfl rfl ?_
    obtain rfl := Option.some.inj hr
    have hst := (hst.cut 0 1)
    exact hR _ hst
  · have hr := (if_neg (by rw [h]; exact Bool.false_ne_true)).symm.trans hr
    refine wp_seq ?_
    refine wp_reg ?_
    refine L_pure 1 [(1, S x2), (11, pt p2 0)] (by kernel_rfl) fun b => ?_
    refine L_op rfl (O_run (v := S x1.name) (w' := w) (R_load hst rfl rfl) rfl rfl ?_)
    refine L_pure 3 [(10, .bool (!(sLt x1.name x2 || sEq x1.name x2)))] (by kernel_rfl) fun b => ?_
    refine wpL_nil ?_
    refine th_n ?_
    refine wp_cond_mkF (t := (!(sLt x1.name x2 || sEq x1.name x2))) rfl (fun h => ?_) (fun h => ?_)
    · have hr := (if_pos h).symm.trans hr
      refine wp_seq ?_
      refine wp_reg ?_
      refine L_pure 1 [(4, I 1)] (by kernel_rfl) fun b => ?_
      refine wpL_nil ?_
      refine th_n ?_
      refine wp_ret ?_
      refine ib_r (th_r ?_)
      refine ret1 rfl rfl ?_
      obtain rfl := Option.some.inj hr
      have hst := (hst.cut 0 1)
      exact hR _ hst
    · have hr := (if_neg (by rw [h]; exact Bool.false_ne_true)).symm.trans hr
      refine wp_skip ?_
      refine ib_n (th_n ?_)
      refine wp_seq ?_
      refine wp_reg ?_
      refine L_pure 1 [(4, I 0)] (by kernel_rfl) fun b => ?_
      refine wpL_nil ?_
      refine th_n ?_
      refine wp_ret ?_
      refine ret1 rfl rfl ?_
      obtain rfl := Option.some.inj hr
      have hst := (hst.cut 0 1)
      exact hR _ hst
def slices_BinarySearchFunc_l1 (k : Nat) (x1 : (List T_history_entry)) (x2 : (List UInt8)) : Nat → Int → Int → Option (Int)
  | 0, _, _ => none
  | j + 1, v7, v8 => (if decide (v7 < v8) = true then (Option.bind (gt x1 (IntKind.i64.wrap (shR .u64 (IntKind.u64.wrap (IntKind.i64.wrap (v7 + v8))) 1))) fun x5 => (Option.bind (history_world_find_1 k x5 x2) fun y6 => (if decide (y6 < 0) = true then (slices_BinarySearchFunc_l1 k x1 x2 j (IntKind.i64.wrap ((IntKind.i64.wrap (shR .u64 (IntKind.u64.wrap (IntKind.i64.wrap (v7 + v8))) 1)) + 1)) v8) else (slices_BinarySearchFunc_l1 k x1 x2 j v7 (IntKind.i64.wrap (shR .u64 (IntKind.u64.wrap (IntKind.i64.wrap (v7 + v8))) 1)))))) else some (v7))
def slices_BinarySearchFunc (k : Nat) (x1 : (List T_history_entry)) (x2 : (List UInt8)) : Option (Int × Bool) := (Option.bind (slices_BinarySearchFunc_l1 k x1 x2 k (0 : Int) (x1.length : Int)) fun y5 => (Option.bind (if decide (y5 < (x1.length : Int)) = true then (Option.bind (gt x1 y5) fun x6 => (Option.bind (history_world_find_1 k x6 x2) fun y8 => some ((y8 == 0)))) else some (false)) fun y7 => some (y5, y7)))
set_option maxRecDepth 100000 in
set_option maxHeartbeats 4000000 in
theorem slices_BinarySearchFunc_ok {G w : World} {F : List HP} {R : Ending → World → Prop} (k : Nat) (x1 : (List T_history_entry)) (x2 : (List UInt8)) (a1 : Option Addr) (c1 : Nat) (r : (Int × Bool)) (hst : St G w (dsl r_T_history_entry a1 c1 x1 :: F)) (hr : slices_BinarySearchFunc k x1 x2 = some r)
    (hR : ∀ w', St G w' (dsl r_T_history_entry a1 c1 x1 :: F) → R (.returned (.tuple #[I r.1, .bool r.2])) w') :
    Calls Try.prog 27 #[.slice a1 x1.length c1, S x2, .func (.func 28) #[] #[]] w R := by
  unfold slices_BinarySearchFunc at hr
  refine enter Try.func27 rfl [(0, .slice a1 x1.length c1), (1, S x2), (2, .func (.func 28) #[] #[])] rfl rfl fun b => ?_
  refine wp_seq ?_
  refine wp_reg ?_
  refine L_pure 2 [(0, .slice a1 x1.length c1), (1, S x2), (2, .func (.func 28) #[] #[])] (by kernel_rfl) fun b => ?_
  refine wpL_nil ?_
  refine th_n ?_
  refine wp_seq ?_
  refine wp_reg ?_
  refine L_pure 3 [(0, .slice a1 x1.length c1), (1, S x2), (2, .func (.func 28) #[] #[]), (8, I (x1.length : Int))] (by kernel_rfl) fun b => ?_
  refine wpL_nil ?_
  refine th_n ?_
  refine wp_seq ?_
  refine wp_reg ?_
  refine L_pure 3 [(0, .slice a1 x1.length c1), (1, S x2), (2, .func (.func 28) #[] #[]), (8, I (x1.length : Int)), (9, I 0), (10, I (x1.length : Int))] (by kernel_rfl) fun b => ?_
  refine wpL_nil ?_
  refine th_n ?_
  obtain ⟨y5, hy5, hk3⟩ := bnd hr
  clear hr
  refine wp_seq_cut (fun a w => ∃ (b : Nat → Value), a = mkF 49 b [(0, .slice a1 x1.length c1), (1, S x2), (2, .func (.func 28) #[] #[]), (8, I (x1.length : Int)), (9, I y5)] ∧ St G w (dsl r_T_history_entry a1 c1 x1 :: F)) ?_ ?_
  · rintro _ w ⟨b, rfl, hst⟩
    have hr := hk3
    obtain ⟨y7, hy7, hk4⟩ := bnd hr
    clear hr
    refine wp_seq_cut (fun a w => ∃ (b : Nat → Value), a = mkF 49 b [(6, I y5), (7, .bool y7)] ∧ St G w (dsl r_T_history_entry a1 c1 x1 :: F)) ?_ ?_
    · rintro _ w ⟨b, rfl, hst⟩
      have hr := hk4
      refine wp_ret ?_
      refine ret2 rfl rfl rfl ?_
      obtain rfl := Option.some.inj hr
      exact hR _ hst
    · have hr := hy7
      refine wp_reg ?_
      refine L_pure 5 [(0, .slice a1 x1.length c1), (1, S x2), (2, .func (.func 28) #[] #[]), (9, I y5), (35, I y5), (39, .bool (decide (y5 < (x1.length : Int))))] (by kernel_rfl) fun b => ?_
      by_cases h : (decide (y5 < (x1.length : Int))) = true
      · have hr := (if_pos h).symm.trans hr
        refine L_keep ((39, .bool (decide (y5 < (x1.length : Int)))) :: [(0, .slice a1 x1.length c1), (1, S x2), (2, .func (.func 28) #[] #[]), (9, I y5), (35, I y5)]) rfl fun b => ?_
        refine L_bool h ?_
        refine L_pure 3 [(1, S x2), (35, I y5), (39, .bool true), (40, .func (.func 28) #[] #[]), (41, .slice a1 x1.length c1), (42, I y5)] (by kernel_rfl) fun b => ?_
        obtain ⟨x6, hx4, hr⟩ := bnd hr
        refine L_op rfl (O_run (v := pt (ab a1) (ao a1 + y5.toNat * 2)) (w' := w) (R_ia L58 rfl rfl (dsl_addr hst hx4) (gt_some hx4).1 (gt_some hx4).2.1) rfl rfl ?_)
        obtain ⟨q4, hc4, hst⟩ := dsl_cells hst hx4
        have hst := hst.drop
        refine L_op rfl (O_run (v := .agg #[S x6.name, .int .u64 x6.v]) (w' := w) (R_loadAt (off := ao a1 + y5.toNat * 2) (j := 0) hc4 rfl rfl) rfl rfl ?_)
        refine L_pure 1 [(35, I y5), (39, .bool true), (40, .func (.func 28) #[] #[]), (44, .agg #[S x6.name, .int .u64 x6.v]), (45, S x2)] (by kernel_rfl) fun b => ?_
        obtain ⟨y8, hy8, hr⟩ := bnd hr
        refine L_op rfl (O_callv (vs := #[.agg #[S x6.name, .int .u64 x6.v], S x2]) (ws := #[.agg #[S x6.name, .int .u64 x6.v], S x2]) rfl Try.call28 (by kernel_rfl) rfl (history_world_find_1_ok k x6 x2 y8 hst hy8 fun w hst => ?_))
        refine CK_ret rfl ?_
        refine L_pure 4 [(6, I y5), (7, .bool (y8 == 0))] (by kernel_rfl) fun b => ?_
        refine wpL_nil ?_
        refine th_n ?_
        obtain rfl := Option.some.inj hr
        exact (kpX [(6, I y5), (7, .bool (y8 == 0))] rfl hst)
      · have hr := (if_neg h).symm.trans hr
        refine L_keep ((39, .bool (decide (y5 < (x1.length : Int)))) :: [(0, .slice a1 x1.length c1), (1, S x2), (2, .func (.func 28) #[] #[]), (9, I y5), (35, I y5)]) rfl fun b => ?_
        refine L_bool (eq_false_of_ne_true h) ?_
        refine L_pure 11 [(6, I y5), (7, .bool false)] (by kernel_rfl) fun b => ?_
        refine wpL_nil ?_
        refine th_n ?_
        obtain rfl := Option.some.inj hr
        exact (kpX [(6, I y5), (7, .bool false)] rfl hst)
  · refine wp_block ?_
    refine wp_loop_fuel (fun j a w => ∃ (v7 : Int) (v8 : Int) (b : Nat → Value), a = mkF 49 b [(0, .slice a1 x1.length c1), (1, S x2), (2, .func (.func 28) #[] #[]), (8, I (x1.length : Int)), (9, I v7), (10, I v8)] ∧ St G w (dsl r_T_history_entry a1 c1 x1 :: F) ∧ slices_BinarySearchFunc_l1 k x1 x2 j v7 v8 = some y5) (k := k) ⟨(0 : Int), (x1.length : Int), (kpX [(0, .slice a1 x1.length c1), (1, S x2), (2, .func (.func 28) #[] #[]), (8, I (x1.length : Int)), (9, I 0), (10, I (x1.length : Int))] rfl ⟨hst, hy5⟩)⟩ ?_ ?_
    · rintro _ _ ⟨_, _, _, _, _, h⟩
      rw [slices_BinarySearchFunc_l1] at h
      cases h
    · rintro j _ w ⟨v7, v8, b, rfl, hst, hr⟩
      rw [slices_BinarySearchFunc_l1] at hr
      refine wp_seq ?_
      refine wp_seq ?_
      refine wp_reg ?_
      refine L_pure 3 [(0, .slice a1 x1.length c1), (1, S x2), (2, .func (.func 28) #[] #[]), (8, I (x1.length : Int)), (9, I v7), (10, I v8), (17, .bool (decide (v7 < v8)))] (by kernel_rfl) fun b => ?_
      refine wpL_nil ?_
      refine th_n ?_
      refine wp_cond_mkF (t := decide (v7 < v8)) rfl (fun h => ?_) (fun h => ?_)
      · have hr := (if_pos h).symm.trans hr
        refine wp_skip ?_
        refine th_n ?_
        refine wp_block ?_
        refine wp_seq ?_
        refine wp_reg ?_
        refine L_pure 7 [(0, .slice a1 x1.length c1), (1, S x2), (2, .func (.func 28) #[] #[]), (8, I (x1.length : Int)), (9, I v7), (10, I v8), (11, I (IntKind.i64.wrap (shR .u64 (IntKind.u64.wrap (IntKind.i64.wrap (v7 + v8))) 1)))] (by kernel_rfl) fun b => ?_
        refine wpL_nil ?_
        refine th_n ?_
        refine wp_seq ?_
        refine wp_reg ?_
        refine L_pure 3 [(0, .slice a1 x1.length c1), (1, S x2), (2, .func (.func 28) #[] #[]), (8, I (x1.length : Int)), (9, I v7), (10, I v8), (11, I (IntKind.i64.wrap (shR .u64 (IntKind.u64.wrap (IntKind.i64.wrap (v7 + v8))) 1))), (24, .func (.func 28) #[] #[]), (25, .slice a1 x1.length c1), (26, I (IntKind.i64.wrap (shR .u64 (IntKind.u64.wrap (IntKind.i64.wrap (v7 + v8))) 1)))] (by kernel_rfl) fun b => ?_
        obtain ⟨x5, hx3, hr⟩ := bnd hr
        refine L_op rfl (O_run (v := pt (ab a1) (ao a1 + (IntKind.i64.wrap (shR .u64 (IntKind.u64.wrap (IntKind.i64.wrap (v7 + v8))) 1)).toNat * 2)) (w' := w) (R_ia L58 rfl rfl (dsl_addr hst hx3) (gt_some hx3).1 (gt_some hx3).2.1) rfl rfl ?_)
        obtain ⟨q3, hc3, hst⟩ := dsl_cells hst hx3
        have hst := hst.drop
        refine L_op rfl (O_run (v := .agg #[S x5.name, .int .u64 x5.v]) (w' := w) (R_loadAt (off := ao a1 + (IntKind.i64.wrap (shR .u64 (IntKind.u64.wrap (IntKind.i64.wrap (v7 + v8))) 1)).toNat * 2) (j := 0) hc3 rfl rfl) rfl rfl ?_)
        refine L_pure 1 [(0, .slice a1 x1.length c1), (1, S x2), (2, .func (.func 28) #[] #[]), (8, I (x1.length : Int)), (9, I v7), (10, I v8), (11, I (IntKind.i64.wrap (shR .u64 (IntKind.u64.wrap (IntKind.i64.wrap (v7 + v8))) 1))), (24, .func (.func 28) #[] #[]), (28, .agg #[S x5.name, .int .u64 x5.v]), (29, S x2)] (by kernel_rfl) fun b => ?_
        obtain ⟨y6, hy6, hr⟩ := bnd hr
        refine L_op rfl (O_callv (vs := #[.agg #[S x5.name, .int .u64 x5.v], S x2]) (ws := #[.agg #[S x5.name, .int .u64 x5.v], S x2]) rfl Try.call28 (by kernel_rfl) rfl (history_world_find_1_ok k x5 x2 y6 hst hy6 fun w hst => ?_))
        refine CK_ret rfl ?_
        refine L_pure 1 [(0, .slice a1 x1.length c1), (1, S x2), (2, .func (.func 28) #[] #[]), (8, I (x1.length : Int)), (9, I v7), (10, I v8), (11, I (IntKind.i64.wrap (shR .u64 (IntKind.u64.wrap (IntKind.i64.wrap (v7 + v8))) 1))), (31, .bool (decide (y6 < 0)))] (by kernel_rfl) fun b => ?_
        refine wpL_nil ?_
        refine th_n ?_
        refine wp_cond_mkF (t := decide (y6 < 0)) rfl (fun h => ?_) (fun h => ?_)
        · have hr := (if_pos h).symm.trans hr
          refine wp_reg ?_
          refine L_pure 3 [(0, .slice a1 x1.length c1), (1, S x2), (2, .func (.func 28) #[] #[]), (8, I (x1.length : Int)), (9, I (IntKind.i64.wrap ((IntKind.i64.wrap (shR .u64 (IntKind.u64.wrap (IntKind.i64.wrap (v7 + v8))) 1)) + 1))), (10, I v8)] (by kernel_rfl) fun b => ?_
          refine wpL_nil ?_
          refine ib_n (th_n ?_)
          exact ⟨(IntKind.i64.wrap ((IntKind.i64.wrap (shR .u64 (IntKind.u64.wrap (IntKind.i64.wrap (v7 + v8))) 1)) + 1)), v8, (kpX [(0, .slice a1 x1.length c1), (1, S x2), (2, .func (.func 28) #[] #[]), (8, I (x1.length : Int)), (9, I (IntKind.i64.wrap ((IntKind.i64.wrap (shR .u64 (IntKind.u64.wrap (IntKind.i64.wrap (v7 + v8))) 1)) + 1))), (10, I v8)] rfl ⟨hst, hr⟩)⟩
        · have hr := (if_neg (by rw [h]; exact Bool.false_ne_true)).symm.trans hr
          refine wp_reg ?_
          refine L_pure 2 [(0, .slice a1 x1.length c1), (1, S x2), (2, .func (.func 28) #[] #[]), (8, I (x1.length : Int)), (9, I v7), (10, I (IntKind.i64.wrap (shR .u64 (IntKind.u64.wrap (IntKind.i64.wrap (v7 + v8))) 1)))] (by kernel_rfl) fun b => ?_
          refine wpL_nil ?_
          refine ib_n (th_n ?_)
          exact ⟨v7, (IntKind.i64.wrap (shR .u64 (IntKind.u64.wrap (IntKind.i64.wrap (v7 + v8))) 1)), (kpX [(0, .slice a1 x1.length c1), (1, S x2), (2, .func (.func 28) #[] #[]), (8, I (x1.length : Int)), (9, I v7), (10, I (IntKind.i64.wrap (shR .u64 (IntKind.u64.wrap (IntKind.i64.wrap (v7 + v8))) 1)))] rfl ⟨hst, hr⟩)⟩
      · have hr := (if_neg (by rw [h]; exact Bool.false_ne_true)).symm.trans hr
        refine wp_exit ?_
        refine th_x (th_x (ib_x (th_n ?_)))
        obtain rfl := Option.some.inj hr
        exact (kpX [(0, .slice a1 x1.length c1), (1, S x2), (2, .func (.func 28) #[] #[]), (8, I (x1.length : Int)), (9, I v7)] rfl hst)
def history_world_find (k : Nat) (x1 : (List T_history_entry)) (x2 : (List UInt8)) : Option (Int × Bool) := (Option.bind (slices_BinarySearchFunc k x1 x2) fun y2 => some (y2.1, y2.2))
set_option maxRecDepth 100000 in
set_option maxHeartbeats 4000000 in
theorem history_world_find_ok {G w : World} {F : List HP} {R : Ending → World → Prop} (k : Nat) (x1 : (List T_history_entry)) (x2 : (List UInt8)) (a1 : Option Addr) (c1 : Nat) (r : (Int × Bool)) (hst : St G w (dsl r_T_history_entry a1 c1 x1 :: F)) (hr : history_world_find k x1 x2 = some r)
    (hR : ∀ w', St G w' (dsl r_T_history_entry a1 c1 x1 :: F) → R (.returned (.tuple #[I r.1, .bool r.2])) w') :
    Calls Try.prog 22 #[.slice a1 x1.length c1, S x2] w R := by
  unfold history_world_find at hr
  refine enter Try.func22 rfl [(0, .slice a1 x1.length c1), (1, S x2)] rfl rfl fun b => ?_
  refine wp_seq ?_
  refine wp_reg ?_
  refine L_pure 2 [(0, .slice a1 x1.length c1), (1, S x2)] (by kernel_rfl) fun b => ?_
  refine wpL_nil ?_
  refine th_n ?_
  refine wp_seq ?_
  refine wp_reg ?_
  refine L_pure 2 [(6, .slice a1 x1.length c1), (7, S x2)] (by kernel_rfl) fun b => ?_
  obtain ⟨y2, hy2, hr⟩ := bnd hr
  refine L_op rfl (O_call (vs := #[.slice a1 x1.length c1, S x2, .func (.func 28) #[] #[]]) Try.call27 (by kernel_rfl) (slices_BinarySearchFunc_ok k x1 x2 a1 c1 y2 hst hy2 fun w hst => ?_))
  refine CK_ret rfl ?_
  refine L_pure 4 [(4, I y2.1), (5, .bool y2.2)] (by kernel_rfl) fun b => ?_
  refine wpL_nil ?_
  refine th_n ?_
  refine wp_ret ?_
  refine ret2 rfl rfl rfl ?_
  obtain rfl := Option.some.inj hr
  exact hR _ hst
def slices_Clone (_k : Nat) (x1 : (List T_history_entry)) : Option (List T_history_entry) := if room (([] : (List T_history_entry)).length + x1.length) 24 = true then some x1 else none
set_option maxRecDepth 100000 in
set_option maxHeartbeats 4000000 in
theorem slices_Clone_ok {G w : World} {F : List HP} {R : Ending → World → Prop} (k : Nat) (x1 : (List T_history_entry)) (a1 : Option Addr) (c1 : Nat) (r : (List T_history_entry)) (hst : St G w (dsl r_T_history_entry a1 c1 x1 :: F)) (hr : slices_Clone k x1 = some r)
    (hR : ∀ (a2 : Option Addr) (c2 : Nat) w', St G w' (osl r_T_history_entry 68 a2 c2 r :: dsl r_T_history_entry a1 c1 x1 :: F) → R (.returned (.slice a2 r.length c2)) w') :
    Calls Try.prog 29 #[.slice a1 x1.length c1] w R := by
  unfold slices_Clone at hr
  obtain ⟨hb, hr⟩ := chk hr
  obtain rfl := Option.some.inj hr
  refine enter Try.func29 rfl [(0, .slice a1 x1.length c1)] rfl rfl fun b => ?_
  refine wp_seq (wp_reg ?_)
  refine L_pure 1 [(0, .slice a1 x1.length c1)] (by kernel_rfl) fun b => wpL_nil (th_n ?_)
  refine wp_seq (wp_seq (wp_reg ?_))
  refine L_pure 1 [(0, .slice a1 x1.length c1), (3, .slice a1 x1.length c1)] (by kernel_rfl) fun b => ?_
  refine L_op rfl (O_run (v := .bool a1.isNone) (w' := w) (R_slnil Try.underlying58 rfl rfl) rfl rfl ?_)
  refine wpL_nil (th_n ?_)
  refine wp_cond_mkF (t := a1.isNone) rfl (fun h => ?_) (fun h => ?_)
  · refine wp_seq (wp_reg ?_)
    refine L_pure 1 [(2, .slice none 0 0)] (by kernel_rfl) fun b => wpL_nil (th_n (wp_ret (th_r (ret1 rfl rfl ?_))))
    have hx : x1 = [] := (dsl_b2n hst) (by cases a1 <;> simp_all)
    subst hx
    exact hR none 0 _ (osl_nil r_T_history_entry 68 hst)
  · refine wp_skip (th_n ?_)
    refine wp_seq (wp_reg ?_)
    refine L_op rfl (O_bs (T := 68) [] #[] hst (by kernel_rfl) (by kernel_rfl) rfl fun p w hst => ?_)
    have hst := osl_of_blk0 (ecs := []) r_T_history_entry [] rfl (fun m => trivial) rfl hst
    refine L_pure 1 [(5, .slice (some ⟨p, 0, none⟩) 0 0), (6, .slice a1 x1.length c1)] (by kernel_rfl) fun b => ?_
    refine L_op rfl (O_app_d L58 hst rfl rfl hb rfl fun a2 c2 w hst => ?_)
    refine L_pure 1 [(2, .slice a2 ([] ++ x1).length c2)] (by kernel_rfl) fun b => wpL_nil (th_n (wp_ret (ret1 rfl rfl ?_)))
    exact hR a2 c2 _ hst

def slices_Insert (_k : Nat) (x1 : (List T_history_entry)) (x2 : Int) (x3 : (List T_history_entry)) : Option (List T_history_entry) := ins x1 x2 x3 24
set_option maxRecDepth 100000 in
set_option maxHeartbeats 4000000 in
theorem slices_Insert_ok {G w : World} {F : List HP} {R : Ending → World → Prop} (k : Nat) (x1 : (List T_history_entry)) (x2 : Int) (x3 : (List T_history_entry)) (a1 : Option Addr) (c1 : Nat) (a2 : Option Addr) (c2 : Nat) (r : (List T_history_entry)) (hst : St G w (osl r_T_history_entry 68 a1 c1 x1 :: osl r_T_history_entry 68 a2 c2 x3 :: F)) (hr : slices_Insert k x1 x2 x3 = some r)
    (hR : ∀ (a3 : Option Addr) (c3 : Nat) w', St G w' (osl r_T_history_entry 68 a3 c3 r :: F) → R (.returned (.slice a3 r.length c3)) w') :
    Calls Try.prog 30 #[.slice a1 x1.length c1, I x2, .slice a2 x3.length c2] w R := by
  unfold slices_Insert ins at hr
  obtain ⟨⟨⟨hm, h0, h2⟩, hb⟩, hr⟩ := chk hr
  obtain rfl := Option.some.inj hr
  obtain ⟨hle, hmx⟩ := osl_len hst
  obtain ⟨hb1, hb2⟩ := room_spec hb
  rw [hm] at hb1 hb2
  have hb3 : x1.length + 1 ≤ 9223372036854775807 := by unfold maxLen at hb2; omega
  refine enter Try.func30 rfl [(0, .slice a1 x1.length c1), (1, I x2), (2, .slice a2 x3.length c2)] rfl rfl fun b => ?_
  refine wp_seq (wp_reg ?_)
  refine L_pure 1 [(0, .slice a1 x1.length c1), (1, I x2), (2, .slice a2 x3.length c2)] (by kernel_rfl) fun b => wpL_nil (th_n ?_)
  refine wp_seq (wp_reg ?_)
  refine L_pure 2 [(0, .slice a1 x1.length c1), (1, I x2), (2, .slice a2 x3.length c2), (10, .slice a1 x1.length c1), (11, I x2)] (by kernel_rfl) fun b => ?_
  refine L_op rfl (O_run (w' := w) (R_cut L58 (len := x1.length) (cap := c1) (zl := x2) (zh := x1.length) rfl rfl rfl h0 h2 (by omega)) rfl rfl ?_)
  refine L_keep [(0, .slice a1 x1.length c1), (1, I x2), (2, .slice a2 x3.length c2)] rfl fun b => wpL_nil (th_n ?_)
  refine wp_seq (wp_reg ?_)
  refine L_pure 3 [(0, .slice a1 x1.length c1), (1, I x2), (2, .slice a2 x3.length c2), (7, I (x3.length : Int))] (by kernel_rfl) fun b => wpL_nil (th_n ?_)
  refine wp_seq (wp_seq (wp_reg ?_))
  refine L_pure 2 [(0, .slice a1 x1.length c1), (1, I x2), (2, .slice a2 x3.length c2), (7, I (x3.length : Int)), (16, .bool ((x3.length : Int) == 0))] (by kernel_rfl) fun b => wpL_nil (th_n ?_)
  refine wp_cond_mkF (t := ((x3.length : Int) == 0)) rfl (fun h => ?_) (fun _ => ?_)
  · have h := eq_of_beq h
    omega
  refine wp_skip (th_n ?_)
  refine wp_seq (wp_reg ?_)
  refine L_pure 3 [(0, .slice a1 x1.length c1), (1, I x2), (2, .slice a2 x3.length c2), (7, I (x3.length : Int)), (8, I (x1.length : Int))] (by kernel_rfl) fun b => wpL_nil (th_n ?_)
  refine wp_seq (wp_seq (wp_reg ?_))
  refine L_pure 3 [(0, .slice a1 x1.length c1), (1, I x2), (2, .slice a2 x3.length c2), (7, I (x3.length : Int)), (8, I (x1.length : Int)), (22, .bool (x2 == (x1.length : Int)))] (by kernel_rfl) fun b => wpL_nil (th_n ?_)
  refine wp_cond_mkF (t := (x2 == (x1.length : Int))) rfl (fun h => ?_) (fun h => ?_)
  · have he : x2 = (x1.length : Int) := eq_of_beq h
    refine wp_seq (wp_reg ?_)
    refine L_pure 2 [(23, .slice a1 x1.length c1), (24, .slice a2 x3.length c2)] (by kernel_rfl) fun b => ?_
    refine L_op rfl (O_app_o2 L58 ⟨_, (L57).ht⟩ hst rfl rfl hb rfl fun a3 c3 w hst => ?_)
    refine L_pure 1 [(6, .slice a3 (x1 ++ x3).length c3)] (by kernel_rfl) fun b => wpL_nil (th_n (wp_ret (th_r (ret1 rfl rfl ?_))))
    have hx : x1.take x2.toNat ++ x3 ++ x1.drop x2.toNat = x1 ++ x3 := by
      rw [he, Int.toNat_natCast, List.take_length, List.drop_length, List.append_nil]
    have h9 := hR a3 c3 w
    rw [hx] at h9
    exact h9 ((hst.pull 1).drop)
  have hne : x2 ≠ (x1.length : Int) := fun e => by rw [e] at h; simp at h
  obtain ⟨i, rfl⟩ : ∃ i : Nat, x2 = (i : Int) := ⟨x2.toNat, by omega⟩
  have hil : i < x1.length := by omega
  simp only [Int.toNat_natCast] at hR ⊢
  refine wp_skip (th_n ?_)
  rcases osl_open hst with ⟨rfl, rfl, rfl, _⟩ | ⟨g, cur, ecs, rfl, q3, q4, q5, q7, hst1⟩
  · simp at hil
  rcases osl_open (hst1.pull 2) with ⟨rfl, rfl, rfl, _⟩ | ⟨g2, cur2, ecs2, rfl, p3, p4, p5, p7, hst2⟩
  · simp at hm
  have hst := (hst2.pull 1).pull 3
  clear hst1 hst2
  have hal := al_len (hst.drop.pull 2)
  have hal2 := al_len (hst.drop.pull 1)
  have hsz : (r_T_history_entry : Rp _).sz = 2 := rfl
  simp only [hsz] at hal hal2 q5 q7 p5 p7
  obtain ⟨u1, u2, u3⟩ := hal
  obtain ⟨v1, v2, v3⟩ := hal2
  have hall := (hst.drop.pull 2).pure (φ := (ecs.take i).flatten = ecs.flatten.take (i * 2) ∧ (ecs.drop i).flatten = ecs.flatten.drop (i * 2))
    (fun m f (hA : All2 ((r_T_history_entry : Rp _).rep m) ecs x1) => ⟨flat_take hA i, flat_drop hA i⟩)
  obtain ⟨t1, t2⟩ := hall
  rw [hm] at v1 p7
  have hfin : ∀ cur9 : List Value, cur9 = (ecs.take i).flatten ++ ecs2.flatten ++ (ecs.drop i).flatten → cur9 = (ecs.take i ++ ecs2 ++ ecs.drop i).flatten := fun c h => by rw [h, List.flatten_append, List.flatten_append]
  have hlr : (x1.take i ++ x3 ++ x1.drop i).length = x1.length + 1 := by simp; omega
  have hone : (ecs.drop i).flatten.all Value.oneCell' = true := by
    rw [t2, List.all_eq_true]
    intro v hv
    exact List.all_eq_true.1 u2 v (List.mem_of_mem_drop hv)
  have hdl : (ecs.drop i).flatten.length = (x1.length - i) * 2 := by rw [t2, List.length_drop, u1, Nat.sub_mul]
  have htl : (ecs.take i).flatten.length = i * 2 := by rw [t1, List.length_take, u1]; exact Nat.min_eq_left (Nat.mul_le_mul_right _ (by omega))
  have hcm : i * 2 + (x1.length - i) * 2 = x1.length * 2 := by rw [← Nat.add_mul]; congr 1; omega
  have hw1 : IntKind.i64.wrap ((x1.length : Int) + (x3.length : Int)) = ((x1.length + 1 : Nat) : Int) := by rw [hm, IntKind.wrap_i64]; omega
  have hw2 : IntKind.i64.wrap ((i : Int) + (x3.length : Int)) = ((i + 1 : Nat) : Int) := by rw [hm, IntKind.wrap_i64]; omega
  have hw3 : IntKind.i64.wrap ((x1.length + 1 : Nat) - (i : Int)) = ((x1.length + 1 - i : Nat) : Int) := by rw [IntKind.wrap_i64]; omega
  have hwq : (x1.length + 1 - i) + i = x1.length + 1 := by omega
  refine wp_seq (wp_seq (wp_reg ?_))
  refine L_pure 6 [(0, .slice (some ⟨g, 0, none⟩) x1.length c1), (1, I (i : Int)), (2, .slice (some ⟨g2, 0, none⟩) x3.length c2), (7, I (x3.length : Int)), (8, I (x1.length : Int)), (31, .bool (decide (IntKind.i64.wrap ((x1.length : Int) + (x3.length : Int)) > (c1 : Int))))] (by kernel_rfl) fun b => wpL_nil (th_n ?_)
  refine wp_cond_mkF (t := (decide (IntKind.i64.wrap ((x1.length : Int) + (x3.length : Int)) > (c1 : Int)))) rfl (fun h => ?_) (fun h => ?_)
  · rw [decide_eq_true_eq, hw1] at h
    have hgr : c1 < i + (x1.length + 1 - i) := by omega
    refine wp_seq (wp_reg ?_)
    refine L_pure 2 [(0, .slice (some ⟨g, 0, none⟩) x1.length c1), (1, I (i : Int)), (2, .slice (some ⟨g2, 0, none⟩) x3.length c2), (7, I (x3.length : Int)), (8, I (x1.length : Int)), (32, .slice (some ⟨g, 0, none⟩) x1.length c1), (33, I (i : Int))] (by kernel_rfl) fun b => ?_
    refine L_op rfl (O_run (w' := w) (R_cut L58 (len := x1.length) (cap := c1) (zl := 0) (zh := (i : Int)) rfl rfl rfl (Int.le_refl _) (by omega) (by omega)) rfl rfl ?_)
    have hc0 : cutAt (some ⟨g, 0, none⟩) c1 (0 : Int).toNat 2 = some ⟨g, 0, none⟩ := by
      rw [show (0 : Int).toNat = 0 from rfl, cutAt_some (by omega), Nat.zero_mul]
    rw [hc0]
    refine L_pure 5 [(0, .slice (some ⟨g, 0, none⟩) x1.length c1), (1, I (i : Int)), (2, .slice (some ⟨g2, 0, none⟩) x3.length c2), (7, I (x3.length : Int)), (34, .slice (some ⟨g, 0, none⟩) ((i : Int).toNat - (0 : Int).toNat) (c1 - (0 : Int).toNat)), (39, I (IntKind.i64.wrap (IntKind.i64.wrap ((x1.length : Int) + (x3.length : Int)) - (i : Int))))] (by kernel_rfl) fun b => ?_
    rw [hw1, hw3]
    refine L_op rfl (O_app_make (g := g) (i := i) (c := c1) (k := x1.length + 1 - i) (cur := cur) (olds := (ecs.take i).flatten) L58 Try.underlying3 hst rfl rfl rfl htl ?_ ?_ (by omega) (by decide) hgr ?_ ?_ rfl fun g3 G3 cur3 w r1 r2 r3 r4 hst => ?_)
    · rw [t1, ← q7, List.take_take, Nat.min_eq_left (Nat.mul_le_mul_right _ (by omega))]
    · rw [q5]; exact Nat.mul_le_mul_right _ (by omega)
    · rw [Nat.add_comm, hwq]; exact hb1
    · rw [Nat.add_comm, hwq]; exact hb2
    have e1 : i + (x1.length + 1 - i) = x1.length + 1 := by omega
    rw [e1] at r1 ⊢
    refine L_pure 1 [(0, .slice (some ⟨g, 0, none⟩) x1.length c1), (1, I (i : Int)), (2, .slice (some ⟨g2, 0, none⟩) x3.length c2), (7, I (x3.length : Int)), (9, .slice (some ⟨g3, 0, none⟩) (x1.length + 1) G3)] (by kernel_rfl) fun b => wpL_nil (th_n ?_)
    refine wp_seq (wp_reg ?_)
    refine L_pure 2 [(0, .slice (some ⟨g, 0, none⟩) x1.length c1), (1, I (i : Int)), (2, .slice (some ⟨g2, 0, none⟩) x3.length c2), (7, I (x3.length : Int)), (9, .slice (some ⟨g3, 0, none⟩) (x1.length + 1) G3), (41, .slice (some ⟨g3, 0, none⟩) (x1.length + 1) G3), (42, I (i : Int))] (by kernel_rfl) fun b => ?_
    refine L_op rfl (O_run (w' := w) (R_cut L58 (len := x1.length + 1) (cap := G3) (zl := (i : Int)) (zh := ((x1.length + 1 : Nat) : Int)) rfl rfl rfl (by omega) (by omega) (by omega)) rfl rfl ?_)
    simp only [Int.toNat_natCast]
    rw [cutAt_some (g := g3) (i := i) (cap := G3) (by omega)]
    refine L_pure 1 [(0, .slice (some ⟨g, 0, none⟩) x1.length c1), (1, I (i : Int)), (2, .slice (some ⟨g2, 0, none⟩) x3.length c2), (7, I (x3.length : Int)), (9, .slice (some ⟨g3, 0, none⟩) (x1.length + 1) G3), (43, .slice (some ⟨g3, i * 2, none⟩) (x1.length + 1 - i) (G3 - i)), (44, .slice (some ⟨g2, 0, none⟩) x3.length c2)] (by kernel_rfl) fun b => ?_
    have hg2w : w.heap[g2]? = some (.cells cur2 68 (0, 0)) := (hst.pull 2).get
    refine L_op rfl (O_copy (g := g3) (o := i * 2) (k := 1) (cs := ecs2.flatten) L58 hst rfl rfl (by rw [hm]; show _ = min _ _; omega) (cells_part hg2w (by rw [v1]) (fun j v hj => ?_)) (by rw [v1, r3, ← Nat.add_mul]; exact Nat.mul_le_mul_right _ (by omega)) v2 rfl fun w hst => ?_)
    · rw [← p7] at hj
      have hlt := (List.getElem?_eq_some_iff.1 hj).1
      simp only [List.length_take] at hlt
      rw [List.getElem?_take_of_lt (by omega)] at hj
      simpa using hj
    refine L_keep [(0, .slice (some ⟨g, 0, none⟩) x1.length c1), (1, I (i : Int)), (7, I (x3.length : Int)), (9, .slice (some ⟨g3, 0, none⟩) (x1.length + 1) G3)] rfl fun b => wpL_nil (th_n ?_)
    obtain ⟨cur4, hc4⟩ : ∃ cur4 : Array Value, cur4 = (cur3.toList.take (i * 2) ++ ecs2.flatten ++ cur3.toList.drop (i * 2 + ecs2.flatten.length)).toArray := ⟨_, rfl⟩
    rw [← hc4] at hst
    have hs4 : cur4.size = G3 * 2 := by
      rw [hc4]
      simp only [List.size_toArray, List.length_append, List.length_take, List.length_drop, Array.length_toList, r3, v1]
      have : i * 2 + 1 * 2 ≤ G3 * 2 := by rw [← Nat.add_mul]; exact Nat.mul_le_mul_right _ (by omega)
      omega
    have hk4 : cur4.toList.take ((i + 1) * 2) = (ecs.take i).flatten ++ ecs2.flatten := by
      rw [hc4, r4]
      simp only
      rw [List.take_append_of_le_length (by simp only [List.length_append, htl, v1, Nat.add_mul]; omega), List.take_of_length_le (by simp only [List.length_append, htl, v1, Nat.add_mul]; omega)]
    refine wp_seq (wp_regG (SP 8 (fun _ => True)) rfl ?_)
    have hst := hst.draw (n := w.drawn + 1)
    generalize { w with drawn := w.drawn + 1 } = w at hst ⊢
    refine P_pure (i := 0) (v := .slice (some ⟨g3, 0, none⟩) (x1.length + 1) G3) 8 rfl rfl (by kernel_rfl) (fun _ _ _ h => h) rfl rfl rfl (by kernel_rfl) (.inr trivial) ?_
    refine P_pure (i := 1) (v := I (i : Int)) 8 rfl rfl (by kernel_rfl) (fun _ _ _ h => h) rfl rfl rfl (by kernel_rfl) (.inr trivial) ?_
    refine P_pure (i := 2) (v := I (x3.length : Int)) 8 rfl rfl (by kernel_rfl) (fun _ _ _ h => h) rfl rfl rfl (by kernel_rfl) (.inr trivial) ?_
    refine P_pure (i := 3) (v := I (IntKind.i64.wrap ((i : Int) + (x3.length : Int)))) 8 rfl rfl (by kernel_rfl) (fun _ _ _ h => h) rfl rfl rfl (by kernel_rfl) (.inr trivial) ?_
    rw [hw2]
    refine P_any (i := 4) 8 rfl rfl (by kernel_rfl) (fun _ _ _ h => h) rfl rfl rfl (fun w => R_cut L58 (len := x1.length + 1) (cap := G3) (zl := ((i + 1 : Nat) : Int)) (zh := ((x1.length + 1 : Nat) : Int)) rfl rfl rfl (by omega) (by omega) (by omega)) (.inr trivial) ?_
    refine P_pure (i := 5) (v := .slice (some ⟨g, 0, none⟩) x1.length c1) 8 rfl rfl (by kernel_rfl) (fun _ _ _ h => h) rfl rfl rfl (by kernel_rfl) (.inr trivial) ?_
    refine P_pure (i := 6) (v := I (i : Int)) 8 rfl rfl (by kernel_rfl) (fun _ _ _ h => h) rfl rfl rfl (by kernel_rfl) (.inr trivial) ?_
    refine P_any (i := 7) 8 rfl rfl (by kernel_rfl) (fun _ _ _ h => h) rfl rfl rfl (fun w => R_cut L58 (len := x1.length) (cap := c1) (zl := (i : Int)) (zh := (x1.length : Int)) rfl rfl rfl (by omega) (by omega) (by omega)) (.inr trivial) ?_
    simp only [Int.toNat_natCast]
    rw [cutAt_some (g := g3) (i := i + 1) (cap := G3) (by omega), cutAt_some (g := g) (i := i) (cap := c1) (by omega)]
    have hgw : w.heap[g]? = some (.cells cur 68 (0, 0)) := (hst.pull 1).get
    refine P_act (i := 8) 8 (by kernel_rfl) rfl rfl (by kernel_rfl) ?_
    refine O_copy (g := g3) (o := (i + 1) * 2) (k := x1.length - i) (cs := (ecs.drop i).flatten) L58 hst rfl rfl (by show _ = min _ _; omega) (cells_part hgw hdl (fun j v hj => ?_)) (by rw [hdl, hs4, ← Nat.add_mul]; exact Nat.mul_le_mul_right _ (by omega)) hone rfl fun w hst => ?_
    · rw [t2, ← q7, List.getElem?_drop] at hj
      have hlt := (List.getElem?_eq_some_iff.1 hj).1
      simp only [List.length_take] at hlt
      rw [List.getElem?_take_of_lt (by omega)] at hj
      simpa using hj
    refine wpG_done (by kernel_rfl) ?_ _
    refine C_keepQ [(9, .slice (some ⟨g3, 0, none⟩) (x1.length + 1) G3)] rfl fun b => th_n ?_
    refine wp_seq (wp_reg ?_)
    refine L_pure 2 [(6, .slice (some ⟨g3, 0, none⟩) (x1.length + 1) G3)] (by kernel_rfl) fun b => wpL_nil (th_n (wp_ret (th_r (ret1 rfl rfl ?_))))
    have h9 := hR (some ⟨g3, 0, none⟩) G3
    rw [hlr] at h9
    have hst := ((((hst.pull 4).pull 4).and.conv (B := al r_T_history_entry (ecs.take i ++ ecs2 ++ ecs.drop i) (x1.take i ++ x3 ++ x1.drop i)) (fun m f (hA : All2 ((r_T_history_entry : Rp _).rep m) ecs2 x3 ∧ All2 ((r_T_history_entry : Rp _).rep m) ecs x1) => All2.app (All2.app (All2.take hA.2 i) hA.1) (All2.drop hA.2 i))).cut 2 2)
    refine h9 _ (osl_shut (by rw [hlr]; omega) r2 ?_ ?_ hst)
    · show _ = G3 * 2
      simp only [List.size_toArray, List.length_append, List.length_take, List.length_drop, Array.length_toList, hs4, hdl]
      have : (i + 1) * 2 + (x1.length - i) * 2 ≤ G3 * 2 := by rw [← Nat.add_mul]; exact Nat.mul_le_mul_right _ (by omega)
      omega
    · show List.take (_ * 2) _ = _
      rw [hlr, hk4, List.flatten_append, List.flatten_append]
      simp only
      rw [List.take_append_of_le_length (by simp only [List.length_append, htl, v1, hdl, Nat.add_mul]; omega), List.take_of_length_le (by simp only [List.length_append, htl, v1, hdl, Nat.add_mul]; omega)]
  · have h : ¬ (IntKind.i64.wrap ((x1.length : Int) + (x3.length : Int)) > (c1 : Int)) := of_decide_eq_false h
    rw [hw1] at h
    refine wp_skip (th_n ?_)
    refine wp_seq (wp_reg ?_)
    refine L_pure 4 [(1, I (i : Int)), (2, .slice (some ⟨g2, 0, none⟩) x3.length c2), (7, I (x3.length : Int)), (56, .slice (some ⟨g, 0, none⟩) x1.length c1), (59, I (IntKind.i64.wrap ((x1.length : Int) + (x3.length : Int))))] (by kernel_rfl) fun b => ?_
    rw [hw1]
    refine L_op rfl (O_run (w' := w) (R_cut L58 (len := x1.length) (cap := c1) (zl := 0) (zh := ((x1.length + 1 : Nat) : Int)) rfl rfl rfl (Int.le_refl _) (by omega) (by omega)) rfl rfl ?_)
    have hc0 : cutAt (some ⟨g, 0, none⟩) c1 (0 : Int).toNat 2 = some ⟨g, 0, none⟩ := by
      rw [show (0 : Int).toNat = 0 from rfl, cutAt_some (by omega), Nat.zero_mul]
    rw [hc0]
    simp only [Int.toNat_natCast, Int.toNat_zero, Nat.sub_zero]
    refine L_pure 1 [(0, .slice (some ⟨g, 0, none⟩) (x1.length + 1) c1), (1, I (i : Int)), (2, .slice (some ⟨g2, 0, none⟩) x3.length c2), (7, I (x3.length : Int))] (by kernel_rfl) fun b => wpL_nil (th_n ?_)
    refine wp_seq (wp_seq (wp_reg ?_))
    refine L_pure 5 [(0, .slice (some ⟨g, 0, none⟩) (x1.length + 1) c1), (1, I (i : Int)), (2, .slice (some ⟨g2, 0, none⟩) x3.length c2), (7, I (x3.length : Int)), (61, .slice (some ⟨g2, 0, none⟩) x3.length c2), (62, .slice (some ⟨g, 0, none⟩) (x1.length + 1) c1), (65, I (IntKind.i64.wrap ((i : Int) + (x3.length : Int))))] (by kernel_rfl) fun b => ?_
    rw [hw2]
    refine L_op rfl (O_run (w' := w) (R_cut L58 (len := x1.length + 1) (cap := c1) (zl := ((i + 1 : Nat) : Int)) (zh := ((x1.length + 1 : Nat) : Int)) rfl rfl rfl (by omega) (by omega) (by omega)) rfl rfl ?_)
    simp only [Int.toNat_natCast]
    rw [cutAt_some (g := g) (i := i + 1) (cap := c1) (by omega)]
    have hgw := hst.get
    have hg2w : w.heap[g2]? = some (.cells cur2 68 (0, 0)) := (hst.pull 1).get
    have hap : g2 ≠ g := fun e => (St.apart hst) e.symm
    have hov : (callFunc 32 #[.slice (some ⟨g2, 0, none⟩) x3.length c2, .slice (some ⟨g, (i + 1) * 2, none⟩) (x1.length + 1 - (i + 1)) (c1 - (i + 1))]).run Try.prog w = .ok (.value (.bool false)) w := by
      obtain ⟨inf, z, hi, _, hsz9, _⟩ := (L58).hi
      rw [run_callFunc_extern Try.func32 (by kernel_rfl) (by kernel_rfl) (by kernel_rfl) (e := Extern.SlicesOverlaps.overlaps #[57, 57] #[4]) (by kernel_rfl),
        Lib.run_overlaps_apart w 57 4 68 (L57).ht 2 (fun w => by simp [sizeOf, typeInfo, hi, hsz9]) ⟨g2, 0, none⟩ ⟨g, (i + 1) * 2, none⟩ x3.length c2 _ _ hap 68 68 cur2.size cur.size (shape_blk hg2w) (shape_blk hgw) (by rw [q5]; exact Nat.mul_ne_zero (by omega) (by decide)) (frozen_blk hg2w _) (frozen_blk hg2w _)]
      rfl
    refine L_op rfl (O_run (w' := w) (R_ext (vs := #[.slice (some ⟨g2, 0, none⟩) x3.length c2, .slice (some ⟨g, (i + 1) * 2, none⟩) (x1.length + 1 - (i + 1)) (c1 - (i + 1))]) hov (by kernel_rfl)) rfl rfl ?_)
    refine L_pure 1 [(0, .slice (some ⟨g, 0, none⟩) (x1.length + 1) c1), (1, I (i : Int)), (2, .slice (some ⟨g2, 0, none⟩) x3.length c2), (7, I (x3.length : Int)), (68, .bool true)] (by kernel_rfl) fun b => wpL_nil (th_n ?_)
    refine wp_cond_mkF (t := true) rfl (fun _ => ?_) (fun h => by cases h)
    refine wp_seq (wp_regG (SP 8 (fun _ => True)) rfl ?_)
    have hst := hst.draw (n := w.drawn + 1)
    generalize { w with drawn := w.drawn + 1 } = w at hst ⊢
    refine P_pure (i := 0) (v := .slice (some ⟨g, 0, none⟩) (x1.length + 1) c1) 8 rfl rfl (by kernel_rfl) (fun _ _ _ h => h) rfl rfl rfl (by kernel_rfl) (.inr trivial) ?_
    refine P_pure (i := 1) (v := I (i : Int)) 8 rfl rfl (by kernel_rfl) (fun _ _ _ h => h) rfl rfl rfl (by kernel_rfl) (.inr trivial) ?_
    refine P_pure (i := 2) (v := I (x3.length : Int)) 8 rfl rfl (by kernel_rfl) (fun _ _ _ h => h) rfl rfl rfl (by kernel_rfl) (.inr trivial) ?_
    refine P_pure (i := 3) (v := I (IntKind.i64.wrap ((i : Int) + (x3.length : Int)))) 8 rfl rfl (by kernel_rfl) (fun _ _ _ h => h) rfl rfl rfl (by kernel_rfl) (.inr trivial) ?_
    rw [hw2]
    refine P_any (i := 4) 8 rfl rfl (by kernel_rfl) (fun _ _ _ h => h) rfl rfl rfl (fun w => R_cut L58 (len := x1.length + 1) (cap := c1) (zl := ((i + 1 : Nat) : Int)) (zh := ((x1.length + 1 : Nat) : Int)) rfl rfl rfl (by omega) (by omega) (by omega)) (.inr trivial) ?_
    refine P_pure (i := 5) (v := .slice (some ⟨g, 0, none⟩) (x1.length + 1) c1) 8 rfl rfl (by kernel_rfl) (fun _ _ _ h => h) rfl rfl rfl (by kernel_rfl) (.inr trivial) ?_
    refine P_pure (i := 6) (v := I (i : Int)) 8 rfl rfl (by kernel_rfl) (fun _ _ _ h => h) rfl rfl rfl (by kernel_rfl) (.inr trivial) ?_
    refine P_any (i := 7) 8 rfl rfl (by kernel_rfl) (fun _ _ _ h => h) rfl rfl rfl (fun w => R_cut L58 (len := x1.length + 1) (cap := c1) (zl := (i : Int)) (zh := ((x1.length + 1 : Nat) : Int)) rfl rfl rfl (by omega) (by omega) (by omega)) (.inr trivial) ?_
    simp only [Int.toNat_natCast]
    rw [cutAt_some (g := g) (i := i + 1) (cap := c1) (by omega), cutAt_some (g := g) (i := i) (cap := c1) (by omega)]
    have hgw := hst.get
    refine P_act (i := 8) 8 (by kernel_rfl) rfl rfl (by kernel_rfl) ?_
    refine O_copy (g := g) (o := (i + 1) * 2) (k := x1.length - i) (cs := (ecs.drop i).flatten) L58 hst rfl rfl (by show _ = min _ _; omega) (cells_part hgw hdl (fun j v hj => ?_)) (by rw [hdl, q5, ← Nat.add_mul]; exact Nat.mul_le_mul_right _ (by omega)) hone rfl fun w hst => ?_
    · rw [t2, ← q7, List.getElem?_drop] at hj
      have hlt := (List.getElem?_eq_some_iff.1 hj).1
      simp only [List.length_take] at hlt
      rw [List.getElem?_take_of_lt (by omega)] at hj
      simpa using hj
    refine wpG_done (by kernel_rfl) ?_ _
    refine C_keepQ [(0, .slice (some ⟨g, 0, none⟩) (x1.length + 1) c1), (1, I (i : Int)), (2, .slice (some ⟨g2, 0, none⟩) x3.length c2)] rfl fun b => th_n ?_
    obtain ⟨cur4, hc4⟩ : ∃ cur4 : Array Value, cur4 = (cur.toList.take ((i + 1) * 2) ++ (ecs.drop i).flatten ++ cur.toList.drop ((i + 1) * 2 + (ecs.drop i).flatten.length)).toArray := ⟨_, rfl⟩
    rw [← hc4] at hst
    have hsum : (i + 1) * 2 + (x1.length - i) * 2 = (x1.length + 1) * 2 := by rw [← Nat.add_mul]; congr 1; omega
    have hsum2 : (x1.length + 1) * 2 ≤ c1 * 2 := Nat.mul_le_mul_right _ (by omega)
    have hs4 : cur4.size = c1 * 2 := by
      rw [hc4]
      simp only [List.size_toArray, List.length_append, List.length_take, List.length_drop, Array.length_toList, q5, hdl]
      omega
    have hk4 : cur4.toList.take (i * 2) = (ecs.take i).flatten := by
      rw [hc4, t1, ← q7, List.take_take]
      simp only [List.append_assoc]
      rw [List.take_append_of_le_length (by simp only [List.length_take, Array.length_toList, q5, Nat.add_mul] at *; omega), List.take_take]
      congr 1
      simp only [Nat.add_mul] at *
      omega
    have hk5 : (cur4.toList.drop ((i + 1) * 2)).take ((x1.length - i) * 2) = (ecs.drop i).flatten := by
      rw [hc4]
      simp only [List.append_assoc]
      have hl9 : (List.take ((i + 1) * 2) cur.toList).length = (i + 1) * 2 := by
        rw [List.length_take, Array.length_toList, q5]
        omega
      rw [List.drop_append, List.drop_of_length_le (by omega), hl9, Nat.sub_self, List.drop_zero, List.nil_append, List.take_append_of_le_length (by omega), List.take_of_length_le (by omega)]
    refine wp_seq (wp_reg ?_)
    refine L_pure 2 [(0, .slice (some ⟨g, 0, none⟩) (x1.length + 1) c1), (2, .slice (some ⟨g2, 0, none⟩) x3.length c2), (78, .slice (some ⟨g, 0, none⟩) (x1.length + 1) c1), (79, I (i : Int))] (by kernel_rfl) fun b => ?_
    refine L_op rfl (O_run (w' := w) (R_cut L58 (len := x1.length + 1) (cap := c1) (zl := (i : Int)) (zh := ((x1.length + 1 : Nat) : Int)) rfl rfl rfl (by omega) (by omega) (by omega)) rfl rfl ?_)
    simp only [Int.toNat_natCast]
    rw [cutAt_some (g := g) (i := i) (cap := c1) (by omega)]
    refine L_pure 1 [(0, .slice (some ⟨g, 0, none⟩) (x1.length + 1) c1), (80, .slice (some ⟨g, i * 2, none⟩) (x1.length + 1 - i) (c1 - i)), (81, .slice (some ⟨g2, 0, none⟩) x3.length c2)] (by kernel_rfl) fun b => ?_
    have hg2w : w.heap[g2]? = some (.cells cur2 68 (0, 0)) := (hst.pull 1).get
    refine L_op rfl (O_copy (g := g) (o := i * 2) (k := 1) (cs := ecs2.flatten) L58 hst rfl rfl (by rw [hm]; show _ = min _ _; omega) (cells_part hg2w (by rw [v1]) (fun j v hj => ?_)) (by rw [v1, hs4, ← Nat.add_mul]; exact Nat.mul_le_mul_right _ (by omega)) v2 rfl fun w hst => ?_)
    · rw [← p7] at hj
      have hlt := (List.getElem?_eq_some_iff.1 hj).1
      simp only [List.length_take] at hlt
      rw [List.getElem?_take_of_lt (by omega)] at hj
      simpa using hj
    refine L_keep [(0, .slice (some ⟨g, 0, none⟩) (x1.length + 1) c1)] rfl fun b => wpL_nil (th_n ?_)
    refine wp_seq (wp_reg ?_)
    refine L_pure 2 [(6, .slice (some ⟨g, 0, none⟩) (x1.length + 1) c1)] (by kernel_rfl) fun b => wpL_nil (th_n (wp_ret (th_r (ret1 rfl rfl ?_))))
    have h9 := hR (some ⟨g, 0, none⟩) c1
    rw [hlr] at h9
    have hst := ((((hst.pull 3).pull 3).and.conv (B := al r_T_history_entry (ecs.take i ++ ecs2 ++ ecs.drop i) (x1.take i ++ x3 ++ x1.drop i)) (fun m f (hA : All2 ((r_T_history_entry : Rp _).rep m) ecs2 x3 ∧ All2 ((r_T_history_entry : Rp _).rep m) ecs x1) => All2.app (All2.app (All2.take hA.2 i) hA.1) (All2.drop hA.2 i))).cut 2 1)
    refine h9 _ (osl_shut (by rw [hlr]; omega) hmx ?_ ?_ hst)
    · show _ = c1 * 2
      simp only [List.size_toArray, List.length_append, List.length_take, List.length_drop, Array.length_toList, hs4, v1]
      simp only [Nat.add_mul] at *
      omega
    · show List.take (_ * 2) _ = _
      rw [hlr, hk4, List.flatten_append, List.flatten_append]
      simp only [v1]
      have e2 : i * 2 + 1 * 2 = (i + 1) * 2 := by rw [← Nat.add_mul]
      have e3 : (x1.length + 1) * 2 = (i + 1) * 2 + (x1.length - i) * 2 := hsum.symm
      rw [e2, e3, List.take_append, List.take_of_length_le (by simp only [List.length_append, htl, v1, Nat.add_mul]; omega), ← hk5]
      congr 2
      simp only [List.length_append, htl, v1, Nat.add_mul]
      omega
def history_world_with (k : Nat) (x1 : (List T_history_entry)) (x2 : (List UInt8)) (x3 : Int) : Option ((List T_history_entry)) := (Option.bind (history_world_find k x1 x2) fun y4 => (Option.bind (slices_Clone k x1) fun y5 => (if y4.2 = true then (Option.bind (gt y5 y4.1) fun x5 => some ((y5.set y4.1.toNat (T_history_entry.mk x5.name x3)))) else (Option.bind (slices_Insert k y5 y4.1 ([(T_history_entry.mk x2 x3)])) fun y6 => some (y6)))))
set_option maxRecDepth 100000 in
set_option maxHeartbeats 4000000 in
theorem history_world_with_ok {G w : World} {F : List HP} {R : Ending → World → Prop} (k : Nat) (x1 : (List T_history_entry)) (x2 : (List UInt8)) (x3 : Int) (a1 : Option Addr) (c1 : Nat) (r : ((List T_history_entry))) (hst : St G w (dsl r_T_history_entry a1 c1 x1 :: F)) (hr : history_world_with k x1 x2 x3 = some r)
    (hR : ∀ (a4 : Option Addr) (c4 : Nat) w', St G w' (osl r_T_history_entry 68 a4 c4 r :: dsl r_T_history_entry a1 c1 x1 :: F) → R (.returned (.slice a4 r.length c4)) w') :
    Calls Try.prog 23 #[.slice a1 x1.length c1, S x2, .int .u64 x3] w R := by
  unfold history_world_with at hr
  refine enter Try.func23 rfl [(0, .slice a1 x1.length c1), (1, S x2), (2, .int .u64 x3)] rfl rfl fun b => ?_
  refine wp_seq ?_
  refine wp_reg ?_
  refine L_pure 1 [(0, .slice a1 x1.length c1), (1, S x2), (2, .int .u64 x3)] (by kernel_rfl) fun b => ?_
  refine wpL_nil ?_
  refine th_n ?_
  refine wp_seq ?_
  refine wp_reg ?_
  refine L_pure 2 [(0, .slice a1 x1.length c1), (1, S x2), (2, .int .u64 x3), (11, .slice a1 x1.length c1), (12, S x2)] (by kernel_rfl) fun b => ?_
  obtain ⟨y4, hy4, hr⟩ := bnd hr
  refine L_op rfl (O_call (vs := #[.slice a1 x1.length c1, S x2]) Try.call22 (by kernel_rfl) (history_world_find_ok k x1 x2 a1 c1 y4 hst hy4 fun w hst => ?_))
  refine CK_ret rfl ?_
  refine L_pure 5 [(0, .slice a1 x1.length c1), (1, S x2), (2, .int .u64 x3), (7, I y4.1), (8, .bool y4.2)] (by kernel_rfl) fun b => ?_
  refine wpL_nil ?_
  refine th_n ?_
  refine wp_seq ?_
  refine wp_reg ?_
  refine L_pure 1 [(1, S x2), (2, .int .u64 x3), (7, I y4.1), (8, .bool y4.2), (16, .slice a1 x1.length c1)] (by kernel_rfl) fun b => ?_
  obtain ⟨y5, hy5, hr⟩ := bnd hr
  refine L_op rfl (O_call (vs := #[.slice a1 x1.length c1]) Try.call29 (by kernel_rfl) (slices_Clone_ok k x1 a1 c1 y5 hst hy5 fun a5 c5 w hst => ?_))
  refine CK_ret rfl ?_
  refine L_pure 1 [(1, S x2), (2, .int .u64 x3), (7, I y4.1), (8, .bool y4.2), (9, .slice a5 y5.length c5)] (by kernel_rfl) fun b => ?_
  refine wpL_nil ?_
  refine th_n ?_
  refine wp_seq ?_
  refine wp_seq ?_
  refine wp_reg ?_
  refine L_pure 1 [(1, S x2), (2, .int .u64 x3), (7, I y4.1), (9, .slice a5 y5.length c5), (18, .bool y4.2)] (by kernel_rfl) fun b => ?_
  refine wpL_nil ?_
  refine th_n ?_
  refine wp_cond_mkF (t := y4.2) rfl (fun h => ?_) (fun h => ?_)
  · have hr := (if_pos h).symm.trans hr
    refine wp_seq ?_
    refine wp_reg ?_
    refine L_pure 3 [(9, .slice a5 y5.length c5), (19, .slice a5 y5.length c5), (20, I y4.1), (21, .int .u64 x3)] (by kernel_rfl) fun b => ?_
    obtain ⟨x5, hx2, hr⟩ := bnd hr
    refine L_op rfl (O_run (v := pt (ab a5) (ao a5 + y4.1.toNat * 2)) (w' := w) (R_ia L58 rfl rfl (osl_addr hst hx2) (gt_some hx2).1 (gt_some hx2).2.1) rfl rfl ?_)
    refine L_pure 1 [(9, .slice a5 y5.length c5), (21, .int .u64 x3), (23, pt (ab a5) (ao a5 + y4.1.toNat * 2 + 1))] (by kernel_rfl) fun b => ?_
    refine L_op rfl (O_store_osl (φ := fun _ => True) (hφ := fun _ _ _ h => h) (y := (T_history_entry.mk x5.name x3)) (j := 1) (hst := (St.triv (fun _ => trivial) hst)) hx2 rfl rfl (by rintro m cs - ⟨y, rfl, hy⟩; exact ⟨_, rfl, ⟨y, rfl, hy⟩⟩) fun w hst => ?_)
    refine wpL_nil ?_
    refine th_n ?_
    refine wp_seq ?_
    refine wp_reg ?_
    refine L_pure 2 [(6, .slice a5 y5.length c5)] (by kernel_rfl) fun b => ?_
    refine wpL_nil ?_
    refine th_n ?_
    refine wp_ret ?_
    refine th_r ?_
    refine ret1 rfl rfl ?_
    obtain rfl := Option.some.inj hr
    have hst := ((hst.pull 1).pull 1)
    have h9 := hR a5 c5 _ hst
    simp only [List.length_set] at h9
    exact h9
  · have hr := (if_neg (by rw [h]; exact Bool.false_ne_true)).symm.trans hr
    refine wp_skip ?_
    refine th_n ?_
    refine wp_seq ?_
    refine wp_reg ?_
    refine L_pure 5 [(25, .slice a5 y5.length c5), (26, I y4.1), (29, .agg #[S x2, .int .u64 x3])] (by kernel_rfl) fun b => ?_
    refine L_op rfl (O_bs (T := 68) [S x2, .int .u64 x3] #[(0, .agg #[S x2, .int .u64 x3])] hst (by kernel_rfl) (by kernel_rfl) rfl fun p2 w hst => ?_)
    have hst := osl_of_blk0 (ecs := [[S x2, .int .u64 x3]]) r_T_history_entry [(T_history_entry.mk x2 x3)] rfl (fun m => ⟨⟨(), rfl, trivial⟩, trivial⟩) rfl hst
    obtain ⟨y6, hy6, hr⟩ := bnd hr
    refine L_op rfl (O_call (vs := #[.slice a5 y5.length c5, I y4.1, .slice (some ⟨p2, 0, none⟩) ([(T_history_entry.mk x2 x3)]).length 1]) Try.call30 (by kernel_rfl) (slices_Insert_ok k y5 y4.1 ([(T_history_entry.mk x2 x3)]) a5 c5 (some ⟨p2, 0, none⟩) 1 y6 (hst.pull 1) hy6 fun a6 c6 w hst => ?_))
    refine CK_ret rfl ?_
    refine L_pure 1 [(6, .slice a6 y6.length c6)] (by kernel_rfl) fun b => ?_
    refine wpL_nil ?_
    refine th_n ?_
    refine wp_ret ?_
    refine ret1 rfl rfl ?_
    obtain rfl := Option.some.inj hr
    have hst := ((hst.pull 1).pull 1)
    exact hR a6 c6 _ hst
def slices_Delete (_k : Nat) (x1 : (List T_history_entry)) (x2 x3 : Int) : Option (List T_history_entry) := del x1 x2 x3
set_option maxRecDepth 100000 in
set_option maxHeartbeats 4000000 in
theorem slices_Delete_ok {G w : World} {F : List HP} {R : Ending → World → Prop} (k : Nat) (x1 : (List T_history_entry)) (x2 x3 : Int) (a1 : Option Addr) (c1 : Nat) (r : (List T_history_entry)) (hst : St G w (osl r_T_history_entry 68 a1 c1 x1 :: F)) (hr : slices_Delete k x1 x2 x3 = some r)
    (hR : ∀ (a2 : Option Addr) (c2 : Nat) w', St G w' (osl r_T_history_entry 68 a2 c2 r :: F) → R (.returned (.slice a2 r.length c2)) w') :
    Calls Try.prog 31 #[.slice a1 x1.length c1, I x2, I x3] w R := by
  unfold slices_Delete del at hr
  obtain ⟨⟨h0, h1, h2⟩, hr⟩ := chk hr
  obtain rfl := Option.some.inj hr
  obtain ⟨hle, hmx⟩ := osl_len hst
  refine enter Try.func31 rfl [(0, .slice a1 x1.length c1), (1, I x2), (2, I x3)] rfl rfl fun b => ?_
  refine wp_seq (wp_reg ?_)
  refine L_pure 1 [(0, .slice a1 x1.length c1), (1, I x2), (2, I x3)] (by kernel_rfl) fun b => wpL_nil (th_n ?_)
  refine wp_seq (wp_reg ?_)
  refine L_pure 5 [(0, .slice a1 x1.length c1), (1, I x2), (2, I x3), (8, .slice a1 x1.length c1), (9, I x2), (10, I x3), (12, I (x1.length : Int))] (by kernel_rfl) fun b => ?_
  refine L_op rfl (O_run (w' := w) (R_cut3 L58 (len := x1.length) rfl rfl rfl rfl h0 h1 h2 (by omega)) rfl rfl ?_)
  refine wpL_nil (th_n ?_)
  refine wp_seq (wp_seq (wp_reg ?_))
  refine L_pure 3 [(0, .slice a1 x1.length c1), (1, I x2), (2, I x3), (16, .bool (x2 == x3))] (by kernel_rfl) fun b => wpL_nil (th_n ?_)
  refine wp_cond_mkF (t := (x2 == x3)) rfl (fun h => ?_) (fun h => ?_)
  · have e : x2 = x3 := eq_of_beq h
    subst e
    refine wp_seq (wp_reg ?_)
    refine L_pure 2 [(6, .slice a1 x1.length c1)] (by kernel_rfl) fun b => wpL_nil (th_n (wp_ret (th_r (ret1 rfl rfl ?_))))
    have hx : x1.take x2.toNat ++ x1.drop x2.toNat = x1 := List.take_append_drop _ _
    have h9 := hR a1 c1 _ (by rw [hx]; exact hst)
    rw [hx] at h9
    exact h9
  · have hne : x2 ≠ x3 := fun e => by rw [e] at h; simp at h
    refine wp_skip (th_n ?_)
    refine wp_seq (wp_reg ?_)
    refine L_pure 3 [(0, .slice a1 x1.length c1), (1, I x2), (2, I x3), (7, I (x1.length : Int))] (by kernel_rfl) fun b => wpL_nil (th_n ?_)
    rcases osl_open hst with ⟨rfl, rfl, rfl, _⟩ | ⟨g, cur, ecs, rfl, q3, q4, q5, q7, hst1⟩
    · simp at h2; omega
    · refine wp_seq (wp_regG (SP 6 (fun _ => True)) rfl ?_)
      have hst := hst1.draw (n := w.drawn + 1)
      generalize { w with drawn := w.drawn + 1 } = w at hst ⊢
      refine P_pure (i := 0) (v := .slice (some ⟨g, 0, none⟩) x1.length c1) 6 rfl rfl (by kernel_rfl) (fun _ _ _ h => h) rfl rfl rfl (by kernel_rfl) (.inr trivial) ?_
      refine P_pure (i := 1) (v := I x2) 6 rfl rfl (by kernel_rfl) (fun _ _ _ h => h) rfl rfl rfl (by kernel_rfl) (.inr trivial) ?_
      refine P_any (i := 2) 6 rfl rfl (by kernel_rfl) (fun _ _ _ h => h) rfl rfl rfl (fun w => R_cut L58 (len := x1.length) (zl := 0) rfl rfl rfl (by omega) h0 (by omega)) (.inr trivial) ?_
      refine P_pure (i := 3) (v := .slice (some ⟨g, 0, none⟩) x1.length c1) 6 rfl rfl (by kernel_rfl) (fun _ _ _ h => h) rfl rfl rfl (by kernel_rfl) (.inr trivial) ?_
      refine P_pure (i := 4) (v := I x3) 6 rfl rfl (by kernel_rfl) (fun _ _ _ h => h) rfl rfl rfl (by kernel_rfl) (.inr trivial) ?_
      refine P_any (i := 5) 6 rfl rfl (by kernel_rfl) (fun _ _ _ h => h) rfl rfl rfl (fun w => R_cut L58 (len := x1.length) (zh := x1.length) rfl rfl rfl (by omega) h2 (by omega)) (.inr trivial) ?_
      have hc0 : cutAt (some ⟨g, 0, none⟩) c1 (0 : Int).toNat 2 = some ⟨g, 0, none⟩ := by
        unfold cutAt
        by_cases hc : c1 = (0 : Int).toNat
        · rw [if_pos hc]
        · rw [if_neg hc]; rfl
      refine P_act (i := 6) 6 (by kernel_rfl) rfl rfl (by kernel_rfl) ?_
      refine O_app_self (g := g) (i := x2.toNat) (j := x3.toNat) (len := ((x1.length : Int).toNat - x3.toNat)) (cap := c1) (q := cutAt (some ⟨g, 0, none⟩) c1 x3.toNat 2) (c := c1 - x3.toNat) L58 hst q5 q7 (by rw [Int.toNat_natCast]) (by omega) (by omega) q3 ?_ rfl ?_ rfl (fun w cur' hs1 hs2 hst => ?_)
      · show Value.slice (cutAt (some ⟨g, 0, none⟩) c1 (0 : Int).toNat 2) (x2.toNat - (0 : Int).toNat) (c1 - (0 : Int).toNat) = _
        rw [hc0]; rfl
      · intro hl
        unfold cutAt
        rw [if_neg (by rw [Int.toNat_natCast] at hl; omega)]
        simp only [Option.map_some, add_pt, Nat.zero_add]; rfl
      have hlr : (x1.take x2.toNat ++ x1.drop x3.toNat).length = x2.toNat + (x1.length - x3.toNat) := by simp; omega
      refine P_pure (i := 7) (v := .slice (some ⟨g, 0, none⟩) (x1.take x2.toNat ++ x1.drop x3.toNat).length c1) 6 rfl rfl (by kernel_rfl) (fun _ _ _ h => h) rfl rfl rfl (by kernel_rfl) (.inl (by kernel_rfl)) ?_
      refine wpG_done (by kernel_rfl) ?_ _
      refine C_keepQ [(0, .slice (some ⟨g, 0, none⟩) (x1.take x2.toNat ++ x1.drop x3.toNat).length c1), (7, I (x1.length : Int))] rfl fun b => th_n ?_
      refine wp_seq (wp_reg ?_)
      refine L_pure 4 [(0, .slice (some ⟨g, 0, none⟩) (x1.take x2.toNat ++ x1.drop x3.toNat).length c1), (27, .slice (some ⟨g, 0, none⟩) (x1.take x2.toNat ++ x1.drop x3.toNat).length c1), (29, I ((x1.take x2.toNat ++ x1.drop x3.toNat).length : Int)), (30, I (x1.length : Int))] (by kernel_rfl) fun b => ?_
      refine L_op rfl (O_run (w' := w) (R_cut L58 (len := (x1.take x2.toNat ++ x1.drop x3.toNat).length) (cap := c1) rfl rfl rfl (by omega) (by rw [hlr]; omega) (by omega)) rfl rfl ?_)
      refine L_op rfl (O_clear (g := g) (off := (x1.take x2.toNat ++ x1.drop x3.toNat).length * 2) (k := (x1.length : Int).toNat - ((x1.take x2.toNat ++ x1.drop x3.toNat).length : Int).toNat) (c := c1 - ((x1.take x2.toNat ++ x1.drop x3.toNat).length : Int).toNat) L58.ht (inf := Try.t68) (by kernel_rfl) rfl rfl (hst.pull 1) ?_ ?_ (fun w cur2 hz1 hz2 hst => ?_))
      · show Value.slice (cutAt (some ⟨g, 0, none⟩) c1 ((x1.take x2.toNat ++ x1.drop x3.toNat).length : Int).toNat 2) _ _ = _
        unfold cutAt
        rw [if_neg (by rw [Int.toNat_natCast, hlr]; omega)]
        simp only [Option.map_some, add_pt, Nat.zero_add, Int.toNat_natCast]
      · rw [hs1, q5]
        simp only [Int.toNat_natCast]
        show (x1.take x2.toNat ++ x1.drop x3.toNat).length * 2 + (x1.length - (x1.take x2.toNat ++ x1.drop x3.toNat).length) * 2 ≤ c1 * 2
        rw [← Nat.add_mul]
        exact Nat.mul_le_mul_right _ (by rw [hlr]; omega)
      refine wpL_nil (th_n ?_)
      refine wp_seq (wp_reg ?_)
      refine L_pure 2 [(6, .slice (some ⟨g, 0, none⟩) (x1.take x2.toNat ++ x1.drop x3.toNat).length c1)] (by kernel_rfl) fun b => wpL_nil (th_n (wp_ret (ret1 rfl rfl ?_)))
      refine hR _ _ _ (osl_shut (by rw [hlr]; omega) q4 (by rw [hz1, hs1]; exact q5) ?_ (hst.pull 1))
      show cur2.toList.take ((x1.take x2.toNat ++ x1.drop x3.toNat).length * 2) = _
      rw [hz2]
      exact hs2
def history_world_without (k : Nat) (x1 : (List T_history_entry)) (x2 : (List UInt8)) : Option ((List T_history_entry)) := (Option.bind (history_world_find k x1 x2) fun y4 => (if (!y4.2) = true then some (x1) else (Option.bind (slices_Clone k x1) fun y5 => (Option.bind (slices_Delete k y5 y4.1 (IntKind.i64.wrap (y4.1 + 1))) fun y6 => some (y6)))))
set_option maxRecDepth 100000 in
set_option maxHeartbeats 4000000 in
theorem history_world_without_ok {G w : World} {F : List HP} {R : Ending → World → Prop} (k : Nat) (x1 : (List T_history_entry)) (x2 : (List UInt8)) (a1 : Option Addr) (c1 : Nat) (r : ((List T_history_entry))) (hst : St G w (dsl r_T_history_entry a1 c1 x1 :: F)) (hr : history_world_without k x1 x2 = some r)
    (hR : ∀ (a4 : Option Addr) (c4 : Nat) w', St G w' (dsl r_T_history_entry a4 c4 r :: dsl r_T_history_entry a1 c1 x1 :: F) → R (.returned (.slice a4 r.length c4)) w') :
    Calls Try.prog 24 #[.slice a1 x1.length c1, S x2] w R := by
  unfold history_world_without at hr
  refine enter Try.func24 rfl [(0, .slice a1 x1.length c1), (1, S x2)] rfl rfl fun b => ?_
  refine wp_seq ?_
  refine wp_reg ?_
  refine L_pure 1 [(0, .slice a1 x1.length c1), (1, S x2)] (by kernel_rfl) fun b => ?_
  refine wpL_nil ?_
  refine th_n ?_
  refine wp_seq ?_
  refine wp_reg ?_
  refine L_pure 2 [(0, .slice a1 x1.length c1), (8, .slice a1 x1.length c1), (9, S x2)] (by kernel_rfl) fun b => ?_
  obtain ⟨y4, hy4, hr⟩ := bnd hr
  refine L_op rfl (O_call (vs := #[.slice a1 x1.length c1, S x2]) Try.call22 (by kernel_rfl) (history_world_find_ok k x1 x2 a1 c1 y4 hst hy4 fun w hst => ?_))
  refine CK_ret rfl ?_
  refine L_pure 5 [(0, .slice a1 x1.length c1), (5, I y4.1), (6, .bool y4.2)] (by kernel_rfl) fun b => ?_
  refine wpL_nil ?_
  refine th_n ?_
  refine wp_seq ?_
  refine wp_seq ?_
  refine wp_reg ?_
  refine L_pure 2 [(0, .slice a1 x1.length c1), (5, I y4.1), (14, .bool (!y4.2))] (by kernel_rfl) fun b => ?_
  refine wpL_nil ?_
  refine th_n ?_
  refine wp_cond_mkF (t := (!y4.2)) rfl (fun h => ?_) (fun h => ?_)
  · have hr := (if_pos h).symm.trans hr
    refine wp_seq ?_
    refine wp_reg ?_
    refine L_pure 2 [(4, .slice a1 x1.length c1)] (by kernel_rfl) fun b => ?_
    refine wpL_nil ?_
    refine th_n ?_
    refine wp_ret ?_
    refine th_r ?_
    refine ret1 rfl rfl ?_
    obtain rfl := Option.some.inj hr
    have hst := hst.dup
    have hst := (hst.pull 1)
    exact hR a1 c1 _ hst
  · have hr := (if_neg (by rw [h]; exact Bool.false_ne_true)).symm.trans hr
    refine wp_skip ?_
    refine th_n ?_
    refine wp_seq ?_
    refine wp_reg ?_
    refine L_pure 1 [(5, I y4.1), (16, .slice a1 x1.length c1)] (by kernel_rfl) fun b => ?_
    obtain ⟨y5, hy5, hr⟩ := bnd hr
    refine L_op rfl (O_call (vs := #[.slice a1 x1.length c1]) Try.call29 (by kernel_rfl) (slices_Clone_ok k x1 a1 c1 y5 hst hy5 fun a5 c5 w hst => ?_))
    refine CK_ret rfl ?_
    refine L_pure 3 [(17, .slice a5 y5.length c5), (18, I y4.1), (20, I (IntKind.i64.wrap (y4.1 + 1)))] (by kernel_rfl) fun b => ?_
    obtain ⟨y6, hy6, hr⟩ := bnd hr
    refine L_op rfl (O_call (vs := #[.slice a5 y5.length c5, I y4.1, I (IntKind.i64.wrap (y4.1 + 1))]) Try.call31 (by kernel_rfl) (slices_Delete_ok k y5 y4.1 (IntKind.i64.wrap (y4.1 + 1)) a5 c5 y6 hst hy6 fun a6 c6 w hst => ?_))
    refine CK_ret rfl ?_
    refine L_pure 1 [(4, .slice a6 y6.length c6)] (by kernel_rfl) fun b => ?_
    refine wpL_nil ?_
    refine th_n ?_
    refine wp_ret ?_
    refine ret1 rfl rfl ?_
    obtain rfl := Option.some.inj hr
    have hst := osl_freeze hst
    have hst := ((hst.pull 1).pull 1)
    exact hR a6 c6 _ hst
def history_world_names_l1 (k : Nat) (x1 : (List T_history_entry)) : Nat → (List (List UInt8)) → Int → Option ((List (List UInt8)))
  | 0, _, _ => none
  | j + 1, v7, v8 => (if decide (v8 < (x1.length : Int)) = true then (Option.bind (gt x1 v8) fun x3 => (if room (v7.length + ([x3.name]).length) 16 = true then (history_world_names_l1 k x1 j (v7 ++ ([x3.name])) (IntKind.i64.wrap (v8 + 1))) else none)) else some (v7))
def history_world_names (k : Nat) (x1 : (List T_history_entry)) : Option ((List (List UInt8))) := (Option.bind (history_world_names_l1 k x1 k ([]) (0 : Int)) fun y2 => some (y2))
set_option maxRecDepth 100000 in
set_option maxHeartbeats 4000000 in
theorem history_world_names_ok {G w : World} {F : List HP} {R : Ending → World → Prop} (k : Nat) (x1 : (List T_history_entry)) (a1 : Option Addr) (c1 : Nat) (r : ((List (List UInt8)))) (hst : St G w (dsl r_T_history_entry a1 c1 x1 :: F)) (hr : history_world_names k x1 = some r)
    (hR : ∀ (a6 : Option Addr) (c6 : Nat) w', St G w' (osl rS 9 a6 c6 r :: dsl r_T_history_entry a1 c1 x1 :: F) → R (.returned (.slice a6 r.length c6)) w') :
    Calls Try.prog 26 #[.slice a1 x1.length c1] w R := by
  unfold history_world_names at hr
  refine enter Try.func26 rfl [(0, .slice a1 x1.length c1)] rfl rfl fun b => ?_
  refine wp_seq ?_
  refine wp_reg ?_
  refine L_pure 1 [(0, .slice a1 x1.length c1)] (by kernel_rfl) fun b => ?_
  refine wpL_nil ?_
  refine th_n ?_
  refine wp_seq ?_
  refine wp_reg ?_
  refine L_pure 1 [(0, .slice a1 x1.length c1), (3, .slice none 0 0)] (by kernel_rfl) fun b => ?_
  refine wpL_nil ?_
  refine th_n ?_
  refine wp_seq ?_
  refine wp_seq ?_
  refine wp_reg ?_
  refine L_pure 3 [(3, .slice none 0 0), (6, .slice a1 x1.length c1), (7, I (x1.length : Int)), (8, I 0)] (by kernel_rfl) fun b => ?_
  refine wpL_nil ?_
  refine th_n ?_
  obtain ⟨y2, hy2, hk2⟩ := bnd hr
  clear hr
  refine Go.Hx.wp_cut (fun a w => ∃ (a9 : Option Addr) (c9 : Nat)(b : Nat → Value), a = mkF 19 b [(3, .slice a9 y2.length c9)] ∧ St G w (osl rS 9 a9 c9 y2 :: dsl r_T_history_entry a1 c1 x1 :: F)) ?_ ?_
  · rintro _ w ⟨a9, c9, b, rfl, hst⟩
    have hr := hk2
    refine th_n ?_
    refine wp_seq ?_
    refine wp_reg ?_
    refine L_pure 2 [(2, .slice a9 y2.length c9)] (by kernel_rfl) fun b => ?_
    refine wpL_nil ?_
    refine th_n ?_
    refine wp_ret ?_
    refine ret1 rfl rfl ?_
    obtain rfl := Option.some.inj hr
    have hst := ((hst.pull 1).pull 1)
    exact hR a9 c9 _ hst
  · have hst := osl_nil rS 9 hst
    have hst := ((hst.pull 1).pull 1)
    refine wp_block ?_
    refine wp_loop_fuel (fun j a w => ∃ (v7 : (List (List UInt8))) (v8 : Int) (a7 : Option Addr) (c7 : Nat) (b : Nat → Value), a = mkF 19 b [(3, .slice a7 v7.length c7), (6, .slice a1 x1.length c1), (7, I (x1.length : Int)), (8, I v8)] ∧ St G w (osl rS 9 a7 c7 v7 :: dsl r_T_history_entry a1 c1 x1 :: F) ∧ history_world_names_l1 k x1 j v7 v8 = some y2) (k := k) ⟨[], (0 : Int), none, 0, (kpX [(3, .slice none 0 0), (6, .slice a1 x1.length c1), (7, I (x1.length : Int)), (8, I 0)] rfl ⟨hst, hy2⟩)⟩ ?_ ?_
    · rintro _ _ ⟨_, _, _, _, _, _, _, h⟩
      rw [history_world_names_l1] at h
      cases h
    · rintro j _ w ⟨v7, v8, a7, c7, b, rfl, hst, hr⟩
      rw [history_world_names_l1] at hr
      refine wp_seq ?_
      refine wp_reg ?_
      refine L_pure 1 [(3, .slice a7 v7.length c7), (6, .slice a1 x1.length c1), (7, I (x1.length : Int)), (8, I v8), (9, .bool (decide (v8 < (x1.length : Int))))] (by kernel_rfl) fun b => ?_
      refine wpL_nil ?_
      refine th_n ?_
      refine wp_seq ?_
      refine wp_cond_mkF (t := decide (v8 < (x1.length : Int))) rfl (fun h => ?_) (fun h => ?_)
      · have hr := (if_pos h).symm.trans hr
        refine wp_skip ?_
        refine th_n ?_
        refine wp_seq ?_
        refine wp_block ?_
        refine wp_seq ?_
        refine wp_reg ?_
        obtain ⟨x3, hx2, hr⟩ := bnd hr
        refine L_op rfl (O_run (v := pt (ab a1) (ao a1 + v8.toNat * 2)) (w' := w) (R_ia L58 rfl rfl (dsl_addr (hst.pull 1) hx2) (gt_some hx2).1 (gt_some hx2).2.1) rfl rfl ?_)
        obtain ⟨q2, hc2, hst⟩ := dsl_cells (hst.pull 1) hx2
        have hst := hst.drop
        refine L_op rfl (O_run (v := .agg #[S x3.name, .int .u64 x3.v]) (w' := w) (R_loadAt (off := ao a1 + v8.toNat * 2) (j := 0) hc2 rfl rfl) rfl rfl ?_)
        refine L_op rfl (O_alloc (i := Try.t68) (z := .agg #[S ([]), .int .u64 0]) [S ([]), .int .u64 0] hst rfl rfl rfl rfl fun p3 w hst => ?_)
        refine L_op rfl (O_store [S x3.name, .int .u64 x3.v] hst rfl rfl (by kernel_rfl) fun w hst => ?_)
        refine wpL_nil ?_
        refine th_n ?_
        refine wp_reg ?_
        refine L_pure 2 [(6, .slice a1 x1.length c1), (7, I (x1.length : Int)), (8, I v8), (12, .slice a7 v7.length c7), (13, pt p3 0)] (by kernel_rfl) fun b => ?_
        refine L_op rfl (O_run (v := S x3.name) (w' := w) (R_load hst rfl rfl) rfl rfl ?_)
        refine L_op rfl (O_bs (T := 9) [S x3.name] #[(0, S x3.name)] hst (by kernel_rfl) (by kernel_rfl) rfl fun p4 w hst => ?_)
        have hst := osl_of_blk0 (ecs := [[S x3.name]]) rS [x3.name] rfl (fun m => ⟨⟨(), rfl, trivial⟩, trivial⟩) rfl hst
        obtain ⟨hb2, hr⟩ := chk hr
        refine L_op rfl (O_app_o L30 (hst.pull 3) rfl rfl hb2 rfl fun a10 c10 w hst => ?_)
        refine L_pure 1 [(3, .slice a10 (v7 ++ ([x3.name])).length c10), (6, .slice a1 x1.length c1), (7, I (x1.length : Int)), (8, I v8)] (by kernel_rfl) fun b => ?_
        refine wpL_nil ?_
        refine ib_n (th_n ?_)
        refine wp_reg ?_
        refine L_pure 2 [(3, .slice a10 (v7 ++ ([x3.name])).length c10), (6, .slice a1 x1.length c1), (7, I (x1.length : Int)), (8, I (IntKind.i64.wrap (v8 + 1)))] (by kernel_rfl) fun b => ?_
        refine wpL_nil ?_
        refine th_n ?_
        have hst := (((hst.pull 3).pull 1).cut 2 2)
        exact ⟨(v7 ++ ([x3.name])), (IntKind.i64.wrap (v8 + 1)), a10, c10, (kpX [(3, .slice a10 (v7 ++ ([x3.name])).length c10), (6, .slice a1 x1.length c1), (7, I (x1.length : Int)), (8, I (IntKind.i64.wrap (v8 + 1)))] rfl ⟨hst, hr⟩)⟩
      · have hr := (if_neg (by rw [h]; exact Bool.false_ne_true)).symm.trans hr
        refine wp_exit ?_
        refine th_x (th_x (ib_x (th_n ?_)))
        obtain rfl := Option.some.inj hr
        have hst := ((hst.pull 1).pull 1)
        exact ⟨a7, c7, (kpX [(3, .slice a7 v7.length c7)] rfl hst)⟩
def slices_Equal_l1 (k : Nat) (x1 : (List (List UInt8))) (x2 : (List (List UInt8))) : Nat → Int → Option (Flow (Bool) (Unit))
  | 0, _ => none
  | j + 1, v4 => (if decide (v4 < (x1.length : Int)) = true then (Option.bind (gt x1 v4) fun x5 => (Option.bind (gt x2 v4) fun x6 => (if (!sEq x5 x6) = true then some (Flow.ret (false)) else (slices_Equal_l1 k x1 x2 j (IntKind.i64.wrap (v4 + 1)))))) else some (Flow.go ()))
def slices_Equal (k : Nat) (x1 : (List (List UInt8))) (x2 : (List (List UInt8))) : Option (Bool) := (if ((x1.length : Int) != (x2.length : Int)) = true then some (false) else (Option.bind (slices_Equal_l1 k x1 x2 k (0 : Int)) fun y2 => (match y2 with | Flow.ret r => some r | Flow.go _ => some (true))))
set_option maxRecDepth 100000 in
set_option maxHeartbeats 4000000 in
theorem slices_Equal_ok {G w : World} {F : List HP} {R : Ending → World → Prop} (k : Nat) (x1 : (List (List UInt8))) (x2 : (List (List UInt8))) (a1 : Option Addr) (c1 : Nat) (a2 : Option Addr) (c2 : Nat) (r : (Bool)) (hst : St G w (dsl rS a1 c1 x1 :: osl rS 9 a2 c2 x2 :: F)) (hr : slices_Equal k x1 x2 = some r)
    (hR : ∀ w', St G w' (dsl rS a1 c1 x1 :: osl rS 9 a2 c2 x2 :: F) → R (.returned (.bool r)) w') :
    Calls Try.prog 25 #[.slice a1 x1.length c1, .slice a2 x2.length c2] w R := by
  unfold slices_Equal at hr
  refine enter Try.func25 rfl [(0, .slice a1 x1.length c1), (1, .slice a2 x2.length c2)] rfl rfl fun b => ?_
  refine wp_seq ?_
  refine wp_reg ?_
  refine L_pure 1 [(0, .slice a1 x1.length c1), (1, .slice a2 x2.length c2)] (by kernel_rfl) fun b => ?_
  refine wpL_nil ?_
  refine th_n ?_
  refine wp_seq ?_
  refine wp_seq ?_
  refine wp_reg ?_
  refine L_pure 5 [(0, .slice a1 x1.length c1), (1, .slice a2 x2.length c2), (10, .bool ((x1.length : Int) != (x2.length : Int)))] (by kernel_rfl) fun b => ?_
  refine wpL_nil ?_
  refine th_n ?_
  refine wp_cond_mkF (t := ((x1.length : Int) != (x2.length : Int))) rfl (fun h => ?_) (fun h => ?_)
  · have hr := (if_pos h).symm.trans hr
    refine wp_seq ?_
    refine wp_reg ?_
    refine L_pure 1 [(4, .bool false)] (by kernel_rfl) fun b => ?_
    refine wpL_nil ?_
    refine th_n ?_
    refine wp_ret ?_
    refine th_r ?_
    refine ret1 rfl rfl ?_
    obtain rfl := Option.some.inj hr
    have hst := ((hst.pull 1).pull 1)
    exact hR _ hst
  · have hr := (if_neg (by rw [h]; exact Bool.false_ne_true)).symm.trans hr
    refine wp_skip ?_
    refine th_n ?_
    refine wp_seq ?_
    refine wp_seq ?_
    refine wp_reg ?_
    refine L_pure 3 [(0, .slice a1 x1.length c1), (1, .slice a2 x2.length c2), (12, I (x1.length : Int)), (13, I 0)] (by kernel_rfl) fun b => ?_
    refine wpL_nil ?_
    refine th_n ?_
    obtain ⟨y2, hy2, hk2⟩ := bnd hr
    clear hr
    refine Go.Hx.wp_cut (fun a w => ∃ (z2 : Unit) (b : Nat → Value), y2 = .go z2 ∧ a = mkF 26 b [] ∧ St G w (dsl rS a1 c1 x1 :: osl rS 9 a2 c2 x2 :: F)) ?_ ?_
    · rintro _ w ⟨z2, b, rfl, rfl, hst⟩
      have hr := hk2
      refine th_n ?_
      refine wp_seq ?_
      refine wp_reg ?_
      refine L_pure 1 [(4, .bool true)] (by kernel_rfl) fun b => ?_
      refine wpL_nil ?_
      refine th_n ?_
      refine wp_ret ?_
      refine ret1 rfl rfl ?_
      obtain rfl := Option.some.inj hr
      have hst := ((hst.pull 1).pull 1)
      exact hR _ hst
    · have hst := ((hst.pull 1).pull 1)
      refine wp_block ?_
      refine wp_loop_fuel (fun j a w => ∃ (v4 : Int) (b : Nat → Value), a = mkF 26 b [(0, .slice a1 x1.length c1), (1, .slice a2 x2.length c2), (12, I (x1.length : Int)), (13, I v4)] ∧ St G w (dsl rS a1 c1 x1 :: osl rS 9 a2 c2 x2 :: F) ∧ slices_Equal_l1 k x1 x2 j v4 = some y2) (k := k) ⟨(0 : Int), (kpX [(0, .slice a1 x1.length c1), (1, .slice a2 x2.length c2), (12, I (x1.length : Int)), (13, I 0)] rfl ⟨hst, hy2⟩)⟩ ?_ ?_
      · rintro _ _ ⟨_, _, _, _, h⟩
        rw [slices_Equal_l1] at h
        cases h
      · rintro j _ w ⟨v4, b, rfl, hst, hr⟩
        rw [slices_Equal_l1] at hr
        refine wp_seq ?_
        refine wp_reg ?_
        refine L_pure 1 [(0, .slice a1 x1.length c1), (1, .slice a2 x2.length c2), (12, I (x1.length : Int)), (13, I v4), (14, .bool (decide (v4 < (x1.length : Int))))] (by kernel_rfl) fun b => ?_
        refine wpL_nil ?_
        refine th_n ?_
        refine wp_seq ?_
        refine wp_cond_mkF (t := decide (v4 < (x1.length : Int))) rfl (fun h => ?_) (fun h => ?_)
        · have hr := (if_pos h).symm.trans hr
          refine wp_skip ?_
          refine th_n ?_
          refine wp_seq ?_
          refine wp_block ?_
          refine wp_seq ?_
          refine wp_reg ?_
          refine L_pure 2 [(0, .slice a1 x1.length c1), (1, .slice a2 x2.length c2), (5, I v4), (12, I (x1.length : Int)), (13, I v4)] (by kernel_rfl) fun b => ?_
          refine wpL_nil ?_
          refine th_n ?_
          refine wp_seq ?_
          refine wp_regG (SN { w with drawn := w.drawn + 1 }) rfl ?_
          have hst := hst.draw (n := w.drawn + 1)
          generalize { w with drawn := w.drawn + 1 } = w at hst ⊢
          refine C_take (i := 0) (v := .slice a1 x1.length c1) rfl (by kernel_rfl) (fun _ _ _ h => h) rfl rfl rfl (R_pure (by kernel_rfl)) ?_
          refine C_take (i := 1) (v := I v4) rfl (by kernel_rfl) (fun _ _ _ h => h) rfl rfl rfl (R_pure (by kernel_rfl)) ?_
          obtain ⟨x5, hx3, hr⟩ := bnd hr
          refine C_take (i := 2) (v := pt (ab a1) (ao a1 + v4.toNat * 1)) rfl (by kernel_rfl) (fun _ _ _ h => h) rfl rfl rfl (R_ia L30 rfl rfl (dsl_addr hst hx3) (gt_some hx3).1 (gt_some hx3).2.1) ?_
          obtain ⟨q3, hc3, hst⟩ := dsl_cells hst hx3
          have hst := hst.drop
          refine C_take (i := 3) (v := S x5) rfl (by kernel_rfl) (fun _ _ _ h => h) rfl rfl rfl (R_loadAt (off := ao a1 + v4.toNat * 1) (j := 0) hc3 rfl rfl) ?_
          refine C_take (i := 4) (v := .slice a2 x2.length c2) rfl (by kernel_rfl) (fun _ _ _ h => h) rfl rfl rfl (R_pure (by kernel_rfl)) ?_
          refine C_take (i := 5) (v := I v4) rfl (by kernel_rfl) (fun _ _ _ h => h) rfl rfl rfl (R_pure (by kernel_rfl)) ?_
          obtain ⟨x6, hx4, hr⟩ := bnd hr
          refine C_take (i := 6) (v := pt (ab a2) (ao a2 + v4.toNat * 1)) rfl (by kernel_rfl) (fun _ _ _ h => h) rfl rfl rfl (R_ia L30 rfl rfl (osl_addr (hst.pull 1) hx4) (gt_some hx4).1 (gt_some hx4).2.1) ?_
          obtain ⟨q4, hc4, hst⟩ := osl_cells (hst.pull 1) hx4
          have hst := hst.drop
          refine C_take (i := 7) (v := S x6) rfl (by kernel_rfl) (fun _ _ _ h => h) rfl rfl rfl (R_loadAt (off := ao a2 + v4.toNat * 1) (j := 0) hc4 rfl rfl) ?_
          refine C_take (i := 8) (v := .bool (!sEq x5 x6)) rfl (by kernel_rfl) (fun _ _ _ h => h) rfl rfl rfl (R_pure (by kernel_rfl)) ?_
          refine wpG_done (by kernel_rfl) ?_ _
          refine C_keepQ [(0, .slice a1 x1.length c1), (1, .slice a2 x2.length c2), (12, I (x1.length : Int)), (13, I v4), (24, .bool (!sEq x5 x6))] rfl fun b => ?_
          refine th_n ?_
          refine wp_cond_mkF (t := (!sEq x5 x6)) rfl (fun h => ?_) (fun h => ?_)
          · have hr := (if_pos h).symm.trans hr
            refine wp_seq ?_
            refine wp_reg ?_
            refine L_pure 1 [(4, .bool false)] (by kernel_rfl) fun b => ?_
            refine wpL_nil ?_
            refine th_n ?_
            refine wp_ret ?_
            refine ib_r (th_r (th_r (ib_r (th_r (th_r ?_)))))
            refine ret1 rfl rfl ?_
            obtain rfl := Option.some.inj hr
            obtain rfl := Option.some.inj hk2
            have hst := (hst.pull 1)
            exact hR _ hst
          · have hr := (if_neg (by rw [h]; exact Bool.false_ne_true)).symm.trans hr
            refine wp_skip ?_
            refine ib_n (th_n ?_)
            refine wp_reg ?_
            refine L_pure 2 [(0, .slice a1 x1.length c1), (1, .slice a2 x2.length c2), (12, I (x1.length : Int)), (13, I (IntKind.i64.wrap (v4 + 1)))] (by kernel_rfl) fun b => ?_
            refine wpL_nil ?_
            refine th_n ?_
            have hst := (hst.pull 1)
            exact ⟨(IntKind.i64.wrap (v4 + 1)), (kpX [(0, .slice a1 x1.length c1), (1, .slice a2 x2.length c2), (12, I (x1.length : Int)), (13, I (IntKind.i64.wrap (v4 + 1)))] rfl ⟨hst, hr⟩)⟩
        · have hr := (if_neg (by rw [h]; exact Bool.false_ne_true)).symm.trans hr
          refine wp_exit ?_
          refine th_x (th_x (ib_x (th_n ?_)))
          obtain rfl := Option.some.inj hr
          have hst := ((hst.pull 1).pull 1)
          exact ⟨(), (kpXf [] rfl hst)⟩
def history_Op_do (k : Nat) (x1 : T_history_Op) (x2 : (List T_history_entry)) : Option ((List T_history_entry) × Bool) := (Option.bind (history_world_find k x2 x1.Name) fun y12 => (if (x1.Kind == 1) = true then (Option.bind (Option.bind (history_world_with k x2 x1.Name x1.Value) fun y14 => (if decide (x1.End < 0) = true then some (y14, true) else some (y14, (x1.Err == 0)))) fun y13 => some (y13.1, y13.2)) else (if (x1.Kind == 3) = true then (Option.bind (if (!y12.2) = true then some ((5 : Int)) else some ((0 : Int))) fun y15 => (Option.bind (Option.bind (history_world_without k x2 x1.Name) fun y17 => (if decide (x1.End < 0) = true then some (y17, true) else some (y17, (x1.Err == y15)))) fun y16 => some (y16.1, y16.2))) else (if (x1.Kind == 4) = true then (Option.bind (if decide (x1.End < 0) = true then some (true) else (if (x1.Err == 0) = true then (Option.bind (history_world_names k x2) fun y19 => (Option.bind (slices_Equal k x1.Names y19) fun y20 => some (y20))) else some (false))) fun y18 => some (x2, y18)) else (if (!y12.2) = true then (Option.bind (if decide (x1.End < 0) = true then some (true) else some ((x1.Err == 5))) fun y21 => some (x2, y21)) else (Option.bind (if decide (x1.End < 0) = true then some (true) else (if (x1.Err == 0) = true then (Option.bind (gt x2 y12.1) fun x4 => some ((x1.Got == x4.v))) else some (false))) fun y22 => some (x2, y22)))))))
set_option maxRecDepth 100000 in
set_option maxHeartbeats 4000000 in
theorem history_Op_do_ok {G w : World} {F : List HP} {R : Ending → World → Prop} (k : Nat) (x1 : T_history_Op) (x2 : (List T_history_entry)) (a1 : Option Addr) (c1 : Nat) (a2 : Option Addr) (c2 : Nat) (r : ((List T_history_entry) × Bool)) (hst : St G w (dsl rS a1 c1 x1.Names :: dsl r_T_history_entry a2 c2 x2 :: F)) (hr : history_Op_do k x1 x2 = some r)
    (hR : ∀ (a8 : Option Addr) (c8 : Nat) w', St G w' (dsl r_T_history_entry a8 c8 r.1 :: dsl rS a1 c1 x1.Names :: dsl r_T_history_entry a2 c2 x2 :: F) → R (.returned (.tuple #[.slice a8 r.1.length c8, .bool r.2])) w') :
    Calls Try.prog 21 #[.agg #[I x1.Kind, S x1.Name, .int .u64 x1.Value, I x1.Start, I x1.End, I x1.Err, .int .u64 x1.Got, .slice a1 x1.Names.length c1], .slice a2 x2.length c2] w R := by
  unfold history_Op_do at hr
  refine enter Try.func21 rfl [(0, .agg #[I x1.Kind, S x1.Name, .int .u64 x1.Value, I x1.Start, I x1.End, I x1.Err, .int .u64 x1.Got, .slice a1 x1.Names.length c1]), (1, .slice a2 x2.length c2)] rfl rfl fun b => ?_
  refine wp_seq ?_
  refine wp_reg ?_
  refine L_op rfl (O_box [I x1.Kind, S x1.Name, .int .u64 x1.Value, I x1.Start, I x1.End, I x1.Err, .int .u64 x1.Got, .slice a1 x1.Names.length c1] hst rfl rfl fun p2 w hst => ?_)
  refine L_pure 2 [(1, .slice a2 x2.length c2), (2, pt p2 0)] (by kernel_rfl) fun b => ?_
  refine wpL_nil ?_
  refine th_n ?_
  refine wp_seq ?_
  refine wp_reg ?_
  refine L_pure 1 [(1, .slice a2 x2.length c2), (2, pt p2 0), (10, pt p2 4)] (by kernel_rfl) fun b => ?_
  refine L_op rfl (O_run (v := I x1.End) (w' := w) (R_load hst rfl rfl) rfl rfl ?_)
  refine L_pure 2 [(1, .slice a2 x2.length c2), (2, pt p2 0), (6, .bool (decide (x1.End < 0)))] (by kernel_rfl) fun b => ?_
  refine wpL_nil ?_
  refine th_n ?_
  refine wp_seq ?_
  refine wp_reg ?_
  refine L_pure 2 [(1, .slice a2 x2.length c2), (2, pt p2 0), (6, .bool (decide (x1.End < 0))), (14, .slice a2 x2.length c2), (15, pt p2 1)] (by kernel_rfl) fun b => ?_
  refine L_op rfl (O_run (v := S x1.Name) (w' := w) (R_load hst rfl rfl) rfl rfl ?_)
  obtain ⟨y12, hy12, hr⟩ := bnd hr
  refine L_op rfl (O_call (vs := #[.slice a2 x2.length c2, S x1.Name]) Try.call22 (by kernel_rfl) (history_world_find_ok k x2 x1.Name a2 c2 y12 (hst.pull 2) hy12 fun w hst => ?_))
  refine CK_ret rfl ?_
  refine L_pure 5 [(1, .slice a2 x2.length c2), (2, pt p2 0), (6, .bool (decide (x1.End < 0))), (7, I y12.1), (8, .bool y12.2)] (by kernel_rfl) fun b => ?_
  refine wpL_nil ?_
  refine th_n ?_
  refine wp_seq ?_
  refine wp_seq ?_
  refine wp_reg ?_
  refine L_pure 1 [(1, .slice a2 x2.length c2), (2, pt p2 0), (6, .bool (decide (x1.End < 0))), (7, I y12.1), (8, .bool y12.2), (20, pt p2 0)] (by kernel_rfl) fun b => ?_
  refine L_op rfl (O_run (v := I x1.Kind) (w' := w) (R_load (hst.pull 1) rfl rfl) rfl rfl ?_)
  refine wpL_nil ?_
  refine th_n ?_
  refine wp_block ?_
  refine wp_seq ?_
  refine wp_reg ?_
  refine L_pure 2 [(1, .slice a2 x2.length c2), (2, pt p2 0), (6, .bool (decide (x1.End < 0))), (7, I y12.1), (8, .bool y12.2), (21, I x1.Kind), (22, .bool (x1.Kind == 1))] (by kernel_rfl) fun b => ?_
  refine wpL_nil ?_
  refine th_n ?_
  refine wp_cond_mkF (t := (x1.Kind == 1)) rfl (fun h => ?_) (fun h => ?_)
  · have hr := (if_pos h).symm.trans hr
    obtain ⟨y13, hy13, hk7⟩ := bnd hr
    clear hr
    refine wp_seq_cut (fun a w => ∃ (a9 : Option Addr) (c9 : Nat)(b : Nat → Value), a = mkF 93 b [(4, .slice a9 y13.1.length c9), (5, .bool y13.2)] ∧ St G w (osl r_T_history_entry 68 a9 c9 y13.1 :: dsl r_T_history_entry a2 c2 x2 :: blk p2 (cl [I x1.Kind, S x1.Name, .int .u64 x1.Value, I x1.Start, I x1.End, I x1.Err, .int .u64 x1.Got, .slice a1 x1.Names.length c1] 32) :: dsl rS a1 c1 x1.Names :: F)) ?_ ?_
    · rintro _ w ⟨a9, c9, b, rfl, hst⟩
      have hr := hk7
      refine wp_ret ?_
      refine ib_r (th_r ?_)
      refine ret2 rfl rfl rfl ?_
      obtain rfl := Option.some.inj hr
      have hst := osl_freeze hst
      have hst := ((((hst.pull 1).pull 3).pull 2).cut 3 1)
      exact hR a9 c9 _ hst
    · have hr := hy13
      refine wp_regG (SQ (fun w => St G w (dsl r_T_history_entry a2 c2 x2 :: blk p2 (cl [I x1.Kind, S x1.Name, .int .u64 x1.Value, I x1.Start, I x1.End, I x1.Err, .int .u64 x1.Got, .slice a1 x1.Names.length c1] 32) :: dsl rS a1 c1 x1.Names :: F))) rfl ?_
      have hst := hst.draw (n := w.drawn + 1)
      generalize { w with drawn := w.drawn + 1 } = w at hst ⊢
      refine Q_take (i := 0) (v := .slice a2 x2.length c2) rfl (by kernel_rfl) (fun _ _ _ h => h) rfl rfl rfl (fun _ _ => R_pure (by kernel_rfl)) (((hst.pull 2).pull 2).pull 2) ?_
      refine Q_take (i := 1) (v := pt p2 1) rfl (by kernel_rfl) (fun _ _ _ h => h) rfl rfl rfl (fun _ _ => R_pure (by kernel_rfl)) (((hst.pull 2).pull 2).pull 2) ?_
      refine Q_take (i := 2) (v := S x1.Name) rfl (by kernel_rfl) (fun _ _ _ h => h) rfl rfl rfl (fun w hst => R_load (hst.pull 1) rfl rfl) (((hst.pull 2).pull 2).pull 2) ?_
      refine Q_take (i := 3) (v := pt p2 2) rfl (by kernel_rfl) (fun _ _ _ h => h) rfl rfl rfl (fun _ _ => R_pure (by kernel_rfl)) (((hst.pull 2).pull 2).pull 2) ?_
      refine Q_take (i := 4) (v := .int .u64 x1.Value) rfl (by kernel_rfl) (fun _ _ _ h => h) rfl rfl rfl (fun w hst => R_load (hst.pull 1) rfl rfl) (((hst.pull 2).pull 2).pull 2) ?_
      refine Q_take (i := 6) (v := .bool (decide (x1.End < 0))) rfl (by kernel_rfl) (fun _ _ _ h => h) rfl rfl rfl (fun _ _ => R_pure (by kernel_rfl)) (((hst.pull 2).pull 2).pull 2) ?_
      obtain ⟨y14, hy14, hr⟩ := bnd hr
      refine Q_one (i := 5) (by kernel_rfl) rfl rfl (O_call (vs := #[.slice a2 x2.length c2, S x1.Name, .int .u64 x1.Value]) Try.call23 (by kernel_rfl) (history_world_with_ok k x2 x1.Name x1.Value a2 c2 y14 hst hy14 fun a10 c10 w hst => ?_))
      refine CK_ret rfl ?_
      refine ⟨((((hst.pull 3).pull 3).pull 3).cut 3 1), ?_⟩
      refine Q_take (i := 7) (v := .bool (decide (x1.End < 0))) rfl (by kernel_rfl) (fun _ _ _ h => h) rfl rfl rfl (fun _ _ => R_pure (by kernel_rfl)) ((((hst.pull 3).pull 3).pull 3).cut 3 1) ?_
      by_cases h : (decide (x1.End < 0)) = true
      · have hr := (if_pos h).symm.trans hr
        refine C_keep ((31, .bool (decide (x1.End < 0))) :: [(1, .slice a2 x2.length c2), (2, pt p2 0), (6, .bool (decide (x1.End < 0))), (7, I y12.1), (8, .bool y12.2), (21, I x1.Kind), (22, .bool (x1.Kind == 1)), (24, .slice a2 x2.length c2), (25, pt p2 1), (26, S x1.Name), (27, pt p2 2), (28, .int .u64 x1.Value), (29, .slice a10 y14.length c10), (30, .bool (decide (x1.End < 0)))]) rfl fun b => ?_
        refine C_bool h ?_
        refine Q_skip (i := 8) rfl (by kernel_rfl) (fun _ _ _ h => h) rfl rfl rfl ((((hst.pull 3).pull 3).pull 3).cut 3 1) ?_
        refine Q_skip (i := 9) rfl (by kernel_rfl) (fun _ _ _ h => h) rfl rfl rfl ((((hst.pull 3).pull 3).pull 3).cut 3 1) ?_
        refine Q_skip (i := 10) rfl (by kernel_rfl) (fun _ _ _ h => h) rfl rfl rfl ((((hst.pull 3).pull 3).pull 3).cut 3 1) ?_
        refine Q_take (i := 11) (v := .bool true) rfl (by kernel_rfl) (fun _ _ _ h => h) rfl rfl rfl (fun _ _ => R_pure (by kernel_rfl)) ((((hst.pull 3).pull 3).pull 3).cut 3 1) ?_
        refine Q_take (i := 12) (v := .slice a10 y14.length c10) rfl (by kernel_rfl) (fun _ _ _ h => h) rfl rfl rfl (fun _ _ => R_pure (by kernel_rfl)) ((((hst.pull 3).pull 3).pull 3).cut 3 1) ?_
        refine Q_take (i := 13) (v := .bool true) rfl (by kernel_rfl) (fun _ _ _ h => h) rfl rfl rfl (fun _ _ => R_pure (by kernel_rfl)) ((((hst.pull 3).pull 3).pull 3).cut 3 1) ?_
        refine wpG_done (by kernel_rfl) ?_ _
        refine C_keepQ [(4, .slice a10 y14.length c10), (5, .bool true)] rfl fun b => ?_
        refine th_n ?_
        obtain rfl := Option.some.inj hr
        have hst := ((((hst.pull 3).pull 3).pull 3).pull 3)
        exact ⟨a10, c10, (kpX [(4, .slice a10 y14.length c10), (5, .bool true)] rfl hst)⟩
      · have hr := (if_neg h).symm.trans hr
        refine C_keep ((31, .bool (decide (x1.End < 0))) :: [(1, .slice a2 x2.length c2), (2, pt p2 0), (6, .bool (decide (x1.End < 0))), (7, I y12.1), (8, .bool y12.2), (21, I x1.Kind), (22, .bool (x1.Kind == 1)), (24, .slice a2 x2.length c2), (25, pt p2 1), (26, S x1.Name), (27, pt p2 2), (28, .int .u64 x1.Value), (29, .slice a10 y14.length c10), (30, .bool (decide (x1.End < 0)))]) rfl fun b => ?_
        refine C_bool (eq_false_of_ne_true h) ?_
        refine Q_take (i := 8) (v := pt p2 5) rfl (by kernel_rfl) (fun _ _ _ h => h) rfl rfl rfl (fun _ _ => R_pure (by kernel_rfl)) ((((hst.pull 3).pull 3).pull 3).cut 3 1) ?_
        refine Q_take (i := 9) (v := I x1.Err) rfl (by kernel_rfl) (fun _ _ _ h => h) rfl rfl rfl (fun w hst => R_load (hst.pull 1) rfl rfl) ((((hst.pull 3).pull 3).pull 3).cut 3 1) ?_
        refine Q_take (i := 10) (v := .bool (x1.Err == 0)) rfl (by kernel_rfl) (fun _ _ _ h => h) rfl rfl rfl (fun _ _ => R_pure (by kernel_rfl)) ((((hst.pull 3).pull 3).pull 3).cut 3 1) ?_
        refine Q_take (i := 11) (v := .bool (x1.Err == 0)) rfl (by kernel_rfl) (fun _ _ _ h => h) rfl rfl rfl (fun _ _ => R_pure (by kernel_rfl)) ((((hst.pull 3).pull 3).pull 3).cut 3 1) ?_
        refine Q_take (i := 12) (v := .slice a10 y14.length c10) rfl (by kernel_rfl) (fun _ _ _ h => h) rfl rfl rfl (fun _ _ => R_pure (by kernel_rfl)) ((((hst.pull 3).pull 3).pull 3).cut 3 1) ?_
        refine Q_take (i := 13) (v := .bool (x1.Err == 0)) rfl (by kernel_rfl) (fun _ _ _ h => h) rfl rfl rfl (fun _ _ => R_pure (by kernel_rfl)) ((((hst.pull 3).pull 3).pull 3).cut 3 1) ?_
        refine wpG_done (by kernel_rfl) ?_ _
        refine C_keepQ [(4, .slice a10 y14.length c10), (5, .bool (x1.Err == 0))] rfl fun b => ?_
        refine th_n ?_
        obtain rfl := Option.some.inj hr
        have hst := ((((hst.pull 3).pull 3).pull 3).pull 3)
        exact ⟨a10, c10, (kpX [(4, .slice a10 y14.length c10), (5, .bool (x1.Err == 0))] rfl hst)⟩
  · have hr := (if_neg (by rw [h]; exact Bool.false_ne_true)).symm.trans hr
    refine wp_seq ?_
    refine wp_reg ?_
    refine L_pure 2 [(1, .slice a2 x2.length c2), (2, pt p2 0), (6, .bool (decide (x1.End < 0))), (7, I y12.1), (8, .bool y12.2), (21, I x1.Kind), (36, .bool (x1.Kind == 3))] (by kernel_rfl) fun b => ?_
    refine wpL_nil ?_
    refine th_n ?_
    refine wp_cond_mkF (t := (x1.Kind == 3)) rfl (fun h => ?_) (fun h => ?_)
    · have hr := (if_pos h).symm.trans hr
      refine wp_seq ?_
      refine wp_reg ?_
      refine L_pure 1 [(1, .slice a2 x2.length c2), (2, pt p2 0), (6, .bool (decide (x1.End < 0))), (8, .bool y12.2), (9, I 0)] (by kernel_rfl) fun b => ?_
      refine wpL_nil ?_
      refine th_n ?_
      obtain ⟨y15, hy15, hk8⟩ := bnd hr
      clear hr
      refine wp_seq_cut (fun a w => ∃ (b : Nat → Value), a = mkF 93 b [(1, .slice a2 x2.length c2), (2, pt p2 0), (6, .bool (decide (x1.End < 0))), (9, I y15)] ∧ St G w (dsl r_T_history_entry a2 c2 x2 :: blk p2 (cl [I x1.Kind, S x1.Name, .int .u64 x1.Value, I x1.Start, I x1.End, I x1.Err, .int .u64 x1.Got, .slice a1 x1.Names.length c1] 32) :: dsl rS a1 c1 x1.Names :: F)) ?_ ?_
      · rintro _ w ⟨b, rfl, hst⟩
        have hr := hk8
        obtain ⟨y16, hy16, hk9⟩ := bnd hr
        clear hr
        refine wp_seq_cut (fun a w => ∃ (a11 : Option Addr) (c11 : Nat)(b : Nat → Value), a = mkF 93 b [(4, .slice a11 y16.1.length c11), (5, .bool y16.2)] ∧ St G w (dsl r_T_history_entry a11 c11 y16.1 :: dsl r_T_history_entry a2 c2 x2 :: blk p2 (cl [I x1.Kind, S x1.Name, .int .u64 x1.Value, I x1.Start, I x1.End, I x1.Err, .int .u64 x1.Got, .slice a1 x1.Names.length c1] 32) :: dsl rS a1 c1 x1.Names :: F)) ?_ ?_
        · rintro _ w ⟨a11, c11, b, rfl, hst⟩
          have hr := hk9
          refine wp_ret ?_
          refine ib_r (th_r ?_)
          refine ret2 rfl rfl rfl ?_
          obtain rfl := Option.some.inj hr
          have hst := ((((hst.pull 1).pull 3).pull 2).cut 3 1)
          exact hR a11 c11 _ hst
        · have hr := hy16
          refine wp_regG (SQ (fun w => St G w (dsl r_T_history_entry a2 c2 x2 :: blk p2 (cl [I x1.Kind, S x1.Name, .int .u64 x1.Value, I x1.Start, I x1.End, I x1.Err, .int .u64 x1.Got, .slice a1 x1.Names.length c1] 32) :: dsl rS a1 c1 x1.Names :: F))) rfl ?_
          have hst := hst.draw (n := w.drawn + 1)
          generalize { w with drawn := w.drawn + 1 } = w at hst ⊢
          refine Q_take (i := 0) (v := .slice a2 x2.length c2) rfl (by kernel_rfl) (fun _ _ _ h => h) rfl rfl rfl (fun _ _ => R_pure (by kernel_rfl)) (((hst.pull 2).pull 2).pull 2) ?_
          refine Q_take (i := 1) (v := pt p2 1) rfl (by kernel_rfl) (fun _ _ _ h => h) rfl rfl rfl (fun _ _ => R_pure (by kernel_rfl)) (((hst.pull 2).pull 2).pull 2) ?_
          refine Q_take (i := 2) (v := S x1.Name) rfl (by kernel_rfl) (fun _ _ _ h => h) rfl rfl rfl (fun w hst => R_load (hst.pull 1) rfl rfl) (((hst.pull 2).pull 2).pull 2) ?_
          refine Q_take (i := 4) (v := .bool (decide (x1.End < 0))) rfl (by kernel_rfl) (fun _ _ _ h => h) rfl rfl rfl (fun _ _ => R_pure (by kernel_rfl)) (((hst.pull 2).pull 2).pull 2) ?_
          obtain ⟨y17, hy17, hr⟩ := bnd hr
          refine Q_one (i := 3) (by kernel_rfl) rfl rfl (O_call (vs := #[.slice a2 x2.length c2, S x1.Name]) Try.call24 (by kernel_rfl) (history_world_without_ok k x2 x1.Name a2 c2 y17 hst hy17 fun a12 c12 w hst => ?_))
          refine CK_ret rfl ?_
          refine ⟨((((hst.pull 3).pull 3).pull 3).cut 3 1), ?_⟩
          refine Q_take (i := 5) (v := .bool (decide (x1.End < 0))) rfl (by kernel_rfl) (fun _ _ _ h => h) rfl rfl rfl (fun _ _ => R_pure (by kernel_rfl)) ((((hst.pull 3).pull 3).pull 3).cut 3 1) ?_
          by_cases h : (decide (x1.End < 0)) = true
          · have hr := (if_pos h).symm.trans hr
            refine C_keep ((45, .bool (decide (x1.End < 0))) :: [(1, .slice a2 x2.length c2), (2, pt p2 0), (6, .bool (decide (x1.End < 0))), (9, I y15), (40, .slice a2 x2.length c2), (41, pt p2 1), (42, S x1.Name), (43, .slice a12 y17.length c12), (44, .bool (decide (x1.End < 0)))]) rfl fun b => ?_
            refine C_bool h ?_
            refine Q_skip (i := 6) rfl (by kernel_rfl) (fun _ _ _ h => h) rfl rfl rfl ((((hst.pull 3).pull 3).pull 3).cut 3 1) ?_
            refine Q_skip (i := 7) rfl (by kernel_rfl) (fun _ _ _ h => h) rfl rfl rfl ((((hst.pull 3).pull 3).pull 3).cut 3 1) ?_
            refine Q_skip (i := 8) rfl (by kernel_rfl) (fun _ _ _ h => h) rfl rfl rfl ((((hst.pull 3).pull 3).pull 3).cut 3 1) ?_
            refine Q_skip (i := 9) rfl (by kernel_rfl) (fun _ _ _ h => h) rfl rfl rfl ((((hst.pull 3).pull 3).pull 3).cut 3 1) ?_
            refine Q_take (i := 10) (v := .bool true) rfl (by kernel_rfl) (fun _ _ _ h => h) rfl rfl rfl (fun _ _ => R_pure (by kernel_rfl)) ((((hst.pull 3).pull 3).pull 3).cut 3 1) ?_
            refine Q_take (i := 11) (v := .slice a12 y17.length c12) rfl (by kernel_rfl) (fun _ _ _ h => h) rfl rfl rfl (fun _ _ => R_pure (by kernel_rfl)) ((((hst.pull 3).pull 3).pull 3).cut 3 1) ?_
            refine Q_take (i := 12) (v := .bool true) rfl (by kernel_rfl) (fun _ _ _ h => h) rfl rfl rfl (fun _ _ => R_pure (by kernel_rfl)) ((((hst.pull 3).pull 3).pull 3).cut 3 1) ?_
            refine wpG_done (by kernel_rfl) ?_ _
            refine C_keepQ [(4, .slice a12 y17.length c12), (5, .bool true)] rfl fun b => ?_
            refine th_n ?_
            obtain rfl := Option.some.inj hr
            have hst := ((((hst.pull 3).pull 3).pull 3).pull 3)
            exact ⟨a12, c12, (kpX [(4, .slice a12 y17.length c12), (5, .bool true)] rfl hst)⟩
          · have hr := (if_neg h).symm.trans hr
            refine C_keep ((45, .bool (decide (x1.End < 0))) :: [(1, .slice a2 x2.length c2), (2, pt p2 0), (6, .bool (decide (x1.End < 0))), (9, I y15), (40, .slice a2 x2.length c2), (41, pt p2 1), (42, S x1.Name), (43, .slice a12 y17.length c12), (44, .bool (decide (x1.End < 0)))]) rfl fun b => ?_
            refine C_bool (eq_false_of_ne_true h) ?_
            refine Q_take (i := 6) (v := pt p2 5) rfl (by kernel_rfl) (fun _ _ _ h => h) rfl rfl rfl (fun _ _ => R_pure (by kernel_rfl)) ((((hst.pull 3).pull 3).pull 3).cut 3 1) ?_
            refine Q_take (i := 7) (v := I x1.Err) rfl (by kernel_rfl) (fun _ _ _ h => h) rfl rfl rfl (fun w hst => R_load (hst.pull 1) rfl rfl) ((((hst.pull 3).pull 3).pull 3).cut 3 1) ?_
            refine Q_take (i := 8) (v := I y15) rfl (by kernel_rfl) (fun _ _ _ h => h) rfl rfl rfl (fun _ _ => R_pure (by kernel_rfl)) ((((hst.pull 3).pull 3).pull 3).cut 3 1) ?_
            refine Q_take (i := 9) (v := .bool (x1.Err == y15)) rfl (by kernel_rfl) (fun _ _ _ h => h) rfl rfl rfl (fun _ _ => R_pure (by kernel_rfl)) ((((hst.pull 3).pull 3).pull 3).cut 3 1) ?_
            refine Q_take (i := 10) (v := .bool (x1.Err == y15)) rfl (by kernel_rfl) (fun _ _ _ h => h) rfl rfl rfl (fun _ _ => R_pure (by kernel_rfl)) ((((hst.pull 3).pull 3).pull 3).cut 3 1) ?_
            refine Q_take (i := 11) (v := .slice a12 y17.length c12) rfl (by kernel_rfl) (fun _ _ _ h => h) rfl rfl rfl (fun _ _ => R_pure (by kernel_rfl)) ((((hst.pull 3).pull 3).pull 3).cut 3 1) ?_
            refine Q_take (i := 12) (v := .bool (x1.Err == y15)) rfl (by kernel_rfl) (fun _ _ _ h => h) rfl rfl rfl (fun _ _ => R_pure (by kernel_rfl)) ((((hst.pull 3).pull 3).pull 3).cut 3 1) ?_
            refine wpG_done (by kernel_rfl) ?_ _
            refine C_keepQ [(4, .slice a12 y17.length c12), (5, .bool (x1.Err == y15))] rfl fun b => ?_
            refine th_n ?_
            obtain rfl := Option.some.inj hr
            have hst := ((((hst.pull 3).pull 3).pull 3).pull 3)
            exact ⟨a12, c12, (kpX [(4, .slice a12 y17.length c12), (5, .bool (x1.Err == y15))] rfl hst)⟩
      · have hr := hy15
        refine wp_seq ?_
        refine wp_reg ?_
        refine L_pure 2 [(1, .slice a2 x2.length c2), (2, pt p2 0), (6, .bool (decide (x1.End < 0))), (9, I 0), (39, .bool (!y12.2))] (by kernel_rfl) fun b => ?_
        refine wpL_nil ?_
        refine th_n ?_
        refine wp_cond_mkF (t := (!y12.2)) rfl (fun h => ?_) (fun h => ?_)
        · have hr := (if_pos h).symm.trans hr
          refine wp_reg ?_
          refine L_pure 1 [(1, .slice a2 x2.length c2), (2, pt p2 0), (6, .bool (decide (x1.End < 0))), (9, I 5)] (by kernel_rfl) fun b => ?_
          refine wpL_nil ?_
          refine th_n ?_
          obtain rfl := Option.some.inj hr
          have hst := (((hst.pull 2).pull 2).pull 2)
          exact (kpX [(1, .slice a2 x2.length c2), (2, pt p2 0), (6, .bool (decide (x1.End < 0))), (9, I 5)] rfl hst)
        · have hr := (if_neg (by rw [h]; exact Bool.false_ne_true)).symm.trans hr
          refine wp_skip ?_
          refine th_n ?_
          obtain rfl := Option.some.inj hr
          have hst := (((hst.pull 2).pull 2).pull 2)
          exact (kpX [(1, .slice a2 x2.length c2), (2, pt p2 0), (6, .bool (decide (x1.End < 0))), (9, I 0)] rfl hst)
    · have hr := (if_neg (by rw [h]; exact Bool.false_ne_true)).symm.trans hr
      refine wp_seq ?_
      refine wp_reg ?_
      refine L_pure 2 [(1, .slice a2 x2.length c2), (2, pt p2 0), (6, .bool (decide (x1.End < 0))), (7, I y12.1), (8, .bool y12.2), (51, .bool (x1.Kind == 4))] (by kernel_rfl) fun b => ?_
      refine wpL_nil ?_
      refine th_n ?_
      refine wp_cond_mkF (t := (x1.Kind == 4)) rfl (fun h => ?_) (fun h => ?_)
      · have hr := (if_pos h).symm.trans hr
        obtain ⟨y18, hy18, hk10⟩ := bnd hr
        clear hr
        refine wp_seq_cut (fun a w => ∃ (b : Nat → Value), a = mkF 93 b [(4, .slice a2 x2.length c2), (5, .bool y18)] ∧ St G w (dsl r_T_history_entry a2 c2 x2 :: blk p2 (cl [I x1.Kind, S x1.Name, .int .u64 x1.Value, I x1.Start, I x1.End, I x1.Err, .int .u64 x1.Got, .slice a1 x1.Names.length c1] 32) :: dsl rS a1 c1 x1.Names :: F)) ?_ ?_
        · rintro _ w ⟨b, rfl, hst⟩
          have hr := hk10
          refine wp_ret ?_
          refine ib_r (th_r ?_)
          refine ret2 rfl rfl rfl ?_
          obtain rfl := Option.some.inj hr
          have hst := hst.dup
          have hst := (((hst.pull 3).pull 2).cut 3 1)
          exact hR a2 c2 _ hst
        · have hr := hy18
          refine wp_regG (SQ (fun w => St G w (dsl r_T_history_entry a2 c2 x2 :: blk p2 (cl [I x1.Kind, S x1.Name, .int .u64 x1.Value, I x1.Start, I x1.End, I x1.Err, .int .u64 x1.Got, .slice a1 x1.Names.length c1] 32) :: dsl rS a1 c1 x1.Names :: F))) rfl ?_
          have hst := hst.draw (n := w.drawn + 1)
          generalize { w with drawn := w.drawn + 1 } = w at hst ⊢
          refine Q_take (i := 0) (v := .slice a2 x2.length c2) rfl (by kernel_rfl) (fun _ _ _ h => h) rfl rfl rfl (fun _ _ => R_pure (by kernel_rfl)) (((hst.pull 2).pull 2).pull 2) ?_
          refine Q_take (i := 1) (v := .bool (decide (x1.End < 0))) rfl (by kernel_rfl) (fun _ _ _ h => h) rfl rfl rfl (fun _ _ => R_pure (by kernel_rfl)) (((hst.pull 2).pull 2).pull 2) ?_
          refine Q_take (i := 2) (v := .bool (decide (x1.End < 0))) rfl (by kernel_rfl) (fun _ _ _ h => h) rfl rfl rfl (fun _ _ => R_pure (by kernel_rfl)) (((hst.pull 2).pull 2).pull 2) ?_
          by_cases h : (decide (x1.End < 0)) = true
          · have hr := (if_pos h).symm.trans hr
            refine C_keep ((55, .bool (decide (x1.End < 0))) :: [(1, .slice a2 x2.length c2), (2, pt p2 0), (6, .bool (decide (x1.End < 0))), (7, I y12.1), (8, .bool y12.2), (51, .bool (x1.Kind == 4)), (53, .slice a2 x2.length c2), (54, .bool (decide (x1.End < 0)))]) rfl fun b => ?_
            refine C_bool h ?_
            refine Q_skip (i := 3) rfl (by kernel_rfl) (fun _ _ _ h => h) rfl rfl rfl (((hst.pull 2).pull 2).pull 2) ?_
            refine Q_skip (i := 4) rfl (by kernel_rfl) (fun _ _ _ h => h) rfl rfl rfl (((hst.pull 2).pull 2).pull 2) ?_
            refine Q_skip (i := 5) rfl (by kernel_rfl) (fun _ _ _ h => h) rfl rfl rfl (((hst.pull 2).pull 2).pull 2) ?_
            refine Q_skip (i := 6) rfl (by kernel_rfl) (fun _ _ _ h => h) rfl rfl rfl (((hst.pull 2).pull 2).pull 2) ?_
            refine Q_skip (i := 7) rfl (by kernel_rfl) (fun _ _ _ h => h) rfl rfl rfl (((hst.pull 2).pull 2).pull 2) ?_
            refine Q_skip (i := 8) rfl (by kernel_rfl) (fun _ _ _ h => h) rfl rfl rfl (((hst.pull 2).pull 2).pull 2) ?_
            refine Q_skip (i := 9) rfl (by kernel_rfl) (fun _ _ _ h => h) rfl rfl rfl (((hst.pull 2).pull 2).pull 2) ?_
            refine Q_skip (i := 10) rfl (by kernel_rfl) (fun _ _ _ h => h) rfl rfl rfl (((hst.pull 2).pull 2).pull 2) ?_
            refine Q_skip (i := 11) rfl (by kernel_rfl) (fun _ _ _ h => h) rfl rfl rfl (((hst.pull 2).pull 2).pull 2) ?_
            refine Q_skip (i := 12) rfl (by kernel_rfl) (fun _ _ _ h => h) rfl rfl rfl (((hst.pull 2).pull 2).pull 2) ?_
            refine Q_take (i := 13) (v := .bool true) rfl (by kernel_rfl) (fun _ _ _ h => h) rfl rfl rfl (fun _ _ => R_pure (by kernel_rfl)) (((hst.pull 2).pull 2).pull 2) ?_
            refine Q_take (i := 14) (v := .slice a2 x2.length c2) rfl (by kernel_rfl) (fun _ _ _ h => h) rfl rfl rfl (fun _ _ => R_pure (by kernel_rfl)) (((hst.pull 2).pull 2).pull 2) ?_
            refine Q_take (i := 15) (v := .bool true) rfl (by kernel_rfl) (fun _ _ _ h => h) rfl rfl rfl (fun _ _ => R_pure (by kernel_rfl)) (((hst.pull 2).pull 2).pull 2) ?_
            refine wpG_done (by kernel_rfl) ?_ _
            refine C_keepQ [(4, .slice a2 x2.length c2), (5, .bool true)] rfl fun b => ?_
            refine th_n ?_
            obtain rfl := Option.some.inj hr
            have hst := (((hst.pull 2).pull 2).pull 2)
            exact (kpX [(4, .slice a2 x2.length c2), (5, .bool true)] rfl hst)
          · have hr := (if_neg h).symm.trans hr
            refine C_keep ((55, .bool (decide (x1.End < 0))) :: [(1, .slice a2 x2.length c2), (2, pt p2 0), (6, .bool (decide (x1.End < 0))), (7, I y12.1), (8, .bool y12.2), (51, .bool (x1.Kind == 4)), (53, .slice a2 x2.length c2), (54, .bool (decide (x1.End < 0)))]) rfl fun b => ?_
            refine C_bool (eq_false_of_ne_true h) ?_
            refine Q_take (i := 3) (v := pt p2 5) rfl (by kernel_rfl) (fun _ _ _ h => h) rfl rfl rfl (fun _ _ => R_pure (by kernel_rfl)) (((hst.pull 2).pull 2).pull 2) ?_
            refine Q_take (i := 4) (v := I x1.Err) rfl (by kernel_rfl) (fun _ _ _ h => h) rfl rfl rfl (fun w hst => R_load (hst.pull 1) rfl rfl) (((hst.pull 2).pull 2).pull 2) ?_
            refine Q_take (i := 5) (v := .bool (x1.Err == 0)) rfl (by kernel_rfl) (fun _ _ _ h => h) rfl rfl rfl (fun _ _ => R_pure (by kernel_rfl)) (((hst.pull 2).pull 2).pull 2) ?_
            refine Q_take (i := 6) (v := .bool (x1.Err == 0)) rfl (by kernel_rfl) (fun _ _ _ h => h) rfl rfl rfl (fun _ _ => R_pure (by kernel_rfl)) (((hst.pull 2).pull 2).pull 2) ?_
            by_cases h : (x1.Err == 0) = true
            · have hr := (if_pos h).symm.trans hr
              refine C_keep ((59, .bool (x1.Err == 0)) :: [(1, .slice a2 x2.length c2), (2, pt p2 0), (6, .bool (decide (x1.End < 0))), (7, I y12.1), (8, .bool y12.2), (51, .bool (x1.Kind == 4)), (53, .slice a2 x2.length c2), (54, .bool (decide (x1.End < 0))), (55, .bool false), (56, pt p2 5), (57, I x1.Err), (58, .bool (x1.Err == 0))]) rfl fun b => ?_
              refine C_bool h ?_
              refine Q_take (i := 7) (v := pt p2 7) rfl (by kernel_rfl) (fun _ _ _ h => h) rfl rfl rfl (fun _ _ => R_pure (by kernel_rfl)) (((hst.pull 2).pull 2).pull 2) ?_
              refine Q_take (i := 8) (v := .slice a1 x1.Names.length c1) rfl (by kernel_rfl) (fun _ _ _ h => h) rfl rfl rfl (fun w hst => R_load (hst.pull 1) rfl rfl) (((hst.pull 2).pull 2).pull 2) ?_
              refine Q_take (i := 9) (v := .slice a2 x2.length c2) rfl (by kernel_rfl) (fun _ _ _ h => h) rfl rfl rfl (fun _ _ => R_pure (by kernel_rfl)) (((hst.pull 2).pull 2).pull 2) ?_
              obtain ⟨y19, hy19, hr⟩ := bnd hr
              refine Q_one (i := 10) (by kernel_rfl) rfl rfl (O_call (vs := #[.slice a2 x2.length c2]) Try.call26 (by kernel_rfl) (history_world_names_ok k x2 a2 c2 y19 hst hy19 fun a13 c13 w hst => ?_))
              refine CK_ret rfl ?_
              refine ⟨((((hst.pull 3).pull 3).pull 3).cut 3 1), ?_⟩
              obtain ⟨y20, hy20, hr⟩ := bnd hr
              refine Q_one (i := 11) (by kernel_rfl) rfl rfl (O_call (vs := #[.slice a1 x1.Names.length c1, .slice a13 y19.length c13]) Try.call25 (by kernel_rfl) (slices_Equal_ok k x1.Names y19 a1 c1 a13 c13 y20 (hst.pull 3) hy20 fun w hst => ?_))
              refine CK_ret rfl ?_
              refine ⟨(((hst.pull 3).pull 3).cut 3 1), ?_⟩
              refine Q_take (i := 12) (v := .bool y20) rfl (by kernel_rfl) (fun _ _ _ h => h) rfl rfl rfl (fun _ _ => R_pure (by kernel_rfl)) (((hst.pull 3).pull 3).cut 3 1) ?_
              refine Q_take (i := 13) (v := .bool y20) rfl (by kernel_rfl) (fun _ _ _ h => h) rfl rfl rfl (fun _ _ => R_pure (by kernel_rfl)) (((hst.pull 3).pull 3).cut 3 1) ?_
              refine Q_take (i := 14) (v := .slice a2 x2.length c2) rfl (by kernel_rfl) (fun _ _ _ h => h) rfl rfl rfl (fun _ _ => R_pure (by kernel_rfl)) (((hst.pull 3).pull 3).cut 3 1) ?_
              refine Q_take (i := 15) (v := .bool y20) rfl (by kernel_rfl) (fun _ _ _ h => h) rfl rfl rfl (fun _ _ => R_pure (by kernel_rfl)) (((hst.pull 3).pull 3).cut 3 1) ?_
              refine wpG_done (by kernel_rfl) ?_ _
              refine C_keepQ [(4, .slice a2 x2.length c2), (5, .bool y20)] rfl fun b => ?_
              refine th_n ?_
              obtain rfl := Option.some.inj hr
              have hst := (((hst.pull 3).pull 3).cut 3 1)
              exact (kpX [(4, .slice a2 x2.length c2), (5, .bool y20)] rfl hst)
            · have hr := (if_neg h).symm.trans hr
              refine C_keep ((59, .bool (x1.Err == 0)) :: [(1, .slice a2 x2.length c2), (2, pt p2 0), (6, .bool (decide (x1.End < 0))), (7, I y12.1), (8, .bool y12.2), (51, .bool (x1.Kind == 4)), (53, .slice a2 x2.length c2), (54, .bool (decide (x1.End < 0))), (55, .bool false), (56, pt p2 5), (57, I x1.Err), (58, .bool (x1.Err == 0))]) rfl fun b => ?_
              refine C_bool (eq_false_of_ne_true h) ?_
              refine Q_skip (i := 7) rfl (by kernel_rfl) (fun _ _ _ h => h) rfl rfl rfl (((hst.pull 2).pull 2).pull 2) ?_
              refine Q_skip (i := 8) rfl (by kernel_rfl) (fun _ _ _ h => h) rfl rfl rfl (((hst.pull 2).pull 2).pull 2) ?_
              refine Q_skip (i := 9) rfl (by kernel_rfl) (fun _ _ _ h => h) rfl rfl rfl (((hst.pull 2).pull 2).pull 2) ?_
              refine Q_skip (i := 10) rfl (by kernel_rfl) (fun _ _ _ h => h) rfl rfl rfl (((hst.pull 2).pull 2).pull 2) ?_
              refine Q_skip (i := 11) rfl (by kernel_rfl) (fun _ _ _ h => h) rfl rfl rfl (((hst.pull 2).pull 2).pull 2) ?_
              refine Q_take (i := 12) (v := .bool false) rfl (by kernel_rfl) (fun _ _ _ h => h) rfl rfl rfl (fun _ _ => R_pure (by kernel_rfl)) (((hst.pull 2).pull 2).pull 2) ?_
              refine Q_take (i := 13) (v := .bool false) rfl (by kernel_rfl) (fun _ _ _ h => h) rfl rfl rfl (fun _ _ => R_pure (by kernel_rfl)) (((hst.pull 2).pull 2).pull 2) ?_
              refine Q_take (i := 14) (v := .slice a2 x2.length c2) rfl (by kernel_rfl) (fun _ _ _ h => h) rfl rfl rfl (fun _ _ => R_pure (by kernel_rfl)) (((hst.pull 2).pull 2).pull 2) ?_
              refine Q_take (i := 15) (v := .bool false) rfl (by kernel_rfl) (fun _ _ _ h => h) rfl rfl rfl (fun _ _ => R_pure (by kernel_rfl)) (((hst.pull 2).pull 2).pull 2) ?_
              refine wpG_done (by kernel_rfl) ?_ _
              refine C_keepQ [(4, .slice a2 x2.length c2), (5, .bool false)] rfl fun b => ?_
              refine th_n ?_
              obtain rfl := Option.some.inj hr
              have hst := (((hst.pull 2).pull 2).pull 2)
              exact (kpX [(4, .slice a2 x2.length c2), (5, .bool false)] rfl hst)
      · have hr := (if_neg (by rw [h]; exact Bool.false_ne_true)).symm.trans hr
        refine wp_skip ?_
        refine ib_n (th_n ?_)
        refine wp_seq ?_
        refine wp_seq ?_
        refine wp_reg ?_
        refine L_pure 2 [(1, .slice a2 x2.length c2), (2, pt p2 0), (6, .bool (decide (x1.End < 0))), (7, I y12.1), (68, .bool (!y12.2))] (by kernel_rfl) fun b => ?_
        refine wpL_nil ?_
        refine th_n ?_
        refine wp_cond_mkF (t := (!y12.2)) rfl (fun h => ?_) (fun h => ?_)
        · have hr := (if_pos h).symm.trans hr
          obtain ⟨y21, hy21, hk11⟩ := bnd hr
          clear hr
          refine wp_seq_cut (fun a w => ∃ (b : Nat → Value), a = mkF 93 b [(4, .slice a2 x2.length c2), (5, .bool y21)] ∧ St G w (dsl r_T_history_entry a2 c2 x2 :: blk p2 (cl [I x1.Kind, S x1.Name, .int .u64 x1.Value, I x1.Start, I x1.End, I x1.Err, .int .u64 x1.Got, .slice a1 x1.Names.length c1] 32) :: dsl rS a1 c1 x1.Names :: F)) ?_ ?_
          · rintro _ w ⟨b, rfl, hst⟩
            have hr := hk11
            refine wp_ret ?_
            refine th_r ?_
            refine ret2 rfl rfl rfl ?_
            obtain rfl := Option.some.inj hr
            have hst := hst.dup
            have hst := (((hst.pull 3).pull 2).cut 3 1)
            exact hR a2 c2 _ hst
          · have hr := hy21
            refine wp_regG (SN { w with drawn := w.drawn + 1 }) rfl ?_
            have hst := hst.draw (n := w.drawn + 1)
            generalize { w with drawn := w.drawn + 1 } = w at hst ⊢
            refine C_take (i := 0) (v := .slice a2 x2.length c2) rfl (by kernel_rfl) (fun _ _ _ h => h) rfl rfl rfl (R_pure (by kernel_rfl)) ?_
            refine C_take (i := 1) (v := .bool (decide (x1.End < 0))) rfl (by kernel_rfl) (fun _ _ _ h => h) rfl rfl rfl (R_pure (by kernel_rfl)) ?_
            refine C_take (i := 2) (v := .bool (decide (x1.End < 0))) rfl (by kernel_rfl) (fun _ _ _ h => h) rfl rfl rfl (R_pure (by kernel_rfl)) ?_
            by_cases h : (decide (x1.End < 0)) = true
            · have hr := (if_pos h).symm.trans hr
              refine C_keep ((71, .bool (decide (x1.End < 0))) :: [(1, .slice a2 x2.length c2), (2, pt p2 0), (6, .bool (decide (x1.End < 0))), (7, I y12.1), (68, .bool (!y12.2)), (69, .slice a2 x2.length c2), (70, .bool (decide (x1.End < 0)))]) rfl fun b => ?_
              refine C_bool h ?_
              refine C_skip (i := 3) rfl (by kernel_rfl) (fun _ _ _ h => h) rfl rfl rfl ?_
              refine C_skip (i := 4) rfl (by kernel_rfl) (fun _ _ _ h => h) rfl rfl rfl ?_
              refine C_skip (i := 5) rfl (by kernel_rfl) (fun _ _ _ h => h) rfl rfl rfl ?_
              refine C_take (i := 6) (v := .bool true) rfl (by kernel_rfl) (fun _ _ _ h => h) rfl rfl rfl (R_pure (by kernel_rfl)) ?_
              refine C_take (i := 7) (v := .slice a2 x2.length c2) rfl (by kernel_rfl) (fun _ _ _ h => h) rfl rfl rfl (R_pure (by kernel_rfl)) ?_
              refine C_take (i := 8) (v := .bool true) rfl (by kernel_rfl) (fun _ _ _ h => h) rfl rfl rfl (R_pure (by kernel_rfl)) ?_
              refine wpG_done (by kernel_rfl) ?_ _
              refine C_keepQ [(4, .slice a2 x2.length c2), (5, .bool true)] rfl fun b => ?_
              refine th_n ?_
              obtain rfl := Option.some.inj hr
              have hst := (((hst.pull 2).pull 2).pull 2)
              exact (kpX [(4, .slice a2 x2.length c2), (5, .bool true)] rfl hst)
            · have hr := (if_neg h).symm.trans hr
              refine C_keep ((71, .bool (decide (x1.End < 0))) :: [(1, .slice a2 x2.length c2), (2, pt p2 0), (6, .bool (decide (x1.End < 0))), (7, I y12.1), (68, .bool (!y12.2)), (69, .slice a2 x2.length c2), (70, .bool (decide (x1.End < 0)))]) rfl fun b => ?_
              refine C_bool (eq_false_of_ne_true h) ?_
              refine C_take (i := 3) (v := pt p2 5) rfl (by kernel_rfl) (fun _ _ _ h => h) rfl rfl rfl (R_pure (by kernel_rfl)) ?_
              refine C_take (i := 4) (v := I x1.Err) rfl (by kernel_rfl) (fun _ _ _ h => h) rfl rfl rfl (R_load (hst.pull 1) rfl rfl) ?_
              refine C_take (i := 5) (v := .bool (x1.Err == 5)) rfl (by kernel_rfl) (fun _ _ _ h => h) rfl rfl rfl (R_pure (by kernel_rfl)) ?_
              refine C_take (i := 6) (v := .bool (x1.Err == 5)) rfl (by kernel_rfl) (fun _ _ _ h => h) rfl rfl rfl (R_pure (by kernel_rfl)) ?_
              refine C_take (i := 7) (v := .slice a2 x2.length c2) rfl (by kernel_rfl) (fun _ _ _ h => h) rfl rfl rfl (R_pure (by kernel_rfl)) ?_
              refine C_take (i := 8) (v := .bool (x1.Err == 5)) rfl (by kernel_rfl) (fun _ _ _ h => h) rfl rfl rfl (R_pure (by kernel_rfl)) ?_
              refine wpG_done (by kernel_rfl) ?_ _
              refine C_keepQ [(4, .slice a2 x2.length c2), (5, .bool (x1.Err == 5))] rfl fun b => ?_
              refine th_n ?_
              obtain rfl := Option.some.inj hr
              have hst := (((hst.pull 2).pull 2).pull 2)
              exact (kpX [(4, .slice a2 x2.length c2), (5, .bool (x1.Err == 5))] rfl hst)
        · have hr := (if_neg (by rw [h]; exact Bool.false_ne_true)).symm.trans hr
          refine wp_skip ?_
          refine th_n ?_
          obtain ⟨y22, hy22, hk12⟩ := bnd hr
          clear hr
          refine wp_seq_cut (fun a w => ∃ (b : Nat → Value), a = mkF 93 b [(4, .slice a2 x2.length c2), (5, .bool y22)] ∧ St G w (dsl r_T_history_entry a2 c2 x2 :: blk p2 (cl [I x1.Kind, S x1.Name, .int .u64 x1.Value, I x1.Start, I x1.End, I x1.Err, .int .u64 x1.Got, .slice a1 x1.Names.length c1] 32) :: dsl rS a1 c1 x1.Names :: F)) ?_ ?_
          · rintro _ w ⟨b, rfl, hst⟩
            have hr := hk12
            refine wp_ret ?_
            refine ret2 rfl rfl rfl ?_
            obtain rfl := Option.some.inj hr
            have hst := hst.dup
            have hst := (((hst.pull 3).pull 2).cut 3 1)
            exact hR a2 c2 _ hst
          · have hr := hy22
            refine wp_regG (SN { w with drawn := w.drawn + 1 }) rfl ?_
            have hst := hst.draw (n := w.drawn + 1)
            generalize { w with drawn := w.drawn + 1 } = w at hst ⊢
            refine C_take (i := 0) (v := .slice a2 x2.length c2) rfl (by kernel_rfl) (fun _ _ _ h => h) rfl rfl rfl (R_pure (by kernel_rfl)) ?_
            refine C_take (i := 1) (v := .bool (decide (x1.End < 0))) rfl (by kernel_rfl) (fun _ _ _ h => h) rfl rfl rfl (R_pure (by kernel_rfl)) ?_
            refine C_take (i := 2) (v := .bool (decide (x1.End < 0))) rfl (by kernel_rfl) (fun _ _ _ h => h) rfl rfl rfl (R_pure (by kernel_rfl)) ?_
            by_cases h : (decide (x1.End < 0)) = true
            · have hr := (if_pos h).symm.trans hr
              refine C_keep ((78, .bool (decide (x1.End < 0))) :: [(1, .slice a2 x2.length c2), (2, pt p2 0), (6, .bool (decide (x1.End < 0))), (7, I y12.1), (68, .bool (!y12.2)), (76, .slice a2 x2.length c2), (77, .bool (decide (x1.End < 0)))]) rfl fun b => ?_
              refine C_bool h ?_
              refine C_skip (i := 3) rfl (by kernel_rfl) (fun _ _ _ h => h) rfl rfl rfl ?_
              refine C_skip (i := 4) rfl (by kernel_rfl) (fun _ _ _ h => h) rfl rfl rfl ?_
              refine C_skip (i := 5) rfl (by kernel_rfl) (fun _ _ _ h => h) rfl rfl rfl ?_
              refine C_skip (i := 6) rfl (by kernel_rfl) (fun _ _ _ h => h) rfl rfl rfl ?_
              refine C_skip (i := 7) rfl (by kernel_rfl) (fun _ _ _ h => h) rfl rfl rfl ?_
              refine C_skip (i := 8) rfl (by kernel_rfl) (fun _ _ _ h => h) rfl rfl rfl ?_
              refine C_skip (i := 9) rfl (by kernel_rfl) (fun _ _ _ h => h) rfl rfl rfl ?_
              refine C_skip (i := 10) rfl (by kernel_rfl) (fun _ _ _ h => h) rfl rfl rfl ?_
              refine C_skip (i := 11) rfl (by kernel_rfl) (fun _ _ _ h => h) rfl rfl rfl ?_
              refine C_skip (i := 12) rfl (by kernel_rfl) (fun _ _ _ h => h) rfl rfl rfl ?_
              refine C_skip (i := 13) rfl (by kernel_rfl) (fun _ _ _ h => h) rfl rfl rfl ?_
              refine C_skip (i := 14) rfl (by kernel_rfl) (fun _ _ _ h => h) rfl rfl rfl ?_
              refine C_skip (i := 15) rfl (by kernel_rfl) (fun _ _ _ h => h) rfl rfl rfl ?_
              refine C_take (i := 16) (v := .bool true) rfl (by kernel_rfl) (fun _ _ _ h => h) rfl rfl rfl (R_pure (by kernel_rfl)) ?_
              refine C_take (i := 17) (v := .slice a2 x2.length c2) rfl (by kernel_rfl) (fun _ _ _ h => h) rfl rfl rfl (R_pure (by kernel_rfl)) ?_
              refine C_take (i := 18) (v := .bool true) rfl (by kernel_rfl) (fun _ _ _ h => h) rfl rfl rfl (R_pure (by kernel_rfl)) ?_
              refine wpG_done (by kernel_rfl) ?_ _
              refine C_keepQ [(4, .slice a2 x2.length c2), (5, .bool true)] rfl fun b => ?_
              refine th_n ?_
              obtain rfl := Option.some.inj hr
              have hst := (((hst.pull 2).pull 2).pull 2)
              exact (kpX [(4, .slice a2 x2.length c2), (5, .bool true)] rfl hst)
            · have hr := (if_neg h).symm.trans hr
              refine C_keep ((78, .bool (decide (x1.End < 0))) :: [(1, .slice a2 x2.length c2), (2, pt p2 0), (6, .bool (decide (x1.End < 0))), (7, I y12.1), (68, .bool (!y12.2)), (76, .slice a2 x2.length c2), (77, .bool (decide (x1.End < 0)))]) rfl fun b => ?_
              refine C_bool (eq_false_of_ne_true h) ?_
              refine C_take (i := 3) (v := pt p2 5) rfl (by kernel_rfl) (fun _ _ _ h => h) rfl rfl rfl (R_pure (by kernel_rfl)) ?_
              refine C_take (i := 4) (v := I x1.Err) rfl (by kernel_rfl) (fun _ _ _ h => h) rfl rfl rfl (R_load (hst.pull 1) rfl rfl) ?_
              refine C_take (i := 5) (v := .bool (x1.Err == 0)) rfl (by kernel_rfl) (fun _ _ _ h => h) rfl rfl rfl (R_pure (by kernel_rfl)) ?_
              refine C_take (i := 6) (v := .bool (x1.Err == 0)) rfl (by kernel_rfl) (fun _ _ _ h => h) rfl rfl rfl (R_pure (by kernel_rfl)) ?_
              by_cases h : (x1.Err == 0) = true
              · have hr := (if_pos h).symm.trans hr
                refine C_keep ((82, .bool (x1.Err == 0)) :: [(1, .slice a2 x2.length c2), (2, pt p2 0), (6, .bool (decide (x1.End < 0))), (7, I y12.1), (68, .bool (!y12.2)), (76, .slice a2 x2.length c2), (77, .bool (decide (x1.End < 0))), (78, .bool false), (79, pt p2 5), (80, I x1.Err), (81, .bool (x1.Err == 0))]) rfl fun b => ?_
                refine C_bool h ?_
                refine C_take (i := 7) (v := pt p2 6) rfl (by kernel_rfl) (fun _ _ _ h => h) rfl rfl rfl (R_pure (by kernel_rfl)) ?_
                refine C_take (i := 8) (v := .int .u64 x1.Got) rfl (by kernel_rfl) (fun _ _ _ h => h) rfl rfl rfl (R_load (hst.pull 1) rfl rfl) ?_
                refine C_take (i := 9) (v := .slice a2 x2.length c2) rfl (by kernel_rfl) (fun _ _ _ h => h) rfl rfl rfl (R_pure (by kernel_rfl)) ?_
                refine C_take (i := 10) (v := I y12.1) rfl (by kernel_rfl) (fun _ _ _ h => h) rfl rfl rfl (R_pure (by kernel_rfl)) ?_
                obtain ⟨x4, hx2, hr⟩ := bnd hr
                refine C_take (i := 11) (v := pt (ab a2) (ao a2 + y12.1.toNat * 2)) rfl (by kernel_rfl) (fun _ _ _ h => h) rfl rfl rfl (R_ia L58 rfl rfl (dsl_addr hst hx2) (gt_some hx2).1 (gt_some hx2).2.1) ?_
                refine C_take (i := 12) (v := pt (ab a2) (ao a2 + y12.1.toNat * 2 + 1)) rfl (by kernel_rfl) (fun _ _ _ h => h) rfl rfl rfl (R_pure (by kernel_rfl)) ?_
                obtain ⟨q2, hc2, hst⟩ := dsl_cells hst hx2
                have hst := hst.drop
                refine C_take (i := 13) (v := .int .u64 x4.v) rfl (by kernel_rfl) (fun _ _ _ h => h) rfl rfl rfl (R_loadAt (off := ao a2 + y12.1.toNat * 2) (j := 1) hc2 rfl rfl) ?_
                refine C_take (i := 14) (v := .bool (x1.Got == x4.v)) rfl (by kernel_rfl) (fun _ _ _ h => h) rfl rfl rfl (R_pure (by kernel_rfl)) ?_
                refine C_take (i := 15) (v := .bool (x1.Got == x4.v)) rfl (by kernel_rfl) (fun _ _ _ h => h) rfl rfl rfl (R_pure (by kernel_rfl)) ?_
                refine C_take (i := 16) (v := .bool (x1.Got == x4.v)) rfl (by kernel_rfl) (fun _ _ _ h => h) rfl rfl rfl (R_pure (by kernel_rfl)) ?_
                refine C_take (i := 17) (v := .slice a2 x2.length c2) rfl (by kernel_rfl) (fun _ _ _ h => h) rfl rfl rfl (R_pure (by kernel_rfl)) ?_
                refine C_take (i := 18) (v := .bool (x1.Got == x4.v)) rfl (by kernel_rfl) (fun _ _ _ h => h) rfl rfl rfl (R_pure (by kernel_rfl)) ?_
                refine wpG_done (by kernel_rfl) ?_ _
                refine C_keepQ [(4, .slice a2 x2.length c2), (5, .bool (x1.Got == x4.v))] rfl fun b => ?_
                refine th_n ?_
                obtain rfl := Option.some.inj hr
                have hst := (((hst.pull 2).pull 2).pull 2)
                exact (kpX [(4, .slice a2 x2.length c2), (5, .bool (x1.Got == x4.v))] rfl hst)
              · have hr := (if_neg h).symm.trans hr
                refine C_keep ((82, .bool (x1.Err == 0)) :: [(1, .slice a2 x2.length c2), (2, pt p2 0), (6, .bool (decide (x1.End < 0))), (7, I y12.1), (68, .bool (!y12.2)), (76, .slice a2 x2.length c2), (77, .bool (decide (x1.End < 0))), (78, .bool false), (79, pt p2 5), (80, I x1.Err), (81, .bool (x1.Err == 0))]) rfl fun b => ?_
                refine C_bool (eq_false_of_ne_true h) ?_
                refine C_skip (i := 7) rfl (by kernel_rfl) (fun _ _ _ h => h) rfl rfl rfl ?_
                refine C_skip (i := 8) rfl (by kernel_rfl) (fun _ _ _ h => h) rfl rfl rfl ?_
                refine C_skip (i := 9) rfl (by kernel_rfl) (fun _ _ _ h => h) rfl rfl rfl ?_
                refine C_skip (i := 10) rfl (by kernel_rfl) (fun _ _ _ h => h) rfl rfl rfl ?_
                refine C_skip (i := 11) rfl (by kernel_rfl) (fun _ _ _ h => h) rfl rfl rfl ?_
                refine C_skip (i := 12) rfl (by kernel_rfl) (fun _ _ _ h => h) rfl rfl rfl ?_
                refine C_skip (i := 13) rfl (by kernel_rfl) (fun _ _ _ h => h) rfl rfl rfl ?_
                refine C_skip (i := 14) rfl (by kernel_rfl) (fun _ _ _ h => h) rfl rfl rfl ?_
                refine C_take (i := 15) (v := .bool false) rfl (by kernel_rfl) (fun _ _ _ h => h) rfl rfl rfl (R_pure (by kernel_rfl)) ?_
                refine C_take (i := 16) (v := .bool false) rfl (by kernel_rfl) (fun _ _ _ h => h) rfl rfl rfl (R_pure (by kernel_rfl)) ?_
                refine C_take (i := 17) (v := .slice a2 x2.length c2) rfl (by kernel_rfl) (fun _ _ _ h => h) rfl rfl rfl (R_pure (by kernel_rfl)) ?_
                refine C_take (i := 18) (v := .bool false) rfl (by kernel_rfl) (fun _ _ _ h => h) rfl rfl rfl (R_pure (by kernel_rfl)) ?_
                refine wpG_done (by kernel_rfl) ?_ _
                refine C_keepQ [(4, .slice a2 x2.length c2), (5, .bool false)] rfl fun b => ?_
                refine th_n ?_
                obtain rfl := Option.some.inj hr
                have hst := (((hst.pull 2).pull 2).pull 2)
                exact (kpX [(4, .slice a2 x2.length c2), (5, .bool false)] rfl hst)
def history_search_try_l1 (k : Nat) (rc1 : ((List T_history_Op) → (List (T_history_key × Int)) → Int → (List T_history_entry) → Option (Bool × (List (T_history_key × Int))))) (x1 : (List T_history_Op)) (x3 : Int) (x4 : (List T_history_entry)) : Nat → Int → (List (T_history_key × Int)) → Option (Flow (Bool × (List (T_history_key × Int))) ((List (T_history_key × Int))))
  | 0, _, _ => none
  | j + 1, v9, v10 => (if decide (v9 < (x1.length : Int)) = true then (Option.bind (Option.bind (gt x1 v9) fun x7 => (Option.bind (if 0 ≤ v9 then (if ((bAnd .u32 (shR .u32 x3 v9) 1) == 1) = true then some (true) else (Option.bind (history_search_may k x1 v10 v9 x3) fun y22 => some ((!y22)))) else none) fun y21 => (if y21 = true then some (Flow.go (v10)) else (Option.bind (history_Op_do k x7 x4) fun y23 => (Option.bind (if y23.2 = true then (if 0 ≤ v9 then (Option.bind (rc1 x1 v10 (bOr .u32 x3 (shL .u32 1 v9)) y23.1) fun y25 => some (y25.1, y25.2)) else none) else some (false, v10)) fun y24 => (if y24.1 = true then some (Flow.ret (true, y24.2)) else some (Flow.go (y24.2)))))))) fun y20 => (match y20 with | Flow.ret r => some (Flow.ret r) | Flow.go z4 => (history_search_try_l1 k rc1 x1 x3 x4 j (IntKind.i64.wrap (v9 + 1)) z4))) else some (Flow.go (v10)))
def history_search_try_b (k : Nat) (rc1 : ((List T_history_Op) → (List (T_history_key × Int)) → Int → (List T_history_entry) → Option (Bool × (List (T_history_key × Int))))) (x1 : (List T_history_Op)) (x2 : (List (T_history_key × Int))) (x3 : Int) (x4 : (List T_history_entry)) : Option (Bool × (List (T_history_key × Int))) := (Option.bind (history_search_over k x1 x2 x3) fun y17 => (if y17 = true then some (true, x2) else (Option.bind (history_world_text k x4) fun y18 => (if decide (((mget x2 (T_history_key.mk x3 y18)).getD (0 : Int)) > 0) = true then some (false, x2) else (Option.bind (history_search_try_l1 k rc1 x1 x3 x4 k (0 : Int) (mput x2 (T_history_key.mk x3 y18) 1)) fun y19 => (match y19 with | Flow.ret r => some r | Flow.go z3 => some (false, z3)))))))
def history_search_try_r (k : Nat) : Nat → (List T_history_Op) → (List (T_history_key × Int)) → Int → (List T_history_entry) → Option (Bool × (List (T_history_key × Int)))
  | 0, _, _, _, _ => none
  | d + 1, x1, x2, x3, x4 => history_search_try_b k (history_search_try_r k d) x1 x2 x3 x4
def history_search_try (k : Nat) (x1 : (List T_history_Op)) (x2 : (List (T_history_key × Int))) (x3 : Int) (x4 : (List T_history_entry)) : Option (Bool × (List (T_history_key × Int))) := history_search_try_r k k x1 x2 x3 x4
set_option maxRecDepth 100000 in
set_option maxHeartbeats 4000000 in
theorem history_search_try_b_ok {G : World} (k : Nat) (rc1 : ((List T_history_Op) → (List (T_history_key × Int)) → Int → (List T_history_entry) → Option (Bool × (List (T_history_key × Int))))) (ih : ∀ {w : World} {F : List HP} {R : Ending → World → Prop} (x1 : (List T_history_Op)) (x2 : (List (T_history_key × Int))) (x3 : Int) (x4 : (List T_history_entry)) (p1 : Nat) (a1 : Option Addr) (c1 : Nat) (p2 : Nat) (a2 : Option Addr) (c2 : Nat) (r : (Bool × (List (T_history_key × Int)))), St G w (blk p1 (cl [.slice a1 x1.length c1, .map (some p2)] 52) :: osl r_T_history_Op 32 a1 c1 x1 :: mpo (fun x : T_history_key => .agg #[.int .u32 x.done, S x.world]) (fun n => .int .i64 n) p2 x2 :: dsl r_T_history_entry a2 c2 x4 :: F) → rc1 x1 x2 x3 x4 = some r → (∀ w', St G w' (blk p1 (cl [.slice a1 x1.length c1, .map (some p2)] 52) :: osl r_T_history_Op 32 a1 c1 x1 :: mpo (fun x : T_history_key => .agg #[.int .u32 x.done, S x.world]) (fun n => .int .i64 n) p2 r.2 :: dsl r_T_history_entry a2 c2 x4 :: F) → R (.returned (.bool r.1)) w') → Calls Try.prog 15 #[pt p1 0, .int .u32 x3, .slice a2 x4.length c2] w R) {w : World} {F : List HP} {R : Ending → World → Prop} (x1 : (List T_history_Op)) (x2 : (List (T_history_key × Int))) (x3 : Int) (x4 : (List T_history_entry)) (p1 : Nat) (a1 : Option Addr) (c1 : Nat) (p2 : Nat) (a2 : Option Addr) (c2 : Nat) (r : (Bool × (List (T_history_key × Int)))) (hst : St G w (blk p1 (cl [.slice a1 x1.length c1, .map (some p2)] 52) :: osl r_T_history_Op 32 a1 c1 x1 :: mpo (fun x : T_history_key => .agg #[.int .u32 x.done, S x.world]) (fun n => .int .i64 n) p2 x2 :: dsl r_T_history_entry a2 c2 x4 :: F)) (hr : history_search_try_b k rc1 x1 x2 x3 x4 = some r) (hR : ∀ w', St G w' (blk p1 (cl [.slice a1 x1.length c1, .map (some p2)] 52) :: osl r_T_history_Op 32 a1 c1 x1 :: mpo (fun x : T_history_key => .agg #[.int .u32 x.done, S x.world]) (fun n => .int .i64 n) p2 r.2 :: dsl r_T_history_entry a2 c2 x4 :: F) → R (.returned (.bool r.1)) w') :
    Calls Try.prog 15 #[pt p1 0, .int .u32 x3, .slice a2 x4.length c2] w R := by
  unfold history_search_try_b at hr
  refine enter Try.func15 rfl [(0, pt p1 0), (1, .int .u32 x3), (2, .slice a2 x4.length c2)] rfl rfl fun b => ?_
  refine wp_seq ?_
  refine wp_reg ?_
  refine L_pure 1 [(0, pt p1 0), (1, .int .u32 x3), (2, .slice a2 x4.length c2)] (by kernel_rfl) fun b => ?_
  refine wpL_nil ?_
  refine th_n ?_
  refine wp_seq ?_
  refine wp_seq ?_
  refine wp_reg ?_
  refine L_pure 2 [(0, pt p1 0), (1, .int .u32 x3), (2, .slice a2 x4.length c2), (12, pt p1 0), (13, .int .u32 x3)] (by kernel_rfl) fun b => ?_
  obtain ⟨y17, hy17, hr⟩ := bnd hr
  refine L_op rfl (O_call (vs := #[pt p1 0, .int .u32 x3]) Try.call18 (by kernel_rfl) (history_search_over_ok k x1 x2 x3 p1 a1 c1 p2 y17 (((hst.pull 2).pull 2).pull 2) hy17 fun w hst => ?_))
  refine CK_ret rfl ?_
  refine wpL_nil ?_
  refine th_n ?_
  refine wp_cond_mkF (t := y17) rfl (fun h => ?_) (fun h => ?_)
  · have hr := (if_pos h).symm.trans hr
    refine wp_seq ?_
    refine wp_reg ?_
    refine L_pure 1 [(6, .bool true)] (by kernel_rfl) fun b => ?_
    refine wpL_nil ?_
    refine th_n ?_
    refine wp_ret ?_
    refine th_r ?_
    refine ret1 rfl rfl ?_
    obtain rfl := Option.some.inj hr
    have hst := ((((hst.pull 3).pull 3).pull 3).pull 3)
    exact hR _ hst
  · have hr := (if_neg (by rw [h]; exact Bool.false_ne_true)).symm.trans hr
    refine wp_skip ?_
    refine th_n ?_
    refine wp_seq ?_
    refine wp_reg ?_
    refine L_pure 2 [(0, pt p1 0), (1, .int .u32 x3), (2, .slice a2 x4.length c2), (15, .int .u32 x3), (16, .slice a2 x4.length c2)] (by kernel_rfl) fun b => ?_
    obtain ⟨y18, hy18, hr⟩ := bnd hr
    refine L_op rfl (O_call (vs := #[.slice a2 x4.length c2]) Try.call19 (by kernel_rfl) (history_world_text_ok k x4 a2 c2 y18 (hst.pull 3) hy18 fun w hst => ?_))
    refine CK_ret rfl ?_
    refine L_pure 1 [(0, pt p1 0), (1, .int .u32 x3), (2, .slice a2 x4.length c2), (18, .agg #[.int .u32 x3, S y18])] (by kernel_rfl) fun b => ?_
    refine L_op rfl (O_alloc (i := Try.t62) (z := .agg #[.int .u32 0, S ([])]) [.int .u32 0, S ([])] hst rfl rfl rfl rfl fun p7 w hst => ?_)
    refine L_op rfl (O_store [.int .u32 x3, S y18] hst rfl rfl (by kernel_rfl) fun w hst => ?_)
    refine wpL_nil ?_
    refine th_n ?_
    refine wp_seq ?_
    refine wp_seq ?_
    refine wp_regG (SN { w with drawn := w.drawn + 1 }) rfl ?_
    have hst := hst.draw (n := w.drawn + 1)
    generalize { w with drawn := w.drawn + 1 } = w at hst ⊢
    refine C_take (i := 0) (v := pt p1 0) rfl (by kernel_rfl) (fun _ _ _ h => h) rfl rfl rfl (R_pure (by kernel_rfl)) ?_
    refine C_take (i := 1) (v := pt p1 0) rfl (by kernel_rfl) (fun _ _ _ h => h) rfl rfl rfl (R_pure (by kernel_rfl)) ?_
    refine C_take (i := 2) (v := pt p1 1) rfl (by kernel_rfl) (fun _ _ _ h => h) rfl rfl rfl (R_pure (by kernel_rfl)) ?_
    refine C_take (i := 3) (v := .map (some p2)) rfl (by kernel_rfl) (fun _ _ _ h => h) rfl rfl rfl (R_load (hst.pull 2) rfl rfl) ?_
    refine C_take (i := 4) (v := .agg #[.int .u32 x3, S y18]) rfl (by kernel_rfl) (fun _ _ _ h => h) rfl rfl rfl (R_load hst rfl rfl) ?_
    refine C_take (i := 5) (v := I ((mget x2 (T_history_key.mk x3 y18)).getD (0 : Int))) rfl (by kernel_rfl) (fun _ _ _ h => h) rfl rfl rfl (R_lookupG M50 (k := (T_history_key.mk x3 y18)) false (hst.pull 4) rfl rfl) ?_
    refine C_take (i := 6) (v := .bool (decide (((mget x2 (T_history_key.mk x3 y18)).getD (0 : Int)) > 0))) rfl (by kernel_rfl) (fun _ _ _ h => h) rfl rfl rfl (R_pure (by kernel_rfl)) ?_
    refine wpG_done (by kernel_rfl) ?_ _
    refine C_keepQ [(0, pt p1 0), (1, .int .u32 x3), (2, .slice a2 x4.length c2), (7, pt p7 0), (25, .bool (decide (((mget x2 (T_history_key.mk x3 y18)).getD (0 : Int)) > 0)))] rfl fun b => ?_
    refine th_n ?_
    refine wp_cond_mkF (t := decide (((mget x2 (T_history_key.mk x3 y18)).getD (0 : Int)) > 0)) rfl (fun h => ?_) (fun h => ?_)
    · have hr := (if_pos h).symm.trans hr
      refine wp_seq ?_
      refine wp_reg ?_
      refine L_pure 1 [(6, .bool false)] (by kernel_rfl) fun b => ?_
      refine wpL_nil ?_
      refine th_n ?_
      refine wp_ret ?_
      refine th_r ?_
      refine ret1 rfl rfl ?_
      obtain rfl := Option.some.inj hr
      have hst := (((((hst.pull 1).pull 4).pull 4).pull 4).cut 4 1)
      exact hR _ hst
    · have hr := (if_neg (by rw [h]; exact Bool.false_ne_true)).symm.trans hr
      refine wp_skip ?_
      refine th_n ?_
      refine wp_seq ?_
      refine wp_regG (SP 5 (fun w => St G w (blk p7 (cl [.int .u32 x3, S y18] 62) :: dsl r_T_history_entry a2 c2 x4 :: blk p1 (cl [.slice a1 x1.length c1, .map (some p2)] 52) :: osl r_T_history_Op 32 a1 c1 x1 :: mpo (fun x : T_history_key => .agg #[.int .u32 x.done, S x.world]) (fun n => .int .i64 n) p2 x2 :: F))) rfl ?_
      have hst := hst.draw (n := w.drawn + 1)
      generalize { w with drawn := w.drawn + 1 } = w at hst ⊢
      refine P_pure (i := 0) (v := pt p1 0) 5 rfl rfl (by kernel_rfl) (fun _ _ _ h => h) rfl rfl rfl (by kernel_rfl) (.inr (((((hst.pull 4).pull 4).pull 4).pull 4).pull 4)) ?_
      refine P_pure (i := 1) (v := pt p1 0) 5 rfl rfl (by kernel_rfl) (fun _ _ _ h => h) rfl rfl rfl (by kernel_rfl) (.inr (((((hst.pull 4).pull 4).pull 4).pull 4).pull 4)) ?_
      refine P_pure (i := 2) (v := pt p1 1) 5 rfl rfl (by kernel_rfl) (fun _ _ _ h => h) rfl rfl rfl (by kernel_rfl) (.inr (((((hst.pull 4).pull 4).pull 4).pull 4).pull 4)) ?_
      refine P_take (i := 3) (v := .map (some p2)) 5 [3] (by kernel_rfl) rfl (by kernel_rfl) (fun _ _ _ h => h) rfl rfl rfl (fun w hst => R_load (hst.pull 2) rfl rfl) ((((((hst.pull 4).pull 4).pull 4).pull 4).pull 4)) ?_
      refine P_take (i := 4) (v := .agg #[.int .u32 x3, S y18]) 5 [4] (by kernel_rfl) rfl (by kernel_rfl) (fun _ _ _ h => h) rfl rfl rfl (fun w hst => R_load hst rfl rfl) ((((((hst.pull 4).pull 4).pull 4).pull 4).pull 4)) ?_
      refine P_act (i := 5) 5 (by kernel_rfl) rfl rfl (by kernel_rfl) (O_mapUpdateG M50 (k := (T_history_key.mk x3 y18)) (v := 1) (hst.pull 4) rfl rfl rfl fun w hst => ?_)
      refine wpG_done (by kernel_rfl) ?_ _
      refine C_keepQ [(0, pt p1 0), (1, .int .u32 x3), (2, .slice a2 x4.length c2)] rfl fun b => ?_
      refine th_n ?_
      refine wp_seq ?_
      refine wp_seq ?_
      refine wp_reg ?_
      refine L_pure 3 [(0, pt p1 0), (1, .int .u32 x3), (2, .slice a2 x4.length c2), (33, pt p1 0)] (by kernel_rfl) fun b => ?_
      refine L_op rfl (O_run (v := .slice a1 x1.length c1) (w' := w) (R_load (hst.pull 3) rfl rfl) rfl rfl ?_)
      refine L_pure 2 [(0, pt p1 0), (1, .int .u32 x3), (2, .slice a2 x4.length c2), (34, .slice a1 x1.length c1), (35, I (x1.length : Int)), (36, I 0)] (by kernel_rfl) fun b => ?_
      refine wpL_nil ?_
      refine th_n ?_
      obtain ⟨y19, hy19, hk8⟩ := bnd hr
      clear hr
      refine Go.Hx.wp_cut (fun a w => ∃ (z3 : (List (T_history_key × Int))) (b : Nat → Value), y19 = .go z3 ∧ a = mkF 70 b [] ∧ St G w (mpo (fun x : T_history_key => .agg #[.int .u32 x.done, S x.world]) (fun n => .int .i64 n) p2 z3 :: blk p7 (cl [.int .u32 x3, S y18] 62) :: dsl r_T_history_entry a2 c2 x4 :: blk p1 (cl [.slice a1 x1.length c1, .map (some p2)] 52) :: osl r_T_history_Op 32 a1 c1 x1 :: F)) ?_ ?_
      · rintro _ w ⟨z3, b, rfl, rfl, hst⟩
        have hr := hk8
        refine th_n ?_
        refine wp_seq ?_
        refine wp_reg ?_
        refine L_pure 1 [(6, .bool false)] (by kernel_rfl) fun b => ?_
        refine wpL_nil ?_
        refine th_n ?_
        refine wp_ret ?_
        refine ret1 rfl rfl ?_
        obtain rfl := Option.some.inj hr
        have hst := (((((hst.pull 2).pull 1).pull 4).pull 4).cut 4 1)
        exact hR _ hst
      · have hst := (((((hst.pull 4).pull 4).pull 4).pull 4).pull 4)
        refine wp_block ?_
        refine wp_loop_fuel (fun j a w => ∃ (v9 : Int) (v10 : (List (T_history_key × Int))) (b : Nat → Value), a = mkF 70 b [(0, pt p1 0), (1, .int .u32 x3), (2, .slice a2 x4.length c2), (34, .slice a1 x1.length c1), (35, I (x1.length : Int)), (36, I v9)] ∧ St G w (mpo (fun x : T_history_key => .agg #[.int .u32 x.done, S x.world]) (fun n => .int .i64 n) p2 v10 :: blk p7 (cl [.int .u32 x3, S y18] 62) :: dsl r_T_history_entry a2 c2 x4 :: blk p1 (cl [.slice a1 x1.length c1, .map (some p2)] 52) :: osl r_T_history_Op 32 a1 c1 x1 :: F) ∧ history_search_try_l1 k rc1 x1 x3 x4 j v9 v10 = some y19) (k := k) ⟨(0 : Int), (mput x2 (T_history_key.mk x3 y18) 1), (kpX [(0, pt p1 0), (1, .int .u32 x3), (2, .slice a2 x4.length c2), (34, .slice a1 x1.length c1), (35, I (x1.length : Int)), (36, I 0)] rfl ⟨hst, hy19⟩)⟩ ?_ ?_
        · rintro _ _ ⟨_, _, _, _, _, h⟩
          rw [history_search_try_l1] at h
          cases h
        · rintro j _ w ⟨v9, v10, b, rfl, hst, hr⟩
          rw [history_search_try_l1] at hr
          refine wp_seq ?_
          refine wp_reg ?_
          refine L_pure 1 [(0, pt p1 0), (1, .int .u32 x3), (2, .slice a2 x4.length c2), (34, .slice a1 x1.length c1), (35, I (x1.length : Int)), (36, I v9), (37, .bool (decide (v9 < (x1.length : Int))))] (by kernel_rfl) fun b => ?_
          refine wpL_nil ?_
          refine th_n ?_
          refine wp_seq ?_
          refine wp_cond_mkF (t := decide (v9 < (x1.length : Int))) rfl (fun h => ?_) (fun h => ?_)
          · have hr := (if_pos h).symm.trans hr
            refine wp_skip ?_
            refine th_n ?_
            obtain ⟨y20, hy20, hk9⟩ := bnd hr
            clear hr
            refine wp_seq_cut (fun a w => ∃ (z4 : (List (T_history_key × Int))) (b : Nat → Value), y20 = .go z4 ∧ a = mkF 70 b [(0, pt p1 0), (1, .int .u32 x3), (2, .slice a2 x4.length c2), (34, .slice a1 x1.length c1), (35, I (x1.length : Int)), (36, I v9)] ∧ St G w (osl r_T_history_Op 32 a1 c1 x1 :: mpo (fun x : T_history_key => .agg #[.int .u32 x.done, S x.world]) (fun n => .int .i64 n) p2 z4 :: blk p7 (cl [.int .u32 x3, S y18] 62) :: dsl r_T_history_entry a2 c2 x4 :: blk p1 (cl [.slice a1 x1.length c1, .map (some p2)] 52) :: F)) ?_ ?_
            · rintro _ w ⟨z4, b, rfl, rfl, hst⟩
              have hr := hk9
              refine wp_reg ?_
              refine L_pure 2 [(0, pt p1 0), (1, .int .u32 x3), (2, .slice a2 x4.length c2), (34, .slice a1 x1.length c1), (35, I (x1.length : Int)), (36, I (IntKind.i64.wrap (v9 + 1)))] (by kernel_rfl) fun b => ?_
              refine wpL_nil ?_
              refine th_n ?_
              have hst := ((((hst.pull 4).pull 4).pull 4).pull 4)
              exact ⟨(IntKind.i64.wrap (v9 + 1)), z4, (kpX [(0, pt p1 0), (1, .int .u32 x3), (2, .slice a2 x4.length c2), (34, .slice a1 x1.length c1), (35, I (x1.length : Int)), (36, I (IntKind.i64.wrap (v9 + 1)))] rfl ⟨hst, hr⟩)⟩
            · have hr := hy20
              refine wp_block ?_
              refine wp_seq ?_
              refine wp_reg ?_
              refine L_pure 1 [(0, pt p1 0), (1, .int .u32 x3), (2, .slice a2 x4.length c2), (34, .slice a1 x1.length c1), (35, I (x1.length : Int)), (36, I v9), (38, I v9)] (by kernel_rfl) fun b => ?_
              obtain ⟨x7, hx3, hr⟩ := bnd hr
              refine L_op rfl (O_run (v := pt (ab a1) (ao a1 + v9.toNat * 8)) (w' := w) (R_ia L22 rfl rfl (osl_addr (hst.pull 4) hx3) (gt_some hx3).1 (gt_some hx3).2.1) rfl rfl ?_)
              obtain ⟨q3, hc3, hst⟩ := osl_cells (hst.pull 4) hx3
              refine L_op rfl (O_run (v := .agg #[I x7.Kind, S x7.Name, .int .u64 x7.Value, I x7.Start, I x7.End, I x7.Err, .int .u64 x7.Got, .slice q3.1 x7.Names.length q3.2]) (w' := w) (R_loadAt (off := ao a1 + v9.toNat * 8) (j := 0) hc3 rfl rfl) rfl rfl ?_)
              refine L_op rfl (O_alloc (i := Try.t32) (z := .agg #[I 0, S ([]), .int .u64 0, I 0, I 0, I 0, .int .u64 0, .slice none 0 0]) [I 0, S ([]), .int .u64 0, I 0, I 0, I 0, .int .u64 0, .slice none 0 0] hst rfl rfl rfl rfl fun p8 w hst => ?_)
              refine L_pure 1 [(0, pt p1 0), (1, .int .u32 x3), (2, .slice a2 x4.length c2), (8, I v9), (9, pt p8 0), (34, .slice a1 x1.length c1), (35, I (x1.length : Int)), (36, I v9), (40, .agg #[I x7.Kind, S x7.Name, .int .u64 x7.Value, I x7.Start, I x7.End, I x7.Err, .int .u64 x7.Got, .slice q3.1 x7.Names.length q3.2])] (by kernel_rfl) fun b => ?_
              refine L_op rfl (O_store [I x7.Kind, S x7.Name, .int .u64 x7.Value, I x7.Start, I x7.End, I x7.Err, .int .u64 x7.Got, .slice q3.1 x7.Names.length q3.2] hst rfl rfl (by kernel_rfl) fun w hst => ?_)
              refine wpL_nil ?_
              refine th_n ?_
              refine wp_seq ?_
              obtain ⟨y21, hy21, hk10⟩ := bnd hr
              clear hr
              refine wp_seq_cut (fun a w => ∃ (b : Nat → Value), a = mkF 70 b [(0, pt p1 0), (1, .int .u32 x3), (2, .slice a2 x4.length c2), (8, I v9), (9, pt p8 0), (34, .slice a1 x1.length c1), (35, I (x1.length : Int)), (36, I v9), (52, .bool y21)] ∧ St G w (blk p8 (cl [I x7.Kind, S x7.Name, .int .u64 x7.Value, I x7.Start, I x7.End, I x7.Err, .int .u64 x7.Got, .slice q3.1 x7.Names.length q3.2] 32) :: dsl rS q3.1 q3.2 x7.Names :: osl r_T_history_Op 32 a1 c1 x1 :: mpo (fun x : T_history_key => .agg #[.int .u32 x.done, S x.world]) (fun n => .int .i64 n) p2 v10 :: blk p7 (cl [.int .u32 x3, S y18] 62) :: dsl r_T_history_entry a2 c2 x4 :: blk p1 (cl [.slice a1 x1.length c1, .map (some p2)] 52) :: F)) ?_ ?_
              · rintro _ w ⟨b, rfl, hst⟩
                have hr := hk10
                refine wp_cond_mkF (t := y21) rfl (fun h => ?_) (fun h => ?_)
                · have hr := (if_pos h).symm.trans hr
                  refine wp_exit ?_
                  refine th_x (ib_x (th_n ?_))
                  obtain rfl := Option.some.inj hr
                  have hst := ((((((hst.pull 6).pull 6).pull 6).pull 6).pull 6).cut 5 2)
                  exact ⟨(v10), (kpXf [(0, pt p1 0), (1, .int .u32 x3), (2, .slice a2 x4.length c2), (34, .slice a1 x1.length c1), (35, I (x1.length : Int)), (36, I v9)] rfl hst)⟩
                · have hr := (if_neg (by rw [h]; exact Bool.false_ne_true)).symm.trans hr
                  refine wp_skip ?_
                  refine th_n ?_
                  refine wp_seq ?_
                  refine wp_reg ?_
                  refine L_op rfl (O_run (v := .agg #[I x7.Kind, S x7.Name, .int .u64 x7.Value, I x7.Start, I x7.End, I x7.Err, .int .u64 x7.Got, .slice q3.1 x7.Names.length q3.2]) (w' := w) (R_load hst rfl rfl) rfl rfl ?_)
                  refine L_pure 1 [(0, pt p1 0), (1, .int .u32 x3), (2, .slice a2 x4.length c2), (8, I v9), (34, .slice a1 x1.length c1), (35, I (x1.length : Int)), (36, I v9), (54, .agg #[I x7.Kind, S x7.Name, .int .u64 x7.Value, I x7.Start, I x7.End, I x7.Err, .int .u64 x7.Got, .slice q3.1 x7.Names.length q3.2]), (55, .slice a2 x4.length c2)] (by kernel_rfl) fun b => ?_
                  obtain ⟨y23, hy23, hr⟩ := bnd hr
                  refine L_op rfl (O_call (vs := #[.agg #[I x7.Kind, S x7.Name, .int .u64 x7.Value, I x7.Start, I x7.End, I x7.Err, .int .u64 x7.Got, .slice q3.1 x7.Names.length q3.2], .slice a2 x4.length c2]) Try.call21 (by kernel_rfl) (history_Op_do_ok k x7 x4 q3.1 q3.2 a2 c2 y23 ((hst.pull 5).pull 2) hy23 fun a5 c5 w hst => ?_))
                  refine CK_ret rfl ?_
                  refine L_pure 5 [(0, pt p1 0), (1, .int .u32 x3), (2, .slice a2 x4.length c2), (8, I v9), (10, .slice a5 y23.1.length c5), (11, .bool y23.2), (34, .slice a1 x1.length c1), (35, I (x1.length : Int)), (36, I v9)] (by kernel_rfl) fun b => ?_
                  refine wpL_nil ?_
                  refine th_n ?_
                  obtain ⟨y24, hy24, hk11⟩ := bnd hr
                  clear hr
                  refine wp_seq_cut (fun a w => ∃ (b : Nat → Value), a = mkF 70 b [(0, pt p1 0), (1, .int .u32 x3), (2, .slice a2 x4.length c2), (34, .slice a1 x1.length c1), (35, I (x1.length : Int)), (36, I v9), (68, .bool y24.1)] ∧ St G w (blk p1 (cl [.slice a1 x1.length c1, .map (some p2)] 52) :: osl r_T_history_Op 32 a1 c1 x1 :: mpo (fun x : T_history_key => .agg #[.int .u32 x.done, S x.world]) (fun n => .int .i64 n) p2 y24.2 :: dsl r_T_history_entry a5 c5 y23.1 :: dsl rS q3.1 q3.2 x7.Names :: dsl r_T_history_entry a2 c2 x4 :: blk p8 (cl [I x7.Kind, S x7.Name, .int .u64 x7.Value, I x7.Start, I x7.End, I x7.Err, .int .u64 x7.Got, .slice q3.1 x7.Names.length q3.2] 32) :: blk p7 (cl [.int .u32 x3, S y18] 62) :: F)) ?_ ?_
                  · rintro _ w ⟨b, rfl, hst⟩
                    have hr := hk11
                    refine wp_cond_mkF (t := y24.1) rfl (fun h => ?_) (fun h => ?_)
                    · have hr := (if_pos h).symm.trans hr
                      refine wp_seq ?_
                      refine wp_reg ?_
                      refine L_pure 1 [(6, .bool true)] (by kernel_rfl) fun b => ?_
                      refine wpL_nil ?_
                      refine th_n ?_
                      refine wp_ret ?_
                      refine ib_r (th_r (th_r (ib_r (th_r (th_r ?_)))))
                      refine ret1 rfl rfl ?_
                      obtain rfl := Option.some.inj hr
                      obtain rfl := Option.some.inj hk9
                      obtain rfl := Option.some.inj hk8
                      have hst := (((((hst.pull 5).pull 3).pull 3).pull 3).cut 4 4)
                      exact hR _ hst
                    · have hr := (if_neg (by rw [h]; exact Bool.false_ne_true)).symm.trans hr
                      refine wp_skip ?_
                      refine ib_n (th_n ?_)
                      obtain rfl := Option.some.inj hr
                      have hst := (((((hst.pull 5).pull 7).pull 4).pull 4).cut 5 3)
                      exact ⟨(y24.2), (kpXf [(0, pt p1 0), (1, .int .u32 x3), (2, .slice a2 x4.length c2), (34, .slice a1 x1.length c1), (35, I (x1.length : Int)), (36, I v9)] rfl hst)⟩
                  · have hr := hy24
                    refine wp_reg ?_
                    refine L_pure 2 [(0, pt p1 0), (1, .int .u32 x3), (2, .slice a2 x4.length c2), (8, I v9), (10, .slice a5 y23.1.length c5), (34, .slice a1 x1.length c1), (35, I (x1.length : Int)), (36, I v9), (60, .bool y23.2)] (by kernel_rfl) fun b => ?_
                    by_cases h : y23.2 = true
                    · have hr := (if_pos h).symm.trans hr
                      refine L_keep ((60, .bool y23.2) :: [(0, pt p1 0), (1, .int .u32 x3), (2, .slice a2 x4.length c2), (8, I v9), (10, .slice a5 y23.1.length c5), (34, .slice a1 x1.length c1), (35, I (x1.length : Int)), (36, I v9)]) rfl fun b => ?_
                      refine L_bool h ?_
                      refine L_pure 3 [(0, pt p1 0), (1, .int .u32 x3), (2, .slice a2 x4.length c2), (10, .slice a5 y23.1.length c5), (34, .slice a1 x1.length c1), (35, I (x1.length : Int)), (36, I v9), (60, .bool true), (61, pt p1 0), (62, .int .u32 x3), (63, I v9)] (by kernel_rfl) fun b => ?_
                      obtain ⟨hy6, hr⟩ := chk hr
                      refine L_op rfl (O_run (v := .int .u32 (shL .u32 1 v9)) (w' := w) (R_shl rfl rfl hy6) rfl rfl ?_)
                      refine L_pure 2 [(0, pt p1 0), (1, .int .u32 x3), (2, .slice a2 x4.length c2), (34, .slice a1 x1.length c1), (35, I (x1.length : Int)), (36, I v9), (60, .bool true), (61, pt p1 0), (65, .int .u32 (bOr .u32 x3 (shL .u32 1 v9))), (66, .slice a5 y23.1.length c5)] (by kernel_rfl) fun b => ?_
                      obtain ⟨y25, hy25, hr⟩ := bnd hr
                      refine L_op rfl (O_call (vs := #[pt p1 0, .int .u32 (bOr .u32 x3 (shL .u32 1 v9)), .slice a5 y23.1.length c5]) Try.call15 (by kernel_rfl) (ih x1 v10 (bOr .u32 x3 (shL .u32 1 v9)) y23.1 p1 a1 c1 p2 a5 c5 y25 (((hst.pull 5).pull 5).pull 7) hy25 fun w hst => ?_))
                      refine CK_ret rfl ?_
                      refine L_pure 1 [(0, pt p1 0), (1, .int .u32 x3), (2, .slice a2 x4.length c2), (34, .slice a1 x1.length c1), (35, I (x1.length : Int)), (36, I v9), (68, .bool y25.1)] (by kernel_rfl) fun b => ?_
                      refine wpL_nil ?_
                      refine th_n ?_
                      obtain rfl := Option.some.inj hr
                      have hst := ((((((((hst.pull 7).pull 7).pull 7).pull 7).pull 7).pull 7).pull 7).pull 7)
                      exact (kpX [(0, pt p1 0), (1, .int .u32 x3), (2, .slice a2 x4.length c2), (34, .slice a1 x1.length c1), (35, I (x1.length : Int)), (36, I v9), (68, .bool y25.1)] rfl hst)
                    · have hr := (if_neg h).symm.trans hr
                      refine L_keep ((60, .bool y23.2) :: [(0, pt p1 0), (1, .int .u32 x3), (2, .slice a2 x4.length c2), (8, I v9), (10, .slice a5 y23.1.length c5), (34, .slice a1 x1.length c1), (35, I (x1.length : Int)), (36, I v9)]) rfl fun b => ?_
                      refine L_bool (eq_false_of_ne_true h) ?_
                      refine L_pure 8 [(0, pt p1 0), (1, .int .u32 x3), (2, .slice a2 x4.length c2), (34, .slice a1 x1.length c1), (35, I (x1.length : Int)), (36, I v9), (68, .bool false)] (by kernel_rfl) fun b => ?_
                      refine wpL_nil ?_
                      refine th_n ?_
                      obtain rfl := Option.some.inj hr
                      have hst := ((((((((hst.pull 6).pull 4).pull 4).pull 4).pull 4).pull 6).pull 6).pull 7)
                      exact (kpX [(0, pt p1 0), (1, .int .u32 x3), (2, .slice a2 x4.length c2), (34, .slice a1 x1.length c1), (35, I (x1.length : Int)), (36, I v9), (68, .bool false)] rfl hst)
              · have hr := hy21
                refine wp_reg ?_
                refine L_pure 2 [(0, pt p1 0), (1, .int .u32 x3), (2, .slice a2 x4.length c2), (8, I v9), (9, pt p8 0), (34, .slice a1 x1.length c1), (35, I (x1.length : Int)), (36, I v9), (41, .int .u32 x3), (42, I v9)] (by kernel_rfl) fun b => ?_
                obtain ⟨hy5, hr⟩ := chk hr
                refine L_op rfl (O_run (v := .int .u32 (shR .u32 x3 v9)) (w' := w) (R_shr rfl rfl hy5) rfl rfl ?_)
                refine L_pure 3 [(0, pt p1 0), (1, .int .u32 x3), (2, .slice a2 x4.length c2), (8, I v9), (9, pt p8 0), (34, .slice a1 x1.length c1), (35, I (x1.length : Int)), (36, I v9), (46, .bool ((bAnd .u32 (shR .u32 x3 v9) 1) == 1))] (by kernel_rfl) fun b => ?_
                by_cases h : ((bAnd .u32 (shR .u32 x3 v9) 1) == 1) = true
                · have hr := (if_pos h).symm.trans hr
                  refine L_keep ((46, .bool ((bAnd .u32 (shR .u32 x3 v9) 1) == 1)) :: [(0, pt p1 0), (1, .int .u32 x3), (2, .slice a2 x4.length c2), (8, I v9), (9, pt p8 0), (34, .slice a1 x1.length c1), (35, I (x1.length : Int)), (36, I v9)]) rfl fun b => ?_
                  refine L_bool h ?_
                  refine L_pure 6 [(0, pt p1 0), (1, .int .u32 x3), (2, .slice a2 x4.length c2), (8, I v9), (9, pt p8 0), (34, .slice a1 x1.length c1), (35, I (x1.length : Int)), (36, I v9), (52, .bool true)] (by kernel_rfl) fun b => ?_
                  refine wpL_nil ?_
                  refine th_n ?_
                  obtain rfl := Option.some.inj hr
                  have hst := (((((((hst.pull 6).pull 6).pull 6).pull 6).pull 6).pull 6).pull 6)
                  exact (kpX [(0, pt p1 0), (1, .int .u32 x3), (2, .slice a2 x4.length c2), (8, I v9), (9, pt p8 0), (34, .slice a1 x1.length c1), (35, I (x1.length : Int)), (36, I v9), (52, .bool true)] rfl hst)
                · have hr := (if_neg h).symm.trans hr
                  refine L_keep ((46, .bool ((bAnd .u32 (shR .u32 x3 v9) 1) == 1)) :: [(0, pt p1 0), (1, .int .u32 x3), (2, .slice a2 x4.length c2), (8, I v9), (9, pt p8 0), (34, .slice a1 x1.length c1), (35, I (x1.length : Int)), (36, I v9)]) rfl fun b => ?_
                  refine L_bool (eq_false_of_ne_true h) ?_
                  refine L_pure 3 [(0, pt p1 0), (1, .int .u32 x3), (2, .slice a2 x4.length c2), (8, I v9), (9, pt p8 0), (34, .slice a1 x1.length c1), (35, I (x1.length : Int)), (36, I v9), (46, .bool false), (47, pt p1 0), (48, I v9), (49, .int .u32 x3)] (by kernel_rfl) fun b => ?_
                  obtain ⟨y22, hy22, hr⟩ := bnd hr
                  refine L_op rfl (O_call (vs := #[pt p1 0, I v9, .int .u32 x3]) Try.call20 (by kernel_rfl) (history_search_may_ok k x1 v10 v9 x3 p1 a1 c1 p2 y22 (((hst.pull 3).pull 3).pull 6) hy22 fun w hst => ?_))
                  refine CK_ret rfl ?_
                  refine L_pure 2 [(0, pt p1 0), (1, .int .u32 x3), (2, .slice a2 x4.length c2), (8, I v9), (9, pt p8 0), (34, .slice a1 x1.length c1), (35, I (x1.length : Int)), (36, I v9), (52, .bool (!y22))] (by kernel_rfl) fun b => ?_
                  refine wpL_nil ?_
                  refine th_n ?_
                  obtain rfl := Option.some.inj hr
                  have hst := ((((((hst.pull 6).pull 6).pull 4).pull 4).pull 6).pull 6)
                  exact (kpX [(0, pt p1 0), (1, .int .u32 x3), (2, .slice a2 x4.length c2), (8, I v9), (9, pt p8 0), (34, .slice a1 x1.length c1), (35, I (x1.length : Int)), (36, I v9), (52, .bool (!y22))] rfl hst)
          · have hr := (if_neg (by rw [h]; exact Bool.false_ne_true)).symm.trans hr
            refine wp_exit ?_
            refine th_x (th_x (ib_x (th_n ?_)))
            obtain rfl := Option.some.inj hr
            have hst := (((((hst.pull 4).pull 4).pull 4).pull 4).pull 4)
            exact ⟨(v10), (kpXf [] rfl hst)⟩
theorem history_search_try_r_ok {G : World} (k : Nat) : ∀ (d : Nat) {w : World} {F : List HP} {R : Ending → World → Prop} (x1 : (List T_history_Op)) (x2 : (List (T_history_key × Int))) (x3 : Int) (x4 : (List T_history_entry)) (p1 : Nat) (a1 : Option Addr) (c1 : Nat) (p2 : Nat) (a2 : Option Addr) (c2 : Nat) (r : (Bool × (List (T_history_key × Int)))), St G w (blk p1 (cl [.slice a1 x1.length c1, .map (some p2)] 52) :: osl r_T_history_Op 32 a1 c1 x1 :: mpo (fun x : T_history_key => .agg #[.int .u32 x.done, S x.world]) (fun n => .int .i64 n) p2 x2 :: dsl r_T_history_entry a2 c2 x4 :: F) → history_search_try_r k d x1 x2 x3 x4 = some r → (∀ w', St G w' (blk p1 (cl [.slice a1 x1.length c1, .map (some p2)] 52) :: osl r_T_history_Op 32 a1 c1 x1 :: mpo (fun x : T_history_key => .agg #[.int .u32 x.done, S x.world]) (fun n => .int .i64 n) p2 r.2 :: dsl r_T_history_entry a2 c2 x4 :: F) → R (.returned (.bool r.1)) w') → Calls Try.prog 15 #[pt p1 0, .int .u32 x3, .slice a2 x4.length c2] w R := by
  intro d
  induction d with
  | zero => intro w F R x1 x2 x3 x4 p1 a1 c1 p2 a2 c2 r hst hr hR; rw [history_search_try_r] at hr; cases hr
  | succ d ih => intro w F R x1 x2 x3 x4 p1 a1 c1 p2 a2 c2 r hst hr hR; rw [history_search_try_r] at hr; exact history_search_try_b_ok k (history_search_try_r k d) (fun x1 x2 x3 x4 p1 a1 c1 p2 a2 c2 r hst hr hR => ih x1 x2 x3 x4 p1 a1 c1 p2 a2 c2 r hst hr hR) x1 x2 x3 x4 p1 a1 c1 p2 a2 c2 r hst hr hR
theorem history_search_try_ok {G : World} {w : World} {F : List HP} {R : Ending → World → Prop} (k : Nat) (x1 : (List T_history_Op)) (x2 : (List (T_history_key × Int))) (x3 : Int) (x4 : (List T_history_entry)) (p1 : Nat) (a1 : Option Addr) (c1 : Nat) (p2 : Nat) (a2 : Option Addr) (c2 : Nat) (r : (Bool × (List (T_history_key × Int)))) (hst : St G w (blk p1 (cl [.slice a1 x1.length c1, .map (some p2)] 52) :: osl r_T_history_Op 32 a1 c1 x1 :: mpo (fun x : T_history_key => .agg #[.int .u32 x.done, S x.world]) (fun n => .int .i64 n) p2 x2 :: dsl r_T_history_entry a2 c2 x4 :: F)) (hr : history_search_try k x1 x2 x3 x4 = some r) (hR : ∀ w', St G w' (blk p1 (cl [.slice a1 x1.length c1, .map (some p2)] 52) :: osl r_T_history_Op 32 a1 c1 x1 :: mpo (fun x : T_history_key => .agg #[.int .u32 x.done, S x.world]) (fun n => .int .i64 n) p2 r.2 :: dsl r_T_history_entry a2 c2 x4 :: F) → R (.returned (.bool r.1)) w') :
    Calls Try.prog 15 #[pt p1 0, .int .u32 x3, .slice a2 x4.length c2] w R := history_search_try_r_ok k k x1 x2 x3 x4 p1 a1 c1 p2 a2 c2 r hst hr hR
end Go.Proofs.Ytkbhnofclgibfaa
