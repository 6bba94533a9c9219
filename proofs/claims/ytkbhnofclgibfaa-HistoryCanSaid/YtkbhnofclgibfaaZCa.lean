/- ZC: printed by hx.py (own work) out of the program. -/
import Derived.Test.YtkbhnofclgibfaaHxU
import Derived.Tactics
import Derived.Test.YtkbhnofclgibfaaHxN
import Derived.Test.YtkbhnofclgibfaaHxI
import Derived.Test.YtkbhnofclgibfaaHxS
import Derived.Test.YtkbhnofclgibfaaHxM
import Derived.Test.YtkbhnofclgibfaaChecked
namespace Go.Proofs.Ytkbhnofclgibfaa
open Go.Hx Go.RowKit
structure T_history_Op where
  Kind : Int
  Name : (List UInt8)
  Value : Int
  Start : Int
  End : Int
  Err : Int
  Got : Int
  Names : (List (List UInt8))
def r_T_history_Op : Rp T_history_Op := ⟨(Option Addr × Nat), 8, fun x y => [.int .i64 x.Kind, S x.Name, .int .u64 x.Value, .int .i64 x.Start, .int .i64 x.End, .int .i64 x.Err, .int .u64 x.Got, .slice y.1 x.Names.length y.2], fun x y => dslP rS y.1 y.2 x.Names, fun _ _ _ _ hm h => dslP_mono _ _ _ _ _ _ hm h, fun _ _ => rfl, fun _ _ => rfl⟩
structure T_glacierref18_Entry where
  Name : (List UInt8)
  V : Int
  deriving DecidableEq
def r_T_glacierref18_Entry : Rp T_glacierref18_Entry := ⟨Unit, 2, fun x _ => [S x.Name, .int .u64 x.V], fun _ _ _ => True, fun _ _ _ _ _ h => h, fun _ _ => rfl, fun _ _ => rfl⟩
structure T_glacierref18_Op where
  Kind : Int
  Name : (List UInt8)
  Value : Int
  Start : Int
  End : Int
  Err : Int
  Got : Int
  Names : (List (List UInt8))
def r_T_glacierref18_Op : Rp T_glacierref18_Op := ⟨(Option Addr × Nat), 8, fun x y => [.int .i64 x.Kind, S x.Name, .int .u64 x.Value, .int .i64 x.Start, .int .i64 x.End, .int .i64 x.Err, .int .u64 x.Got, .slice y.1 x.Names.length y.2], fun x y => dslP rS y.1 y.2 x.Names, fun _ _ _ _ hm h => dslP_mono _ _ _ _ _ _ hm h, fun _ _ => rfl, fun _ _ => rfl⟩
structure T_history_key where
  done : Int
  world : (List UInt8)
  deriving DecidableEq
def r_T_history_key : Rp T_history_key := ⟨Unit, 2, fun x _ => [.int .u32 x.done, S x.world], fun _ _ _ => True, fun _ _ _ _ _ h => h, fun _ _ => rfl, fun _ _ => rfl⟩
structure T_history_entry where
  name : (List UInt8)
  v : Int
  deriving DecidableEq
def r_T_history_entry : Rp T_history_entry := ⟨Unit, 2, fun x _ => [S x.name, .int .u64 x.v], fun _ _ _ => True, fun _ _ _ _ _ h => h, fun _ _ => rfl, fun _ _ => rfl⟩
theorem L22 : Lst Try.prog 22 32 8 88 := ⟨Try.underlying22, Try.t32, _, by kernel_rfl, rfl, rfl, rfl, rfl⟩
theorem L23 : Lst Try.prog 23 4 1 1 := ⟨Try.underlying23, Try.t4, _, by kernel_rfl, rfl, rfl, rfl, rfl⟩
theorem L30 : Lst Try.prog 30 9 1 16 := ⟨Try.underlying30, Try.t9, _, by kernel_rfl, rfl, rfl, rfl, rfl⟩
theorem L38 : Lst Try.prog 38 42 2 24 := ⟨Try.underlying38, Try.t42, _, by kernel_rfl, rfl, rfl, rfl, rfl⟩
theorem L47 : Lst Try.prog 47 46 8 88 := ⟨Try.underlying47, Try.t46, _, by kernel_rfl, rfl, rfl, rfl, rfl⟩
theorem L57 : Lst Try.prog 57 68 2 24 := ⟨Try.underlying57, Try.t68, _, by kernel_rfl, rfl, rfl, rfl, rfl⟩
theorem L58 : Lst Try.prog 58 68 2 24 := ⟨Try.underlying58, Try.t68, _, by kernel_rfl, rfl, rfl, rfl, rfl⟩
theorem L66 : Lst Try.prog 66 5 1 1 := ⟨Try.underlying66, Try.t5, _, by kernel_rfl, rfl, rfl, rfl, rfl⟩
theorem G62 : Try.prog.eqGuardType Try.prog.depth 62 = false := by kernel_rfl
theorem EQ62 (x y : T_history_key) (w : World) : (Op.equalIn 10000 62 (.agg #[.int .u32 x.done, S x.world]) (.agg #[.int .u32 y.done, S y.world])).run Try.prog w = .ok (decide (x = y)) w := by
  have hS : Try.prog.underlying 62 = some (.struct (Try.prog.fieldsOf 62)) := by kernel_rfl
  have hp : Try.prog.stoodInHeld 62 = false := by kernel_rfl
  have u9 := run_underlying (P := Try.prog) Try.underlying9
  have z9 := Try.sizeOf9; have a9 := Try.isAgg9
  have u54 := run_underlying (P := Try.prog) Try.underlying54
  have z54 := Try.sizeOf54; have a54 := Try.isAgg54
  rw [show (10000 : Nat) = 9999 + 1 from rfl, run_equalIn_agg w 9999 62 _ _ hS hp]
  simp only [Program.fieldsOf, Try.underlying62]
  go_simp
  cases x; cases y; simp; repeat' split
  all_goals simp_all
theorem CK62 (e : Bool) (x : T_history_key) (w : World) : (Instr.checkKey e 10000 62 (.agg #[.int .u32 x.done, S x.world])).run Try.prog w = .ok () w := by
  have u9 := run_underlying (P := Try.prog) Try.underlying9
  have z9 := Try.sizeOf9; have a9 := Try.isAgg9
  have u54 := run_underlying (P := Try.prog) Try.underlying54
  have z54 := Try.sizeOf54; have a54 := Try.isAgg54
  have u62 := run_underlying (P := Try.prog) Try.underlying62
  have z62 := Try.sizeOf62; have a62 := Try.isAgg62
  have c9 : ∀ v w, (Instr.checkKey e 9999 9 (S v)).run Try.prog w = .ok () w := fun v w => Go.MapKept.run_checkKey (k := S v) Try.underlying9 trivial e 9998
  have c54 : ∀ v w, (Instr.checkKey e 9999 54 (.int .u32 v)).run Try.prog w = .ok () w := fun v w => Go.MapKept.run_checkKey (k := .int .u32 v) Try.underlying54 rfl e 9998
  rw [show (10000 : Nat) = 9999 + 1 from rfl]
  unfold Instr.checkKey
  simp only [Sem.run_bind, u62, Result.andThen_ok]
  go_simp
theorem ST62 (x : T_history_key) (w : World) : (Instr.keyThatStays (.agg #[.int .u32 x.done, S x.world]) (.agg #[.int .u32 x.done, S x.world])).run Try.prog w = .ok (.agg #[.int .u32 x.done, S x.world]) w := by
  have h : Instr.sameBits 10000 (.agg #[.int .u32 x.done, S x.world]) (.agg #[.int .u32 x.done, S x.world]) = true := by
    rw [show (10000 : Nat) = 9999 + 1 from rfl]
    simp [Instr.sameBits, S, Go.MapKept.bytes_beq]
  simp [Instr.keyThatStays, h]
theorem M50 : MapG Try.prog 50 62 3 (fun x : T_history_key => .agg #[.int .u32 x.done, S x.world]) (fun n => .int .i64 n) (0 : Int) := ⟨Try.underlying50, ⟨⟨_, Try.underlying62, fun _ _ => rfl⟩, CK62, fun a b w => EQ62 a b w, ST62⟩, ⟨Try.t3, by kernel_rfl, rfl⟩⟩
def glacierlaw01_Cut (_k : Nat) (x1 : (List UInt8)) (x2 : Int) : Option ((List UInt8)) := (if decide ((x1.length : Int) > x2) = true then (Option.bind (sl x1 0 x2) fun x4 => some (x4)) else some (x1))
set_option maxRecDepth 100000 in
set_option maxHeartbeats 4000000 in
theorem glacierlaw01_Cut_ok {G w : World} {F : List HP} {R : Ending → World → Prop} (k : Nat) (x1 : (List UInt8)) (x2 : Int) (r : ((List UInt8))) (hst : St G w (F)) (hr : glacierlaw01_Cut k x1 x2 = some r)
    (hR : ∀ w', St G w' (F) → R (.returned (S r)) w') :
    Calls Try.prog 16 #[S x1, I x2] w R := by
  unfold glacierlaw01_Cut at hr
  refine enter Try.func16 rfl [(0, S x1), (1, I x2)] rfl rfl fun b => ?_
  refine wp_seq ?_
  refine wp_reg ?_
  refine L_pure 1 [(0, S x1), (1, I x2)] (by kernel_rfl) fun b => ?_
  refine wpL_nil ?_
  refine th_n ?_
  refine wp_seq ?_
  refine wp_seq ?_
  refine wp_reg ?_
  refine L_pure 4 [(0, S x1), (1, I x2), (8, .bool (decide ((x1.length : Int) > x2)))] (by kernel_rfl) fun b => ?_
  refine wpL_nil ?_
  refine th_n ?_
  refine wp_cond_mkF (t := decide ((x1.length : Int) > x2)) rfl (fun h => ?_) (fun h => ?_)
  · have hr := (if_pos h).symm.trans hr
    refine wp_seq ?_
    refine wp_reg ?_
    refine L_pure 2 [(9, S x1), (10, I x2)] (by kernel_rfl) fun b => ?_
    obtain ⟨x4, hx2, hr⟩ := bnd hr
    refine L_op rfl (O_run (v := S x4) (w' := w) (R_slice_s Try.underlying9 rfl rfl rfl hx2) rfl rfl ?_)
    refine L_pure 1 [(4, S x4)] (by kernel_rfl) fun b => ?_
    refine wpL_nil ?_
    refine th_n ?_
    refine wp_ret ?_
    refine th_r ?_
    refine ret1 rfl rfl ?_
    obtain rfl := Option.some.inj hr
    exact hR _ hst
  · have hr := (if_neg (by rw [h]; exact Bool.false_ne_true)).symm.trans hr
    refine wp_skip ?_
    refine th_n ?_
    refine wp_seq ?_
    refine wp_reg ?_
    refine L_pure 2 [(4, S x1)] (by kernel_rfl) fun b => ?_
    refine wpL_nil ?_
    refine th_n ?_
    refine wp_ret ?_
    refine ret1 rfl rfl ?_
    obtain rfl := Option.some.inj hr
    exact hR _ hst
def glacierlaw18_few_l1 (k : Nat) (x1 : (List T_history_Op)) (x2 : Int) : Nat → (List T_history_Op) → Int → Option ((List T_history_Op))
  | 0, _, _ => none
  | j + 1, v7, v8 => (Option.bind (if decide (v8 < (x1.length : Int)) = true then some (decide (v8 < x2)) else some (false)) fun y6 => (if y6 = true then (Option.bind (gt x1 v8) fun x5 => (Option.bind (glacierlaw01_Cut k x5.Name 2) fun y7 => (Option.bind (if decide (x5.End ≥ 0) = true then some ((mx2 (mn2 x5.End 2000) (mn2 (mx2 x5.Start 0) 1000))) else some (x5.End)) fun y8 => (Option.bind (sl x5.Names 0 (mn2 (x5.Names.length : Int) 4)) fun x6 => (if room (([] : List (List UInt8)).length + x6.length) 16 = true then (if room (v7.length + ([(T_history_Op.mk (IntKind.i64.wrap (1 + ((IntKind.i64.wrap ((x5.Kind.tmod 5) + 5)).tmod 5))) y7 x5.Value (mn2 (mx2 x5.Start 0) 1000) y8 x5.Err x5.Got ([] ++ x6))]).length) 88 = true then (glacierlaw18_few_l1 k x1 x2 j (v7 ++ ([(T_history_Op.mk (IntKind.i64.wrap (1 + ((IntKind.i64.wrap ((x5.Kind.tmod 5) + 5)).tmod 5))) y7 x5.Value (mn2 (mx2 x5.Start 0) 1000) y8 x5.Err x5.Got ([] ++ x6))])) (IntKind.i64.wrap (v8 + 1))) else none) else none))))) else some (v7)))
def glacierlaw18_few (k : Nat) (x1 : (List T_history_Op)) (x2 : Int) : Option ((List T_history_Op)) := (Option.bind (glacierlaw18_few_l1 k x1 x2 k ([]) (0 : Int)) fun y5 => some (y5))
set_option maxRecDepth 100000 in
set_option maxHeartbeats 4000000 in
theorem glacierlaw18_few_ok {G w : World} {F : List HP} {R : Ending → World → Prop} (k : Nat) (x1 : (List T_history_Op)) (x2 : Int) (a1 : Option Addr) (c1 : Nat) (r : ((List T_history_Op))) (hst : St G w (dsl r_T_history_Op a1 c1 x1 :: F)) (hr : glacierlaw18_few k x1 x2 = some r)
    (hR : ∀ (a8 : Option Addr) (c8 : Nat) w', St G w' (osl r_T_history_Op 32 a8 c8 r :: dsl r_T_history_Op a1 c1 x1 :: F) → R (.returned (.slice a8 r.length c8)) w') :
    Calls Try.prog 11 #[.slice a1 x1.length c1, I x2] w R := by
  unfold glacierlaw18_few at hr
  refine enter Try.func11 rfl [(0, .slice a1 x1.length c1), (1, I x2)] rfl rfl fun b => ?_
  refine wp_seq ?_
  refine wp_reg ?_
  refine L_pure 1 [(0, .slice a1 x1.length c1), (1, I x2)] (by kernel_rfl) fun b => ?_
  refine wpL_nil ?_
  refine th_n ?_
  refine wp_seq ?_
  refine wp_reg ?_
  refine L_op rfl (O_bs (T := 32) [] #[] hst (by kernel_rfl) (by kernel_rfl) rfl fun p5 w hst => ?_)
  have hst := osl_of_blk0 (ecs := []) r_T_history_Op [] rfl (fun m => trivial) rfl hst
  refine L_pure 1 [(0, .slice a1 x1.length c1), (1, I x2), (5, .slice (some ⟨p5, 0, none⟩) 0 0)] (by kernel_rfl) fun b => ?_
  refine wpL_nil ?_
  refine th_n ?_
  refine wp_seq ?_
  refine wp_seq ?_
  refine wp_reg ?_
  refine L_pure 1 [(0, .slice a1 x1.length c1), (1, I x2), (5, .slice (some ⟨p5, 0, none⟩) 0 0), (6, I 0)] (by kernel_rfl) fun b => ?_
  refine wpL_nil ?_
  refine th_n ?_
  obtain ⟨y5, hy5, hk4⟩ := bnd hr
  clear hr
  refine Go.Hx.wp_cut (fun a w => ∃ (a11 : Option Addr) (c11 : Nat)(b : Nat → Value), a = mkF 65 b [(5, .slice a11 y5.length c11)] ∧ St G w (osl r_T_history_Op 32 a11 c11 y5 :: dsl r_T_history_Op a1 c1 x1 :: F)) ?_ ?_
  · rintro _ w ⟨a11, c11, b, rfl, hst⟩
    have hr := hk4
    refine th_n ?_
    refine wp_seq ?_
    refine wp_reg ?_
    refine L_pure 2 [(4, .slice a11 y5.length c11)] (by kernel_rfl) fun b => ?_
    refine wpL_nil ?_
    refine th_n ?_
    refine wp_ret ?_
    refine ret1 rfl rfl ?_
    obtain rfl := Option.some.inj hr
    have hst := ((hst.pull 1).pull 1)
    exact hR a11 c11 _ hst
  · have hst := ((hst.pull 1).pull 1)
    refine wp_block ?_
    refine wp_loop_fuel (fun j a w => ∃ (v7 : (List T_history_Op)) (v8 : Int) (a9 : Option Addr) (c9 : Nat) (b : Nat → Value), a = mkF 65 b [(0, .slice a1 x1.length c1), (1, I x2), (5, .slice a9 v7.length c9), (6, I v8)] ∧ St G w (osl r_T_history_Op 32 a9 c9 v7 :: dsl r_T_history_Op a1 c1 x1 :: F) ∧ glacierlaw18_few_l1 k x1 x2 j v7 v8 = some y5) (k := k) ⟨[], (0 : Int), (some ⟨p5, 0, none⟩), 0, (kpX [(0, .slice a1 x1.length c1), (1, I x2), (5, .slice (some ⟨p5, 0, none⟩) 0 0), (6, I 0)] rfl ⟨hst, hy5⟩)⟩ ?_ ?_
    · rintro _ _ ⟨_, _, _, _, _, _, _, h⟩
      rw [glacierlaw18_few_l1] at h
      cases h
    · rintro j _ w ⟨v7, v8, a9, c9, b, rfl, hst, hr⟩
      rw [glacierlaw18_few_l1] at hr
      refine wp_seq ?_
      obtain ⟨y6, hy6, hk5⟩ := bnd hr
      clear hr
      refine wp_seq_cut (fun a w => ∃ (b : Nat → Value), a = mkF 65 b [(0, .slice a1 x1.length c1), (1, I x2), (5, .slice a9 v7.length c9), (6, I v8), (17, .bool y6)] ∧ St G w (osl r_T_history_Op 32 a9 c9 v7 :: dsl r_T_history_Op a1 c1 x1 :: F)) ?_ ?_
      · rintro _ w ⟨b, rfl, hst⟩
        have hr := hk5
        refine wp_cond_mkF (t := y6) rfl (fun h => ?_) (fun h => ?_)
        · have hr := (if_pos h).symm.trans hr
          refine wp_skip ?_
          refine th_n ?_
          refine wp_seq ?_
          refine wp_block ?_
          refine wp_seq ?_
          refine wp_reg ?_
          refine L_pure 2 [(0, .slice a1 x1.length c1), (1, I x2), (5, .slice a9 v7.length c9), (6, I v8), (20, .slice a1 x1.length c1), (21, I v8)] (by kernel_rfl) fun b => ?_
          obtain ⟨x5, hx3, hr⟩ := bnd hr
          refine L_op rfl (O_run (v := pt (ab a1) (ao a1 + v8.toNat * 8)) (w' := w) (R_ia L22 rfl rfl (dsl_addr (hst.pull 1) hx3) (gt_some hx3).1 (gt_some hx3).2.1) rfl rfl ?_)
          obtain ⟨q2, hc2, hst⟩ := dsl_cells (hst.pull 1) hx3
          refine L_op rfl (O_run (v := .agg #[I x5.Kind, S x5.Name, .int .u64 x5.Value, I x5.Start, I x5.End, I x5.Err, .int .u64 x5.Got, .slice q2.1 x5.Names.length q2.2]) (w' := w) (R_loadAt (off := ao a1 + v8.toNat * 8) (j := 0) hc2 rfl rfl) rfl rfl ?_)
          refine L_op rfl (O_alloc (i := Try.t32) (z := .agg #[I 0, S ([]), .int .u64 0, I 0, I 0, I 0, .int .u64 0, .slice none 0 0]) [I 0, S ([]), .int .u64 0, I 0, I 0, I 0, .int .u64 0, .slice none 0 0] hst rfl rfl rfl rfl fun p6 w hst => ?_)
          refine L_op rfl (O_store [I x5.Kind, S x5.Name, .int .u64 x5.Value, I x5.Start, I x5.End, I x5.Err, .int .u64 x5.Got, .slice q2.1 x5.Names.length q2.2] hst rfl rfl (by kernel_rfl) fun w hst => ?_)
          refine wpL_nil ?_
          refine th_n ?_
          refine wp_seq ?_
          refine wp_reg ?_
          refine L_pure 1 [(0, .slice a1 x1.length c1), (1, I x2), (5, .slice a9 v7.length c9), (6, I v8), (7, pt p6 0), (24, pt p6 0)] (by kernel_rfl) fun b => ?_
          refine L_op rfl (O_run (v := I x5.Kind) (w' := w) (R_load hst rfl rfl) rfl rfl ?_)
          refine L_pure 5 [(0, .slice a1 x1.length c1), (1, I x2), (5, .slice a9 v7.length c9), (6, I v8), (7, pt p6 0), (29, I (IntKind.i64.wrap (1 + ((IntKind.i64.wrap ((x5.Kind.tmod 5) + 5)).tmod 5)))), (30, pt p6 0)] (by kernel_rfl) fun b => ?_
          refine L_op rfl (O_store [I (IntKind.i64.wrap (1 + ((IntKind.i64.wrap ((x5.Kind.tmod 5) + 5)).tmod 5))), S x5.Name, .int .u64 x5.Value, I x5.Start, I x5.End, I x5.Err, .int .u64 x5.Got, .slice q2.1 x5.Names.length q2.2] hst rfl rfl (by kernel_rfl) fun w hst => ?_)
          refine wpL_nil ?_
          refine th_n ?_
          refine wp_seq ?_
          refine wp_reg ?_
          refine L_pure 1 [(0, .slice a1 x1.length c1), (1, I x2), (5, .slice a9 v7.length c9), (6, I v8), (7, pt p6 0), (31, pt p6 1)] (by kernel_rfl) fun b => ?_
          refine L_op rfl (O_run (v := S x5.Name) (w' := w) (R_load hst rfl rfl) rfl rfl ?_)
          obtain ⟨y7, hy7, hr⟩ := bnd hr
          refine L_op rfl (O_call (vs := #[S x5.Name, I 2]) Try.call16 (by kernel_rfl) (glacierlaw01_Cut_ok k x5.Name 2 y7 hst hy7 fun w hst => ?_))
          refine CK_ret rfl ?_
          refine L_pure 1 [(0, .slice a1 x1.length c1), (1, I x2), (5, .slice a9 v7.length c9), (6, I v8), (7, pt p6 0), (33, S y7), (34, pt p6 1)] (by kernel_rfl) fun b => ?_
          refine L_op rfl (O_store [I (IntKind.i64.wrap (1 + ((IntKind.i64.wrap ((x5.Kind.tmod 5) + 5)).tmod 5))), S y7, .int .u64 x5.Value, I x5.Start, I x5.End, I x5.Err, .int .u64 x5.Got, .slice q2.1 x5.Names.length q2.2] hst rfl rfl (by kernel_rfl) fun w hst => ?_)
          refine wpL_nil ?_
          refine th_n ?_
          refine wp_seq ?_
          refine wp_reg ?_
          refine L_pure 1 [(0, .slice a1 x1.length c1), (1, I x2), (5, .slice a9 v7.length c9), (6, I v8), (7, pt p6 0), (35, pt p6 3)] (by kernel_rfl) fun b => ?_
          refine L_op rfl (O_run (v := I x5.Start) (w' := w) (R_load hst rfl rfl) rfl rfl ?_)
          refine L_pure 3 [(0, .slice a1 x1.length c1), (1, I x2), (5, .slice a9 v7.length c9), (6, I v8), (7, pt p6 0), (38, I (mn2 (mx2 x5.Start 0) 1000)), (39, pt p6 3)] (by kernel_rfl) fun b => ?_
          refine L_op rfl (O_store [I (IntKind.i64.wrap (1 + ((IntKind.i64.wrap ((x5.Kind.tmod 5) + 5)).tmod 5))), S y7, .int .u64 x5.Value, I (mn2 (mx2 x5.Start 0) 1000), I x5.End, I x5.Err, .int .u64 x5.Got, .slice q2.1 x5.Names.length q2.2] hst rfl rfl (by kernel_rfl) fun w hst => ?_)
          refine wpL_nil ?_
          refine th_n ?_
          obtain ⟨y8, hy8, hk6⟩ := bnd hr
          clear hr
          refine wp_seq_cut (fun a w => ∃ (b : Nat → Value), a = mkF 65 b [(0, .slice a1 x1.length c1), (1, I x2), (5, .slice a9 v7.length c9), (6, I v8), (7, pt p6 0)] ∧ St G w (blk p6 (cl [I (IntKind.i64.wrap (1 + ((IntKind.i64.wrap ((x5.Kind.tmod 5) + 5)).tmod 5))), S y7, .int .u64 x5.Value, I (mn2 (mx2 x5.Start 0) 1000), I y8, I x5.Err, .int .u64 x5.Got, .slice q2.1 x5.Names.length q2.2] 32) :: dsl rS q2.1 q2.2 x5.Names :: dsl r_T_history_Op a1 c1 x1 :: osl r_T_history_Op 32 a9 c9 v7 :: F)) ?_ ?_
          · rintro _ w ⟨b, rfl, hst⟩
            have hr := hk6
            refine wp_seq ?_
            refine wp_reg ?_
            refine L_op rfl (O_bs (T := 9) [] #[] hst (by kernel_rfl) (by kernel_rfl) rfl fun p7 w hst => ?_)
            have hst := osl_of_blk0 (ecs := []) rS [] rfl (fun m => trivial) rfl hst
            refine L_pure 1 [(0, .slice a1 x1.length c1), (1, I x2), (5, .slice a9 v7.length c9), (6, I v8), (7, pt p6 0), (50, .slice (some ⟨p7, 0, none⟩) 0 0), (51, pt p6 7)] (by kernel_rfl) fun b => ?_
            refine L_op rfl (O_run (v := .slice q2.1 x5.Names.length q2.2) (w' := w) (R_load (hst.pull 1) rfl rfl) rfl rfl ?_)
            refine L_pure 1 [(0, .slice a1 x1.length c1), (1, I x2), (5, .slice a9 v7.length c9), (6, I v8), (7, pt p6 0), (50, .slice (some ⟨p7, 0, none⟩) 0 0), (52, .slice q2.1 x5.Names.length q2.2), (53, pt p6 7)] (by kernel_rfl) fun b => ?_
            refine L_op rfl (O_run (v := .slice q2.1 x5.Names.length q2.2) (w' := w) (R_load (hst.pull 1) rfl rfl) rfl rfl ?_)
            refine L_pure 2 [(0, .slice a1 x1.length c1), (1, I x2), (5, .slice a9 v7.length c9), (6, I v8), (7, pt p6 0), (50, .slice (some ⟨p7, 0, none⟩) 0 0), (52, .slice q2.1 x5.Names.length q2.2), (56, I (mn2 (x5.Names.length : Int) 4))] (by kernel_rfl) fun b => ?_
            obtain ⟨x6, hx4, hr⟩ := bnd hr
            refine L_op rfl (O_slice_d L30 (hst.pull 2) rfl rfl rfl hx4 rfl fun a12 c12 hst => ?_)
            obtain ⟨hb3, hr⟩ := chk hr
            refine L_op rfl (O_app_d L30 (hst.pull 2) rfl rfl hb3 rfl fun a13 c13 w hst => ?_)
            refine L_pure 1 [(0, .slice a1 x1.length c1), (1, I x2), (5, .slice a9 v7.length c9), (6, I v8), (7, pt p6 0), (58, .slice a13 ([] ++ x6).length c13), (59, pt p6 7)] (by kernel_rfl) fun b => ?_
            refine L_op rfl (O_store [I (IntKind.i64.wrap (1 + ((IntKind.i64.wrap ((x5.Kind.tmod 5) + 5)).tmod 5))), S y7, .int .u64 x5.Value, I (mn2 (mx2 x5.Start 0) 1000), I y8, I x5.Err, .int .u64 x5.Got, .slice a13 ([] ++ x6).length c13] (hst.pull 3) rfl rfl (by kernel_rfl) fun w hst => ?_)
            refine wpL_nil ?_
            refine th_n ?_
            refine wp_reg ?_
            refine L_pure 1 [(0, .slice a1 x1.length c1), (1, I x2), (6, I v8), (7, pt p6 0), (60, .slice a9 v7.length c9)] (by kernel_rfl) fun b => ?_
            refine L_op rfl (O_run (v := .agg #[I (IntKind.i64.wrap (1 + ((IntKind.i64.wrap ((x5.Kind.tmod 5) + 5)).tmod 5))), S y7, .int .u64 x5.Value, I (mn2 (mx2 x5.Start 0) 1000), I y8, I x5.Err, .int .u64 x5.Got, .slice a13 ([] ++ x6).length c13]) (w' := w) (R_load hst rfl rfl) rfl rfl ?_)
            have hst := osl_freeze (hst.pull 1)
            refine L_op rfl (O_bs (T := 32) [I (IntKind.i64.wrap (1 + ((IntKind.i64.wrap ((x5.Kind.tmod 5) + 5)).tmod 5))), S y7, .int .u64 x5.Value, I (mn2 (mx2 x5.Start 0) 1000), I y8, I x5.Err, .int .u64 x5.Got, .slice a13 ([] ++ x6).length c13] #[(0, .agg #[I (IntKind.i64.wrap (1 + ((IntKind.i64.wrap ((x5.Kind.tmod 5) + 5)).tmod 5))), S y7, .int .u64 x5.Value, I (mn2 (mx2 x5.Start 0) 1000), I y8, I x5.Err, .int .u64 x5.Got, .slice a13 ([] ++ x6).length c13])] hst (by kernel_rfl) (by kernel_rfl) rfl fun p8 w hst => ?_)
            have hst := (hst.pull 1).dup
            have hst := ((hst.pull 2).pull 1)
            have hst := osl_of_blk (ecs := [[I (IntKind.i64.wrap (1 + ((IntKind.i64.wrap ((x5.Kind.tmod 5) + 5)).tmod 5))), S y7, .int .u64 x5.Value, I (mn2 (mx2 x5.Start 0) 1000), I y8, I x5.Err, .int .u64 x5.Got, .slice a13 ([] ++ x6).length c13]]) r_T_history_Op [(T_history_Op.mk (IntKind.i64.wrap (1 + ((IntKind.i64.wrap ((x5.Kind.tmod 5) + 5)).tmod 5))) y7 x5.Value (mn2 (mx2 x5.Start 0) 1000) y8 x5.Err x5.Got ([] ++ x6))] rfl (fun m h => ⟨⟨((a13, c13)), rfl, h⟩, trivial⟩) rfl hst
            obtain ⟨hb4, hr⟩ := chk hr
            refine L_op rfl (O_app_o L22 (hst.pull 6) rfl rfl hb4 rfl fun a14 c14 w hst => ?_)
            refine L_pure 1 [(0, .slice a1 x1.length c1), (1, I x2), (5, .slice a14 (v7 ++ ([(T_history_Op.mk (IntKind.i64.wrap (1 + ((IntKind.i64.wrap ((x5.Kind.tmod 5) + 5)).tmod 5))) y7 x5.Value (mn2 (mx2 x5.Start 0) 1000) y8 x5.Err x5.Got ([] ++ x6))])).length c14), (6, I v8)] (by kernel_rfl) fun b => ?_
            refine wpL_nil ?_
            refine ib_n (th_n ?_)
            refine wp_reg ?_
            refine L_pure 3 [(0, .slice a1 x1.length c1), (1, I x2), (5, .slice a14 (v7 ++ ([(T_history_Op.mk (IntKind.i64.wrap (1 + ((IntKind.i64.wrap ((x5.Kind.tmod 5) + 5)).tmod 5))) y7 x5.Value (mn2 (mx2 x5.Start 0) 1000) y8 x5.Err x5.Got ([] ++ x6))])).length c14), (6, I (IntKind.i64.wrap (v8 + 1)))] (by kernel_rfl) fun b => ?_
            refine wpL_nil ?_
            refine th_n ?_
            have hst := (((hst.pull 6).pull 1).cut 2 5)
            exact ⟨(v7 ++ ([(T_history_Op.mk (IntKind.i64.wrap (1 + ((IntKind.i64.wrap ((x5.Kind.tmod 5) + 5)).tmod 5))) y7 x5.Value (mn2 (mx2 x5.Start 0) 1000) y8 x5.Err x5.Got ([] ++ x6))])), (IntKind.i64.wrap (v8 + 1)), a14, c14, (kpX [(0, .slice a1 x1.length c1), (1, I x2), (5, .slice a14 (v7 ++ ([(T_history_Op.mk (IntKind.i64.wrap (1 + ((IntKind.i64.wrap ((x5.Kind.tmod 5) + 5)).tmod 5))) y7 x5.Value (mn2 (mx2 x5.Start 0) 1000) y8 x5.Err x5.Got ([] ++ x6))])).length c14), (6, I (IntKind.i64.wrap (v8 + 1)))] rfl ⟨hst, hr⟩)⟩
          · have hr := hy8
            refine wp_seq ?_
            refine wp_reg ?_
            refine L_pure 1 [(0, .slice a1 x1.length c1), (1, I x2), (5, .slice a9 v7.length c9), (6, I v8), (7, pt p6 0), (40, pt p6 4)] (by kernel_rfl) fun b => ?_
            refine L_op rfl (O_run (v := I x5.End) (w' := w) (R_load hst rfl rfl) rfl rfl ?_)
            refine L_pure 1 [(0, .slice a1 x1.length c1), (1, I x2), (5, .slice a9 v7.length c9), (6, I v8), (7, pt p6 0), (42, .bool (decide (x5.End ≥ 0)))] (by kernel_rfl) fun b => ?_
            refine wpL_nil ?_
            refine th_n ?_
            refine wp_cond_mkF (t := decide (x5.End ≥ 0)) rfl (fun h => ?_) (fun h => ?_)
            · have hr := (if_pos h).symm.trans hr
              refine wp_reg ?_
              refine L_pure 1 [(0, .slice a1 x1.length c1), (1, I x2), (5, .slice a9 v7.length c9), (6, I v8), (7, pt p6 0), (43, pt p6 4)] (by kernel_rfl) fun b => ?_
              refine L_op rfl (O_run (v := I x5.End) (w' := w) (R_load hst rfl rfl) rfl rfl ?_)
              refine L_pure 2 [(0, .slice a1 x1.length c1), (1, I x2), (5, .slice a9 v7.length c9), (6, I v8), (7, pt p6 0), (45, I (mn2 x5.End 2000)), (46, pt p6 3)] (by kernel_rfl) fun b => ?_
              refine L_op rfl (O_run (v := I (mn2 (mx2 x5.Start 0) 1000)) (w' := w) (R_load hst rfl rfl) rfl rfl ?_)
              refine L_pure 2 [(0, .slice a1 x1.length c1), (1, I x2), (5, .slice a9 v7.length c9), (6, I v8), (7, pt p6 0), (48, I (mx2 (mn2 x5.End 2000) (mn2 (mx2 x5.Start 0) 1000))), (49, pt p6 4)] (by kernel_rfl) fun b => ?_
              refine L_op rfl (O_store [I (IntKind.i64.wrap (1 + ((IntKind.i64.wrap ((x5.Kind.tmod 5) + 5)).tmod 5))), S y7, .int .u64 x5.Value, I (mn2 (mx2 x5.Start 0) 1000), I (mx2 (mn2 x5.End 2000) (mn2 (mx2 x5.Start 0) 1000)), I x5.Err, .int .u64 x5.Got, .slice q2.1 x5.Names.length q2.2] hst rfl rfl (by kernel_rfl) fun w hst => ?_)
              refine wpL_nil ?_
              refine th_n ?_
              obtain rfl := Option.some.inj hr
              have hst := ((((hst.pull 3).pull 3).pull 3).pull 3)
              exact (kpX [(0, .slice a1 x1.length c1), (1, I x2), (5, .slice a9 v7.length c9), (6, I v8), (7, pt p6 0)] rfl hst)
            · have hr := (if_neg (by rw [h]; exact Bool.false_ne_true)).symm.trans hr
              refine wp_skip ?_
              refine th_n ?_
              obtain rfl := Option.some.inj hr
              have hst := ((((hst.pull 3).pull 3).pull 3).pull 3)
              exact (kpX [(0, .slice a1 x1.length c1), (1, I x2), (5, .slice a9 v7.length c9), (6, I v8), (7, pt p6 0)] rfl hst)
        · have hr := (if_neg (by rw [h]; exact Bool.false_ne_true)).symm.trans hr
          refine wp_exit ?_
          refine th_x (th_x (ib_x (th_n ?_)))
          obtain rfl := Option.some.inj hr
          have hst := ((hst.pull 1).pull 1)
          exact ⟨a9, c9, (kpX [(5, .slice a9 v7.length c9)] rfl hst)⟩
      · have hr := hy6
        refine wp_reg ?_
        refine L_pure 5 [(0, .slice a1 x1.length c1), (1, I x2), (5, .slice a9 v7.length c9), (6, I v8), (13, .bool (decide (v8 < (x1.length : Int))))] (by kernel_rfl) fun b => ?_
        by_cases h : (decide (v8 < (x1.length : Int))) = true
        · have hr := (if_pos h).symm.trans hr
          refine L_keep ((13, .bool (decide (v8 < (x1.length : Int)))) :: [(0, .slice a1 x1.length c1), (1, I x2), (5, .slice a9 v7.length c9), (6, I v8)]) rfl fun b => ?_
          refine L_bool h ?_
          refine L_pure 4 [(0, .slice a1 x1.length c1), (1, I x2), (5, .slice a9 v7.length c9), (6, I v8), (17, .bool (decide (v8 < x2)))] (by kernel_rfl) fun b => ?_
          refine wpL_nil ?_
          refine th_n ?_
          obtain rfl := Option.some.inj hr
          have hst := ((hst.pull 1).pull 1)
          exact (kpX [(0, .slice a1 x1.length c1), (1, I x2), (5, .slice a9 v7.length c9), (6, I v8), (17, .bool (decide (v8 < x2)))] rfl hst)
        · have hr := (if_neg h).symm.trans hr
          refine L_keep ((13, .bool (decide (v8 < (x1.length : Int)))) :: [(0, .slice a1 x1.length c1), (1, I x2), (5, .slice a9 v7.length c9), (6, I v8)]) rfl fun b => ?_
          refine L_bool (eq_false_of_ne_true h) ?_
          refine L_pure 4 [(0, .slice a1 x1.length c1), (1, I x2), (5, .slice a9 v7.length c9), (6, I v8), (17, .bool false)] (by kernel_rfl) fun b => ?_
          refine wpL_nil ?_
          refine th_n ?_
          obtain rfl := Option.some.inj hr
          have hst := ((hst.pull 1).pull 1)
          exact (kpX [(0, .slice a1 x1.length c1), (1, I x2), (5, .slice a9 v7.length c9), (6, I v8), (17, .bool false)] rfl hst)
def glacierref18_Find_l1 (k : Nat) (x1 : (List T_glacierref18_Entry)) (x2 : (List UInt8)) : Nat → Int → Option (Flow (Int × Bool) (Unit))
  | 0, _ => none
  | j + 1, v4 => (if decide (v4 < (x1.length : Int)) = true then (Option.bind (gt x1 v4) fun x4 => (if (sEq x4.Name x2) = true then some (Flow.ret (x4.V, true)) else (glacierref18_Find_l1 k x1 x2 j (IntKind.i64.wrap (v4 + 1))))) else some (Flow.go ()))
def glacierref18_Find (k : Nat) (x1 : (List T_glacierref18_Entry)) (x2 : (List UInt8)) : Option (Int × Bool) := (Option.bind (glacierref18_Find_l1 k x1 x2 k (0 : Int)) fun y2 => (match y2 with | Flow.ret r => some r | Flow.go _ => some ((0 : Int), false)))
set_option maxRecDepth 100000 in
set_option maxHeartbeats 4000000 in
theorem glacierref18_Find_ok {G w : World} {F : List HP} {R : Ending → World → Prop} (k : Nat) (x1 : (List T_glacierref18_Entry)) (x2 : (List UInt8)) (a1 : Option Addr) (c1 : Nat) (r : (Int × Bool)) (hst : St G w (osl r_T_glacierref18_Entry 42 a1 c1 x1 :: F)) (hr : glacierref18_Find k x1 x2 = some r)
    (hR : ∀ w', St G w' (osl r_T_glacierref18_Entry 42 a1 c1 x1 :: F) → R (.returned (.tuple #[.int .u64 r.1, .bool r.2])) w') :
    Calls Try.prog 12 #[.slice a1 x1.length c1, S x2] w R := by
  unfold glacierref18_Find at hr
  refine enter Try.func12 rfl [(0, .slice a1 x1.length c1), (1, S x2)] rfl rfl fun b => ?_
  refine wp_seq ?_
  refine wp_reg ?_
  refine L_pure 2 [(0, .slice a1 x1.length c1), (1, S x2)] (by kernel_rfl) fun b => ?_
  refine wpL_nil ?_
  refine th_n ?_
  refine wp_seq ?_
  refine wp_seq ?_
  refine wp_reg ?_
  refine L_pure 3 [(1, S x2), (8, .slice a1 x1.length c1), (9, I (x1.length : Int)), (10, I 0)] (by kernel_rfl) fun b => ?_
  refine wpL_nil ?_
  refine th_n ?_
  obtain ⟨y2, hy2, hk2⟩ := bnd hr
  clear hr
  refine Go.Hx.wp_cut (fun a w => ∃ (z2 : Unit) (b : Nat → Value), y2 = .go z2 ∧ a = mkF 21 b [] ∧ St G w (osl r_T_glacierref18_Entry 42 a1 c1 x1 :: F)) ?_ ?_
  · rintro _ w ⟨z2, b, rfl, rfl, hst⟩
    have hr := hk2
    refine th_n ?_
    refine wp_seq ?_
    refine wp_reg ?_
    refine L_pure 2 [(4, .int .u64 0), (5, .bool false)] (by kernel_rfl) fun b => ?_
    refine wpL_nil ?_
    refine th_n ?_
    refine wp_ret ?_
    refine ret2 rfl rfl rfl ?_
    obtain rfl := Option.some.inj hr
    exact hR _ hst
  · refine wp_block ?_
    refine wp_loop_fuel (fun j a w => ∃ (v4 : Int) (b : Nat → Value), a = mkF 21 b [(1, S x2), (8, .slice a1 x1.length c1), (9, I (x1.length : Int)), (10, I v4)] ∧ St G w (osl r_T_glacierref18_Entry 42 a1 c1 x1 :: F) ∧ glacierref18_Find_l1 k x1 x2 j v4 = some y2) (k := k) ⟨(0 : Int), (kpX [(1, S x2), (8, .slice a1 x1.length c1), (9, I (x1.length : Int)), (10, I 0)] rfl ⟨hst, hy2⟩)⟩ ?_ ?_
    · rintro _ _ ⟨_, _, _, _, h⟩
      rw [glacierref18_Find_l1] at h
      cases h
    · rintro j _ w ⟨v4, b, rfl, hst, hr⟩
      rw [glacierref18_Find_l1] at hr
      refine wp_seq ?_
      refine wp_reg ?_
      refine L_pure 1 [(1, S x2), (8, .slice a1 x1.length c1), (9, I (x1.length : Int)), (10, I v4), (11, .bool (decide (v4 < (x1.length : Int))))] (by kernel_rfl) fun b => ?_
      refine wpL_nil ?_
      refine th_n ?_
      refine wp_seq ?_
      refine wp_cond_mkF (t := decide (v4 < (x1.length : Int))) rfl (fun h => ?_) (fun h => ?_)
      · have hr := (if_pos h).symm.trans hr
        refine wp_skip ?_
        refine th_n ?_
        refine wp_seq ?_
        refine wp_block ?_
        refine wp_seq ?_
        refine wp_reg ?_
        obtain ⟨x4, hx2, hr⟩ := bnd hr
        refine L_op rfl (O_run (v := pt (ab a1) (ao a1 + v4.toNat * 2)) (w' := w) (R_ia L38 rfl rfl (osl_addr hst hx2) (gt_some hx2).1 (gt_some hx2).2.1) rfl rfl ?_)
        obtain ⟨q2, hc2, hst⟩ := osl_cells hst hx2
        have hst := hst.drop
        refine L_op rfl (O_run (v := .agg #[S x4.Name, .int .u64 x4.V]) (w' := w) (R_loadAt (off := ao a1 + v4.toNat * 2) (j := 0) hc2 rfl rfl) rfl rfl ?_)
        refine L_op rfl (O_alloc (i := Try.t42) (z := .agg #[S ([]), .int .u64 0]) [S ([]), .int .u64 0] hst rfl rfl rfl rfl fun p2 w hst => ?_)
        refine L_op rfl (O_store [S x4.Name, .int .u64 x4.V] hst rfl rfl (by kernel_rfl) fun w hst => ?_)
        refine wpL_nil ?_
        refine th_n ?_
        refine wp_seq ?_
        refine wp_reg ?_
        refine L_pure 1 [(1, S x2), (7, pt p2 0), (8, .slice a1 x1.length c1), (9, I (x1.length : Int)), (10, I v4), (14, pt p2 0)] (by kernel_rfl) fun b => ?_
        refine L_op rfl (O_run (v := S x4.Name) (w' := w) (R_load hst rfl rfl) rfl rfl ?_)
        refine L_pure 2 [(1, S x2), (7, pt p2 0), (8, .slice a1 x1.length c1), (9, I (x1.length : Int)), (10, I v4), (17, .bool (sEq x4.Name x2))] (by kernel_rfl) fun b => ?_
        refine wpL_nil ?_
        refine th_n ?_
        refine wp_cond_mkF (t := (sEq x4.Name x2)) rfl (fun h => ?_) (fun h => ?_)
        · have hr := (if_pos h).symm.trans hr
          refine wp_seq ?_
          refine wp_reg ?_
          refine L_pure 1 [(18, pt p2 1)] (by kernel_rfl) fun b => ?_
          refine L_op rfl (O_run (v := .int .u64 x4.V) (w' := w) (R_load hst rfl rfl) rfl rfl ?_)
          refine L_pure 2 [(4, .int .u64 x4.V), (5, .bool true)] (by kernel_rfl) fun b => ?_
          refine wpL_nil ?_
          refine th_n ?_
          refine wp_ret ?_
          refine ib_r (th_r (th_r (ib_r (th_r (th_r ?_)))))
          refine ret2 rfl rfl rfl ?_
          obtain rfl := Option.some.inj hr
          obtain rfl := Option.some.inj hk2
          have hst := ((hst.pull 1).cut 1 1)
          exact hR _ hst
        · have hr := (if_neg (by rw [h]; exact Bool.false_ne_true)).symm.trans hr
          refine wp_skip ?_
          refine ib_n (th_n ?_)
          refine wp_reg ?_
          refine L_pure 2 [(1, S x2), (8, .slice a1 x1.length c1), (9, I (x1.length : Int)), (10, I (IntKind.i64.wrap (v4 + 1)))] (by kernel_rfl) fun b => ?_
          refine wpL_nil ?_
          refine th_n ?_
          have hst := ((hst.pull 1).cut 1 1)
          exact ⟨(IntKind.i64.wrap (v4 + 1)), (kpX [(1, S x2), (8, .slice a1 x1.length c1), (9, I (x1.length : Int)), (10, I (IntKind.i64.wrap (v4 + 1)))] rfl ⟨hst, hr⟩)⟩
      · have hr := (if_neg (by rw [h]; exact Bool.false_ne_true)).symm.trans hr
        refine wp_exit ?_
        refine th_x (th_x (ib_x (th_n ?_)))
        obtain rfl := Option.some.inj hr
        exact ⟨(), (kpXf [] rfl hst)⟩
def glacierlaw18_told_l1 (k : Nat) (x1 : (List T_history_Op)) : Nat → (List T_glacierref18_Op) → Int → Option ((List T_glacierref18_Op))
  | 0, _, _ => none
  | j + 1, v7, v8 => (if decide (v8 < (x1.length : Int)) = true then (Option.bind (gt x1 v8) fun x3 => (if room (v7.length + ([(T_glacierref18_Op.mk x3.Kind x3.Name x3.Value x3.Start x3.End x3.Err x3.Got x3.Names)]).length) 88 = true then (glacierlaw18_told_l1 k x1 j (v7 ++ ([(T_glacierref18_Op.mk x3.Kind x3.Name x3.Value x3.Start x3.End x3.Err x3.Got x3.Names)])) (IntKind.i64.wrap (v8 + 1))) else none)) else some (v7))
def glacierlaw18_told (k : Nat) (x1 : (List T_history_Op)) : Option ((List T_glacierref18_Op)) := (Option.bind (glacierlaw18_told_l1 k x1 k ([]) (0 : Int)) fun y2 => some (y2))
set_option maxRecDepth 100000 in
set_option maxHeartbeats 4000000 in
theorem glacierlaw18_told_ok {G w : World} {F : List HP} {R : Ending → World → Prop} (k : Nat) (x1 : (List T_history_Op)) (a1 : Option Addr) (c1 : Nat) (r : ((List T_glacierref18_Op))) (hst : St G w (osl r_T_history_Op 32 a1 c1 x1 :: F)) (hr : glacierlaw18_told k x1 = some r)
    (hR : ∀ (a6 : Option Addr) (c6 : Nat) w', St G w' (osl r_T_glacierref18_Op 46 a6 c6 r :: osl r_T_history_Op 32 a1 c1 x1 :: F) → R (.returned (.slice a6 r.length c6)) w') :
    Calls Try.prog 14 #[.slice a1 x1.length c1] w R := by
  unfold glacierlaw18_told at hr
  refine enter Try.func14 rfl [(0, .slice a1 x1.length c1)] rfl rfl fun b => ?_
  refine wp_seq ?_
  refine wp_reg ?_
  refine L_pure 1 [(0, .slice a1 x1.length c1)] (by kernel_rfl) fun b => ?_
  refine wpL_nil ?_
  refine th_n ?_
  refine wp_seq ?_
  refine wp_reg ?_
  refine L_op rfl (O_bs (T := 46) [] #[] hst (by kernel_rfl) (by kernel_rfl) rfl fun p4 w hst => ?_)
  have hst := osl_of_blk0 (ecs := []) r_T_glacierref18_Op [] rfl (fun m => trivial) rfl hst
  refine L_pure 1 [(0, .slice a1 x1.length c1), (3, .slice (some ⟨p4, 0, none⟩) 0 0)] (by kernel_rfl) fun b => ?_
  refine wpL_nil ?_
  refine th_n ?_
  refine wp_seq ?_
  refine wp_seq ?_
  refine wp_reg ?_
  refine L_pure 3 [(3, .slice (some ⟨p4, 0, none⟩) 0 0), (7, .slice a1 x1.length c1), (8, I (x1.length : Int)), (9, I 0)] (by kernel_rfl) fun b => ?_
  refine wpL_nil ?_
  refine th_n ?_
  obtain ⟨y2, hy2, hk2⟩ := bnd hr
  clear hr
  refine Go.Hx.wp_cut (fun a w => ∃ (a9 : Option Addr) (c9 : Nat)(b : Nat → Value), a = mkF 35 b [(3, .slice a9 y2.length c9)] ∧ St G w (osl r_T_glacierref18_Op 46 a9 c9 y2 :: osl r_T_history_Op 32 a1 c1 x1 :: F)) ?_ ?_
  · rintro _ w ⟨a9, c9, b, rfl, hst⟩
    have hr := hk2
    refine th_n ?_
    refine wp_seq ?_
    refine wp_reg ?_
    refine L_pure 2 [(2, .slice a9 y2.length c9)] (by kernel_rfl) fun b => ?_
    refine wpL_nil ?_
    refine th_n ?_
    refine wp_ret ?_
    refine ret1 rfl rfl ?_
    obtain rfl := Option.some.inj hr
    have hst := ((hst.pull 1).pull 1)
    exact hR a9 c9 _ hst
  · have hst := ((hst.pull 1).pull 1)
    refine wp_block ?_
    refine wp_loop_fuel (fun j a w => ∃ (v7 : (List T_glacierref18_Op)) (v8 : Int) (a7 : Option Addr) (c7 : Nat) (b : Nat → Value), a = mkF 35 b [(3, .slice a7 v7.length c7), (7, .slice a1 x1.length c1), (8, I (x1.length : Int)), (9, I v8)] ∧ St G w (osl r_T_glacierref18_Op 46 a7 c7 v7 :: osl r_T_history_Op 32 a1 c1 x1 :: F) ∧ glacierlaw18_told_l1 k x1 j v7 v8 = some y2) (k := k) ⟨[], (0 : Int), (some ⟨p4, 0, none⟩), 0, (kpX [(3, .slice (some ⟨p4, 0, none⟩) 0 0), (7, .slice a1 x1.length c1), (8, I (x1.length : Int)), (9, I 0)] rfl ⟨hst, hy2⟩)⟩ ?_ ?_
    · rintro _ _ ⟨_, _, _, _, _, _, _, h⟩
      rw [glacierlaw18_told_l1] at h
      cases h
    · rintro j _ w ⟨v7, v8, a7, c7, b, rfl, hst, hr⟩
      rw [glacierlaw18_told_l1] at hr
      refine wp_seq ?_
      refine wp_reg ?_
      refine L_pure 1 [(3, .slice a7 v7.length c7), (7, .slice a1 x1.length c1), (8, I (x1.length : Int)), (9, I v8), (10, .bool (decide (v8 < (x1.length : Int))))] (by kernel_rfl) fun b => ?_
      refine wpL_nil ?_
      refine th_n ?_
      refine wp_seq ?_
      refine wp_cond_mkF (t := decide (v8 < (x1.length : Int))) rfl (fun h => ?_) (fun h => ?_)
      · have hr := (if_pos h).symm.trans hr
        refine wp_skip ?_
        refine th_n ?_
        refine wp_seq ?_
        refine wp_block ?_
        refine wp_seq ?_
        refine wp_reg ?_
        obtain ⟨x3, hx2, hr⟩ := bnd hr
        refine L_op rfl (O_run (v := pt (ab a1) (ao a1 + v8.toNat * 8)) (w' := w) (R_ia L22 rfl rfl (osl_addr (hst.pull 1) hx2) (gt_some hx2).1 (gt_some hx2).2.1) rfl rfl ?_)
        obtain ⟨q2, hc2, hst⟩ := osl_cells (hst.pull 1) hx2
        refine L_op rfl (O_run (v := .agg #[I x3.Kind, S x3.Name, .int .u64 x3.Value, I x3.Start, I x3.End, I x3.Err, .int .u64 x3.Got, .slice q2.1 x3.Names.length q2.2]) (w' := w) (R_loadAt (off := ao a1 + v8.toNat * 8) (j := 0) hc2 rfl rfl) rfl rfl ?_)
        refine L_op rfl (O_alloc (i := Try.t32) (z := .agg #[I 0, S ([]), .int .u64 0, I 0, I 0, I 0, .int .u64 0, .slice none 0 0]) [I 0, S ([]), .int .u64 0, I 0, I 0, I 0, .int .u64 0, .slice none 0 0] hst rfl rfl rfl rfl fun p5 w hst => ?_)
        refine L_op rfl (O_store [I x3.Kind, S x3.Name, .int .u64 x3.Value, I x3.Start, I x3.End, I x3.Err, .int .u64 x3.Got, .slice q2.1 x3.Names.length q2.2] hst rfl rfl (by kernel_rfl) fun w hst => ?_)
        refine wpL_nil ?_
        refine th_n ?_
        refine wp_reg ?_
        refine L_pure 2 [(5, pt p5 0), (7, .slice a1 x1.length c1), (8, I (x1.length : Int)), (9, I v8), (13, .slice a7 v7.length c7), (14, pt p5 0)] (by kernel_rfl) fun b => ?_
        refine L_op rfl (O_run (v := I x3.Kind) (w' := w) (R_load hst rfl rfl) rfl rfl ?_)
        refine L_pure 1 [(5, pt p5 0), (7, .slice a1 x1.length c1), (8, I (x1.length : Int)), (9, I v8), (13, .slice a7 v7.length c7), (15, I x3.Kind), (16, pt p5 1)] (by kernel_rfl) fun b => ?_
        refine L_op rfl (O_run (v := S x3.Name) (w' := w) (R_load hst rfl rfl) rfl rfl ?_)
        refine L_pure 1 [(5, pt p5 0), (7, .slice a1 x1.length c1), (8, I (x1.length : Int)), (9, I v8), (13, .slice a7 v7.length c7), (15, I x3.Kind), (17, S x3.Name), (18, pt p5 2)] (by kernel_rfl) fun b => ?_
        refine L_op rfl (O_run (v := .int .u64 x3.Value) (w' := w) (R_load hst rfl rfl) rfl rfl ?_)
        refine L_pure 1 [(5, pt p5 0), (7, .slice a1 x1.length c1), (8, I (x1.length : Int)), (9, I v8), (13, .slice a7 v7.length c7), (15, I x3.Kind), (17, S x3.Name), (19, .int .u64 x3.Value), (20, pt p5 3)] (by kernel_rfl) fun b => ?_
        refine L_op rfl (O_run (v := I x3.Start) (w' := w) (R_load hst rfl rfl) rfl rfl ?_)
        refine L_pure 1 [(5, pt p5 0), (7, .slice a1 x1.length c1), (8, I (x1.length : Int)), (9, I v8), (13, .slice a7 v7.length c7), (15, I x3.Kind), (17, S x3.Name), (19, .int .u64 x3.Value), (21, I x3.Start), (22, pt p5 4)] (by kernel_rfl) fun b => ?_
        refine L_op rfl (O_run (v := I x3.End) (w' := w) (R_load hst rfl rfl) rfl rfl ?_)
        refine L_pure 1 [(5, pt p5 0), (7, .slice a1 x1.length c1), (8, I (x1.length : Int)), (9, I v8), (13, .slice a7 v7.length c7), (15, I x3.Kind), (17, S x3.Name), (19, .int .u64 x3.Value), (21, I x3.Start), (23, I x3.End), (24, pt p5 5)] (by kernel_rfl) fun b => ?_
        refine L_op rfl (O_run (v := I x3.Err) (w' := w) (R_load hst rfl rfl) rfl rfl ?_)
        refine L_pure 1 [(5, pt p5 0), (7, .slice a1 x1.length c1), (8, I (x1.length : Int)), (9, I v8), (13, .slice a7 v7.length c7), (15, I x3.Kind), (17, S x3.Name), (19, .int .u64 x3.Value), (21, I x3.Start), (23, I x3.End), (25, I x3.Err), (26, pt p5 6)] (by kernel_rfl) fun b => ?_
        refine L_op rfl (O_run (v := .int .u64 x3.Got) (w' := w) (R_load hst rfl rfl) rfl rfl ?_)
        refine L_pure 1 [(7, .slice a1 x1.length c1), (8, I (x1.length : Int)), (9, I v8), (13, .slice a7 v7.length c7), (15, I x3.Kind), (17, S x3.Name), (19, .int .u64 x3.Value), (21, I x3.Start), (23, I x3.End), (25, I x3.Err), (27, .int .u64 x3.Got), (28, pt p5 7)] (by kernel_rfl) fun b => ?_
        refine L_op rfl (O_run (v := .slice q2.1 x3.Names.length q2.2) (w' := w) (R_load hst rfl rfl) rfl rfl ?_)
        refine L_pure 1 [(7, .slice a1 x1.length c1), (8, I (x1.length : Int)), (9, I v8), (13, .slice a7 v7.length c7), (30, .agg #[I x3.Kind, S x3.Name, .int .u64 x3.Value, I x3.Start, I x3.End, I x3.Err, .int .u64 x3.Got, .slice q2.1 x3.Names.length q2.2])] (by kernel_rfl) fun b => ?_
        refine L_op rfl (O_bs (T := 46) [I x3.Kind, S x3.Name, .int .u64 x3.Value, I x3.Start, I x3.End, I x3.Err, .int .u64 x3.Got, .slice q2.1 x3.Names.length q2.2] #[(0, .agg #[I x3.Kind, S x3.Name, .int .u64 x3.Value, I x3.Start, I x3.End, I x3.Err, .int .u64 x3.Got, .slice q2.1 x3.Names.length q2.2])] hst (by kernel_rfl) (by kernel_rfl) rfl fun p6 w hst => ?_)
        have hst := (hst.pull 2).dup
        have hst := ((hst.pull 2).pull 1)
        have hst := osl_of_blk (ecs := [[I x3.Kind, S x3.Name, .int .u64 x3.Value, I x3.Start, I x3.End, I x3.Err, .int .u64 x3.Got, .slice q2.1 x3.Names.length q2.2]]) r_T_glacierref18_Op [(T_glacierref18_Op.mk x3.Kind x3.Name x3.Value x3.Start x3.End x3.Err x3.Got x3.Names)] rfl (fun m h => ⟨⟨((q2.1, q2.2)), rfl, h⟩, trivial⟩) rfl hst
        obtain ⟨hb2, hr⟩ := chk hr
        refine L_op rfl (O_app_o L47 (hst.pull 4) rfl rfl hb2 rfl fun a10 c10 w hst => ?_)
        refine L_pure 1 [(3, .slice a10 (v7 ++ ([(T_glacierref18_Op.mk x3.Kind x3.Name x3.Value x3.Start x3.End x3.Err x3.Got x3.Names)])).length c10), (7, .slice a1 x1.length c1), (8, I (x1.length : Int)), (9, I v8)] (by kernel_rfl) fun b => ?_
        refine wpL_nil ?_
        refine ib_n (th_n ?_)
        refine wp_reg ?_
        refine L_pure 2 [(3, .slice a10 (v7 ++ ([(T_glacierref18_Op.mk x3.Kind x3.Name x3.Value x3.Start x3.End x3.Err x3.Got x3.Names)])).length c10), (7, .slice a1 x1.length c1), (8, I (x1.length : Int)), (9, I (IntKind.i64.wrap (v8 + 1)))] (by kernel_rfl) fun b => ?_
        refine wpL_nil ?_
        refine th_n ?_
        have hst := (((hst.pull 4).pull 1).cut 2 3)
        exact ⟨(v7 ++ ([(T_glacierref18_Op.mk x3.Kind x3.Name x3.Value x3.Start x3.End x3.Err x3.Got x3.Names)])), (IntKind.i64.wrap (v8 + 1)), a10, c10, (kpX [(3, .slice a10 (v7 ++ ([(T_glacierref18_Op.mk x3.Kind x3.Name x3.Value x3.Start x3.End x3.Err x3.Got x3.Names)])).length c10), (7, .slice a1 x1.length c1), (8, I (x1.length : Int)), (9, I (IntKind.i64.wrap (v8 + 1)))] rfl ⟨hst, hr⟩)⟩
      · have hr := (if_neg (by rw [h]; exact Bool.false_ne_true)).symm.trans hr
        refine wp_exit ?_
        refine th_x (th_x (ib_x (th_n ?_)))
        obtain rfl := Option.some.inj hr
        have hst := ((hst.pull 1).pull 1)
        exact ⟨a7, c7, (kpX [(3, .slice a7 v7.length c7)] rfl hst)⟩
def glacierref18_Put_l1 (k : Nat) (x1 : (List T_glacierref18_Entry)) (x2 : T_glacierref18_Entry) : Nat → (List T_glacierref18_Entry) → Bool → Int → Option ((List T_glacierref18_Entry) × Bool)
  | 0, _, _, _ => none
  | j + 1, v10, v11, v12 => (if decide (v12 < (x1.length : Int)) = true then (Option.bind (Option.bind (gt x1 v12) fun x5 => (Option.bind (Option.bind (if (!v11) = true then some ((!sLt x5.Name x2.Name)) else some (false)) fun y9 => (if y9 = true then (if room (v10.length + ([x2]).length) 24 = true then some ((v10 ++ ([x2])), true) else none) else some (v10, v11))) fun y8 => (if (!sEq x5.Name x2.Name) = true then (if room (y8.1.length + ([x5]).length) 24 = true then some ((y8.1 ++ ([x5])), y8.2) else none) else some (y8.1, y8.2)))) fun y7 => (glacierref18_Put_l1 k x1 x2 j y7.1 y7.2 (IntKind.i64.wrap (v12 + 1)))) else some (v10, v11))
def glacierref18_Put (k : Nat) (x1 : (List T_glacierref18_Entry)) (x2 : T_glacierref18_Entry) (x3 : Bool) : Option ((List T_glacierref18_Entry)) := (Option.bind (glacierref18_Put_l1 k x1 x2 k ([]) (!x3) (0 : Int)) fun y6 => (Option.bind (if (!y6.2) = true then (if room (y6.1.length + ([x2]).length) 24 = true then some ((y6.1 ++ ([x2]))) else none) else some (y6.1)) fun y10 => some (y10)))
set_option maxRecDepth 100000 in
set_option maxHeartbeats 4000000 in
theorem glacierref18_Put_ok {G w : World} {F : List HP} {R : Ending → World → Prop} (k : Nat) (x1 : (List T_glacierref18_Entry)) (x2 : T_glacierref18_Entry) (x3 : Bool) (a1 : Option Addr) (c1 : Nat) (r : ((List T_glacierref18_Entry))) (hst : St G w (osl r_T_glacierref18_Entry 42 a1 c1 x1 :: F)) (hr : glacierref18_Put k x1 x2 x3 = some r)
    (hR : ∀ (a11 : Option Addr) (c11 : Nat) w', St G w' (osl r_T_glacierref18_Entry 42 a11 c11 r :: osl r_T_glacierref18_Entry 42 a1 c1 x1 :: F) → R (.returned (.slice a11 r.length c11)) w') :
    Calls Try.prog 17 #[.slice a1 x1.length c1, .agg #[S x2.Name, .int .u64 x2.V], .bool x3] w R := by
  unfold glacierref18_Put at hr
  refine enter Try.func17 rfl [(0, .slice a1 x1.length c1), (1, .agg #[S x2.Name, .int .u64 x2.V]), (2, .bool x3)] rfl rfl fun b => ?_
  refine wp_seq ?_
  refine wp_reg ?_
  refine L_op rfl (O_box [S x2.Name, .int .u64 x2.V] hst rfl rfl fun p7 w hst => ?_)
  refine L_pure 1 [(0, .slice a1 x1.length c1), (2, .bool x3), (4, pt p7 0)] (by kernel_rfl) fun b => ?_
  refine wpL_nil ?_
  refine th_n ?_
  refine wp_seq ?_
  refine wp_reg ?_
  refine L_op rfl (O_bs (T := 42) [] #[] hst (by kernel_rfl) (by kernel_rfl) rfl fun p8 w hst => ?_)
  have hst := osl_of_blk0 (ecs := []) r_T_glacierref18_Entry [] rfl (fun m => trivial) rfl hst
  refine L_pure 1 [(0, .slice a1 x1.length c1), (2, .bool x3), (4, pt p7 0), (7, .slice (some ⟨p8, 0, none⟩) 0 0)] (by kernel_rfl) fun b => ?_
  refine wpL_nil ?_
  refine th_n ?_
  refine wp_seq ?_
  refine wp_reg ?_
  refine L_pure 3 [(0, .slice a1 x1.length c1), (4, pt p7 0), (7, .slice (some ⟨p8, 0, none⟩) 0 0), (8, .bool (!x3))] (by kernel_rfl) fun b => ?_
  refine wpL_nil ?_
  refine th_n ?_
  refine wp_seq ?_
  refine wp_seq ?_
  refine wp_reg ?_
  refine L_pure 3 [(4, pt p7 0), (7, .slice (some ⟨p8, 0, none⟩) 0 0), (8, .bool (!x3)), (14, .slice a1 x1.length c1), (15, I (x1.length : Int)), (16, I 0)] (by kernel_rfl) fun b => ?_
  refine wpL_nil ?_
  refine th_n ?_
  obtain ⟨y6, hy6, hk6⟩ := bnd hr
  clear hr
  refine Go.Hx.wp_cut (fun a w => ∃ (a14 : Option Addr) (c14 : Nat)(b : Nat → Value), a = mkF 50 b [(4, pt p7 0), (7, .slice a14 y6.1.length c14), (8, .bool y6.2)] ∧ St G w (osl r_T_glacierref18_Entry 42 a14 c14 y6.1 :: blk p7 (cl [S x2.Name, .int .u64 x2.V] 42) :: osl r_T_glacierref18_Entry 42 a1 c1 x1 :: F)) ?_ ?_
  · rintro _ w ⟨a14, c14, b, rfl, hst⟩
    have hr := hk6
    refine th_n ?_
    obtain ⟨y10, hy10, hk10⟩ := bnd hr
    clear hr
    refine wp_seq_cut (fun a w => ∃ (a19 : Option Addr) (c19 : Nat)(b : Nat → Value), a = mkF 50 b [(7, .slice a19 y10.length c19)] ∧ St G w (osl r_T_glacierref18_Entry 42 a19 c19 y10 :: blk p7 (cl [S x2.Name, .int .u64 x2.V] 42) :: osl r_T_glacierref18_Entry 42 a1 c1 x1 :: F)) ?_ ?_
    · rintro _ w ⟨a19, c19, b, rfl, hst⟩
      have hr := hk10
      refine wp_seq ?_
      refine wp_reg ?_
      refine L_pure 2 [(6, .slice a19 y10.length c19)] (by kernel_rfl) fun b => ?_
      refine wpL_nil ?_
      refine th_n ?_
      refine wp_ret ?_
      refine ret1 rfl rfl ?_
      obtain rfl := Option.some.inj hr
      have hst := (((hst.pull 2).pull 1).cut 2 1)
      exact hR a19 c19 _ hst
    · have hr := hy10
      refine wp_seq ?_
      refine wp_reg ?_
      refine L_pure 2 [(4, pt p7 0), (7, .slice a14 y6.1.length c14), (44, .bool (!y6.2))] (by kernel_rfl) fun b => ?_
      refine wpL_nil ?_
      refine th_n ?_
      refine wp_cond_mkF (t := (!y6.2)) rfl (fun h => ?_) (fun h => ?_)
      · have hr := (if_pos h).symm.trans hr
        refine wp_reg ?_
        refine L_pure 1 [(4, pt p7 0), (45, .slice a14 y6.1.length c14)] (by kernel_rfl) fun b => ?_
        refine L_op rfl (O_run (v := .agg #[S x2.Name, .int .u64 x2.V]) (w' := w) (R_load (hst.pull 1) rfl rfl) rfl rfl ?_)
        refine L_op rfl (O_bs (T := 42) [S x2.Name, .int .u64 x2.V] #[(0, .agg #[S x2.Name, .int .u64 x2.V])] hst (by kernel_rfl) (by kernel_rfl) rfl fun p12 w hst => ?_)
        have hst := osl_of_blk0 (ecs := [[S x2.Name, .int .u64 x2.V]]) r_T_glacierref18_Entry [x2] rfl (fun m => ⟨⟨(), rfl, trivial⟩, trivial⟩) rfl hst
        obtain ⟨hb6, hr⟩ := chk hr
        refine L_op rfl (O_app_o L38 (hst.pull 1) rfl rfl hb6 rfl fun a20 c20 w hst => ?_)
        refine L_pure 1 [(7, .slice a20 (y6.1 ++ ([x2])).length c20)] (by kernel_rfl) fun b => ?_
        refine wpL_nil ?_
        refine th_n ?_
        obtain rfl := Option.some.inj hr
        have hst := ((((hst.pull 3).pull 3).pull 2).cut 3 1)
        exact ⟨a20, c20, (kpX [(7, .slice a20 (y6.1 ++ ([x2])).length c20)] rfl hst)⟩
      · have hr := (if_neg (by rw [h]; exact Bool.false_ne_true)).symm.trans hr
        refine wp_skip ?_
        refine th_n ?_
        obtain rfl := Option.some.inj hr
        have hst := (((hst.pull 2).pull 2).pull 2)
        exact ⟨a14, c14, (kpX [(7, .slice a14 y6.1.length c14)] rfl hst)⟩
  · have hst := (((hst.pull 2).pull 2).pull 2)
    refine wp_block ?_
    refine wp_loop_fuel (fun j a w => ∃ (v10 : (List T_glacierref18_Entry)) (v11 : Bool) (v12 : Int) (a12 : Option Addr) (c12 : Nat) (b : Nat → Value), a = mkF 50 b [(4, pt p7 0), (7, .slice a12 v10.length c12), (8, .bool v11), (14, .slice a1 x1.length c1), (15, I (x1.length : Int)), (16, I v12)] ∧ St G w (osl r_T_glacierref18_Entry 42 a12 c12 v10 :: blk p7 (cl [S x2.Name, .int .u64 x2.V] 42) :: osl r_T_glacierref18_Entry 42 a1 c1 x1 :: F) ∧ glacierref18_Put_l1 k x1 x2 j v10 v11 v12 = some y6) (k := k) ⟨[], (!x3), (0 : Int), (some ⟨p8, 0, none⟩), 0, (kpX [(4, pt p7 0), (7, .slice (some ⟨p8, 0, none⟩) 0 0), (8, .bool (!x3)), (14, .slice a1 x1.length c1), (15, I (x1.length : Int)), (16, I 0)] rfl ⟨hst, hy6⟩)⟩ ?_ ?_
    · rintro _ _ ⟨_, _, _, _, _, _, _, _, h⟩
      rw [glacierref18_Put_l1] at h
      cases h
    · rintro j _ w ⟨v10, v11, v12, a12, c12, b, rfl, hst, hr⟩
      rw [glacierref18_Put_l1] at hr
      refine wp_seq ?_
      refine wp_reg ?_
      refine L_pure 1 [(4, pt p7 0), (7, .slice a12 v10.length c12), (8, .bool v11), (14, .slice a1 x1.length c1), (15, I (x1.length : Int)), (16, I v12), (17, .bool (decide (v12 < (x1.length : Int))))] (by kernel_rfl) fun b => ?_
      refine wpL_nil ?_
      refine th_n ?_
      refine wp_seq ?_
      refine wp_cond_mkF (t := decide (v12 < (x1.length : Int))) rfl (fun h => ?_) (fun h => ?_)
      · have hr := (if_pos h).symm.trans hr
        refine wp_skip ?_
        refine th_n ?_
        obtain ⟨y7, hy7, hk7⟩ := bnd hr
        clear hr
        refine wp_seq_cut (fun a w => ∃ (a15 : Option Addr) (c15 : Nat)(b : Nat → Value), a = mkF 50 b [(4, pt p7 0), (7, .slice a15 y7.1.length c15), (8, .bool y7.2), (14, .slice a1 x1.length c1), (15, I (x1.length : Int)), (16, I v12)] ∧ St G w (osl r_T_glacierref18_Entry 42 a15 c15 y7.1 :: osl r_T_glacierref18_Entry 42 a1 c1 x1 :: blk p7 (cl [S x2.Name, .int .u64 x2.V] 42) :: F)) ?_ ?_
        · rintro _ w ⟨a15, c15, b, rfl, hst⟩
          have hr := hk7
          refine wp_reg ?_
          refine L_pure 2 [(4, pt p7 0), (7, .slice a15 y7.1.length c15), (8, .bool y7.2), (14, .slice a1 x1.length c1), (15, I (x1.length : Int)), (16, I (IntKind.i64.wrap (v12 + 1)))] (by kernel_rfl) fun b => ?_
          refine wpL_nil ?_
          refine th_n ?_
          have hst := (((hst.pull 1).pull 2).pull 2)
          exact ⟨y7.1, y7.2, (IntKind.i64.wrap (v12 + 1)), a15, c15, (kpX [(4, pt p7 0), (7, .slice a15 y7.1.length c15), (8, .bool y7.2), (14, .slice a1 x1.length c1), (15, I (x1.length : Int)), (16, I (IntKind.i64.wrap (v12 + 1)))] rfl ⟨hst, hr⟩)⟩
        · have hr := hy7
          refine wp_block ?_
          refine wp_seq ?_
          refine wp_reg ?_
          obtain ⟨x5, hx2, hr⟩ := bnd hr
          refine L_op rfl (O_run (v := pt (ab a1) (ao a1 + v12.toNat * 2)) (w' := w) (R_ia L38 rfl rfl (osl_addr (hst.pull 2) hx2) (gt_some hx2).1 (gt_some hx2).2.1) rfl rfl ?_)
          obtain ⟨q2, hc2, hst⟩ := osl_cells (hst.pull 2) hx2
          have hst := hst.drop
          refine L_op rfl (O_run (v := .agg #[S x5.Name, .int .u64 x5.V]) (w' := w) (R_loadAt (off := ao a1 + v12.toNat * 2) (j := 0) hc2 rfl rfl) rfl rfl ?_)
          refine L_op rfl (O_alloc (i := Try.t42) (z := .agg #[S ([]), .int .u64 0]) [S ([]), .int .u64 0] hst rfl rfl rfl rfl fun p9 w hst => ?_)
          refine L_op rfl (O_store [S x5.Name, .int .u64 x5.V] hst rfl rfl (by kernel_rfl) fun w hst => ?_)
          refine wpL_nil ?_
          refine th_n ?_
          obtain ⟨y8, hy8, hk8⟩ := bnd hr
          clear hr
          refine wp_seq_cut (fun a w => ∃ (a16 : Option Addr) (c16 : Nat)(b : Nat → Value), a = mkF 50 b [(4, pt p7 0), (7, .slice a16 y8.1.length c16), (8, .bool y8.2), (10, pt p9 0), (14, .slice a1 x1.length c1), (15, I (x1.length : Int)), (16, I v12)] ∧ St G w (osl r_T_glacierref18_Entry 42 a16 c16 y8.1 :: blk p9 (cl [S x5.Name, .int .u64 x5.V] 42) :: osl r_T_glacierref18_Entry 42 a1 c1 x1 :: blk p7 (cl [S x2.Name, .int .u64 x2.V] 42) :: F)) ?_ ?_
          · rintro _ w ⟨a16, c16, b, rfl, hst⟩
            have hr := hk8
            refine wp_seq ?_
            refine wp_reg ?_
            refine L_pure 1 [(4, pt p7 0), (7, .slice a16 y8.1.length c16), (8, .bool y8.2), (10, pt p9 0), (14, .slice a1 x1.length c1), (15, I (x1.length : Int)), (16, I v12), (33, pt p9 0)] (by kernel_rfl) fun b => ?_
            refine L_op rfl (O_run (v := S x5.Name) (w' := w) (R_load (hst.pull 1) rfl rfl) rfl rfl ?_)
            refine L_pure 1 [(4, pt p7 0), (7, .slice a16 y8.1.length c16), (8, .bool y8.2), (10, pt p9 0), (14, .slice a1 x1.length c1), (15, I (x1.length : Int)), (16, I v12), (34, S x5.Name), (35, pt p7 0)] (by kernel_rfl) fun b => ?_
            refine L_op rfl (O_run (v := S x2.Name) (w' := w) (R_load (hst.pull 3) rfl rfl) rfl rfl ?_)
            refine L_pure 1 [(4, pt p7 0), (7, .slice a16 y8.1.length c16), (8, .bool y8.2), (10, pt p9 0), (14, .slice a1 x1.length c1), (15, I (x1.length : Int)), (16, I v12), (37, .bool (!sEq x5.Name x2.Name))] (by kernel_rfl) fun b => ?_
            refine wpL_nil ?_
            refine th_n ?_
            refine wp_cond_mkF (t := (!sEq x5.Name x2.Name)) rfl (fun h => ?_) (fun h => ?_)
            · have hr := (if_pos h).symm.trans hr
              refine wp_reg ?_
              refine L_pure 1 [(4, pt p7 0), (8, .bool y8.2), (10, pt p9 0), (14, .slice a1 x1.length c1), (15, I (x1.length : Int)), (16, I v12), (38, .slice a16 y8.1.length c16)] (by kernel_rfl) fun b => ?_
              refine L_op rfl (O_run (v := .agg #[S x5.Name, .int .u64 x5.V]) (w' := w) (R_load (hst.pull 1) rfl rfl) rfl rfl ?_)
              refine L_op rfl (O_bs (T := 42) [S x5.Name, .int .u64 x5.V] #[(0, .agg #[S x5.Name, .int .u64 x5.V])] hst (by kernel_rfl) (by kernel_rfl) rfl fun p11 w hst => ?_)
              have hst := osl_of_blk0 (ecs := [[S x5.Name, .int .u64 x5.V]]) r_T_glacierref18_Entry [x5] rfl (fun m => ⟨⟨(), rfl, trivial⟩, trivial⟩) rfl hst
              obtain ⟨hb5, hr⟩ := chk hr
              refine L_op rfl (O_app_o L38 (hst.pull 1) rfl rfl hb5 rfl fun a18 c18 w hst => ?_)
              refine L_pure 1 [(4, pt p7 0), (7, .slice a18 (y8.1 ++ ([x5])).length c18), (8, .bool y8.2), (14, .slice a1 x1.length c1), (15, I (x1.length : Int)), (16, I v12)] (by kernel_rfl) fun b => ?_
              refine wpL_nil ?_
              refine ib_n (th_n ?_)
              obtain rfl := Option.some.inj hr
              have hst := ((((hst.pull 4).pull 4).pull 2).cut 3 2)
              exact ⟨a18, c18, (kpX [(4, pt p7 0), (7, .slice a18 (y8.1 ++ ([x5])).length c18), (8, .bool y8.2), (14, .slice a1 x1.length c1), (15, I (x1.length : Int)), (16, I v12)] rfl hst)⟩
            · have hr := (if_neg (by rw [h]; exact Bool.false_ne_true)).symm.trans hr
              refine wp_skip ?_
              refine ib_n (th_n ?_)
              obtain rfl := Option.some.inj hr
              have hst := ((((hst.pull 3).pull 3).pull 2).cut 3 1)
              exact ⟨a16, c16, (kpX [(4, pt p7 0), (7, .slice a16 y8.1.length c16), (8, .bool y8.2), (14, .slice a1 x1.length c1), (15, I (x1.length : Int)), (16, I v12)] rfl hst)⟩
          · have hr := hy8
            obtain ⟨y9, hy9, hk9⟩ := bnd hr
            clear hr
            refine wp_seq_cut (fun a w => ∃ (b : Nat → Value), a = mkF 50 b [(4, pt p7 0), (7, .slice a12 v10.length c12), (8, .bool v11), (10, pt p9 0), (14, .slice a1 x1.length c1), (15, I (x1.length : Int)), (16, I v12), (28, .bool y9)] ∧ St G w (blk p9 (cl [S x5.Name, .int .u64 x5.V] 42) :: osl r_T_glacierref18_Entry 42 a1 c1 x1 :: osl r_T_glacierref18_Entry 42 a12 c12 v10 :: blk p7 (cl [S x2.Name, .int .u64 x2.V] 42) :: F)) ?_ ?_
            · rintro _ w ⟨b, rfl, hst⟩
              have hr := hk9
              refine wp_cond_mkF (t := y9) rfl (fun h => ?_) (fun h => ?_)
              · have hr := (if_pos h).symm.trans hr
                refine wp_seq ?_
                refine wp_reg ?_
                refine L_pure 1 [(4, pt p7 0), (10, pt p9 0), (14, .slice a1 x1.length c1), (15, I (x1.length : Int)), (16, I v12), (29, .slice a12 v10.length c12)] (by kernel_rfl) fun b => ?_
                refine L_op rfl (O_run (v := .agg #[S x2.Name, .int .u64 x2.V]) (w' := w) (R_load (hst.pull 3) rfl rfl) rfl rfl ?_)
                refine L_op rfl (O_bs (T := 42) [S x2.Name, .int .u64 x2.V] #[(0, .agg #[S x2.Name, .int .u64 x2.V])] hst (by kernel_rfl) (by kernel_rfl) rfl fun p10 w hst => ?_)
                have hst := osl_of_blk0 (ecs := [[S x2.Name, .int .u64 x2.V]]) r_T_glacierref18_Entry [x2] rfl (fun m => ⟨⟨(), rfl, trivial⟩, trivial⟩) rfl hst
                obtain ⟨hb4, hr⟩ := chk hr
                refine L_op rfl (O_app_o L38 (hst.pull 3) rfl rfl hb4 rfl fun a17 c17 w hst => ?_)
                refine L_pure 1 [(4, pt p7 0), (7, .slice a17 (v10 ++ ([x2])).length c17), (10, pt p9 0), (14, .slice a1 x1.length c1), (15, I (x1.length : Int)), (16, I v12)] (by kernel_rfl) fun b => ?_
                refine wpL_nil ?_
                refine th_n ?_
                refine wp_reg ?_
                refine L_pure 1 [(4, pt p7 0), (7, .slice a17 (v10 ++ ([x2])).length c17), (8, .bool true), (10, pt p9 0), (14, .slice a1 x1.length c1), (15, I (x1.length : Int)), (16, I v12)] (by kernel_rfl) fun b => ?_
                refine wpL_nil ?_
                refine th_n ?_
                obtain rfl := Option.some.inj hr
                have hst := (((((hst.pull 4).pull 4).pull 4).pull 3).cut 4 1)
                exact ⟨a17, c17, (kpX [(4, pt p7 0), (7, .slice a17 (v10 ++ ([x2])).length c17), (8, .bool true), (10, pt p9 0), (14, .slice a1 x1.length c1), (15, I (x1.length : Int)), (16, I v12)] rfl hst)⟩
              · have hr := (if_neg (by rw [h]; exact Bool.false_ne_true)).symm.trans hr
                refine wp_skip ?_
                refine th_n ?_
                obtain rfl := Option.some.inj hr
                have hst := ((((hst.pull 3).pull 2).pull 2).pull 3)
                exact ⟨a12, c12, (kpX [(4, pt p7 0), (7, .slice a12 v10.length c12), (8, .bool v11), (10, pt p9 0), (14, .slice a1 x1.length c1), (15, I (x1.length : Int)), (16, I v12)] rfl hst)⟩
            · have hr := hy9
              refine wp_reg ?_
              refine L_pure 3 [(4, pt p7 0), (7, .slice a12 v10.length c12), (8, .bool v11), (10, pt p9 0), (14, .slice a1 x1.length c1), (15, I (x1.length : Int)), (16, I v12), (22, .bool (!v11))] (by kernel_rfl) fun b => ?_
              by_cases h : (!v11) = true
              · have hr := (if_pos h).symm.trans hr
                refine L_keep ((22, .bool (!v11)) :: [(4, pt p7 0), (7, .slice a12 v10.length c12), (8, .bool v11), (10, pt p9 0), (14, .slice a1 x1.length c1), (15, I (x1.length : Int)), (16, I v12)]) rfl fun b => ?_
                refine L_bool h ?_
                refine L_pure 1 [(4, pt p7 0), (7, .slice a12 v10.length c12), (8, .bool v11), (10, pt p9 0), (14, .slice a1 x1.length c1), (15, I (x1.length : Int)), (16, I v12), (22, .bool true), (23, pt p9 0)] (by kernel_rfl) fun b => ?_
                refine L_op rfl (O_run (v := S x5.Name) (w' := w) (R_load hst rfl rfl) rfl rfl ?_)
                refine L_pure 1 [(4, pt p7 0), (7, .slice a12 v10.length c12), (8, .bool v11), (10, pt p9 0), (14, .slice a1 x1.length c1), (15, I (x1.length : Int)), (16, I v12), (22, .bool true), (24, S x5.Name), (25, pt p7 0)] (by kernel_rfl) fun b => ?_
                refine L_op rfl (O_run (v := S x2.Name) (w' := w) (R_load (hst.pull 3) rfl rfl) rfl rfl ?_)
                refine L_pure 2 [(4, pt p7 0), (7, .slice a12 v10.length c12), (8, .bool v11), (10, pt p9 0), (14, .slice a1 x1.length c1), (15, I (x1.length : Int)), (16, I v12), (28, .bool (!sLt x5.Name x2.Name))] (by kernel_rfl) fun b => ?_
                refine wpL_nil ?_
                refine th_n ?_
                obtain rfl := Option.some.inj hr
                have hst := ((((hst.pull 3).pull 3).pull 3).pull 3)
                exact (kpX [(4, pt p7 0), (7, .slice a12 v10.length c12), (8, .bool v11), (10, pt p9 0), (14, .slice a1 x1.length c1), (15, I (x1.length : Int)), (16, I v12), (28, .bool (!sLt x5.Name x2.Name))] rfl hst)
              · have hr := (if_neg h).symm.trans hr
                refine L_keep ((22, .bool (!v11)) :: [(4, pt p7 0), (7, .slice a12 v10.length c12), (8, .bool v11), (10, pt p9 0), (14, .slice a1 x1.length c1), (15, I (x1.length : Int)), (16, I v12)]) rfl fun b => ?_
                refine L_bool (eq_false_of_ne_true h) ?_
                refine L_pure 6 [(4, pt p7 0), (7, .slice a12 v10.length c12), (8, .bool v11), (10, pt p9 0), (14, .slice a1 x1.length c1), (15, I (x1.length : Int)), (16, I v12), (28, .bool false)] (by kernel_rfl) fun b => ?_
                refine wpL_nil ?_
                refine th_n ?_
                obtain rfl := Option.some.inj hr
                have hst := ((((hst.pull 3).pull 3).pull 3).pull 3)
                exact (kpX [(4, pt p7 0), (7, .slice a12 v10.length c12), (8, .bool v11), (10, pt p9 0), (14, .slice a1 x1.length c1), (15, I (x1.length : Int)), (16, I v12), (28, .bool false)] rfl hst)
      · have hr := (if_neg (by rw [h]; exact Bool.false_ne_true)).symm.trans hr
        refine wp_exit ?_
        refine th_x (th_x (ib_x (th_n ?_)))
        obtain rfl := Option.some.inj hr
        have hst := (((hst.pull 2).pull 2).pull 2)
        exact ⟨a12, c12, (kpX [(4, pt p7 0), (7, .slice a12 v10.length c12), (8, .bool v11)] rfl hst)⟩
def glacierref18_Do_l1 (k : Nat) (x1 : (List T_glacierref18_Entry)) (x2 : T_glacierref18_Op) : Nat → Bool → Int → Option (Bool)
  | 0, _, _ => none
  | j + 1, v7, v8 => (if decide (v8 < (x1.length : Int)) = true then (if v7 = true then (Option.bind (gt x2.Names v8) fun x5 => (Option.bind (gt x1 v8) fun x6 => (glacierref18_Do_l1 k x1 x2 j (sEq x5 x6.Name) (IntKind.i64.wrap (v8 + 1))))) else (glacierref18_Do_l1 k x1 x2 j false (IntKind.i64.wrap (v8 + 1)))) else some (v7))
def glacierref18_Do (k : Nat) (x1 : (List T_glacierref18_Entry)) (x2 : T_glacierref18_Op) : Option ((List T_glacierref18_Entry) × Bool) := (Option.bind (glacierref18_Find k x1 x2.Name) fun y9 => (Option.bind (if (x2.Kind == 1) = true then (Option.bind (glacierref18_Put k x1 (T_glacierref18_Entry.mk x2.Name x2.Value) true) fun y11 => some (y11, (x2.Err == 0))) else (Option.bind (if (x2.Kind == 2) = true then some ((x2.Kind == 2)) else some ((x2.Kind == 5))) fun y12 => (if y12 = true then (if y9.2 = true then (if (x2.Err == 0) = true then (if (x2.Got == y9.1) = true then some (x1, true) else (if (!y9.2) = true then some (x1, (x2.Err == 5)) else some (x1, false))) else (if (!y9.2) = true then some (x1, (x2.Err == 5)) else some (x1, false))) else (if (!y9.2) = true then some (x1, (x2.Err == 5)) else some (x1, false))) else (if (x2.Kind == 3) = true then (Option.bind (glacierref18_Put k x1 (T_glacierref18_Entry.mk x2.Name 0) false) fun y13 => (if y9.2 = true then (if (x2.Err == 0) = true then some (y13, true) else (if (!y9.2) = true then some (y13, (x2.Err == 5)) else some (y13, false))) else (if (!y9.2) = true then some (y13, (x2.Err == 5)) else some (y13, false)))) else (if (x2.Kind == 4) = true then (Option.bind (if (x2.Err == 0) = true then some (((x2.Names.length : Int) == (x1.length : Int))) else some (false)) fun y14 => (Option.bind (glacierref18_Do_l1 k x1 x2 k y14 (0 : Int)) fun y15 => some (x1, y15))) else some (x1, false)))))) fun y10 => (Option.bind (if y10.2 = true then some (true) else some (decide (x2.End < 0))) fun y16 => some (y10.1, y16))))
set_option maxRecDepth 100000 in
set_option maxHeartbeats 4000000 in
theorem glacierref18_Do_ok {G w : World} {F : List HP} {R : Ending → World → Prop} (k : Nat) (x1 : (List T_glacierref18_Entry)) (x2 : T_glacierref18_Op) (a1 : Option Addr) (c1 : Nat) (a2 : Option Addr) (c2 : Nat) (r : ((List T_glacierref18_Entry) × Bool)) (hst : St G w (osl r_T_glacierref18_Entry 42 a1 c1 x1 :: dsl rS a2 c2 x2.Names :: F)) (hr : glacierref18_Do k x1 x2 = some r)
    (hR : ∀ (a6 : Option Addr) (c6 : Nat) w', St G w' (osl r_T_glacierref18_Entry 42 a6 c6 r.1 :: dsl rS a2 c2 x2.Names :: F) → R (.returned (.tuple #[.slice a6 r.1.length c6, .bool r.2])) w') :
    Calls Try.prog 13 #[.slice a1 x1.length c1, .agg #[I x2.Kind, S x2.Name, .int .u64 x2.Value, I x2.Start, I x2.End, I x2.Err, .int .u64 x2.Got, .slice a2 x2.Names.length c2]] w R := by
  unfold glacierref18_Do at hr
  refine enter Try.func13 rfl [(0, .slice a1 x1.length c1), (1, .agg #[I x2.Kind, S x2.Name, .int .u64 x2.Value, I x2.Start, I x2.End, I x2.Err, .int .u64 x2.Got, .slice a2 x2.Names.length c2])] rfl rfl fun b => ?_
  refine wp_seq ?_
  refine wp_reg ?_
  refine L_op rfl (O_box [I x2.Kind, S x2.Name, .int .u64 x2.Value, I x2.Start, I x2.End, I x2.Err, .int .u64 x2.Got, .slice a2 x2.Names.length c2] hst rfl rfl fun p2 w hst => ?_)
  refine L_pure 2 [(0, .slice a1 x1.length c1), (3, pt p2 0)] (by kernel_rfl) fun b => ?_
  refine wpL_nil ?_
  refine th_n ?_
  refine wp_seq ?_
  refine wp_reg ?_
  refine L_pure 2 [(0, .slice a1 x1.length c1), (3, pt p2 0), (11, .slice a1 x1.length c1), (12, pt p2 1)] (by kernel_rfl) fun b => ?_
  refine L_op rfl (O_run (v := S x2.Name) (w' := w) (R_load hst rfl rfl) rfl rfl ?_)
  obtain ⟨y9, hy9, hr⟩ := bnd hr
  refine L_op rfl (O_call (vs := #[.slice a1 x1.length c1, S x2.Name]) Try.call12 (by kernel_rfl) (glacierref18_Find_ok k x1 x2.Name a1 c1 y9 (hst.pull 1) hy9 fun w hst => ?_))
  refine CK_ret rfl ?_
  refine L_pure 5 [(0, .slice a1 x1.length c1), (3, pt p2 0), (6, .int .u64 y9.1), (7, .bool y9.2)] (by kernel_rfl) fun b => ?_
  refine wpL_nil ?_
  refine th_n ?_
  refine wp_seq ?_
  refine wp_reg ?_
  refine L_pure 1 [(0, .slice a1 x1.length c1), (3, pt p2 0), (6, .int .u64 y9.1), (7, .bool y9.2), (8, .bool false)] (by kernel_rfl) fun b => ?_
  refine wpL_nil ?_
  refine th_n ?_
  obtain ⟨y10, hy10, hk6⟩ := bnd hr
  clear hr
  refine wp_seq_cut (fun a w => ∃ (a7 : Option Addr) (c7 : Nat)(b : Nat → Value), a = mkF 117 b [(0, .slice a7 y10.1.length c7), (3, pt p2 0), (8, .bool y10.2)] ∧ St G w (osl r_T_glacierref18_Entry 42 a7 c7 y10.1 :: blk p2 (cl [I x2.Kind, S x2.Name, .int .u64 x2.Value, I x2.Start, I x2.End, I x2.Err, .int .u64 x2.Got, .slice a2 x2.Names.length c2] 46) :: dsl rS a2 c2 x2.Names :: F)) ?_ ?_
  · rintro _ w ⟨a7, c7, b, rfl, hst⟩
    have hr := hk6
    obtain ⟨y16, hy16, hk10⟩ := bnd hr
    clear hr
    refine wp_seq_cut (fun a w => ∃ (b : Nat → Value), a = mkF 117 b [(4, .slice a7 y10.1.length c7), (5, .bool y16)] ∧ St G w (osl r_T_glacierref18_Entry 42 a7 c7 y10.1 :: blk p2 (cl [I x2.Kind, S x2.Name, .int .u64 x2.Value, I x2.Start, I x2.End, I x2.Err, .int .u64 x2.Got, .slice a2 x2.Names.length c2] 46) :: dsl rS a2 c2 x2.Names :: F)) ?_ ?_
    · rintro _ w ⟨b, rfl, hst⟩
      have hr := hk10
      refine wp_ret ?_
      refine ret2 rfl rfl rfl ?_
      obtain rfl := Option.some.inj hr
      have hst := (((hst.pull 2).pull 1).cut 2 1)
      exact hR a7 c7 _ hst
    · have hr := hy16
      refine wp_regG (SN { w with drawn := w.drawn + 1 }) rfl ?_
      have hst := hst.draw (n := w.drawn + 1)
      generalize { w with drawn := w.drawn + 1 } = w at hst ⊢
      refine C_take (i := 0) (v := .slice a7 y10.1.length c7) rfl (by kernel_rfl) (fun _ _ _ h => h) rfl rfl rfl (R_pure (by kernel_rfl)) ?_
      refine C_take (i := 1) (v := .bool y10.2) rfl (by kernel_rfl) (fun _ _ _ h => h) rfl rfl rfl (R_pure (by kernel_rfl)) ?_
      refine C_take (i := 2) (v := .bool y10.2) rfl (by kernel_rfl) (fun _ _ _ h => h) rfl rfl rfl (R_pure (by kernel_rfl)) ?_
      by_cases h : y10.2 = true
      · have hr := (if_pos h).symm.trans hr
        refine C_keep ((112, .bool y10.2) :: [(0, .slice a7 y10.1.length c7), (3, pt p2 0), (8, .bool y10.2), (110, .slice a7 y10.1.length c7), (111, .bool y10.2)]) rfl fun b => ?_
        refine C_bool h ?_
        refine C_skip (i := 3) rfl (by kernel_rfl) (fun _ _ _ h => h) rfl rfl rfl ?_
        refine C_skip (i := 4) rfl (by kernel_rfl) (fun _ _ _ h => h) rfl rfl rfl ?_
        refine C_skip (i := 5) rfl (by kernel_rfl) (fun _ _ _ h => h) rfl rfl rfl ?_
        refine C_take (i := 6) (v := .bool true) rfl (by kernel_rfl) (fun _ _ _ h => h) rfl rfl rfl (R_pure (by kernel_rfl)) ?_
        refine C_take (i := 7) (v := .slice a7 y10.1.length c7) rfl (by kernel_rfl) (fun _ _ _ h => h) rfl rfl rfl (R_pure (by kernel_rfl)) ?_
        refine C_take (i := 8) (v := .bool true) rfl (by kernel_rfl) (fun _ _ _ h => h) rfl rfl rfl (R_pure (by kernel_rfl)) ?_
        refine wpG_done (by kernel_rfl) ?_ _
        refine C_keepQ [(4, .slice a7 y10.1.length c7), (5, .bool true)] rfl fun b => ?_
        refine th_n ?_
        obtain rfl := Option.some.inj hr
        have hst := (((hst.pull 2).pull 2).pull 2)
        exact (kpX [(4, .slice a7 y10.1.length c7), (5, .bool true)] rfl hst)
      · have hr := (if_neg h).symm.trans hr
        refine C_keep ((112, .bool y10.2) :: [(0, .slice a7 y10.1.length c7), (3, pt p2 0), (8, .bool y10.2), (110, .slice a7 y10.1.length c7), (111, .bool y10.2)]) rfl fun b => ?_
        refine C_bool (eq_false_of_ne_true h) ?_
        refine C_take (i := 3) (v := pt p2 4) rfl (by kernel_rfl) (fun _ _ _ h => h) rfl rfl rfl (R_pure (by kernel_rfl)) ?_
        refine C_take (i := 4) (v := I x2.End) rfl (by kernel_rfl) (fun _ _ _ h => h) rfl rfl rfl (R_load (hst.pull 1) rfl rfl) ?_
        refine C_take (i := 5) (v := .bool (decide (x2.End < 0))) rfl (by kernel_rfl) (fun _ _ _ h => h) rfl rfl rfl (R_pure (by kernel_rfl)) ?_
        refine C_take (i := 6) (v := .bool (decide (x2.End < 0))) rfl (by kernel_rfl) (fun _ _ _ h => h) rfl rfl rfl (R_pure (by kernel_rfl)) ?_
        refine C_take (i := 7) (v := .slice a7 y10.1.length c7) rfl (by kernel_rfl) (fun _ _ _ h => h) rfl rfl rfl (R_pure (by kernel_rfl)) ?_
        refine C_take (i := 8) (v := .bool (decide (x2.End < 0))) rfl (by kernel_rfl) (fun _ _ _ h => h) rfl rfl rfl (R_pure (by kernel_rfl)) ?_
        refine wpG_done (by kernel_rfl) ?_ _
        refine C_keepQ [(4, .slice a7 y10.1.length c7), (5, .bool (decide (x2.End < 0)))] rfl fun b => ?_
        refine th_n ?_
        obtain rfl := Option.some.inj hr
        have hst := (((hst.pull 2).pull 2).pull 2)
        exact (kpX [(4, .slice a7 y10.1.length c7), (5, .bool (decide (x2.End < 0)))] rfl hst)
  · have hr := hy10
    refine wp_seq ?_
    refine wp_reg ?_
    refine L_pure 1 [(0, .slice a1 x1.length c1), (3, pt p2 0), (6, .int .u64 y9.1), (7, .bool y9.2), (8, .bool false), (17, pt p2 0)] (by kernel_rfl) fun b => ?_
    refine L_op rfl (O_run (v := I x2.Kind) (w' := w) (R_load (hst.pull 1) rfl rfl) rfl rfl ?_)
    refine wpL_nil ?_
    refine th_n ?_
    refine wp_block ?_
    refine wp_seq ?_
    refine wp_reg ?_
    refine L_pure 2 [(0, .slice a1 x1.length c1), (3, pt p2 0), (6, .int .u64 y9.1), (7, .bool y9.2), (8, .bool false), (18, I x2.Kind), (19, .bool (x2.Kind == 1))] (by kernel_rfl) fun b => ?_
    refine wpL_nil ?_
    refine th_n ?_
    refine wp_cond_mkF (t := (x2.Kind == 1)) rfl (fun h => ?_) (fun h => ?_)
    · have hr := (if_pos h).symm.trans hr
      refine wp_seq ?_
      refine wp_reg ?_
      refine L_pure 2 [(3, pt p2 0), (21, .slice a1 x1.length c1), (22, pt p2 1)] (by kernel_rfl) fun b => ?_
      refine L_op rfl (O_run (v := S x2.Name) (w' := w) (R_load (hst.pull 1) rfl rfl) rfl rfl ?_)
      refine L_pure 1 [(3, pt p2 0), (21, .slice a1 x1.length c1), (23, S x2.Name), (24, pt p2 2)] (by kernel_rfl) fun b => ?_
      refine L_op rfl (O_run (v := .int .u64 x2.Value) (w' := w) (R_load (hst.pull 1) rfl rfl) rfl rfl ?_)
      refine L_pure 1 [(3, pt p2 0), (21, .slice a1 x1.length c1), (26, .agg #[S x2.Name, .int .u64 x2.Value])] (by kernel_rfl) fun b => ?_
      obtain ⟨y11, hy11, hr⟩ := bnd hr
      refine L_op rfl (O_call (vs := #[.slice a1 x1.length c1, .agg #[S x2.Name, .int .u64 x2.Value], .bool true]) Try.call17 (by kernel_rfl) (glacierref18_Put_ok k x1 (T_glacierref18_Entry.mk x2.Name x2.Value) true a1 c1 y11 hst hy11 fun a8 c8 w hst => ?_))
      refine CK_ret rfl ?_
      refine L_pure 1 [(0, .slice a8 y11.length c8), (3, pt p2 0)] (by kernel_rfl) fun b => ?_
      refine wpL_nil ?_
      refine th_n ?_
      refine wp_reg ?_
      refine L_pure 1 [(0, .slice a8 y11.length c8), (3, pt p2 0), (28, pt p2 5)] (by kernel_rfl) fun b => ?_
      refine L_op rfl (O_run (v := I x2.Err) (w' := w) (R_load (hst.pull 2) rfl rfl) rfl rfl ?_)
      refine L_pure 2 [(0, .slice a8 y11.length c8), (3, pt p2 0), (8, .bool (x2.Err == 0))] (by kernel_rfl) fun b => ?_
      refine wpL_nil ?_
      refine ib_n (th_n ?_)
      obtain rfl := Option.some.inj hr
      have hst := ((((hst.pull 3).pull 3).pull 2).cut 3 1)
      exact ⟨a8, c8, (kpX [(0, .slice a8 y11.length c8), (3, pt p2 0), (8, .bool (x2.Err == 0))] rfl hst)⟩
    · have hr := (if_neg (by rw [h]; exact Bool.false_ne_true)).symm.trans hr
      obtain ⟨y12, hy12, hk7⟩ := bnd hr
      clear hr
      refine wp_seq_cut (fun a w => ∃ (b : Nat → Value), a = mkF 117 b [(0, .slice a1 x1.length c1), (3, pt p2 0), (6, .int .u64 y9.1), (7, .bool y9.2), (8, .bool false), (18, I x2.Kind), (31, .bool y12)] ∧ St G w (osl r_T_glacierref18_Entry 42 a1 c1 x1 :: blk p2 (cl [I x2.Kind, S x2.Name, .int .u64 x2.Value, I x2.Start, I x2.End, I x2.Err, .int .u64 x2.Got, .slice a2 x2.Names.length c2] 46) :: dsl rS a2 c2 x2.Names :: F)) ?_ ?_
      · rintro _ w ⟨b, rfl, hst⟩
        have hr := hk7
        refine wp_cond_mkF (t := y12) rfl (fun h => ?_) (fun h => ?_)
        · have hr := (if_pos h).symm.trans hr
          refine wp_reg ?_
          refine L_pure 2 [(0, .slice a1 x1.length c1), (3, pt p2 0), (6, .int .u64 y9.1), (7, .bool y9.2), (35, .bool y9.2)] (by kernel_rfl) fun b => ?_
          by_cases h : y9.2 = true
          · have hr := (if_pos h).symm.trans hr
            refine L_keep ((35, .bool y9.2) :: [(0, .slice a1 x1.length c1), (3, pt p2 0), (6, .int .u64 y9.1), (7, .bool y9.2)]) rfl fun b => ?_
            refine L_bool h ?_
            refine L_pure 1 [(0, .slice a1 x1.length c1), (3, pt p2 0), (6, .int .u64 y9.1), (7, .bool y9.2), (35, .bool true), (36, pt p2 5)] (by kernel_rfl) fun b => ?_
            refine L_op rfl (O_run (v := I x2.Err) (w' := w) (R_load (hst.pull 1) rfl rfl) rfl rfl ?_)
            refine L_pure 3 [(0, .slice a1 x1.length c1), (3, pt p2 0), (6, .int .u64 y9.1), (7, .bool y9.2), (40, .bool (x2.Err == 0))] (by kernel_rfl) fun b => ?_
            by_cases h : (x2.Err == 0) = true
            · have hr := (if_pos h).symm.trans hr
              refine L_keep ((40, .bool (x2.Err == 0)) :: [(0, .slice a1 x1.length c1), (3, pt p2 0), (6, .int .u64 y9.1), (7, .bool y9.2)]) rfl fun b => ?_
              refine L_bool h ?_
              refine L_pure 1 [(0, .slice a1 x1.length c1), (3, pt p2 0), (6, .int .u64 y9.1), (7, .bool y9.2), (40, .bool true), (41, pt p2 6)] (by kernel_rfl) fun b => ?_
              refine L_op rfl (O_run (v := .int .u64 x2.Got) (w' := w) (R_load (hst.pull 1) rfl rfl) rfl rfl ?_)
              refine L_pure 4 [(0, .slice a1 x1.length c1), (3, pt p2 0), (7, .bool y9.2), (46, .bool (x2.Got == y9.1))] (by kernel_rfl) fun b => ?_
              by_cases h : (x2.Got == y9.1) = true
              · have hr := (if_pos h).symm.trans hr
                refine L_keep ((46, .bool (x2.Got == y9.1)) :: [(0, .slice a1 x1.length c1), (3, pt p2 0), (7, .bool y9.2)]) rfl fun b => ?_
                refine L_bool h ?_
                refine L_pure 9 [(0, .slice a1 x1.length c1), (3, pt p2 0), (8, .bool true)] (by kernel_rfl) fun b => ?_
                refine wpL_nil ?_
                refine ib_n (th_n ?_)
                obtain rfl := Option.some.inj hr
                have hst := (((hst.pull 2).pull 2).pull 2)
                exact ⟨a1, c1, (kpX [(0, .slice a1 x1.length c1), (3, pt p2 0), (8, .bool true)] rfl hst)⟩
              · have hr := (if_neg h).symm.trans hr
                refine L_keep ((46, .bool (x2.Got == y9.1)) :: [(0, .slice a1 x1.length c1), (3, pt p2 0), (7, .bool y9.2)]) rfl fun b => ?_
                refine L_bool (eq_false_of_ne_true h) ?_
                refine L_pure 3 [(0, .slice a1 x1.length c1), (3, pt p2 0), (46, .bool false), (49, .bool (!y9.2))] (by kernel_rfl) fun b => ?_
                by_cases h : (!y9.2) = true
                · have hr := (if_pos h).symm.trans hr
                  refine L_keep ((49, .bool (!y9.2)) :: [(0, .slice a1 x1.length c1), (3, pt p2 0), (46, .bool false)]) rfl fun b => ?_
                  refine L_bool h ?_
                  refine L_pure 1 [(0, .slice a1 x1.length c1), (3, pt p2 0), (46, .bool false), (49, .bool true), (50, pt p2 5)] (by kernel_rfl) fun b => ?_
                  refine L_op rfl (O_run (v := I x2.Err) (w' := w) (R_load (hst.pull 1) rfl rfl) rfl rfl ?_)
                  refine L_pure 4 [(0, .slice a1 x1.length c1), (3, pt p2 0), (8, .bool (x2.Err == 5))] (by kernel_rfl) fun b => ?_
                  refine wpL_nil ?_
                  refine ib_n (th_n ?_)
                  obtain rfl := Option.some.inj hr
                  have hst := (((hst.pull 2).pull 2).pull 2)
                  exact ⟨a1, c1, (kpX [(0, .slice a1 x1.length c1), (3, pt p2 0), (8, .bool (x2.Err == 5))] rfl hst)⟩
                · have hr := (if_neg h).symm.trans hr
                  refine L_keep ((49, .bool (!y9.2)) :: [(0, .slice a1 x1.length c1), (3, pt p2 0), (46, .bool false)]) rfl fun b => ?_
                  refine L_bool (eq_false_of_ne_true h) ?_
                  refine L_pure 6 [(0, .slice a1 x1.length c1), (3, pt p2 0), (8, .bool false)] (by kernel_rfl) fun b => ?_
                  refine wpL_nil ?_
                  refine ib_n (th_n ?_)
                  obtain rfl := Option.some.inj hr
                  have hst := (((hst.pull 2).pull 2).pull 2)
                  exact ⟨a1, c1, (kpX [(0, .slice a1 x1.length c1), (3, pt p2 0), (8, .bool false)] rfl hst)⟩
            · have hr := (if_neg h).symm.trans hr
              refine L_keep ((40, .bool (x2.Err == 0)) :: [(0, .slice a1 x1.length c1), (3, pt p2 0), (6, .int .u64 y9.1), (7, .bool y9.2)]) rfl fun b => ?_
              refine L_bool (eq_false_of_ne_true h) ?_
              refine L_pure 9 [(0, .slice a1 x1.length c1), (3, pt p2 0), (46, .bool false), (49, .bool (!y9.2))] (by kernel_rfl) fun b => ?_
              by_cases h : (!y9.2) = true
              · have hr := (if_pos h).symm.trans hr
                refine L_keep ((49, .bool (!y9.2)) :: [(0, .slice a1 x1.length c1), (3, pt p2 0), (46, .bool false)]) rfl fun b => ?_
                refine L_bool h ?_
                refine L_pure 1 [(0, .slice a1 x1.length c1), (3, pt p2 0), (46, .bool false), (49, .bool true), (50, pt p2 5)] (by kernel_rfl) fun b => ?_
                refine L_op rfl (O_run (v := I x2.Err) (w' := w) (R_load (hst.pull 1) rfl rfl) rfl rfl ?_)
                refine L_pure 4 [(0, .slice a1 x1.length c1), (3, pt p2 0), (8, .bool (x2.Err == 5))] (by kernel_rfl) fun b => ?_
                refine wpL_nil ?_
                refine ib_n (th_n ?_)
                obtain rfl := Option.some.inj hr
                have hst := (((hst.pull 2).pull 2).pull 2)
                exact ⟨a1, c1, (kpX [(0, .slice a1 x1.length c1), (3, pt p2 0), (8, .bool (x2.Err == 5))] rfl hst)⟩
              · have hr := (if_neg h).symm.trans hr
                refine L_keep ((49, .bool (!y9.2)) :: [(0, .slice a1 x1.length c1), (3, pt p2 0), (46, .bool false)]) rfl fun b => ?_
                refine L_bool (eq_false_of_ne_true h) ?_
                refine L_pure 6 [(0, .slice a1 x1.length c1), (3, pt p2 0), (8, .bool false)] (by kernel_rfl) fun b => ?_
                refine wpL_nil ?_
                refine ib_n (th_n ?_)
                obtain rfl := Option.some.inj hr
                have hst := (((hst.pull 2).pull 2).pull 2)
                exact ⟨a1, c1, (kpX [(0, .slice a1 x1.length c1), (3, pt p2 0), (8, .bool false)] rfl hst)⟩
          · have hr := (if_neg h).symm.trans hr
            refine L_keep ((35, .bool y9.2) :: [(0, .slice a1 x1.length c1), (3, pt p2 0), (6, .int .u64 y9.1), (7, .bool y9.2)]) rfl fun b => ?_
            refine L_bool (eq_false_of_ne_true h) ?_
            refine L_pure 14 [(0, .slice a1 x1.length c1), (3, pt p2 0), (46, .bool false), (49, .bool (!y9.2))] (by kernel_rfl) fun b => ?_
            by_cases h : (!y9.2) = true
            · have hr := (if_pos h).symm.trans hr
              refine L_keep ((49, .bool (!y9.2)) :: [(0, .slice a1 x1.length c1), (3, pt p2 0), (46, .bool false)]) rfl fun b => ?_
              refine L_bool h ?_
              refine L_pure 1 [(0, .slice a1 x1.length c1), (3, pt p2 0), (46, .bool false), (49, .bool true), (50, pt p2 5)] (by kernel_rfl) fun b => ?_
              refine L_op rfl (O_run (v := I x2.Err) (w' := w) (R_load (hst.pull 1) rfl rfl) rfl rfl ?_)
              refine L_pure 4 [(0, .slice a1 x1.length c1), (3, pt p2 0), (8, .bool (x2.Err == 5))] (by kernel_rfl) fun b => ?_
              refine wpL_nil ?_
              refine ib_n (th_n ?_)
              obtain rfl := Option.some.inj hr
              have hst := (((hst.pull 2).pull 2).pull 2)
              exact ⟨a1, c1, (kpX [(0, .slice a1 x1.length c1), (3, pt p2 0), (8, .bool (x2.Err == 5))] rfl hst)⟩
            · have hr := (if_neg h).symm.trans hr
              refine L_keep ((49, .bool (!y9.2)) :: [(0, .slice a1 x1.length c1), (3, pt p2 0), (46, .bool false)]) rfl fun b => ?_
              refine L_bool (eq_false_of_ne_true h) ?_
              refine L_pure 6 [(0, .slice a1 x1.length c1), (3, pt p2 0), (8, .bool false)] (by kernel_rfl) fun b => ?_
              refine wpL_nil ?_
              refine ib_n (th_n ?_)
              obtain rfl := Option.some.inj hr
              have hst := (((hst.pull 2).pull 2).pull 2)
              exact ⟨a1, c1, (kpX [(0, .slice a1 x1.length c1), (3, pt p2 0), (8, .bool false)] rfl hst)⟩
        · have hr := (if_neg (by rw [h]; exact Bool.false_ne_true)).symm.trans hr
          refine wp_seq ?_
          refine wp_reg ?_
          refine L_pure 2 [(0, .slice a1 x1.length c1), (3, pt p2 0), (7, .bool y9.2), (8, .bool false), (18, I x2.Kind), (55, .bool (x2.Kind == 3))] (by kernel_rfl) fun b => ?_
          refine wpL_nil ?_
          refine th_n ?_
          refine wp_cond_mkF (t := (x2.Kind == 3)) rfl (fun h => ?_) (fun h => ?_)
          · have hr := (if_pos h).symm.trans hr
            refine wp_seq ?_
            refine wp_reg ?_
            refine L_pure 2 [(3, pt p2 0), (7, .bool y9.2), (57, .slice a1 x1.length c1), (58, pt p2 1)] (by kernel_rfl) fun b => ?_
            refine L_op rfl (O_run (v := S x2.Name) (w' := w) (R_load (hst.pull 1) rfl rfl) rfl rfl ?_)
            refine L_pure 1 [(3, pt p2 0), (7, .bool y9.2), (57, .slice a1 x1.length c1), (60, .agg #[S x2.Name, .int .u64 0])] (by kernel_rfl) fun b => ?_
            obtain ⟨y13, hy13, hr⟩ := bnd hr
            refine L_op rfl (O_call (vs := #[.slice a1 x1.length c1, .agg #[S x2.Name, .int .u64 0], .bool false]) Try.call17 (by kernel_rfl) (glacierref18_Put_ok k x1 (T_glacierref18_Entry.mk x2.Name 0) false a1 c1 y13 hst hy13 fun a9 c9 w hst => ?_))
            refine CK_ret rfl ?_
            refine L_pure 1 [(0, .slice a9 y13.length c9), (3, pt p2 0), (7, .bool y9.2)] (by kernel_rfl) fun b => ?_
            refine wpL_nil ?_
            refine th_n ?_
            refine wp_reg ?_
            refine L_pure 2 [(0, .slice a9 y13.length c9), (3, pt p2 0), (7, .bool y9.2), (63, .bool y9.2)] (by kernel_rfl) fun b => ?_
            by_cases h : y9.2 = true
            · have hr := (if_pos h).symm.trans hr
              refine L_keep ((63, .bool y9.2) :: [(0, .slice a9 y13.length c9), (3, pt p2 0), (7, .bool y9.2)]) rfl fun b => ?_
              refine L_bool h ?_
              refine L_pure 1 [(0, .slice a9 y13.length c9), (3, pt p2 0), (7, .bool y9.2), (63, .bool true), (64, pt p2 5)] (by kernel_rfl) fun b => ?_
              refine L_op rfl (O_run (v := I x2.Err) (w' := w) (R_load (hst.pull 2) rfl rfl) rfl rfl ?_)
              refine L_pure 3 [(0, .slice a9 y13.length c9), (3, pt p2 0), (7, .bool y9.2), (68, .bool (x2.Err == 0))] (by kernel_rfl) fun b => ?_
              by_cases h : (x2.Err == 0) = true
              · have hr := (if_pos h).symm.trans hr
                refine L_keep ((68, .bool (x2.Err == 0)) :: [(0, .slice a9 y13.length c9), (3, pt p2 0), (7, .bool y9.2)]) rfl fun b => ?_
                refine L_bool h ?_
                refine L_pure 9 [(0, .slice a9 y13.length c9), (3, pt p2 0), (8, .bool true)] (by kernel_rfl) fun b => ?_
                refine wpL_nil ?_
                refine ib_n (th_n ?_)
                obtain rfl := Option.some.inj hr
                have hst := ((((hst.pull 3).pull 3).pull 2).cut 3 1)
                exact ⟨a9, c9, (kpX [(0, .slice a9 y13.length c9), (3, pt p2 0), (8, .bool true)] rfl hst)⟩
              · have hr := (if_neg h).symm.trans hr
                refine L_keep ((68, .bool (x2.Err == 0)) :: [(0, .slice a9 y13.length c9), (3, pt p2 0), (7, .bool y9.2)]) rfl fun b => ?_
                refine L_bool (eq_false_of_ne_true h) ?_
                refine L_pure 3 [(0, .slice a9 y13.length c9), (3, pt p2 0), (68, .bool false), (71, .bool (!y9.2))] (by kernel_rfl) fun b => ?_
                by_cases h : (!y9.2) = true
                · have hr := (if_pos h).symm.trans hr
                  refine L_keep ((71, .bool (!y9.2)) :: [(0, .slice a9 y13.length c9), (3, pt p2 0), (68, .bool false)]) rfl fun b => ?_
                  refine L_bool h ?_
                  refine L_pure 1 [(0, .slice a9 y13.length c9), (3, pt p2 0), (68, .bool false), (71, .bool true), (72, pt p2 5)] (by kernel_rfl) fun b => ?_
                  refine L_op rfl (O_run (v := I x2.Err) (w' := w) (R_load (hst.pull 2) rfl rfl) rfl rfl ?_)
                  refine L_pure 4 [(0, .slice a9 y13.length c9), (3, pt p2 0), (8, .bool (x2.Err == 5))] (by kernel_rfl) fun b => ?_
                  refine wpL_nil ?_
                  refine ib_n (th_n ?_)
                  obtain rfl := Option.some.inj hr
                  have hst := ((((hst.pull 3).pull 3).pull 2).cut 3 1)
                  exact ⟨a9, c9, (kpX [(0, .slice a9 y13.length c9), (3, pt p2 0), (8, .bool (x2.Err == 5))] rfl hst)⟩
                · have hr := (if_neg h).symm.trans hr
                  refine L_keep ((71, .bool (!y9.2)) :: [(0, .slice a9 y13.length c9), (3, pt p2 0), (68, .bool false)]) rfl fun b => ?_
                  refine L_bool (eq_false_of_ne_true h) ?_
                  refine L_pure 6 [(0, .slice a9 y13.length c9), (3, pt p2 0), (8, .bool false)] (by kernel_rfl) fun b => ?_
                  refine wpL_nil ?_
                  refine ib_n (th_n ?_)
                  obtain rfl := Option.some.inj hr
                  have hst := ((((hst.pull 3).pull 3).pull 2).cut 3 1)
                  exact ⟨a9, c9, (kpX [(0, .slice a9 y13.length c9), (3, pt p2 0), (8, .bool false)] rfl hst)⟩
            · have hr := (if_neg h).symm.trans hr
              refine L_keep ((63, .bool y9.2) :: [(0, .slice a9 y13.length c9), (3, pt p2 0), (7, .bool y9.2)]) rfl fun b => ?_
              refine L_bool (eq_false_of_ne_true h) ?_
              refine L_pure 8 [(0, .slice a9 y13.length c9), (3, pt p2 0), (68, .bool false), (71, .bool (!y9.2))] (by kernel_rfl) fun b => ?_
              by_cases h : (!y9.2) = true
              · have hr := (if_pos h).symm.trans hr
                refine L_keep ((71, .bool (!y9.2)) :: [(0, .slice a9 y13.length c9), (3, pt p2 0), (68, .bool false)]) rfl fun b => ?_
                refine L_bool h ?_
                refine L_pure 1 [(0, .slice a9 y13.length c9), (3, pt p2 0), (68, .bool false), (71, .bool true), (72, pt p2 5)] (by kernel_rfl) fun b => ?_
                refine L_op rfl (O_run (v := I x2.Err) (w' := w) (R_load (hst.pull 2) rfl rfl) rfl rfl ?_)
                refine L_pure 4 [(0, .slice a9 y13.length c9), (3, pt p2 0), (8, .bool (x2.Err == 5))] (by kernel_rfl) fun b => ?_
                refine wpL_nil ?_
                refine ib_n (th_n ?_)
                obtain rfl := Option.some.inj hr
                have hst := ((((hst.pull 3).pull 3).pull 2).cut 3 1)
                exact ⟨a9, c9, (kpX [(0, .slice a9 y13.length c9), (3, pt p2 0), (8, .bool (x2.Err == 5))] rfl hst)⟩
              · have hr := (if_neg h).symm.trans hr
                refine L_keep ((71, .bool (!y9.2)) :: [(0, .slice a9 y13.length c9), (3, pt p2 0), (68, .bool false)]) rfl fun b => ?_
                refine L_bool (eq_false_of_ne_true h) ?_
                refine L_pure 6 [(0, .slice a9 y13.length c9), (3, pt p2 0), (8, .bool false)] (by kernel_rfl) fun b => ?_
                refine wpL_nil ?_
                refine ib_n (th_n ?_)
                obtain rfl := Option.some.inj hr
                have hst := ((((hst.pull 3).pull 3).pull 2).cut 3 1)
                exact ⟨a9, c9, (kpX [(0, .slice a9 y13.length c9), (3, pt p2 0), (8, .bool false)] rfl hst)⟩
          · have hr := (if_neg (by rw [h]; exact Bool.false_ne_true)).symm.trans hr
            refine wp_seq ?_
            refine wp_reg ?_
            refine L_pure 2 [(0, .slice a1 x1.length c1), (3, pt p2 0), (8, .bool false), (77, .bool (x2.Kind == 4))] (by kernel_rfl) fun b => ?_
            refine wpL_nil ?_
            refine th_n ?_
            refine wp_cond_mkF (t := (x2.Kind == 4)) rfl (fun h => ?_) (fun h => ?_)
            · have hr := (if_pos h).symm.trans hr
              obtain ⟨y14, hy14, hk8⟩ := bnd hr
              clear hr
              refine wp_seq_cut (fun a w => ∃ (b : Nat → Value), a = mkF 117 b [(0, .slice a1 x1.length c1), (3, pt p2 0), (8, .bool y14)] ∧ St G w (osl r_T_glacierref18_Entry 42 a1 c1 x1 :: blk p2 (cl [I x2.Kind, S x2.Name, .int .u64 x2.Value, I x2.Start, I x2.End, I x2.Err, .int .u64 x2.Got, .slice a2 x2.Names.length c2] 46) :: dsl rS a2 c2 x2.Names :: F)) ?_ ?_
              · rintro _ w ⟨b, rfl, hst⟩
                have hr := hk8
                refine wp_seq ?_
                refine wp_reg ?_
                refine L_pure 3 [(0, .slice a1 x1.length c1), (3, pt p2 0), (8, .bool y14), (91, I (x1.length : Int)), (92, I 0)] (by kernel_rfl) fun b => ?_
                refine wpL_nil ?_
                refine th_n ?_
                obtain ⟨y15, hy15, hk9⟩ := bnd hr
                clear hr
                refine Go.Hx.wp_cut (fun a w => ∃ (b : Nat → Value), a = mkF 117 b [(0, .slice a1 x1.length c1), (3, pt p2 0), (8, .bool y15)] ∧ St G w (osl r_T_glacierref18_Entry 42 a1 c1 x1 :: blk p2 (cl [I x2.Kind, S x2.Name, .int .u64 x2.Value, I x2.Start, I x2.End, I x2.Err, .int .u64 x2.Got, .slice a2 x2.Names.length c2] 46) :: dsl rS a2 c2 x2.Names :: F)) ?_ ?_
                · rintro _ w ⟨b, rfl, hst⟩
                  have hr := hk9
                  refine ib_n (th_n ?_)
                  obtain rfl := Option.some.inj hr
                  have hst := (((hst.pull 2).pull 2).pull 2)
                  exact ⟨a1, c1, (kpX [(0, .slice a1 x1.length c1), (3, pt p2 0), (8, .bool y15)] rfl hst)⟩
                · have hst := (((hst.pull 2).pull 2).pull 2)
                  refine wp_block ?_
                  refine wp_loop_fuel (fun j a w => ∃ (v7 : Bool) (v8 : Int) (b : Nat → Value), a = mkF 117 b [(0, .slice a1 x1.length c1), (3, pt p2 0), (8, .bool v7), (91, I (x1.length : Int)), (92, I v8)] ∧ St G w (osl r_T_glacierref18_Entry 42 a1 c1 x1 :: blk p2 (cl [I x2.Kind, S x2.Name, .int .u64 x2.Value, I x2.Start, I x2.End, I x2.Err, .int .u64 x2.Got, .slice a2 x2.Names.length c2] 46) :: dsl rS a2 c2 x2.Names :: F) ∧ glacierref18_Do_l1 k x1 x2 j v7 v8 = some y15) (k := k) ⟨y14, (0 : Int), (kpX [(0, .slice a1 x1.length c1), (3, pt p2 0), (8, .bool y14), (91, I (x1.length : Int)), (92, I 0)] rfl ⟨hst, hy15⟩)⟩ ?_ ?_
                  · rintro _ _ ⟨_, _, _, _, _, h⟩
                    rw [glacierref18_Do_l1] at h
                    cases h
                  · rintro j _ w ⟨v7, v8, b, rfl, hst, hr⟩
                    rw [glacierref18_Do_l1] at hr
                    refine wp_seq ?_
                    refine wp_reg ?_
                    refine L_pure 1 [(0, .slice a1 x1.length c1), (3, pt p2 0), (8, .bool v7), (91, I (x1.length : Int)), (92, I v8), (93, .bool (decide (v8 < (x1.length : Int))))] (by kernel_rfl) fun b => ?_
                    refine wpL_nil ?_
                    refine th_n ?_
                    refine wp_seq ?_
                    refine wp_cond_mkF (t := decide (v8 < (x1.length : Int))) rfl (fun h => ?_) (fun h => ?_)
                    · have hr := (if_pos h).symm.trans hr
                      refine wp_skip ?_
                      refine th_n ?_
                      refine wp_seq ?_
                      refine wp_block ?_
                      refine wp_seq ?_
                      refine wp_reg ?_
                      refine L_pure 2 [(0, .slice a1 x1.length c1), (3, pt p2 0), (8, .bool v7), (9, I v8), (91, I (x1.length : Int)), (92, I v8)] (by kernel_rfl) fun b => ?_
                      refine wpL_nil ?_
                      refine th_n ?_
                      refine wp_regG (SN { w with drawn := w.drawn + 1 }) rfl ?_
                      have hst := hst.draw (n := w.drawn + 1)
                      generalize { w with drawn := w.drawn + 1 } = w at hst ⊢
                      refine C_take (i := 0) (v := .bool v7) rfl (by kernel_rfl) (fun _ _ _ h => h) rfl rfl rfl (R_pure (by kernel_rfl)) ?_
                      refine C_take (i := 1) (v := .bool v7) rfl (by kernel_rfl) (fun _ _ _ h => h) rfl rfl rfl (R_pure (by kernel_rfl)) ?_
                      by_cases h : v7 = true
                      · have hr := (if_pos h).symm.trans hr
                        refine C_keep ((96, .bool v7) :: [(0, .slice a1 x1.length c1), (3, pt p2 0), (8, .bool v7), (9, I v8), (91, I (x1.length : Int)), (92, I v8), (95, .bool v7)]) rfl fun b => ?_
                        refine C_bool h ?_
                        refine C_take (i := 2) (v := pt p2 7) rfl (by kernel_rfl) (fun _ _ _ h => h) rfl rfl rfl (R_pure (by kernel_rfl)) ?_
                        refine C_take (i := 3) (v := .slice a2 x2.Names.length c2) rfl (by kernel_rfl) (fun _ _ _ h => h) rfl rfl rfl (R_load (hst.pull 1) rfl rfl) ?_
                        refine C_take (i := 4) (v := I v8) rfl (by kernel_rfl) (fun _ _ _ h => h) rfl rfl rfl (R_pure (by kernel_rfl)) ?_
                        obtain ⟨x5, hx3, hr⟩ := bnd hr
                        refine C_take (i := 5) (v := pt (ab a2) (ao a2 + v8.toNat * 1)) rfl (by kernel_rfl) (fun _ _ _ h => h) rfl rfl rfl (R_ia L30 rfl rfl (dsl_addr (hst.pull 2) hx3) (gt_some hx3).1 (gt_some hx3).2.1) ?_
                        obtain ⟨q3, hc3, hst⟩ := dsl_cells (hst.pull 2) hx3
                        have hst := hst.drop
                        refine C_take (i := 6) (v := S x5) rfl (by kernel_rfl) (fun _ _ _ h => h) rfl rfl rfl (R_loadAt (off := ao a2 + v8.toNat * 1) (j := 0) hc3 rfl rfl) ?_
                        refine C_take (i := 7) (v := .slice a1 x1.length c1) rfl (by kernel_rfl) (fun _ _ _ h => h) rfl rfl rfl (R_pure (by kernel_rfl)) ?_
                        refine C_take (i := 8) (v := I v8) rfl (by kernel_rfl) (fun _ _ _ h => h) rfl rfl rfl (R_pure (by kernel_rfl)) ?_
                        obtain ⟨x6, hx4, hr⟩ := bnd hr
                        refine C_take (i := 9) (v := pt (ab a1) (ao a1 + v8.toNat * 2)) rfl (by kernel_rfl) (fun _ _ _ h => h) rfl rfl rfl (R_ia L38 rfl rfl (osl_addr (hst.pull 1) hx4) (gt_some hx4).1 (gt_some hx4).2.1) ?_
                        refine C_take (i := 10) (v := pt (ab a1) (ao a1 + v8.toNat * 2)) rfl (by kernel_rfl) (fun _ _ _ h => h) rfl rfl rfl (R_pure (by kernel_rfl)) ?_
                        obtain ⟨q4, hc4, hst⟩ := osl_cells (hst.pull 1) hx4
                        have hst := hst.drop
                        refine C_take (i := 11) (v := S x6.Name) rfl (by kernel_rfl) (fun _ _ _ h => h) rfl rfl rfl (R_loadAt (off := ao a1 + v8.toNat * 2) (j := 0) hc4 rfl rfl) ?_
                        refine C_take (i := 12) (v := .bool (sEq x5 x6.Name)) rfl (by kernel_rfl) (fun _ _ _ h => h) rfl rfl rfl (R_pure (by kernel_rfl)) ?_
                        refine C_take (i := 13) (v := .bool (sEq x5 x6.Name)) rfl (by kernel_rfl) (fun _ _ _ h => h) rfl rfl rfl (R_pure (by kernel_rfl)) ?_
                        refine C_take (i := 14) (v := .bool (sEq x5 x6.Name)) rfl (by kernel_rfl) (fun _ _ _ h => h) rfl rfl rfl (R_pure (by kernel_rfl)) ?_
                        refine wpG_done (by kernel_rfl) ?_ _
                        refine C_keepQ [(0, .slice a1 x1.length c1), (3, pt p2 0), (8, .bool (sEq x5 x6.Name)), (91, I (x1.length : Int)), (92, I v8)] rfl fun b => ?_
                        refine ib_n (th_n ?_)
                        refine wp_reg ?_
                        refine L_pure 2 [(0, .slice a1 x1.length c1), (3, pt p2 0), (8, .bool (sEq x5 x6.Name)), (91, I (x1.length : Int)), (92, I (IntKind.i64.wrap (v8 + 1)))] (by kernel_rfl) fun b => ?_
                        refine wpL_nil ?_
                        refine th_n ?_
                        have hst := (((hst.pull 1).pull 2).pull 2)
                        exact ⟨(sEq x5 x6.Name), (IntKind.i64.wrap (v8 + 1)), (kpX [(0, .slice a1 x1.length c1), (3, pt p2 0), (8, .bool (sEq x5 x6.Name)), (91, I (x1.length : Int)), (92, I (IntKind.i64.wrap (v8 + 1)))] rfl ⟨hst, hr⟩)⟩
                      · have hr := (if_neg h).symm.trans hr
                        refine C_keep ((96, .bool v7) :: [(0, .slice a1 x1.length c1), (3, pt p2 0), (8, .bool v7), (9, I v8), (91, I (x1.length : Int)), (92, I v8), (95, .bool v7)]) rfl fun b => ?_
                        refine C_bool (eq_false_of_ne_true h) ?_
                        refine C_skip (i := 2) rfl (by kernel_rfl) (fun _ _ _ h => h) rfl rfl rfl ?_
                        refine C_skip (i := 3) rfl (by kernel_rfl) (fun _ _ _ h => h) rfl rfl rfl ?_
                        refine C_skip (i := 4) rfl (by kernel_rfl) (fun _ _ _ h => h) rfl rfl rfl ?_
                        refine C_skip (i := 5) rfl (by kernel_rfl) (fun _ _ _ h => h) rfl rfl rfl ?_
                        refine C_skip (i := 6) rfl (by kernel_rfl) (fun _ _ _ h => h) rfl rfl rfl ?_
                        refine C_skip (i := 7) rfl (by kernel_rfl) (fun _ _ _ h => h) rfl rfl rfl ?_
                        refine C_skip (i := 8) rfl (by kernel_rfl) (fun _ _ _ h => h) rfl rfl rfl ?_
                        refine C_skip (i := 9) rfl (by kernel_rfl) (fun _ _ _ h => h) rfl rfl rfl ?_
                        refine C_skip (i := 10) rfl (by kernel_rfl) (fun _ _ _ h => h) rfl rfl rfl ?_
                        refine C_skip (i := 11) rfl (by kernel_rfl) (fun _ _ _ h => h) rfl rfl rfl ?_
                        refine C_skip (i := 12) rfl (by kernel_rfl) (fun _ _ _ h => h) rfl rfl rfl ?_
                        refine C_take (i := 13) (v := .bool false) rfl (by kernel_rfl) (fun _ _ _ h => h) rfl rfl rfl (R_pure (by kernel_rfl)) ?_
                        refine C_take (i := 14) (v := .bool false) rfl (by kernel_rfl) (fun _ _ _ h => h) rfl rfl rfl (R_pure (by kernel_rfl)) ?_
                        refine wpG_done (by kernel_rfl) ?_ _
                        refine C_keepQ [(0, .slice a1 x1.length c1), (3, pt p2 0), (8, .bool false), (91, I (x1.length : Int)), (92, I v8)] rfl fun b => ?_
                        refine ib_n (th_n ?_)
                        refine wp_reg ?_
                        refine L_pure 2 [(0, .slice a1 x1.length c1), (3, pt p2 0), (8, .bool false), (91, I (x1.length : Int)), (92, I (IntKind.i64.wrap (v8 + 1)))] (by kernel_rfl) fun b => ?_
                        refine wpL_nil ?_
                        refine th_n ?_
                        have hst := (((hst.pull 2).pull 2).pull 2)
                        exact ⟨false, (IntKind.i64.wrap (v8 + 1)), (kpX [(0, .slice a1 x1.length c1), (3, pt p2 0), (8, .bool false), (91, I (x1.length : Int)), (92, I (IntKind.i64.wrap (v8 + 1)))] rfl ⟨hst, hr⟩)⟩
                    · have hr := (if_neg (by rw [h]; exact Bool.false_ne_true)).symm.trans hr
                      refine wp_exit ?_
                      refine th_x (th_x (ib_x (th_n ?_)))
                      obtain rfl := Option.some.inj hr
                      have hst := (((hst.pull 2).pull 2).pull 2)
                      exact (kpX [(0, .slice a1 x1.length c1), (3, pt p2 0), (8, .bool v7)] rfl hst)
              · have hr := hy14
                refine wp_reg ?_
                refine L_pure 1 [(0, .slice a1 x1.length c1), (3, pt p2 0), (79, pt p2 5)] (by kernel_rfl) fun b => ?_
                refine L_op rfl (O_run (v := I x2.Err) (w' := w) (R_load (hst.pull 1) rfl rfl) rfl rfl ?_)
                refine L_pure 2 [(0, .slice a1 x1.length c1), (3, pt p2 0), (82, .bool (x2.Err == 0))] (by kernel_rfl) fun b => ?_
                by_cases h : (x2.Err == 0) = true
                · have hr := (if_pos h).symm.trans hr
                  refine L_keep ((82, .bool (x2.Err == 0)) :: [(0, .slice a1 x1.length c1), (3, pt p2 0)]) rfl fun b => ?_
                  refine L_bool h ?_
                  refine L_pure 1 [(0, .slice a1 x1.length c1), (3, pt p2 0), (82, .bool true), (83, pt p2 7)] (by kernel_rfl) fun b => ?_
                  refine L_op rfl (O_run (v := .slice a2 x2.Names.length c2) (w' := w) (R_load (hst.pull 1) rfl rfl) rfl rfl ?_)
                  refine L_pure 6 [(0, .slice a1 x1.length c1), (3, pt p2 0), (8, .bool ((x2.Names.length : Int) == (x1.length : Int)))] (by kernel_rfl) fun b => ?_
                  refine wpL_nil ?_
                  refine th_n ?_
                  obtain rfl := Option.some.inj hr
                  have hst := (((hst.pull 2).pull 2).pull 2)
                  exact (kpX [(0, .slice a1 x1.length c1), (3, pt p2 0), (8, .bool ((x2.Names.length : Int) == (x1.length : Int)))] rfl hst)
                · have hr := (if_neg h).symm.trans hr
                  refine L_keep ((82, .bool (x2.Err == 0)) :: [(0, .slice a1 x1.length c1), (3, pt p2 0)]) rfl fun b => ?_
                  refine L_bool (eq_false_of_ne_true h) ?_
                  refine L_pure 8 [(0, .slice a1 x1.length c1), (3, pt p2 0), (8, .bool false)] (by kernel_rfl) fun b => ?_
                  refine wpL_nil ?_
                  refine th_n ?_
                  obtain rfl := Option.some.inj hr
                  have hst := (((hst.pull 2).pull 2).pull 2)
                  exact (kpX [(0, .slice a1 x1.length c1), (3, pt p2 0), (8, .bool false)] rfl hst)
            · have hr := (if_neg (by rw [h]; exact Bool.false_ne_true)).symm.trans hr
              refine wp_skip ?_
              refine ib_n (th_n ?_)
              obtain rfl := Option.some.inj hr
              have hst := (((hst.pull 2).pull 2).pull 2)
              exact ⟨a1, c1, (kpX [(0, .slice a1 x1.length c1), (3, pt p2 0), (8, .bool false)] rfl hst)⟩
      · have hr := hy12
        refine wp_seq ?_
        refine wp_reg ?_
        refine L_pure 2 [(0, .slice a1 x1.length c1), (3, pt p2 0), (6, .int .u64 y9.1), (7, .bool y9.2), (8, .bool false), (18, I x2.Kind), (31, .bool (x2.Kind == 2))] (by kernel_rfl) fun b => ?_
        refine wpL_nil ?_
        refine th_n ?_
        refine wp_cond_mkF (t := (x2.Kind == 2)) rfl (fun h => ?_) (fun h => ?_)
        · have hr := (if_pos h).symm.trans hr
          refine wp_skip ?_
          refine th_n ?_
          obtain rfl := Option.some.inj hr
          have hst := (((hst.pull 2).pull 2).pull 2)
          exact (kpX [(0, .slice a1 x1.length c1), (3, pt p2 0), (6, .int .u64 y9.1), (7, .bool y9.2), (8, .bool false), (18, I x2.Kind), (31, .bool (x2.Kind == 2))] rfl hst)
        · have hr := (if_neg (by rw [h]; exact Bool.false_ne_true)).symm.trans hr
          refine wp_reg ?_
          refine L_pure 2 [(0, .slice a1 x1.length c1), (3, pt p2 0), (6, .int .u64 y9.1), (7, .bool y9.2), (8, .bool false), (18, I x2.Kind), (31, .bool (x2.Kind == 5))] (by kernel_rfl) fun b => ?_
          refine wpL_nil ?_
          refine th_n ?_
          obtain rfl := Option.some.inj hr
          have hst := (((hst.pull 2).pull 2).pull 2)
          exact (kpX [(0, .slice a1 x1.length c1), (3, pt p2 0), (6, .int .u64 y9.1), (7, .bool y9.2), (8, .bool false), (18, I x2.Kind), (31, .bool (x2.Kind == 5))] rfl hst)
def glacierlaw18_done_l2 (k : Nat) (v14 : (List T_glacierref18_Entry)) : Nat → Int → (List (List UInt8)) → Option ((List (List UInt8)))
  | 0, _, _ => none
  | j + 1, v19, v20 => (if decide (v19 < (v14.length : Int)) = true then (Option.bind (gt v14 v19) fun x8 => (if room (v20.length + ([x8.Name]).length) 16 = true then (glacierlaw18_done_l2 k v14 j (IntKind.i64.wrap (v19 + 1)) (v20 ++ ([x8.Name]))) else none)) else some (v20))
def glacierlaw18_done_l1 (k : Nat) (x2 : Int) (x3 : Int) (y9 : ((List T_history_Op))) : Nat → (List T_glacierref18_Entry) → (List T_history_Op) → Int → Option ((List T_history_Op))
  | 0, _, _, _ => none
  | j + 1, v14, v15, v16 => (if decide (v16 < (y9.length : Int)) = true then (Option.bind (gt y9 v16) fun x7 => (Option.bind (glacierref18_Find k v14 x7.Name) fun y11 => (Option.bind (Option.bind (if (x7.Kind == 2) = true then some ((x7.Kind == 2)) else some ((x7.Kind == 5))) fun y13 => (if y13 = true then (if (!y11.2) = true then some ((5 : Int), y11.1, []) else some ((0 : Int), y11.1, [])) else (if (x7.Kind == 3) = true then (if (!y11.2) = true then some ((5 : Int), (0 : Int), []) else some ((0 : Int), (0 : Int), [])) else (if (x7.Kind == 4) = true then (Option.bind (glacierlaw18_done_l2 k v14 k (0 : Int) ([])) fun y14 => some ((0 : Int), (0 : Int), y14)) else some ((0 : Int), (0 : Int), []))))) fun y12 => (Option.bind (glacierlaw18_told k ([(T_history_Op.mk x7.Kind x7.Name x7.Value x7.Start x7.End y12.1 y12.2.1 y12.2.2)])) fun y15 => (Option.bind (gt y15 0) fun x9 => (Option.bind (glacierref18_Do k v14 x9) fun y16 => (if room (v15.length + ([(T_history_Op.mk x7.Kind x7.Name x7.Value (mx2 (IntKind.i64.wrap ((IntKind.i64.wrap ((IntKind.i64.wrap (10 * v16)) + 5)) - (mn2 (mx2 x2 0) 20))) 0) (IntKind.i64.wrap ((IntKind.i64.wrap ((IntKind.i64.wrap (10 * v16)) + 5)) + (mn2 (mx2 x3 0) 20))) y12.1 y12.2.1 y12.2.2)]).length) 88 = true then (glacierlaw18_done_l1 k x2 x3 y9 j y16.1 (v15 ++ ([(T_history_Op.mk x7.Kind x7.Name x7.Value (mx2 (IntKind.i64.wrap ((IntKind.i64.wrap ((IntKind.i64.wrap (10 * v16)) + 5)) - (mn2 (mx2 x2 0) 20))) 0) (IntKind.i64.wrap ((IntKind.i64.wrap ((IntKind.i64.wrap (10 * v16)) + 5)) + (mn2 (mx2 x3 0) 20))) y12.1 y12.2.1 y12.2.2)])) (IntKind.i64.wrap (v16 + 1))) else none))))))) else some (v15))
def glacierlaw18_done (k : Nat) (x1 : (List T_history_Op)) (x2 : Int) (x3 : Int) : Option ((List T_history_Op)) := (Option.bind (glacierlaw18_few k x1 10) fun y9 => (Option.bind (glacierlaw18_done_l1 k x2 x3 y9 k ([]) ([]) (0 : Int)) fun y10 => some (y10)))
set_option maxRecDepth 100000 in
set_option maxHeartbeats 4000000 in
theorem glacierlaw18_done_ok {G w : World} {F : List HP} {R : Ending → World → Prop} (k : Nat) (x1 : (List T_history_Op)) (x2 : Int) (x3 : Int) (a1 : Option Addr) (c1 : Nat) (r : ((List T_history_Op))) (hst : St G w (dsl r_T_history_Op a1 c1 x1 :: F)) (hr : glacierlaw18_done k x1 x2 x3 = some r)
    (hR : ∀ (a16 : Option Addr) (c16 : Nat) w', St G w' (osl r_T_history_Op 32 a16 c16 r :: dsl r_T_history_Op a1 c1 x1 :: F) → R (.returned (.slice a16 r.length c16)) w') :
    Calls Try.prog 8 #[.slice a1 x1.length c1, I x2, I x3] w R := by
  unfold glacierlaw18_done at hr
  refine enter Try.func8 rfl [(0, .slice a1 x1.length c1), (1, I x2), (2, I x3)] rfl rfl fun b => ?_
  refine wp_seq ?_
  refine wp_reg ?_
  refine L_pure 1 [(0, .slice a1 x1.length c1), (1, I x2), (2, I x3)] (by kernel_rfl) fun b => ?_
  refine wpL_nil ?_
  refine th_n ?_
  refine wp_seq ?_
  refine wp_reg ?_
  refine L_pure 8 [(0, .slice a1 x1.length c1), (1, I (mn2 (mx2 x2 0) 20)), (2, I (mn2 (mx2 x3 0) 20))] (by kernel_rfl) fun b => ?_
  refine wpL_nil ?_
  refine th_n ?_
  refine wp_seq ?_
  refine wp_reg ?_
  refine L_op rfl (O_bs (T := 42) [] #[] hst (by kernel_rfl) (by kernel_rfl) rfl fun p8 w hst => ?_)
  have hst := osl_of_blk0 (ecs := []) r_T_glacierref18_Entry [] rfl (fun m => trivial) rfl hst
  refine L_pure 1 [(0, .slice a1 x1.length c1), (1, I (mn2 (mx2 x2 0) 20)), (2, I (mn2 (mx2 x3 0) 20)), (7, .slice (some ⟨p8, 0, none⟩) 0 0)] (by kernel_rfl) fun b => ?_
  refine wpL_nil ?_
  refine th_n ?_
  refine wp_seq ?_
  refine wp_reg ?_
  refine L_op rfl (O_bs (T := 32) [] #[] hst (by kernel_rfl) (by kernel_rfl) rfl fun p9 w hst => ?_)
  have hst := osl_of_blk0 (ecs := []) r_T_history_Op [] rfl (fun m => trivial) rfl hst
  refine L_pure 1 [(0, .slice a1 x1.length c1), (1, I (mn2 (mx2 x2 0) 20)), (2, I (mn2 (mx2 x3 0) 20)), (7, .slice (some ⟨p8, 0, none⟩) 0 0), (8, .slice (some ⟨p9, 0, none⟩) 0 0)] (by kernel_rfl) fun b => ?_
  refine wpL_nil ?_
  refine th_n ?_
  refine wp_seq ?_
  refine wp_seq ?_
  refine wp_reg ?_
  refine L_pure 1 [(1, I (mn2 (mx2 x2 0) 20)), (2, I (mn2 (mx2 x3 0) 20)), (7, .slice (some ⟨p8, 0, none⟩) 0 0), (8, .slice (some ⟨p9, 0, none⟩) 0 0), (25, .slice a1 x1.length c1)] (by kernel_rfl) fun b => ?_
  obtain ⟨y9, hy9, hr⟩ := bnd hr
  refine L_op rfl (O_call (vs := #[.slice a1 x1.length c1, I 10]) Try.call11 (by kernel_rfl) (glacierlaw18_few_ok k x1 10 a1 c1 y9 (hst.pull 2) hy9 fun a17 c17 w hst => ?_))
  refine CK_ret rfl ?_
  refine L_pure 2 [(1, I (mn2 (mx2 x2 0) 20)), (2, I (mn2 (mx2 x3 0) 20)), (7, .slice (some ⟨p8, 0, none⟩) 0 0), (8, .slice (some ⟨p9, 0, none⟩) 0 0), (26, .slice a17 y9.length c17), (27, I (y9.length : Int)), (28, I 0)] (by kernel_rfl) fun b => ?_
  refine wpL_nil ?_
  refine th_n ?_
  obtain ⟨y10, hy10, hk5⟩ := bnd hr
  clear hr
  refine Go.Hx.wp_cut (fun a w => ∃ (a22 : Option Addr) (c22 : Nat)(b : Nat → Value), a = mkF 104 b [(8, .slice a22 y10.length c22)] ∧ St G w (osl r_T_history_Op 32 a22 c22 y10 :: osl r_T_history_Op 32 a17 c17 y9 :: dsl r_T_history_Op a1 c1 x1 :: F)) ?_ ?_
  · rintro _ w ⟨a22, c22, b, rfl, hst⟩
    have hr := hk5
    refine th_n ?_
    refine wp_seq ?_
    refine wp_reg ?_
    refine L_pure 2 [(6, .slice a22 y10.length c22)] (by kernel_rfl) fun b => ?_
    refine wpL_nil ?_
    refine th_n ?_
    refine wp_ret ?_
    refine ret1 rfl rfl ?_
    obtain rfl := Option.some.inj hr
    have hst := (((hst.pull 2).pull 1).cut 2 1)
    exact hR a22 c22 _ hst
  · have hst := ((((hst.pull 1).pull 1).pull 2).pull 3)
    refine wp_block ?_
    refine wp_loop_fuel (fun j a w => ∃ (v14 : (List T_glacierref18_Entry)) (v15 : (List T_history_Op)) (v16 : Int) (a18 : Option Addr) (c18 : Nat) (a19 : Option Addr) (c19 : Nat) (b : Nat → Value), a = mkF 104 b [(1, I (mn2 (mx2 x2 0) 20)), (2, I (mn2 (mx2 x3 0) 20)), (7, .slice a18 v14.length c18), (8, .slice a19 v15.length c19), (26, .slice a17 y9.length c17), (27, I (y9.length : Int)), (28, I v16)] ∧ St G w (osl r_T_glacierref18_Entry 42 a18 c18 v14 :: osl r_T_history_Op 32 a19 c19 v15 :: osl r_T_history_Op 32 a17 c17 y9 :: dsl r_T_history_Op a1 c1 x1 :: F) ∧ glacierlaw18_done_l1 k x2 x3 y9 j v14 v15 v16 = some y10) (k := k) ⟨[], [], (0 : Int), (some ⟨p8, 0, none⟩), 0, (some ⟨p9, 0, none⟩), 0, (kpX [(1, I (mn2 (mx2 x2 0) 20)), (2, I (mn2 (mx2 x3 0) 20)), (7, .slice (some ⟨p8, 0, none⟩) 0 0), (8, .slice (some ⟨p9, 0, none⟩) 0 0), (26, .slice a17 y9.length c17), (27, I (y9.length : Int)), (28, I 0)] rfl ⟨hst, hy10⟩)⟩ ?_ ?_
    · rintro _ _ ⟨_, _, _, _, _, _, _, _, _, _, h⟩
      rw [glacierlaw18_done_l1] at h
      cases h
    · rintro j _ w ⟨v14, v15, v16, a18, c18, a19, c19, b, rfl, hst, hr⟩
      rw [glacierlaw18_done_l1] at hr
      refine wp_seq ?_
      refine wp_reg ?_
      refine L_pure 1 [(1, I (mn2 (mx2 x2 0) 20)), (2, I (mn2 (mx2 x3 0) 20)), (7, .slice a18 v14.length c18), (8, .slice a19 v15.length c19), (26, .slice a17 y9.length c17), (27, I (y9.length : Int)), (28, I v16), (29, .bool (decide (v16 < (y9.length : Int))))] (by kernel_rfl) fun b => ?_
      refine wpL_nil ?_
      refine th_n ?_
      refine wp_seq ?_
      refine wp_cond_mkF (t := decide (v16 < (y9.length : Int))) rfl (fun h => ?_) (fun h => ?_)
      · have hr := (if_pos h).symm.trans hr
        refine wp_skip ?_
        refine th_n ?_
        refine wp_seq ?_
        refine wp_block ?_
        refine wp_seq ?_
        refine wp_reg ?_
        refine L_pure 1 [(1, I (mn2 (mx2 x2 0) 20)), (2, I (mn2 (mx2 x3 0) 20)), (7, .slice a18 v14.length c18), (8, .slice a19 v15.length c19), (26, .slice a17 y9.length c17), (27, I (y9.length : Int)), (28, I v16), (30, I v16)] (by kernel_rfl) fun b => ?_
        obtain ⟨x7, hx4, hr⟩ := bnd hr
        refine L_op rfl (O_run (v := pt (ab a17) (ao a17 + v16.toNat * 8)) (w' := w) (R_ia L22 rfl rfl (osl_addr (hst.pull 2) hx4) (gt_some hx4).1 (gt_some hx4).2.1) rfl rfl ?_)
        obtain ⟨q4, hc4, hst⟩ := osl_cells (hst.pull 2) hx4
        refine L_op rfl (O_run (v := .agg #[I x7.Kind, S x7.Name, .int .u64 x7.Value, I x7.Start, I x7.End, I x7.Err, .int .u64 x7.Got, .slice q4.1 x7.Names.length q4.2]) (w' := w) (R_loadAt (off := ao a17 + v16.toNat * 8) (j := 0) hc4 rfl rfl) rfl rfl ?_)
        refine L_op rfl (O_alloc (i := Try.t32) (z := .agg #[I 0, S ([]), .int .u64 0, I 0, I 0, I 0, .int .u64 0, .slice none 0 0]) [I 0, S ([]), .int .u64 0, I 0, I 0, I 0, .int .u64 0, .slice none 0 0] hst rfl rfl rfl rfl fun p10 w hst => ?_)
        refine L_pure 1 [(1, I (mn2 (mx2 x2 0) 20)), (2, I (mn2 (mx2 x3 0) 20)), (7, .slice a18 v14.length c18), (8, .slice a19 v15.length c19), (9, I v16), (10, pt p10 0), (26, .slice a17 y9.length c17), (27, I (y9.length : Int)), (28, I v16), (32, .agg #[I x7.Kind, S x7.Name, .int .u64 x7.Value, I x7.Start, I x7.End, I x7.Err, .int .u64 x7.Got, .slice q4.1 x7.Names.length q4.2])] (by kernel_rfl) fun b => ?_
        refine L_op rfl (O_store [I x7.Kind, S x7.Name, .int .u64 x7.Value, I x7.Start, I x7.End, I x7.Err, .int .u64 x7.Got, .slice q4.1 x7.Names.length q4.2] hst rfl rfl (by kernel_rfl) fun w hst => ?_)
        refine wpL_nil ?_
        refine th_n ?_
        refine wp_seq ?_
        refine wp_reg ?_
        refine L_pure 2 [(1, I (mn2 (mx2 x2 0) 20)), (2, I (mn2 (mx2 x3 0) 20)), (7, .slice a18 v14.length c18), (8, .slice a19 v15.length c19), (9, I v16), (10, pt p10 0), (26, .slice a17 y9.length c17), (27, I (y9.length : Int)), (28, I v16), (34, .slice a18 v14.length c18), (35, pt p10 1)] (by kernel_rfl) fun b => ?_
        refine L_op rfl (O_run (v := S x7.Name) (w' := w) (R_load hst rfl rfl) rfl rfl ?_)
        obtain ⟨y11, hy11, hr⟩ := bnd hr
        refine L_op rfl (O_call (vs := #[.slice a18 v14.length c18, S x7.Name]) Try.call12 (by kernel_rfl) (glacierref18_Find_ok k v14 x7.Name a18 c18 y11 (hst.pull 3) hy11 fun w hst => ?_))
        refine CK_ret rfl ?_
        refine L_pure 5 [(1, I (mn2 (mx2 x2 0) 20)), (2, I (mn2 (mx2 x3 0) 20)), (7, .slice a18 v14.length c18), (8, .slice a19 v15.length c19), (9, I v16), (10, pt p10 0), (11, .int .u64 y11.1), (12, .bool y11.2), (26, .slice a17 y9.length c17), (27, I (y9.length : Int)), (28, I v16)] (by kernel_rfl) fun b => ?_
        refine wpL_nil ?_
        refine th_n ?_
        refine wp_seq ?_
        refine wp_reg ?_
        refine L_pure 1 [(1, I (mn2 (mx2 x2 0) 20)), (2, I (mn2 (mx2 x3 0) 20)), (7, .slice a18 v14.length c18), (8, .slice a19 v15.length c19), (9, I v16), (10, pt p10 0), (11, .int .u64 y11.1), (12, .bool y11.2), (26, .slice a17 y9.length c17), (27, I (y9.length : Int)), (28, I v16), (40, pt p10 5)] (by kernel_rfl) fun b => ?_
        refine L_op rfl (O_store [I x7.Kind, S x7.Name, .int .u64 x7.Value, I x7.Start, I x7.End, I 0, .int .u64 x7.Got, .slice q4.1 x7.Names.length q4.2] (hst.pull 1) rfl rfl (by kernel_rfl) fun w hst => ?_)
        refine wpL_nil ?_
        refine th_n ?_
        refine wp_seq ?_
        refine wp_reg ?_
        refine L_pure 1 [(1, I (mn2 (mx2 x2 0) 20)), (2, I (mn2 (mx2 x3 0) 20)), (7, .slice a18 v14.length c18), (8, .slice a19 v15.length c19), (9, I v16), (10, pt p10 0), (11, .int .u64 y11.1), (12, .bool y11.2), (26, .slice a17 y9.length c17), (27, I (y9.length : Int)), (28, I v16), (41, pt p10 6)] (by kernel_rfl) fun b => ?_
        refine L_op rfl (O_store [I x7.Kind, S x7.Name, .int .u64 x7.Value, I x7.Start, I x7.End, I 0, .int .u64 0, .slice q4.1 x7.Names.length q4.2] hst rfl rfl (by kernel_rfl) fun w hst => ?_)
        refine wpL_nil ?_
        refine th_n ?_
        refine wp_seq ?_
        refine wp_reg ?_
        refine L_pure 1 [(1, I (mn2 (mx2 x2 0) 20)), (2, I (mn2 (mx2 x3 0) 20)), (7, .slice a18 v14.length c18), (8, .slice a19 v15.length c19), (9, I v16), (10, pt p10 0), (11, .int .u64 y11.1), (12, .bool y11.2), (26, .slice a17 y9.length c17), (27, I (y9.length : Int)), (28, I v16), (42, pt p10 7)] (by kernel_rfl) fun b => ?_
        refine L_op rfl (O_store [I x7.Kind, S x7.Name, .int .u64 x7.Value, I x7.Start, I x7.End, I 0, .int .u64 0, .slice none 0 0] hst rfl rfl (by kernel_rfl) fun w hst => ?_)
        refine wpL_nil ?_
        refine th_n ?_
        obtain ⟨y12, hy12, hk6⟩ := bnd hr
        clear hr
        refine wp_seq_cut (fun a w => ∃ (a23 : Option Addr) (c23 : Nat)(b : Nat → Value), a = mkF 104 b [(1, I (mn2 (mx2 x2 0) 20)), (2, I (mn2 (mx2 x3 0) 20)), (7, .slice a18 v14.length c18), (8, .slice a19 v15.length c19), (9, I v16), (10, pt p10 0), (26, .slice a17 y9.length c17), (27, I (y9.length : Int)), (28, I v16)] ∧ St G w (osl rS 9 a23 c23 y12.2.2 :: blk p10 (cl [I x7.Kind, S x7.Name, .int .u64 x7.Value, I x7.Start, I x7.End, I y12.1, .int .u64 y12.2.1, .slice a23 y12.2.2.length c23] 32) :: osl r_T_glacierref18_Entry 42 a18 c18 v14 :: dsl rS q4.1 q4.2 x7.Names :: osl r_T_history_Op 32 a17 c17 y9 :: osl r_T_history_Op 32 a19 c19 v15 :: dsl r_T_history_Op a1 c1 x1 :: F)) ?_ ?_
        · rintro _ w ⟨a23, c23, b, rfl, hst⟩
          have hr := hk6
          refine wp_seq ?_
          refine wp_reg ?_
          refine L_pure 1 [(1, I (mn2 (mx2 x2 0) 20)), (2, I (mn2 (mx2 x3 0) 20)), (8, .slice a19 v15.length c19), (9, I v16), (10, pt p10 0), (26, .slice a17 y9.length c17), (27, I (y9.length : Int)), (28, I v16), (75, .slice a18 v14.length c18)] (by kernel_rfl) fun b => ?_
          refine L_op rfl (O_run (v := .agg #[I x7.Kind, S x7.Name, .int .u64 x7.Value, I x7.Start, I x7.End, I y12.1, .int .u64 y12.2.1, .slice a23 y12.2.2.length c23]) (w' := w) (R_load (hst.pull 1) rfl rfl) rfl rfl ?_)
          have hst := osl_freeze hst
          refine L_op rfl (O_bs (T := 32) [I x7.Kind, S x7.Name, .int .u64 x7.Value, I x7.Start, I x7.End, I y12.1, .int .u64 y12.2.1, .slice a23 y12.2.2.length c23] #[(0, .agg #[I x7.Kind, S x7.Name, .int .u64 x7.Value, I x7.Start, I x7.End, I y12.1, .int .u64 y12.2.1, .slice a23 y12.2.2.length c23])] hst (by kernel_rfl) (by kernel_rfl) rfl fun p13 w hst => ?_)
          have hst := (hst.pull 1).dup
          have hst := ((hst.pull 2).pull 1)
          have hst := osl_of_blk (ecs := [[I x7.Kind, S x7.Name, .int .u64 x7.Value, I x7.Start, I x7.End, I y12.1, .int .u64 y12.2.1, .slice a23 y12.2.2.length c23]]) r_T_history_Op [(T_history_Op.mk x7.Kind x7.Name x7.Value x7.Start x7.End y12.1 y12.2.1 y12.2.2)] rfl (fun m h => ⟨⟨((a23, c23)), rfl, h⟩, trivial⟩) rfl hst
          obtain ⟨y15, hy15, hr⟩ := bnd hr
          refine L_op rfl (O_call (vs := #[.slice (some ⟨p13, 0, none⟩) ([(T_history_Op.mk x7.Kind x7.Name x7.Value x7.Start x7.End y12.1 y12.2.1 y12.2.2)]).length 1]) Try.call14 (by kernel_rfl) (glacierlaw18_told_ok k ([(T_history_Op.mk x7.Kind x7.Name x7.Value x7.Start x7.End y12.1 y12.2.1 y12.2.2)]) (some ⟨p13, 0, none⟩) 1 y15 hst hy15 fun a28 c28 w hst => ?_))
          refine CK_ret rfl ?_
          obtain ⟨x9, hx6, hr⟩ := bnd hr
          refine L_op rfl (O_run (v := pt (ab a28) (ao a28 + (0 : Int).toNat * 8)) (w' := w) (R_ia L47 rfl rfl (osl_addr hst hx6) (gt_some hx6).1 (gt_some hx6).2.1) rfl rfl ?_)
          obtain ⟨q6, hc6, hst⟩ := osl_cells hst hx6
          refine L_op rfl (O_run (v := .agg #[I x9.Kind, S x9.Name, .int .u64 x9.Value, I x9.Start, I x9.End, I x9.Err, .int .u64 x9.Got, .slice q6.1 x9.Names.length q6.2]) (w' := w) (R_loadAt (off := ao a28 + (0 : Int).toNat * 8) (j := 0) hc6 rfl rfl) rfl rfl ?_)
          obtain ⟨y16, hy16, hr⟩ := bnd hr
          refine L_op rfl (O_call (vs := #[.slice a18 v14.length c18, .agg #[I x9.Kind, S x9.Name, .int .u64 x9.Value, I x9.Start, I x9.End, I x9.Err, .int .u64 x9.Got, .slice q6.1 x9.Names.length q6.2]]) Try.call13 (by kernel_rfl) (glacierref18_Do_ok k v14 x9 a18 c18 q6.1 q6.2 y16 (hst.pull 5) hy16 fun a29 c29 w hst => ?_))
          refine CK_ret rfl ?_
          refine L_pure 5 [(1, I (mn2 (mx2 x2 0) 20)), (2, I (mn2 (mx2 x3 0) 20)), (8, .slice a19 v15.length c19), (9, I v16), (10, pt p10 0), (15, .slice a29 y16.1.length c29), (26, .slice a17 y9.length c17), (27, I (y9.length : Int)), (28, I v16)] (by kernel_rfl) fun b => ?_
          refine wpL_nil ?_
          refine th_n ?_
          refine wp_seq ?_
          refine wp_reg ?_
          refine L_pure 2 [(1, I (mn2 (mx2 x2 0) 20)), (2, I (mn2 (mx2 x3 0) 20)), (7, .slice a29 y16.1.length c29), (8, .slice a19 v15.length c19), (9, I v16), (10, pt p10 0), (26, .slice a17 y9.length c17), (27, I (y9.length : Int)), (28, I v16)] (by kernel_rfl) fun b => ?_
          refine wpL_nil ?_
          refine th_n ?_
          refine wp_seq ?_
          refine wp_reg ?_
          refine L_pure 7 [(1, I (mn2 (mx2 x2 0) 20)), (2, I (mn2 (mx2 x3 0) 20)), (7, .slice a29 y16.1.length c29), (8, .slice a19 v15.length c19), (9, I v16), (10, pt p10 0), (26, .slice a17 y9.length c17), (27, I (y9.length : Int)), (28, I v16), (90, I (mx2 (IntKind.i64.wrap ((IntKind.i64.wrap ((IntKind.i64.wrap (10 * v16)) + 5)) - (mn2 (mx2 x2 0) 20))) 0)), (91, pt p10 3)] (by kernel_rfl) fun b => ?_
          refine L_op rfl (O_store [I x7.Kind, S x7.Name, .int .u64 x7.Value, I (mx2 (IntKind.i64.wrap ((IntKind.i64.wrap ((IntKind.i64.wrap (10 * v16)) + 5)) - (mn2 (mx2 x2 0) 20))) 0), I x7.End, I y12.1, .int .u64 y12.2.1, .slice a23 y12.2.2.length c23] (hst.pull 5) rfl rfl (by kernel_rfl) fun w hst => ?_)
          refine wpL_nil ?_
          refine th_n ?_
          refine wp_seq ?_
          refine wp_reg ?_
          refine L_pure 6 [(1, I (mn2 (mx2 x2 0) 20)), (2, I (mn2 (mx2 x3 0) 20)), (7, .slice a29 y16.1.length c29), (8, .slice a19 v15.length c19), (10, pt p10 0), (26, .slice a17 y9.length c17), (27, I (y9.length : Int)), (28, I v16), (96, I (IntKind.i64.wrap ((IntKind.i64.wrap ((IntKind.i64.wrap (10 * v16)) + 5)) + (mn2 (mx2 x3 0) 20)))), (97, pt p10 4)] (by kernel_rfl) fun b => ?_
          refine L_op rfl (O_store [I x7.Kind, S x7.Name, .int .u64 x7.Value, I (mx2 (IntKind.i64.wrap ((IntKind.i64.wrap ((IntKind.i64.wrap (10 * v16)) + 5)) - (mn2 (mx2 x2 0) 20))) 0), I (IntKind.i64.wrap ((IntKind.i64.wrap ((IntKind.i64.wrap (10 * v16)) + 5)) + (mn2 (mx2 x3 0) 20))), I y12.1, .int .u64 y12.2.1, .slice a23 y12.2.2.length c23] hst rfl rfl (by kernel_rfl) fun w hst => ?_)
          refine wpL_nil ?_
          refine th_n ?_
          refine wp_reg ?_
          refine L_pure 1 [(1, I (mn2 (mx2 x2 0) 20)), (2, I (mn2 (mx2 x3 0) 20)), (7, .slice a29 y16.1.length c29), (10, pt p10 0), (26, .slice a17 y9.length c17), (27, I (y9.length : Int)), (28, I v16), (98, .slice a19 v15.length c19)] (by kernel_rfl) fun b => ?_
          refine L_op rfl (O_run (v := .agg #[I x7.Kind, S x7.Name, .int .u64 x7.Value, I (mx2 (IntKind.i64.wrap ((IntKind.i64.wrap ((IntKind.i64.wrap (10 * v16)) + 5)) - (mn2 (mx2 x2 0) 20))) 0), I (IntKind.i64.wrap ((IntKind.i64.wrap ((IntKind.i64.wrap (10 * v16)) + 5)) + (mn2 (mx2 x3 0) 20))), I y12.1, .int .u64 y12.2.1, .slice a23 y12.2.2.length c23]) (w' := w) (R_load hst rfl rfl) rfl rfl ?_)
          refine L_op rfl (O_bs (T := 32) [I x7.Kind, S x7.Name, .int .u64 x7.Value, I (mx2 (IntKind.i64.wrap ((IntKind.i64.wrap ((IntKind.i64.wrap (10 * v16)) + 5)) - (mn2 (mx2 x2 0) 20))) 0), I (IntKind.i64.wrap ((IntKind.i64.wrap ((IntKind.i64.wrap (10 * v16)) + 5)) + (mn2 (mx2 x3 0) 20))), I y12.1, .int .u64 y12.2.1, .slice a23 y12.2.2.length c23] #[(0, .agg #[I x7.Kind, S x7.Name, .int .u64 x7.Value, I (mx2 (IntKind.i64.wrap ((IntKind.i64.wrap ((IntKind.i64.wrap (10 * v16)) + 5)) - (mn2 (mx2 x2 0) 20))) 0), I (IntKind.i64.wrap ((IntKind.i64.wrap ((IntKind.i64.wrap (10 * v16)) + 5)) + (mn2 (mx2 x3 0) 20))), I y12.1, .int .u64 y12.2.1, .slice a23 y12.2.2.length c23])] hst (by kernel_rfl) (by kernel_rfl) rfl fun p14 w hst => ?_)
          have hst := (hst.pull 6).dup
          have hst := ((hst.pull 2).pull 1)
          have hst := osl_of_blk (ecs := [[I x7.Kind, S x7.Name, .int .u64 x7.Value, I (mx2 (IntKind.i64.wrap ((IntKind.i64.wrap ((IntKind.i64.wrap (10 * v16)) + 5)) - (mn2 (mx2 x2 0) 20))) 0), I (IntKind.i64.wrap ((IntKind.i64.wrap ((IntKind.i64.wrap (10 * v16)) + 5)) + (mn2 (mx2 x3 0) 20))), I y12.1, .int .u64 y12.2.1, .slice a23 y12.2.2.length c23]]) r_T_history_Op [(T_history_Op.mk x7.Kind x7.Name x7.Value (mx2 (IntKind.i64.wrap ((IntKind.i64.wrap ((IntKind.i64.wrap (10 * v16)) + 5)) - (mn2 (mx2 x2 0) 20))) 0) (IntKind.i64.wrap ((IntKind.i64.wrap ((IntKind.i64.wrap (10 * v16)) + 5)) + (mn2 (mx2 x3 0) 20))) y12.1 y12.2.1 y12.2.2)] rfl (fun m h => ⟨⟨((a23, c23)), rfl, h⟩, trivial⟩) rfl hst
          obtain ⟨hb4, hr⟩ := chk hr
          refine L_op rfl (O_app_o L22 (hst.pull 9) rfl rfl hb4 rfl fun a30 c30 w hst => ?_)
          refine L_pure 1 [(1, I (mn2 (mx2 x2 0) 20)), (2, I (mn2 (mx2 x3 0) 20)), (7, .slice a29 y16.1.length c29), (8, .slice a30 (v15 ++ ([(T_history_Op.mk x7.Kind x7.Name x7.Value (mx2 (IntKind.i64.wrap ((IntKind.i64.wrap ((IntKind.i64.wrap (10 * v16)) + 5)) - (mn2 (mx2 x2 0) 20))) 0) (IntKind.i64.wrap ((IntKind.i64.wrap ((IntKind.i64.wrap (10 * v16)) + 5)) + (mn2 (mx2 x3 0) 20))) y12.1 y12.2.1 y12.2.2)])).length c30), (26, .slice a17 y9.length c17), (27, I (y9.length : Int)), (28, I v16)] (by kernel_rfl) fun b => ?_
          refine wpL_nil ?_
          refine ib_n (th_n ?_)
          refine wp_reg ?_
          refine L_pure 2 [(1, I (mn2 (mx2 x2 0) 20)), (2, I (mn2 (mx2 x3 0) 20)), (7, .slice a29 y16.1.length c29), (8, .slice a30 (v15 ++ ([(T_history_Op.mk x7.Kind x7.Name x7.Value (mx2 (IntKind.i64.wrap ((IntKind.i64.wrap ((IntKind.i64.wrap (10 * v16)) + 5)) - (mn2 (mx2 x2 0) 20))) 0) (IntKind.i64.wrap ((IntKind.i64.wrap ((IntKind.i64.wrap (10 * v16)) + 5)) + (mn2 (mx2 x3 0) 20))) y12.1 y12.2.1 y12.2.2)])).length c30), (26, .slice a17 y9.length c17), (27, I (y9.length : Int)), (28, I (IntKind.i64.wrap (v16 + 1)))] (by kernel_rfl) fun b => ?_
          refine wpL_nil ?_
          refine th_n ?_
          have hst := (((((hst.pull 10).pull 10).pull 2).pull 6).cut 4 7)
          exact ⟨y16.1, (v15 ++ ([(T_history_Op.mk x7.Kind x7.Name x7.Value (mx2 (IntKind.i64.wrap ((IntKind.i64.wrap ((IntKind.i64.wrap (10 * v16)) + 5)) - (mn2 (mx2 x2 0) 20))) 0) (IntKind.i64.wrap ((IntKind.i64.wrap ((IntKind.i64.wrap (10 * v16)) + 5)) + (mn2 (mx2 x3 0) 20))) y12.1 y12.2.1 y12.2.2)])), (IntKind.i64.wrap (v16 + 1)), a29, c29, a30, c30, (kpX [(1, I (mn2 (mx2 x2 0) 20)), (2, I (mn2 (mx2 x3 0) 20)), (7, .slice a29 y16.1.length c29), (8, .slice a30 (v15 ++ ([(T_history_Op.mk x7.Kind x7.Name x7.Value (mx2 (IntKind.i64.wrap ((IntKind.i64.wrap ((IntKind.i64.wrap (10 * v16)) + 5)) - (mn2 (mx2 x2 0) 20))) 0) (IntKind.i64.wrap ((IntKind.i64.wrap ((IntKind.i64.wrap (10 * v16)) + 5)) + (mn2 (mx2 x3 0) 20))) y12.1 y12.2.1 y12.2.2)])).length c30), (26, .slice a17 y9.length c17), (27, I (y9.length : Int)), (28, I (IntKind.i64.wrap (v16 + 1)))] rfl ⟨hst, hr⟩)⟩
        · have hr := hy12
          refine wp_seq ?_
          refine wp_reg ?_
          refine L_pure 1 [(1, I (mn2 (mx2 x2 0) 20)), (2, I (mn2 (mx2 x3 0) 20)), (7, .slice a18 v14.length c18), (8, .slice a19 v15.length c19), (9, I v16), (10, pt p10 0), (11, .int .u64 y11.1), (12, .bool y11.2), (26, .slice a17 y9.length c17), (27, I (y9.length : Int)), (28, I v16), (43, pt p10 0)] (by kernel_rfl) fun b => ?_
          refine L_op rfl (O_run (v := I x7.Kind) (w' := w) (R_load hst rfl rfl) rfl rfl ?_)
          refine wpL_nil ?_
          refine th_n ?_
          refine wp_block ?_
          obtain ⟨y13, hy13, hk7⟩ := bnd hr
          clear hr
          refine wp_seq_cut (fun a w => ∃ (b : Nat → Value), a = mkF 104 b [(1, I (mn2 (mx2 x2 0) 20)), (2, I (mn2 (mx2 x3 0) 20)), (7, .slice a18 v14.length c18), (8, .slice a19 v15.length c19), (9, I v16), (10, pt p10 0), (11, .int .u64 y11.1), (12, .bool y11.2), (26, .slice a17 y9.length c17), (27, I (y9.length : Int)), (28, I v16), (44, I x7.Kind), (45, .bool y13)] ∧ St G w (blk p10 (cl [I x7.Kind, S x7.Name, .int .u64 x7.Value, I x7.Start, I x7.End, I 0, .int .u64 0, .slice none 0 0] 32) :: osl r_T_glacierref18_Entry 42 a18 c18 v14 :: dsl rS q4.1 q4.2 x7.Names :: osl r_T_history_Op 32 a17 c17 y9 :: osl r_T_history_Op 32 a19 c19 v15 :: dsl r_T_history_Op a1 c1 x1 :: F)) ?_ ?_
          · rintro _ w ⟨b, rfl, hst⟩
            have hr := hk7
            refine wp_cond_mkF (t := y13) rfl (fun h => ?_) (fun h => ?_)
            · have hr := (if_pos h).symm.trans hr
              refine wp_seq ?_
              refine wp_reg ?_
              refine L_pure 2 [(1, I (mn2 (mx2 x2 0) 20)), (2, I (mn2 (mx2 x3 0) 20)), (7, .slice a18 v14.length c18), (8, .slice a19 v15.length c19), (9, I v16), (10, pt p10 0), (12, .bool y11.2), (26, .slice a17 y9.length c17), (27, I (y9.length : Int)), (28, I v16), (48, .int .u64 y11.1), (49, pt p10 6)] (by kernel_rfl) fun b => ?_
              refine L_op rfl (O_store [I x7.Kind, S x7.Name, .int .u64 x7.Value, I x7.Start, I x7.End, I 0, .int .u64 y11.1, .slice none 0 0] hst rfl rfl (by kernel_rfl) fun w hst => ?_)
              refine wpL_nil ?_
              refine th_n ?_
              refine wp_seq ?_
              refine wp_reg ?_
              refine L_pure 2 [(1, I (mn2 (mx2 x2 0) 20)), (2, I (mn2 (mx2 x3 0) 20)), (7, .slice a18 v14.length c18), (8, .slice a19 v15.length c19), (9, I v16), (10, pt p10 0), (26, .slice a17 y9.length c17), (27, I (y9.length : Int)), (28, I v16), (51, .bool (!y11.2))] (by kernel_rfl) fun b => ?_
              refine wpL_nil ?_
              refine th_n ?_
              refine wp_cond_mkF (t := (!y11.2)) rfl (fun h => ?_) (fun h => ?_)
              · have hr := (if_pos h).symm.trans hr
                refine wp_reg ?_
                refine L_pure 1 [(1, I (mn2 (mx2 x2 0) 20)), (2, I (mn2 (mx2 x3 0) 20)), (7, .slice a18 v14.length c18), (8, .slice a19 v15.length c19), (9, I v16), (10, pt p10 0), (26, .slice a17 y9.length c17), (27, I (y9.length : Int)), (28, I v16), (52, pt p10 5)] (by kernel_rfl) fun b => ?_
                refine L_op rfl (O_store [I x7.Kind, S x7.Name, .int .u64 x7.Value, I x7.Start, I x7.End, I 5, .int .u64 y11.1, .slice none 0 0] hst rfl rfl (by kernel_rfl) fun w hst => ?_)
                refine wpL_nil ?_
                refine ib_n (th_n ?_)
                obtain rfl := Option.some.inj hr
                have hst := osl_nil rS 9 hst
                have hst := (((((((hst.pull 6).pull 6).pull 6).pull 6).pull 6).pull 6).pull 6)
                exact ⟨none, 0, (kpX [(1, I (mn2 (mx2 x2 0) 20)), (2, I (mn2 (mx2 x3 0) 20)), (7, .slice a18 v14.length c18), (8, .slice a19 v15.length c19), (9, I v16), (10, pt p10 0), (26, .slice a17 y9.length c17), (27, I (y9.length : Int)), (28, I v16)] rfl hst)⟩
              · have hr := (if_neg (by rw [h]; exact Bool.false_ne_true)).symm.trans hr
                refine wp_skip ?_
                refine ib_n (th_n ?_)
                obtain rfl := Option.some.inj hr
                have hst := osl_nil rS 9 hst
                have hst := (((((((hst.pull 6).pull 6).pull 6).pull 6).pull 6).pull 6).pull 6)
                exact ⟨none, 0, (kpX [(1, I (mn2 (mx2 x2 0) 20)), (2, I (mn2 (mx2 x3 0) 20)), (7, .slice a18 v14.length c18), (8, .slice a19 v15.length c19), (9, I v16), (10, pt p10 0), (26, .slice a17 y9.length c17), (27, I (y9.length : Int)), (28, I v16)] rfl hst)⟩
            · have hr := (if_neg (by rw [h]; exact Bool.false_ne_true)).symm.trans hr
              refine wp_seq ?_
              refine wp_reg ?_
              refine L_pure 2 [(1, I (mn2 (mx2 x2 0) 20)), (2, I (mn2 (mx2 x3 0) 20)), (7, .slice a18 v14.length c18), (8, .slice a19 v15.length c19), (9, I v16), (10, pt p10 0), (12, .bool y11.2), (26, .slice a17 y9.length c17), (27, I (y9.length : Int)), (28, I v16), (44, I x7.Kind), (53, .bool (x7.Kind == 3))] (by kernel_rfl) fun b => ?_
              refine wpL_nil ?_
              refine th_n ?_
              refine wp_cond_mkF (t := (x7.Kind == 3)) rfl (fun h => ?_) (fun h => ?_)
              · have hr := (if_pos h).symm.trans hr
                refine wp_seq ?_
                refine wp_reg ?_
                refine L_pure 2 [(1, I (mn2 (mx2 x2 0) 20)), (2, I (mn2 (mx2 x3 0) 20)), (7, .slice a18 v14.length c18), (8, .slice a19 v15.length c19), (9, I v16), (10, pt p10 0), (26, .slice a17 y9.length c17), (27, I (y9.length : Int)), (28, I v16), (56, .bool (!y11.2))] (by kernel_rfl) fun b => ?_
                refine wpL_nil ?_
                refine th_n ?_
                refine wp_cond_mkF (t := (!y11.2)) rfl (fun h => ?_) (fun h => ?_)
                · have hr := (if_pos h).symm.trans hr
                  refine wp_reg ?_
                  refine L_pure 1 [(1, I (mn2 (mx2 x2 0) 20)), (2, I (mn2 (mx2 x3 0) 20)), (7, .slice a18 v14.length c18), (8, .slice a19 v15.length c19), (9, I v16), (10, pt p10 0), (26, .slice a17 y9.length c17), (27, I (y9.length : Int)), (28, I v16), (57, pt p10 5)] (by kernel_rfl) fun b => ?_
                  refine L_op rfl (O_store [I x7.Kind, S x7.Name, .int .u64 x7.Value, I x7.Start, I x7.End, I 5, .int .u64 0, .slice none 0 0] hst rfl rfl (by kernel_rfl) fun w hst => ?_)
                  refine wpL_nil ?_
                  refine ib_n (th_n ?_)
                  obtain rfl := Option.some.inj hr
                  have hst := osl_nil rS 9 hst
                  have hst := (((((((hst.pull 6).pull 6).pull 6).pull 6).pull 6).pull 6).pull 6)
                  exact ⟨none, 0, (kpX [(1, I (mn2 (mx2 x2 0) 20)), (2, I (mn2 (mx2 x3 0) 20)), (7, .slice a18 v14.length c18), (8, .slice a19 v15.length c19), (9, I v16), (10, pt p10 0), (26, .slice a17 y9.length c17), (27, I (y9.length : Int)), (28, I v16)] rfl hst)⟩
                · have hr := (if_neg (by rw [h]; exact Bool.false_ne_true)).symm.trans hr
                  refine wp_skip ?_
                  refine ib_n (th_n ?_)
                  obtain rfl := Option.some.inj hr
                  have hst := osl_nil rS 9 hst
                  have hst := (((((((hst.pull 6).pull 6).pull 6).pull 6).pull 6).pull 6).pull 6)
                  exact ⟨none, 0, (kpX [(1, I (mn2 (mx2 x2 0) 20)), (2, I (mn2 (mx2 x3 0) 20)), (7, .slice a18 v14.length c18), (8, .slice a19 v15.length c19), (9, I v16), (10, pt p10 0), (26, .slice a17 y9.length c17), (27, I (y9.length : Int)), (28, I v16)] rfl hst)⟩
              · have hr := (if_neg (by rw [h]; exact Bool.false_ne_true)).symm.trans hr
                refine wp_seq ?_
                refine wp_reg ?_
                refine L_pure 2 [(1, I (mn2 (mx2 x2 0) 20)), (2, I (mn2 (mx2 x3 0) 20)), (7, .slice a18 v14.length c18), (8, .slice a19 v15.length c19), (9, I v16), (10, pt p10 0), (26, .slice a17 y9.length c17), (27, I (y9.length : Int)), (28, I v16), (58, .bool (x7.Kind == 4))] (by kernel_rfl) fun b => ?_
                refine wpL_nil ?_
                refine th_n ?_
                refine wp_cond_mkF (t := (x7.Kind == 4)) rfl (fun h => ?_) (fun h => ?_)
                · have hr := (if_pos h).symm.trans hr
                  refine wp_seq ?_
                  refine wp_reg ?_
                  refine L_pure 3 [(1, I (mn2 (mx2 x2 0) 20)), (2, I (mn2 (mx2 x3 0) 20)), (7, .slice a18 v14.length c18), (8, .slice a19 v15.length c19), (9, I v16), (10, pt p10 0), (26, .slice a17 y9.length c17), (27, I (y9.length : Int)), (28, I v16), (60, .slice a18 v14.length c18), (61, I (v14.length : Int)), (62, I 0)] (by kernel_rfl) fun b => ?_
                  refine wpL_nil ?_
                  refine th_n ?_
                  obtain ⟨y14, hy14, hk8⟩ := bnd hr
                  clear hr
                  refine Go.Hx.wp_cut (fun a w => ∃ (a26 : Option Addr) (c26 : Nat)(b : Nat → Value), a = mkF 104 b [(1, I (mn2 (mx2 x2 0) 20)), (2, I (mn2 (mx2 x3 0) 20)), (7, .slice a18 v14.length c18), (8, .slice a19 v15.length c19), (9, I v16), (10, pt p10 0), (26, .slice a17 y9.length c17), (27, I (y9.length : Int)), (28, I v16)] ∧ St G w (osl rS 9 a26 c26 y14 :: blk p10 (cl [I x7.Kind, S x7.Name, .int .u64 x7.Value, I x7.Start, I x7.End, I 0, .int .u64 0, .slice a26 y14.length c26] 32) :: osl r_T_glacierref18_Entry 42 a18 c18 v14 :: dsl rS q4.1 q4.2 x7.Names :: osl r_T_history_Op 32 a17 c17 y9 :: osl r_T_history_Op 32 a19 c19 v15 :: dsl r_T_history_Op a1 c1 x1 :: F)) ?_ ?_
                  · rintro _ w ⟨a26, c26, b, rfl, hst⟩
                    have hr := hk8
                    refine ib_n (th_n ?_)
                    obtain rfl := Option.some.inj hr
                    have hst := (((((((hst.pull 6).pull 6).pull 6).pull 6).pull 6).pull 6).pull 6)
                    exact ⟨a26, c26, (kpX [(1, I (mn2 (mx2 x2 0) 20)), (2, I (mn2 (mx2 x3 0) 20)), (7, .slice a18 v14.length c18), (8, .slice a19 v15.length c19), (9, I v16), (10, pt p10 0), (26, .slice a17 y9.length c17), (27, I (y9.length : Int)), (28, I v16)] rfl hst)⟩
                  · have hst := osl_nil rS 9 hst
                    have hst := (((((((hst.pull 6).pull 6).pull 6).pull 6).pull 6).pull 6).pull 6)
                    refine wp_block ?_
                    refine wp_loop_fuel (fun j a w => ∃ (v19 : Int) (v20 : (List (List UInt8))) (a24 : Option Addr) (c24 : Nat) (b : Nat → Value), a = mkF 104 b [(1, I (mn2 (mx2 x2 0) 20)), (2, I (mn2 (mx2 x3 0) 20)), (7, .slice a18 v14.length c18), (8, .slice a19 v15.length c19), (9, I v16), (10, pt p10 0), (26, .slice a17 y9.length c17), (27, I (y9.length : Int)), (28, I v16), (60, .slice a18 v14.length c18), (61, I (v14.length : Int)), (62, I v19)] ∧ St G w (osl rS 9 a24 c24 v20 :: blk p10 (cl [I x7.Kind, S x7.Name, .int .u64 x7.Value, I x7.Start, I x7.End, I 0, .int .u64 0, .slice a24 v20.length c24] 32) :: osl r_T_glacierref18_Entry 42 a18 c18 v14 :: dsl rS q4.1 q4.2 x7.Names :: osl r_T_history_Op 32 a17 c17 y9 :: osl r_T_history_Op 32 a19 c19 v15 :: dsl r_T_history_Op a1 c1 x1 :: F) ∧ glacierlaw18_done_l2 k v14 j v19 v20 = some y14) (k := k) ⟨(0 : Int), [], none, 0, (kpX [(1, I (mn2 (mx2 x2 0) 20)), (2, I (mn2 (mx2 x3 0) 20)), (7, .slice a18 v14.length c18), (8, .slice a19 v15.length c19), (9, I v16), (10, pt p10 0), (26, .slice a17 y9.length c17), (27, I (y9.length : Int)), (28, I v16), (60, .slice a18 v14.length c18), (61, I (v14.length : Int)), (62, I 0)] rfl ⟨hst, hy14⟩)⟩ ?_ ?_
                    · rintro _ _ ⟨_, _, _, _, _, _, _, h⟩
                      rw [glacierlaw18_done_l2] at h
                      cases h
                    · rintro j _ w ⟨v19, v20, a24, c24, b, rfl, hst, hr⟩
                      rw [glacierlaw18_done_l2] at hr
                      refine wp_seq ?_
                      refine wp_reg ?_
                      refine L_pure 1 [(1, I (mn2 (mx2 x2 0) 20)), (2, I (mn2 (mx2 x3 0) 20)), (7, .slice a18 v14.length c18), (8, .slice a19 v15.length c19), (9, I v16), (10, pt p10 0), (26, .slice a17 y9.length c17), (27, I (y9.length : Int)), (28, I v16), (60, .slice a18 v14.length c18), (61, I (v14.length : Int)), (62, I v19), (63, .bool (decide (v19 < (v14.length : Int))))] (by kernel_rfl) fun b => ?_
                      refine wpL_nil ?_
                      refine th_n ?_
                      refine wp_seq ?_
                      refine wp_cond_mkF (t := decide (v19 < (v14.length : Int))) rfl (fun h => ?_) (fun h => ?_)
                      · have hr := (if_pos h).symm.trans hr
                        refine wp_skip ?_
                        refine th_n ?_
                        refine wp_seq ?_
                        refine wp_block ?_
                        refine wp_seq ?_
                        refine wp_reg ?_
                        obtain ⟨x8, hx5, hr⟩ := bnd hr
                        refine L_op rfl (O_run (v := pt (ab a18) (ao a18 + v19.toNat * 2)) (w' := w) (R_ia L38 rfl rfl (osl_addr (hst.pull 2) hx5) (gt_some hx5).1 (gt_some hx5).2.1) rfl rfl ?_)
                        obtain ⟨q5, hc5, hst⟩ := osl_cells (hst.pull 2) hx5
                        have hst := hst.drop
                        refine L_op rfl (O_run (v := .agg #[S x8.Name, .int .u64 x8.V]) (w' := w) (R_loadAt (off := ao a18 + v19.toNat * 2) (j := 0) hc5 rfl rfl) rfl rfl ?_)
                        refine L_op rfl (O_alloc (i := Try.t42) (z := .agg #[S ([]), .int .u64 0]) [S ([]), .int .u64 0] hst rfl rfl rfl rfl fun p11 w hst => ?_)
                        refine L_op rfl (O_store [S x8.Name, .int .u64 x8.V] hst rfl rfl (by kernel_rfl) fun w hst => ?_)
                        refine wpL_nil ?_
                        refine th_n ?_
                        refine wp_reg ?_
                        refine L_pure 1 [(1, I (mn2 (mx2 x2 0) 20)), (2, I (mn2 (mx2 x3 0) 20)), (7, .slice a18 v14.length c18), (8, .slice a19 v15.length c19), (9, I v16), (10, pt p10 0), (14, pt p11 0), (26, .slice a17 y9.length c17), (27, I (y9.length : Int)), (28, I v16), (60, .slice a18 v14.length c18), (61, I (v14.length : Int)), (62, I v19), (66, pt p10 7)] (by kernel_rfl) fun b => ?_
                        refine L_op rfl (O_run (v := .slice a24 v20.length c24) (w' := w) (R_load (hst.pull 3) rfl rfl) rfl rfl ?_)
                        refine L_pure 1 [(1, I (mn2 (mx2 x2 0) 20)), (2, I (mn2 (mx2 x3 0) 20)), (7, .slice a18 v14.length c18), (8, .slice a19 v15.length c19), (9, I v16), (10, pt p10 0), (26, .slice a17 y9.length c17), (27, I (y9.length : Int)), (28, I v16), (60, .slice a18 v14.length c18), (61, I (v14.length : Int)), (62, I v19), (67, .slice a24 v20.length c24), (68, pt p11 0)] (by kernel_rfl) fun b => ?_
                        refine L_op rfl (O_run (v := S x8.Name) (w' := w) (R_load hst rfl rfl) rfl rfl ?_)
                        refine L_op rfl (O_bs (T := 9) [S x8.Name] #[(0, S x8.Name)] hst (by kernel_rfl) (by kernel_rfl) rfl fun p12 w hst => ?_)
                        have hst := osl_of_blk0 (ecs := [[S x8.Name]]) rS [x8.Name] rfl (fun m => ⟨⟨(), rfl, trivial⟩, trivial⟩) rfl hst
                        obtain ⟨hb3, hr⟩ := chk hr
                        refine L_op rfl (O_app_o L30 (hst.pull 3) rfl rfl hb3 rfl fun a27 c27 w hst => ?_)
                        refine L_pure 1 [(1, I (mn2 (mx2 x2 0) 20)), (2, I (mn2 (mx2 x3 0) 20)), (7, .slice a18 v14.length c18), (8, .slice a19 v15.length c19), (9, I v16), (10, pt p10 0), (26, .slice a17 y9.length c17), (27, I (y9.length : Int)), (28, I v16), (60, .slice a18 v14.length c18), (61, I (v14.length : Int)), (62, I v19), (71, .slice a27 (v20 ++ ([x8.Name])).length c27), (72, pt p10 7)] (by kernel_rfl) fun b => ?_
                        refine L_op rfl (O_store [I x7.Kind, S x7.Name, .int .u64 x7.Value, I x7.Start, I x7.End, I 0, .int .u64 0, .slice a27 (v20 ++ ([x8.Name])).length c27] (hst.pull 4) rfl rfl (by kernel_rfl) fun w hst => ?_)
                        refine wpL_nil ?_
                        refine ib_n (th_n ?_)
                        refine wp_reg ?_
                        refine L_pure 2 [(1, I (mn2 (mx2 x2 0) 20)), (2, I (mn2 (mx2 x3 0) 20)), (7, .slice a18 v14.length c18), (8, .slice a19 v15.length c19), (9, I v16), (10, pt p10 0), (26, .slice a17 y9.length c17), (27, I (y9.length : Int)), (28, I v16), (60, .slice a18 v14.length c18), (61, I (v14.length : Int)), (62, I (IntKind.i64.wrap (v19 + 1)))] (by kernel_rfl) fun b => ?_
                        refine wpL_nil ?_
                        refine th_n ?_
                        have hst := ((((((((hst.pull 8).pull 8).pull 8).pull 8).pull 8).pull 5).pull 6).cut 7 2)
                        exact ⟨(IntKind.i64.wrap (v19 + 1)), (v20 ++ ([x8.Name])), a27, c27, (kpX [(1, I (mn2 (mx2 x2 0) 20)), (2, I (mn2 (mx2 x3 0) 20)), (7, .slice a18 v14.length c18), (8, .slice a19 v15.length c19), (9, I v16), (10, pt p10 0), (26, .slice a17 y9.length c17), (27, I (y9.length : Int)), (28, I v16), (60, .slice a18 v14.length c18), (61, I (v14.length : Int)), (62, I (IntKind.i64.wrap (v19 + 1)))] rfl ⟨hst, hr⟩)⟩
                      · have hr := (if_neg (by rw [h]; exact Bool.false_ne_true)).symm.trans hr
                        refine wp_exit ?_
                        refine th_x (th_x (ib_x (th_n ?_)))
                        obtain rfl := Option.some.inj hr
                        have hst := (((((((hst.pull 6).pull 6).pull 6).pull 6).pull 6).pull 6).pull 6)
                        exact ⟨a24, c24, (kpX [(1, I (mn2 (mx2 x2 0) 20)), (2, I (mn2 (mx2 x3 0) 20)), (7, .slice a18 v14.length c18), (8, .slice a19 v15.length c19), (9, I v16), (10, pt p10 0), (26, .slice a17 y9.length c17), (27, I (y9.length : Int)), (28, I v16)] rfl hst)⟩
                · have hr := (if_neg (by rw [h]; exact Bool.false_ne_true)).symm.trans hr
                  refine wp_skip ?_
                  refine ib_n (th_n ?_)
                  obtain rfl := Option.some.inj hr
                  have hst := osl_nil rS 9 hst
                  have hst := (((((((hst.pull 6).pull 6).pull 6).pull 6).pull 6).pull 6).pull 6)
                  exact ⟨none, 0, (kpX [(1, I (mn2 (mx2 x2 0) 20)), (2, I (mn2 (mx2 x3 0) 20)), (7, .slice a18 v14.length c18), (8, .slice a19 v15.length c19), (9, I v16), (10, pt p10 0), (26, .slice a17 y9.length c17), (27, I (y9.length : Int)), (28, I v16)] rfl hst)⟩
          · have hr := hy13
            refine wp_seq ?_
            refine wp_reg ?_
            refine L_pure 2 [(1, I (mn2 (mx2 x2 0) 20)), (2, I (mn2 (mx2 x3 0) 20)), (7, .slice a18 v14.length c18), (8, .slice a19 v15.length c19), (9, I v16), (10, pt p10 0), (11, .int .u64 y11.1), (12, .bool y11.2), (26, .slice a17 y9.length c17), (27, I (y9.length : Int)), (28, I v16), (44, I x7.Kind), (45, .bool (x7.Kind == 2))] (by kernel_rfl) fun b => ?_
            refine wpL_nil ?_
            refine th_n ?_
            refine wp_cond_mkF (t := (x7.Kind == 2)) rfl (fun h => ?_) (fun h => ?_)
            · have hr := (if_pos h).symm.trans hr
              refine wp_skip ?_
              refine th_n ?_
              obtain rfl := Option.some.inj hr
              have hst := ((((((hst.pull 5).pull 5).pull 5).pull 5).pull 5).pull 5)
              exact (kpX [(1, I (mn2 (mx2 x2 0) 20)), (2, I (mn2 (mx2 x3 0) 20)), (7, .slice a18 v14.length c18), (8, .slice a19 v15.length c19), (9, I v16), (10, pt p10 0), (11, .int .u64 y11.1), (12, .bool y11.2), (26, .slice a17 y9.length c17), (27, I (y9.length : Int)), (28, I v16), (44, I x7.Kind), (45, .bool (x7.Kind == 2))] rfl hst)
            · have hr := (if_neg (by rw [h]; exact Bool.false_ne_true)).symm.trans hr
              refine wp_reg ?_
              refine L_pure 2 [(1, I (mn2 (mx2 x2 0) 20)), (2, I (mn2 (mx2 x3 0) 20)), (7, .slice a18 v14.length c18), (8, .slice a19 v15.length c19), (9, I v16), (10, pt p10 0), (11, .int .u64 y11.1), (12, .bool y11.2), (26, .slice a17 y9.length c17), (27, I (y9.length : Int)), (28, I v16), (44, I x7.Kind), (45, .bool (x7.Kind == 5))] (by kernel_rfl) fun b => ?_
              refine wpL_nil ?_
              refine th_n ?_
              obtain rfl := Option.some.inj hr
              have hst := ((((((hst.pull 5).pull 5).pull 5).pull 5).pull 5).pull 5)
              exact (kpX [(1, I (mn2 (mx2 x2 0) 20)), (2, I (mn2 (mx2 x3 0) 20)), (7, .slice a18 v14.length c18), (8, .slice a19 v15.length c19), (9, I v16), (10, pt p10 0), (11, .int .u64 y11.1), (12, .bool y11.2), (26, .slice a17 y9.length c17), (27, I (y9.length : Int)), (28, I v16), (44, I x7.Kind), (45, .bool (x7.Kind == 5))] rfl hst)
      · have hr := (if_neg (by rw [h]; exact Bool.false_ne_true)).symm.trans hr
        refine wp_exit ?_
        refine th_x (th_x (ib_x (th_n ?_)))
        obtain rfl := Option.some.inj hr
        have hst := ((((hst.pull 3).pull 3).pull 3).cut 3 1)
        exact ⟨a19, c19, (kpX [(8, .slice a19 v15.length c19)] rfl hst)⟩
def history_search_over_l1 (k : Nat) (x1 : (List T_history_Op)) (x3 : Int) : Nat → Int → Option (Flow (Bool) (Unit))
  | 0, _ => none
  | j + 1, v4 => (if decide (v4 < (x1.length : Int)) = true then (Option.bind (gt x1 v4) fun x5 => (Option.bind (if 0 ≤ v4 then (if ((bAnd .u32 (shR .u32 x3 v4) 1) == 0) = true then some (decide (x5.End ≥ 0)) else some (false)) else none) fun y4 => (if y4 = true then some (Flow.ret (false)) else (history_search_over_l1 k x1 x3 j (IntKind.i64.wrap (v4 + 1)))))) else some (Flow.go ()))
def history_search_over (k : Nat) (x1 : (List T_history_Op)) (_x2 : (List (T_history_key × Int))) (x3 : Int) : Option (Bool) := (Option.bind (history_search_over_l1 k x1 x3 k (0 : Int)) fun y3 => (match y3 with | Flow.ret r => some r | Flow.go _ => some (true)))
set_option maxRecDepth 100000 in
set_option maxHeartbeats 4000000 in
theorem history_search_over_ok {G w : World} {F : List HP} {R : Ending → World → Prop} (k : Nat) (x1 : (List T_history_Op)) (x2 : (List (T_history_key × Int))) (x3 : Int) (p1 : Nat) (a1 : Option Addr) (c1 : Nat) (p2 : Nat) (r : (Bool)) (hst : St G w (blk p1 (cl [.slice a1 x1.length c1, .map (some p2)] 52) :: osl r_T_history_Op 32 a1 c1 x1 :: mpo (fun x : T_history_key => .agg #[.int .u32 x.done, S x.world]) (fun n => .int .i64 n) p2 x2 :: F)) (hr : history_search_over k x1 x2 x3 = some r)
    (hR : ∀ w', St G w' (blk p1 (cl [.slice a1 x1.length c1, .map (some p2)] 52) :: osl r_T_history_Op 32 a1 c1 x1 :: mpo (fun x : T_history_key => .agg #[.int .u32 x.done, S x.world]) (fun n => .int .i64 n) p2 x2 :: F) → R (.returned (.bool r)) w') :
    Calls Try.prog 18 #[pt p1 0, .int .u32 x3] w R := by
  unfold history_search_over at hr
  refine enter Try.func18 rfl [(0, pt p1 0), (1, .int .u32 x3)] rfl rfl fun b => ?_
  refine wp_seq ?_
  refine wp_reg ?_
  refine L_pure 1 [(0, pt p1 0), (1, .int .u32 x3)] (by kernel_rfl) fun b => ?_
  refine wpL_nil ?_
  refine th_n ?_
  refine wp_seq ?_
  refine wp_seq ?_
  refine wp_reg ?_
  refine L_pure 3 [(1, .int .u32 x3), (9, pt p1 0)] (by kernel_rfl) fun b => ?_
  refine L_op rfl (O_run (v := .slice a1 x1.length c1) (w' := w) (R_load hst rfl rfl) rfl rfl ?_)
  refine L_pure 2 [(1, .int .u32 x3), (10, .slice a1 x1.length c1), (11, I (x1.length : Int)), (12, I 0)] (by kernel_rfl) fun b => ?_
  refine wpL_nil ?_
  refine th_n ?_
  obtain ⟨y3, hy3, hk3⟩ := bnd hr
  clear hr
  refine Go.Hx.wp_cut (fun a w => ∃ (z2 : Unit) (b : Nat → Value), y3 = .go z2 ∧ a = mkF 28 b [] ∧ St G w (blk p1 (cl [.slice a1 x1.length c1, .map (some p2)] 52) :: osl r_T_history_Op 32 a1 c1 x1 :: mpo (fun x : T_history_key => .agg #[.int .u32 x.done, S x.world]) (fun n => .int .i64 n) p2 x2 :: F)) ?_ ?_
  · rintro _ w ⟨z2, b, rfl, rfl, hst⟩
    have hr := hk3
    refine th_n ?_
    refine wp_seq ?_
    refine wp_reg ?_
    refine L_pure 1 [(4, .bool true)] (by kernel_rfl) fun b => ?_
    refine wpL_nil ?_
    refine th_n ?_
    refine wp_ret ?_
    refine ret1 rfl rfl ?_
    obtain rfl := Option.some.inj hr
    have hst := (((hst.pull 2).pull 2).pull 2)
    exact hR _ hst
  · have hst := (((hst.pull 2).pull 2).pull 2)
    refine wp_block ?_
    refine wp_loop_fuel (fun j a w => ∃ (v4 : Int) (b : Nat → Value), a = mkF 28 b [(1, .int .u32 x3), (10, .slice a1 x1.length c1), (11, I (x1.length : Int)), (12, I v4)] ∧ St G w (blk p1 (cl [.slice a1 x1.length c1, .map (some p2)] 52) :: osl r_T_history_Op 32 a1 c1 x1 :: mpo (fun x : T_history_key => .agg #[.int .u32 x.done, S x.world]) (fun n => .int .i64 n) p2 x2 :: F) ∧ history_search_over_l1 k x1 x3 j v4 = some y3) (k := k) ⟨(0 : Int), (kpX [(1, .int .u32 x3), (10, .slice a1 x1.length c1), (11, I (x1.length : Int)), (12, I 0)] rfl ⟨hst, hy3⟩)⟩ ?_ ?_
    · rintro _ _ ⟨_, _, _, _, h⟩
      rw [history_search_over_l1] at h
      cases h
    · rintro j _ w ⟨v4, b, rfl, hst, hr⟩
      rw [history_search_over_l1] at hr
      refine wp_seq ?_
      refine wp_reg ?_
      refine L_pure 1 [(1, .int .u32 x3), (10, .slice a1 x1.length c1), (11, I (x1.length : Int)), (12, I v4), (13, .bool (decide (v4 < (x1.length : Int))))] (by kernel_rfl) fun b => ?_
      refine wpL_nil ?_
      refine th_n ?_
      refine wp_seq ?_
      refine wp_cond_mkF (t := decide (v4 < (x1.length : Int))) rfl (fun h => ?_) (fun h => ?_)
      · have hr := (if_pos h).symm.trans hr
        refine wp_skip ?_
        refine th_n ?_
        refine wp_seq ?_
        refine wp_block ?_
        refine wp_seq ?_
        refine wp_reg ?_
        refine L_pure 1 [(1, .int .u32 x3), (10, .slice a1 x1.length c1), (11, I (x1.length : Int)), (12, I v4), (14, I v4)] (by kernel_rfl) fun b => ?_
        obtain ⟨x5, hx2, hr⟩ := bnd hr
        refine L_op rfl (O_run (v := pt (ab a1) (ao a1 + v4.toNat * 8)) (w' := w) (R_ia L22 rfl rfl (osl_addr (hst.pull 1) hx2) (gt_some hx2).1 (gt_some hx2).2.1) rfl rfl ?_)
        obtain ⟨q2, hc2, hst⟩ := osl_cells (hst.pull 1) hx2
        refine L_op rfl (O_run (v := .agg #[I x5.Kind, S x5.Name, .int .u64 x5.Value, I x5.Start, I x5.End, I x5.Err, .int .u64 x5.Got, .slice q2.1 x5.Names.length q2.2]) (w' := w) (R_loadAt (off := ao a1 + v4.toNat * 8) (j := 0) hc2 rfl rfl) rfl rfl ?_)
        refine L_op rfl (O_alloc (i := Try.t32) (z := .agg #[I 0, S ([]), .int .u64 0, I 0, I 0, I 0, .int .u64 0, .slice none 0 0]) [I 0, S ([]), .int .u64 0, I 0, I 0, I 0, .int .u64 0, .slice none 0 0] hst rfl rfl rfl rfl fun p4 w hst => ?_)
        refine L_pure 1 [(1, .int .u32 x3), (5, I v4), (6, pt p4 0), (10, .slice a1 x1.length c1), (11, I (x1.length : Int)), (12, I v4), (16, .agg #[I x5.Kind, S x5.Name, .int .u64 x5.Value, I x5.Start, I x5.End, I x5.Err, .int .u64 x5.Got, .slice q2.1 x5.Names.length q2.2])] (by kernel_rfl) fun b => ?_
        refine L_op rfl (O_store [I x5.Kind, S x5.Name, .int .u64 x5.Value, I x5.Start, I x5.End, I x5.Err, .int .u64 x5.Got, .slice q2.1 x5.Names.length q2.2] hst rfl rfl (by kernel_rfl) fun w hst => ?_)
        refine wpL_nil ?_
        refine th_n ?_
        obtain ⟨y4, hy4, hk4⟩ := bnd hr
        clear hr
        refine wp_seq_cut (fun a w => ∃ (b : Nat → Value), a = mkF 28 b [(1, .int .u32 x3), (10, .slice a1 x1.length c1), (11, I (x1.length : Int)), (12, I v4), (26, .bool y4)] ∧ St G w (blk p4 (cl [I x5.Kind, S x5.Name, .int .u64 x5.Value, I x5.Start, I x5.End, I x5.Err, .int .u64 x5.Got, .slice q2.1 x5.Names.length q2.2] 32) :: dsl rS q2.1 q2.2 x5.Names :: osl r_T_history_Op 32 a1 c1 x1 :: blk p1 (cl [.slice a1 x1.length c1, .map (some p2)] 52) :: mpo (fun x : T_history_key => .agg #[.int .u32 x.done, S x.world]) (fun n => .int .i64 n) p2 x2 :: F)) ?_ ?_
        · rintro _ w ⟨b, rfl, hst⟩
          have hr := hk4
          refine wp_cond_mkF (t := y4) rfl (fun h => ?_) (fun h => ?_)
          · have hr := (if_pos h).symm.trans hr
            refine wp_seq ?_
            refine wp_reg ?_
            refine L_pure 1 [(4, .bool false)] (by kernel_rfl) fun b => ?_
            refine wpL_nil ?_
            refine th_n ?_
            refine wp_ret ?_
            refine ib_r (th_r (th_r (ib_r (th_r (th_r ?_)))))
            refine ret1 rfl rfl ?_
            obtain rfl := Option.some.inj hr
            obtain rfl := Option.some.inj hk3
            have hst := ((((hst.pull 4).pull 3).pull 4).cut 3 2)
            exact hR _ hst
          · have hr := (if_neg (by rw [h]; exact Bool.false_ne_true)).symm.trans hr
            refine wp_skip ?_
            refine ib_n (th_n ?_)
            refine wp_reg ?_
            refine L_pure 2 [(1, .int .u32 x3), (10, .slice a1 x1.length c1), (11, I (x1.length : Int)), (12, I (IntKind.i64.wrap (v4 + 1)))] (by kernel_rfl) fun b => ?_
            refine wpL_nil ?_
            refine th_n ?_
            have hst := ((((hst.pull 4).pull 3).pull 4).cut 3 2)
            exact ⟨(IntKind.i64.wrap (v4 + 1)), (kpX [(1, .int .u32 x3), (10, .slice a1 x1.length c1), (11, I (x1.length : Int)), (12, I (IntKind.i64.wrap (v4 + 1)))] rfl ⟨hst, hr⟩)⟩
        · have hr := hy4
          refine wp_reg ?_
          refine L_pure 2 [(1, .int .u32 x3), (6, pt p4 0), (10, .slice a1 x1.length c1), (11, I (x1.length : Int)), (12, I v4), (17, .int .u32 x3), (18, I v4)] (by kernel_rfl) fun b => ?_
          obtain ⟨hy2, hr⟩ := chk hr
          refine L_op rfl (O_run (v := .int .u32 (shR .u32 x3 v4)) (w' := w) (R_shr rfl rfl hy2) rfl rfl ?_)
          refine L_pure 3 [(1, .int .u32 x3), (6, pt p4 0), (10, .slice a1 x1.length c1), (11, I (x1.length : Int)), (12, I v4), (22, .bool ((bAnd .u32 (shR .u32 x3 v4) 1) == 0))] (by kernel_rfl) fun b => ?_
          by_cases h : ((bAnd .u32 (shR .u32 x3 v4) 1) == 0) = true
          · have hr := (if_pos h).symm.trans hr
            refine L_keep ((22, .bool ((bAnd .u32 (shR .u32 x3 v4) 1) == 0)) :: [(1, .int .u32 x3), (6, pt p4 0), (10, .slice a1 x1.length c1), (11, I (x1.length : Int)), (12, I v4)]) rfl fun b => ?_
            refine L_bool h ?_
            refine L_pure 1 [(1, .int .u32 x3), (10, .slice a1 x1.length c1), (11, I (x1.length : Int)), (12, I v4), (22, .bool true), (23, pt p4 4)] (by kernel_rfl) fun b => ?_
            refine L_op rfl (O_run (v := I x5.End) (w' := w) (R_load hst rfl rfl) rfl rfl ?_)
            refine L_pure 2 [(1, .int .u32 x3), (10, .slice a1 x1.length c1), (11, I (x1.length : Int)), (12, I v4), (26, .bool (decide (x5.End ≥ 0)))] (by kernel_rfl) fun b => ?_
            refine wpL_nil ?_
            refine th_n ?_
            obtain rfl := Option.some.inj hr
            have hst := (((((hst.pull 4).pull 4).pull 4).pull 4).pull 4)
            exact (kpX [(1, .int .u32 x3), (10, .slice a1 x1.length c1), (11, I (x1.length : Int)), (12, I v4), (26, .bool (decide (x5.End ≥ 0)))] rfl hst)
          · have hr := (if_neg h).symm.trans hr
            refine L_keep ((22, .bool ((bAnd .u32 (shR .u32 x3 v4) 1) == 0)) :: [(1, .int .u32 x3), (6, pt p4 0), (10, .slice a1 x1.length c1), (11, I (x1.length : Int)), (12, I v4)]) rfl fun b => ?_
            refine L_bool (eq_false_of_ne_true h) ?_
            refine L_pure 4 [(1, .int .u32 x3), (10, .slice a1 x1.length c1), (11, I (x1.length : Int)), (12, I v4), (26, .bool false)] (by kernel_rfl) fun b => ?_
            refine wpL_nil ?_
            refine th_n ?_
            obtain rfl := Option.some.inj hr
            have hst := (((((hst.pull 4).pull 4).pull 4).pull 4).pull 4)
            exact (kpX [(1, .int .u32 x3), (10, .slice a1 x1.length c1), (11, I (x1.length : Int)), (12, I v4), (26, .bool false)] rfl hst)
      · have hr := (if_neg (by rw [h]; exact Bool.false_ne_true)).symm.trans hr
        refine wp_exit ?_
        refine th_x (th_x (ib_x (th_n ?_)))
        obtain rfl := Option.some.inj hr
        have hst := (((hst.pull 2).pull 2).pull 2)
        exact ⟨(), (kpXf [] rfl hst)⟩
def history_world_text_l2 (k : Nat) (x3 : T_history_entry) : Nat → (List Int) → Int → Option ((List Int))
  | 0, _, _ => none
  | j + 1, v15, v16 => (if decide (v16 < 8) = true then (if 0 ≤ (IntKind.i64.wrap (8 * v16)) then (if room (v15.length + ([(IntKind.u8.wrap (shR .u64 x3.v (IntKind.i64.wrap (8 * v16))))]).length) 1 = true then (history_world_text_l2 k x3 j (v15 ++ ([(IntKind.u8.wrap (shR .u64 x3.v (IntKind.i64.wrap (8 * v16))))])) (IntKind.i64.wrap (v16 + 1))) else none) else none) else some (v15))
def history_world_text_l1 (k : Nat) (x1 : (List T_history_entry)) : Nat → (List Int) → Int → Option ((List Int))
  | 0, _, _ => none
  | j + 1, v11, v12 => (if decide (v12 < (x1.length : Int)) = true then (Option.bind (gt x1 v12) fun x3 => (if room (v11.length + ([(IntKind.u8.wrap (x3.name.length : Int))]).length) 1 = true then (if room ((v11 ++ ([(IntKind.u8.wrap (x3.name.length : Int))])).length + (sB x3.name).length) 1 = true then (Option.bind (history_world_text_l2 k x3 k ((v11 ++ ([(IntKind.u8.wrap (x3.name.length : Int))])) ++ sB x3.name) (0 : Int)) fun y4 => (history_world_text_l1 k x1 j y4 (IntKind.i64.wrap (v12 + 1)))) else none) else none)) else some (v11))
def history_world_text (k : Nat) (x1 : (List T_history_entry)) : Option ((List UInt8)) := (Option.bind (history_world_text_l1 k x1 k ([]) (0 : Int)) fun y3 => some ((bS y3)))
set_option maxRecDepth 100000 in
set_option maxHeartbeats 4000000 in
theorem history_world_text_ok {G w : World} {F : List HP} {R : Ending → World → Prop} (k : Nat) (x1 : (List T_history_entry)) (a1 : Option Addr) (c1 : Nat) (r : ((List UInt8))) (hst : St G w (dsl r_T_history_entry a1 c1 x1 :: F)) (hr : history_world_text k x1 = some r)
    (hR : ∀ w', St G w' (dsl r_T_history_entry a1 c1 x1 :: F) → R (.returned (S r)) w') :
    Calls Try.prog 19 #[.slice a1 x1.length c1] w R := by
  unfold history_world_text at hr
  refine enter Try.func19 rfl [(0, .slice a1 x1.length c1)] rfl rfl fun b => ?_
  refine wp_seq ?_
  refine wp_reg ?_
  refine L_pure 1 [(0, .slice a1 x1.length c1)] (by kernel_rfl) fun b => ?_
  refine wpL_nil ?_
  refine th_n ?_
  refine wp_seq ?_
  refine wp_reg ?_
  refine L_pure 1 [(0, .slice a1 x1.length c1), (3, .slice none 0 0)] (by kernel_rfl) fun b => ?_
  refine wpL_nil ?_
  refine th_n ?_
  refine wp_seq ?_
  refine wp_seq ?_
  refine wp_reg ?_
  refine L_pure 3 [(3, .slice none 0 0), (7, .slice a1 x1.length c1), (8, I (x1.length : Int)), (9, I 0)] (by kernel_rfl) fun b => ?_
  refine wpL_nil ?_
  refine th_n ?_
  obtain ⟨y3, hy3, hk3⟩ := bnd hr
  clear hr
  refine Go.Hx.wp_cut (fun a w => ∃ (a13 : Option Addr) (c13 : Nat)(b : Nat → Value), a = mkF 40 b [(3, .slice a13 y3.length c13)] ∧ St G w (osl (rI .u8) 5 a13 c13 y3 :: dsl r_T_history_entry a1 c1 x1 :: F)) ?_ ?_
  · rintro _ w ⟨a13, c13, b, rfl, hst⟩
    have hr := hk3
    refine th_n ?_
    refine wp_seq ?_
    refine wp_reg ?_
    refine L_pure 1 [(38, .slice a13 y3.length c13)] (by kernel_rfl) fun b => ?_
    refine L_op rfl (O_run (v := S (bS y3)) (w' := w) (R_b2s Try.underlying66 Try.underlying5 Try.underlying9 (osl_b2s Try.underlying66 hst).1 (osl_b2s Try.underlying66 hst).2 rfl) rfl rfl ?_)
    refine L_pure 1 [(2, S (bS y3))] (by kernel_rfl) fun b => ?_
    refine wpL_nil ?_
    refine th_n ?_
    refine wp_ret ?_
    refine ret1 rfl rfl ?_
    obtain rfl := Option.some.inj hr
    have hst := ((hst.pull 1).cut 1 1)
    exact hR _ hst
  · have hst := osl_nil (rI .u8) 5 hst
    have hst := ((hst.pull 1).pull 1)
    refine wp_block ?_
    refine wp_loop_fuel (fun j a w => ∃ (v11 : (List Int)) (v12 : Int) (a11 : Option Addr) (c11 : Nat) (b : Nat → Value), a = mkF 40 b [(3, .slice a11 v11.length c11), (7, .slice a1 x1.length c1), (8, I (x1.length : Int)), (9, I v12)] ∧ St G w (osl (rI .u8) 5 a11 c11 v11 :: dsl r_T_history_entry a1 c1 x1 :: F) ∧ history_world_text_l1 k x1 j v11 v12 = some y3) (k := k) ⟨[], (0 : Int), none, 0, (kpX [(3, .slice none 0 0), (7, .slice a1 x1.length c1), (8, I (x1.length : Int)), (9, I 0)] rfl ⟨hst, hy3⟩)⟩ ?_ ?_
    · rintro _ _ ⟨_, _, _, _, _, _, _, h⟩
      rw [history_world_text_l1] at h
      cases h
    · rintro j _ w ⟨v11, v12, a11, c11, b, rfl, hst, hr⟩
      rw [history_world_text_l1] at hr
      refine wp_seq ?_
      refine wp_reg ?_
      refine L_pure 1 [(3, .slice a11 v11.length c11), (7, .slice a1 x1.length c1), (8, I (x1.length : Int)), (9, I v12), (10, .bool (decide (v12 < (x1.length : Int))))] (by kernel_rfl) fun b => ?_
      refine wpL_nil ?_
      refine th_n ?_
      refine wp_seq ?_
      refine wp_cond_mkF (t := decide (v12 < (x1.length : Int))) rfl (fun h => ?_) (fun h => ?_)
      · have hr := (if_pos h).symm.trans hr
        refine wp_skip ?_
        refine th_n ?_
        refine wp_seq ?_
        refine wp_block ?_
        refine wp_seq ?_
        refine wp_reg ?_
        obtain ⟨x3, hx2, hr⟩ := bnd hr
        refine L_op rfl (O_run (v := pt (ab a1) (ao a1 + v12.toNat * 2)) (w' := w) (R_ia L58 rfl rfl (dsl_addr (hst.pull 1) hx2) (gt_some hx2).1 (gt_some hx2).2.1) rfl rfl ?_)
        obtain ⟨q2, hc2, hst⟩ := dsl_cells (hst.pull 1) hx2
        have hst := hst.drop
        refine L_op rfl (O_run (v := .agg #[S x3.name, .int .u64 x3.v]) (w' := w) (R_loadAt (off := ao a1 + v12.toNat * 2) (j := 0) hc2 rfl rfl) rfl rfl ?_)
        refine L_op rfl (O_alloc (i := Try.t68) (z := .agg #[S ([]), .int .u64 0]) [S ([]), .int .u64 0] hst rfl rfl rfl rfl fun p4 w hst => ?_)
        refine L_op rfl (O_store [S x3.name, .int .u64 x3.v] hst rfl rfl (by kernel_rfl) fun w hst => ?_)
        refine wpL_nil ?_
        refine th_n ?_
        refine wp_seq ?_
        refine wp_reg ?_
        refine L_pure 2 [(5, pt p4 0), (7, .slice a1 x1.length c1), (8, I (x1.length : Int)), (9, I v12), (13, .slice a11 v11.length c11), (14, pt p4 0)] (by kernel_rfl) fun b => ?_
        refine L_op rfl (O_run (v := S x3.name) (w' := w) (R_load hst rfl rfl) rfl rfl ?_)
        refine L_pure 2 [(5, pt p4 0), (7, .slice a1 x1.length c1), (8, I (x1.length : Int)), (9, I v12), (13, .slice a11 v11.length c11), (17, .int .u8 (IntKind.u8.wrap (x3.name.length : Int)))] (by kernel_rfl) fun b => ?_
        refine L_op rfl (O_bs (T := 5) [.int .u8 (IntKind.u8.wrap (x3.name.length : Int))] #[(0, .int .u8 (IntKind.u8.wrap (x3.name.length : Int)))] hst (by kernel_rfl) (by kernel_rfl) rfl fun p5 w hst => ?_)
        have hst := osl_of_blk0 (ecs := [[.int .u8 (IntKind.u8.wrap (x3.name.length : Int))]]) (rI .u8) [(IntKind.u8.wrap (x3.name.length : Int))] rfl (fun m => ⟨⟨(), rfl, trivial⟩, trivial⟩) rfl hst
        obtain ⟨hb4, hr⟩ := chk hr
        refine L_op rfl (O_app_o L66 (hst.pull 3) rfl rfl hb4 rfl fun a14 c14 w hst => ?_)
        refine L_pure 1 [(3, .slice a14 (v11 ++ ([(IntKind.u8.wrap (x3.name.length : Int))])).length c14), (5, pt p4 0), (7, .slice a1 x1.length c1), (8, I (x1.length : Int)), (9, I v12)] (by kernel_rfl) fun b => ?_
        refine wpL_nil ?_
        refine th_n ?_
        refine wp_seq ?_
        refine wp_reg ?_
        refine L_pure 2 [(5, pt p4 0), (7, .slice a1 x1.length c1), (8, I (x1.length : Int)), (9, I v12), (20, .slice a14 (v11 ++ ([(IntKind.u8.wrap (x3.name.length : Int))])).length c14), (21, pt p4 0)] (by kernel_rfl) fun b => ?_
        refine L_op rfl (O_run (v := S x3.name) (w' := w) (R_load (hst.pull 2) rfl rfl) rfl rfl ?_)
        obtain ⟨hb5, hr⟩ := chk hr
        refine L_op rfl (O_app_s L66 Try.underlying9 hst rfl rfl hb5 rfl fun a15 c15 w hst => ?_)
        refine L_pure 1 [(3, .slice a15 ((v11 ++ ([(IntKind.u8.wrap (x3.name.length : Int))])) ++ sB x3.name).length c15), (5, pt p4 0), (7, .slice a1 x1.length c1), (8, I (x1.length : Int)), (9, I v12)] (by kernel_rfl) fun b => ?_
        refine wpL_nil ?_
        refine th_n ?_
        refine wp_seq ?_
        refine wp_reg ?_
        refine L_pure 1 [(3, .slice a15 ((v11 ++ ([(IntKind.u8.wrap (x3.name.length : Int))])) ++ sB x3.name).length c15), (5, pt p4 0), (7, .slice a1 x1.length c1), (8, I (x1.length : Int)), (9, I v12), (24, I 0)] (by kernel_rfl) fun b => ?_
        refine wpL_nil ?_
        refine th_n ?_
        obtain ⟨y4, hy4, hk4⟩ := bnd hr
        clear hr
        refine Go.Hx.wp_cut (fun a w => ∃ (a18 : Option Addr) (c18 : Nat)(b : Nat → Value), a = mkF 40 b [(3, .slice a18 y4.length c18), (7, .slice a1 x1.length c1), (8, I (x1.length : Int)), (9, I v12)] ∧ St G w (osl (rI .u8) 5 a18 c18 y4 :: osl (rI .u8) 5 (some ⟨p5, 0, none⟩) 1 ([(IntKind.u8.wrap (x3.name.length : Int))]) :: blk p4 (cl [S x3.name, .int .u64 x3.v] 68) :: dsl r_T_history_entry a1 c1 x1 :: F)) ?_ ?_
        · rintro _ w ⟨a18, c18, b, rfl, hst⟩
          have hr := hk4
          refine ib_n (th_n ?_)
          refine wp_reg ?_
          refine L_pure 2 [(3, .slice a18 y4.length c18), (7, .slice a1 x1.length c1), (8, I (x1.length : Int)), (9, I (IntKind.i64.wrap (v12 + 1)))] (by kernel_rfl) fun b => ?_
          refine wpL_nil ?_
          refine th_n ?_
          have hst := (((hst.pull 3).pull 1).cut 2 2)
          exact ⟨y4, (IntKind.i64.wrap (v12 + 1)), a18, c18, (kpX [(3, .slice a18 y4.length c18), (7, .slice a1 x1.length c1), (8, I (x1.length : Int)), (9, I (IntKind.i64.wrap (v12 + 1)))] rfl ⟨hst, hr⟩)⟩
        · have hst := ((((hst.pull 3).pull 3).pull 3).pull 3)
          refine wp_block ?_
          refine wp_loop_fuel (fun j a w => ∃ (v15 : (List Int)) (v16 : Int) (a16 : Option Addr) (c16 : Nat) (b : Nat → Value), a = mkF 40 b [(3, .slice a16 v15.length c16), (5, pt p4 0), (7, .slice a1 x1.length c1), (8, I (x1.length : Int)), (9, I v12), (24, I v16)] ∧ St G w (osl (rI .u8) 5 a16 c16 v15 :: osl (rI .u8) 5 (some ⟨p5, 0, none⟩) 1 ([(IntKind.u8.wrap (x3.name.length : Int))]) :: blk p4 (cl [S x3.name, .int .u64 x3.v] 68) :: dsl r_T_history_entry a1 c1 x1 :: F) ∧ history_world_text_l2 k x3 j v15 v16 = some y4) (k := k) ⟨((v11 ++ ([(IntKind.u8.wrap (x3.name.length : Int))])) ++ sB x3.name), (0 : Int), a15, c15, (kpX [(3, .slice a15 ((v11 ++ ([(IntKind.u8.wrap (x3.name.length : Int))])) ++ sB x3.name).length c15), (5, pt p4 0), (7, .slice a1 x1.length c1), (8, I (x1.length : Int)), (9, I v12), (24, I 0)] rfl ⟨hst, hy4⟩)⟩ ?_ ?_
          · rintro _ _ ⟨_, _, _, _, _, _, _, h⟩
            rw [history_world_text_l2] at h
            cases h
          · rintro j _ w ⟨v15, v16, a16, c16, b, rfl, hst, hr⟩
            rw [history_world_text_l2] at hr
            refine wp_seq ?_
            refine wp_reg ?_
            refine L_pure 1 [(3, .slice a16 v15.length c16), (5, pt p4 0), (7, .slice a1 x1.length c1), (8, I (x1.length : Int)), (9, I v12), (24, I v16), (25, .bool (decide (v16 < 8)))] (by kernel_rfl) fun b => ?_
            refine wpL_nil ?_
            refine th_n ?_
            refine wp_seq ?_
            refine wp_cond_mkF (t := decide (v16 < 8)) rfl (fun h => ?_) (fun h => ?_)
            · have hr := (if_pos h).symm.trans hr
              refine wp_skip ?_
              refine th_n ?_
              refine wp_seq ?_
              refine wp_block ?_
              refine wp_seq ?_
              refine wp_reg ?_
              refine L_pure 2 [(3, .slice a16 v15.length c16), (5, pt p4 0), (6, I v16), (7, .slice a1 x1.length c1), (8, I (x1.length : Int)), (9, I v12), (24, I v16)] (by kernel_rfl) fun b => ?_
              refine wpL_nil ?_
              refine th_n ?_
              refine wp_reg ?_
              refine L_pure 2 [(5, pt p4 0), (6, I v16), (7, .slice a1 x1.length c1), (8, I (x1.length : Int)), (9, I v12), (24, I v16), (27, .slice a16 v15.length c16), (28, pt p4 1)] (by kernel_rfl) fun b => ?_
              refine L_op rfl (O_run (v := .int .u64 x3.v) (w' := w) (R_load (hst.pull 2) rfl rfl) rfl rfl ?_)
              refine L_pure 2 [(5, pt p4 0), (7, .slice a1 x1.length c1), (8, I (x1.length : Int)), (9, I v12), (24, I v16), (27, .slice a16 v15.length c16), (29, .int .u64 x3.v), (31, I (IntKind.i64.wrap (8 * v16)))] (by kernel_rfl) fun b => ?_
              obtain ⟨hy2, hr⟩ := chk hr
              refine L_op rfl (O_run (v := .int .u64 (shR .u64 x3.v (IntKind.i64.wrap (8 * v16)))) (w' := w) (R_shr rfl rfl hy2) rfl rfl ?_)
              refine L_pure 1 [(5, pt p4 0), (7, .slice a1 x1.length c1), (8, I (x1.length : Int)), (9, I v12), (24, I v16), (27, .slice a16 v15.length c16), (33, .int .u8 (IntKind.u8.wrap (shR .u64 x3.v (IntKind.i64.wrap (8 * v16)))))] (by kernel_rfl) fun b => ?_
              refine L_op rfl (O_bs (T := 5) [.int .u8 (IntKind.u8.wrap (shR .u64 x3.v (IntKind.i64.wrap (8 * v16))))] #[(0, .int .u8 (IntKind.u8.wrap (shR .u64 x3.v (IntKind.i64.wrap (8 * v16)))))] hst (by kernel_rfl) (by kernel_rfl) rfl fun p6 w hst => ?_)
              have hst := osl_of_blk0 (ecs := [[.int .u8 (IntKind.u8.wrap (shR .u64 x3.v (IntKind.i64.wrap (8 * v16))))]]) (rI .u8) [(IntKind.u8.wrap (shR .u64 x3.v (IntKind.i64.wrap (8 * v16))))] rfl (fun m => ⟨⟨(), rfl, trivial⟩, trivial⟩) rfl hst
              obtain ⟨hb6, hr⟩ := chk hr
              refine L_op rfl (O_app_o L66 (hst.pull 1) rfl rfl hb6 rfl fun a19 c19 w hst => ?_)
              refine L_pure 1 [(3, .slice a19 (v15 ++ ([(IntKind.u8.wrap (shR .u64 x3.v (IntKind.i64.wrap (8 * v16))))])).length c19), (5, pt p4 0), (7, .slice a1 x1.length c1), (8, I (x1.length : Int)), (9, I v12), (24, I v16)] (by kernel_rfl) fun b => ?_
              refine wpL_nil ?_
              refine ib_n (th_n ?_)
              refine wp_reg ?_
              refine L_pure 2 [(3, .slice a19 (v15 ++ ([(IntKind.u8.wrap (shR .u64 x3.v (IntKind.i64.wrap (8 * v16))))])).length c19), (5, pt p4 0), (7, .slice a1 x1.length c1), (8, I (x1.length : Int)), (9, I v12), (24, I (IntKind.i64.wrap (v16 + 1)))] (by kernel_rfl) fun b => ?_
              refine wpL_nil ?_
              refine th_n ?_
              have hst := (((((hst.pull 4).pull 4).pull 4).pull 3).cut 4 1)
              exact ⟨(v15 ++ ([(IntKind.u8.wrap (shR .u64 x3.v (IntKind.i64.wrap (8 * v16))))])), (IntKind.i64.wrap (v16 + 1)), a19, c19, (kpX [(3, .slice a19 (v15 ++ ([(IntKind.u8.wrap (shR .u64 x3.v (IntKind.i64.wrap (8 * v16))))])).length c19), (5, pt p4 0), (7, .slice a1 x1.length c1), (8, I (x1.length : Int)), (9, I v12), (24, I (IntKind.i64.wrap (v16 + 1)))] rfl ⟨hst, hr⟩)⟩
            · have hr := (if_neg (by rw [h]; exact Bool.false_ne_true)).symm.trans hr
              refine wp_exit ?_
              refine th_x (th_x (ib_x (th_n ?_)))
              obtain rfl := Option.some.inj hr
              have hst := ((((hst.pull 3).pull 3).pull 3).pull 3)
              exact ⟨a16, c16, (kpX [(3, .slice a16 v15.length c16), (7, .slice a1 x1.length c1), (8, I (x1.length : Int)), (9, I v12)] rfl hst)⟩
      · have hr := (if_neg (by rw [h]; exact Bool.false_ne_true)).symm.trans hr
        refine wp_exit ?_
        refine th_x (th_x (ib_x (th_n ?_)))
        obtain rfl := Option.some.inj hr
        have hst := ((hst.pull 1).pull 1)
        exact ⟨a11, c11, (kpX [(3, .slice a11 v11.length c11)] rfl hst)⟩
def history_search_may_l1 (k : Nat) (x1 : (List T_history_Op)) (x3 : Int) (x4 : Int) : Nat → Int → Option (Flow (Bool) (Unit))
  | 0, _ => none
  | j + 1, v4 => (if decide (v4 < (x1.length : Int)) = true then (Option.bind (gt x1 v4) fun x7 => (Option.bind (if 0 ≤ v4 then (if ((bAnd .u32 (shR .u32 x4 v4) 1) == 0) = true then (if (v4 != x3) = true then (if decide (x7.End ≥ 0) = true then (Option.bind (gt x1 x3) fun x8 => some (decide (x7.End < x8.Start))) else some (false)) else some (false)) else some (false)) else none) fun y4 => (if y4 = true then some (Flow.ret (false)) else (history_search_may_l1 k x1 x3 x4 j (IntKind.i64.wrap (v4 + 1)))))) else some (Flow.go ()))
def history_search_may (k : Nat) (x1 : (List T_history_Op)) (_x2 : (List (T_history_key × Int))) (x3 : Int) (x4 : Int) : Option (Bool) := (Option.bind (history_search_may_l1 k x1 x3 x4 k (0 : Int)) fun y3 => (match y3 with | Flow.ret r => some r | Flow.go _ => some (true)))
set_option maxRecDepth 100000 in
set_option maxHeartbeats 4000000 in
theorem history_search_may_ok {G w : World} {F : List HP} {R : Ending → World → Prop} (k : Nat) (x1 : (List T_history_Op)) (x2 : (List (T_history_key × Int))) (x3 : Int) (x4 : Int) (p1 : Nat) (a1 : Option Addr) (c1 : Nat) (p2 : Nat) (r : (Bool)) (hst : St G w (blk p1 (cl [.slice a1 x1.length c1, .map (some p2)] 52) :: osl r_T_history_Op 32 a1 c1 x1 :: mpo (fun x : T_history_key => .agg #[.int .u32 x.done, S x.world]) (fun n => .int .i64 n) p2 x2 :: F)) (hr : history_search_may k x1 x2 x3 x4 = some r)
    (hR : ∀ w', St G w' (blk p1 (cl [.slice a1 x1.length c1, .map (some p2)] 52) :: osl r_T_history_Op 32 a1 c1 x1 :: mpo (fun x : T_history_key => .agg #[.int .u32 x.done, S x.world]) (fun n => .int .i64 n) p2 x2 :: F) → R (.returned (.bool r)) w') :
    Calls Try.prog 20 #[pt p1 0, I x3, .int .u32 x4] w R := by
  unfold history_search_may at hr
  refine enter Try.func20 rfl [(0, pt p1 0), (1, I x3), (2, .int .u32 x4)] rfl rfl fun b => ?_
  refine wp_seq ?_
  refine wp_reg ?_
  refine L_pure 1 [(0, pt p1 0), (1, I x3), (2, .int .u32 x4)] (by kernel_rfl) fun b => ?_
  refine wpL_nil ?_
  refine th_n ?_
  refine wp_seq ?_
  refine wp_seq ?_
  refine wp_reg ?_
  refine L_pure 3 [(0, pt p1 0), (1, I x3), (2, .int .u32 x4), (11, pt p1 0)] (by kernel_rfl) fun b => ?_
  refine L_op rfl (O_run (v := .slice a1 x1.length c1) (w' := w) (R_load hst rfl rfl) rfl rfl ?_)
  refine L_pure 2 [(0, pt p1 0), (1, I x3), (2, .int .u32 x4), (12, .slice a1 x1.length c1), (13, I (x1.length : Int)), (14, I 0)] (by kernel_rfl) fun b => ?_
  refine wpL_nil ?_
  refine th_n ?_
  obtain ⟨y3, hy3, hk3⟩ := bnd hr
  clear hr
  refine Go.Hx.wp_cut (fun a w => ∃ (z2 : Unit) (b : Nat → Value), y3 = .go z2 ∧ a = mkF 48 b [] ∧ St G w (blk p1 (cl [.slice a1 x1.length c1, .map (some p2)] 52) :: osl r_T_history_Op 32 a1 c1 x1 :: mpo (fun x : T_history_key => .agg #[.int .u32 x.done, S x.world]) (fun n => .int .i64 n) p2 x2 :: F)) ?_ ?_
  · rintro _ w ⟨z2, b, rfl, rfl, hst⟩
    have hr := hk3
    refine th_n ?_
    refine wp_seq ?_
    refine wp_reg ?_
    refine L_pure 1 [(6, .bool true)] (by kernel_rfl) fun b => ?_
    refine wpL_nil ?_
    refine th_n ?_
    refine wp_ret ?_
    refine ret1 rfl rfl ?_
    obtain rfl := Option.some.inj hr
    have hst := (((hst.pull 2).pull 2).pull 2)
    exact hR _ hst
  · have hst := (((hst.pull 2).pull 2).pull 2)
    refine wp_block ?_
    refine wp_loop_fuel (fun j a w => ∃ (v4 : Int) (b : Nat → Value), a = mkF 48 b [(0, pt p1 0), (1, I x3), (2, .int .u32 x4), (12, .slice a1 x1.length c1), (13, I (x1.length : Int)), (14, I v4)] ∧ St G w (blk p1 (cl [.slice a1 x1.length c1, .map (some p2)] 52) :: osl r_T_history_Op 32 a1 c1 x1 :: mpo (fun x : T_history_key => .agg #[.int .u32 x.done, S x.world]) (fun n => .int .i64 n) p2 x2 :: F) ∧ history_search_may_l1 k x1 x3 x4 j v4 = some y3) (k := k) ⟨(0 : Int), (kpX [(0, pt p1 0), (1, I x3), (2, .int .u32 x4), (12, .slice a1 x1.length c1), (13, I (x1.length : Int)), (14, I 0)] rfl ⟨hst, hy3⟩)⟩ ?_ ?_
    · rintro _ _ ⟨_, _, _, _, h⟩
      rw [history_search_may_l1] at h
      cases h
    · rintro j _ w ⟨v4, b, rfl, hst, hr⟩
      rw [history_search_may_l1] at hr
      refine wp_seq ?_
      refine wp_reg ?_
      refine L_pure 1 [(0, pt p1 0), (1, I x3), (2, .int .u32 x4), (12, .slice a1 x1.length c1), (13, I (x1.length : Int)), (14, I v4), (15, .bool (decide (v4 < (x1.length : Int))))] (by kernel_rfl) fun b => ?_
      refine wpL_nil ?_
      refine th_n ?_
      refine wp_seq ?_
      refine wp_cond_mkF (t := decide (v4 < (x1.length : Int))) rfl (fun h => ?_) (fun h => ?_)
      · have hr := (if_pos h).symm.trans hr
        refine wp_skip ?_
        refine th_n ?_
        refine wp_seq ?_
        refine wp_block ?_
        refine wp_seq ?_
        refine wp_reg ?_
        refine L_pure 1 [(0, pt p1 0), (1, I x3), (2, .int .u32 x4), (12, .slice a1 x1.length c1), (13, I (x1.length : Int)), (14, I v4), (16, I v4)] (by kernel_rfl) fun b => ?_
        obtain ⟨x7, hx3, hr⟩ := bnd hr
        refine L_op rfl (O_run (v := pt (ab a1) (ao a1 + v4.toNat * 8)) (w' := w) (R_ia L22 rfl rfl (osl_addr (hst.pull 1) hx3) (gt_some hx3).1 (gt_some hx3).2.1) rfl rfl ?_)
        obtain ⟨q3, hc3, hst⟩ := osl_cells (hst.pull 1) hx3
        refine L_op rfl (O_run (v := .agg #[I x7.Kind, S x7.Name, .int .u64 x7.Value, I x7.Start, I x7.End, I x7.Err, .int .u64 x7.Got, .slice q3.1 x7.Names.length q3.2]) (w' := w) (R_loadAt (off := ao a1 + v4.toNat * 8) (j := 0) hc3 rfl rfl) rfl rfl ?_)
        refine L_op rfl (O_alloc (i := Try.t32) (z := .agg #[I 0, S ([]), .int .u64 0, I 0, I 0, I 0, .int .u64 0, .slice none 0 0]) [I 0, S ([]), .int .u64 0, I 0, I 0, I 0, .int .u64 0, .slice none 0 0] hst rfl rfl rfl rfl fun p4 w hst => ?_)
        refine L_pure 1 [(0, pt p1 0), (1, I x3), (2, .int .u32 x4), (7, I v4), (8, pt p4 0), (12, .slice a1 x1.length c1), (13, I (x1.length : Int)), (14, I v4), (18, .agg #[I x7.Kind, S x7.Name, .int .u64 x7.Value, I x7.Start, I x7.End, I x7.Err, .int .u64 x7.Got, .slice q3.1 x7.Names.length q3.2])] (by kernel_rfl) fun b => ?_
        refine L_op rfl (O_store [I x7.Kind, S x7.Name, .int .u64 x7.Value, I x7.Start, I x7.End, I x7.Err, .int .u64 x7.Got, .slice q3.1 x7.Names.length q3.2] hst rfl rfl (by kernel_rfl) fun w hst => ?_)
        refine wpL_nil ?_
        refine th_n ?_
        obtain ⟨y4, hy4, hk4⟩ := bnd hr
        clear hr
        refine wp_seq_cut (fun a w => ∃ (b : Nat → Value), a = mkF 48 b [(0, pt p1 0), (1, I x3), (2, .int .u32 x4), (12, .slice a1 x1.length c1), (13, I (x1.length : Int)), (14, I v4), (46, .bool y4)] ∧ St G w (osl r_T_history_Op 32 a1 c1 x1 :: blk p4 (cl [I x7.Kind, S x7.Name, .int .u64 x7.Value, I x7.Start, I x7.End, I x7.Err, .int .u64 x7.Got, .slice q3.1 x7.Names.length q3.2] 32) :: dsl rS q3.1 q3.2 x7.Names :: blk p1 (cl [.slice a1 x1.length c1, .map (some p2)] 52) :: mpo (fun x : T_history_key => .agg #[.int .u32 x.done, S x.world]) (fun n => .int .i64 n) p2 x2 :: F)) ?_ ?_
        · rintro _ w ⟨b, rfl, hst⟩
          have hr := hk4
          refine wp_cond_mkF (t := y4) rfl (fun h => ?_) (fun h => ?_)
          · have hr := (if_pos h).symm.trans hr
            refine wp_seq ?_
            refine wp_reg ?_
            refine L_pure 1 [(6, .bool false)] (by kernel_rfl) fun b => ?_
            refine wpL_nil ?_
            refine th_n ?_
            refine wp_ret ?_
            refine ib_r (th_r (th_r (ib_r (th_r (th_r ?_)))))
            refine ret1 rfl rfl ?_
            obtain rfl := Option.some.inj hr
            obtain rfl := Option.some.inj hk3
            have hst := ((((hst.pull 4).pull 1).pull 4).cut 3 2)
            exact hR _ hst
          · have hr := (if_neg (by rw [h]; exact Bool.false_ne_true)).symm.trans hr
            refine wp_skip ?_
            refine ib_n (th_n ?_)
            refine wp_reg ?_
            refine L_pure 2 [(0, pt p1 0), (1, I x3), (2, .int .u32 x4), (12, .slice a1 x1.length c1), (13, I (x1.length : Int)), (14, I (IntKind.i64.wrap (v4 + 1)))] (by kernel_rfl) fun b => ?_
            refine wpL_nil ?_
            refine th_n ?_
            have hst := ((((hst.pull 4).pull 1).pull 4).cut 3 2)
            exact ⟨(IntKind.i64.wrap (v4 + 1)), (kpX [(0, pt p1 0), (1, I x3), (2, .int .u32 x4), (12, .slice a1 x1.length c1), (13, I (x1.length : Int)), (14, I (IntKind.i64.wrap (v4 + 1)))] rfl ⟨hst, hr⟩)⟩
        · have hr := hy4
          refine wp_regG (SN { w with drawn := w.drawn + 1 }) rfl ?_
          have hst := hst.draw (n := w.drawn + 1)
          generalize { w with drawn := w.drawn + 1 } = w at hst ⊢
          refine C_take (i := 0) (v := .int .u32 x4) rfl (by kernel_rfl) (fun _ _ _ h => h) rfl rfl rfl (R_pure (by kernel_rfl)) ?_
          refine C_take (i := 1) (v := I v4) rfl (by kernel_rfl) (fun _ _ _ h => h) rfl rfl rfl (R_pure (by kernel_rfl)) ?_
          obtain ⟨hy2, hr⟩ := chk hr
          refine C_take (i := 2) (v := .int .u32 (shR .u32 x4 v4)) rfl (by kernel_rfl) (fun _ _ _ h => h) rfl rfl rfl (R_shr rfl rfl hy2) ?_
          refine C_take (i := 3) (v := .int .u32 (bAnd .u32 (shR .u32 x4 v4) 1)) rfl (by kernel_rfl) (fun _ _ _ h => h) rfl rfl rfl (R_pure (by kernel_rfl)) ?_
          refine C_take (i := 4) (v := .bool ((bAnd .u32 (shR .u32 x4 v4) 1) == 0)) rfl (by kernel_rfl) (fun _ _ _ h => h) rfl rfl rfl (R_pure (by kernel_rfl)) ?_
          refine C_take (i := 5) (v := .bool ((bAnd .u32 (shR .u32 x4 v4) 1) == 0)) rfl (by kernel_rfl) (fun _ _ _ h => h) rfl rfl rfl (R_pure (by kernel_rfl)) ?_
          by_cases h : ((bAnd .u32 (shR .u32 x4 v4) 1) == 0) = true
          · have hr := (if_pos h).symm.trans hr
            refine C_keep ((24, .bool ((bAnd .u32 (shR .u32 x4 v4) 1) == 0)) :: [(0, pt p1 0), (1, I x3), (2, .int .u32 x4), (7, I v4), (8, pt p4 0), (12, .slice a1 x1.length c1), (13, I (x1.length : Int)), (14, I v4), (18, .agg #[I x7.Kind, S x7.Name, .int .u64 x7.Value, I x7.Start, I x7.End, I x7.Err, .int .u64 x7.Got, .slice q3.1 x7.Names.length q3.2]), (19, .int .u32 x4), (20, I v4), (21, .int .u32 (shR .u32 x4 v4)), (22, .int .u32 (bAnd .u32 (shR .u32 x4 v4) 1)), (23, .bool ((bAnd .u32 (shR .u32 x4 v4) 1) == 0))]) rfl fun b => ?_
            refine C_bool h ?_
            refine C_take (i := 6) (v := I v4) rfl (by kernel_rfl) (fun _ _ _ h => h) rfl rfl rfl (R_pure (by kernel_rfl)) ?_
            refine C_take (i := 7) (v := I x3) rfl (by kernel_rfl) (fun _ _ _ h => h) rfl rfl rfl (R_pure (by kernel_rfl)) ?_
            refine C_take (i := 8) (v := .bool (v4 != x3)) rfl (by kernel_rfl) (fun _ _ _ h => h) rfl rfl rfl (R_pure (by kernel_rfl)) ?_
            refine C_take (i := 9) (v := .bool (v4 != x3)) rfl (by kernel_rfl) (fun _ _ _ h => h) rfl rfl rfl (R_pure (by kernel_rfl)) ?_
            refine C_take (i := 10) (v := .bool (v4 != x3)) rfl (by kernel_rfl) (fun _ _ _ h => h) rfl rfl rfl (R_pure (by kernel_rfl)) ?_
            by_cases h : (v4 != x3) = true
            · have hr := (if_pos h).symm.trans hr
              refine C_keep ((29, .bool (v4 != x3)) :: [(0, pt p1 0), (1, I x3), (2, .int .u32 x4), (7, I v4), (8, pt p4 0), (12, .slice a1 x1.length c1), (13, I (x1.length : Int)), (14, I v4), (18, .agg #[I x7.Kind, S x7.Name, .int .u64 x7.Value, I x7.Start, I x7.End, I x7.Err, .int .u64 x7.Got, .slice q3.1 x7.Names.length q3.2]), (19, .int .u32 x4), (20, I v4), (21, .int .u32 (shR .u32 x4 v4)), (22, .int .u32 (bAnd .u32 (shR .u32 x4 v4) 1)), (23, .bool ((bAnd .u32 (shR .u32 x4 v4) 1) == 0)), (24, .bool true), (25, I v4), (26, I x3), (27, .bool (v4 != x3)), (28, .bool (v4 != x3))]) rfl fun b => ?_
              refine C_bool h ?_
              refine C_take (i := 11) (v := pt p4 4) rfl (by kernel_rfl) (fun _ _ _ h => h) rfl rfl rfl (R_pure (by kernel_rfl)) ?_
              refine C_take (i := 12) (v := I x7.End) rfl (by kernel_rfl) (fun _ _ _ h => h) rfl rfl rfl (R_load hst rfl rfl) ?_
              refine C_take (i := 13) (v := .bool (decide (x7.End ≥ 0))) rfl (by kernel_rfl) (fun _ _ _ h => h) rfl rfl rfl (R_pure (by kernel_rfl)) ?_
              refine C_take (i := 14) (v := .bool (decide (x7.End ≥ 0))) rfl (by kernel_rfl) (fun _ _ _ h => h) rfl rfl rfl (R_pure (by kernel_rfl)) ?_
              refine C_take (i := 15) (v := .bool (decide (x7.End ≥ 0))) rfl (by kernel_rfl) (fun _ _ _ h => h) rfl rfl rfl (R_pure (by kernel_rfl)) ?_
              by_cases h : (decide (x7.End ≥ 0)) = true
              · have hr := (if_pos h).symm.trans hr
                refine C_keep ((34, .bool (decide (x7.End ≥ 0))) :: [(0, pt p1 0), (1, I x3), (2, .int .u32 x4), (7, I v4), (8, pt p4 0), (12, .slice a1 x1.length c1), (13, I (x1.length : Int)), (14, I v4), (18, .agg #[I x7.Kind, S x7.Name, .int .u64 x7.Value, I x7.Start, I x7.End, I x7.Err, .int .u64 x7.Got, .slice q3.1 x7.Names.length q3.2]), (19, .int .u32 x4), (20, I v4), (21, .int .u32 (shR .u32 x4 v4)), (22, .int .u32 (bAnd .u32 (shR .u32 x4 v4) 1)), (23, .bool ((bAnd .u32 (shR .u32 x4 v4) 1) == 0)), (24, .bool true), (25, I v4), (26, I x3), (27, .bool (v4 != x3)), (28, .bool (v4 != x3)), (29, .bool true), (30, pt p4 4), (31, I x7.End), (32, .bool (decide (x7.End ≥ 0))), (33, .bool (decide (x7.End ≥ 0)))]) rfl fun b => ?_
                refine C_bool h ?_
                refine C_take (i := 16) (v := pt p4 4) rfl (by kernel_rfl) (fun _ _ _ h => h) rfl rfl rfl (R_pure (by kernel_rfl)) ?_
                refine C_take (i := 17) (v := I x7.End) rfl (by kernel_rfl) (fun _ _ _ h => h) rfl rfl rfl (R_load hst rfl rfl) ?_
                refine C_take (i := 18) (v := pt p1 0) rfl (by kernel_rfl) (fun _ _ _ h => h) rfl rfl rfl (R_pure (by kernel_rfl)) ?_
                refine C_take (i := 19) (v := pt p1 0) rfl (by kernel_rfl) (fun _ _ _ h => h) rfl rfl rfl (R_pure (by kernel_rfl)) ?_
                refine C_take (i := 20) (v := pt p1 0) rfl (by kernel_rfl) (fun _ _ _ h => h) rfl rfl rfl (R_pure (by kernel_rfl)) ?_
                refine C_take (i := 21) (v := .slice a1 x1.length c1) rfl (by kernel_rfl) (fun _ _ _ h => h) rfl rfl rfl (R_load (hst.pull 3) rfl rfl) ?_
                refine C_take (i := 22) (v := I x3) rfl (by kernel_rfl) (fun _ _ _ h => h) rfl rfl rfl (R_pure (by kernel_rfl)) ?_
                obtain ⟨x8, hx4, hr⟩ := bnd hr
                refine C_take (i := 23) (v := pt (ab a1) (ao a1 + x3.toNat * 8)) rfl (by kernel_rfl) (fun _ _ _ h => h) rfl rfl rfl (R_ia L22 rfl rfl (osl_addr (hst.pull 2) hx4) (gt_some hx4).1 (gt_some hx4).2.1) ?_
                refine C_take (i := 24) (v := pt (ab a1) (ao a1 + x3.toNat * 8 + 3)) rfl (by kernel_rfl) (fun _ _ _ h => h) rfl rfl rfl (R_pure (by kernel_rfl)) ?_
                obtain ⟨q4, hc4, hst⟩ := osl_cells (hst.pull 2) hx4
                refine C_take (i := 25) (v := I x8.Start) rfl (by kernel_rfl) (fun _ _ _ h => h) rfl rfl rfl (R_loadAt (off := ao a1 + x3.toNat * 8) (j := 3) hc4 rfl rfl) ?_
                refine C_take (i := 26) (v := .bool (decide (x7.End < x8.Start))) rfl (by kernel_rfl) (fun _ _ _ h => h) rfl rfl rfl (R_pure (by kernel_rfl)) ?_
                refine C_take (i := 27) (v := .bool (decide (x7.End < x8.Start))) rfl (by kernel_rfl) (fun _ _ _ h => h) rfl rfl rfl (R_pure (by kernel_rfl)) ?_
                refine wpG_done (by kernel_rfl) ?_ _
                refine C_keepQ [(0, pt p1 0), (1, I x3), (2, .int .u32 x4), (12, .slice a1 x1.length c1), (13, I (x1.length : Int)), (14, I v4), (46, .bool (decide (x7.End < x8.Start)))] rfl fun b => ?_
                refine th_n ?_
                obtain rfl := Option.some.inj hr
                have hst := ((((((hst.pull 5).pull 5).pull 5).pull 5).pull 5).cut 5 1)
                exact (kpX [(0, pt p1 0), (1, I x3), (2, .int .u32 x4), (12, .slice a1 x1.length c1), (13, I (x1.length : Int)), (14, I v4), (46, .bool (decide (x7.End < x8.Start)))] rfl hst)
              · have hr := (if_neg h).symm.trans hr
                refine C_keep ((34, .bool (decide (x7.End ≥ 0))) :: [(0, pt p1 0), (1, I x3), (2, .int .u32 x4), (7, I v4), (8, pt p4 0), (12, .slice a1 x1.length c1), (13, I (x1.length : Int)), (14, I v4), (18, .agg #[I x7.Kind, S x7.Name, .int .u64 x7.Value, I x7.Start, I x7.End, I x7.Err, .int .u64 x7.Got, .slice q3.1 x7.Names.length q3.2]), (19, .int .u32 x4), (20, I v4), (21, .int .u32 (shR .u32 x4 v4)), (22, .int .u32 (bAnd .u32 (shR .u32 x4 v4) 1)), (23, .bool ((bAnd .u32 (shR .u32 x4 v4) 1) == 0)), (24, .bool true), (25, I v4), (26, I x3), (27, .bool (v4 != x3)), (28, .bool (v4 != x3)), (29, .bool true), (30, pt p4 4), (31, I x7.End), (32, .bool (decide (x7.End ≥ 0))), (33, .bool (decide (x7.End ≥ 0)))]) rfl fun b => ?_
                refine C_bool (eq_false_of_ne_true h) ?_
                refine C_skip (i := 16) rfl (by kernel_rfl) (fun _ _ _ h => h) rfl rfl rfl ?_
                refine C_skip (i := 17) rfl (by kernel_rfl) (fun _ _ _ h => h) rfl rfl rfl ?_
                refine C_skip (i := 18) rfl (by kernel_rfl) (fun _ _ _ h => h) rfl rfl rfl ?_
                refine C_skip (i := 19) rfl (by kernel_rfl) (fun _ _ _ h => h) rfl rfl rfl ?_
                refine C_skip (i := 20) rfl (by kernel_rfl) (fun _ _ _ h => h) rfl rfl rfl ?_
                refine C_skip (i := 21) rfl (by kernel_rfl) (fun _ _ _ h => h) rfl rfl rfl ?_
                refine C_skip (i := 22) rfl (by kernel_rfl) (fun _ _ _ h => h) rfl rfl rfl ?_
                refine C_skip (i := 23) rfl (by kernel_rfl) (fun _ _ _ h => h) rfl rfl rfl ?_
                refine C_skip (i := 24) rfl (by kernel_rfl) (fun _ _ _ h => h) rfl rfl rfl ?_
                refine C_skip (i := 25) rfl (by kernel_rfl) (fun _ _ _ h => h) rfl rfl rfl ?_
                refine C_skip (i := 26) rfl (by kernel_rfl) (fun _ _ _ h => h) rfl rfl rfl ?_
                refine C_take (i := 27) (v := .bool false) rfl (by kernel_rfl) (fun _ _ _ h => h) rfl rfl rfl (R_pure (by kernel_rfl)) ?_
                refine wpG_done (by kernel_rfl) ?_ _
                refine C_keepQ [(0, pt p1 0), (1, I x3), (2, .int .u32 x4), (12, .slice a1 x1.length c1), (13, I (x1.length : Int)), (14, I v4), (46, .bool false)] rfl fun b => ?_
                refine th_n ?_
                obtain rfl := Option.some.inj hr
                have hst := (((((hst.pull 4).pull 4).pull 3).pull 3).pull 4)
                exact (kpX [(0, pt p1 0), (1, I x3), (2, .int .u32 x4), (12, .slice a1 x1.length c1), (13, I (x1.length : Int)), (14, I v4), (46, .bool false)] rfl hst)
            · have hr := (if_neg h).symm.trans hr
              refine C_keep ((29, .bool (v4 != x3)) :: [(0, pt p1 0), (1, I x3), (2, .int .u32 x4), (7, I v4), (8, pt p4 0), (12, .slice a1 x1.length c1), (13, I (x1.length : Int)), (14, I v4), (18, .agg #[I x7.Kind, S x7.Name, .int .u64 x7.Value, I x7.Start, I x7.End, I x7.Err, .int .u64 x7.Got, .slice q3.1 x7.Names.length q3.2]), (19, .int .u32 x4), (20, I v4), (21, .int .u32 (shR .u32 x4 v4)), (22, .int .u32 (bAnd .u32 (shR .u32 x4 v4) 1)), (23, .bool ((bAnd .u32 (shR .u32 x4 v4) 1) == 0)), (24, .bool true), (25, I v4), (26, I x3), (27, .bool (v4 != x3)), (28, .bool (v4 != x3))]) rfl fun b => ?_
              refine C_bool (eq_false_of_ne_true h) ?_
              refine C_skip (i := 11) rfl (by kernel_rfl) (fun _ _ _ h => h) rfl rfl rfl ?_
              refine C_skip (i := 12) rfl (by kernel_rfl) (fun _ _ _ h => h) rfl rfl rfl ?_
              refine C_skip (i := 13) rfl (by kernel_rfl) (fun _ _ _ h => h) rfl rfl rfl ?_
              refine C_take (i := 14) (v := .bool false) rfl (by kernel_rfl) (fun _ _ _ h => h) rfl rfl rfl (R_pure (by kernel_rfl)) ?_
              refine C_take (i := 15) (v := .bool false) rfl (by kernel_rfl) (fun _ _ _ h => h) rfl rfl rfl (R_pure (by kernel_rfl)) ?_
              refine C_skip (i := 16) rfl (by kernel_rfl) (fun _ _ _ h => h) rfl rfl rfl ?_
              refine C_skip (i := 17) rfl (by kernel_rfl) (fun _ _ _ h => h) rfl rfl rfl ?_
              refine C_skip (i := 18) rfl (by kernel_rfl) (fun _ _ _ h => h) rfl rfl rfl ?_
              refine C_skip (i := 19) rfl (by kernel_rfl) (fun _ _ _ h => h) rfl rfl rfl ?_
              refine C_skip (i := 20) rfl (by kernel_rfl) (fun _ _ _ h => h) rfl rfl rfl ?_
              refine C_skip (i := 21) rfl (by kernel_rfl) (fun _ _ _ h => h) rfl rfl rfl ?_
              refine C_skip (i := 22) rfl (by kernel_rfl) (fun _ _ _ h => h) rfl rfl rfl ?_
              refine C_skip (i := 23) rfl (by kernel_rfl) (fun _ _ _ h => h) rfl rfl rfl ?_
              refine C_skip (i := 24) rfl (by kernel_rfl) (fun _ _ _ h => h) rfl rfl rfl ?_
              refine C_skip (i := 25) rfl (by kernel_rfl) (fun _ _ _ h => h) rfl rfl rfl ?_
              refine C_skip (i := 26) rfl (by kernel_rfl) (fun _ _ _ h => h) rfl rfl rfl ?_
              refine C_take (i := 27) (v := .bool false) rfl (by kernel_rfl) (fun _ _ _ h => h) rfl rfl rfl (R_pure (by kernel_rfl)) ?_
              refine wpG_done (by kernel_rfl) ?_ _
              refine C_keepQ [(0, pt p1 0), (1, I x3), (2, .int .u32 x4), (12, .slice a1 x1.length c1), (13, I (x1.length : Int)), (14, I v4), (46, .bool false)] rfl fun b => ?_
              refine th_n ?_
              obtain rfl := Option.some.inj hr
              have hst := (((((hst.pull 4).pull 4).pull 3).pull 3).pull 4)
              exact (kpX [(0, pt p1 0), (1, I x3), (2, .int .u32 x4), (12, .slice a1 x1.length c1), (13, I (x1.length : Int)), (14, I v4), (46, .bool false)] rfl hst)
          · have hr := (if_neg h).symm.trans hr
            refine C_keep ((24, .bool ((bAnd .u32 (shR .u32 x4 v4) 1) == 0)) :: [(0, pt p1 0), (1, I x3), (2, .int .u32 x4), (7, I v4), (8, pt p4 0), (12, .slice a1 x1.length c1), (13, I (x1.length : Int)), (14, I v4), (18, .agg #[I x7.Kind, S x7.Name, .int .u64 x7.Value, I x7.Start, I x7.End, I x7.Err, .int .u64 x7.Got, .slice q3.1 x7.Names.length q3.2]), (19, .int .u32 x4), (20, I v4), (21, .int .u32 (shR .u32 x4 v4)), (22, .int .u32 (bAnd .u32 (shR .u32 x4 v4) 1)), (23, .bool ((bAnd .u32 (shR .u32 x4 v4) 1) == 0))]) rfl fun b => ?_
            refine C_bool (eq_false_of_ne_true h) ?_
            refine C_skip (i := 6) rfl (by kernel_rfl) (fun _ _ _ h => h) rfl rfl rfl ?_
            refine C_skip (i := 7) rfl (by kernel_rfl) (fun _ _ _ h => h) rfl rfl rfl ?_
            refine C_skip (i := 8) rfl (by kernel_rfl) (fun _ _ _ h => h) rfl rfl rfl ?_
            refine C_take (i := 9) (v := .bool false) rfl (by kernel_rfl) (fun _ _ _ h => h) rfl rfl rfl (R_pure (by kernel_rfl)) ?_
            refine C_take (i := 10) (v := .bool false) rfl (by kernel_rfl) (fun _ _ _ h => h) rfl rfl rfl (R_pure (by kernel_rfl)) ?_
            refine C_skip (i := 11) rfl (by kernel_rfl) (fun _ _ _ h => h) rfl rfl rfl ?_
            refine C_skip (i := 12) rfl (by kernel_rfl) (fun _ _ _ h => h) rfl rfl rfl ?_
            refine C_skip (i := 13) rfl (by kernel_rfl) (fun _ _ _ h => h) rfl rfl rfl ?_
            refine C_take (i := 14) (v := .bool false) rfl (by kernel_rfl) (fun _ _ _ h => h) rfl rfl rfl (R_pure (by kernel_rfl)) ?_
            refine C_take (i := 15) (v := .bool false) rfl (by kernel_rfl) (fun _ _ _ h => h) rfl rfl rfl (R_pure (by kernel_rfl)) ?_
            refine C_skip (i := 16) rfl (by kernel_rfl) (fun _ _ _ h => h) rfl rfl rfl ?_
            refine C_skip (i := 17) rfl (by kernel_rfl) (fun _ _ _ h => h) rfl rfl rfl ?_
            refine C_skip (i := 18) rfl (by kernel_rfl) (fun _ _ _ h => h) rfl rfl rfl ?_
            refine C_skip (i := 19) rfl (by kernel_rfl) (fun _ _ _ h => h) rfl rfl rfl ?_
            refine C_skip (i := 20) rfl (by kernel_rfl) (fun _ _ _ h => h) rfl rfl rfl ?_
            refine C_skip (i := 21) rfl (by kernel_rfl) (fun _ _ _ h => h) rfl rfl rfl ?_
            refine C_skip (i := 22) rfl (by kernel_rfl) (fun _ _ _ h => h) rfl rfl rfl ?_
            refine C_skip (i := 23) rfl (by kernel_rfl) (fun _ _ _ h => h) rfl rfl rfl ?_
            refine C_skip (i := 24) rfl (by kernel_rfl) (fun _ _ _ h => h) rfl rfl rfl ?_
            refine C_skip (i := 25) rfl (by kernel_rfl) (fun _ _ _ h => h) rfl rfl rfl ?_
            refine C_skip (i := 26) rfl (by kernel_rfl) (fun _ _ _ h => h) rfl rfl rfl ?_
            refine C_take (i := 27) (v := .bool false) rfl (by kernel_rfl) (fun _ _ _ h => h) rfl rfl rfl (R_pure (by kernel_rfl)) ?_
            refine wpG_done (by kernel_rfl) ?_ _
            refine C_keepQ [(0, pt p1 0), (1, I x3), (2, .int .u32 x4), (12, .slice a1 x1.length c1), (13, I (x1.length : Int)), (14, I v4), (46, .bool false)] rfl fun b => ?_
            refine th_n ?_
            obtain rfl := Option.some.inj hr
            have hst := (((((hst.pull 4).pull 4).pull 3).pull 3).pull 4)
            exact (kpX [(0, pt p1 0), (1, I x3), (2, .int .u32 x4), (12, .slice a1 x1.length c1), (13, I (x1.length : Int)), (14, I v4), (46, .bool false)] rfl hst)
      · have hr := (if_neg (by rw [h]; exact Bool.false_ne_true)).symm.trans hr
        refine wp_exit ?_
        refine th_x (th_x (ib_x (th_n ?_)))
        obtain rfl := Option.some.inj hr
        have hst := (((hst.pull 2).pull 2).pull 2)
        exact ⟨(), (kpXf [] rfl hst)⟩
def history_world_find_1 (_k : Nat) (x1 : T_history_entry) (x2 : (List UInt8)) : Option (Int) := (if (sLt x1.name x2) = true then some (((-1) : Int)) else (if (!(sLt x1.name x2 || sEq x1.name x2)) = true then some ((1 : Int)) else some ((0 : Int))))
set_option maxRecDepth 100000 in
set_option maxHeartbeats 4000000 in
theorem history_world_find_1_ok {G w : World} {F : List HP} {R : Ending → World → Prop} (k : Nat) (x1 : T_history_entry) (x2 : (List UInt8)) (r : (Int)) (hst : St G w (F)) (hr : history_world_find_1 k x1 x2 = some r)
    (hR : ∀ w', St G w' (F) → R (.returned (I r)) w') :
    Calls Try.prog 28 #[.agg #[S x1.name, .int .u64 x1.v], S x2] w R := by
  unfold history_world_find_1 at hr
  refine enter Try.func28 rfl [(0, .agg #[S x1.name, .int .u64 x1.v]), (1, S x2)] rfl rfl fun b => ?_
  refine wp_seq ?_
  refine wp_reg ?_
  refine L_op rfl (O_box [S x1.name, .int .u64 x1.v] hst rfl rfl fun p2 w hst => ?_)
  refine L_pure 1 [(1, S x2), (2, pt p2 0)] (by kernel_rfl) fun b => ?_
  refine wpL_nil ?_
  refine th_n ?_
  refine wp_seq ?_
  refine wp_block ?_
  refine wp_seq ?_
  refine wp_reg ?_
  refine L_pure 1 [(1, S x2), (2, pt p2 0), (6, pt p2 0)] (by kernel_rfl) fun b => ?_
  refine L_op rfl (O_run (v := S x1.name) (w' := w) (R_load hst rfl rfl) rfl rfl ?_)
  refine L_pure 3 [(1, S x2), (2, pt p2 0), (5, .bool (sLt x1.name x2))] (by kernel_rfl) fun b => ?_
  refine wpL_nil ?_
  refine th_n ?_
  refine wp_cond_mkF (t := (sLt x1.name x2)) rfl (fun h => ?_) (fun h => ?_)
  · have hr := (if_pos h).symm.trans hr
    refine wp_seq ?_
    refine wp_reg ?_
    refine L_pure 1 [(4, I (-1))] (by kernel_rfl) fun b => ?_
    refine wpL_nil ?_
    refine th_n ?_
    refine wp_ret ?_
    refine ib_r (th_r ?_)
    refine ret1 rfl rfl ?_
    obtain rfl := Option.some.inj hr
    have hst := (hst.cut 0 1)
    exact hR _ hst
  · have hr := (if_neg (by rw [h]; exact Bool.false_ne_true)).symm.trans hr
    refine wp_seq ?_
    refine wp_reg ?_
    refine L_pure 1 [(1, S x2), (11, pt p2 0)] (by kernel_rfl) fun b => ?_
    refine L_op rfl (O_run (v := S x1.name) (w' := w) (R_load hst rfl rfl) rfl rfl ?_)
    refine L_pure 3 [(10, .bool (!(sLt x1.name x2 || sEq x1.name x2)))] (by kernel_rfl) fun b => ?_
    refine wpL_nil ?_
    refine th_n ?_
    refine wp_cond_mkF (t := (!(sLt x1.name x2 || sEq x1.name x2))) rfl (fun h => ?_) (fun h => ?_)
    · have hr := (if_pos h).symm.trans hr
      refine wp_seq ?_
      refine wp_reg ?_
      refine L_pure 1 [(4, I 1)] (by kernel_rfl) fun b => ?_
      refine wpL_nil ?_
      refine th_n ?_
      refine wp_ret ?_
      refine ib_r (th_r ?_)
      refine ret1 rfl rfl ?_
      obtain rfl := Option.some.inj hr
      have hst := (hst.cut 0 1)
      exact hR _ hst
    · have hr := (if_neg (by rw [h]; exact Bool.false_ne_true)).symm.trans hr
      refine wp_skip ?_
      refine ib_n (th_n ?_)
      refine wp_seq ?_
      refine wp_reg ?_
      refine L_pure 1 [(4, I 0)] (by kernel_rfl) fun b => ?_
      refine wpL_nil ?_
      refine th_n ?_
      refine wp_ret ?_
      refine ret1 rfl rfl ?_
      obtain rfl := Option.some.inj hr
      have hst := (hst.cut 0 1)
      exact hR _ hst
def slices_BinarySearchFunc_l1 (k : Nat) (x1 : (List T_history_entry)) (x2 : (List UInt8)) : Nat → Int → Int → Option (Int)
  | 0, _, _ => none
  | j + 1, v7, v8 => (if decide (v7 < v8) = true then (Option.bind (gt x1 (IntKind.i64.wrap (shR .u64 (IntKind.u64.wrap (IntKind.i64.wrap (v7 + v8))) 1))) fun x5 => (Option.bind (history_world_find_1 k x5 x2) fun y6 => (if decide (y6 < 0) = true then (slices_BinarySearchFunc_l1 k x1 x2 j (IntKind.i64.wrap ((IntKind.i64.wrap (shR .u64 (IntKind.u64.wrap (IntKind.i64.wrap (v7 + v8))) 1)) + 1)) v8) else (slices_BinarySearchFunc_l1 k x1 x2 j v7 (IntKind.i64.wrap (shR .u64 (IntKind.u64.wrap (IntKind.i64.wrap (v7 + v8))) 1)))))) else some (v7))
def slices_BinarySearchFunc (k : Nat) (x1 : (List T_history_entry)) (x2 : (List UInt8)) : Option (Int × Bool) := (Option.bind (slices_BinarySearchFunc_l1 k x1 x2 k (0 : Int) (x1.length : Int)) fun y5 => (Option.bind (if decide (y5 < (x1.length : Int)) = true then (Option.bind (gt x1 y5) fun x6 => (Option.bind (history_world_find_1 k x6 x2) fun y8 => some ((y8 == 0)))) else some (false)) fun y7 => some (y5, y7)))
set_option maxRecDepth 100000 in
set_option maxHeartbeats 4000000 in
theorem slices_BinarySearchFunc_ok {G w : World} {F : List HP} {R : Ending → World → Prop} (k : Nat) (x1 : (List T_history_entry)) (x2 : (List UInt8)) (a1 : Option Addr) (c1 : Nat) (r : (Int × Bool)) (hst : St G w (dsl r_T_history_entry a1 c1 x1 :: F)) (hr : slices_BinarySearchFunc k x1 x2 = some r)
    (hR : ∀ w', St G w' (dsl r_T_history_entry a1 c1 x1 :: F) → R (.returned (.tuple #[I r.1, .bool r.2])) w') :
    Calls Try.prog 27 #[.slice a1 x1.length c1, S x2, .func (.func 28) #[] #[]] w R := by
  unfold slices_BinarySearchFunc at hr
  refine enter Try.func27 rfl [(0, .slice a1 x1.length c1), (1, S x2), (2, .func (.func 28) #[] #[])] rfl rfl fun b => ?_
  refine wp_seq ?_
  refine wp_reg ?_
  refine L_pure 2 [(0, .slice a1 x1.length c1), (1, S x2), (2, .func (.func 28) #[] #[])] (by kernel_rfl) fun b => ?_
  refine wpL_nil ?_
  refine th_n ?_
  refine wp_seq ?_
  refine wp_reg ?_
  refine L_pure 3 [(0, .slice a1 x1.length c1), (1, S x2), (2, .func (.func 28) #[] #[]), (8, I (x1.length : Int))] (by kernel_rfl) fun b => ?_
  refine wpL_nil ?_
  refine th_n ?_
  refine wp_seq ?_
  refine wp_reg ?_
  refine L_pure 3 [(0, .slice a1 x1.length c1), (1, S x2), (2, .func (.func 28) #[] #[]), (8, I (x1.length : Int)), (9, I 0), (10, I (x1.length : Int))] (by kernel_rfl) fun b => ?_
  refine wpL_nil ?_
  refine th_n ?_
  obtain ⟨y5, hy5, hk3⟩ := bnd hr
  clear hr
  refine wp_seq_cut (fun a w => ∃ (b : Nat → Value), a = mkF 49 b [(0, .slice a1 x1.length c1), (1, S x2), (2, .func (.func 28) #[] #[]), (8, I (x1.length : Int)), (9, I y5)] ∧ St G w (dsl r_T_history_entry a1 c1 x1 :: F)) ?_ ?_
  · rintro _ w ⟨b, rfl, hst⟩
    have hr := hk3
    obtain ⟨y7, hy7, hk4⟩ := bnd hr
    clear hr
    refine wp_seq_cut (fun a w => ∃ (b : Nat → Value), a = mkF 49 b [(6, I y5), (7, .bool y7)] ∧ St G w (dsl r_T_history_entry a1 c1 x1 :: F)) ?_ ?_
    · rintro _ w ⟨b, rfl, hst⟩
      have hr := hk4
      refine wp_ret ?_
      refine ret2 rfl rfl rfl ?_
      obtain rfl := Option.some.inj hr
      exact hR _ hst
    · have hr := hy7
      refine wp_reg ?_
      refine L_pure 5 [(0, .slice a1 x1.length c1), (1, S x2), (2, .func (.func 28) #[] #[]), (9, I y5), (35, I y5), (39, .bool (decide (y5 < (x1.length : Int))))] (by kernel_rfl) fun b => ?_
      by_cases h : (decide (y5 < (x1.length : Int))) = true
      · have hr := (if_pos h).symm.trans hr
        refine L_keep ((39, .bool (decide (y5 < (x1.length : Int)))) :: [(0, .slice a1 x1.length c1), (1, S x2), (2, .func (.func 28) #[] #[]), (9, I y5), (35, I y5)]) rfl fun b => ?_
        refine L_bool h ?_
        refine L_pure 3 [(1, S x2), (35, I y5), (39, .bool true), (40, .func (.func 28) #[] #[]), (41, .slice a1 x1.length c1), (42, I y5)] (by kernel_rfl) fun b => ?_
        obtain ⟨x6, hx4, hr⟩ := bnd hr
        refine L_op rfl (O_run (v := pt (ab a1) (ao a1 + y5.toNat * 2)) (w' := w) (R_ia L58 rfl rfl (dsl_addr hst hx4) (gt_some hx4).1 (gt_some hx4).2.1) rfl rfl ?_)
        obtain ⟨q4, hc4, hst⟩ := dsl_cells hst hx4
        have hst := hst.drop
        refine L_op rfl (O_run (v := .agg #[S x6.name, .int .u64 x6.v]) (w' := w) (R_loadAt (off := ao a1 + y5.toNat * 2) (j := 0) hc4 rfl rfl) rfl rfl ?_)
        refine L_pure 1 [(35, I y5), (39, .bool true), (40, .func (.func 28) #[] #[]), (44, .agg #[S x6.name, .int .u64 x6.v]), (45, S x2)] (by kernel_rfl) fun b => ?_
        obtain ⟨y8, hy8, hr⟩ := bnd hr
        refine L_op rfl (O_callv (vs := #[.agg #[S x6.name, .int .u64 x6.v], S x2]) (ws := #[.agg #[S x6.name, .int .u64 x6.v], S x2]) rfl Try.call28 (by kernel_rfl) rfl (history_world_find_1_ok k x6 x2 y8 hst hy8 fun w hst => ?_))
        refine CK_ret rfl ?_
        refine L_pure 4 [(6, I y5), (7, .bool (y8 == 0))] (by kernel_rfl) fun b => ?_
        refine wpL_nil ?_
        refine th_n ?_
        obtain rfl := Option.some.inj hr
        exact (kpX [(6, I y5), (7, .bool (y8 == 0))] rfl hst)
      · have hr := (if_neg h).symm.trans hr
        refine L_keep ((39, .bool (decide (y5 < (x1.length : Int)))) :: [(0, .slice a1 x1.length c1), (1, S x2), (2, .func (.func 28) #[] #[]), (9, I y5), (35, I y5)]) rfl fun b => ?_
        refine L_bool (eq_false_of_ne_true h) ?_
        refine L_pure 11 [(6, I y5), (7, .bool false)] (by kernel_rfl) fun b => ?_
        refine wpL_nil ?_
        refine th_n ?_
        obtain rfl := Option.some.inj hr
        exact (kpX [(6, I y5), (7, .bool false)] rfl hst)
  · refine wp_block ?_
    refine wp_loop_fuel (fun j a w => ∃ (v7 : Int) (v8 : Int) (b : Nat → Value), a = mkF 49 b [(0, .slice a1 x1.length c1), (1, S x2), (2, .func (.func 28) #[] #[]), (8, I (x1.length : Int)), (9, I v7), (10, I v8)] ∧ St G w (dsl r_T_history_entry a1 c1 x1 :: F) ∧ slices_BinarySearchFunc_l1 k x1 x2 j v7 v8 = some y5) (k := k) ⟨(0 : Int), (x1.length : Int), (kpX [(0, .slice a1 x1.length c1), (1, S x2), (2, .func (.func 28) #[] #[]), (8, I (x1.length : Int)), (9, I 0), (10, I (x1.length : Int))] rfl ⟨hst, hy5⟩)⟩ ?_ ?_
    · rintro _ _ ⟨_, _, _, _, _, h⟩
      rw [slices_BinarySearchFunc_l1] at h
      cases h
    · rintro j _ w ⟨v7, v8, b, rfl, hst, hr⟩
      rw [slices_BinarySearchFunc_l1] at hr
      refine wp_seq ?_
      refine wp_seq ?_
      refine wp_reg ?_
      refine L_pure 3 [(0, .slice a1 x1.length c1), (1, S x2), (2, .func (.func 28) #[] #[]), (8, I (x1.length : Int)), (9, I v7), (10, I v8), (17, .bool (decide (v7 < v8)))] (by kernel_rfl) fun b => ?_
      refine wpL_nil ?_
      refine th_n ?_
      refine wp_cond_mkF (t := decide (v7 < v8)) rfl (fun h => ?_) (fun h => ?_)
      · have hr := (if_pos h).symm.trans hr
        refine wp_skip ?_
        refine th_n ?_
        refine wp_block ?_
        refine wp_seq ?_
        refine wp_reg ?_
        refine L_pure 7 [(0, .slice a1 x1.length c1), (1, S x2), (2, .func (.func 28) #[] #[]), (8, I (x1.length : Int)), (9, I v7), (10, I v8), (11, I (IntKind.i64.wrap (shR .u64 (IntKind.u64.wrap (IntKind.i64.wrap (v7 + v8))) 1)))] (by kernel_rfl) fun b => ?_
        refine wpL_nil ?_
        refine th_n ?_
        refine wp_seq ?_
        refine wp_reg ?_
        refine L_pure 3 [(0, .slice a1 x1.length c1), (1, S x2), (2, .func (.func 28) #[] #[]), (8, I (x1.length : Int)), (9, I v7), (10, I v8), (11, I (IntKind.i64.wrap (shR .u64 (IntKind.u64.wrap (IntKind.i64.wrap (v7 + v8))) 1))), (24, .func (.func 28) #[] #[]), (25, .slice a1 x1.length c1), (26, I (IntKind.i64.wrap (shR .u64 (IntKind.u64.wrap (IntKind.i64.wrap (v7 + v8))) 1)))] (by kernel_rfl) fun b => ?_
        obtain ⟨x5, hx3, hr⟩ := bnd hr
        refine L_op rfl (O_run (v := pt (ab a1) (ao a1 + (IntKind.i64.wrap (shR .u64 (IntKind.u64.wrap (IntKind.i64.wrap (v7 + v8))) 1)).toNat * 2)) (w' := w) (R_ia L58 rfl rfl (dsl_addr hst hx3) (gt_some hx3).1 (gt_some hx3).2.1) rfl rfl ?_)
        obtain ⟨q3, hc3, hst⟩ := dsl_cells hst hx3
        have hst := hst.drop
        refine L_op rfl (O_run (v := .agg #[S x5.name, .int .u64 x5.v]) (w' := w) (R_loadAt (off := ao a1 + (IntKind.i64.wrap (shR .u64 (IntKind.u64.wrap (IntKind.i64.wrap (v7 + v8))) 1)).toNat * 2) (j := 0) hc3 rfl rfl) rfl rfl ?_)
        refine L_pure 1 [(0, .slice a1 x1.length c1), (1, S x2), (2, .func (.func 28) #[] #[]), (8, I (x1.length : Int)), (9, I v7), (10, I v8), (11, I (IntKind.i64.wrap (shR .u64 (IntKind.u64.wrap (IntKind.i64.wrap (v7 + v8))) 1))), (24, .func (.func 28) #[] #[]), (28, .agg #[S x5.name, .int .u64 x5.v]), (29, S x2)] (by kernel_rfl) fun b => ?_
        obtain ⟨y6, hy6, hr⟩ := bnd hr
        refine L_op rfl (O_callv (vs := #[.agg #[S x5.name, .int .u64 x5.v], S x2]) (ws := #[.agg #[S x5.name, .int .u64 x5.v], S x2]) rfl Try.call28 (by kernel_rfl) rfl (history_world_find_1_ok k x5 x2 y6 hst hy6 fun w hst => ?_))
        refine CK_ret rfl ?_
        refine L_pure 1 [(0, .slice a1 x1.length c1), (1, S x2), (2, .func (.func 28) #[] #[]), (8, I (x1.length : Int)), (9, I v7), (10, I v8), (11, I (IntKind.i64.wrap (shR .u64 (IntKind.u64.wrap (IntKind.i64.wrap (v7 + v8))) 1))), (31, .bool (decide (y6 < 0)))] (by kernel_rfl) fun b => ?_
        refine wpL_nil ?_
        refine th_n ?_
        refine wp_cond_mkF (t := decide (y6 < 0)) rfl (fun h => ?_) (fun h => ?_)
        · have hr := (if_pos h).symm.trans hr
          refine wp_reg ?_
          refine L_pure 3 [(0, .slice a1 x1.length c1), (1, S x2), (2, .func (.func 28) #[] #[]), (8, I (x1.length : Int)), (9, I (IntKind.i64.wrap ((IntKind.i64.wrap (shR .u64 (IntKind.u64.wrap (IntKind.i64.wrap (v7 + v8))) 1)) + 1))), (10, I v8)] (by kernel_rfl) fun b => ?_
          refine wpL_nil ?_
          refine ib_n (th_n ?_)
          exact ⟨(IntKind.i64.wrap ((IntKind.i64.wrap (shR .u64 (IntKind.u64.wrap (IntKind.i64.wrap (v7 + v8))) 1)) + 1)), v8, (kpX [(0, .slice a1 x1.length c1), (1, S x2), (2, .func (.func 28) #[] #[]), (8, I (x1.length : Int)), (9, I (IntKind.i64.wrap ((IntKind.i64.wrap (shR .u64 (IntKind.u64.wrap (IntKind.i64.wrap (v7 + v8))) 1)) + 1))), (10, I v8)] rfl ⟨hst, hr⟩)⟩
        · have hr := (if_neg (by rw [h]; exact Bool.false_ne_true)).symm.trans hr
          refine wp_reg ?_
          refine L_pure 2 [(0, .slice a1 x1.length c1), (1, S x2), (2, .func (.func 28) #[] #[]), (8, I (x1.length : Int)), (9, I v7), (10, I (IntKind.i64.wrap (shR .u64 (IntKind.u64.wrap (IntKind.i64.wrap (v7 + v8))) 1)))] (by kernel_rfl) fun b => ?_
          refine wpL_nil ?_
          refine ib_n (th_n ?_)
          exact ⟨v7, (IntKind.i64.wrap (shR .u64 (IntKind.u64.wrap (IntKind.i64.wrap (v7 + v8))) 1)), (kpX [(0, .slice a1 x1.length c1), (1, S x2), (2, .func (.func 28) #[] #[]), (8, I (x1.length : Int)), (9, I v7), (10, I (IntKind.i64.wrap (shR .u64 (IntKind.u64.wrap (IntKind.i64.wrap (v7 + v8))) 1)))] rfl ⟨hst, hr⟩)⟩
      · have hr := (if_neg (by rw [h]; exact Bool.false_ne_true)).symm.trans hr
        refine wp_exit ?_
        refine th_x (th_x (ib_x (th_n ?_)))
        obtain rfl := Option.some.inj hr
        exact (kpX [(0, .slice a1 x1.length c1), (1, S x2), (2, .func (.func 28) #[] #[]), (8, I (x1.length : Int)), (9, I v7)] rfl hst)
def history_world_find (k : Nat) (x1 : (List T_history_entry)) (x2 : (List UInt8)) : Option (Int × Bool) := (Option.bind (slices_BinarySearchFunc k x1 x2) fun y2 => some (y2.1, y2.2))
set_option maxRecDepth 100000 in
set_option maxHeartbeats 4000000 in
theorem history_world_find_ok {G w : World} {F : List HP} {R : Ending → World → Prop} (k : Nat) (x1 : (List T_history_entry)) (x2 : (List UInt8)) (a1 : Option Addr) (c1 : Nat) (r : (Int × Bool)) (hst : St G w (dsl r_T_history_entry a1 c1 x1 :: F)) (hr : history_world_find k x1 x2 = some r)
    (hR : ∀ w', St G w' (dsl r_T_history_entry a1 c1 x1 :: F) → R (.returned (.tuple #[I r.1, .bool r.2])) w') :
    Calls Try.prog 22 #[.slice a1 x1.length c1, S x2] w R := by
  unfold history_world_find at hr
  refine enter Try.func22 rfl [(0, .slice a1 x1.length c1), (1, S x2)] rfl rfl fun b => ?_
  refine wp_seq ?_
  refine wp_reg ?_
  refine L_pure 2 [(0, .slice a1 x1.length c1), (1, S x2)] (by kernel_rfl) fun b => ?_
  refine wpL_nil ?_
  refine th_n ?_
  refine wp_seq ?_
  refine wp_reg ?_
  refine L_pure 2 [(6, .slice a1 x1.length c1), (7, S x2)] (by kernel_rfl) fun b => ?_
  obtain ⟨y2, hy2, hr⟩ := bnd hr
  refine L_op rfl (O_call (vs := #[.slice a1 x1.length c1, S x2, .func (.func 28) #[] #[]]) Try.call27 (by kernel_rfl) (slices_BinarySearchFunc_ok k x1 x2 a1 c1 y2 hst hy2 fun w hst => ?_))
  refine CK_ret rfl ?_
  refine L_pure 4 [(4, I y2.1), (5, .bool y2.2)] (by kernel_rfl) fun b => ?_
  refine wpL_nil ?_
  refine th_n ?_
  refine wp_ret ?_
  refine ret2 rfl rfl rfl ?_
  obtain rfl := Option.some.inj hr
  exact hR _ hst
def slices_Clone (_k : Nat) (x1 : (List T_history_entry)) : Option (List T_history_entry) := if room (([] : (List T_history_entry)).length + x1.length) 24 = true then some x1 else none
set_option maxRecDepth 100000 in
set_option maxHeartbeats 4000000 in
theorem slices_Clone_ok {G w : World} {F : List HP} {R : Ending → World → Prop} (k : Nat) (x1 : (List T_history_entry)) (a1 : Option Addr) (c1 : Nat) (r : (List T_history_entry)) (hst : St G w (dsl r_T_history_entry a1 c1 x1 :: F)) (hr : slices_Clone k x1 = some r)
    (hR : ∀ (a2 : Option Addr) (c2 : Nat) w', St G w' (osl r_T_history_entry 68 a2 c2 r :: dsl r_T_history_entry a1 c1 x1 :: F) → R (.returned (.slice a2 r.length c2)) w') :
    Calls Try.prog 29 #[.slice a1 x1.length c1] w R := by
  unfold slices_Clone at hr
  obtain ⟨hb, hr⟩ := chk hr
  obtain rfl := Option.some.inj hr
  refine enter Try.func29 rfl [(0, .slice a1 x1.length c1)] rfl rfl fun b => ?_
  refine wp_seq (wp_reg ?_)
  refine L_pure 1 [(0, .slice a1 x1.length c1)] (by kernel_rfl) fun b => wpL_nil (th_n ?_)
  refine wp_seq (wp_seq (wp_reg ?_))
  refine L_pure 1 [(0, .slice a1 x1.length c1), (3, .slice a1 x1.length c1)] (by kernel_rfl) fun b => ?_
  refine L_op rfl (O_run (v := .bool a1.isNone) (w' := w) (R_slnil Try.underlying58 rfl rfl) rfl rfl ?_)
  refine wpL_nil (th_n ?_)
  refine wp_cond_mkF (t := a1.isNone) rfl (fun h => ?_) (fun h => ?_)
  · refine wp_seq (wp_reg ?_)
    refine L_pure 1 [(2, .slice none 0 0)] (by kernel_rfl) fun b => wpL_nil (th_n (wp_ret (th_r (ret1 rfl rfl ?_))))
    have hx : x1 = [] := (dsl_b2n hst) (by cases a1 <;> simp_all)
    subst hx
    exact hR none 0 _ (osl_nil r_T_history_entry 68 hst)
  · refine wp_skip (th_n ?_)
    refine wp_seq (wp_reg ?_)
    refine L_op rfl (O_bs (T := 68) [] #[] hst (by kernel_rfl) (by kernel_rfl) rfl fun p w hst => ?_)
    have hst := osl_of_blk0 (ecs := []) r_T_history_entry [] rfl (fun m => trivial) rfl hst
    refine L_pure 1 [(5, .slice (some ⟨p, 0, none⟩) 0 0), (6, .slice a1 x1.length c1)] (by kernel_rfl) fun b => ?_
    refine L_op rfl (O_app_d L58 hst rfl rfl hb rfl fun a2 c2 w hst => ?_)
    refine L_pure 1 [(2, .slice a2 ([] ++ x1).length c2)] (by kernel_rfl) fun b => wpL_nil (th_n (wp_ret (ret1 rfl rfl ?_)))
    exact hR a2 c2 _ hst

end Go.Proofs.Ytkbhnofclgibfaa
