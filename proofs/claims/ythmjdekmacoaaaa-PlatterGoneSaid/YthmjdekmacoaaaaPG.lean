/- PG: printed by hx.py (own work) out of the program. -/
import Derived.Test.YthmjdekmacoaaaaHxT
import Derived.Test.YthmjdekmacoaaaaHxU
import Derived.Tactics
import Derived.Test.YthmjdekmacoaaaaShelf
import Derived.Test.YthmjdekmacoaaaaHxK
import Derived.Test.YthmjdekmacoaaaaHxM
import Derived.Test.YthmjdekmacoaaaaChecked
namespace Go.Proofs.Ythmjdekmacoaaaa
open Go.Hx Go.RowKit
structure T_meter_Meter where
  room : Int
  used : Int
  deriving DecidableEq
def r_T_meter_Meter : Rp T_meter_Meter := ⟨Unit, 2, fun x _ => [.int .i64 x.room, .int .i64 x.used], fun _ _ _ => True, fun _ _ _ _ _ h => h, fun _ _ => rfl, fun _ _ => rfl⟩
structure T_platter_text where
  there : Bool
  s : (List UInt8)
  deriving DecidableEq
def r_T_platter_text : Rp T_platter_text := ⟨Unit, 2, fun x _ => [.bool x.there, S x.s], fun _ _ _ => True, fun _ _ _ _ _ h => h, fun _ _ => rfl, fun _ _ => rfl⟩
structure T_platter_file where
  now : T_platter_text
  safe : T_platter_text
  deriving DecidableEq
def r_T_platter_file : Rp T_platter_file := ⟨Unit, 4, fun x _ => [.bool x.now.there, S x.now.s, .bool x.safe.there, S x.safe.s], fun _ _ _ => True, fun _ _ _ _ _ h => h, fun _ _ => rfl, fun _ _ => rfl⟩
theorem L30 : Lst Try.prog 30 3 1 8 := ⟨Try.underlying30, Try.t3, _, by kernel_rfl, rfl, rfl, rfl, rfl⟩
theorem L34 : Lst Try.prog 34 9 1 16 := ⟨Try.underlying34, Try.t9, _, by kernel_rfl, rfl, rfl, rfl, rfl⟩
theorem M40 : MapR Try.prog 40 9 91 S (rPt r_T_platter_file) none (.pointer none) := ⟨Try.underlying40, keys_str Try.underlying9, ⟨Try.t91, by kernel_rfl, rfl⟩, fun _ => ⟨none, rfl, rfl⟩⟩
theorem G86 : Try.prog.eqGuardType Try.prog.depth 86 = false := by kernel_rfl
theorem EQ86 (x y : T_platter_text) (w : World) : (Op.equalIn 10000 86 (.agg #[.bool x.there, S x.s]) (.agg #[.bool y.there, S y.s])).run Try.prog w = .ok (decide (x = y)) w := by
  have hS : Try.prog.underlying 86 = some (.struct (Try.prog.fieldsOf 86)) := by kernel_rfl
  have hp : Try.prog.stoodInHeld 86 = false := by kernel_rfl
  have u4 := run_underlying (P := Try.prog) Try.underlying4
  have z4 := Try.sizeOf4; have a4 := Try.isAgg4
  have u9 := run_underlying (P := Try.prog) Try.underlying9
  have z9 := Try.sizeOf9; have a9 := Try.isAgg9
  rw [show (10000 : Nat) = 9999 + 1 from rfl, run_equalIn_agg w 9999 86 _ _ hS hp]
  simp only [Program.fieldsOf, Try.underlying86]
  go_simp
  cases x; cases y; simp; repeat' split
  all_goals simp_all
def glacierlaw01_Cut (_k : Nat) (x1 : (List UInt8)) (x2 : Int) : Option ((List UInt8)) := (if decide ((x1.length : Int) > x2) = true then (Option.bind (sl x1 0 x2) fun x4 => some (x4)) else some (x1))
set_option maxRecDepth 100000 in
set_option maxHeartbeats 4000000 in
theorem glacierlaw01_Cut_ok {G w : World} {F : List HP} {R : Ending → World → Prop} (k : Nat) (x1 : (List UInt8)) (x2 : Int) (r : ((List UInt8))) (hst : St G w (F)) (hr : glacierlaw01_Cut k x1 x2 = some r)
    (hR : ∀ w', St G w' (F) → R (.returned (S r)) w') :
    Calls Try.prog 13 #[S x1, I x2] w R := by
  unfold glacierlaw01_Cut at hr
  refine enter Try.func13 rfl [(0, S x1), (1, I x2)] rfl rfl fun b => ?_
  refine wp_seq ?_
  refine wp_reg ?_
  refine L_pure 1 [(0, S x1), (1, I x2)] (by kernel_rfl) fun b => ?_
  refine wpL_nil ?_
  refine th_n ?_
  refine wp_seq ?_
  refine wp_seq ?_
  refine wp_reg ?_
  refine L_pure 4 [(0, S x1), (1, I x2), (8, .bool (decide ((x1.length : Int) > x2)))] (by kernel_rfl) fun b => ?_
  refine wpL_nil ?_
  refine th_n ?_
  refine wp_cond_mkF (t := decide ((x1.length : Int) > x2)) rfl (fun h => ?_) (fun h => ?_)
  · have hr := (if_pos h).symm.trans hr
    refine wp_seq ?_
    refine wp_reg ?_
    refine L_pure 2 [(9, S x1), (10, I x2)] (by kernel_rfl) fun b => ?_
    obtain ⟨x4, hx2, hr⟩ := bnd hr
    refine L_op rfl (O_run (v := S x4) (w' := w) (R_slice_s Try.underlying9 rfl rfl rfl hx2) rfl rfl ?_)
    refine L_pure 1 [(4, S x4)] (by kernel_rfl) fun b => ?_
    refine wpL_nil ?_
    refine th_n ?_
    refine wp_ret ?_
    refine th_r ?_
    refine ret1 rfl rfl ?_
    obtain rfl := Option.some.inj hr
    exact hR _ hst
  · have hr := (if_neg (by rw [h]; exact Bool.false_ne_true)).symm.trans hr
    refine wp_skip ?_
    refine th_n ?_
    refine wp_seq ?_
    refine wp_reg ?_
    refine L_pure 2 [(4, S x1)] (by kernel_rfl) fun b => ?_
    refine wpL_nil ?_
    refine th_n ?_
    refine wp_ret ?_
    refine ret1 rfl rfl ?_
    obtain rfl := Option.some.inj hr
    exact hR _ hst
def meter_Made (_k : Nat) (x1 : Int) : Option (T_meter_Meter) := some ((T_meter_Meter.mk (mx2 x1 0) 0))
set_option maxRecDepth 100000 in
set_option maxHeartbeats 4000000 in
theorem meter_Made_ok {G w : World} {F : List HP} {R : Ending → World → Prop} (k : Nat) (x1 : Int) (r : (T_meter_Meter)) (hst : St G w (F)) (hr : meter_Made k x1 = some r)
    (hR : ∀ w', St G w' (F) → R (.returned (.agg #[I r.room, I r.used])) w') :
    Calls Try.prog 38 #[I x1] w R := by
  unfold meter_Made at hr
  refine enter Try.func38 rfl [(0, I x1)] rfl rfl fun b => ?_
  refine wp_seq ?_
  refine wp_reg ?_
  refine L_op rfl (O_alloc (i := Try.t37) (z := .agg #[I 0, I 0]) [I 0, I 0] hst rfl rfl rfl rfl fun p2 w hst => ?_)
  refine wpL_nil ?_
  refine th_n ?_
  refine wp_seq ?_
  refine wp_reg ?_
  refine L_pure 3 [(2, pt p2 0), (5, .agg #[I (mx2 x1 0), I 0])] (by kernel_rfl) fun b => ?_
  refine L_op rfl (O_store [I (mx2 x1 0), I 0] hst rfl rfl (by kernel_rfl) fun w hst => ?_)
  refine wpL_nil ?_
  refine th_n ?_
  refine wp_ret ?_
  refine retC (v := .agg #[I (mx2 x1 0), I 0]) (p := p2) (off := 0) (cs := [I (mx2 x1 0), I 0]) (T' := 37) rfl rfl hst (by kernel_rfl) ?_
  obtain rfl := Option.some.inj hr
  have hst := (hst.cut 0 1)
  exact hR _ hst
def platter_New (k : Nat) (x1 : Int) : Option (Int × Int × Bool × Int × (List ((List UInt8) × (Option T_platter_file)))) := (Option.bind (meter_Made k x1) fun y2 => some (y2.room, y2.used, false, (0 : Int), ([] : (List ((List UInt8) × (Option T_platter_file))))))
set_option maxRecDepth 100000 in
set_option maxHeartbeats 4000000 in
theorem platter_New_ok {G w : World} {F : List HP} {R : Ending → World → Prop} (k : Nat) (x1 : Int) (r : (Int × Int × Bool × Int × (List ((List UInt8) × (Option T_platter_file))))) (hst : St G w (F)) (hr : platter_New k x1 = some r)
    (hR : ∀ (p3 : Nat) (p4 : Nat) w', St G w' (blk p3 (cl [I r.1, I r.2.1, .bool r.2.2.1, I r.2.2.2.1, .map (some p4)] 42) :: mpr S (rPt r_T_platter_file) p4 r.2.2.2.2 :: F) → R (.returned (pt p3 0)) w') :
    Calls Try.prog 14 #[I x1] w R := by
  unfold platter_New at hr
  refine enter Try.func14 rfl [(0, I x1)] rfl rfl fun b => ?_
  refine wp_seq ?_
  refine wp_reg ?_
  refine L_pure 1 [(0, I x1)] (by kernel_rfl) fun b => ?_
  refine wpL_nil ?_
  refine th_n ?_
  refine wp_seq ?_
  refine wp_reg ?_
  refine L_pure 1 [(3, I x1)] (by kernel_rfl) fun b => ?_
  obtain ⟨y2, hy2, hr⟩ := bnd hr
  refine L_op rfl (O_call (vs := #[I x1]) Try.call38 (by kernel_rfl) (meter_Made_ok k x1 y2 hst hy2 fun w hst => ?_))
  refine CK_ret rfl ?_
  refine L_op rfl (O_makeMapR S (rPt r_T_platter_file) hst rfl fun p5 w hst => ?_)
  refine L_pure 1 [(6, .agg #[I y2.room, I y2.used, .bool false, I 0, .map (some p5)])] (by kernel_rfl) fun b => ?_
  refine L_op rfl (O_box [I y2.room, I y2.used, .bool false, I 0, .map (some p5)] hst rfl rfl fun p6 w hst => ?_)
  refine L_pure 1 [(2, pt p6 0)] (by kernel_rfl) fun b => ?_
  refine wpL_nil ?_
  refine th_n ?_
  refine wp_ret ?_
  refine ret1 rfl rfl ?_
  obtain rfl := Option.some.inj hr
  have hst := ((hst.pull 1).pull 1)
  exact hR p6 p5 _ hst
def meter_Luck_Try (_k : Nat) (_x1 : Int) (_x2 : Int) (x3 : Bool) (x4 : Int) (_x5 : (List ((List UInt8) × (Option T_platter_file)))) : Option (Int × Int) := (if x3 = true then some ((14 : Int), x4) else (Option.bind (if decide (x4 > 0) = true then (if ((IntKind.i64.wrap (x4 - 1)) == 0) = true then some (Flow.ret ((8 : Int), (IntKind.i64.wrap (x4 - 1)))) else some (Flow.go ((IntKind.i64.wrap (x4 - 1))))) else some (Flow.go (x4))) fun y2 => (match y2 with | Flow.ret r => some r | Flow.go z2 => some ((0 : Int), z2))))
set_option maxRecDepth 100000 in
set_option maxHeartbeats 4000000 in
theorem meter_Luck_Try_ok {G w : World} {F : List HP} {R : Ending → World → Prop} (k : Nat) (x1 : Int) (x2 : Int) (x3 : Bool) (x4 : Int) (x5 : (List ((List UInt8) × (Option T_platter_file)))) (p1 : Nat) (p2 : Nat) (r : (Int × Int)) (hst : St G w (blk p1 (cl [I x1, I x2, .bool x3, I x4, .map (some p2)] 42) :: mpr S (rPt r_T_platter_file) p2 x5 :: F)) (hr : meter_Luck_Try k x1 x2 x3 x4 x5 = some r)
    (hR : ∀ w', St G w' (blk p1 (cl [I x1, I x2, .bool x3, I r.2, .map (some p2)] 42) :: mpr S (rPt r_T_platter_file) p2 x5 :: F) → R (.returned (I r.1)) w') :
    Calls Try.prog 39 #[pt p1 2] w R := by
  unfold meter_Luck_Try at hr
  refine enter Try.func39 rfl [(0, pt p1 2)] rfl rfl fun b => ?_
  refine wp_seq ?_
  refine wp_reg ?_
  refine L_pure 1 [(0, pt p1 2)] (by kernel_rfl) fun b => ?_
  refine wpL_nil ?_
  refine th_n ?_
  refine wp_seq ?_
  refine wp_seq ?_
  refine wp_reg ?_
  refine L_pure 3 [(0, pt p1 2), (5, pt p1 2)] (by kernel_rfl) fun b => ?_
  refine L_op rfl (O_run (v := .bool x3) (w' := w) (R_load hst rfl rfl) rfl rfl ?_)
  refine wpL_nil ?_
  refine th_n ?_
  refine wp_cond_mkF (t := x3) rfl (fun h => ?_) (fun h => ?_)
  · have hr := (if_pos h).symm.trans hr
    refine wp_seq ?_
    refine wp_reg ?_
    refine L_pure 1 [(2, I 14)] (by kernel_rfl) fun b => ?_
    refine wpL_nil ?_
    refine th_n ?_
    refine wp_ret ?_
    refine th_r ?_
    refine ret1 rfl rfl ?_
    obtain rfl := Option.some.inj hr
    have hst := ((hst.pull 1).pull 1)
    exact hR _ hst
  · have hr := (if_neg (by rw [h]; exact Bool.false_ne_true)).symm.trans hr
    refine wp_skip ?_
    refine th_n ?_
    obtain ⟨y2, hy2, hk2⟩ := bnd hr
    clear hr
    refine wp_seq_cut (fun a w => ∃ (z2 : Int) (b : Nat → Value), y2 = .go z2 ∧ a = mkF 24 b [] ∧ St G w (blk p1 (cl [I x1, I x2, .bool x3, I z2, .map (some p2)] 42) :: mpr S (rPt r_T_platter_file) p2 x5 :: F)) ?_ ?_
    · rintro _ w ⟨z2, b, rfl, rfl, hst⟩
      have hr := hk2
      refine wp_seq ?_
      refine wp_reg ?_
      refine L_pure 1 [(2, I 0)] (by kernel_rfl) fun b => ?_
      refine wpL_nil ?_
      refine th_n ?_
      refine wp_ret ?_
      refine ret1 rfl rfl ?_
      obtain rfl := Option.some.inj hr
      have hst := ((hst.pull 1).pull 1)
      exact hR _ hst
    · have hr := hy2
      refine wp_seq ?_
      refine wp_reg ?_
      refine L_pure 3 [(0, pt p1 2), (9, pt p1 3)] (by kernel_rfl) fun b => ?_
      refine L_op rfl (O_run (v := I x4) (w' := w) (R_load hst rfl rfl) rfl rfl ?_)
      refine L_pure 1 [(0, pt p1 2), (11, .bool (decide (x4 > 0)))] (by kernel_rfl) fun b => ?_
      refine wpL_nil ?_
      refine th_n ?_
      refine wp_cond_mkF (t := decide (x4 > 0)) rfl (fun h => ?_) (fun h => ?_)
      · have hr := (if_pos h).symm.trans hr
        refine wp_seq ?_
        refine wp_reg ?_
        refine L_pure 3 [(0, pt p1 2), (12, pt p1 2), (14, pt p1 3)] (by kernel_rfl) fun b => ?_
        refine L_op rfl (O_run (v := I x4) (w' := w) (R_load hst rfl rfl) rfl rfl ?_)
        refine L_pure 3 [(0, pt p1 2), (16, I (IntKind.i64.wrap (x4 - 1))), (18, pt p1 3)] (by kernel_rfl) fun b => ?_
        refine L_op rfl (O_store [I x1, I x2, .bool x3, I (IntKind.i64.wrap (x4 - 1)), .map (some p2)] hst rfl rfl (by kernel_rfl) fun w hst => ?_)
        refine wpL_nil ?_
        refine th_n ?_
        refine wp_seq ?_
        refine wp_reg ?_
        refine L_pure 3 [(21, pt p1 3)] (by kernel_rfl) fun b => ?_
        refine L_op rfl (O_run (v := I (IntKind.i64.wrap (x4 - 1))) (w' := w) (R_load hst rfl rfl) rfl rfl ?_)
        refine L_pure 1 [(23, .bool ((IntKind.i64.wrap (x4 - 1)) == 0))] (by kernel_rfl) fun b => ?_
        refine wpL_nil ?_
        refine th_n ?_
        refine wp_cond_mkF (t := ((IntKind.i64.wrap (x4 - 1)) == 0)) rfl (fun h => ?_) (fun h => ?_)
        · have hr := (if_pos h).symm.trans hr
          refine wp_seq ?_
          refine wp_reg ?_
          refine L_pure 1 [(2, I 8)] (by kernel_rfl) fun b => ?_
          refine wpL_nil ?_
          refine th_n ?_
          refine wp_ret ?_
          refine th_r ?_
          refine ret1 rfl rfl ?_
          obtain rfl := Option.some.inj hr
          obtain rfl := Option.some.inj hk2
          have hst := ((hst.pull 1).pull 1)
          exact hR _ hst
        · have hr := (if_neg (by rw [h]; exact Bool.false_ne_true)).symm.trans hr
          refine wp_skip ?_
          refine th_n ?_
          obtain rfl := Option.some.inj hr
          have hst := ((hst.pull 1).pull 1)
          exact ⟨((IntKind.i64.wrap (x4 - 1))), (kpXf [] rfl hst)⟩
      · have hr := (if_neg (by rw [h]; exact Bool.false_ne_true)).symm.trans hr
        refine wp_skip ?_
        refine th_n ?_
        obtain rfl := Option.some.inj hr
        have hst := ((hst.pull 1).pull 1)
        exact ⟨(x4), (kpXf [] rfl hst)⟩
def platter_Disk_get (_k : Nat) (_x1 : Int) (_x2 : Int) (_x3 : Bool) (_x4 : Int) (x5 : (List ((List UInt8) × (Option T_platter_file)))) (x6 : (List UInt8)) : Option ((Option T_platter_file)) := (if (mget x5 x6).isSome = true then some (((mget x5 x6).getD none)) else some ((some (T_platter_file.mk (T_platter_text.mk false ([])) (T_platter_text.mk false ([]))))))
set_option maxRecDepth 100000 in
set_option maxHeartbeats 4000000 in
theorem platter_Disk_get_ok {G w : World} {F : List HP} {R : Ending → World → Prop} (k : Nat) (x1 : Int) (x2 : Int) (x3 : Bool) (x4 : Int) (x5 : (List ((List UInt8) × (Option T_platter_file)))) (x6 : (List UInt8)) (p1 : Nat) (p2 : Nat) (r : ((Option T_platter_file))) (hst : St G w (blk p1 (cl [I x1, I x2, .bool x3, I x4, .map (some p2)] 42) :: mpr S (rPt r_T_platter_file) p2 x5 :: F)) (hr : platter_Disk_get k x1 x2 x3 x4 x5 x6 = some r)
    (hR : ∀ (a2 : Option Addr) w', St G w' (dpt r_T_platter_file a2 r :: blk p1 (cl [I x1, I x2, .bool x3, I x4, .map (some p2)] 42) :: mpr S (rPt r_T_platter_file) p2 x5 :: F) → R (.returned (.pointer a2)) w') :
    Calls Try.prog 43 #[pt p1 0, S x6] w R := by
  unfold platter_Disk_get at hr
  refine enter Try.func43 rfl [(0, pt p1 0), (1, S x6)] rfl rfl fun b => ?_
  refine wp_seq ?_
  refine wp_reg ?_
  refine L_pure 1 [(0, pt p1 0), (1, S x6)] (by kernel_rfl) fun b => ?_
  refine wpL_nil ?_
  refine th_n ?_
  refine wp_seq ?_
  refine wp_seq ?_
  refine wp_reg ?_
  refine L_pure 3 [(1, S x6), (10, pt p1 4)] (by kernel_rfl) fun b => ?_
  refine L_op rfl (O_run (v := .map (some p2)) (w' := w) (R_load hst rfl rfl) rfl rfl ?_)
  refine L_pure 1 [(11, .map (some p2)), (12, S x6)] (by kernel_rfl) fun b => ?_
  refine L_op rfl (O_lookP2 M40 x6 (hst.pull 1) rfl rfl rfl fun a3 hst => ?_)
  refine L_pure 5 [(5, .pointer a3), (6, .bool ((mget x5 x6).isSome))] (by kernel_rfl) fun b => ?_
  refine wpL_nil ?_
  refine th_n ?_
  refine wp_seq ?_
  refine wp_reg ?_
  refine L_pure 1 [(5, .pointer a3), (16, .bool ((mget x5 x6).isSome))] (by kernel_rfl) fun b => ?_
  refine wpL_nil ?_
  refine th_n ?_
  refine wp_cond_mkF (t := (mget x5 x6).isSome) rfl (fun h => ?_) (fun h => ?_)
  · have hr := (if_pos h).symm.trans hr
    refine wp_seq ?_
    refine wp_reg ?_
    refine L_pure 2 [(4, .pointer a3)] (by kernel_rfl) fun b => ?_
    refine wpL_nil ?_
    refine th_n ?_
    refine wp_ret ?_
    refine th_r ?_
    refine ret1 rfl rfl ?_
    obtain rfl := Option.some.inj hr
    have hst := (((hst.pull 1).pull 2).pull 2)
    exact hR a3 _ hst
  · have hr := (if_neg (by rw [h]; exact Bool.false_ne_true)).symm.trans hr
    refine wp_skip ?_
    refine th_n ?_
    refine wp_seq ?_
    refine wp_reg ?_
    refine L_pure 1 [(18, .agg #[.bool false, S ([]), .bool false, S ([])])] (by kernel_rfl) fun b => ?_
    refine L_op rfl (O_box [.bool false, S ([]), .bool false, S ([])] hst rfl rfl fun p4 w hst => ?_)
    refine L_pure 1 [(4, pt p4 0)] (by kernel_rfl) fun b => ?_
    refine wpL_nil ?_
    refine th_n ?_
    refine wp_ret ?_
    refine ret1 rfl rfl ?_
    obtain rfl := Option.some.inj hr
    have hst := osl_of_blk0 (ecs := [[.bool false, S ([]), .bool false, S ([])]]) r_T_platter_file [(T_platter_file.mk (T_platter_text.mk false ([])) (T_platter_text.mk false ([])))] rfl (fun m => ⟨⟨(), rfl, trivial⟩, trivial⟩) rfl hst
    have hst := dpt_of (osl_freeze hst)
    have hst := ((((hst.pull 2).pull 3).pull 2).cut 3 1)
    exact hR (some ⟨p4, 0, none⟩) _ hst
def platter_file_weight (_k : Nat) (x1 : T_platter_file) : Option (Int) := some ((mx2 (x1.now.s.length : Int) (x1.safe.s.length : Int)))
set_option maxRecDepth 100000 in
set_option maxHeartbeats 4000000 in
theorem platter_file_weight_ok {G w : World} {F : List HP} {R : Ending → World → Prop} (k : Nat) (x1 : T_platter_file) (p1 : Nat) (r : (Int)) (hst : St G w (blk p1 (cl [.bool x1.now.there, S x1.now.s, .bool x1.safe.there, S x1.safe.s] 95) :: F)) (hr : platter_file_weight k x1 = some r)
    (hR : ∀ w', St G w' (blk p1 (cl [.bool x1.now.there, S x1.now.s, .bool x1.safe.there, S x1.safe.s] 95) :: F) → R (.returned (I r)) w') :
    Calls Try.prog 58 #[pt p1 0] w R := by
  unfold platter_file_weight at hr
  refine enter Try.func58 rfl [(0, pt p1 0)] rfl rfl fun b => ?_
  refine wp_seq ?_
  refine wp_reg ?_
  refine L_pure 1 [(0, pt p1 0)] (by kernel_rfl) fun b => ?_
  refine wpL_nil ?_
  refine th_n ?_
  refine wp_seq ?_
  refine wp_regG (SN { w with drawn := w.drawn + 1 }) rfl ?_
  have hst := hst.draw (n := w.drawn + 1)
  generalize { w with drawn := w.drawn + 1 } = w at hst ⊢
  refine C_take (i := 0) (v := pt p1 0) rfl (by kernel_rfl) (fun _ _ _ h => h) rfl rfl rfl (R_pure (by kernel_rfl)) ?_
  refine C_take (i := 1) (v := pt p1 0) rfl (by kernel_rfl) (fun _ _ _ h => h) rfl rfl rfl (R_pure (by kernel_rfl)) ?_
  refine C_take (i := 2) (v := pt p1 0) rfl (by kernel_rfl) (fun _ _ _ h => h) rfl rfl rfl (R_pure (by kernel_rfl)) ?_
  refine C_take (i := 3) (v := pt p1 1) rfl (by kernel_rfl) (fun _ _ _ h => h) rfl rfl rfl (R_pure (by kernel_rfl)) ?_
  refine C_take (i := 4) (v := S x1.now.s) rfl (by kernel_rfl) (fun _ _ _ h => h) rfl rfl rfl (R_load hst rfl rfl) ?_
  refine C_take (i := 5) (v := I (x1.now.s.length : Int)) rfl (by kernel_rfl) (fun _ _ _ h => h) rfl rfl rfl (R_pure (by kernel_rfl)) ?_
  refine C_take (i := 6) (v := pt p1 0) rfl (by kernel_rfl) (fun _ _ _ h => h) rfl rfl rfl (R_pure (by kernel_rfl)) ?_
  refine C_take (i := 7) (v := pt p1 0) rfl (by kernel_rfl) (fun _ _ _ h => h) rfl rfl rfl (R_pure (by kernel_rfl)) ?_
  refine C_take (i := 8) (v := pt p1 2) rfl (by kernel_rfl) (fun _ _ _ h => h) rfl rfl rfl (R_pure (by kernel_rfl)) ?_
  refine C_take (i := 9) (v := pt p1 3) rfl (by kernel_rfl) (fun _ _ _ h => h) rfl rfl rfl (R_pure (by kernel_rfl)) ?_
  refine C_take (i := 10) (v := S x1.safe.s) rfl (by kernel_rfl) (fun _ _ _ h => h) rfl rfl rfl (R_load hst rfl rfl) ?_
  refine C_take (i := 11) (v := I (x1.safe.s.length : Int)) rfl (by kernel_rfl) (fun _ _ _ h => h) rfl rfl rfl (R_pure (by kernel_rfl)) ?_
  refine C_take (i := 12) (v := I (mx2 (x1.now.s.length : Int) (x1.safe.s.length : Int))) rfl (by kernel_rfl) (fun _ _ _ h => h) rfl rfl rfl (R_pure (by kernel_rfl)) ?_
  refine C_take (i := 13) (v := I (mx2 (x1.now.s.length : Int) (x1.safe.s.length : Int))) rfl (by kernel_rfl) (fun _ _ _ h => h) rfl rfl rfl (R_pure (by kernel_rfl)) ?_
  refine wpG_done (by kernel_rfl) ?_ _
  refine C_keepQ [(2, I (mx2 (x1.now.s.length : Int) (x1.safe.s.length : Int)))] rfl fun b => ?_
  refine th_n ?_
  refine wp_ret ?_
  refine ret1 rfl rfl ?_
  obtain rfl := Option.some.inj hr
  exact hR _ hst
def platter_file_weight_2 (_k : Nat) (x1 : (Option T_platter_file)) : Option (Int) := (Option.bind x1 fun x3 => some ((mx2 (x3.now.s.length : Int) (x3.safe.s.length : Int))))
set_option maxRecDepth 100000 in
set_option maxHeartbeats 4000000 in
theorem platter_file_weight_2_ok {G w : World} {F : List HP} {R : Ending → World → Prop} (k : Nat) (x1 : (Option T_platter_file)) (a1 : Option Addr) (r : (Int)) (hst : St G w (dpt r_T_platter_file a1 x1 :: F)) (hr : platter_file_weight_2 k x1 = some r)
    (hR : ∀ w', St G w' (dpt r_T_platter_file a1 x1 :: F) → R (.returned (I r)) w') :
    Calls Try.prog 58 #[.pointer a1] w R := by
  unfold platter_file_weight_2 at hr
  refine enter Try.func58 rfl [(0, .pointer a1)] rfl rfl fun b => ?_
  refine wp_seq ?_
  refine wp_reg ?_
  refine L_pure 1 [(0, .pointer a1)] (by kernel_rfl) fun b => ?_
  refine wpL_nil ?_
  refine th_n ?_
  refine wp_seq ?_
  refine wp_regG (SN { w with drawn := w.drawn + 1 }) rfl ?_
  have hst := hst.draw (n := w.drawn + 1)
  generalize { w with drawn := w.drawn + 1 } = w at hst ⊢
  refine C_take (i := 0) (v := .pointer a1) rfl (by kernel_rfl) (fun _ _ _ h => h) rfl rfl rfl (R_pure (by kernel_rfl)) ?_
  obtain ⟨x3, hx2, hr⟩ := bnd hr
  have hst := dpt_pick hx2 hst
  refine C_take (i := 1) (v := pt (ab a1) (ao a1 + (0 : Int).toNat * 4)) rfl (by kernel_rfl) (fun _ _ _ h => h) rfl rfl rfl (R_nilc hst rfl) ?_
  refine C_take (i := 2) (v := pt (ab a1) (ao a1 + (0 : Int).toNat * 4)) rfl (by kernel_rfl) (fun _ _ _ h => h) rfl rfl rfl (R_pure (by kernel_rfl)) ?_
  refine C_take (i := 3) (v := pt (ab a1) (ao a1 + (0 : Int).toNat * 4 + 1)) rfl (by kernel_rfl) (fun _ _ _ h => h) rfl rfl rfl (R_pure (by kernel_rfl)) ?_
  obtain ⟨q3, hc3, hst⟩ := dsl_cells hst (show gt [x3] 0 = some x3 from rfl)
  have hst := hst.drop
  refine C_take (i := 4) (v := S x3.now.s) rfl (by kernel_rfl) (fun _ _ _ h => h) rfl rfl rfl (R_loadAt (off := ao a1 + (0 : Int).toNat * 4) (j := 1) hc3 rfl rfl) ?_
  refine C_take (i := 5) (v := I (x3.now.s.length : Int)) rfl (by kernel_rfl) (fun _ _ _ h => h) rfl rfl rfl (R_pure (by kernel_rfl)) ?_
  refine C_take (i := 6) (v := .pointer a1) rfl (by kernel_rfl) (fun _ _ _ h => h) rfl rfl rfl (R_pure (by kernel_rfl)) ?_
  refine C_take (i := 7) (v := pt (ab a1) (ao a1 + (0 : Int).toNat * 4)) rfl (by kernel_rfl) (fun _ _ _ h => h) rfl rfl rfl (R_nilc hst rfl) ?_
  refine C_take (i := 8) (v := pt (ab a1) (ao a1 + (0 : Int).toNat * 4 + 2)) rfl (by kernel_rfl) (fun _ _ _ h => h) rfl rfl rfl (R_pure (by kernel_rfl)) ?_
  refine C_take (i := 9) (v := pt (ab a1) (ao a1 + (0 : Int).toNat * 4 + 3)) rfl (by kernel_rfl) (fun _ _ _ h => h) rfl rfl rfl (R_pure (by kernel_rfl)) ?_
  obtain ⟨q4, hc4, hst⟩ := dsl_cells hst (show gt [x3] 0 = some x3 from rfl)
  have hst := hst.drop
  refine C_take (i := 10) (v := S x3.safe.s) rfl (by kernel_rfl) (fun _ _ _ h => h) rfl rfl rfl (R_loadAt (off := ao a1 + (0 : Int).toNat * 4) (j := 3) hc4 rfl rfl) ?_
  refine C_take (i := 11) (v := I (x3.safe.s.length : Int)) rfl (by kernel_rfl) (fun _ _ _ h => h) rfl rfl rfl (R_pure (by kernel_rfl)) ?_
  refine C_take (i := 12) (v := I (mx2 (x3.now.s.length : Int) (x3.safe.s.length : Int))) rfl (by kernel_rfl) (fun _ _ _ h => h) rfl rfl rfl (R_pure (by kernel_rfl)) ?_
  refine C_take (i := 13) (v := I (mx2 (x3.now.s.length : Int) (x3.safe.s.length : Int))) rfl (by kernel_rfl) (fun _ _ _ h => h) rfl rfl rfl (R_pure (by kernel_rfl)) ?_
  refine wpG_done (by kernel_rfl) ?_ _
  refine C_keepQ [(2, I (mx2 (x3.now.s.length : Int) (x3.safe.s.length : Int)))] rfl fun b => ?_
  refine th_n ?_
  refine wp_ret ?_
  refine ret1 rfl rfl ?_
  obtain rfl := Option.some.inj hr
  have hst := ((hst.pull 1).cut 1 1)
  exact hR _ hst
def meter_Meter_Fits (_k : Nat) (x1 : Int) (x2 : Int) (_x3 : Bool) (_x4 : Int) (_x5 : (List ((List UInt8) × (Option T_platter_file)))) (x6 : Int) : Option (Bool) := some (decide (x6 ≤ (IntKind.i64.wrap (x1 - x2))))
set_option maxRecDepth 100000 in
set_option maxHeartbeats 4000000 in
theorem meter_Meter_Fits_ok {G w : World} {F : List HP} {R : Ending → World → Prop} (k : Nat) (x1 : Int) (x2 : Int) (x3 : Bool) (x4 : Int) (x5 : (List ((List UInt8) × (Option T_platter_file)))) (x6 : Int) (p1 : Nat) (p2 : Nat) (r : (Bool)) (hst : St G w (blk p1 (cl [I x1, I x2, .bool x3, I x4, .map (some p2)] 42) :: mpr S (rPt r_T_platter_file) p2 x5 :: F)) (hr : meter_Meter_Fits k x1 x2 x3 x4 x5 x6 = some r)
    (hR : ∀ w', St G w' (blk p1 (cl [I x1, I x2, .bool x3, I x4, .map (some p2)] 42) :: mpr S (rPt r_T_platter_file) p2 x5 :: F) → R (.returned (.bool r)) w') :
    Calls Try.prog 73 #[pt p1 0, I x6] w R := by
  unfold meter_Meter_Fits at hr
  refine enter Try.func73 rfl [(0, pt p1 0), (1, I x6)] rfl rfl fun b => ?_
  refine wp_seq ?_
  refine wp_reg ?_
  refine L_pure 1 [(0, pt p1 0), (1, I x6)] (by kernel_rfl) fun b => ?_
  refine wpL_nil ?_
  refine th_n ?_
  refine wp_seq ?_
  refine wp_regG (SN { w with drawn := w.drawn + 1 }) rfl ?_
  have hst := hst.draw (n := w.drawn + 1)
  generalize { w with drawn := w.drawn + 1 } = w at hst ⊢
  refine C_take (i := 0) (v := I x6) rfl (by kernel_rfl) (fun _ _ _ h => h) rfl rfl rfl (R_pure (by kernel_rfl)) ?_
  refine C_take (i := 1) (v := pt p1 0) rfl (by kernel_rfl) (fun _ _ _ h => h) rfl rfl rfl (R_pure (by kernel_rfl)) ?_
  refine C_take (i := 2) (v := pt p1 0) rfl (by kernel_rfl) (fun _ _ _ h => h) rfl rfl rfl (R_pure (by kernel_rfl)) ?_
  refine C_take (i := 3) (v := pt p1 0) rfl (by kernel_rfl) (fun _ _ _ h => h) rfl rfl rfl (R_pure (by kernel_rfl)) ?_
  refine C_take (i := 4) (v := I x1) rfl (by kernel_rfl) (fun _ _ _ h => h) rfl rfl rfl (R_load hst rfl rfl) ?_
  refine C_take (i := 5) (v := pt p1 0) rfl (by kernel_rfl) (fun _ _ _ h => h) rfl rfl rfl (R_pure (by kernel_rfl)) ?_
  refine C_take (i := 6) (v := pt p1 0) rfl (by kernel_rfl) (fun _ _ _ h => h) rfl rfl rfl (R_pure (by kernel_rfl)) ?_
  refine C_take (i := 7) (v := pt p1 1) rfl (by kernel_rfl) (fun _ _ _ h => h) rfl rfl rfl (R_pure (by kernel_rfl)) ?_
  refine C_take (i := 8) (v := I x2) rfl (by kernel_rfl) (fun _ _ _ h => h) rfl rfl rfl (R_load hst rfl rfl) ?_
  refine C_take (i := 9) (v := I (IntKind.i64.wrap (x1 - x2))) rfl (by kernel_rfl) (fun _ _ _ h => h) rfl rfl rfl (R_pure (by kernel_rfl)) ?_
  refine C_take (i := 10) (v := .bool (decide (x6 ≤ (IntKind.i64.wrap (x1 - x2))))) rfl (by kernel_rfl) (fun _ _ _ h => h) rfl rfl rfl (R_pure (by kernel_rfl)) ?_
  refine C_take (i := 11) (v := .bool (decide (x6 ≤ (IntKind.i64.wrap (x1 - x2))))) rfl (by kernel_rfl) (fun _ _ _ h => h) rfl rfl rfl (R_pure (by kernel_rfl)) ?_
  refine wpG_done (by kernel_rfl) ?_ _
  refine C_keepQ [(4, .bool (decide (x6 ≤ (IntKind.i64.wrap (x1 - x2)))))] rfl fun b => ?_
  refine th_n ?_
  refine wp_ret ?_
  refine ret1 rfl rfl ?_
  obtain rfl := Option.some.inj hr
  have hst := ((hst.pull 1).pull 1)
  exact hR _ hst
def meter_Meter_Take (k : Nat) (x1 : Int) (x2 : Int) (x3 : Bool) (x4 : Int) (x5 : (List ((List UInt8) × (Option T_platter_file)))) (x6 : Int) : Option (Int × Int) := (if decide (x6 < 0) = true then some ((1 : Int), x2) else (Option.bind (meter_Meter_Fits k x1 x2 x3 x4 x5 x6) fun y2 => (if (!y2) = true then some ((7 : Int), x2) else some ((0 : Int), (IntKind.i64.wrap (x2 + x6))))))
set_option maxRecDepth 100000 in
set_option maxHeartbeats 4000000 in
theorem meter_Meter_Take_ok {G w : World} {F : List HP} {R : Ending → World → Prop} (k : Nat) (x1 : Int) (x2 : Int) (x3 : Bool) (x4 : Int) (x5 : (List ((List UInt8) × (Option T_platter_file)))) (x6 : Int) (p1 : Nat) (p2 : Nat) (r : (Int × Int)) (hst : St G w (blk p1 (cl [I x1, I x2, .bool x3, I x4, .map (some p2)] 42) :: mpr S (rPt r_T_platter_file) p2 x5 :: F)) (hr : meter_Meter_Take k x1 x2 x3 x4 x5 x6 = some r)
    (hR : ∀ w', St G w' (blk p1 (cl [I x1, I r.2, .bool x3, I x4, .map (some p2)] 42) :: mpr S (rPt r_T_platter_file) p2 x5 :: F) → R (.returned (I r.1)) w') :
    Calls Try.prog 59 #[pt p1 0, I x6] w R := by
  unfold meter_Meter_Take at hr
  refine enter Try.func59 rfl [(0, pt p1 0), (1, I x6)] rfl rfl fun b => ?_
  refine wp_seq ?_
  refine wp_reg ?_
  refine L_pure 1 [(0, pt p1 0), (1, I x6)] (by kernel_rfl) fun b => ?_
  refine wpL_nil ?_
  refine th_n ?_
  refine wp_seq ?_
  refine wp_seq ?_
  refine wp_reg ?_
  refine L_pure 2 [(0, pt p1 0), (1, I x6), (6, .bool (decide (x6 < 0)))] (by kernel_rfl) fun b => ?_
  refine wpL_nil ?_
  refine th_n ?_
  refine wp_cond_mkF (t := decide (x6 < 0)) rfl (fun h => ?_) (fun h => ?_)
  · have hr := (if_pos h).symm.trans hr
    refine wp_seq ?_
    refine wp_reg ?_
    refine L_pure 1 [(4, I 1)] (by kernel_rfl) fun b => ?_
    refine wpL_nil ?_
    refine th_n ?_
    refine wp_ret ?_
    refine th_r ?_
    refine ret1 rfl rfl ?_
    obtain rfl := Option.some.inj hr
    have hst := ((hst.pull 1).pull 1)
    exact hR _ hst
  · have hr := (if_neg (by rw [h]; exact Bool.false_ne_true)).symm.trans hr
    refine wp_skip ?_
    refine th_n ?_
    refine wp_seq ?_
    refine wp_seq ?_
    refine wp_reg ?_
    refine L_pure 2 [(0, pt p1 0), (1, I x6), (7, pt p1 0), (8, I x6)] (by kernel_rfl) fun b => ?_
    obtain ⟨y2, hy2, hr⟩ := bnd hr
    refine L_op rfl (O_call (vs := #[pt p1 0, I x6]) Try.call73 (by kernel_rfl) (meter_Meter_Fits_ok k x1 x2 x3 x4 x5 x6 p1 p2 y2 ((hst.pull 1).pull 1) hy2 fun w hst => ?_))
    refine CK_ret rfl ?_
    refine L_pure 1 [(0, pt p1 0), (1, I x6), (10, .bool (!y2))] (by kernel_rfl) fun b => ?_
    refine wpL_nil ?_
    refine th_n ?_
    refine wp_cond_mkF (t := (!y2)) rfl (fun h => ?_) (fun h => ?_)
    · have hr := (if_pos h).symm.trans hr
      refine wp_seq ?_
      refine wp_reg ?_
      refine L_pure 1 [(4, I 7)] (by kernel_rfl) fun b => ?_
      refine wpL_nil ?_
      refine th_n ?_
      refine wp_ret ?_
      refine th_r ?_
      refine ret1 rfl rfl ?_
      obtain rfl := Option.some.inj hr
      have hst := ((hst.pull 1).pull 1)
      exact hR _ hst
    · have hr := (if_neg (by rw [h]; exact Bool.false_ne_true)).symm.trans hr
      refine wp_skip ?_
      refine th_n ?_
      refine wp_seq ?_
      refine wp_reg ?_
      refine L_pure 3 [(1, I x6), (11, pt p1 0), (13, pt p1 1)] (by kernel_rfl) fun b => ?_
      refine L_op rfl (O_run (v := I x2) (w' := w) (R_load hst rfl rfl) rfl rfl ?_)
      refine L_pure 4 [(16, I (IntKind.i64.wrap (x2 + x6))), (18, pt p1 1)] (by kernel_rfl) fun b => ?_
      refine L_op rfl (O_store [I x1, I (IntKind.i64.wrap (x2 + x6)), .bool x3, I x4, .map (some p2)] hst rfl rfl (by kernel_rfl) fun w hst => ?_)
      refine wpL_nil ?_
      refine th_n ?_
      refine wp_seq ?_
      refine wp_reg ?_
      refine L_pure 1 [(4, I 0)] (by kernel_rfl) fun b => ?_
      refine wpL_nil ?_
      refine th_n ?_
      refine wp_ret ?_
      refine ret1 rfl rfl ?_
      obtain rfl := Option.some.inj hr
      have hst := ((hst.pull 1).pull 1)
      exact hR _ hst
def meter_Meter_Give (_k : Nat) (_x1 : Int) (x2 : Int) (_x3 : Bool) (_x4 : Int) (_x5 : (List ((List UInt8) × (Option T_platter_file)))) (x6 : Int) : Option (Int × Int) := (Option.bind (if decide (x6 < 0) = true then some (true) else some (decide (x6 > x2))) fun y2 => (if y2 = true then some ((1 : Int), x2) else some ((0 : Int), (IntKind.i64.wrap (x2 - x6)))))
set_option maxRecDepth 100000 in
set_option maxHeartbeats 4000000 in
theorem meter_Meter_Give_ok {G w : World} {F : List HP} {R : Ending → World → Prop} (k : Nat) (x1 : Int) (x2 : Int) (x3 : Bool) (x4 : Int) (x5 : (List ((List UInt8) × (Option T_platter_file)))) (x6 : Int) (p1 : Nat) (p2 : Nat) (r : (Int × Int)) (hst : St G w (blk p1 (cl [I x1, I x2, .bool x3, I x4, .map (some p2)] 42) :: mpr S (rPt r_T_platter_file) p2 x5 :: F)) (hr : meter_Meter_Give k x1 x2 x3 x4 x5 x6 = some r)
    (hR : ∀ w', St G w' (blk p1 (cl [I x1, I r.2, .bool x3, I x4, .map (some p2)] 42) :: mpr S (rPt r_T_platter_file) p2 x5 :: F) → R (.returned (I r.1)) w') :
    Calls Try.prog 60 #[pt p1 0, I x6] w R := by
  unfold meter_Meter_Give at hr
  refine enter Try.func60 rfl [(0, pt p1 0), (1, I x6)] rfl rfl fun b => ?_
  refine wp_seq ?_
  refine wp_reg ?_
  refine L_pure 1 [(0, pt p1 0), (1, I x6)] (by kernel_rfl) fun b => ?_
  refine wpL_nil ?_
  refine th_n ?_
  refine wp_seq ?_
  obtain ⟨y2, hy2, hk2⟩ := bnd hr
  clear hr
  refine wp_seq_cut (fun a w => ∃ (b : Nat → Value), a = mkF 23 b [(0, pt p1 0), (1, I x6), (14, .bool y2)] ∧ St G w (blk p1 (cl [I x1, I x2, .bool x3, I x4, .map (some p2)] 42) :: mpr S (rPt r_T_platter_file) p2 x5 :: F)) ?_ ?_
  · rintro _ w ⟨b, rfl, hst⟩
    have hr := hk2
    refine wp_cond_mkF (t := y2) rfl (fun h => ?_) (fun h => ?_)
    · have hr := (if_pos h).symm.trans hr
      refine wp_seq ?_
      refine wp_reg ?_
      refine L_pure 1 [(4, I 1)] (by kernel_rfl) fun b => ?_
      refine wpL_nil ?_
      refine th_n ?_
      refine wp_ret ?_
      refine th_r ?_
      refine ret1 rfl rfl ?_
      obtain rfl := Option.some.inj hr
      have hst := ((hst.pull 1).pull 1)
      exact hR _ hst
    · have hr := (if_neg (by rw [h]; exact Bool.false_ne_true)).symm.trans hr
      refine wp_skip ?_
      refine th_n ?_
      refine wp_seq ?_
      refine wp_reg ?_
      refine L_pure 3 [(1, I x6), (15, pt p1 0), (17, pt p1 1)] (by kernel_rfl) fun b => ?_
      refine L_op rfl (O_run (v := I x2) (w' := w) (R_load hst rfl rfl) rfl rfl ?_)
      refine L_pure 4 [(20, I (IntKind.i64.wrap (x2 - x6))), (22, pt p1 1)] (by kernel_rfl) fun b => ?_
      refine L_op rfl (O_store [I x1, I (IntKind.i64.wrap (x2 - x6)), .bool x3, I x4, .map (some p2)] hst rfl rfl (by kernel_rfl) fun w hst => ?_)
      refine wpL_nil ?_
      refine th_n ?_
      refine wp_seq ?_
      refine wp_reg ?_
      refine L_pure 1 [(4, I 0)] (by kernel_rfl) fun b => ?_
      refine wpL_nil ?_
      refine th_n ?_
      refine wp_ret ?_
      refine ret1 rfl rfl ?_
      obtain rfl := Option.some.inj hr
      have hst := ((hst.pull 1).pull 1)
      exact hR _ hst
  · have hr := hy2
    refine wp_reg ?_
    refine L_pure 3 [(0, pt p1 0), (1, I x6), (7, .bool (decide (x6 < 0)))] (by kernel_rfl) fun b => ?_
    by_cases h : (decide (x6 < 0)) = true
    · have hr := (if_pos h).symm.trans hr
      refine L_keep ((7, .bool (decide (x6 < 0))) :: [(0, pt p1 0), (1, I x6)]) rfl fun b => ?_
      refine L_bool h ?_
      refine L_pure 7 [(0, pt p1 0), (1, I x6), (14, .bool true)] (by kernel_rfl) fun b => ?_
      refine wpL_nil ?_
      refine th_n ?_
      obtain rfl := Option.some.inj hr
      have hst := ((hst.pull 1).pull 1)
      exact (kpX [(0, pt p1 0), (1, I x6), (14, .bool true)] rfl hst)
    · have hr := (if_neg h).symm.trans hr
      refine L_keep ((7, .bool (decide (x6 < 0))) :: [(0, pt p1 0), (1, I x6)]) rfl fun b => ?_
      refine L_bool (eq_false_of_ne_true h) ?_
      refine L_pure 4 [(0, pt p1 0), (1, I x6), (7, .bool false), (8, I x6), (11, pt p1 1)] (by kernel_rfl) fun b => ?_
      refine L_op rfl (O_run (v := I x2) (w' := w) (R_load hst rfl rfl) rfl rfl ?_)
      refine L_pure 2 [(0, pt p1 0), (1, I x6), (14, .bool (decide (x6 > x2)))] (by kernel_rfl) fun b => ?_
      refine wpL_nil ?_
      refine th_n ?_
      obtain rfl := Option.some.inj hr
      have hst := ((hst.pull 1).pull 1)
      exact (kpX [(0, pt p1 0), (1, I x6), (14, .bool (decide (x6 > x2)))] rfl hst)
def platter_Disk_put (k : Nat) (x1 : Int) (x2 : Int) (x3 : Bool) (x4 : Int) (x5 : (List ((List UInt8) × (Option T_platter_file)))) (x6 : (List UInt8)) (x7 : T_platter_text) : Option (Int × Int × (List ((List UInt8) × (Option T_platter_file)))) := (Option.bind (platter_Disk_get k x1 x2 x3 x4 x5 x6) fun y8 => (Option.bind (Option.bind y8 fun x9 => some (x9.safe.there, x9.safe.s)) fun y9 => (Option.bind (platter_file_weight k (T_platter_file.mk x7 (T_platter_text.mk y9.1 y9.2))) fun y10 => (Option.bind (platter_file_weight_2 k y8) fun y11 => (Option.bind (if decide ((IntKind.i64.wrap (y10 - y11)) > 0) = true then (Option.bind (meter_Meter_Take k x1 x2 x3 x4 x5 (IntKind.i64.wrap (y10 - y11))) fun y13 => (if (y13.1 != 0) = true then some (Flow.ret (y13.1, y13.2, x5)) else some (Flow.go (y13.2)))) else (Option.bind (meter_Meter_Give k x1 x2 x3 x4 x5 (IntKind.i64.wrap (0 - (IntKind.i64.wrap (y10 - y11))))) fun y14 => (if (y14.1 != 0) = true then some (Flow.ret (y14.1, y14.2, x5)) else some (Flow.go (y14.2))))) fun y12 => (match y12 with | Flow.ret r => some r | Flow.go z2 => some ((0 : Int), z2, (mput x5 x6 (some (T_platter_file.mk x7 (T_platter_text.mk y9.1 y9.2)))))))))))
set_option maxRecDepth 100000 in
set_option maxHeartbeats 4000000 in
theorem platter_Disk_put_ok {G w : World} {F : List HP} {R : Ending → World → Prop} (k : Nat) (x1 : Int) (x2 : Int) (x3 : Bool) (x4 : Int) (x5 : (List ((List UInt8) × (Option T_platter_file)))) (x6 : (List UInt8)) (x7 : T_platter_text) (p1 : Nat) (p2 : Nat) (r : (Int × Int × (List ((List UInt8) × (Option T_platter_file))))) (hst : St G w (blk p1 (cl [I x1, I x2, .bool x3, I x4, .map (some p2)] 42) :: mpr S (rPt r_T_platter_file) p2 x5 :: F)) (hr : platter_Disk_put k x1 x2 x3 x4 x5 x6 x7 = some r)
    (hR : ∀ w', St G w' (blk p1 (cl [I x1, I r.2.1, .bool x3, I x4, .map (some p2)] 42) :: mpr S (rPt r_T_platter_file) p2 r.2.2 :: F) → R (.returned (I r.1)) w') :
    Calls Try.prog 40 #[pt p1 0, S x6, .agg #[.bool x7.there, S x7.s]] w R := by
  unfold platter_Disk_put at hr
  refine enter Try.func40 rfl [(0, pt p1 0), (1, S x6), (2, .agg #[.bool x7.there, S x7.s])] rfl rfl fun b => ?_
  refine wp_seq ?_
  refine wp_reg ?_
  refine L_op rfl (O_box [.bool x7.there, S x7.s] hst rfl rfl fun p6 w hst => ?_)
  refine L_pure 1 [(0, pt p1 0), (1, S x6), (5, pt p6 0)] (by kernel_rfl) fun b => ?_
  refine wpL_nil ?_
  refine th_n ?_
  refine wp_seq ?_
  refine wp_reg ?_
  refine L_pure 2 [(0, pt p1 0), (1, S x6), (5, pt p6 0), (12, pt p1 0), (13, S x6)] (by kernel_rfl) fun b => ?_
  obtain ⟨y8, hy8, hr⟩ := bnd hr
  refine L_op rfl (O_call (vs := #[pt p1 0, S x6]) Try.call43 (by kernel_rfl) (platter_Disk_get_ok k x1 x2 x3 x4 x5 x6 p1 p2 y8 ((hst.pull 2).pull 2) hy8 fun a2 w hst => ?_))
  refine CK_ret rfl ?_
  refine L_pure 1 [(0, pt p1 0), (1, S x6), (5, pt p6 0), (7, .pointer a2)] (by kernel_rfl) fun b => ?_
  refine wpL_nil ?_
  refine th_n ?_
  obtain ⟨y9, hy9, hk3⟩ := bnd hr
  clear hr
  refine wp_seq_cut (fun a w => ∃ (p7 : Nat)(b : Nat → Value), a = mkF 49 b [(0, pt p1 0), (1, S x6), (7, .pointer a2), (8, pt p7 0)] ∧ St G w (blk p7 (cl [.bool x7.there, S x7.s, .bool y9.1, S y9.2] 95) :: dpt r_T_platter_file a2 y8 :: blk p1 (cl [I x1, I x2, .bool x3, I x4, .map (some p2)] 42) :: mpr S (rPt r_T_platter_file) p2 x5 :: blk p6 (cl [.bool x7.there, S x7.s] 86) :: F)) ?_ ?_
  · rintro _ w ⟨p7, b, rfl, hst⟩
    have hr := hk3
    refine wp_seq ?_
    refine wp_reg ?_
    obtain ⟨y10, hy10, hr⟩ := bnd hr
    refine L_op rfl (O_call (vs := #[pt p7 0]) Try.call58 (by kernel_rfl) (platter_file_weight_ok k (T_platter_file.mk x7 (T_platter_text.mk y9.1 y9.2)) p7 y10 hst hy10 fun w hst => ?_))
    refine CK_ret rfl ?_
    refine L_pure 1 [(0, pt p1 0), (1, S x6), (8, pt p7 0), (21, I y10), (22, .pointer a2)] (by kernel_rfl) fun b => ?_
    obtain ⟨y11, hy11, hr⟩ := bnd hr
    have hst := (hst.pull 1).dup
    refine L_op rfl (O_call (vs := #[.pointer a2]) Try.call58 (by kernel_rfl) (platter_file_weight_2_ok k y8 a2 y11 hst hy11 fun w hst => ?_))
    refine CK_ret rfl ?_
    refine L_pure 2 [(0, pt p1 0), (1, S x6), (8, pt p7 0), (9, I (IntKind.i64.wrap (y10 - y11)))] (by kernel_rfl) fun b => ?_
    refine wpL_nil ?_
    refine th_n ?_
    obtain ⟨y12, hy12, hk4⟩ := bnd hr
    clear hr
    refine wp_seq_cut (fun a w => ∃ (z2 : Int) (b : Nat → Value), y12 = .go z2 ∧ a = mkF 49 b [(0, pt p1 0), (1, S x6), (8, pt p7 0)] ∧ St G w (blk p1 (cl [I x1, I z2, .bool x3, I x4, .map (some p2)] 42) :: mpr S (rPt r_T_platter_file) p2 x5 :: dpt r_T_platter_file a2 y8 :: dpt r_T_platter_file a2 y8 :: blk p7 (cl [.bool x7.there, S x7.s, .bool y9.1, S y9.2] 95) :: blk p6 (cl [.bool x7.there, S x7.s] 86) :: F)) ?_ ?_
    · rintro _ w ⟨z2, b, rfl, rfl, hst⟩
      have hr := hk4
      refine wp_seq ?_
      refine wp_reg ?_
      refine L_pure 3 [(1, S x6), (8, pt p7 0), (46, pt p1 4)] (by kernel_rfl) fun b => ?_
      refine L_op rfl (O_run (v := .map (some p2)) (w' := w) (R_load hst rfl rfl) rfl rfl ?_)
      refine L_pure 1 [(8, pt p7 0), (47, .map (some p2)), (48, S x6)] (by kernel_rfl) fun b => ?_
      have hst := osl_of_blk0 (ecs := [[.bool x7.there, S x7.s, .bool y9.1, S y9.2]]) r_T_platter_file [(T_platter_file.mk x7 (T_platter_text.mk y9.1 y9.2))] rfl (fun m => ⟨⟨(), rfl, trivial⟩, trivial⟩) rfl (hst.pull 4)
      have hst := dpt_of (osl_freeze hst)
      refine L_op rfl (O_updP M40 x6 (hst.pull 2) rfl rfl rfl fun w hst => ?_)
      refine wpL_nil ?_
      refine th_n ?_
      refine wp_seq ?_
      refine wp_reg ?_
      refine L_pure 1 [(6, I 0)] (by kernel_rfl) fun b => ?_
      refine wpL_nil ?_
      refine th_n ?_
      refine wp_ret ?_
      refine ret1 rfl rfl ?_
      obtain rfl := Option.some.inj hr
      have hst := ((hst.pull 2).cut 2 4)
      exact hR _ hst
    · have hr := hy12
      refine wp_seq ?_
      refine wp_reg ?_
      refine L_pure 2 [(0, pt p1 0), (1, S x6), (8, pt p7 0), (9, I (IntKind.i64.wrap (y10 - y11))), (26, .bool (decide ((IntKind.i64.wrap (y10 - y11)) > 0)))] (by kernel_rfl) fun b => ?_
      refine wpL_nil ?_
      refine th_n ?_
      refine wp_cond_mkF (t := decide ((IntKind.i64.wrap (y10 - y11)) > 0)) rfl (fun h => ?_) (fun h => ?_)
      · have hr := (if_pos h).symm.trans hr
        refine wp_seq ?_
        refine wp_reg ?_
        refine L_pure 4 [(0, pt p1 0), (1, S x6), (8, pt p7 0), (29, pt p1 0), (30, I (IntKind.i64.wrap (y10 - y11)))] (by kernel_rfl) fun b => ?_
        obtain ⟨y13, hy13, hr⟩ := bnd hr
        refine L_op rfl (O_call (vs := #[pt p1 0, I (IntKind.i64.wrap (y10 - y11))]) Try.call59 (by kernel_rfl) (meter_Meter_Take_ok k x1 x2 x3 x4 x5 (IntKind.i64.wrap (y10 - y11)) p1 p2 y13 ((hst.pull 4).pull 4) hy13 fun w hst => ?_))
        refine CK_ret rfl ?_
        refine L_pure 1 [(0, pt p1 0), (1, S x6), (8, pt p7 0), (10, I y13.1)] (by kernel_rfl) fun b => ?_
        refine wpL_nil ?_
        refine th_n ?_
        refine wp_seq ?_
        refine wp_reg ?_
        refine L_pure 2 [(0, pt p1 0), (1, S x6), (8, pt p7 0), (10, I y13.1), (33, .bool (y13.1 != 0))] (by kernel_rfl) fun b => ?_
        refine wpL_nil ?_
        refine th_n ?_
        refine wp_cond_mkF (t := (y13.1 != 0)) rfl (fun h => ?_) (fun h => ?_)
        · have hr := (if_pos h).symm.trans hr
          refine wp_seq ?_
          refine wp_reg ?_
          refine L_pure 2 [(6, I y13.1)] (by kernel_rfl) fun b => ?_
          refine wpL_nil ?_
          refine th_n ?_
          refine wp_ret ?_
          refine th_r ?_
          refine ret1 rfl rfl ?_
          obtain rfl := Option.some.inj hr
          obtain rfl := Option.some.inj hk4
          have hst := (((hst.pull 1).pull 1).cut 2 4)
          exact hR _ hst
        · have hr := (if_neg (by rw [h]; exact Bool.false_ne_true)).symm.trans hr
          refine wp_skip ?_
          refine th_n ?_
          obtain rfl := Option.some.inj hr
          have hst := ((((((hst.pull 5).pull 5).pull 5).pull 5).pull 5).pull 5)
          exact ⟨(y13.2), (kpXf [(0, pt p1 0), (1, S x6), (8, pt p7 0)] rfl hst)⟩
      · have hr := (if_neg (by rw [h]; exact Bool.false_ne_true)).symm.trans hr
        refine wp_seq ?_
        refine wp_reg ?_
        refine L_pure 5 [(0, pt p1 0), (1, S x6), (8, pt p7 0), (37, pt p1 0), (39, I (IntKind.i64.wrap (0 - (IntKind.i64.wrap (y10 - y11)))))] (by kernel_rfl) fun b => ?_
        obtain ⟨y14, hy14, hr⟩ := bnd hr
        refine L_op rfl (O_call (vs := #[pt p1 0, I (IntKind.i64.wrap (0 - (IntKind.i64.wrap (y10 - y11))))]) Try.call60 (by kernel_rfl) (meter_Meter_Give_ok k x1 x2 x3 x4 x5 (IntKind.i64.wrap (0 - (IntKind.i64.wrap (y10 - y11)))) p1 p2 y14 ((hst.pull 4).pull 4) hy14 fun w hst => ?_))
        refine CK_ret rfl ?_
        refine L_pure 1 [(0, pt p1 0), (1, S x6), (8, pt p7 0), (11, I y14.1)] (by kernel_rfl) fun b => ?_
        refine wpL_nil ?_
        refine th_n ?_
        refine wp_seq ?_
        refine wp_reg ?_
        refine L_pure 2 [(0, pt p1 0), (1, S x6), (8, pt p7 0), (11, I y14.1), (42, .bool (y14.1 != 0))] (by kernel_rfl) fun b => ?_
        refine wpL_nil ?_
        refine th_n ?_
        refine wp_cond_mkF (t := (y14.1 != 0)) rfl (fun h => ?_) (fun h => ?_)
        · have hr := (if_pos h).symm.trans hr
          refine wp_seq ?_
          refine wp_reg ?_
          refine L_pure 2 [(6, I y14.1)] (by kernel_rfl) fun b => ?_
          refine wpL_nil ?_
          refine th_n ?_
          refine wp_ret ?_
          refine th_r ?_
          refine ret1 rfl rfl ?_
          obtain rfl := Option.some.inj hr
          obtain rfl := Option.some.inj hk4
          have hst := (((hst.pull 1).pull 1).cut 2 4)
          exact hR _ hst
        · have hr := (if_neg (by rw [h]; exact Bool.false_ne_true)).symm.trans hr
          refine wp_skip ?_
          refine th_n ?_
          obtain rfl := Option.some.inj hr
          have hst := ((((((hst.pull 5).pull 5).pull 5).pull 5).pull 5).pull 5)
          exact ⟨(y14.2), (kpXf [(0, pt p1 0), (1, S x6), (8, pt p7 0)] rfl hst)⟩
  · have hr := hy9
    refine wp_regG SA rfl ?_
    have hst := hst.draw (n := w.drawn + 1)
    generalize { w with drawn := w.drawn + 1 } = w at hst ⊢
    refine A_take (i := 1) (v := .pointer a2) rfl (by kernel_rfl) (fun _ _ _ h => h) rfl rfl rfl (fun _ => R_pure (by kernel_rfl)) ?_
    refine A_all [0, 2, 6] (by kernel_rfl) ⟨⟨_, rfl, rfl, ?_⟩, ⟨_, rfl, rfl, ?_⟩, ⟨_, rfl, rfl, ?_⟩, trivial⟩
    · refine O_run (v := .agg #[.bool x7.there, S x7.s]) (w' := w) (R_load (hst.pull 3) rfl rfl) rfl rfl ?_
      refine A_all [2, 6] (by kernel_rfl) ⟨⟨_, rfl, rfl, ?_⟩, ⟨_, rfl, rfl, ?_⟩, trivial⟩
      · obtain ⟨x9, hx2, hr⟩ := bnd hr
        have hst := dpt_pick hx2 hst
        refine O_run (v := pt (ab a2) (ao a2 + (0 : Int).toNat * 4)) (w' := w) (R_nilc hst rfl) rfl rfl ?_
        refine A_take (i := 3) (v := pt (ab a2) (ao a2 + (0 : Int).toNat * 4 + 2)) rfl (by kernel_rfl) (fun _ _ _ h => h) rfl rfl rfl (fun _ => R_pure (by kernel_rfl)) ?_
        refine A_all [4, 6] (by kernel_rfl) ⟨⟨_, rfl, rfl, ?_⟩, ⟨_, rfl, rfl, ?_⟩, trivial⟩
        · obtain ⟨q2, hc2, hst⟩ := dsl_cells hst (show gt [x9] 0 = some x9 from rfl)
          have hst := hst.drop
          refine O_run (v := .agg #[.bool x9.safe.there, S x9.safe.s]) (w' := w) (R_loadAt (off := ao a2 + (0 : Int).toNat * 4) (j := 2) hc2 rfl rfl) rfl rfl ?_
          refine A_take (i := 5) (v := .agg #[.bool x7.there, S x7.s, .bool x9.safe.there, S x9.safe.s]) rfl (by kernel_rfl) (fun _ _ _ h => h) rfl rfl rfl (fun _ => R_pure (by kernel_rfl)) ?_
          refine A_all [6] (by kernel_rfl) ⟨⟨_, rfl, rfl, ?_⟩, trivial⟩
          refine O_alloc (i := Try.t95) (z := .agg #[.bool false, S ([]), .bool false, S ([])]) [.bool false, S ([]), .bool false, S ([])] hst rfl rfl rfl rfl fun p8 w hst => ?_
          refine A_all [7] (by kernel_rfl) ⟨⟨_, rfl, rfl, ?_⟩, trivial⟩
          refine O_store [.bool x7.there, S x7.s, .bool x9.safe.there, S x9.safe.s] hst rfl rfl (by kernel_rfl) fun w hst => ?_
          refine wpG_done (by kernel_rfl) ?_ _
          refine C_keepQ [(0, pt p1 0), (1, S x6), (7, .pointer a2), (8, pt p8 0)] rfl fun b => ?_
          refine th_n ?_
          obtain rfl := Option.some.inj hr
          have hst := ((((((hst.pull 5).pull 5).pull 5).pull 5).pull 4).cut 5 1)
          exact ⟨p8, (kpX [(0, pt p1 0), (1, S x6), (7, .pointer a2), (8, pt p8 0)] rfl hst)⟩
        · refine O_alloc (i := Try.t95) (z := .agg #[.bool false, S ([]), .bool false, S ([])]) [.bool false, S ([]), .bool false, S ([])] hst rfl rfl rfl rfl fun p8 w hst => ?_
          refine A_all [4] (by kernel_rfl) ⟨⟨_, rfl, rfl, ?_⟩, trivial⟩
          obtain ⟨q2, hc2, hst⟩ := dsl_cells (hst.pull 1) (show gt [x9] 0 = some x9 from rfl)
          have hst := hst.drop
          refine O_run (v := .agg #[.bool x9.safe.there, S x9.safe.s]) (w' := w) (R_loadAt (off := ao a2 + (0 : Int).toNat * 4) (j := 2) hc2 rfl rfl) rfl rfl ?_
          refine A_take (i := 5) (v := .agg #[.bool x7.there, S x7.s, .bool x9.safe.there, S x9.safe.s]) rfl (by kernel_rfl) (fun _ _ _ h => h) rfl rfl rfl (fun _ => R_pure (by kernel_rfl)) ?_
          refine A_all [7] (by kernel_rfl) ⟨⟨_, rfl, rfl, ?_⟩, trivial⟩
          refine O_store [.bool x7.there, S x7.s, .bool x9.safe.there, S x9.safe.s] (hst.pull 1) rfl rfl (by kernel_rfl) fun w hst => ?_
          refine wpG_done (by kernel_rfl) ?_ _
          refine C_keepQ [(0, pt p1 0), (1, S x6), (7, .pointer a2), (8, pt p8 0)] rfl fun b => ?_
          refine th_n ?_
          obtain rfl := Option.some.inj hr
          have hst := ((((((hst.pull 5).pull 5).pull 5).pull 5).pull 4).cut 5 1)
          exact ⟨p8, (kpX [(0, pt p1 0), (1, S x6), (7, .pointer a2), (8, pt p8 0)] rfl hst)⟩
      · refine O_alloc (i := Try.t95) (z := .agg #[.bool false, S ([]), .bool false, S ([])]) [.bool false, S ([]), .bool false, S ([])] hst rfl rfl rfl rfl fun p8 w hst => ?_
        refine A_all [2] (by kernel_rfl) ⟨⟨_, rfl, rfl, ?_⟩, trivial⟩
        obtain ⟨x9, hx2, hr⟩ := bnd hr
        have hst := dpt_pick hx2 (hst.pull 1)
        refine O_run (v := pt (ab a2) (ao a2 + (0 : Int).toNat * 4)) (w' := w) (R_nilc hst rfl) rfl rfl ?_
        refine A_take (i := 3) (v := pt (ab a2) (ao a2 + (0 : Int).toNat * 4 + 2)) rfl (by kernel_rfl) (fun _ _ _ h => h) rfl rfl rfl (fun _ => R_pure (by kernel_rfl)) ?_
        refine A_all [4] (by kernel_rfl) ⟨⟨_, rfl, rfl, ?_⟩, trivial⟩
        obtain ⟨q2, hc2, hst⟩ := dsl_cells hst (show gt [x9] 0 = some x9 from rfl)
        have hst := hst.drop
        refine O_run (v := .agg #[.bool x9.safe.there, S x9.safe.s]) (w' := w) (R_loadAt (off := ao a2 + (0 : Int).toNat * 4) (j := 2) hc2 rfl rfl) rfl rfl ?_
        refine A_take (i := 5) (v := .agg #[.bool x7.there, S x7.s, .bool x9.safe.there, S x9.safe.s]) rfl (by kernel_rfl) (fun _ _ _ h => h) rfl rfl rfl (fun _ => R_pure (by kernel_rfl)) ?_
        refine A_all [7] (by kernel_rfl) ⟨⟨_, rfl, rfl, ?_⟩, trivial⟩
        refine O_store [.bool x7.there, S x7.s, .bool x9.safe.there, S x9.safe.s] (hst.pull 2) rfl rfl (by kernel_rfl) fun w hst => ?_
        refine wpG_done (by kernel_rfl) ?_ _
        refine C_keepQ [(0, pt p1 0), (1, S x6), (7, .pointer a2), (8, pt p8 0)] rfl fun b => ?_
        refine th_n ?_
        obtain rfl := Option.some.inj hr
        have hst := ((((((hst.pull 5).pull 5).pull 5).pull 5).pull 4).cut 5 1)
        exact ⟨p8, (kpX [(0, pt p1 0), (1, S x6), (7, .pointer a2), (8, pt p8 0)] rfl hst)⟩
    · obtain ⟨x9, hx2, hr⟩ := bnd hr
      have hst := dpt_pick hx2 hst
      refine O_run (v := pt (ab a2) (ao a2 + (0 : Int).toNat * 4)) (w' := w) (R_nilc hst rfl) rfl rfl ?_
      refine A_take (i := 3) (v := pt (ab a2) (ao a2 + (0 : Int).toNat * 4 + 2)) rfl (by kernel_rfl) (fun _ _ _ h => h) rfl rfl rfl (fun _ => R_pure (by kernel_rfl)) ?_
      refine A_all [0, 4, 6] (by kernel_rfl) ⟨⟨_, rfl, rfl, ?_⟩, ⟨_, rfl, rfl, ?_⟩, ⟨_, rfl, rfl, ?_⟩, trivial⟩
      · refine O_run (v := .agg #[.bool x7.there, S x7.s]) (w' := w) (R_load (hst.pull 4) rfl rfl) rfl rfl ?_
        refine A_all [4, 6] (by kernel_rfl) ⟨⟨_, rfl, rfl, ?_⟩, ⟨_, rfl, rfl, ?_⟩, trivial⟩
        · obtain ⟨q2, hc2, hst⟩ := dsl_cells hst (show gt [x9] 0 = some x9 from rfl)
          have hst := hst.drop
          refine O_run (v := .agg #[.bool x9.safe.there, S x9.safe.s]) (w' := w) (R_loadAt (off := ao a2 + (0 : Int).toNat * 4) (j := 2) hc2 rfl rfl) rfl rfl ?_
          refine A_take (i := 5) (v := .agg #[.bool x7.there, S x7.s, .bool x9.safe.there, S x9.safe.s]) rfl (by kernel_rfl) (fun _ _ _ h => h) rfl rfl rfl (fun _ => R_pure (by kernel_rfl)) ?_
          refine A_all [6] (by kernel_rfl) ⟨⟨_, rfl, rfl, ?_⟩, trivial⟩
          refine O_alloc (i := Try.t95) (z := .agg #[.bool false, S ([]), .bool false, S ([])]) [.bool false, S ([]), .bool false, S ([])] hst rfl rfl rfl rfl fun p8 w hst => ?_
          refine A_all [7] (by kernel_rfl) ⟨⟨_, rfl, rfl, ?_⟩, trivial⟩
          refine O_store [.bool x7.there, S x7.s, .bool x9.safe.there, S x9.safe.s] hst rfl rfl (by kernel_rfl) fun w hst => ?_
          refine wpG_done (by kernel_rfl) ?_ _
          refine C_keepQ [(0, pt p1 0), (1, S x6), (7, .pointer a2), (8, pt p8 0)] rfl fun b => ?_
          refine th_n ?_
          obtain rfl := Option.some.inj hr
          have hst := ((((((hst.pull 5).pull 5).pull 5).pull 5).pull 4).cut 5 1)
          exact ⟨p8, (kpX [(0, pt p1 0), (1, S x6), (7, .pointer a2), (8, pt p8 0)] rfl hst)⟩
        · refine O_alloc (i := Try.t95) (z := .agg #[.bool false, S ([]), .bool false, S ([])]) [.bool false, S ([]), .bool false, S ([])] hst rfl rfl rfl rfl fun p8 w hst => ?_
          refine A_all [4] (by kernel_rfl) ⟨⟨_, rfl, rfl, ?_⟩, trivial⟩
          obtain ⟨q2, hc2, hst⟩ := dsl_cells (hst.pull 1) (show gt [x9] 0 = some x9 from rfl)
          have hst := hst.drop
          refine O_run (v := .agg #[.bool x9.safe.there, S x9.safe.s]) (w' := w) (R_loadAt (off := ao a2 + (0 : Int).toNat * 4) (j := 2) hc2 rfl rfl) rfl rfl ?_
          refine A_take (i := 5) (v := .agg #[.bool x7.there, S x7.s, .bool x9.safe.there, S x9.safe.s]) rfl (by kernel_rfl) (fun _ _ _ h => h) rfl rfl rfl (fun _ => R_pure (by kernel_rfl)) ?_
          refine A_all [7] (by kernel_rfl) ⟨⟨_, rfl, rfl, ?_⟩, trivial⟩
          refine O_store [.bool x7.there, S x7.s, .bool x9.safe.there, S x9.safe.s] (hst.pull 1) rfl rfl (by kernel_rfl) fun w hst => ?_
          refine wpG_done (by kernel_rfl) ?_ _
          refine C_keepQ [(0, pt p1 0), (1, S x6), (7, .pointer a2), (8, pt p8 0)] rfl fun b => ?_
          refine th_n ?_
          obtain rfl := Option.some.inj hr
          have hst := ((((((hst.pull 5).pull 5).pull 5).pull 5).pull 4).cut 5 1)
          exact ⟨p8, (kpX [(0, pt p1 0), (1, S x6), (7, .pointer a2), (8, pt p8 0)] rfl hst)⟩
      · obtain ⟨q2, hc2, hst⟩ := dsl_cells hst (show gt [x9] 0 = some x9 from rfl)
        have hst := hst.drop
        refine O_run (v := .agg #[.bool x9.safe.there, S x9.safe.s]) (w' := w) (R_loadAt (off := ao a2 + (0 : Int).toNat * 4) (j := 2) hc2 rfl rfl) rfl rfl ?_
        refine A_all [0, 6] (by kernel_rfl) ⟨⟨_, rfl, rfl, ?_⟩, ⟨_, rfl, rfl, ?_⟩, trivial⟩
        · refine O_run (v := .agg #[.bool x7.there, S x7.s]) (w' := w) (R_load (hst.pull 4) rfl rfl) rfl rfl ?_
          refine A_take (i := 5) (v := .agg #[.bool x7.there, S x7.s, .bool x9.safe.there, S x9.safe.s]) rfl (by kernel_rfl) (fun _ _ _ h => h) rfl rfl rfl (fun _ => R_pure (by kernel_rfl)) ?_
          refine A_all [6] (by kernel_rfl) ⟨⟨_, rfl, rfl, ?_⟩, trivial⟩
          refine O_alloc (i := Try.t95) (z := .agg #[.bool false, S ([]), .bool false, S ([])]) [.bool false, S ([]), .bool false, S ([])] hst rfl rfl rfl rfl fun p8 w hst => ?_
          refine A_all [7] (by kernel_rfl) ⟨⟨_, rfl, rfl, ?_⟩, trivial⟩
          refine O_store [.bool x7.there, S x7.s, .bool x9.safe.there, S x9.safe.s] hst rfl rfl (by kernel_rfl) fun w hst => ?_
          refine wpG_done (by kernel_rfl) ?_ _
          refine C_keepQ [(0, pt p1 0), (1, S x6), (7, .pointer a2), (8, pt p8 0)] rfl fun b => ?_
          refine th_n ?_
          obtain rfl := Option.some.inj hr
          have hst := ((((((hst.pull 5).pull 5).pull 5).pull 5).pull 4).cut 5 1)
          exact ⟨p8, (kpX [(0, pt p1 0), (1, S x6), (7, .pointer a2), (8, pt p8 0)] rfl hst)⟩
        · refine O_alloc (i := Try.t95) (z := .agg #[.bool false, S ([]), .bool false, S ([])]) [.bool false, S ([]), .bool false, S ([])] hst rfl rfl rfl rfl fun p8 w hst => ?_
          refine A_all [0] (by kernel_rfl) ⟨⟨_, rfl, rfl, ?_⟩, trivial⟩
          refine O_run (v := .agg #[.bool x7.there, S x7.s]) (w' := w) (R_load (hst.pull 5) rfl rfl) rfl rfl ?_
          refine A_take (i := 5) (v := .agg #[.bool x7.there, S x7.s, .bool x9.safe.there, S x9.safe.s]) rfl (by kernel_rfl) (fun _ _ _ h => h) rfl rfl rfl (fun _ => R_pure (by kernel_rfl)) ?_
          refine A_all [7] (by kernel_rfl) ⟨⟨_, rfl, rfl, ?_⟩, trivial⟩
          refine O_store [.bool x7.there, S x7.s, .bool x9.safe.there, S x9.safe.s] hst rfl rfl (by kernel_rfl) fun w hst => ?_
          refine wpG_done (by kernel_rfl) ?_ _
          refine C_keepQ [(0, pt p1 0), (1, S x6), (7, .pointer a2), (8, pt p8 0)] rfl fun b => ?_
          refine th_n ?_
          obtain rfl := Option.some.inj hr
          have hst := ((((((hst.pull 5).pull 5).pull 5).pull 5).pull 4).cut 5 1)
          exact ⟨p8, (kpX [(0, pt p1 0), (1, S x6), (7, .pointer a2), (8, pt p8 0)] rfl hst)⟩
      · refine O_alloc (i := Try.t95) (z := .agg #[.bool false, S ([]), .bool false, S ([])]) [.bool false, S ([]), .bool false, S ([])] hst rfl rfl rfl rfl fun p8 w hst => ?_
        refine A_all [0, 4] (by kernel_rfl) ⟨⟨_, rfl, rfl, ?_⟩, ⟨_, rfl, rfl, ?_⟩, trivial⟩
        · refine O_run (v := .agg #[.bool x7.there, S x7.s]) (w' := w) (R_load (hst.pull 5) rfl rfl) rfl rfl ?_
          refine A_all [4] (by kernel_rfl) ⟨⟨_, rfl, rfl, ?_⟩, trivial⟩
          obtain ⟨q2, hc2, hst⟩ := dsl_cells (hst.pull 1) (show gt [x9] 0 = some x9 from rfl)
          have hst := hst.drop
          refine O_run (v := .agg #[.bool x9.safe.there, S x9.safe.s]) (w' := w) (R_loadAt (off := ao a2 + (0 : Int).toNat * 4) (j := 2) hc2 rfl rfl) rfl rfl ?_
          refine A_take (i := 5) (v := .agg #[.bool x7.there, S x7.s, .bool x9.safe.there, S x9.safe.s]) rfl (by kernel_rfl) (fun _ _ _ h => h) rfl rfl rfl (fun _ => R_pure (by kernel_rfl)) ?_
          refine A_all [7] (by kernel_rfl) ⟨⟨_, rfl, rfl, ?_⟩, trivial⟩
          refine O_store [.bool x7.there, S x7.s, .bool x9.safe.there, S x9.safe.s] (hst.pull 1) rfl rfl (by kernel_rfl) fun w hst => ?_
          refine wpG_done (by kernel_rfl) ?_ _
          refine C_keepQ [(0, pt p1 0), (1, S x6), (7, .pointer a2), (8, pt p8 0)] rfl fun b => ?_
          refine th_n ?_
          obtain rfl := Option.some.inj hr
          have hst := ((((((hst.pull 5).pull 5).pull 5).pull 5).pull 4).cut 5 1)
          exact ⟨p8, (kpX [(0, pt p1 0), (1, S x6), (7, .pointer a2), (8, pt p8 0)] rfl hst)⟩
        · obtain ⟨q2, hc2, hst⟩ := dsl_cells (hst.pull 1) (show gt [x9] 0 = some x9 from rfl)
          have hst := hst.drop
          refine O_run (v := .agg #[.bool x9.safe.there, S x9.safe.s]) (w' := w) (R_loadAt (off := ao a2 + (0 : Int).toNat * 4) (j := 2) hc2 rfl rfl) rfl rfl ?_
          refine A_all [0] (by kernel_rfl) ⟨⟨_, rfl, rfl, ?_⟩, trivial⟩
          refine O_run (v := .agg #[.bool x7.there, S x7.s]) (w' := w) (R_load (hst.pull 5) rfl rfl) rfl rfl ?_
          refine A_take (i := 5) (v := .agg #[.bool x7.there, S x7.s, .bool x9.safe.there, S x9.safe.s]) rfl (by kernel_rfl) (fun _ _ _ h => h) rfl rfl rfl (fun _ => R_pure (by kernel_rfl)) ?_
          refine A_all [7] (by kernel_rfl) ⟨⟨_, rfl, rfl, ?_⟩, trivial⟩
          refine O_store [.bool x7.there, S x7.s, .bool x9.safe.there, S x9.safe.s] (hst.pull 1) rfl rfl (by kernel_rfl) fun w hst => ?_
          refine wpG_done (by kernel_rfl) ?_ _
          refine C_keepQ [(0, pt p1 0), (1, S x6), (7, .pointer a2), (8, pt p8 0)] rfl fun b => ?_
          refine th_n ?_
          obtain rfl := Option.some.inj hr
          have hst := ((((((hst.pull 5).pull 5).pull 5).pull 5).pull 4).cut 5 1)
          exact ⟨p8, (kpX [(0, pt p1 0), (1, S x6), (7, .pointer a2), (8, pt p8 0)] rfl hst)⟩
    · refine O_alloc (i := Try.t95) (z := .agg #[.bool false, S ([]), .bool false, S ([])]) [.bool false, S ([]), .bool false, S ([])] hst rfl rfl rfl rfl fun p8 w hst => ?_
      refine A_all [0, 2] (by kernel_rfl) ⟨⟨_, rfl, rfl, ?_⟩, ⟨_, rfl, rfl, ?_⟩, trivial⟩
      · refine O_run (v := .agg #[.bool x7.there, S x7.s]) (w' := w) (R_load (hst.pull 4) rfl rfl) rfl rfl ?_
        refine A_all [2] (by kernel_rfl) ⟨⟨_, rfl, rfl, ?_⟩, trivial⟩
        obtain ⟨x9, hx2, hr⟩ := bnd hr
        have hst := dpt_pick hx2 (hst.pull 1)
        refine O_run (v := pt (ab a2) (ao a2 + (0 : Int).toNat * 4)) (w' := w) (R_nilc hst rfl) rfl rfl ?_
        refine A_take (i := 3) (v := pt (ab a2) (ao a2 + (0 : Int).toNat * 4 + 2)) rfl (by kernel_rfl) (fun _ _ _ h => h) rfl rfl rfl (fun _ => R_pure (by kernel_rfl)) ?_
        refine A_all [4] (by kernel_rfl) ⟨⟨_, rfl, rfl, ?_⟩, trivial⟩
        obtain ⟨q2, hc2, hst⟩ := dsl_cells hst (show gt [x9] 0 = some x9 from rfl)
        have hst := hst.drop
        refine O_run (v := .agg #[.bool x9.safe.there, S x9.safe.s]) (w' := w) (R_loadAt (off := ao a2 + (0 : Int).toNat * 4) (j := 2) hc2 rfl rfl) rfl rfl ?_
        refine A_take (i := 5) (v := .agg #[.bool x7.there, S x7.s, .bool x9.safe.there, S x9.safe.s]) rfl (by kernel_rfl) (fun _ _ _ h => h) rfl rfl rfl (fun _ => R_pure (by kernel_rfl)) ?_
        refine A_all [7] (by kernel_rfl) ⟨⟨_, rfl, rfl, ?_⟩, trivial⟩
        refine O_store [.bool x7.there, S x7.s, .bool x9.safe.there, S x9.safe.s] (hst.pull 2) rfl rfl (by kernel_rfl) fun w hst => ?_
        refine wpG_done (by kernel_rfl) ?_ _
        refine C_keepQ [(0, pt p1 0), (1, S x6), (7, .pointer a2), (8, pt p8 0)] rfl fun b => ?_
        refine th_n ?_
        obtain rfl := Option.some.inj hr
        have hst := ((((((hst.pull 5).pull 5).pull 5).pull 5).pull 4).cut 5 1)
        exact ⟨p8, (kpX [(0, pt p1 0), (1, S x6), (7, .pointer a2), (8, pt p8 0)] rfl hst)⟩
      · obtain ⟨x9, hx2, hr⟩ := bnd hr
        have hst := dpt_pick hx2 (hst.pull 1)
        refine O_run (v := pt (ab a2) (ao a2 + (0 : Int).toNat * 4)) (w' := w) (R_nilc hst rfl) rfl rfl ?_
        refine A_take (i := 3) (v := pt (ab a2) (ao a2 + (0 : Int).toNat * 4 + 2)) rfl (by kernel_rfl) (fun _ _ _ h => h) rfl rfl rfl (fun _ => R_pure (by kernel_rfl)) ?_
        refine A_all [0, 4] (by kernel_rfl) ⟨⟨_, rfl, rfl, ?_⟩, ⟨_, rfl, rfl, ?_⟩, trivial⟩
        · refine O_run (v := .agg #[.bool x7.there, S x7.s]) (w' := w) (R_load (hst.pull 5) rfl rfl) rfl rfl ?_
          refine A_all [4] (by kernel_rfl) ⟨⟨_, rfl, rfl, ?_⟩, trivial⟩
          obtain ⟨q2, hc2, hst⟩ := dsl_cells hst (show gt [x9] 0 = some x9 from rfl)
          have hst := hst.drop
          refine O_run (v := .agg #[.bool x9.safe.there, S x9.safe.s]) (w' := w) (R_loadAt (off := ao a2 + (0 : Int).toNat * 4) (j := 2) hc2 rfl rfl) rfl rfl ?_
          refine A_take (i := 5) (v := .agg #[.bool x7.there, S x7.s, .bool x9.safe.there, S x9.safe.s]) rfl (by kernel_rfl) (fun _ _ _ h => h) rfl rfl rfl (fun _ => R_pure (by kernel_rfl)) ?_
          refine A_all [7] (by kernel_rfl) ⟨⟨_, rfl, rfl, ?_⟩, trivial⟩
          refine O_store [.bool x7.there, S x7.s, .bool x9.safe.there, S x9.safe.s] (hst.pull 2) rfl rfl (by kernel_rfl) fun w hst => ?_
          refine wpG_done (by kernel_rfl) ?_ _
          refine C_keepQ [(0, pt p1 0), (1, S x6), (7, .pointer a2), (8, pt p8 0)] rfl fun b => ?_
          refine th_n ?_
          obtain rfl := Option.some.inj hr
          have hst := ((((((hst.pull 5).pull 5).pull 5).pull 5).pull 4).cut 5 1)
          exact ⟨p8, (kpX [(0, pt p1 0), (1, S x6), (7, .pointer a2), (8, pt p8 0)] rfl hst)⟩
        · obtain ⟨q2, hc2, hst⟩ := dsl_cells hst (show gt [x9] 0 = some x9 from rfl)
          have hst := hst.drop
          refine O_run (v := .agg #[.bool x9.safe.there, S x9.safe.s]) (w' := w) (R_loadAt (off := ao a2 + (0 : Int).toNat * 4) (j := 2) hc2 rfl rfl) rfl rfl ?_
          refine A_all [0] (by kernel_rfl) ⟨⟨_, rfl, rfl, ?_⟩, trivial⟩
          refine O_run (v := .agg #[.bool x7.there, S x7.s]) (w' := w) (R_load (hst.pull 5) rfl rfl) rfl rfl ?_
          refine A_take (i := 5) (v := .agg #[.bool x7.there, S x7.s, .bool x9.safe.there, S x9.safe.s]) rfl (by kernel_rfl) (fun _ _ _ h => h) rfl rfl rfl (fun _ => R_pure (by kernel_rfl)) ?_
          refine A_all [7] (by kernel_rfl) ⟨⟨_, rfl, rfl, ?_⟩, trivial⟩
          refine O_store [.bool x7.there, S x7.s, .bool x9.safe.there, S x9.safe.s] (hst.pull 2) rfl rfl (by kernel_rfl) fun w hst => ?_
          refine wpG_done (by kernel_rfl) ?_ _
          refine C_keepQ [(0, pt p1 0), (1, S x6), (7, .pointer a2), (8, pt p8 0)] rfl fun b => ?_
          refine th_n ?_
          obtain rfl := Option.some.inj hr
          have hst := ((((((hst.pull 5).pull 5).pull 5).pull 5).pull 4).cut 5 1)
          exact ⟨p8, (kpX [(0, pt p1 0), (1, S x6), (7, .pointer a2), (8, pt p8 0)] rfl hst)⟩
def platter_Disk_Append (k : Nat) (x1 : Int) (x2 : Int) (x3 : Bool) (x4 : Int) (x5 : (List ((List UInt8) × (Option T_platter_file)))) (x6 : (List UInt8)) (x7 : (List UInt8)) : Option (Int × Int × Int × (List ((List UInt8) × (Option T_platter_file)))) := (Option.bind (meter_Luck_Try k x1 x2 x3 x4 x5) fun y4 => (if (y4.1 != 0) = true then some (y4.1, x2, y4.2, x5) else (if (sEq x6 ([])) = true then some ((1 : Int), x2, y4.2, x5) else (Option.bind (platter_Disk_get k x1 x2 x3 y4.2 x5 x6) fun y5 => (Option.bind y5 fun x10 => (Option.bind (cat x10.now.s x7) fun x11 => (Option.bind (platter_Disk_put k x1 x2 x3 y4.2 x5 x6 (T_platter_text.mk true x11)) fun y6 => some (y6.1, y6.2.1, y4.2, y6.2.2))))))))
set_option maxRecDepth 100000 in
set_option maxHeartbeats 4000000 in
theorem platter_Disk_Append_ok {G w : World} {F : List HP} {R : Ending → World → Prop} (k : Nat) (x1 : Int) (x2 : Int) (x3 : Bool) (x4 : Int) (x5 : (List ((List UInt8) × (Option T_platter_file)))) (x6 : (List UInt8)) (x7 : (List UInt8)) (p1 : Nat) (p2 : Nat) (r : (Int × Int × Int × (List ((List UInt8) × (Option T_platter_file))))) (hst : St G w (blk p1 (cl [I x1, I x2, .bool x3, I x4, .map (some p2)] 42) :: mpr S (rPt r_T_platter_file) p2 x5 :: F)) (hr : platter_Disk_Append k x1 x2 x3 x4 x5 x6 x7 = some r)
    (hR : ∀ w', St G w' (blk p1 (cl [I x1, I r.2.1, .bool x3, I r.2.2.1, .map (some p2)] 42) :: mpr S (rPt r_T_platter_file) p2 r.2.2.2 :: F) → R (.returned (I r.1)) w') :
    Calls Try.prog 18 #[pt p1 0, S x6, S x7] w R := by
  unfold platter_Disk_Append at hr
  refine enter Try.func18 rfl [(0, pt p1 0), (1, S x6), (2, S x7)] rfl rfl fun b => ?_
  refine wp_seq ?_
  refine wp_reg ?_
  refine L_pure 1 [(0, pt p1 0), (1, S x6), (2, S x7)] (by kernel_rfl) fun b => ?_
  refine wpL_nil ?_
  refine th_n ?_
  refine wp_seq ?_
  refine wp_seq ?_
  refine wp_reg ?_
  refine L_pure 3 [(0, pt p1 0), (1, S x6), (2, S x7), (10, pt p1 2)] (by kernel_rfl) fun b => ?_
  obtain ⟨y4, hy4, hr⟩ := bnd hr
  refine L_op rfl (O_call (vs := #[pt p1 2]) Try.call39 (by kernel_rfl) (meter_Luck_Try_ok k x1 x2 x3 x4 x5 p1 p2 y4 ((hst.pull 1).pull 1) hy4 fun w hst => ?_))
  refine CK_ret rfl ?_
  refine L_pure 1 [(0, pt p1 0), (1, S x6), (2, S x7), (7, I y4.1)] (by kernel_rfl) fun b => ?_
  refine wpL_nil ?_
  refine th_n ?_
  refine wp_seq ?_
  refine wp_reg ?_
  refine L_pure 2 [(0, pt p1 0), (1, S x6), (2, S x7), (7, I y4.1), (13, .bool (y4.1 != 0))] (by kernel_rfl) fun b => ?_
  refine wpL_nil ?_
  refine th_n ?_
  refine wp_cond_mkF (t := (y4.1 != 0)) rfl (fun h => ?_) (fun h => ?_)
  · have hr := (if_pos h).symm.trans hr
    refine wp_seq ?_
    refine wp_reg ?_
    refine L_pure 2 [(6, I y4.1)] (by kernel_rfl) fun b => ?_
    refine wpL_nil ?_
    refine th_n ?_
    refine wp_ret ?_
    refine th_r ?_
    refine ret1 rfl rfl ?_
    obtain rfl := Option.some.inj hr
    have hst := ((hst.pull 1).pull 1)
    exact hR _ hst
  · have hr := (if_neg (by rw [h]; exact Bool.false_ne_true)).symm.trans hr
    refine wp_skip ?_
    refine th_n ?_
    refine wp_seq ?_
    refine wp_seq ?_
    refine wp_reg ?_
    refine L_pure 2 [(0, pt p1 0), (1, S x6), (2, S x7), (16, .bool (sEq x6 ([])))] (by kernel_rfl) fun b => ?_
    refine wpL_nil ?_
    refine th_n ?_
    refine wp_cond_mkF (t := (sEq x6 ([]))) rfl (fun h => ?_) (fun h => ?_)
    · have hr := (if_pos h).symm.trans hr
      refine wp_seq ?_
      refine wp_reg ?_
      refine L_pure 1 [(6, I 1)] (by kernel_rfl) fun b => ?_
      refine wpL_nil ?_
      refine th_n ?_
      refine wp_ret ?_
      refine th_r ?_
      refine ret1 rfl rfl ?_
      obtain rfl := Option.some.inj hr
      have hst := ((hst.pull 1).pull 1)
      exact hR _ hst
    · have hr := (if_neg (by rw [h]; exact Bool.false_ne_true)).symm.trans hr
      refine wp_skip ?_
      refine th_n ?_
      refine wp_seq ?_
      refine wp_reg ?_
      refine L_pure 4 [(2, S x7), (17, pt p1 0), (18, S x6), (19, pt p1 0), (20, S x6)] (by kernel_rfl) fun b => ?_
      obtain ⟨y5, hy5, hr⟩ := bnd hr
      refine L_op rfl (O_call (vs := #[pt p1 0, S x6]) Try.call43 (by kernel_rfl) (platter_Disk_get_ok k x1 x2 x3 y4.2 x5 x6 p1 p2 y5 ((hst.pull 1).pull 1) hy5 fun a2 w hst => ?_))
      refine CK_ret rfl ?_
      obtain ⟨x10, hx3, hr⟩ := bnd hr
      have hst := dpt_pick hx3 hst
      refine L_op rfl (O_run (v := pt (ab a2) (ao a2 + (0 : Int).toNat * 4)) (w' := w) (R_nilc hst rfl) rfl rfl ?_)
      refine L_pure 2 [(2, S x7), (17, pt p1 0), (18, S x6), (24, pt (ab a2) (ao a2 + (0 : Int).toNat * 4 + 1))] (by kernel_rfl) fun b => ?_
      obtain ⟨q2, hc2, hst⟩ := dsl_cells hst (show gt [x10] 0 = some x10 from rfl)
      have hst := hst.drop
      refine L_op rfl (O_run (v := S x10.now.s) (w' := w) (R_loadAt (off := ao a2 + (0 : Int).toNat * 4) (j := 1) hc2 rfl rfl) rfl rfl ?_)
      refine L_pure 1 [(17, pt p1 0), (18, S x6), (25, S x10.now.s), (26, S x7)] (by kernel_rfl) fun b => ?_
      obtain ⟨x11, hx4, hr⟩ := bnd hr
      refine L_op rfl (O_run (v := S x11) (w' := w) (R_cat rfl rfl hx4) rfl rfl ?_)
      refine L_pure 1 [(17, pt p1 0), (18, S x6), (28, .agg #[.bool true, S x11])] (by kernel_rfl) fun b => ?_
      obtain ⟨y6, hy6, hr⟩ := bnd hr
      refine L_op rfl (O_call (vs := #[pt p1 0, S x6, .agg #[.bool true, S x11]]) Try.call40 (by kernel_rfl) (platter_Disk_put_ok k x1 x2 x3 y4.2 x5 x6 (T_platter_text.mk true x11) p1 p2 y6 ((hst.pull 3).pull 3) hy6 fun w hst => ?_))
      refine CK_ret rfl ?_
      refine L_pure 1 [(6, I y6.1)] (by kernel_rfl) fun b => ?_
      refine wpL_nil ?_
      refine th_n ?_
      refine wp_ret ?_
      refine ret1 rfl rfl ?_
      obtain rfl := Option.some.inj hr
      have hst := (((hst.pull 1).pull 1).cut 2 2)
      exact hR _ hst
def maps_Keys (_k : Nat) (_x1 : (List ((List UInt8) × (Option T_platter_file)))) : Option Unit := some ()
open Go.Sort Go.Maps Go.Shelf in
theorem maps_Keys_ok {G w : World} {F : List HP} {R : Ending → World → Prop} (k : Nat) (x1 : (List ((List UInt8) × (Option T_platter_file)))) (p1 : Nat) (r : Unit) (hst : St G w (mpr S (rPt r_T_platter_file) p1 x1 :: F)) (_hr : maps_Keys k x1 = some r)
    (hR : ∀ (p2 : Nat) w', St G w' (blk p2 (cl [.map (some p1)] 40) :: mpr S (rPt r_T_platter_file) p1 x1 :: F) → R (.returned (.func (.func 63) #[] #[pt p2 0])) w') : Calls Try.prog 42 #[.map (some p1)] w R := by
  refine (callsIn_wide.1 (AnyZ.keys_in Try.keys42 Fence.wide 5 trivial rfl (some p1) w)).mono ?_
  rintro e w' ⟨rfl, rfl⟩
  exact hR w.heap.size _ (hst.alloc _)
open Go.Sort Go.Maps Go.Shelf in
theorem SK41 : SKC Try.prog 41 63 9 := by
  intro Bm b nn D0 R W hBm hm hown hmax hbytes
  have hsorts : AnyZ.SortsIn Try.prog Try.sorted41_ren Fence.wide (5 - 1) := ⟨fun blk off cap ss W hH hblk hsz => callsIn_wide.2 (AnyM.slices_Sort_string Try.sort62 blk off cap ss W hH hblk hsz), fun p cap W => callsIn_wide.2 (AnyM.slices_Sort_string_none Try.sort62 p cap W)⟩
  have hseq : SeqGives Fence.wide 2 Try.prog 63 #[.pointer (some ⟨Bm, 0, none⟩)] encStr (fun ss => ss.Perm (strKeys D0)) (Maps.size D0) W :=
    AnyZ.keys_gives (ρ := Try.keys42_ren) { Try.keys42 with } Fence.wide _ trivial rfl (by omega) Bm b nn D0 _ hBm hm hown
  exact callsIn_wide.1 (AnyZ.sorted_in Try.sorted41 Fence.wide 5 trivial trivial trivial trivial rfl (by omega) hsorts (enters_of Try.func62 (by kernel_rfl) rfl) 63 #[.pointer (some ⟨Bm, 0, none⟩)] trivial (enters_of Try.func63 (by kernel_rfl) rfl) _ _ hmax hbytes _ hseq)
def slices_Sorted (_k : Nat) (x1 : (List ((List UInt8) × (Option T_platter_file)))) : Option (List (List UInt8)) := if skOK x1 = true then some (skeys x1) else none
theorem slices_Sorted_ok {G w : World} {F : List HP} {R : Ending → World → Prop} (k : Nat) (x1 : (List ((List UInt8) × (Option T_platter_file)))) (p1 p2 : Nat) (r : List (List UInt8)) (hst : St G w (blk p1 (cl [.map (some p2)] 40) :: mpr S (rPt r_T_platter_file) p2 x1 :: F)) (hr : slices_Sorted k x1 = some r)
    (hR : ∀ (a2 : Option Addr) (c2 : Nat) w', St G w' (osl rS 9 a2 c2 r :: blk p1 (cl [.map (some p2)] 40) :: mpr S (rPt r_T_platter_file) p2 x1 :: F) → R (.returned (.slice a2 r.length c2)) w') :
    Calls Try.prog 41 #[.func (.func 63) #[] #[pt p1 0]] w R := by
  unfold slices_Sorted at hr
  obtain ⟨h0, hr⟩ := chk hr
  obtain rfl := Option.some.inj hr
  exact C_sorted SK41 Try.underlying9 h0 hst hR
def platter_Disk_settle (k : Nat) (x1 : Int) (x2 : Int) (x3 : Bool) (x4 : Int) (x5 : (List ((List UInt8) × (Option T_platter_file)))) (x6 : (List UInt8)) (x7 : T_platter_text) : Option (Int × (List ((List UInt8) × (Option T_platter_file)))) := (if (!((mget x5 x6).isSome)) = true then some (x2, x5) else (Option.bind (Option.bind (platter_file_weight_2 k ((mget x5 x6).getD none)) fun y5 => (Option.bind (meter_Meter_Give k x1 x2 x3 x4 x5 (IntKind.i64.wrap (y5 - (x7.s.length : Int)))) fun y6 => some (y6.2))) fun y4 => (if x7.there = true then some (y4, (mput x5 x6 (some (T_platter_file.mk x7 x7)))) else some (y4, (mdel x5 x6)))))
set_option maxRecDepth 100000 in
set_option maxHeartbeats 4000000 in
theorem platter_Disk_settle_ok {G w : World} {F : List HP} {R : Ending → World → Prop} (k : Nat) (x1 : Int) (x2 : Int) (x3 : Bool) (x4 : Int) (x5 : (List ((List UInt8) × (Option T_platter_file)))) (x6 : (List UInt8)) (x7 : T_platter_text) (p1 : Nat) (p2 : Nat) (r : (Int × (List ((List UInt8) × (Option T_platter_file))))) (hst : St G w (blk p1 (cl [I x1, I x2, .bool x3, I x4, .map (some p2)] 42) :: mpr S (rPt r_T_platter_file) p2 x5 :: F)) (hr : platter_Disk_settle k x1 x2 x3 x4 x5 x6 x7 = some r)
    (hR : ∀ w', St G w' (blk p1 (cl [I x1, I r.1, .bool x3, I x4, .map (some p2)] 42) :: mpr S (rPt r_T_platter_file) p2 r.2 :: F) → R (.returned (.tuple #[])) w') :
    Calls Try.prog 44 #[pt p1 0, S x6, .agg #[.bool x7.there, S x7.s]] w R := by
  unfold platter_Disk_settle at hr
  refine enter Try.func44 rfl [(0, pt p1 0), (1, S x6), (2, .agg #[.bool x7.there, S x7.s])] rfl rfl fun b => ?_
  refine wp_seq ?_
  refine wp_reg ?_
  refine L_op rfl (O_box [.bool x7.there, S x7.s] hst rfl rfl fun p5 w hst => ?_)
  refine wpL_nil ?_
  refine th_n ?_
  refine wp_seq ?_
  refine wp_reg ?_
  refine L_pure 3 [(0, pt p1 0), (1, S x6), (5, pt p5 0), (11, pt p1 4)] (by kernel_rfl) fun b => ?_
  refine L_op rfl (O_run (v := .map (some p2)) (w' := w) (R_load (hst.pull 1) rfl rfl) rfl rfl ?_)
  refine L_pure 1 [(0, pt p1 0), (1, S x6), (5, pt p5 0), (12, .map (some p2)), (13, S x6)] (by kernel_rfl) fun b => ?_
  refine L_op rfl (O_lookP2 M40 x6 (hst.pull 2) rfl rfl rfl fun a2 hst => ?_)
  refine L_pure 5 [(0, pt p1 0), (1, S x6), (5, pt p5 0), (6, .pointer a2), (7, .bool ((mget x5 x6).isSome))] (by kernel_rfl) fun b => ?_
  refine wpL_nil ?_
  refine th_n ?_
  refine wp_seq ?_
  refine wp_seq ?_
  refine wp_reg ?_
  refine L_pure 2 [(0, pt p1 0), (1, S x6), (5, pt p5 0), (6, .pointer a2), (18, .bool (!((mget x5 x6).isSome)))] (by kernel_rfl) fun b => ?_
  refine wpL_nil ?_
  refine th_n ?_
  refine wp_cond_mkF (t := (!((mget x5 x6).isSome))) rfl (fun h => ?_) (fun h => ?_)
  · have hr := (if_pos h).symm.trans hr
    refine wp_ret ?_
    refine th_r ?_
    refine ret0 rfl ?_
    obtain rfl := Option.some.inj hr
    have hst := (((hst.pull 1).pull 3).cut 2 2)
    exact hR _ hst
  · have hr := (if_neg (by rw [h]; exact Bool.false_ne_true)).symm.trans hr
    refine wp_skip ?_
    refine th_n ?_
    obtain ⟨y4, hy4, hk2⟩ := bnd hr
    clear hr
    refine wp_seq_cut (fun a w => ∃ (b : Nat → Value), a = mkF 45 b [(0, pt p1 0), (1, S x6), (5, pt p5 0)] ∧ St G w (blk p1 (cl [I x1, I y4, .bool x3, I x4, .map (some p2)] 42) :: mpr S (rPt r_T_platter_file) p2 x5 :: dpt r_T_platter_file a2 ((mget x5 x6).getD none) :: dpt r_T_platter_file a2 ((mget x5 x6).getD none) :: blk p5 (cl [.bool x7.there, S x7.s] 86) :: F)) ?_ ?_
    · rintro _ w ⟨b, rfl, hst⟩
      have hr := hk2
      refine wp_seq ?_
      refine wp_reg ?_
      refine L_pure 1 [(0, pt p1 0), (1, S x6), (5, pt p5 0), (29, pt p5 0)] (by kernel_rfl) fun b => ?_
      refine L_op rfl (O_run (v := .bool x7.there) (w' := w) (R_load (hst.pull 4) rfl rfl) rfl rfl ?_)
      refine wpL_nil ?_
      refine th_n ?_
      refine wp_cond_mkF (t := x7.there) rfl (fun h => ?_) (fun h => ?_)
      · have hr := (if_pos h).symm.trans hr
        refine wp_regG (SP 9 (fun w => St G w (blk p1 (cl [I x1, I y4, .bool x3, I x4, .map (some p2)] 42) :: mpr S (rPt r_T_platter_file) p2 x5 :: dpt r_T_platter_file a2 ((mget x5 x6).getD none) :: dpt r_T_platter_file a2 ((mget x5 x6).getD none) :: blk p5 (cl [.bool x7.there, S x7.s] 86) :: F))) rfl ?_
        have hst := hst.draw (n := w.drawn + 1)
        generalize { w with drawn := w.drawn + 1 } = w at hst ⊢
        refine P_pure (i := 0) (v := pt p1 0) 9 rfl rfl (by kernel_rfl) (fun _ _ _ h => h) rfl rfl rfl (by kernel_rfl) (.inr (((((hst.pull 4).pull 4).pull 4).pull 4).pull 4)) ?_
        refine P_pure (i := 1) (v := pt p1 0) 9 rfl rfl (by kernel_rfl) (fun _ _ _ h => h) rfl rfl rfl (by kernel_rfl) (.inr (((((hst.pull 4).pull 4).pull 4).pull 4).pull 4)) ?_
        refine P_pure (i := 2) (v := pt p1 4) 9 rfl rfl (by kernel_rfl) (fun _ _ _ h => h) rfl rfl rfl (by kernel_rfl) (.inr (((((hst.pull 4).pull 4).pull 4).pull 4).pull 4)) ?_
        refine P_take (i := 3) (v := .map (some p2)) 9 [3] (by kernel_rfl) rfl (by kernel_rfl) (fun _ _ _ h => h) rfl rfl rfl (fun w hst => R_load hst rfl rfl) ((((((hst.pull 4).pull 4).pull 4).pull 4).pull 4)) ?_
        refine P_pure (i := 4) (v := S x6) 9 rfl rfl (by kernel_rfl) (fun _ _ _ h => h) rfl rfl rfl (by kernel_rfl) (.inr (((((hst.pull 4).pull 4).pull 4).pull 4).pull 4)) ?_
        refine P_take (i := 5) (v := .agg #[.bool x7.there, S x7.s]) 9 [5] (by kernel_rfl) rfl (by kernel_rfl) (fun _ _ _ h => h) rfl rfl rfl (fun w hst => R_load (hst.pull 4) rfl rfl) ((((((hst.pull 4).pull 4).pull 4).pull 4).pull 4)) ?_
        refine P_take (i := 6) (v := .agg #[.bool x7.there, S x7.s]) 9 [6] (by kernel_rfl) rfl (by kernel_rfl) (fun _ _ _ h => h) rfl rfl rfl (fun w hst => R_load (hst.pull 4) rfl rfl) ((((((hst.pull 4).pull 4).pull 4).pull 4).pull 4)) ?_
        refine P_pure (i := 7) (v := .agg #[.bool x7.there, S x7.s, .bool x7.there, S x7.s]) 9 rfl rfl (by kernel_rfl) (fun _ _ _ h => h) rfl rfl rfl (by kernel_rfl) (.inr (((((hst.pull 4).pull 4).pull 4).pull 4).pull 4)) ?_
        refine P_one (i := 8) 9 (by kernel_rfl) rfl rfl (O_box [.bool x7.there, S x7.s, .bool x7.there, S x7.s] hst rfl rfl fun p6 w hst => ?_)
        refine ⟨((((((hst.pull 5).pull 5).pull 5).pull 5).pull 5).cut 5 1), ?_⟩
        have hst := osl_of_blk0 (ecs := [[.bool x7.there, S x7.s, .bool x7.there, S x7.s]]) r_T_platter_file [(T_platter_file.mk x7 x7)] rfl (fun m => ⟨⟨(), rfl, trivial⟩, trivial⟩) rfl hst
        have hst := dpt_of (osl_freeze hst)
        refine P_act (i := 9) 9 (by kernel_rfl) rfl rfl (by kernel_rfl) (O_updP M40 x6 (hst.pull 2) rfl rfl rfl fun w hst => ?_)
        refine wpG_done (by kernel_rfl) ?_ _
        refine C_keepQ [] rfl fun b => ?_
        refine bp_normal ?_
        refine ret0 rfl ?_
        obtain rfl := Option.some.inj hr
        have hst := ((hst.pull 2).cut 2 4)
        exact hR _ hst
      · have hr := (if_neg (by rw [h]; exact Bool.false_ne_true)).symm.trans hr
        refine wp_reg ?_
        refine L_pure 3 [(1, S x6), (42, pt p1 4)] (by kernel_rfl) fun b => ?_
        refine L_op rfl (O_run (v := .map (some p2)) (w' := w) (R_load hst rfl rfl) rfl rfl ?_)
        refine L_pure 1 [(43, .map (some p2)), (44, S x6)] (by kernel_rfl) fun b => ?_
        refine L_op rfl (O_delP M40 x6 (hst.pull 1) rfl rfl fun w hst => ?_)
        refine wpL_nil ?_
        refine bp_normal ?_
        refine ret0 rfl ?_
        obtain rfl := Option.some.inj hr
        have hst := ((hst.pull 1).cut 2 3)
        exact hR _ hst
    · have hr := hy4
      refine wp_regG SA rfl ?_
      have hst := hst.draw (n := w.drawn + 1)
      generalize { w with drawn := w.drawn + 1 } = w at hst ⊢
      refine A_take (i := 0) (v := pt p1 0) rfl (by kernel_rfl) (fun _ _ _ h => h) rfl rfl rfl (fun _ => R_pure (by kernel_rfl)) ?_
      refine A_take (i := 1) (v := pt p1 0) rfl (by kernel_rfl) (fun _ _ _ h => h) rfl rfl rfl (fun _ => R_pure (by kernel_rfl)) ?_
      refine A_take (i := 2) (v := pt p1 0) rfl (by kernel_rfl) (fun _ _ _ h => h) rfl rfl rfl (fun _ => R_pure (by kernel_rfl)) ?_
      refine A_take (i := 3) (v := .pointer a2) rfl (by kernel_rfl) (fun _ _ _ h => h) rfl rfl rfl (fun _ => R_pure (by kernel_rfl)) ?_
      refine A_take (i := 5) (v := pt p5 1) rfl (by kernel_rfl) (fun _ _ _ h => h) rfl rfl rfl (fun _ => R_pure (by kernel_rfl)) ?_
      refine A_all [4, 6] (by kernel_rfl) ⟨⟨_, rfl, rfl, ?_⟩, ⟨_, rfl, rfl, ?_⟩, trivial⟩
      · obtain ⟨y5, hy5, hr⟩ := bnd hr
        have hst := hst.dup
        refine O_call (vs := #[.pointer a2]) Try.call58 (by kernel_rfl) (platter_file_weight_2_ok k ((mget x5 x6).getD none) a2 y5 hst hy5 fun w hst => ?_)
        refine CK_ret rfl ?_
        refine A_all [6] (by kernel_rfl) ⟨⟨_, rfl, rfl, ?_⟩, trivial⟩
        refine O_run (v := S x7.s) (w' := w) (R_load (hst.pull 3) rfl rfl) rfl rfl ?_
        refine A_take (i := 7) (v := I (x7.s.length : Int)) rfl (by kernel_rfl) (fun _ _ _ h => h) rfl rfl rfl (fun _ => R_pure (by kernel_rfl)) ?_
        refine A_take (i := 8) (v := I (IntKind.i64.wrap (y5 - (x7.s.length : Int)))) rfl (by kernel_rfl) (fun _ _ _ h => h) rfl rfl rfl (fun _ => R_pure (by kernel_rfl)) ?_
        refine A_all [9] (by kernel_rfl) ⟨⟨_, rfl, rfl, ?_⟩, trivial⟩
        obtain ⟨y6, hy6, hr⟩ := bnd hr
        refine O_call (vs := #[pt p1 0, I (IntKind.i64.wrap (y5 - (x7.s.length : Int)))]) Try.call60 (by kernel_rfl) (meter_Meter_Give_ok k x1 x2 x3 x4 x5 (IntKind.i64.wrap (y5 - (x7.s.length : Int))) p1 p2 y6 ((hst.pull 2).pull 4) hy6 fun w hst => ?_)
        refine CK_ret rfl ?_
        refine wpG_done (by kernel_rfl) ?_ _
        refine C_keepQ [(0, pt p1 0), (1, S x6), (5, pt p5 0)] rfl fun b => ?_
        refine th_n ?_
        obtain rfl := Option.some.inj hr
        have hst := (((((hst.pull 4).pull 4).pull 4).pull 4).pull 4)
        exact (kpX [(0, pt p1 0), (1, S x6), (5, pt p5 0)] rfl hst)
      · refine O_run (v := S x7.s) (w' := w) (R_load (hst.pull 2) rfl rfl) rfl rfl ?_
        refine A_take (i := 7) (v := I (x7.s.length : Int)) rfl (by kernel_rfl) (fun _ _ _ h => h) rfl rfl rfl (fun _ => R_pure (by kernel_rfl)) ?_
        refine A_all [4] (by kernel_rfl) ⟨⟨_, rfl, rfl, ?_⟩, trivial⟩
        obtain ⟨y5, hy5, hr⟩ := bnd hr
        have hst := hst.dup
        refine O_call (vs := #[.pointer a2]) Try.call58 (by kernel_rfl) (platter_file_weight_2_ok k ((mget x5 x6).getD none) a2 y5 hst hy5 fun w hst => ?_)
        refine CK_ret rfl ?_
        refine A_take (i := 8) (v := I (IntKind.i64.wrap (y5 - (x7.s.length : Int)))) rfl (by kernel_rfl) (fun _ _ _ h => h) rfl rfl rfl (fun _ => R_pure (by kernel_rfl)) ?_
        refine A_all [9] (by kernel_rfl) ⟨⟨_, rfl, rfl, ?_⟩, trivial⟩
        obtain ⟨y6, hy6, hr⟩ := bnd hr
        refine O_call (vs := #[pt p1 0, I (IntKind.i64.wrap (y5 - (x7.s.length : Int)))]) Try.call60 (by kernel_rfl) (meter_Meter_Give_ok k x1 x2 x3 x4 x5 (IntKind.i64.wrap (y5 - (x7.s.length : Int))) p1 p2 y6 ((hst.pull 2).pull 4) hy6 fun w hst => ?_)
        refine CK_ret rfl ?_
        refine wpG_done (by kernel_rfl) ?_ _
        refine C_keepQ [(0, pt p1 0), (1, S x6), (5, pt p5 0)] rfl fun b => ?_
        refine th_n ?_
        obtain rfl := Option.some.inj hr
        have hst := (((((hst.pull 4).pull 4).pull 4).pull 4).pull 4)
        exact (kpX [(0, pt p1 0), (1, S x6), (5, pt p5 0)] rfl hst)
def platter_Disk_Sync_l1 (k : Nat) (x1 : Int) (x3 : Bool) (y8 : (Int × Int)) (y9 : ((List (List UInt8)))) : Nat → Int → (List ((List UInt8) × (Option T_platter_file))) → Int → Option ((List ((List UInt8) × (Option T_platter_file))) × Int)
  | 0, _, _, _ => none
  | j + 1, v10, v11, v12 => (if decide (v10 < (y9.length : Int)) = true then (Option.bind (gt y9 v10) fun x9 => (Option.bind (platter_Disk_get k x1 v12 x3 y8.2 v11 x9) fun y13 => (Option.bind y13 fun x10 => (Option.bind (platter_Disk_settle k x1 v12 x3 y8.2 v11 x9 x10.now) fun y14 => (platter_Disk_Sync_l1 k x1 x3 y8 y9 j (IntKind.i64.wrap (v10 + 1)) y14.2 y14.1))))) else some (v11, v12))
def platter_Disk_Sync (k : Nat) (x1 : Int) (x2 : Int) (x3 : Bool) (x4 : Int) (x5 : (List ((List UInt8) × (Option T_platter_file)))) (x6 : (List (List UInt8))) : Option (Int × Int × Int × (List ((List UInt8) × (Option T_platter_file)))) := (Option.bind (meter_Luck_Try k x1 x2 x3 x4 x5) fun y8 => (if (y8.1 != 0) = true then some (y8.1, x2, y8.2, x5) else (Option.bind (if ((x6.length : Int) == 0) = true then (Option.bind (maps_Keys k x5) fun _ => (Option.bind (slices_Sorted k x5) fun y11 => some (y11))) else some (x6)) fun y9 => (Option.bind (platter_Disk_Sync_l1 k x1 x3 y8 y9 k (0 : Int) x5 x2) fun y12 => some ((0 : Int), y12.2, y8.2, y12.1)))))
set_option maxRecDepth 100000 in
set_option maxHeartbeats 4000000 in
theorem platter_Disk_Sync_ok {G w : World} {F : List HP} {R : Ending → World → Prop} (k : Nat) (x1 : Int) (x2 : Int) (x3 : Bool) (x4 : Int) (x5 : (List ((List UInt8) × (Option T_platter_file)))) (x6 : (List (List UInt8))) (p1 : Nat) (p2 : Nat) (a1 : Option Addr) (c1 : Nat) (r : (Int × Int × Int × (List ((List UInt8) × (Option T_platter_file))))) (hst : St G w (blk p1 (cl [I x1, I x2, .bool x3, I x4, .map (some p2)] 42) :: mpr S (rPt r_T_platter_file) p2 x5 :: dsl rS a1 c1 x6 :: F)) (hr : platter_Disk_Sync k x1 x2 x3 x4 x5 x6 = some r)
    (hR : ∀ w', St G w' (blk p1 (cl [I x1, I r.2.1, .bool x3, I r.2.2.1, .map (some p2)] 42) :: mpr S (rPt r_T_platter_file) p2 r.2.2.2 :: dsl rS a1 c1 x6 :: F) → R (.returned (I r.1)) w') :
    Calls Try.prog 17 #[pt p1 0, .slice a1 x6.length c1] w R := by
  unfold platter_Disk_Sync at hr
  refine enter Try.func17 rfl [(0, pt p1 0), (1, .slice a1 x6.length c1)] rfl rfl fun b => ?_
  refine wp_seq ?_
  refine wp_reg ?_
  refine L_pure 1 [(0, pt p1 0), (1, .slice a1 x6.length c1)] (by kernel_rfl) fun b => ?_
  refine wpL_nil ?_
  refine th_n ?_
  refine wp_seq ?_
  refine wp_seq ?_
  refine wp_reg ?_
  refine L_pure 3 [(0, pt p1 0), (1, .slice a1 x6.length c1), (11, pt p1 2)] (by kernel_rfl) fun b => ?_
  obtain ⟨y8, hy8, hr⟩ := bnd hr
  refine L_op rfl (O_call (vs := #[pt p1 2]) Try.call39 (by kernel_rfl) (meter_Luck_Try_ok k x1 x2 x3 x4 x5 p1 p2 y8 ((hst.pull 1).pull 1) hy8 fun w hst => ?_))
  refine CK_ret rfl ?_
  refine L_pure 1 [(0, pt p1 0), (1, .slice a1 x6.length c1), (5, I y8.1)] (by kernel_rfl) fun b => ?_
  refine wpL_nil ?_
  refine th_n ?_
  refine wp_seq ?_
  refine wp_reg ?_
  refine L_pure 2 [(0, pt p1 0), (1, .slice a1 x6.length c1), (5, I y8.1), (14, .bool (y8.1 != 0))] (by kernel_rfl) fun b => ?_
  refine wpL_nil ?_
  refine th_n ?_
  refine wp_cond_mkF (t := (y8.1 != 0)) rfl (fun h => ?_) (fun h => ?_)
  · have hr := (if_pos h).symm.trans hr
    refine wp_seq ?_
    refine wp_reg ?_
    refine L_pure 2 [(4, I y8.1)] (by kernel_rfl) fun b => ?_
    refine wpL_nil ?_
    refine th_n ?_
    refine wp_ret ?_
    refine th_r ?_
    refine ret1 rfl rfl ?_
    obtain rfl := Option.some.inj hr
    have hst := (((hst.pull 2).pull 2).pull 2)
    exact hR _ hst
  · have hr := (if_neg (by rw [h]; exact Bool.false_ne_true)).symm.trans hr
    refine wp_skip ?_
    refine th_n ?_
    obtain ⟨y9, hy9, hk3⟩ := bnd hr
    clear hr
    refine wp_seq_cut (fun a w => ∃ (a5 : Option Addr) (c4 : Nat)(b : Nat → Value), a = mkF 42 b [(0, pt p1 0), (1, .slice a5 y9.length c4)] ∧ St G w (dsl rS a5 c4 y9 :: mpr S (rPt r_T_platter_file) p2 x5 :: blk p1 (cl [I x1, I x2, .bool x3, I y8.2, .map (some p2)] 42) :: dsl rS a1 c1 x6 :: F)) ?_ ?_
    · rintro _ w ⟨a5, c4, b, rfl, hst⟩
      have hr := hk3
      refine wp_seq ?_
      refine wp_seq ?_
      refine wp_reg ?_
      refine L_pure 3 [(0, pt p1 0), (25, .slice a5 y9.length c4), (26, I (y9.length : Int)), (27, I 0)] (by kernel_rfl) fun b => ?_
      refine wpL_nil ?_
      refine th_n ?_
      obtain ⟨y12, hy12, hk4⟩ := bnd hr
      clear hr
      refine Go.Hx.wp_cut (fun a w => ∃ (b : Nat → Value), a = mkF 42 b [] ∧ St G w (dsl rS a5 c4 y9 :: mpr S (rPt r_T_platter_file) p2 y12.1 :: blk p1 (cl [I x1, I y12.2, .bool x3, I y8.2, .map (some p2)] 42) :: dsl rS a1 c1 x6 :: F)) ?_ ?_
      · rintro _ w ⟨b, rfl, hst⟩
        have hr := hk4
        refine th_n ?_
        refine wp_seq ?_
        refine wp_reg ?_
        refine L_pure 1 [(4, I 0)] (by kernel_rfl) fun b => ?_
        refine wpL_nil ?_
        refine th_n ?_
        refine wp_ret ?_
        refine ret1 rfl rfl ?_
        obtain rfl := Option.some.inj hr
        have hst := ((((hst.pull 3).pull 2).pull 3).cut 3 1)
        exact hR _ hst
      · have hst := ((((hst.pull 3).pull 3).pull 3).pull 3)
        refine wp_block ?_
        refine wp_loop_fuel (fun j a w => ∃ (v10 : Int) (v11 : (List ((List UInt8) × (Option T_platter_file)))) (v12 : Int) (b : Nat → Value), a = mkF 42 b [(0, pt p1 0), (25, .slice a5 y9.length c4), (26, I (y9.length : Int)), (27, I v10)] ∧ St G w (dsl rS a5 c4 y9 :: mpr S (rPt r_T_platter_file) p2 v11 :: blk p1 (cl [I x1, I v12, .bool x3, I y8.2, .map (some p2)] 42) :: dsl rS a1 c1 x6 :: F) ∧ platter_Disk_Sync_l1 k x1 x3 y8 y9 j v10 v11 v12 = some y12) (k := k) ⟨(0 : Int), x5, x2, (kpX [(0, pt p1 0), (25, .slice a5 y9.length c4), (26, I (y9.length : Int)), (27, I 0)] rfl ⟨hst, hy12⟩)⟩ ?_ ?_
        · rintro _ _ ⟨_, _, _, _, _, _, h⟩
          rw [platter_Disk_Sync_l1] at h
          cases h
        · rintro j _ w ⟨v10, v11, v12, b, rfl, hst, hr⟩
          rw [platter_Disk_Sync_l1] at hr
          refine wp_seq ?_
          refine wp_reg ?_
          refine L_pure 1 [(0, pt p1 0), (25, .slice a5 y9.length c4), (26, I (y9.length : Int)), (27, I v10), (28, .bool (decide (v10 < (y9.length : Int))))] (by kernel_rfl) fun b => ?_
          refine wpL_nil ?_
          refine th_n ?_
          refine wp_seq ?_
          refine wp_cond_mkF (t := decide (v10 < (y9.length : Int))) rfl (fun h => ?_) (fun h => ?_)
          · have hr := (if_pos h).symm.trans hr
            refine wp_skip ?_
            refine th_n ?_
            refine wp_seq ?_
            refine wp_block ?_
            refine wp_seq ?_
            refine wp_reg ?_
            obtain ⟨x9, hx3, hr⟩ := bnd hr
            refine L_op rfl (O_run (v := pt (ab a5) (ao a5 + v10.toNat * 1)) (w' := w) (R_ia L34 rfl rfl (dsl_addr hst hx3) (gt_some hx3).1 (gt_some hx3).2.1) rfl rfl ?_)
            obtain ⟨q3, hc3, hst⟩ := dsl_cells hst hx3
            have hst := hst.drop
            refine L_op rfl (O_run (v := S x9) (w' := w) (R_loadAt (off := ao a5 + v10.toNat * 1) (j := 0) hc3 rfl rfl) rfl rfl ?_)
            refine L_pure 1 [(0, pt p1 0), (7, S x9), (25, .slice a5 y9.length c4), (26, I (y9.length : Int)), (27, I v10)] (by kernel_rfl) fun b => ?_
            refine wpL_nil ?_
            refine th_n ?_
            refine wp_seq ?_
            refine wp_reg ?_
            refine L_pure 2 [(0, pt p1 0), (7, S x9), (25, .slice a5 y9.length c4), (26, I (y9.length : Int)), (27, I v10), (31, pt p1 0), (32, S x9)] (by kernel_rfl) fun b => ?_
            obtain ⟨y13, hy13, hr⟩ := bnd hr
            refine L_op rfl (O_call (vs := #[pt p1 0, S x9]) Try.call43 (by kernel_rfl) (platter_Disk_get_ok k x1 v12 x3 y8.2 v11 x9 p1 p2 y13 ((hst.pull 1).pull 2) hy13 fun a7 w hst => ?_))
            refine CK_ret rfl ?_
            refine L_pure 1 [(0, pt p1 0), (7, S x9), (8, .pointer a7), (25, .slice a5 y9.length c4), (26, I (y9.length : Int)), (27, I v10)] (by kernel_rfl) fun b => ?_
            refine wpL_nil ?_
            refine th_n ?_
            refine wp_reg ?_
            refine L_pure 3 [(0, pt p1 0), (25, .slice a5 y9.length c4), (26, I (y9.length : Int)), (27, I v10), (34, pt p1 0), (35, S x9), (36, .pointer a7)] (by kernel_rfl) fun b => ?_
            obtain ⟨x10, hx4, hr⟩ := bnd hr
            have hst := dpt_pick hx4 hst
            refine L_op rfl (O_run (v := pt (ab a7) (ao a7 + (0 : Int).toNat * 4)) (w' := w) (R_nilc hst rfl) rfl rfl ?_)
            refine L_pure 1 [(0, pt p1 0), (25, .slice a5 y9.length c4), (26, I (y9.length : Int)), (27, I v10), (34, pt p1 0), (35, S x9), (38, pt (ab a7) (ao a7 + (0 : Int).toNat * 4))] (by kernel_rfl) fun b => ?_
            obtain ⟨q4, hc4, hst⟩ := dsl_cells hst (show gt [x10] 0 = some x10 from rfl)
            have hst := hst.drop
            refine L_op rfl (O_run (v := .agg #[.bool x10.now.there, S x10.now.s]) (w' := w) (R_loadAt (off := ao a7 + (0 : Int).toNat * 4) (j := 0) hc4 rfl rfl) rfl rfl ?_)
            obtain ⟨y14, hy14, hr⟩ := bnd hr
            refine L_op rfl (O_call (vs := #[pt p1 0, S x9, .agg #[.bool x10.now.there, S x10.now.s]]) Try.call44 (by kernel_rfl) (platter_Disk_settle_ok k x1 v12 x3 y8.2 v11 x9 x10.now p1 p2 y14 ((hst.pull 3).pull 3) hy14 fun w hst => ?_))
            refine CK_ret rfl ?_
            refine wpL_nil ?_
            refine ib_n (th_n ?_)
            refine wp_reg ?_
            refine L_pure 2 [(0, pt p1 0), (25, .slice a5 y9.length c4), (26, I (y9.length : Int)), (27, I (IntKind.i64.wrap (v10 + 1)))] (by kernel_rfl) fun b => ?_
            refine wpL_nil ?_
            refine th_n ?_
            have hst := (((((hst.pull 5).pull 1).pull 2).pull 5).cut 4 2)
            exact ⟨(IntKind.i64.wrap (v10 + 1)), y14.2, y14.1, (kpX [(0, pt p1 0), (25, .slice a5 y9.length c4), (26, I (y9.length : Int)), (27, I (IntKind.i64.wrap (v10 + 1)))] rfl ⟨hst, hr⟩)⟩
          · have hr := (if_neg (by rw [h]; exact Bool.false_ne_true)).symm.trans hr
            refine wp_exit ?_
            refine th_x (th_x (ib_x (th_n ?_)))
            obtain rfl := Option.some.inj hr
            have hst := ((((hst.pull 3).pull 3).pull 3).pull 3)
            exact (kpX [] rfl hst)
    · have hr := hy9
      refine wp_seq ?_
      refine wp_reg ?_
      refine L_pure 3 [(0, pt p1 0), (1, .slice a1 x6.length c1), (18, .bool ((x6.length : Int) == 0))] (by kernel_rfl) fun b => ?_
      refine wpL_nil ?_
      refine th_n ?_
      refine wp_cond_mkF (t := ((x6.length : Int) == 0)) rfl (fun h => ?_) (fun h => ?_)
      · have hr := (if_pos h).symm.trans hr
        refine wp_reg ?_
        refine L_pure 3 [(0, pt p1 0), (21, pt p1 4)] (by kernel_rfl) fun b => ?_
        refine L_op rfl (O_run (v := .map (some p2)) (w' := w) (R_load hst rfl rfl) rfl rfl ?_)
        obtain ⟨y10, hy10, hr⟩ := bnd hr
        refine L_op rfl (O_call (vs := #[.map (some p2)]) Try.call42 (by kernel_rfl) (maps_Keys_ok k x5 p2 y10 (hst.pull 1) hy10 fun p4 w hst => ?_))
        refine CK_ret rfl ?_
        obtain ⟨y11, hy11, hr⟩ := bnd hr
        refine L_op rfl (O_call (vs := #[.func (.func 63) #[] #[pt p4 0]]) Try.call41 (by kernel_rfl) (slices_Sorted_ok k x5 p4 p2 y11 ((hst.pull 1).pull 1) hy11 fun a6 c5 w hst => ?_))
        refine CK_ret rfl ?_
        refine L_pure 1 [(0, pt p1 0), (1, .slice a6 y11.length c5)] (by kernel_rfl) fun b => ?_
        refine wpL_nil ?_
        refine th_n ?_
        obtain rfl := Option.some.inj hr
        have hst := osl_freeze hst
        have hst := (((((hst.pull 4).pull 4).pull 4).pull 3).cut 4 1)
        exact ⟨a6, c5, (kpX [(0, pt p1 0), (1, .slice a6 y11.length c5)] rfl hst)⟩
      · have hr := (if_neg (by rw [h]; exact Bool.false_ne_true)).symm.trans hr
        refine wp_skip ?_
        refine th_n ?_
        obtain rfl := Option.some.inj hr
        have hst := (hst.pull 2).dup
        have hst := (((hst.pull 2).pull 3).pull 3)
        exact ⟨a1, c1, (kpX [(0, pt p1 0), (1, .slice a1 x6.length c1)] rfl hst)⟩
def meter_Pick (_k : Nat) (x1 : (List Int)) (x2 : Int) (x3 : Int) : Option (Int) := (Option.bind (if decide (x2 < 0) = true then some (true) else (if decide (x2 ≥ (x1.length : Int)) = true then some (true) else some (decide (x3 < 1)))) fun y3 => (if y3 = true then some ((0 : Int)) else (Option.bind (gt x1 x2) fun x5 => (if x3 ≠ 0 then (Option.bind (if decide ((x5.tmod x3) < 0) = true then some ((IntKind.i64.wrap ((x5.tmod x3) + x3))) else some ((x5.tmod x3))) fun y4 => some (y4)) else none))))
set_option maxRecDepth 100000 in
set_option maxHeartbeats 4000000 in
theorem meter_Pick_ok {G w : World} {F : List HP} {R : Ending → World → Prop} (k : Nat) (x1 : (List Int)) (x2 : Int) (x3 : Int) (a1 : Option Addr) (c1 : Nat) (r : (Int)) (hst : St G w (osl (rI .i64) 3 a1 c1 x1 :: F)) (hr : meter_Pick k x1 x2 x3 = some r)
    (hR : ∀ w', St G w' (osl (rI .i64) 3 a1 c1 x1 :: F) → R (.returned (I r)) w') :
    Calls Try.prog 64 #[.slice a1 x1.length c1, I x2, I x3] w R := by
  unfold meter_Pick at hr
  refine enter Try.func64 rfl [(0, .slice a1 x1.length c1), (1, I x2), (2, I x3)] rfl rfl fun b => ?_
  refine wp_seq ?_
  refine wp_reg ?_
  refine L_pure 1 [(0, .slice a1 x1.length c1), (1, I x2), (2, I x3)] (by kernel_rfl) fun b => ?_
  refine wpL_nil ?_
  refine th_n ?_
  refine wp_seq ?_
  obtain ⟨y3, hy3, hk3⟩ := bnd hr
  clear hr
  refine wp_seq_cut (fun a w => ∃ (b : Nat → Value), a = mkF 32 b [(0, .slice a1 x1.length c1), (1, I x2), (2, I x3), (19, .bool y3)] ∧ St G w (osl (rI .i64) 3 a1 c1 x1 :: F)) ?_ ?_
  · rintro _ w ⟨b, rfl, hst⟩
    have hr := hk3
    refine wp_cond_mkF (t := y3) rfl (fun h => ?_) (fun h => ?_)
    · have hr := (if_pos h).symm.trans hr
      refine wp_seq ?_
      refine wp_reg ?_
      refine L_pure 1 [(6, I 0)] (by kernel_rfl) fun b => ?_
      refine wpL_nil ?_
      refine th_n ?_
      refine wp_ret ?_
      refine th_r ?_
      refine ret1 rfl rfl ?_
      obtain rfl := Option.some.inj hr
      exact hR _ hst
    · have hr := (if_neg (by rw [h]; exact Bool.false_ne_true)).symm.trans hr
      refine wp_skip ?_
      refine th_n ?_
      refine wp_seq ?_
      refine wp_reg ?_
      refine L_pure 2 [(2, I x3), (20, .slice a1 x1.length c1), (21, I x2)] (by kernel_rfl) fun b => ?_
      obtain ⟨x5, hx2, hr⟩ := bnd hr
      refine L_op rfl (O_run (v := pt (ab a1) (ao a1 + x2.toNat * 1)) (w' := w) (R_ia L30 rfl rfl (osl_addr hst hx2) (gt_some hx2).1 (gt_some hx2).2.1) rfl rfl ?_)
      obtain ⟨q2, hc2, hst⟩ := osl_cells hst hx2
      have hst := hst.drop
      refine L_op rfl (O_run (v := I x5) (w' := w) (R_loadAt (off := ao a1 + x2.toNat * 1) (j := 0) hc2 rfl rfl) rfl rfl ?_)
      refine L_pure 1 [(2, I x3), (23, I x5), (24, I x3)] (by kernel_rfl) fun b => ?_
      obtain ⟨hy2, hr⟩ := chk hr
      refine L_op rfl (O_run (v := I (x5.tmod x3)) (w' := w) (R_rem rfl rfl hy2) rfl rfl ?_)
      refine L_pure 1 [(2, I x3), (7, I (x5.tmod x3))] (by kernel_rfl) fun b => ?_
      refine wpL_nil ?_
      refine th_n ?_
      obtain ⟨y4, hy4, hk4⟩ := bnd hr
      clear hr
      refine wp_seq_cut (fun a w => ∃ (b : Nat → Value), a = mkF 32 b [(7, I y4)] ∧ St G w (osl (rI .i64) 3 a1 c1 x1 :: F)) ?_ ?_
      · rintro _ w ⟨b, rfl, hst⟩
        have hr := hk4
        refine wp_seq ?_
        refine wp_reg ?_
        refine L_pure 2 [(6, I y4)] (by kernel_rfl) fun b => ?_
        refine wpL_nil ?_
        refine th_n ?_
        refine wp_ret ?_
        refine ret1 rfl rfl ?_
        obtain rfl := Option.some.inj hr
        exact hR _ hst
      · have hr := hy4
        refine wp_seq ?_
        refine wp_reg ?_
        refine L_pure 2 [(2, I x3), (7, I (x5.tmod x3)), (27, .bool (decide ((x5.tmod x3) < 0)))] (by kernel_rfl) fun b => ?_
        refine wpL_nil ?_
        refine th_n ?_
        refine wp_cond_mkF (t := decide ((x5.tmod x3) < 0)) rfl (fun h => ?_) (fun h => ?_)
        · have hr := (if_pos h).symm.trans hr
          refine wp_reg ?_
          refine L_pure 4 [(7, I (IntKind.i64.wrap ((x5.tmod x3) + x3)))] (by kernel_rfl) fun b => ?_
          refine wpL_nil ?_
          refine th_n ?_
          obtain rfl := Option.some.inj hr
          exact (kpX [(7, I (IntKind.i64.wrap ((x5.tmod x3) + x3)))] rfl hst)
        · have hr := (if_neg (by rw [h]; exact Bool.false_ne_true)).symm.trans hr
          refine wp_skip ?_
          refine th_n ?_
          obtain rfl := Option.some.inj hr
          exact (kpX [(7, I (x5.tmod x3))] rfl hst)
  · have hr := hy3
    refine wp_reg ?_
    refine L_pure 3 [(0, .slice a1 x1.length c1), (1, I x2), (2, I x3), (10, .bool (decide (x2 < 0)))] (by kernel_rfl) fun b => ?_
    by_cases h : (decide (x2 < 0)) = true
    · have hr := (if_pos h).symm.trans hr
      refine L_keep ((10, .bool (decide (x2 < 0))) :: [(0, .slice a1 x1.length c1), (1, I x2), (2, I x3)]) rfl fun b => ?_
      refine L_bool h ?_
      refine L_pure 9 [(0, .slice a1 x1.length c1), (1, I x2), (2, I x3), (19, .bool true)] (by kernel_rfl) fun b => ?_
      refine wpL_nil ?_
      refine th_n ?_
      obtain rfl := Option.some.inj hr
      exact (kpX [(0, .slice a1 x1.length c1), (1, I x2), (2, I x3), (19, .bool true)] rfl hst)
    · have hr := (if_neg h).symm.trans hr
      refine L_keep ((10, .bool (decide (x2 < 0))) :: [(0, .slice a1 x1.length c1), (1, I x2), (2, I x3)]) rfl fun b => ?_
      refine L_bool (eq_false_of_ne_true h) ?_
      refine L_pure 6 [(0, .slice a1 x1.length c1), (1, I x2), (2, I x3), (16, .bool (decide (x2 ≥ (x1.length : Int))))] (by kernel_rfl) fun b => ?_
      by_cases h : (decide (x2 ≥ (x1.length : Int))) = true
      · have hr := (if_pos h).symm.trans hr
        refine L_keep ((16, .bool (decide (x2 ≥ (x1.length : Int)))) :: [(0, .slice a1 x1.length c1), (1, I x2), (2, I x3)]) rfl fun b => ?_
        refine L_bool h ?_
        refine L_pure 3 [(0, .slice a1 x1.length c1), (1, I x2), (2, I x3), (19, .bool true)] (by kernel_rfl) fun b => ?_
        refine wpL_nil ?_
        refine th_n ?_
        obtain rfl := Option.some.inj hr
        exact (kpX [(0, .slice a1 x1.length c1), (1, I x2), (2, I x3), (19, .bool true)] rfl hst)
      · have hr := (if_neg h).symm.trans hr
        refine L_keep ((16, .bool (decide (x2 ≥ (x1.length : Int)))) :: [(0, .slice a1 x1.length c1), (1, I x2), (2, I x3)]) rfl fun b => ?_
        refine L_bool (eq_false_of_ne_true h) ?_
        refine L_pure 3 [(0, .slice a1 x1.length c1), (1, I x2), (2, I x3), (19, .bool (decide (x3 < 1)))] (by kernel_rfl) fun b => ?_
        refine wpL_nil ?_
        refine th_n ?_
        obtain rfl := Option.some.inj hr
        exact (kpX [(0, .slice a1 x1.length c1), (1, I x2), (2, I x3), (19, .bool (decide (x3 < 1)))] rfl hst)
def platter_file_left (k : Nat) (x1 : (Option T_platter_file)) (x2 : Int) : Option (T_platter_text) := (Option.bind x1 fun x6 => (if (decide (x6.now = x6.safe)) = true then some (x6.safe) else (Option.bind (if x6.now.there = true then (if decide ((x6.now.s.length : Int) > (x6.safe.s.length : Int)) = true then (Option.bind (sl x6.now.s 0 (x6.safe.s.length : Int)) fun x7 => some ((sEq x7 x6.safe.s))) else some (false)) else some (false)) fun y4 => (if y4 = true then (Option.bind (meter_Pick k ([x2]) 0 (IntKind.i64.wrap ((IntKind.i64.wrap ((x6.now.s.length : Int) - (x6.safe.s.length : Int))) + 1))) fun y5 => (if (y5 == 0) = true then some (x6.safe) else (Option.bind (sl x6.now.s 0 (IntKind.i64.wrap ((x6.safe.s.length : Int) + y5))) fun x8 => some ((T_platter_text.mk true x8))))) else (Option.bind (meter_Pick k ([x2]) 0 2) fun y6 => (if (y6 == 0) = true then some (x6.safe) else some (x6.now)))))))
set_option maxRecDepth 100000 in
set_option maxHeartbeats 4000000 in
theorem platter_file_left_ok {G w : World} {F : List HP} {R : Ending → World → Prop} (k : Nat) (x1 : (Option T_platter_file)) (x2 : Int) (a1 : Option Addr) (r : (T_platter_text)) (hst : St G w (dpt r_T_platter_file a1 x1 :: F)) (hr : platter_file_left k x1 x2 = some r)
    (hR : ∀ w', St G w' (dpt r_T_platter_file a1 x1 :: F) → R (.returned (.agg #[.bool r.there, S r.s])) w') :
    Calls Try.prog 45 #[.pointer a1, I x2] w R := by
  unfold platter_file_left at hr
  refine enter Try.func45 rfl [(0, .pointer a1), (1, I x2)] rfl rfl fun b => ?_
  refine wp_seq ?_
  refine wp_reg ?_
  refine L_op rfl (O_alloc (i := Try.t86) (z := .agg #[.bool false, S ([])]) [.bool false, S ([])] hst rfl rfl rfl rfl fun p4 w hst => ?_)
  refine wpL_nil ?_
  refine th_n ?_
  refine wp_seq ?_
  refine wp_seq ?_
  refine wp_regG (SN { w with drawn := w.drawn + 1 }) rfl ?_
  have hst := hst.draw (n := w.drawn + 1)
  generalize { w with drawn := w.drawn + 1 } = w at hst ⊢
  refine C_take (i := 0) (v := .pointer a1) rfl (by kernel_rfl) (fun _ _ _ h => h) rfl rfl rfl (R_pure (by kernel_rfl)) ?_
  obtain ⟨x6, hx4, hr⟩ := bnd hr
  have hst := dpt_pick hx4 (hst.pull 1)
  refine C_take (i := 1) (v := pt (ab a1) (ao a1 + (0 : Int).toNat * 4)) rfl (by kernel_rfl) (fun _ _ _ h => h) rfl rfl rfl (R_nilc hst rfl) ?_
  refine C_take (i := 2) (v := pt (ab a1) (ao a1 + (0 : Int).toNat * 4)) rfl (by kernel_rfl) (fun _ _ _ h => h) rfl rfl rfl (R_pure (by kernel_rfl)) ?_
  obtain ⟨q14, hc14, hst⟩ := dsl_cells hst (show gt [x6] 0 = some x6 from rfl)
  have hst := hst.drop
  refine C_take (i := 3) (v := .agg #[.bool x6.now.there, S x6.now.s]) rfl (by kernel_rfl) (fun _ _ _ h => h) rfl rfl rfl (R_loadAt (off := ao a1 + (0 : Int).toNat * 4) (j := 0) hc14 rfl rfl) ?_
  refine C_take (i := 4) (v := .pointer a1) rfl (by kernel_rfl) (fun _ _ _ h => h) rfl rfl rfl (R_pure (by kernel_rfl)) ?_
  refine C_take (i := 5) (v := pt (ab a1) (ao a1 + (0 : Int).toNat * 4)) rfl (by kernel_rfl) (fun _ _ _ h => h) rfl rfl rfl (R_nilc hst rfl) ?_
  refine C_take (i := 6) (v := pt (ab a1) (ao a1 + (0 : Int).toNat * 4 + 2)) rfl (by kernel_rfl) (fun _ _ _ h => h) rfl rfl rfl (R_pure (by kernel_rfl)) ?_
  obtain ⟨q15, hc15, hst⟩ := dsl_cells hst (show gt [x6] 0 = some x6 from rfl)
  have hst := hst.drop
  refine C_take (i := 7) (v := .agg #[.bool x6.safe.there, S x6.safe.s]) rfl (by kernel_rfl) (fun _ _ _ h => h) rfl rfl rfl (R_loadAt (off := ao a1 + (0 : Int).toNat * 4) (j := 2) hc15 rfl rfl) ?_
  refine C_take (i := 8) (v := .bool (decide (x6.now = x6.safe))) rfl (by kernel_rfl) (fun _ _ _ h => h) rfl rfl rfl (R_seq rfl rfl G86 (EQ86 x6.now x6.safe _)) ?_
  refine wpG_done (by kernel_rfl) ?_ _
  refine C_keepQ [(0, .pointer a1), (1, I x2), (4, pt p4 0), (15, .bool (decide (x6.now = x6.safe)))] rfl fun b => ?_
  refine th_n ?_
  refine wp_cond_mkF (t := (decide (x6.now = x6.safe))) rfl (fun h => ?_) (fun h => ?_)
  · have hr := (if_pos h).symm.trans hr
    refine wp_seq ?_
    refine wp_reg ?_
    refine L_pure 1 [(4, pt p4 0), (16, .pointer a1)] (by kernel_rfl) fun b => ?_
    refine L_op rfl (O_run (v := pt (ab a1) (ao a1 + (0 : Int).toNat * 4)) (w' := w) (R_nilc hst rfl) rfl rfl ?_)
    refine L_pure 1 [(4, pt p4 0), (18, pt (ab a1) (ao a1 + (0 : Int).toNat * 4 + 2))] (by kernel_rfl) fun b => ?_
    obtain ⟨q16, hc16, hst⟩ := dsl_cells hst (show gt [x6] 0 = some x6 from rfl)
    have hst := hst.drop
    refine L_op rfl (O_run (v := .agg #[.bool x6.safe.there, S x6.safe.s]) (w' := w) (R_loadAt (off := ao a1 + (0 : Int).toNat * 4) (j := 2) hc16 rfl rfl) rfl rfl ?_)
    refine L_op rfl (O_store [.bool x6.safe.there, S x6.safe.s] (hst.pull 2) rfl rfl (by kernel_rfl) fun w hst => ?_)
    refine wpL_nil ?_
    refine th_n ?_
    refine wp_ret ?_
    refine th_r ?_
    refine retC (v := .agg #[.bool x6.safe.there, S x6.safe.s]) (p := p4) (off := 0) (cs := [.bool x6.safe.there, S x6.safe.s]) (T' := 86) rfl rfl hst (by kernel_rfl) ?_
    obtain rfl := Option.some.inj hr
    have hst := ((hst.pull 2).cut 1 2)
    exact hR _ hst
  · have hr := (if_neg (by rw [h]; exact Bool.false_ne_true)).symm.trans hr
    refine wp_skip ?_
    refine th_n ?_
    refine wp_seq ?_
    refine wp_reg ?_
    refine L_pure 1 [(0, .pointer a1), (1, I x2), (4, pt p4 0), (20, .pointer a1)] (by kernel_rfl) fun b => ?_
    refine L_op rfl (O_run (v := pt (ab a1) (ao a1 + (0 : Int).toNat * 4)) (w' := w) (R_nilc hst rfl) rfl rfl ?_)
    refine L_pure 2 [(0, .pointer a1), (1, I x2), (4, pt p4 0), (23, pt (ab a1) (ao a1 + (0 : Int).toNat * 4 + 3))] (by kernel_rfl) fun b => ?_
    obtain ⟨q17, hc17, hst⟩ := dsl_cells hst (show gt [x6] 0 = some x6 from rfl)
    have hst := hst.drop
    refine L_op rfl (O_run (v := S x6.safe.s) (w' := w) (R_loadAt (off := ao a1 + (0 : Int).toNat * 4) (j := 3) hc17 rfl rfl) rfl rfl ?_)
    refine L_pure 2 [(0, .pointer a1), (1, I x2), (4, pt p4 0), (5, I (x6.safe.s.length : Int))] (by kernel_rfl) fun b => ?_
    refine wpL_nil ?_
    refine th_n ?_
    refine wp_seq ?_
    obtain ⟨y4, hy4, hk2⟩ := bnd hr
    clear hr
    refine wp_seq_cut (fun a w => ∃ (b : Nat → Value), a = mkF 96 b [(0, .pointer a1), (1, I x2), (4, pt p4 0), (5, I (x6.safe.s.length : Int)), (55, .bool y4)] ∧ St G w (dsl r_T_platter_file a1 1 ([x6]) :: dpt r_T_platter_file a1 x1 :: blk p4 (cl [.bool false, S ([])] 86) :: F)) ?_ ?_
    · rintro _ w ⟨b, rfl, hst⟩
      have hr := hk2
      refine wp_cond_mkF (t := y4) rfl (fun h => ?_) (fun h => ?_)
      · have hr := (if_pos h).symm.trans hr
        refine wp_seq ?_
        refine wp_reg ?_
        refine L_pure 1 [(0, .pointer a1), (4, pt p4 0), (5, I (x6.safe.s.length : Int)), (56, I x2)] (by kernel_rfl) fun b => ?_
        refine L_op rfl (O_bs (T := 3) [I x2] #[(0, I x2)] hst (by kernel_rfl) (by kernel_rfl) rfl fun p5 w hst => ?_)
        have hst := osl_of_blk0 (ecs := [[I x2]]) (rI .i64) [x2] rfl (fun m => ⟨⟨(), rfl, trivial⟩, trivial⟩) rfl hst
        refine L_pure 1 [(0, .pointer a1), (4, pt p4 0), (5, I (x6.safe.s.length : Int)), (57, .slice (some ⟨p5, 0, none⟩) ([x2]).length 1), (58, .pointer a1)] (by kernel_rfl) fun b => ?_
        refine L_op rfl (O_run (v := pt (ab a1) (ao a1 + (0 : Int).toNat * 4)) (w' := w) (R_nilc (hst.pull 1) rfl) rfl rfl ?_)
        refine L_pure 2 [(0, .pointer a1), (4, pt p4 0), (5, I (x6.safe.s.length : Int)), (57, .slice (some ⟨p5, 0, none⟩) ([x2]).length 1), (61, pt (ab a1) (ao a1 + (0 : Int).toNat * 4 + 1))] (by kernel_rfl) fun b => ?_
        obtain ⟨q22, hc22, hst⟩ := dsl_cells (hst.pull 1) (show gt [x6] 0 = some x6 from rfl)
        have hst := hst.drop
        refine L_op rfl (O_run (v := S x6.now.s) (w' := w) (R_loadAt (off := ao a1 + (0 : Int).toNat * 4) (j := 1) hc22 rfl rfl) rfl rfl ?_)
        refine L_pure 4 [(0, .pointer a1), (4, pt p4 0), (5, I (x6.safe.s.length : Int)), (57, .slice (some ⟨p5, 0, none⟩) ([x2]).length 1), (66, I (IntKind.i64.wrap ((IntKind.i64.wrap ((x6.now.s.length : Int) - (x6.safe.s.length : Int))) + 1)))] (by kernel_rfl) fun b => ?_
        obtain ⟨y5, hy5, hr⟩ := bnd hr
        refine L_op rfl (O_call (vs := #[.slice (some ⟨p5, 0, none⟩) ([x2]).length 1, I 0, I (IntKind.i64.wrap ((IntKind.i64.wrap ((x6.now.s.length : Int) - (x6.safe.s.length : Int))) + 1))]) Try.call64 (by kernel_rfl) (meter_Pick_ok k ([x2]) 0 (IntKind.i64.wrap ((IntKind.i64.wrap ((x6.now.s.length : Int) - (x6.safe.s.length : Int))) + 1)) (some ⟨p5, 0, none⟩) 1 y5 (hst.pull 1) hy5 fun w hst => ?_))
        refine CK_ret rfl ?_
        refine L_pure 1 [(0, .pointer a1), (4, pt p4 0), (5, I (x6.safe.s.length : Int)), (6, I y5)] (by kernel_rfl) fun b => ?_
        refine wpL_nil ?_
        refine th_n ?_
        refine wp_seq ?_
        refine wp_seq ?_
        refine wp_reg ?_
        refine L_pure 2 [(0, .pointer a1), (4, pt p4 0), (5, I (x6.safe.s.length : Int)), (6, I y5), (69, .bool (y5 == 0))] (by kernel_rfl) fun b => ?_
        refine wpL_nil ?_
        refine th_n ?_
        refine wp_cond_mkF (t := (y5 == 0)) rfl (fun h => ?_) (fun h => ?_)
        · have hr := (if_pos h).symm.trans hr
          refine wp_seq ?_
          refine wp_reg ?_
          refine L_pure 1 [(4, pt p4 0), (70, .pointer a1)] (by kernel_rfl) fun b => ?_
          refine L_op rfl (O_run (v := pt (ab a1) (ao a1 + (0 : Int).toNat * 4)) (w' := w) (R_nilc (hst.pull 1) rfl) rfl rfl ?_)
          refine L_pure 1 [(4, pt p4 0), (72, pt (ab a1) (ao a1 + (0 : Int).toNat * 4 + 2))] (by kernel_rfl) fun b => ?_
          obtain ⟨q23, hc23, hst⟩ := dsl_cells (hst.pull 1) (show gt [x6] 0 = some x6 from rfl)
          have hst := hst.drop
          refine L_op rfl (O_run (v := .agg #[.bool x6.safe.there, S x6.safe.s]) (w' := w) (R_loadAt (off := ao a1 + (0 : Int).toNat * 4) (j := 2) hc23 rfl rfl) rfl rfl ?_)
          refine L_op rfl (O_store [.bool x6.safe.there, S x6.safe.s] (hst.pull 3) rfl rfl (by kernel_rfl) fun w hst => ?_)
          refine wpL_nil ?_
          refine th_n ?_
          refine wp_ret ?_
          refine th_r (th_r ?_)
          refine retC (v := .agg #[.bool x6.safe.there, S x6.safe.s]) (p := p4) (off := 0) (cs := [.bool x6.safe.there, S x6.safe.s]) (T' := 86) rfl rfl hst (by kernel_rfl) ?_
          obtain rfl := Option.some.inj hr
          have hst := ((hst.pull 3).cut 1 3)
          exact hR _ hst
        · have hr := (if_neg (by rw [h]; exact Bool.false_ne_true)).symm.trans hr
          refine wp_skip ?_
          refine th_n ?_
          refine wp_seq ?_
          refine wp_reg ?_
          refine L_pure 1 [(4, pt p4 0), (5, I (x6.safe.s.length : Int)), (6, I y5), (74, .pointer a1)] (by kernel_rfl) fun b => ?_
          refine L_op rfl (O_run (v := pt (ab a1) (ao a1 + (0 : Int).toNat * 4)) (w' := w) (R_nilc (hst.pull 1) rfl) rfl rfl ?_)
          refine L_pure 2 [(4, pt p4 0), (5, I (x6.safe.s.length : Int)), (6, I y5), (77, pt (ab a1) (ao a1 + (0 : Int).toNat * 4 + 1))] (by kernel_rfl) fun b => ?_
          obtain ⟨q24, hc24, hst⟩ := dsl_cells (hst.pull 1) (show gt [x6] 0 = some x6 from rfl)
          have hst := hst.drop
          refine L_op rfl (O_run (v := S x6.now.s) (w' := w) (R_loadAt (off := ao a1 + (0 : Int).toNat * 4) (j := 1) hc24 rfl rfl) rfl rfl ?_)
          refine L_pure 3 [(4, pt p4 0), (78, S x6.now.s), (81, I (IntKind.i64.wrap ((x6.safe.s.length : Int) + y5)))] (by kernel_rfl) fun b => ?_
          obtain ⟨x8, hx6, hr⟩ := bnd hr
          refine L_op rfl (O_run (v := S x8) (w' := w) (R_slice_s Try.underlying9 rfl rfl rfl hx6) rfl rfl ?_)
          refine L_pure 1 [(4, pt p4 0), (83, .agg #[.bool true, S x8])] (by kernel_rfl) fun b => ?_
          refine L_op rfl (O_store [.bool true, S x8] (hst.pull 3) rfl rfl (by kernel_rfl) fun w hst => ?_)
          refine wpL_nil ?_
          refine th_n ?_
          refine wp_ret ?_
          refine th_r ?_
          refine retC (v := .agg #[.bool true, S x8]) (p := p4) (off := 0) (cs := [.bool true, S x8]) (T' := 86) rfl rfl hst (by kernel_rfl) ?_
          obtain rfl := Option.some.inj hr
          have hst := ((hst.pull 3).cut 1 3)
          exact hR _ hst
      · have hr := (if_neg (by rw [h]; exact Bool.false_ne_true)).symm.trans hr
        refine wp_skip ?_
        refine th_n ?_
        refine wp_seq ?_
        refine wp_seq ?_
        refine wp_reg ?_
        refine L_pure 1 [(0, .pointer a1), (4, pt p4 0), (84, I x2)] (by kernel_rfl) fun b => ?_
        refine L_op rfl (O_bs (T := 3) [I x2] #[(0, I x2)] hst (by kernel_rfl) (by kernel_rfl) rfl fun p6 w hst => ?_)
        have hst := osl_of_blk0 (ecs := [[I x2]]) (rI .i64) [x2] rfl (fun m => ⟨⟨(), rfl, trivial⟩, trivial⟩) rfl hst
        obtain ⟨y6, hy6, hr⟩ := bnd hr
        refine L_op rfl (O_call (vs := #[.slice (some ⟨p6, 0, none⟩) ([x2]).length 1, I 0, I 2]) Try.call64 (by kernel_rfl) (meter_Pick_ok k ([x2]) 0 2 (some ⟨p6, 0, none⟩) 1 y6 hst hy6 fun w hst => ?_))
        refine CK_ret rfl ?_
        refine L_pure 1 [(0, .pointer a1), (4, pt p4 0), (87, .bool (y6 == 0))] (by kernel_rfl) fun b => ?_
        refine wpL_nil ?_
        refine th_n ?_
        refine wp_cond_mkF (t := (y6 == 0)) rfl (fun h => ?_) (fun h => ?_)
        · have hr := (if_pos h).symm.trans hr
          refine wp_seq ?_
          refine wp_reg ?_
          refine L_pure 1 [(4, pt p4 0), (88, .pointer a1)] (by kernel_rfl) fun b => ?_
          refine L_op rfl (O_run (v := pt (ab a1) (ao a1 + (0 : Int).toNat * 4)) (w' := w) (R_nilc (hst.pull 1) rfl) rfl rfl ?_)
          refine L_pure 1 [(4, pt p4 0), (90, pt (ab a1) (ao a1 + (0 : Int).toNat * 4 + 2))] (by kernel_rfl) fun b => ?_
          obtain ⟨q25, hc25, hst⟩ := dsl_cells (hst.pull 1) (show gt [x6] 0 = some x6 from rfl)
          have hst := hst.drop
          refine L_op rfl (O_run (v := .agg #[.bool x6.safe.there, S x6.safe.s]) (w' := w) (R_loadAt (off := ao a1 + (0 : Int).toNat * 4) (j := 2) hc25 rfl rfl) rfl rfl ?_)
          refine L_op rfl (O_store [.bool x6.safe.there, S x6.safe.s] (hst.pull 3) rfl rfl (by kernel_rfl) fun w hst => ?_)
          refine wpL_nil ?_
          refine th_n ?_
          refine wp_ret ?_
          refine th_r ?_
          refine retC (v := .agg #[.bool x6.safe.there, S x6.safe.s]) (p := p4) (off := 0) (cs := [.bool x6.safe.there, S x6.safe.s]) (T' := 86) rfl rfl hst (by kernel_rfl) ?_
          obtain rfl := Option.some.inj hr
          have hst := ((hst.pull 3).cut 1 3)
          exact hR _ hst
        · have hr := (if_neg (by rw [h]; exact Bool.false_ne_true)).symm.trans hr
          refine wp_skip ?_
          refine th_n ?_
          refine wp_seq ?_
          refine wp_reg ?_
          refine L_pure 1 [(4, pt p4 0), (92, .pointer a1)] (by kernel_rfl) fun b => ?_
          refine L_op rfl (O_run (v := pt (ab a1) (ao a1 + (0 : Int).toNat * 4)) (w' := w) (R_nilc (hst.pull 1) rfl) rfl rfl ?_)
          refine L_pure 1 [(4, pt p4 0), (94, pt (ab a1) (ao a1 + (0 : Int).toNat * 4))] (by kernel_rfl) fun b => ?_
          obtain ⟨q26, hc26, hst⟩ := dsl_cells (hst.pull 1) (show gt [x6] 0 = some x6 from rfl)
          have hst := hst.drop
          refine L_op rfl (O_run (v := .agg #[.bool x6.now.there, S x6.now.s]) (w' := w) (R_loadAt (off := ao a1 + (0 : Int).toNat * 4) (j := 0) hc26 rfl rfl) rfl rfl ?_)
          refine L_op rfl (O_store [.bool x6.now.there, S x6.now.s] (hst.pull 3) rfl rfl (by kernel_rfl) fun w hst => ?_)
          refine wpL_nil ?_
          refine th_n ?_
          refine wp_ret ?_
          refine retC (v := .agg #[.bool x6.now.there, S x6.now.s]) (p := p4) (off := 0) (cs := [.bool x6.now.there, S x6.now.s]) (T' := 86) rfl rfl hst (by kernel_rfl) ?_
          obtain rfl := Option.some.inj hr
          have hst := ((hst.pull 3).cut 1 3)
          exact hR _ hst
    · have hr := hy4
      refine wp_regG (SN { w with drawn := w.drawn + 1 }) rfl ?_
      have hst := hst.draw (n := w.drawn + 1)
      generalize { w with drawn := w.drawn + 1 } = w at hst ⊢
      refine C_take (i := 0) (v := .pointer a1) rfl (by kernel_rfl) (fun _ _ _ h => h) rfl rfl rfl (R_pure (by kernel_rfl)) ?_
      refine C_take (i := 1) (v := pt (ab a1) (ao a1 + (0 : Int).toNat * 4)) rfl (by kernel_rfl) (fun _ _ _ h => h) rfl rfl rfl (R_nilc hst rfl) ?_
      refine C_take (i := 2) (v := pt (ab a1) (ao a1 + (0 : Int).toNat * 4)) rfl (by kernel_rfl) (fun _ _ _ h => h) rfl rfl rfl (R_pure (by kernel_rfl)) ?_
      refine C_take (i := 3) (v := pt (ab a1) (ao a1 + (0 : Int).toNat * 4)) rfl (by kernel_rfl) (fun _ _ _ h => h) rfl rfl rfl (R_pure (by kernel_rfl)) ?_
      obtain ⟨q18, hc18, hst⟩ := dsl_cells hst (show gt [x6] 0 = some x6 from rfl)
      have hst := hst.drop
      refine C_take (i := 4) (v := .bool x6.now.there) rfl (by kernel_rfl) (fun _ _ _ h => h) rfl rfl rfl (R_loadAt (off := ao a1 + (0 : Int).toNat * 4) (j := 0) hc18 rfl rfl) ?_
      refine C_take (i := 5) (v := .bool x6.now.there) rfl (by kernel_rfl) (fun _ _ _ h => h) rfl rfl rfl (R_pure (by kernel_rfl)) ?_
      by_cases h : x6.now.there = true
      · have hr := (if_pos h).symm.trans hr
        refine C_keep ((31, .bool x6.now.there) :: [(0, .pointer a1), (1, I x2), (4, pt p4 0), (5, I (x6.safe.s.length : Int)), (26, .pointer a1), (27, pt (ab a1) (ao a1 + (0 : Int).toNat * 4)), (28, pt (ab a1) (ao a1 + (0 : Int).toNat * 4)), (29, pt (ab a1) (ao a1 + (0 : Int).toNat * 4)), (30, .bool x6.now.there)]) rfl fun b => ?_
        refine C_bool h ?_
        refine C_take (i := 6) (v := .pointer a1) rfl (by kernel_rfl) (fun _ _ _ h => h) rfl rfl rfl (R_pure (by kernel_rfl)) ?_
        refine C_take (i := 7) (v := pt (ab a1) (ao a1 + (0 : Int).toNat * 4)) rfl (by kernel_rfl) (fun _ _ _ h => h) rfl rfl rfl (R_nilc hst rfl) ?_
        refine C_take (i := 8) (v := pt (ab a1) (ao a1 + (0 : Int).toNat * 4)) rfl (by kernel_rfl) (fun _ _ _ h => h) rfl rfl rfl (R_pure (by kernel_rfl)) ?_
        refine C_take (i := 9) (v := pt (ab a1) (ao a1 + (0 : Int).toNat * 4 + 1)) rfl (by kernel_rfl) (fun _ _ _ h => h) rfl rfl rfl (R_pure (by kernel_rfl)) ?_
        obtain ⟨q19, hc19, hst⟩ := dsl_cells hst (show gt [x6] 0 = some x6 from rfl)
        have hst := hst.drop
        refine C_take (i := 10) (v := S x6.now.s) rfl (by kernel_rfl) (fun _ _ _ h => h) rfl rfl rfl (R_loadAt (off := ao a1 + (0 : Int).toNat * 4) (j := 1) hc19 rfl rfl) ?_
        refine C_take (i := 11) (v := I (x6.now.s.length : Int)) rfl (by kernel_rfl) (fun _ _ _ h => h) rfl rfl rfl (R_pure (by kernel_rfl)) ?_
        refine C_take (i := 12) (v := I (x6.safe.s.length : Int)) rfl (by kernel_rfl) (fun _ _ _ h => h) rfl rfl rfl (R_pure (by kernel_rfl)) ?_
        refine C_take (i := 13) (v := .bool (decide ((x6.now.s.length : Int) > (x6.safe.s.length : Int)))) rfl (by kernel_rfl) (fun _ _ _ h => h) rfl rfl rfl (R_pure (by kernel_rfl)) ?_
        refine C_take (i := 14) (v := .bool (decide ((x6.now.s.length : Int) > (x6.safe.s.length : Int)))) rfl (by kernel_rfl) (fun _ _ _ h => h) rfl rfl rfl (R_pure (by kernel_rfl)) ?_
        refine C_take (i := 15) (v := .bool (decide ((x6.now.s.length : Int) > (x6.safe.s.length : Int)))) rfl (by kernel_rfl) (fun _ _ _ h => h) rfl rfl rfl (R_pure (by kernel_rfl)) ?_
        by_cases h : (decide ((x6.now.s.length : Int) > (x6.safe.s.length : Int))) = true
        · have hr := (if_pos h).symm.trans hr
          refine C_keep ((41, .bool (decide ((x6.now.s.length : Int) > (x6.safe.s.length : Int)))) :: [(0, .pointer a1), (1, I x2), (4, pt p4 0), (5, I (x6.safe.s.length : Int)), (26, .pointer a1), (27, pt (ab a1) (ao a1 + (0 : Int).toNat * 4)), (28, pt (ab a1) (ao a1 + (0 : Int).toNat * 4)), (29, pt (ab a1) (ao a1 + (0 : Int).toNat * 4)), (30, .bool x6.now.there), (31, .bool true), (32, .pointer a1), (33, pt (ab a1) (ao a1 + (0 : Int).toNat * 4)), (34, pt (ab a1) (ao a1 + (0 : Int).toNat * 4)), (35, pt (ab a1) (ao a1 + (0 : Int).toNat * 4 + 1)), (36, S x6.now.s), (37, I (x6.now.s.length : Int)), (38, I (x6.safe.s.length : Int)), (39, .bool (decide ((x6.now.s.length : Int) > (x6.safe.s.length : Int)))), (40, .bool (decide ((x6.now.s.length : Int) > (x6.safe.s.length : Int))))]) rfl fun b => ?_
          refine C_bool h ?_
          refine C_take (i := 16) (v := .pointer a1) rfl (by kernel_rfl) (fun _ _ _ h => h) rfl rfl rfl (R_pure (by kernel_rfl)) ?_
          refine C_take (i := 17) (v := pt (ab a1) (ao a1 + (0 : Int).toNat * 4)) rfl (by kernel_rfl) (fun _ _ _ h => h) rfl rfl rfl (R_nilc hst rfl) ?_
          refine C_take (i := 18) (v := pt (ab a1) (ao a1 + (0 : Int).toNat * 4)) rfl (by kernel_rfl) (fun _ _ _ h => h) rfl rfl rfl (R_pure (by kernel_rfl)) ?_
          refine C_take (i := 19) (v := pt (ab a1) (ao a1 + (0 : Int).toNat * 4 + 1)) rfl (by kernel_rfl) (fun _ _ _ h => h) rfl rfl rfl (R_pure (by kernel_rfl)) ?_
          obtain ⟨q20, hc20, hst⟩ := dsl_cells hst (show gt [x6] 0 = some x6 from rfl)
          have hst := hst.drop
          refine C_take (i := 20) (v := S x6.now.s) rfl (by kernel_rfl) (fun _ _ _ h => h) rfl rfl rfl (R_loadAt (off := ao a1 + (0 : Int).toNat * 4) (j := 1) hc20 rfl rfl) ?_
          refine C_take (i := 21) (v := I (x6.safe.s.length : Int)) rfl (by kernel_rfl) (fun _ _ _ h => h) rfl rfl rfl (R_pure (by kernel_rfl)) ?_
          obtain ⟨x7, hx5, hr⟩ := bnd hr
          refine C_take (i := 22) (v := S x7) rfl (by kernel_rfl) (fun _ _ _ h => h) rfl rfl rfl (R_slice_s Try.underlying9 rfl rfl rfl hx5) ?_
          refine C_take (i := 23) (v := .pointer a1) rfl (by kernel_rfl) (fun _ _ _ h => h) rfl rfl rfl (R_pure (by kernel_rfl)) ?_
          refine C_take (i := 24) (v := pt (ab a1) (ao a1 + (0 : Int).toNat * 4)) rfl (by kernel_rfl) (fun _ _ _ h => h) rfl rfl rfl (R_nilc hst rfl) ?_
          refine C_take (i := 25) (v := pt (ab a1) (ao a1 + (0 : Int).toNat * 4 + 2)) rfl (by kernel_rfl) (fun _ _ _ h => h) rfl rfl rfl (R_pure (by kernel_rfl)) ?_
          refine C_take (i := 26) (v := pt (ab a1) (ao a1 + (0 : Int).toNat * 4 + 3)) rfl (by kernel_rfl) (fun _ _ _ h => h) rfl rfl rfl (R_pure (by kernel_rfl)) ?_
          obtain ⟨q21, hc21, hst⟩ := dsl_cells hst (show gt [x6] 0 = some x6 from rfl)
          have hst := hst.drop
          refine C_take (i := 27) (v := S x6.safe.s) rfl (by kernel_rfl) (fun _ _ _ h => h) rfl rfl rfl (R_loadAt (off := ao a1 + (0 : Int).toNat * 4) (j := 3) hc21 rfl rfl) ?_
          refine C_take (i := 28) (v := .bool (sEq x7 x6.safe.s)) rfl (by kernel_rfl) (fun _ _ _ h => h) rfl rfl rfl (R_pure (by kernel_rfl)) ?_
          refine C_take (i := 29) (v := .bool (sEq x7 x6.safe.s)) rfl (by kernel_rfl) (fun _ _ _ h => h) rfl rfl rfl (R_pure (by kernel_rfl)) ?_
          refine wpG_done (by kernel_rfl) ?_ _
          refine C_keepQ [(0, .pointer a1), (1, I x2), (4, pt p4 0), (5, I (x6.safe.s.length : Int)), (55, .bool (sEq x7 x6.safe.s))] rfl fun b => ?_
          refine th_n ?_
          obtain rfl := Option.some.inj hr
          have hst := (((hst.pull 2).pull 2).pull 2)
          exact (kpX [(0, .pointer a1), (1, I x2), (4, pt p4 0), (5, I (x6.safe.s.length : Int)), (55, .bool (sEq x7 x6.safe.s))] rfl hst)
        · have hr := (if_neg h).symm.trans hr
          refine C_keep ((41, .bool (decide ((x6.now.s.length : Int) > (x6.safe.s.length : Int)))) :: [(0, .pointer a1), (1, I x2), (4, pt p4 0), (5, I (x6.safe.s.length : Int)), (26, .pointer a1), (27, pt (ab a1) (ao a1 + (0 : Int).toNat * 4)), (28, pt (ab a1) (ao a1 + (0 : Int).toNat * 4)), (29, pt (ab a1) (ao a1 + (0 : Int).toNat * 4)), (30, .bool x6.now.there), (31, .bool true), (32, .pointer a1), (33, pt (ab a1) (ao a1 + (0 : Int).toNat * 4)), (34, pt (ab a1) (ao a1 + (0 : Int).toNat * 4)), (35, pt (ab a1) (ao a1 + (0 : Int).toNat * 4 + 1)), (36, S x6.now.s), (37, I (x6.now.s.length : Int)), (38, I (x6.safe.s.length : Int)), (39, .bool (decide ((x6.now.s.length : Int) > (x6.safe.s.length : Int)))), (40, .bool (decide ((x6.now.s.length : Int) > (x6.safe.s.length : Int))))]) rfl fun b => ?_
          refine C_bool (eq_false_of_ne_true h) ?_
          refine C_skip (i := 16) rfl (by kernel_rfl) (fun _ _ _ h => h) rfl rfl rfl ?_
          refine C_skip (i := 17) rfl (by kernel_rfl) (fun _ _ _ h => h) rfl rfl rfl ?_
          refine C_skip (i := 18) rfl (by kernel_rfl) (fun _ _ _ h => h) rfl rfl rfl ?_
          refine C_skip (i := 19) rfl (by kernel_rfl) (fun _ _ _ h => h) rfl rfl rfl ?_
          refine C_skip (i := 20) rfl (by kernel_rfl) (fun _ _ _ h => h) rfl rfl rfl ?_
          refine C_skip (i := 21) rfl (by kernel_rfl) (fun _ _ _ h => h) rfl rfl rfl ?_
          refine C_skip (i := 22) rfl (by kernel_rfl) (fun _ _ _ h => h) rfl rfl rfl ?_
          refine C_skip (i := 23) rfl (by kernel_rfl) (fun _ _ _ h => h) rfl rfl rfl ?_
          refine C_skip (i := 24) rfl (by kernel_rfl) (fun _ _ _ h => h) rfl rfl rfl ?_
          refine C_skip (i := 25) rfl (by kernel_rfl) (fun _ _ _ h => h) rfl rfl rfl ?_
          refine C_skip (i := 26) rfl (by kernel_rfl) (fun _ _ _ h => h) rfl rfl rfl ?_
          refine C_skip (i := 27) rfl (by kernel_rfl) (fun _ _ _ h => h) rfl rfl rfl ?_
          refine C_skip (i := 28) rfl (by kernel_rfl) (fun _ _ _ h => h) rfl rfl rfl ?_
          refine C_take (i := 29) (v := .bool false) rfl (by kernel_rfl) (fun _ _ _ h => h) rfl rfl rfl (R_pure (by kernel_rfl)) ?_
          refine wpG_done (by kernel_rfl) ?_ _
          refine C_keepQ [(0, .pointer a1), (1, I x2), (4, pt p4 0), (5, I (x6.safe.s.length : Int)), (55, .bool false)] rfl fun b => ?_
          refine th_n ?_
          obtain rfl := Option.some.inj hr
          have hst := (((hst.pull 2).pull 2).pull 2)
          exact (kpX [(0, .pointer a1), (1, I x2), (4, pt p4 0), (5, I (x6.safe.s.length : Int)), (55, .bool false)] rfl hst)
      · have hr := (if_neg h).symm.trans hr
        refine C_keep ((31, .bool x6.now.there) :: [(0, .pointer a1), (1, I x2), (4, pt p4 0), (5, I (x6.safe.s.length : Int)), (26, .pointer a1), (27, pt (ab a1) (ao a1 + (0 : Int).toNat * 4)), (28, pt (ab a1) (ao a1 + (0 : Int).toNat * 4)), (29, pt (ab a1) (ao a1 + (0 : Int).toNat * 4)), (30, .bool x6.now.there)]) rfl fun b => ?_
        refine C_bool (eq_false_of_ne_true h) ?_
        refine C_skip (i := 6) rfl (by kernel_rfl) (fun _ _ _ h => h) rfl rfl rfl ?_
        refine C_skip (i := 7) rfl (by kernel_rfl) (fun _ _ _ h => h) rfl rfl rfl ?_
        refine C_skip (i := 8) rfl (by kernel_rfl) (fun _ _ _ h => h) rfl rfl rfl ?_
        refine C_skip (i := 9) rfl (by kernel_rfl) (fun _ _ _ h => h) rfl rfl rfl ?_
        refine C_skip (i := 10) rfl (by kernel_rfl) (fun _ _ _ h => h) rfl rfl rfl ?_
        refine C_skip (i := 11) rfl (by kernel_rfl) (fun _ _ _ h => h) rfl rfl rfl ?_
        refine C_skip (i := 12) rfl (by kernel_rfl) (fun _ _ _ h => h) rfl rfl rfl ?_
        refine C_skip (i := 13) rfl (by kernel_rfl) (fun _ _ _ h => h) rfl rfl rfl ?_
        refine C_take (i := 14) (v := .bool false) rfl (by kernel_rfl) (fun _ _ _ h => h) rfl rfl rfl (R_pure (by kernel_rfl)) ?_
        refine C_take (i := 15) (v := .bool false) rfl (by kernel_rfl) (fun _ _ _ h => h) rfl rfl rfl (R_pure (by kernel_rfl)) ?_
        refine C_skip (i := 16) rfl (by kernel_rfl) (fun _ _ _ h => h) rfl rfl rfl ?_
        refine C_skip (i := 17) rfl (by kernel_rfl) (fun _ _ _ h => h) rfl rfl rfl ?_
        refine C_skip (i := 18) rfl (by kernel_rfl) (fun _ _ _ h => h) rfl rfl rfl ?_
        refine C_skip (i := 19) rfl (by kernel_rfl) (fun _ _ _ h => h) rfl rfl rfl ?_
        refine C_skip (i := 20) rfl (by kernel_rfl) (fun _ _ _ h => h) rfl rfl rfl ?_
        refine C_skip (i := 21) rfl (by kernel_rfl) (fun _ _ _ h => h) rfl rfl rfl ?_
        refine C_skip (i := 22) rfl (by kernel_rfl) (fun _ _ _ h => h) rfl rfl rfl ?_
        refine C_skip (i := 23) rfl (by kernel_rfl) (fun _ _ _ h => h) rfl rfl rfl ?_
        refine C_skip (i := 24) rfl (by kernel_rfl) (fun _ _ _ h => h) rfl rfl rfl ?_
        refine C_skip (i := 25) rfl (by kernel_rfl) (fun _ _ _ h => h) rfl rfl rfl ?_
        refine C_skip (i := 26) rfl (by kernel_rfl) (fun _ _ _ h => h) rfl rfl rfl ?_
        refine C_skip (i := 27) rfl (by kernel_rfl) (fun _ _ _ h => h) rfl rfl rfl ?_
        refine C_skip (i := 28) rfl (by kernel_rfl) (fun _ _ _ h => h) rfl rfl rfl ?_
        refine C_take (i := 29) (v := .bool false) rfl (by kernel_rfl) (fun _ _ _ h => h) rfl rfl rfl (R_pure (by kernel_rfl)) ?_
        refine wpG_done (by kernel_rfl) ?_ _
        refine C_keepQ [(0, .pointer a1), (1, I x2), (4, pt p4 0), (5, I (x6.safe.s.length : Int)), (55, .bool false)] rfl fun b => ?_
        refine th_n ?_
        obtain rfl := Option.some.inj hr
        have hst := (((hst.pull 2).pull 2).pull 2)
        exact (kpX [(0, .pointer a1), (1, I x2), (4, pt p4 0), (5, I (x6.safe.s.length : Int)), (55, .bool false)] rfl hst)
def platter_Disk_Crash_l1 (k : Nat) (x1 : Int) (x3 : Bool) (x4 : Int) (x6 : (List Int)) (y9 : (List (List UInt8))) : Nat → Int → Int → (List ((List UInt8) × (Option T_platter_file))) → Int → Option ((List ((List UInt8) × (Option T_platter_file))) × Int)
  | 0, _, _, _, _ => none
  | j + 1, v13, v14, v15, v16 => (if decide (v14 < (y9.length : Int)) = true then (Option.bind (Option.bind (gt y9 v14) fun x10 => (Option.bind ((mget v15 x10).getD none) fun x11 => (if (!(decide (x11.now = x11.safe))) = true then (Option.bind (if decide (v13 < (x6.length : Int)) = true then (Option.bind (gt x6 v13) fun x12 => some (x12)) else some ((0 : Int))) fun y12 => (Option.bind (platter_file_left k ((mget v15 x10).getD none) y12) fun y13 => (Option.bind (platter_Disk_settle k x1 v16 x3 x4 v15 x10 y13) fun y14 => some ((IntKind.i64.wrap (v13 + 1)), y14.1, y14.2)))) else some (v13, v16, v15)))) fun y11 => (platter_Disk_Crash_l1 k x1 x3 x4 x6 y9 j y11.1 (IntKind.i64.wrap (v14 + 1)) y11.2.2 y11.2.1)) else some (v15, v16))
def platter_Disk_Crash (k : Nat) (x1 : Int) (x2 : Int) (x3 : Bool) (x4 : Int) (x5 : (List ((List UInt8) × (Option T_platter_file)))) (x6 : (List Int)) : Option (Int × (List ((List UInt8) × (Option T_platter_file)))) := (Option.bind (maps_Keys k x5) fun _ => (Option.bind (slices_Sorted k x5) fun y9 => (Option.bind (platter_Disk_Crash_l1 k x1 x3 x4 x6 y9 k (0 : Int) (0 : Int) x5 x2) fun y10 => some (y10.2, y10.1))))
set_option maxRecDepth 100000 in
set_option maxHeartbeats 4000000 in
theorem platter_Disk_Crash_ok {G w : World} {F : List HP} {R : Ending → World → Prop} (k : Nat) (x1 : Int) (x2 : Int) (x3 : Bool) (x4 : Int) (x5 : (List ((List UInt8) × (Option T_platter_file)))) (x6 : (List Int)) (p1 : Nat) (p2 : Nat) (a1 : Option Addr) (c1 : Nat) (r : (Int × (List ((List UInt8) × (Option T_platter_file))))) (hst : St G w (blk p1 (cl [I x1, I x2, .bool x3, I x4, .map (some p2)] 42) :: mpr S (rPt r_T_platter_file) p2 x5 :: dsl (rI .i64) a1 c1 x6 :: F)) (hr : platter_Disk_Crash k x1 x2 x3 x4 x5 x6 = some r)
    (hR : ∀ w', St G w' (blk p1 (cl [I x1, I r.1, .bool x3, I x4, .map (some p2)] 42) :: mpr S (rPt r_T_platter_file) p2 r.2 :: dsl (rI .i64) a1 c1 x6 :: F) → R (.returned (.tuple #[])) w') :
    Calls Try.prog 19 #[pt p1 0, .slice a1 x6.length c1] w R := by
  unfold platter_Disk_Crash at hr
  refine enter Try.func19 rfl [(0, pt p1 0), (1, .slice a1 x6.length c1)] rfl rfl fun b => ?_
  refine wp_seq ?_
  refine wp_reg ?_
  refine L_pure 1 [(0, pt p1 0), (1, .slice a1 x6.length c1), (4, I 0)] (by kernel_rfl) fun b => ?_
  refine wpL_nil ?_
  refine th_n ?_
  refine wp_seq ?_
  refine wp_reg ?_
  refine L_pure 3 [(0, pt p1 0), (1, .slice a1 x6.length c1), (4, I 0), (11, pt p1 4)] (by kernel_rfl) fun b => ?_
  refine L_op rfl (O_run (v := .map (some p2)) (w' := w) (R_load hst rfl rfl) rfl rfl ?_)
  obtain ⟨y8, hy8, hr⟩ := bnd hr
  refine L_op rfl (O_call (vs := #[.map (some p2)]) Try.call42 (by kernel_rfl) (maps_Keys_ok k x5 p2 y8 (hst.pull 1) hy8 fun p4 w hst => ?_))
  refine CK_ret rfl ?_
  obtain ⟨y9, hy9, hr⟩ := bnd hr
  refine L_op rfl (O_call (vs := #[.func (.func 63) #[] #[pt p4 0]]) Try.call41 (by kernel_rfl) (slices_Sorted_ok k x5 p4 p2 y9 ((hst.pull 1).pull 1) hy9 fun a4 c3 w hst => ?_))
  refine CK_ret rfl ?_
  refine L_pure 2 [(0, pt p1 0), (1, .slice a1 x6.length c1), (4, I 0), (14, .slice a4 y9.length c3), (15, I (y9.length : Int)), (16, I 0)] (by kernel_rfl) fun b => ?_
  refine wpL_nil ?_
  refine th_n ?_
  obtain ⟨y10, hy10, hk4⟩ := bnd hr
  clear hr
  refine Go.Hx.wp_cut (fun a w => ∃ (b : Nat → Value), a = mkF 52 b [] ∧ St G w (osl rS 9 a4 c3 y9 :: blk p4 (cl [.map (some p2)] 40) :: mpr S (rPt r_T_platter_file) p2 y10.1 :: blk p1 (cl [I x1, I y10.2, .bool x3, I x4, .map (some p2)] 42) :: dsl (rI .i64) a1 c1 x6 :: F)) ?_ ?_
  · rintro _ w ⟨b, rfl, hst⟩
    have hr := hk4
    refine bp_normal ?_
    refine ret0 rfl ?_
    obtain rfl := Option.some.inj hr
    have hst := ((((hst.pull 4).pull 3).pull 4).cut 3 2)
    exact hR _ hst
  · have hst := (((((hst.pull 4).pull 4).pull 4).pull 4).pull 4)
    refine wp_block ?_
    refine wp_loop_fuel (fun j a w => ∃ (v13 : Int) (v14 : Int) (v15 : (List ((List UInt8) × (Option T_platter_file)))) (v16 : Int) (b : Nat → Value), a = mkF 52 b [(0, pt p1 0), (1, .slice a1 x6.length c1), (4, I v13), (14, .slice a4 y9.length c3), (15, I (y9.length : Int)), (16, I v14)] ∧ St G w (osl rS 9 a4 c3 y9 :: blk p4 (cl [.map (some p2)] 40) :: mpr S (rPt r_T_platter_file) p2 v15 :: blk p1 (cl [I x1, I v16, .bool x3, I x4, .map (some p2)] 42) :: dsl (rI .i64) a1 c1 x6 :: F) ∧ platter_Disk_Crash_l1 k x1 x3 x4 x6 y9 j v13 v14 v15 v16 = some y10) (k := k) ⟨(0 : Int), (0 : Int), x5, x2, (kpX [(0, pt p1 0), (1, .slice a1 x6.length c1), (4, I 0), (14, .slice a4 y9.length c3), (15, I (y9.length : Int)), (16, I 0)] rfl ⟨hst, hy10⟩)⟩ ?_ ?_
    · rintro _ _ ⟨_, _, _, _, _, _, _, h⟩
      rw [platter_Disk_Crash_l1] at h
      cases h
    · rintro j _ w ⟨v13, v14, v15, v16, b, rfl, hst, hr⟩
      rw [platter_Disk_Crash_l1] at hr
      refine wp_seq ?_
      refine wp_reg ?_
      refine L_pure 1 [(0, pt p1 0), (1, .slice a1 x6.length c1), (4, I v13), (14, .slice a4 y9.length c3), (15, I (y9.length : Int)), (16, I v14), (17, .bool (decide (v14 < (y9.length : Int))))] (by kernel_rfl) fun b => ?_
      refine wpL_nil ?_
      refine th_n ?_
      refine wp_seq ?_
      refine wp_cond_mkF (t := decide (v14 < (y9.length : Int))) rfl (fun h => ?_) (fun h => ?_)
      · have hr := (if_pos h).symm.trans hr
        refine wp_skip ?_
        refine th_n ?_
        obtain ⟨y11, hy11, hk5⟩ := bnd hr
        clear hr
        refine wp_seq_cut (fun a w => ∃ (b : Nat → Value), a = mkF 52 b [(0, pt p1 0), (1, .slice a1 x6.length c1), (4, I y11.1), (14, .slice a4 y9.length c3), (15, I (y9.length : Int)), (16, I v14)] ∧ St G w (blk p1 (cl [I x1, I y11.2.1, .bool x3, I x4, .map (some p2)] 42) :: mpr S (rPt r_T_platter_file) p2 y11.2.2 :: dsl (rI .i64) a1 c1 x6 :: osl rS 9 a4 c3 y9 :: blk p4 (cl [.map (some p2)] 40) :: F)) ?_ ?_
        · rintro _ w ⟨b, rfl, hst⟩
          have hr := hk5
          refine wp_reg ?_
          refine L_pure 2 [(0, pt p1 0), (1, .slice a1 x6.length c1), (4, I y11.1), (14, .slice a4 y9.length c3), (15, I (y9.length : Int)), (16, I (IntKind.i64.wrap (v14 + 1)))] (by kernel_rfl) fun b => ?_
          refine wpL_nil ?_
          refine th_n ?_
          have hst := (((((hst.pull 2).pull 1).pull 2).pull 4).pull 4)
          exact ⟨y11.1, (IntKind.i64.wrap (v14 + 1)), y11.2.2, y11.2.1, (kpX [(0, pt p1 0), (1, .slice a1 x6.length c1), (4, I y11.1), (14, .slice a4 y9.length c3), (15, I (y9.length : Int)), (16, I (IntKind.i64.wrap (v14 + 1)))] rfl ⟨hst, hr⟩)⟩
        · have hr := hy11
          refine wp_block ?_
          refine wp_seq ?_
          refine wp_reg ?_
          obtain ⟨x10, hx4, hr⟩ := bnd hr
          refine L_op rfl (O_run (v := pt (ab a4) (ao a4 + v14.toNat * 1)) (w' := w) (R_ia L34 rfl rfl (osl_addr hst hx4) (gt_some hx4).1 (gt_some hx4).2.1) rfl rfl ?_)
          obtain ⟨q5, hc5, hst⟩ := osl_cells hst hx4
          have hst := hst.drop
          refine L_op rfl (O_run (v := S x10) (w' := w) (R_loadAt (off := ao a4 + v14.toNat * 1) (j := 0) hc5 rfl rfl) rfl rfl ?_)
          refine L_pure 1 [(0, pt p1 0), (1, .slice a1 x6.length c1), (4, I v13), (6, S x10), (14, .slice a4 y9.length c3), (15, I (y9.length : Int)), (16, I v14)] (by kernel_rfl) fun b => ?_
          refine wpL_nil ?_
          refine th_n ?_
          refine wp_seq ?_
          refine wp_reg ?_
          refine L_pure 3 [(0, pt p1 0), (1, .slice a1 x6.length c1), (4, I v13), (6, S x10), (14, .slice a4 y9.length c3), (15, I (y9.length : Int)), (16, I v14), (22, pt p1 4)] (by kernel_rfl) fun b => ?_
          refine L_op rfl (O_run (v := .map (some p2)) (w' := w) (R_load (hst.pull 3) rfl rfl) rfl rfl ?_)
          refine L_pure 1 [(0, pt p1 0), (1, .slice a1 x6.length c1), (4, I v13), (6, S x10), (14, .slice a4 y9.length c3), (15, I (y9.length : Int)), (16, I v14), (23, .map (some p2)), (24, S x10)] (by kernel_rfl) fun b => ?_
          refine L_op rfl (O_lookP M40 x10 (hst.pull 2) rfl rfl rfl fun a5 hst => ?_)
          refine L_pure 1 [(0, pt p1 0), (1, .slice a1 x6.length c1), (4, I v13), (6, S x10), (7, .pointer a5), (14, .slice a4 y9.length c3), (15, I (y9.length : Int)), (16, I v14)] (by kernel_rfl) fun b => ?_
          refine wpL_nil ?_
          refine th_n ?_
          refine wp_seq ?_
          refine wp_regG (SN { w with drawn := w.drawn + 1 }) rfl ?_
          have hst := hst.draw (n := w.drawn + 1)
          generalize { w with drawn := w.drawn + 1 } = w at hst ⊢
          refine C_take (i := 0) (v := .pointer a5) rfl (by kernel_rfl) (fun _ _ _ h => h) rfl rfl rfl (R_pure (by kernel_rfl)) ?_
          obtain ⟨x11, hx5, hr⟩ := bnd hr
          have hst := dpt_pick hx5 hst
          refine C_take (i := 1) (v := pt (ab a5) (ao a5 + (0 : Int).toNat * 4)) rfl (by kernel_rfl) (fun _ _ _ h => h) rfl rfl rfl (R_nilc hst rfl) ?_
          refine C_take (i := 2) (v := pt (ab a5) (ao a5 + (0 : Int).toNat * 4)) rfl (by kernel_rfl) (fun _ _ _ h => h) rfl rfl rfl (R_pure (by kernel_rfl)) ?_
          obtain ⟨q6, hc6, hst⟩ := dsl_cells hst (show gt [x11] 0 = some x11 from rfl)
          have hst := hst.drop
          refine C_take (i := 3) (v := .agg #[.bool x11.now.there, S x11.now.s]) rfl (by kernel_rfl) (fun _ _ _ h => h) rfl rfl rfl (R_loadAt (off := ao a5 + (0 : Int).toNat * 4) (j := 0) hc6 rfl rfl) ?_
          refine C_take (i := 4) (v := .pointer a5) rfl (by kernel_rfl) (fun _ _ _ h => h) rfl rfl rfl (R_pure (by kernel_rfl)) ?_
          refine C_take (i := 5) (v := pt (ab a5) (ao a5 + (0 : Int).toNat * 4)) rfl (by kernel_rfl) (fun _ _ _ h => h) rfl rfl rfl (R_nilc hst rfl) ?_
          refine C_take (i := 6) (v := pt (ab a5) (ao a5 + (0 : Int).toNat * 4 + 2)) rfl (by kernel_rfl) (fun _ _ _ h => h) rfl rfl rfl (R_pure (by kernel_rfl)) ?_
          obtain ⟨q7, hc7, hst⟩ := dsl_cells hst (show gt [x11] 0 = some x11 from rfl)
          have hst := hst.drop
          refine C_take (i := 7) (v := .agg #[.bool x11.safe.there, S x11.safe.s]) rfl (by kernel_rfl) (fun _ _ _ h => h) rfl rfl rfl (R_loadAt (off := ao a5 + (0 : Int).toNat * 4) (j := 2) hc7 rfl rfl) ?_
          refine C_take (i := 8) (v := .bool (!(decide (x11.now = x11.safe)))) rfl (by kernel_rfl) (fun _ _ _ h => h) rfl rfl rfl (R_sne rfl rfl G86 (EQ86 x11.now x11.safe _)) ?_
          refine wpG_done (by kernel_rfl) ?_ _
          refine C_keepQ [(0, pt p1 0), (1, .slice a1 x6.length c1), (4, I v13), (6, S x10), (7, .pointer a5), (14, .slice a4 y9.length c3), (15, I (y9.length : Int)), (16, I v14), (34, .bool (!(decide (x11.now = x11.safe))))] rfl fun b => ?_
          refine th_n ?_
          refine wp_cond_mkF (t := (!(decide (x11.now = x11.safe)))) rfl (fun h => ?_) (fun h => ?_)
          · have hr := (if_pos h).symm.trans hr
            refine wp_seq ?_
            refine wp_reg ?_
            refine L_pure 1 [(0, pt p1 0), (1, .slice a1 x6.length c1), (4, I v13), (6, S x10), (7, .pointer a5), (8, I 0), (14, .slice a4 y9.length c3), (15, I (y9.length : Int)), (16, I v14)] (by kernel_rfl) fun b => ?_
            refine wpL_nil ?_
            refine th_n ?_
            obtain ⟨y12, hy12, hk6⟩ := bnd hr
            clear hr
            refine wp_seq_cut (fun a w => ∃ (b : Nat → Value), a = mkF 52 b [(0, pt p1 0), (1, .slice a1 x6.length c1), (4, I v13), (6, S x10), (7, .pointer a5), (8, I y12), (14, .slice a4 y9.length c3), (15, I (y9.length : Int)), (16, I v14)] ∧ St G w (dsl (rI .i64) a1 c1 x6 :: dsl r_T_platter_file a5 1 ([x11]) :: dpt r_T_platter_file a5 ((mget v15 x10).getD none) :: mpr S (rPt r_T_platter_file) p2 v15 :: osl rS 9 a4 c3 y9 :: blk p4 (cl [.map (some p2)] 40) :: blk p1 (cl [I x1, I v16, .bool x3, I x4, .map (some p2)] 42) :: F)) ?_ ?_
            · rintro _ w ⟨b, rfl, hst⟩
              have hr := hk6
              refine wp_seq ?_
              refine wp_reg ?_
              refine L_pure 3 [(0, pt p1 0), (1, .slice a1 x6.length c1), (4, I (IntKind.i64.wrap (v13 + 1))), (6, S x10), (7, .pointer a5), (8, I y12), (14, .slice a4 y9.length c3), (15, I (y9.length : Int)), (16, I v14)] (by kernel_rfl) fun b => ?_
              refine wpL_nil ?_
              refine th_n ?_
              refine wp_reg ?_
              refine L_pure 4 [(0, pt p1 0), (1, .slice a1 x6.length c1), (4, I (IntKind.i64.wrap (v13 + 1))), (14, .slice a4 y9.length c3), (15, I (y9.length : Int)), (16, I v14), (45, pt p1 0), (46, S x10), (47, .pointer a5), (48, I y12)] (by kernel_rfl) fun b => ?_
              obtain ⟨y13, hy13, hr⟩ := bnd hr
              have hst := (hst.pull 2).dup
              refine L_op rfl (O_call (vs := #[.pointer a5, I y12]) Try.call45 (by kernel_rfl) (platter_file_left_ok k ((mget v15 x10).getD none) y12 a5 y13 hst hy13 fun w hst => ?_))
              refine CK_ret rfl ?_
              obtain ⟨y14, hy14, hr⟩ := bnd hr
              refine L_op rfl (O_call (vs := #[pt p1 0, S x10, .agg #[.bool y13.there, S y13.s]]) Try.call44 (by kernel_rfl) (platter_Disk_settle_ok k x1 v16 x3 x4 v15 x10 y13 p1 p2 y14 ((hst.pull 4).pull 7) hy14 fun w hst => ?_))
              refine CK_ret rfl ?_
              refine wpL_nil ?_
              refine ib_n (th_n ?_)
              obtain rfl := Option.some.inj hr
              have hst := ((((((hst.pull 7).pull 7).pull 6).pull 4).pull 4).cut 5 3)
              exact (kpX [(0, pt p1 0), (1, .slice a1 x6.length c1), (4, I (IntKind.i64.wrap (v13 + 1))), (14, .slice a4 y9.length c3), (15, I (y9.length : Int)), (16, I v14)] rfl hst)
            · have hr := hy12
              refine wp_seq ?_
              refine wp_reg ?_
              refine L_pure 4 [(0, pt p1 0), (1, .slice a1 x6.length c1), (4, I v13), (6, S x10), (7, .pointer a5), (8, I 0), (14, .slice a4 y9.length c3), (15, I (y9.length : Int)), (16, I v14), (38, .bool (decide (v13 < (x6.length : Int))))] (by kernel_rfl) fun b => ?_
              refine wpL_nil ?_
              refine th_n ?_
              refine wp_cond_mkF (t := decide (v13 < (x6.length : Int))) rfl (fun h => ?_) (fun h => ?_)
              · have hr := (if_pos h).symm.trans hr
                refine wp_reg ?_
                refine L_pure 2 [(0, pt p1 0), (1, .slice a1 x6.length c1), (4, I v13), (6, S x10), (7, .pointer a5), (14, .slice a4 y9.length c3), (15, I (y9.length : Int)), (16, I v14), (39, .slice a1 x6.length c1), (40, I v13)] (by kernel_rfl) fun b => ?_
                obtain ⟨x12, hx6, hr⟩ := bnd hr
                refine L_op rfl (O_run (v := pt (ab a1) (ao a1 + v13.toNat * 1)) (w' := w) (R_ia L30 rfl rfl (dsl_addr (hst.pull 6) hx6) (gt_some hx6).1 (gt_some hx6).2.1) rfl rfl ?_)
                obtain ⟨q8, hc8, hst⟩ := dsl_cells (hst.pull 6) hx6
                have hst := hst.drop
                refine L_op rfl (O_run (v := I x12) (w' := w) (R_loadAt (off := ao a1 + v13.toNat * 1) (j := 0) hc8 rfl rfl) rfl rfl ?_)
                refine L_pure 1 [(0, pt p1 0), (1, .slice a1 x6.length c1), (4, I v13), (6, S x10), (7, .pointer a5), (8, I x12), (14, .slice a4 y9.length c3), (15, I (y9.length : Int)), (16, I v14)] (by kernel_rfl) fun b => ?_
                refine wpL_nil ?_
                refine th_n ?_
                obtain rfl := Option.some.inj hr
                have hst := (((((((hst.pull 6).pull 6).pull 6).pull 6).pull 6).pull 6).pull 6)
                exact (kpX [(0, pt p1 0), (1, .slice a1 x6.length c1), (4, I v13), (6, S x10), (7, .pointer a5), (8, I x12), (14, .slice a4 y9.length c3), (15, I (y9.length : Int)), (16, I v14)] rfl hst)
              · have hr := (if_neg (by rw [h]; exact Bool.false_ne_true)).symm.trans hr
                refine wp_skip ?_
                refine th_n ?_
                obtain rfl := Option.some.inj hr
                have hst := (((((((hst.pull 5).pull 5).pull 5).pull 5).pull 5).pull 5).pull 6)
                exact (kpX [(0, pt p1 0), (1, .slice a1 x6.length c1), (4, I v13), (6, S x10), (7, .pointer a5), (8, I 0), (14, .slice a4 y9.length c3), (15, I (y9.length : Int)), (16, I v14)] rfl hst)
          · have hr := (if_neg (by rw [h]; exact Bool.false_ne_true)).symm.trans hr
            refine wp_skip ?_
            refine ib_n (th_n ?_)
            obtain rfl := Option.some.inj hr
            have hst := ((((((hst.pull 4).pull 4).pull 6).pull 5).pull 6).cut 5 2)
            exact (kpX [(0, pt p1 0), (1, .slice a1 x6.length c1), (4, I v13), (14, .slice a4 y9.length c3), (15, I (y9.length : Int)), (16, I v14)] rfl hst)
      · have hr := (if_neg (by rw [h]; exact Bool.false_ne_true)).symm.trans hr
        refine wp_exit ?_
        refine th_x (th_x (ib_x (th_n ?_)))
        obtain rfl := Option.some.inj hr
        have hst := (((((hst.pull 4).pull 4).pull 4).pull 4).pull 4)
        exact (kpX [] rfl hst)
def platter_Disk_Read (k : Nat) (x1 : Int) (x2 : Int) (x3 : Bool) (x4 : Int) (x5 : (List ((List UInt8) × (Option T_platter_file)))) (x6 : (List UInt8)) : Option ((List UInt8) × Int × Int) := (Option.bind (meter_Luck_Try k x1 x2 x3 x4 x5) fun y3 => (if (y3.1 != 0) = true then some ([], y3.1, y3.2) else (Option.bind (platter_Disk_get k x1 x2 x3 y3.2 x5 x6) fun y4 => (Option.bind y4 fun x8 => (if (!x8.now.there) = true then some ([], (5 : Int), y3.2) else some (x8.now.s, (0 : Int), y3.2))))))
set_option maxRecDepth 100000 in
set_option maxHeartbeats 4000000 in
theorem platter_Disk_Read_ok {G w : World} {F : List HP} {R : Ending → World → Prop} (k : Nat) (x1 : Int) (x2 : Int) (x3 : Bool) (x4 : Int) (x5 : (List ((List UInt8) × (Option T_platter_file)))) (x6 : (List UInt8)) (p1 : Nat) (p2 : Nat) (r : ((List UInt8) × Int × Int)) (hst : St G w (blk p1 (cl [I x1, I x2, .bool x3, I x4, .map (some p2)] 42) :: mpr S (rPt r_T_platter_file) p2 x5 :: F)) (hr : platter_Disk_Read k x1 x2 x3 x4 x5 x6 = some r)
    (hR : ∀ w', St G w' (blk p1 (cl [I x1, I x2, .bool x3, I r.2.2, .map (some p2)] 42) :: mpr S (rPt r_T_platter_file) p2 x5 :: F) → R (.returned (.tuple #[S r.1, I r.2.1])) w') :
    Calls Try.prog 20 #[pt p1 0, S x6] w R := by
  unfold platter_Disk_Read at hr
  refine enter Try.func20 rfl [(0, pt p1 0), (1, S x6)] rfl rfl fun b => ?_
  refine wp_seq ?_
  refine wp_reg ?_
  refine L_pure 2 [(0, pt p1 0), (1, S x6)] (by kernel_rfl) fun b => ?_
  refine wpL_nil ?_
  refine th_n ?_
  refine wp_seq ?_
  refine wp_seq ?_
  refine wp_reg ?_
  refine L_pure 3 [(0, pt p1 0), (1, S x6), (10, pt p1 2)] (by kernel_rfl) fun b => ?_
  obtain ⟨y3, hy3, hr⟩ := bnd hr
  refine L_op rfl (O_call (vs := #[pt p1 2]) Try.call39 (by kernel_rfl) (meter_Luck_Try_ok k x1 x2 x3 x4 x5 p1 p2 y3 ((hst.pull 1).pull 1) hy3 fun w hst => ?_))
  refine CK_ret rfl ?_
  refine L_pure 1 [(0, pt p1 0), (1, S x6), (6, I y3.1)] (by kernel_rfl) fun b => ?_
  refine wpL_nil ?_
  refine th_n ?_
  refine wp_seq ?_
  refine wp_reg ?_
  refine L_pure 2 [(0, pt p1 0), (1, S x6), (6, I y3.1), (13, .bool (y3.1 != 0))] (by kernel_rfl) fun b => ?_
  refine wpL_nil ?_
  refine th_n ?_
  refine wp_cond_mkF (t := (y3.1 != 0)) rfl (fun h => ?_) (fun h => ?_)
  · have hr := (if_pos h).symm.trans hr
    refine wp_seq ?_
    refine wp_reg ?_
    refine L_pure 3 [(4, S ([])), (5, I y3.1)] (by kernel_rfl) fun b => ?_
    refine wpL_nil ?_
    refine th_n ?_
    refine wp_ret ?_
    refine th_r ?_
    refine ret2 rfl rfl rfl ?_
    obtain rfl := Option.some.inj hr
    have hst := ((hst.pull 1).pull 1)
    exact hR _ hst
  · have hr := (if_neg (by rw [h]; exact Bool.false_ne_true)).symm.trans hr
    refine wp_skip ?_
    refine th_n ?_
    refine wp_seq ?_
    refine wp_reg ?_
    refine L_pure 2 [(15, pt p1 0), (16, S x6)] (by kernel_rfl) fun b => ?_
    obtain ⟨y4, hy4, hr⟩ := bnd hr
    refine L_op rfl (O_call (vs := #[pt p1 0, S x6]) Try.call43 (by kernel_rfl) (platter_Disk_get_ok k x1 x2 x3 y3.2 x5 x6 p1 p2 y4 ((hst.pull 1).pull 1) hy4 fun a2 w hst => ?_))
    refine CK_ret rfl ?_
    refine L_pure 1 [(7, .pointer a2)] (by kernel_rfl) fun b => ?_
    refine wpL_nil ?_
    refine th_n ?_
    refine wp_seq ?_
    refine wp_seq ?_
    refine wp_reg ?_
    refine L_pure 1 [(7, .pointer a2), (18, .pointer a2)] (by kernel_rfl) fun b => ?_
    obtain ⟨x8, hx2, hr⟩ := bnd hr
    have hst := dpt_pick hx2 hst
    refine L_op rfl (O_run (v := pt (ab a2) (ao a2 + (0 : Int).toNat * 4)) (w' := w) (R_nilc hst rfl) rfl rfl ?_)
    refine L_pure 2 [(7, .pointer a2), (21, pt (ab a2) (ao a2 + (0 : Int).toNat * 4))] (by kernel_rfl) fun b => ?_
    obtain ⟨q3, hc3, hst⟩ := dsl_cells hst (show gt [x8] 0 = some x8 from rfl)
    have hst := hst.drop
    refine L_op rfl (O_run (v := .bool x8.now.there) (w' := w) (R_loadAt (off := ao a2 + (0 : Int).toNat * 4) (j := 0) hc3 rfl rfl) rfl rfl ?_)
    refine L_pure 1 [(7, .pointer a2), (23, .bool (!x8.now.there))] (by kernel_rfl) fun b => ?_
    refine wpL_nil ?_
    refine th_n ?_
    refine wp_cond_mkF (t := (!x8.now.there)) rfl (fun h => ?_) (fun h => ?_)
    · have hr := (if_pos h).symm.trans hr
      refine wp_seq ?_
      refine wp_reg ?_
      refine L_pure 2 [(4, S ([])), (5, I 5)] (by kernel_rfl) fun b => ?_
      refine wpL_nil ?_
      refine th_n ?_
      refine wp_ret ?_
      refine th_r ?_
      refine ret2 rfl rfl rfl ?_
      obtain rfl := Option.some.inj hr
      have hst := (((hst.pull 3).pull 3).cut 2 2)
      exact hR _ hst
    · have hr := (if_neg (by rw [h]; exact Bool.false_ne_true)).symm.trans hr
      refine wp_skip ?_
      refine th_n ?_
      refine wp_seq ?_
      refine wp_reg ?_
      refine L_pure 1 [(24, .pointer a2)] (by kernel_rfl) fun b => ?_
      refine L_op rfl (O_run (v := pt (ab a2) (ao a2 + (0 : Int).toNat * 4)) (w' := w) (R_nilc hst rfl) rfl rfl ?_)
      refine L_pure 2 [(27, pt (ab a2) (ao a2 + (0 : Int).toNat * 4 + 1))] (by kernel_rfl) fun b => ?_
      obtain ⟨q4, hc4, hst⟩ := dsl_cells hst (show gt [x8] 0 = some x8 from rfl)
      have hst := hst.drop
      refine L_op rfl (O_run (v := S x8.now.s) (w' := w) (R_loadAt (off := ao a2 + (0 : Int).toNat * 4) (j := 1) hc4 rfl rfl) rfl rfl ?_)
      refine L_pure 2 [(4, S x8.now.s), (5, I 0)] (by kernel_rfl) fun b => ?_
      refine wpL_nil ?_
      refine th_n ?_
      refine wp_ret ?_
      refine ret2 rfl rfl rfl ?_
      obtain rfl := Option.some.inj hr
      have hst := (((hst.pull 3).pull 3).cut 2 2)
      exact hR _ hst
def platter_Disk_Write (k : Nat) (x1 : Int) (x2 : Int) (x3 : Bool) (x4 : Int) (x5 : (List ((List UInt8) × (Option T_platter_file)))) (x6 : (List UInt8)) (x7 : (List UInt8)) : Option (Int × Int × Int × (List ((List UInt8) × (Option T_platter_file)))) := (Option.bind (meter_Luck_Try k x1 x2 x3 x4 x5) fun y3 => (if (y3.1 != 0) = true then some (y3.1, x2, y3.2, x5) else (if (sEq x6 ([])) = true then some ((1 : Int), x2, y3.2, x5) else (Option.bind (platter_Disk_put k x1 x2 x3 y3.2 x5 x6 (T_platter_text.mk true x7)) fun y4 => some (y4.1, y4.2.1, y3.2, y4.2.2)))))
set_option maxRecDepth 100000 in
set_option maxHeartbeats 4000000 in
theorem platter_Disk_Write_ok {G w : World} {F : List HP} {R : Ending → World → Prop} (k : Nat) (x1 : Int) (x2 : Int) (x3 : Bool) (x4 : Int) (x5 : (List ((List UInt8) × (Option T_platter_file)))) (x6 : (List UInt8)) (x7 : (List UInt8)) (p1 : Nat) (p2 : Nat) (r : (Int × Int × Int × (List ((List UInt8) × (Option T_platter_file))))) (hst : St G w (blk p1 (cl [I x1, I x2, .bool x3, I x4, .map (some p2)] 42) :: mpr S (rPt r_T_platter_file) p2 x5 :: F)) (hr : platter_Disk_Write k x1 x2 x3 x4 x5 x6 x7 = some r)
    (hR : ∀ w', St G w' (blk p1 (cl [I x1, I r.2.1, .bool x3, I r.2.2.1, .map (some p2)] 42) :: mpr S (rPt r_T_platter_file) p2 r.2.2.2 :: F) → R (.returned (I r.1)) w') :
    Calls Try.prog 16 #[pt p1 0, S x6, S x7] w R := by
  unfold platter_Disk_Write at hr
  refine enter Try.func16 rfl [(0, pt p1 0), (1, S x6), (2, S x7)] rfl rfl fun b => ?_
  refine wp_seq ?_
  refine wp_reg ?_
  refine L_pure 1 [(0, pt p1 0), (1, S x6), (2, S x7)] (by kernel_rfl) fun b => ?_
  refine wpL_nil ?_
  refine th_n ?_
  refine wp_seq ?_
  refine wp_seq ?_
  refine wp_reg ?_
  refine L_pure 3 [(0, pt p1 0), (1, S x6), (2, S x7), (10, pt p1 2)] (by kernel_rfl) fun b => ?_
  obtain ⟨y3, hy3, hr⟩ := bnd hr
  refine L_op rfl (O_call (vs := #[pt p1 2]) Try.call39 (by kernel_rfl) (meter_Luck_Try_ok k x1 x2 x3 x4 x5 p1 p2 y3 ((hst.pull 1).pull 1) hy3 fun w hst => ?_))
  refine CK_ret rfl ?_
  refine L_pure 1 [(0, pt p1 0), (1, S x6), (2, S x7), (7, I y3.1)] (by kernel_rfl) fun b => ?_
  refine wpL_nil ?_
  refine th_n ?_
  refine wp_seq ?_
  refine wp_reg ?_
  refine L_pure 2 [(0, pt p1 0), (1, S x6), (2, S x7), (7, I y3.1), (13, .bool (y3.1 != 0))] (by kernel_rfl) fun b => ?_
  refine wpL_nil ?_
  refine th_n ?_
  refine wp_cond_mkF (t := (y3.1 != 0)) rfl (fun h => ?_) (fun h => ?_)
  · have hr := (if_pos h).symm.trans hr
    refine wp_seq ?_
    refine wp_reg ?_
    refine L_pure 2 [(6, I y3.1)] (by kernel_rfl) fun b => ?_
    refine wpL_nil ?_
    refine th_n ?_
    refine wp_ret ?_
    refine th_r ?_
    refine ret1 rfl rfl ?_
    obtain rfl := Option.some.inj hr
    have hst := ((hst.pull 1).pull 1)
    exact hR _ hst
  · have hr := (if_neg (by rw [h]; exact Bool.false_ne_true)).symm.trans hr
    refine wp_skip ?_
    refine th_n ?_
    refine wp_seq ?_
    refine wp_seq ?_
    refine wp_reg ?_
    refine L_pure 2 [(0, pt p1 0), (1, S x6), (2, S x7), (16, .bool (sEq x6 ([])))] (by kernel_rfl) fun b => ?_
    refine wpL_nil ?_
    refine th_n ?_
    refine wp_cond_mkF (t := (sEq x6 ([]))) rfl (fun h => ?_) (fun h => ?_)
    · have hr := (if_pos h).symm.trans hr
      refine wp_seq ?_
      refine wp_reg ?_
      refine L_pure 1 [(6, I 1)] (by kernel_rfl) fun b => ?_
      refine wpL_nil ?_
      refine th_n ?_
      refine wp_ret ?_
      refine th_r ?_
      refine ret1 rfl rfl ?_
      obtain rfl := Option.some.inj hr
      have hst := ((hst.pull 1).pull 1)
      exact hR _ hst
    · have hr := (if_neg (by rw [h]; exact Bool.false_ne_true)).symm.trans hr
      refine wp_skip ?_
      refine th_n ?_
      refine wp_seq ?_
      refine wp_reg ?_
      refine L_pure 4 [(17, pt p1 0), (18, S x6), (20, .agg #[.bool true, S x7])] (by kernel_rfl) fun b => ?_
      obtain ⟨y4, hy4, hr⟩ := bnd hr
      refine L_op rfl (O_call (vs := #[pt p1 0, S x6, .agg #[.bool true, S x7]]) Try.call40 (by kernel_rfl) (platter_Disk_put_ok k x1 x2 x3 y3.2 x5 x6 (T_platter_text.mk true x7) p1 p2 y4 ((hst.pull 1).pull 1) hy4 fun w hst => ?_))
      refine CK_ret rfl ?_
      refine L_pure 1 [(6, I y4.1)] (by kernel_rfl) fun b => ?_
      refine wpL_nil ?_
      refine th_n ?_
      refine wp_ret ?_
      refine ret1 rfl rfl ?_
      obtain rfl := Option.some.inj hr
      have hst := ((hst.pull 1).pull 1)
      exact hR _ hst
def meter_Meter_Used (_k : Nat) (_x1 : Int) (x2 : Int) (_x3 : Bool) (_x4 : Int) (_x5 : (List ((List UInt8) × (Option T_platter_file)))) : Option (Int) := some (x2)
set_option maxRecDepth 100000 in
set_option maxHeartbeats 4000000 in
theorem meter_Meter_Used_ok {G w : World} {F : List HP} {R : Ending → World → Prop} (k : Nat) (x1 : Int) (x2 : Int) (x3 : Bool) (x4 : Int) (x5 : (List ((List UInt8) × (Option T_platter_file)))) (p1 : Nat) (p2 : Nat) (r : (Int)) (hst : St G w (blk p1 (cl [I x1, I x2, .bool x3, I x4, .map (some p2)] 42) :: mpr S (rPt r_T_platter_file) p2 x5 :: F)) (hr : meter_Meter_Used k x1 x2 x3 x4 x5 = some r)
    (hR : ∀ w', St G w' (blk p1 (cl [I x1, I x2, .bool x3, I x4, .map (some p2)] 42) :: mpr S (rPt r_T_platter_file) p2 x5 :: F) → R (.returned (I r)) w') :
    Calls Try.prog 21 #[pt p1 0] w R := by
  unfold meter_Meter_Used at hr
  refine enter Try.func21 rfl [(0, pt p1 0)] rfl rfl fun b => ?_
  refine wp_seq ?_
  refine wp_reg ?_
  refine L_pure 1 [(0, pt p1 0)] (by kernel_rfl) fun b => ?_
  refine wpL_nil ?_
  refine th_n ?_
  refine wp_seq ?_
  refine wp_reg ?_
  refine L_pure 3 [(5, pt p1 1)] (by kernel_rfl) fun b => ?_
  refine L_op rfl (O_run (v := I x2) (w' := w) (R_load hst rfl rfl) rfl rfl ?_)
  refine L_pure 1 [(2, I x2)] (by kernel_rfl) fun b => ?_
  refine wpL_nil ?_
  refine th_n ?_
  refine wp_ret ?_
  refine ret1 rfl rfl ?_
  obtain rfl := Option.some.inj hr
  have hst := ((hst.pull 1).pull 1)
  exact hR _ hst
def glacierlaw04_awake (k : Nat) : Option (Bool) := (Option.bind (platter_New k 100) fun y13 => (Option.bind (Option.bind (platter_Disk_Append k y13.1 y13.2.1 y13.2.2.1 y13.2.2.2.1 y13.2.2.2.2 ([97]) ([120, 121])) fun y15 => (if (y15.1 != 0) = true then some (true, y15.2.1, y15.2.2.1, y15.2.2.2) else (Option.bind (platter_Disk_Sync k y13.1 y15.2.1 y13.2.2.1 y15.2.2.1 y15.2.2.2 ([])) fun y16 => (if (y16.1 != 0) = true then some (true, y16.2.1, y16.2.2.1, y16.2.2.2) else (Option.bind (platter_Disk_Append k y13.1 y16.2.1 y13.2.2.1 y16.2.2.1 y16.2.2.2 ([97]) ([122, 49])) fun y17 => some ((y17.1 != 0), y17.2.1, y17.2.2.1, y17.2.2.2)))))) fun y14 => (if y14.1 = true then some (false) else (Option.bind (platter_Disk_Crash k y13.1 y14.2.1 y13.2.2.1 y14.2.2.1 y14.2.2.2 ([1])) fun y18 => (Option.bind (platter_Disk_Read k y13.1 y18.1 y13.2.2.1 y14.2.2.1 y18.2 ([97])) fun y19 => (Option.bind (platter_Disk_Write k y13.1 y18.1 y13.2.2.1 y19.2.2 y18.2 ([97]) ([113])) fun y20 => (Option.bind (platter_Disk_Crash k y13.1 y20.2.1 y13.2.2.1 y20.2.2.1 y20.2.2.2 ([2])) fun y21 => (Option.bind (platter_Disk_Read k y13.1 y21.1 y13.2.2.1 y20.2.2.1 y21.2 ([97])) fun y22 => (Option.bind (if (y19.2.1 == 0) = true then (if (y20.1 == 0) = true then (if (y22.2.1 == 0) = true then (if (sEq y19.1 ([120, 121, 122])) = true then (if (sEq y22.1 ([120, 121, 122])) = true then (Option.bind (meter_Meter_Used k y13.1 y21.1 y13.2.2.1 y22.2.2 y21.2) fun y24 => some ((y24 == 3))) else some (false)) else some (false)) else some (false)) else some (false)) else some (false)) fun y23 => some (y23))))))))))
set_option maxRecDepth 100000 in
set_option maxHeartbeats 4000000 in
theorem glacierlaw04_awake_ok {G w : World} {F : List HP} {R : Ending → World → Prop} (k : Nat) (r : (Bool)) (hst : St G w (F)) (hr : glacierlaw04_awake k = some r)
    (hR : ∀ w', St G w' (F) → R (.returned (.bool r)) w') :
    Calls Try.prog 15 #[] w R := by
  unfold glacierlaw04_awake at hr
  refine enter Try.func15 rfl [] rfl rfl fun b => ?_
  refine wp_seq ?_
  refine wp_reg ?_
  refine L_pure 1 [] (by kernel_rfl) fun b => ?_
  refine wpL_nil ?_
  refine th_n ?_
  refine wp_seq ?_
  refine wp_reg ?_
  obtain ⟨y13, hy13, hr⟩ := bnd hr
  refine L_op rfl (O_call (vs := #[I 100]) Try.call14 (by kernel_rfl) (platter_New_ok k 100 y13 hst hy13 fun p5 p6 w hst => ?_))
  refine CK_ret rfl ?_
  refine L_pure 1 [(1, pt p5 0)] (by kernel_rfl) fun b => ?_
  refine wpL_nil ?_
  refine th_n ?_
  refine wp_seq ?_
  obtain ⟨y14, hy14, hk3⟩ := bnd hr
  clear hr
  refine wp_seq_cut (fun a w => ∃ (b : Nat → Value), a = mkF 68 b [(1, pt p5 0), (24, .bool y14.1)] ∧ St G w (blk p5 (cl [I y13.1, I y14.2.1, .bool y13.2.2.1, I y14.2.2.1, .map (some p6)] 42) :: mpr S (rPt r_T_platter_file) p6 y14.2.2.2 :: F)) ?_ ?_
  · rintro _ w ⟨b, rfl, hst⟩
    have hr := hk3
    refine wp_cond_mkF (t := y14.1) rfl (fun h => ?_) (fun h => ?_)
    · have hr := (if_pos h).symm.trans hr
      refine wp_seq ?_
      refine wp_reg ?_
      refine L_pure 1 [(0, .bool false)] (by kernel_rfl) fun b => ?_
      refine wpL_nil ?_
      refine th_n ?_
      refine wp_ret ?_
      refine th_r ?_
      refine ret1 rfl rfl ?_
      obtain rfl := Option.some.inj hr
      have hst := (hst.cut 0 2)
      exact hR _ hst
    · have hr := (if_neg (by rw [h]; exact Bool.false_ne_true)).symm.trans hr
      refine wp_skip ?_
      refine th_n ?_
      refine wp_seq ?_
      refine wp_reg ?_
      refine L_pure 1 [(1, pt p5 0), (25, pt p5 0)] (by kernel_rfl) fun b => ?_
      refine L_op rfl (O_bs (T := 3) [I 1] #[(0, I 1)] hst (by kernel_rfl) (by kernel_rfl) rfl fun p7 w hst => ?_)
      have hst := osl_of_blk0 (ecs := [[I 1]]) (rI .i64) [1] rfl (fun m => ⟨⟨(), rfl, trivial⟩, trivial⟩) rfl hst
      obtain ⟨y18, hy18, hr⟩ := bnd hr
      have hst := osl_freeze hst
      refine L_op rfl (O_call (vs := #[pt p5 0, .slice (some ⟨p7, 0, none⟩) ([1]).length 1]) Try.call19 (by kernel_rfl) (platter_Disk_Crash_ok k y13.1 y14.2.1 y13.2.2.1 y14.2.2.1 y14.2.2.2 ([1]) p5 p6 (some ⟨p7, 0, none⟩) 1 y18 ((hst.pull 2).pull 2) hy18 fun w hst => ?_))
      refine CK_ret rfl ?_
      refine wpL_nil ?_
      refine th_n ?_
      refine wp_seq ?_
      refine wp_reg ?_
      refine L_pure 1 [(1, pt p5 0), (29, pt p5 0)] (by kernel_rfl) fun b => ?_
      obtain ⟨y19, hy19, hr⟩ := bnd hr
      refine L_op rfl (O_call (vs := #[pt p5 0, S ([97])]) Try.call20 (by kernel_rfl) (platter_Disk_Read_ok k y13.1 y18.1 y13.2.2.1 y14.2.2.1 y18.2 ([97]) p5 p6 y19 ((hst.pull 1).pull 1) hy19 fun w hst => ?_))
      refine CK_ret rfl ?_
      refine L_pure 5 [(1, pt p5 0), (2, S y19.1), (3, I y19.2.1)] (by kernel_rfl) fun b => ?_
      refine wpL_nil ?_
      refine th_n ?_
      refine wp_seq ?_
      refine wp_reg ?_
      refine L_pure 1 [(1, pt p5 0), (2, S y19.1), (3, I y19.2.1), (33, pt p5 0)] (by kernel_rfl) fun b => ?_
      obtain ⟨y20, hy20, hr⟩ := bnd hr
      refine L_op rfl (O_call (vs := #[pt p5 0, S ([97]), S ([113])]) Try.call16 (by kernel_rfl) (platter_Disk_Write_ok k y13.1 y18.1 y13.2.2.1 y19.2.2 y18.2 ([97]) ([113]) p5 p6 y20 ((hst.pull 1).pull 1) hy20 fun w hst => ?_))
      refine CK_ret rfl ?_
      refine L_pure 1 [(1, pt p5 0), (2, S y19.1), (3, I y19.2.1), (4, I y20.1)] (by kernel_rfl) fun b => ?_
      refine wpL_nil ?_
      refine th_n ?_
      refine wp_seq ?_
      refine wp_reg ?_
      refine L_pure 1 [(1, pt p5 0), (2, S y19.1), (3, I y19.2.1), (4, I y20.1), (35, pt p5 0)] (by kernel_rfl) fun b => ?_
      refine L_op rfl (O_bs (T := 3) [I 2] #[(0, I 2)] hst (by kernel_rfl) (by kernel_rfl) rfl fun p8 w hst => ?_)
      have hst := osl_of_blk0 (ecs := [[I 2]]) (rI .i64) [2] rfl (fun m => ⟨⟨(), rfl, trivial⟩, trivial⟩) rfl hst
      obtain ⟨y21, hy21, hr⟩ := bnd hr
      have hst := osl_freeze hst
      refine L_op rfl (O_call (vs := #[pt p5 0, .slice (some ⟨p8, 0, none⟩) ([2]).length 1]) Try.call19 (by kernel_rfl) (platter_Disk_Crash_ok k y13.1 y20.2.1 y13.2.2.1 y20.2.2.1 y20.2.2.2 ([2]) p5 p6 (some ⟨p8, 0, none⟩) 1 y21 ((hst.pull 2).pull 2) hy21 fun w hst => ?_))
      refine CK_ret rfl ?_
      refine wpL_nil ?_
      refine th_n ?_
      refine wp_seq ?_
      refine wp_reg ?_
      refine L_pure 1 [(1, pt p5 0), (2, S y19.1), (3, I y19.2.1), (4, I y20.1), (39, pt p5 0)] (by kernel_rfl) fun b => ?_
      obtain ⟨y22, hy22, hr⟩ := bnd hr
      refine L_op rfl (O_call (vs := #[pt p5 0, S ([97])]) Try.call20 (by kernel_rfl) (platter_Disk_Read_ok k y13.1 y21.1 y13.2.2.1 y20.2.2.1 y21.2 ([97]) p5 p6 y22 ((hst.pull 1).pull 1) hy22 fun w hst => ?_))
      refine CK_ret rfl ?_
      refine L_pure 5 [(1, pt p5 0), (2, S y19.1), (3, I y19.2.1), (4, I y20.1), (5, S y22.1), (6, I y22.2.1)] (by kernel_rfl) fun b => ?_
      refine wpL_nil ?_
      refine th_n ?_
      obtain ⟨y23, hy23, hk4⟩ := bnd hr
      clear hr
      refine wp_seq_cut (fun a w => ∃ (b : Nat → Value), a = mkF 68 b [(0, .bool y23)] ∧ St G w (blk p5 (cl [I y13.1, I y21.1, .bool y13.2.2.1, I y22.2.2, .map (some p6)] 42) :: mpr S (rPt r_T_platter_file) p6 y21.2 :: dsl (rI .i64) (some ⟨p8, 0, none⟩) 1 ([2]) :: dsl (rI .i64) (some ⟨p7, 0, none⟩) 1 ([1]) :: F)) ?_ ?_
      · rintro _ w ⟨b, rfl, hst⟩
        have hr := hk4
        refine wp_ret ?_
        refine ret1 rfl rfl ?_
        obtain rfl := Option.some.inj hr
        have hst := (hst.cut 0 4)
        exact hR _ hst
      · have hr := hy23
        refine wp_reg ?_
        refine L_pure 3 [(1, pt p5 0), (2, S y19.1), (4, I y20.1), (5, S y22.1), (6, I y22.2.1), (45, .bool (y19.2.1 == 0))] (by kernel_rfl) fun b => ?_
        by_cases h : (y19.2.1 == 0) = true
        · have hr := (if_pos h).symm.trans hr
          refine L_keep ((45, .bool (y19.2.1 == 0)) :: [(1, pt p5 0), (2, S y19.1), (4, I y20.1), (5, S y22.1), (6, I y22.2.1)]) rfl fun b => ?_
          refine L_bool h ?_
          refine L_pure 4 [(1, pt p5 0), (2, S y19.1), (5, S y22.1), (6, I y22.2.1), (49, .bool (y20.1 == 0))] (by kernel_rfl) fun b => ?_
          by_cases h : (y20.1 == 0) = true
          · have hr := (if_pos h).symm.trans hr
            refine L_keep ((49, .bool (y20.1 == 0)) :: [(1, pt p5 0), (2, S y19.1), (5, S y22.1), (6, I y22.2.1)]) rfl fun b => ?_
            refine L_bool h ?_
            refine L_pure 4 [(1, pt p5 0), (2, S y19.1), (5, S y22.1), (53, .bool (y22.2.1 == 0))] (by kernel_rfl) fun b => ?_
            by_cases h : (y22.2.1 == 0) = true
            · have hr := (if_pos h).symm.trans hr
              refine L_keep ((53, .bool (y22.2.1 == 0)) :: [(1, pt p5 0), (2, S y19.1), (5, S y22.1)]) rfl fun b => ?_
              refine L_bool h ?_
              refine L_pure 4 [(1, pt p5 0), (5, S y22.1), (57, .bool (sEq y19.1 ([120, 121, 122])))] (by kernel_rfl) fun b => ?_
              by_cases h : (sEq y19.1 ([120, 121, 122])) = true
              · have hr := (if_pos h).symm.trans hr
                refine L_keep ((57, .bool (sEq y19.1 ([120, 121, 122]))) :: [(1, pt p5 0), (5, S y22.1)]) rfl fun b => ?_
                refine L_bool h ?_
                refine L_pure 4 [(1, pt p5 0), (61, .bool (sEq y22.1 ([120, 121, 122])))] (by kernel_rfl) fun b => ?_
                by_cases h : (sEq y22.1 ([120, 121, 122])) = true
                · have hr := (if_pos h).symm.trans hr
                  refine L_keep ((61, .bool (sEq y22.1 ([120, 121, 122]))) :: [(1, pt p5 0)]) rfl fun b => ?_
                  refine L_bool h ?_
                  refine L_pure 3 [(61, .bool true), (64, pt p5 0)] (by kernel_rfl) fun b => ?_
                  obtain ⟨y24, hy24, hr⟩ := bnd hr
                  refine L_op rfl (O_call (vs := #[pt p5 0]) Try.call21 (by kernel_rfl) (meter_Meter_Used_ok k y13.1 y21.1 y13.2.2.1 y22.2.2 y21.2 p5 p6 y24 ((hst.pull 1).pull 1) hy24 fun w hst => ?_))
                  refine CK_ret rfl ?_
                  refine L_pure 3 [(0, .bool (y24 == 3))] (by kernel_rfl) fun b => ?_
                  refine wpL_nil ?_
                  refine th_n ?_
                  obtain rfl := Option.some.inj hr
                  have hst := ((((hst.pull 3).pull 3).pull 3).pull 3)
                  exact (kpX [(0, .bool (y24 == 3))] rfl hst)
                · have hr := (if_neg h).symm.trans hr
                  refine L_keep ((61, .bool (sEq y22.1 ([120, 121, 122]))) :: [(1, pt p5 0)]) rfl fun b => ?_
                  refine L_bool (eq_false_of_ne_true h) ?_
                  refine L_pure 7 [(0, .bool false)] (by kernel_rfl) fun b => ?_
                  refine wpL_nil ?_
                  refine th_n ?_
                  obtain rfl := Option.some.inj hr
                  have hst := ((((hst.pull 3).pull 3).pull 3).pull 3)
                  exact (kpX [(0, .bool false)] rfl hst)
              · have hr := (if_neg h).symm.trans hr
                refine L_keep ((57, .bool (sEq y19.1 ([120, 121, 122]))) :: [(1, pt p5 0), (5, S y22.1)]) rfl fun b => ?_
                refine L_bool (eq_false_of_ne_true h) ?_
                refine L_pure 11 [(0, .bool false)] (by kernel_rfl) fun b => ?_
                refine wpL_nil ?_
                refine th_n ?_
                obtain rfl := Option.some.inj hr
                have hst := ((((hst.pull 3).pull 3).pull 3).pull 3)
                exact (kpX [(0, .bool false)] rfl hst)
            · have hr := (if_neg h).symm.trans hr
              refine L_keep ((53, .bool (y22.2.1 == 0)) :: [(1, pt p5 0), (2, S y19.1), (5, S y22.1)]) rfl fun b => ?_
              refine L_bool (eq_false_of_ne_true h) ?_
              refine L_pure 15 [(0, .bool false)] (by kernel_rfl) fun b => ?_
              refine wpL_nil ?_
              refine th_n ?_
              obtain rfl := Option.some.inj hr
              have hst := ((((hst.pull 3).pull 3).pull 3).pull 3)
              exact (kpX [(0, .bool false)] rfl hst)
          · have hr := (if_neg h).symm.trans hr
            refine L_keep ((49, .bool (y20.1 == 0)) :: [(1, pt p5 0), (2, S y19.1), (5, S y22.1), (6, I y22.2.1)]) rfl fun b => ?_
            refine L_bool (eq_false_of_ne_true h) ?_
            refine L_pure 19 [(0, .bool false)] (by kernel_rfl) fun b => ?_
            refine wpL_nil ?_
            refine th_n ?_
            obtain rfl := Option.some.inj hr
            have hst := ((((hst.pull 3).pull 3).pull 3).pull 3)
            exact (kpX [(0, .bool false)] rfl hst)
        · have hr := (if_neg h).symm.trans hr
          refine L_keep ((45, .bool (y19.2.1 == 0)) :: [(1, pt p5 0), (2, S y19.1), (4, I y20.1), (5, S y22.1), (6, I y22.2.1)]) rfl fun b => ?_
          refine L_bool (eq_false_of_ne_true h) ?_
          refine L_pure 23 [(0, .bool false)] (by kernel_rfl) fun b => ?_
          refine wpL_nil ?_
          refine th_n ?_
          obtain rfl := Option.some.inj hr
          have hst := ((((hst.pull 3).pull 3).pull 3).pull 3)
          exact (kpX [(0, .bool false)] rfl hst)
  · have hr := hy14
    refine wp_reg ?_
    refine L_pure 4 [(1, pt p5 0), (10, .bool false), (11, pt p5 0)] (by kernel_rfl) fun b => ?_
    obtain ⟨y15, hy15, hr⟩ := bnd hr
    refine L_op rfl (O_call (vs := #[pt p5 0, S ([97]), S ([120, 121])]) Try.call18 (by kernel_rfl) (platter_Disk_Append_ok k y13.1 y13.2.1 y13.2.2.1 y13.2.2.2.1 y13.2.2.2.2 ([97]) ([120, 121]) p5 p6 y15 ((hst.pull 1).pull 1) hy15 fun w hst => ?_))
    refine CK_ret rfl ?_
    refine L_pure 3 [(1, pt p5 0), (15, .bool (y15.1 != 0))] (by kernel_rfl) fun b => ?_
    by_cases h : (y15.1 != 0) = true
    · have hr := (if_pos h).symm.trans hr
      refine L_keep ((15, .bool (y15.1 != 0)) :: [(1, pt p5 0)]) rfl fun b => ?_
      refine L_bool h ?_
      refine L_pure 9 [(1, pt p5 0), (24, .bool true)] (by kernel_rfl) fun b => ?_
      refine wpL_nil ?_
      refine th_n ?_
      obtain rfl := Option.some.inj hr
      have hst := ((hst.pull 1).pull 1)
      exact (kpX [(1, pt p5 0), (24, .bool true)] rfl hst)
    · have hr := (if_neg h).symm.trans hr
      refine L_keep ((15, .bool (y15.1 != 0)) :: [(1, pt p5 0)]) rfl fun b => ?_
      refine L_bool (eq_false_of_ne_true h) ?_
      refine L_pure 1 [(1, pt p5 0), (15, .bool false), (16, pt p5 0)] (by kernel_rfl) fun b => ?_
      obtain ⟨y16, hy16, hr⟩ := bnd hr
      have hst := dsl_nil rS hst
      refine L_op rfl (O_call (vs := #[pt p5 0, .slice none 0 0]) Try.call17 (by kernel_rfl) (platter_Disk_Sync_ok k y13.1 y15.2.1 y13.2.2.1 y15.2.2.1 y15.2.2.2 ([]) p5 p6 none 0 y16 ((hst.pull 2).pull 2) hy16 fun w hst => ?_))
      refine CK_ret rfl ?_
      refine L_pure 3 [(1, pt p5 0), (20, .bool (y16.1 != 0))] (by kernel_rfl) fun b => ?_
      by_cases h : (y16.1 != 0) = true
      · have hr := (if_pos h).symm.trans hr
        refine L_keep ((20, .bool (y16.1 != 0)) :: [(1, pt p5 0)]) rfl fun b => ?_
        refine L_bool h ?_
        refine L_pure 4 [(1, pt p5 0), (24, .bool true)] (by kernel_rfl) fun b => ?_
        refine wpL_nil ?_
        refine th_n ?_
        obtain rfl := Option.some.inj hr
        have hst := (((hst.pull 1).pull 1).cut 2 1)
        exact (kpX [(1, pt p5 0), (24, .bool true)] rfl hst)
      · have hr := (if_neg h).symm.trans hr
        refine L_keep ((20, .bool (y16.1 != 0)) :: [(1, pt p5 0)]) rfl fun b => ?_
        refine L_bool (eq_false_of_ne_true h) ?_
        refine L_pure 1 [(1, pt p5 0), (20, .bool false), (21, pt p5 0)] (by kernel_rfl) fun b => ?_
        obtain ⟨y17, hy17, hr⟩ := bnd hr
        refine L_op rfl (O_call (vs := #[pt p5 0, S ([97]), S ([122, 49])]) Try.call18 (by kernel_rfl) (platter_Disk_Append_ok k y13.1 y16.2.1 y13.2.2.1 y16.2.2.1 y16.2.2.2 ([97]) ([122, 49]) p5 p6 y17 ((hst.pull 1).pull 1) hy17 fun w hst => ?_))
        refine CK_ret rfl ?_
        refine L_pure 2 [(1, pt p5 0), (24, .bool (y17.1 != 0))] (by kernel_rfl) fun b => ?_
        refine wpL_nil ?_
        refine th_n ?_
        obtain rfl := Option.some.inj hr
        have hst := (((hst.pull 1).pull 1).cut 2 1)
        exact (kpX [(1, pt p5 0), (24, .bool (y17.1 != 0))] rfl hst)
def platter_Disk_Remove_l1 (k : Nat) (x1 : Int) (x2 : Int) (x3 : Bool) (x5 : (List ((List UInt8) × (Option T_platter_file)))) (x6 : (List (List UInt8))) (y6 : (Int × Int)) : Nat → Int → Option (Flow (Int × Int × Int × (List ((List UInt8) × (Option T_platter_file)))) (Unit))
  | 0, _ => none
  | j + 1, v10 => (if decide (v10 < (x6.length : Int)) = true then (Option.bind (gt x6 v10) fun x10 => (Option.bind (platter_Disk_get k x1 x2 x3 y6.2 x5 x10) fun y8 => (Option.bind y8 fun x11 => (if (!x11.now.there) = true then some (Flow.ret ((5 : Int), x2, y6.2, x5)) else (platter_Disk_Remove_l1 k x1 x2 x3 x5 x6 y6 j (IntKind.i64.wrap (v10 + 1))))))) else some (Flow.go ()))
def platter_Disk_Remove_l2 (k : Nat) (x1 : Int) (x3 : Bool) (x6 : (List (List UInt8))) (y6 : (Int × Int)) : Nat → Int → Int → (List ((List UInt8) × (Option T_platter_file))) → Option (Flow (Int × Int × Int × (List ((List UInt8) × (Option T_platter_file)))) (Int × (List ((List UInt8) × (Option T_platter_file)))))
  | 0, _, _, _ => none
  | j + 1, v14, v15, v16 => (if decide (v14 < (x6.length : Int)) = true then (Option.bind (gt x6 v14) fun x12 => (Option.bind (platter_Disk_put k x1 v15 x3 y6.2 v16 x12 (T_platter_text.mk false ([]))) fun y10 => (if (y10.1 != 0) = true then some (Flow.ret (y10.1, y10.2.1, y6.2, y10.2.2)) else (platter_Disk_Remove_l2 k x1 x3 x6 y6 j (IntKind.i64.wrap (v14 + 1)) y10.2.1 y10.2.2)))) else some (Flow.go (v15, v16)))
def platter_Disk_Remove (k : Nat) (x1 : Int) (x2 : Int) (x3 : Bool) (x4 : Int) (x5 : (List ((List UInt8) × (Option T_platter_file)))) (x6 : (List (List UInt8))) : Option (Int × Int × Int × (List ((List UInt8) × (Option T_platter_file)))) := (Option.bind (meter_Luck_Try k x1 x2 x3 x4 x5) fun y6 => (if (y6.1 != 0) = true then some (y6.1, x2, y6.2, x5) else (Option.bind (platter_Disk_Remove_l1 k x1 x2 x3 x5 x6 y6 k (0 : Int)) fun y7 => (match y7 with | Flow.ret r => some r | Flow.go _ => (Option.bind (platter_Disk_Remove_l2 k x1 x3 x6 y6 k (0 : Int) x2 x5) fun y9 => (match y9 with | Flow.ret r => some r | Flow.go z4 => some ((0 : Int), z4.1, y6.2, z4.2)))))))
set_option maxRecDepth 100000 in
set_option maxHeartbeats 4000000 in
theorem platter_Disk_Remove_ok {G w : World} {F : List HP} {R : Ending → World → Prop} (k : Nat) (x1 : Int) (x2 : Int) (x3 : Bool) (x4 : Int) (x5 : (List ((List UInt8) × (Option T_platter_file)))) (x6 : (List (List UInt8))) (p1 : Nat) (p2 : Nat) (a1 : Option Addr) (c1 : Nat) (r : (Int × Int × Int × (List ((List UInt8) × (Option T_platter_file))))) (hst : St G w (blk p1 (cl [I x1, I x2, .bool x3, I x4, .map (some p2)] 42) :: mpr S (rPt r_T_platter_file) p2 x5 :: dsl rS a1 c1 x6 :: F)) (hr : platter_Disk_Remove k x1 x2 x3 x4 x5 x6 = some r)
    (hR : ∀ w', St G w' (blk p1 (cl [I x1, I r.2.1, .bool x3, I r.2.2.1, .map (some p2)] 42) :: mpr S (rPt r_T_platter_file) p2 r.2.2.2 :: dsl rS a1 c1 x6 :: F) → R (.returned (I r.1)) w') :
    Calls Try.prog 23 #[pt p1 0, .slice a1 x6.length c1] w R := by
  unfold platter_Disk_Remove at hr
  refine enter Try.func23 rfl [(0, pt p1 0), (1, .slice a1 x6.length c1)] rfl rfl fun b => ?_
  refine wp_seq ?_
  refine wp_reg ?_
  refine L_pure 1 [(0, pt p1 0), (1, .slice a1 x6.length c1)] (by kernel_rfl) fun b => ?_
  refine wpL_nil ?_
  refine th_n ?_
  refine wp_seq ?_
  refine wp_seq ?_
  refine wp_reg ?_
  refine L_pure 3 [(0, pt p1 0), (1, .slice a1 x6.length c1), (13, pt p1 2)] (by kernel_rfl) fun b => ?_
  obtain ⟨y6, hy6, hr⟩ := bnd hr
  refine L_op rfl (O_call (vs := #[pt p1 2]) Try.call39 (by kernel_rfl) (meter_Luck_Try_ok k x1 x2 x3 x4 x5 p1 p2 y6 ((hst.pull 1).pull 1) hy6 fun w hst => ?_))
  refine CK_ret rfl ?_
  refine L_pure 1 [(0, pt p1 0), (1, .slice a1 x6.length c1), (5, I y6.1)] (by kernel_rfl) fun b => ?_
  refine wpL_nil ?_
  refine th_n ?_
  refine wp_seq ?_
  refine wp_reg ?_
  refine L_pure 2 [(0, pt p1 0), (1, .slice a1 x6.length c1), (5, I y6.1), (16, .bool (y6.1 != 0))] (by kernel_rfl) fun b => ?_
  refine wpL_nil ?_
  refine th_n ?_
  refine wp_cond_mkF (t := (y6.1 != 0)) rfl (fun h => ?_) (fun h => ?_)
  · have hr := (if_pos h).symm.trans hr
    refine wp_seq ?_
    refine wp_reg ?_
    refine L_pure 2 [(4, I y6.1)] (by kernel_rfl) fun b => ?_
    refine wpL_nil ?_
    refine th_n ?_
    refine wp_ret ?_
    refine th_r ?_
    refine ret1 rfl rfl ?_
    obtain rfl := Option.some.inj hr
    have hst := (((hst.pull 2).pull 2).pull 2)
    exact hR _ hst
  · have hr := (if_neg (by rw [h]; exact Bool.false_ne_true)).symm.trans hr
    refine wp_skip ?_
    refine th_n ?_
    refine wp_seq ?_
    refine wp_seq ?_
    refine wp_reg ?_
    refine L_pure 3 [(0, pt p1 0), (1, .slice a1 x6.length c1), (18, .slice a1 x6.length c1), (19, I (x6.length : Int)), (20, I 0)] (by kernel_rfl) fun b => ?_
    refine wpL_nil ?_
    refine th_n ?_
    obtain ⟨y7, hy7, hk3⟩ := bnd hr
    clear hr
    refine Go.Hx.wp_cut (fun a w => ∃ (z3 : Unit) (b : Nat → Value), y7 = .go z3 ∧ a = mkF 47 b [(0, pt p1 0), (1, .slice a1 x6.length c1)] ∧ St G w (blk p1 (cl [I x1, I x2, .bool x3, I y6.2, .map (some p2)] 42) :: mpr S (rPt r_T_platter_file) p2 x5 :: dsl rS a1 c1 x6 :: F)) ?_ ?_
    · rintro _ w ⟨z3, b, rfl, rfl, hst⟩
      have hr := hk3
      refine th_n ?_
      refine wp_seq ?_
      refine wp_seq ?_
      refine wp_reg ?_
      refine L_pure 3 [(0, pt p1 0), (33, .slice a1 x6.length c1), (34, I (x6.length : Int)), (35, I 0)] (by kernel_rfl) fun b => ?_
      refine wpL_nil ?_
      refine th_n ?_
      obtain ⟨y9, hy9, hk4⟩ := bnd hr
      clear hr
      refine Go.Hx.wp_cut (fun a w => ∃ (z4 : Int × (List ((List UInt8) × (Option T_platter_file)))) (b : Nat → Value), y9 = .go z4 ∧ a = mkF 47 b [] ∧ St G w (blk p1 (cl [I x1, I z4.1, .bool x3, I y6.2, .map (some p2)] 42) :: mpr S (rPt r_T_platter_file) p2 z4.2 :: dsl rS a1 c1 x6 :: F)) ?_ ?_
      · rintro _ w ⟨z4, b, rfl, rfl, hst⟩
        have hr := hk4
        refine th_n ?_
        refine wp_seq ?_
        refine wp_reg ?_
        refine L_pure 1 [(4, I 0)] (by kernel_rfl) fun b => ?_
        refine wpL_nil ?_
        refine th_n ?_
        refine wp_ret ?_
        refine ret1 rfl rfl ?_
        obtain rfl := Option.some.inj hr
        have hst := (((hst.pull 2).pull 2).pull 2)
        exact hR _ hst
      · have hst := (((hst.pull 2).pull 2).pull 2)
        refine wp_block ?_
        refine wp_loop_fuel (fun j a w => ∃ (v14 : Int) (v15 : Int) (v16 : (List ((List UInt8) × (Option T_platter_file)))) (b : Nat → Value), a = mkF 47 b [(0, pt p1 0), (33, .slice a1 x6.length c1), (34, I (x6.length : Int)), (35, I v14)] ∧ St G w (blk p1 (cl [I x1, I v15, .bool x3, I y6.2, .map (some p2)] 42) :: mpr S (rPt r_T_platter_file) p2 v16 :: dsl rS a1 c1 x6 :: F) ∧ platter_Disk_Remove_l2 k x1 x3 x6 y6 j v14 v15 v16 = some y9) (k := k) ⟨(0 : Int), x2, x5, (kpX [(0, pt p1 0), (33, .slice a1 x6.length c1), (34, I (x6.length : Int)), (35, I 0)] rfl ⟨hst, hy9⟩)⟩ ?_ ?_
        · rintro _ _ ⟨_, _, _, _, _, _, h⟩
          rw [platter_Disk_Remove_l2] at h
          cases h
        · rintro j _ w ⟨v14, v15, v16, b, rfl, hst, hr⟩
          rw [platter_Disk_Remove_l2] at hr
          refine wp_seq ?_
          refine wp_reg ?_
          refine L_pure 1 [(0, pt p1 0), (33, .slice a1 x6.length c1), (34, I (x6.length : Int)), (35, I v14), (36, .bool (decide (v14 < (x6.length : Int))))] (by kernel_rfl) fun b => ?_
          refine wpL_nil ?_
          refine th_n ?_
          refine wp_seq ?_
          refine wp_cond_mkF (t := decide (v14 < (x6.length : Int))) rfl (fun h => ?_) (fun h => ?_)
          · have hr := (if_pos h).symm.trans hr
            refine wp_skip ?_
            refine th_n ?_
            refine wp_seq ?_
            refine wp_block ?_
            refine wp_seq ?_
            refine wp_reg ?_
            obtain ⟨x12, hx6, hr⟩ := bnd hr
            refine L_op rfl (O_run (v := pt (ab a1) (ao a1 + v14.toNat * 1)) (w' := w) (R_ia L34 rfl rfl (dsl_addr (hst.pull 2) hx6) (gt_some hx6).1 (gt_some hx6).2.1) rfl rfl ?_)
            obtain ⟨q6, hc6, hst⟩ := dsl_cells (hst.pull 2) hx6
            have hst := hst.drop
            refine L_op rfl (O_run (v := S x12) (w' := w) (R_loadAt (off := ao a1 + v14.toNat * 1) (j := 0) hc6 rfl rfl) rfl rfl ?_)
            refine L_pure 1 [(0, pt p1 0), (9, S x12), (33, .slice a1 x6.length c1), (34, I (x6.length : Int)), (35, I v14)] (by kernel_rfl) fun b => ?_
            refine wpL_nil ?_
            refine th_n ?_
            refine wp_seq ?_
            refine wp_reg ?_
            refine L_pure 3 [(0, pt p1 0), (33, .slice a1 x6.length c1), (34, I (x6.length : Int)), (35, I v14), (39, pt p1 0), (40, S x12), (41, .agg #[.bool false, S ([])])] (by kernel_rfl) fun b => ?_
            obtain ⟨y10, hy10, hr⟩ := bnd hr
            refine L_op rfl (O_call (vs := #[pt p1 0, S x12, .agg #[.bool false, S ([])]]) Try.call40 (by kernel_rfl) (platter_Disk_put_ok k x1 v15 x3 y6.2 v16 x12 (T_platter_text.mk false ([])) p1 p2 y10 ((hst.pull 2).pull 2) hy10 fun w hst => ?_))
            refine CK_ret rfl ?_
            refine L_pure 1 [(0, pt p1 0), (10, I y10.1), (33, .slice a1 x6.length c1), (34, I (x6.length : Int)), (35, I v14)] (by kernel_rfl) fun b => ?_
            refine wpL_nil ?_
            refine th_n ?_
            refine wp_seq ?_
            refine wp_reg ?_
            refine L_pure 2 [(0, pt p1 0), (10, I y10.1), (33, .slice a1 x6.length c1), (34, I (x6.length : Int)), (35, I v14), (44, .bool (y10.1 != 0))] (by kernel_rfl) fun b => ?_
            refine wpL_nil ?_
            refine th_n ?_
            refine wp_cond_mkF (t := (y10.1 != 0)) rfl (fun h => ?_) (fun h => ?_)
            · have hr := (if_pos h).symm.trans hr
              refine wp_seq ?_
              refine wp_reg ?_
              refine L_pure 2 [(4, I y10.1)] (by kernel_rfl) fun b => ?_
              refine wpL_nil ?_
              refine th_n ?_
              refine wp_ret ?_
              refine ib_r (th_r (th_r (ib_r (th_r (th_r ?_)))))
              refine ret1 rfl rfl ?_
              obtain rfl := Option.some.inj hr
              obtain rfl := Option.some.inj hk4
              have hst := (((hst.pull 2).pull 2).pull 2)
              exact hR _ hst
            · have hr := (if_neg (by rw [h]; exact Bool.false_ne_true)).symm.trans hr
              refine wp_skip ?_
              refine ib_n (th_n ?_)
              refine wp_reg ?_
              refine L_pure 2 [(0, pt p1 0), (33, .slice a1 x6.length c1), (34, I (x6.length : Int)), (35, I (IntKind.i64.wrap (v14 + 1)))] (by kernel_rfl) fun b => ?_
              refine wpL_nil ?_
              refine th_n ?_
              have hst := (((hst.pull 2).pull 2).pull 2)
              exact ⟨(IntKind.i64.wrap (v14 + 1)), y10.2.1, y10.2.2, (kpX [(0, pt p1 0), (33, .slice a1 x6.length c1), (34, I (x6.length : Int)), (35, I (IntKind.i64.wrap (v14 + 1)))] rfl ⟨hst, hr⟩)⟩
          · have hr := (if_neg (by rw [h]; exact Bool.false_ne_true)).symm.trans hr
            refine wp_exit ?_
            refine th_x (th_x (ib_x (th_n ?_)))
            obtain rfl := Option.some.inj hr
            have hst := (((hst.pull 2).pull 2).pull 2)
            exact ⟨(v15, v16), (kpXf [] rfl hst)⟩
    · have hst := (((hst.pull 2).pull 2).pull 2)
      refine wp_block ?_
      refine wp_loop_fuel (fun j a w => ∃ (v10 : Int) (b : Nat → Value), a = mkF 47 b [(0, pt p1 0), (1, .slice a1 x6.length c1), (18, .slice a1 x6.length c1), (19, I (x6.length : Int)), (20, I v10)] ∧ St G w (blk p1 (cl [I x1, I x2, .bool x3, I y6.2, .map (some p2)] 42) :: mpr S (rPt r_T_platter_file) p2 x5 :: dsl rS a1 c1 x6 :: F) ∧ platter_Disk_Remove_l1 k x1 x2 x3 x5 x6 y6 j v10 = some y7) (k := k) ⟨(0 : Int), (kpX [(0, pt p1 0), (1, .slice a1 x6.length c1), (18, .slice a1 x6.length c1), (19, I (x6.length : Int)), (20, I 0)] rfl ⟨hst, hy7⟩)⟩ ?_ ?_
      · rintro _ _ ⟨_, _, _, _, h⟩
        rw [platter_Disk_Remove_l1] at h
        cases h
      · rintro j _ w ⟨v10, b, rfl, hst, hr⟩
        rw [platter_Disk_Remove_l1] at hr
        refine wp_seq ?_
        refine wp_reg ?_
        refine L_pure 1 [(0, pt p1 0), (1, .slice a1 x6.length c1), (18, .slice a1 x6.length c1), (19, I (x6.length : Int)), (20, I v10), (21, .bool (decide (v10 < (x6.length : Int))))] (by kernel_rfl) fun b => ?_
        refine wpL_nil ?_
        refine th_n ?_
        refine wp_seq ?_
        refine wp_cond_mkF (t := decide (v10 < (x6.length : Int))) rfl (fun h => ?_) (fun h => ?_)
        · have hr := (if_pos h).symm.trans hr
          refine wp_skip ?_
          refine th_n ?_
          refine wp_seq ?_
          refine wp_block ?_
          refine wp_seq ?_
          refine wp_reg ?_
          obtain ⟨x10, hx4, hr⟩ := bnd hr
          refine L_op rfl (O_run (v := pt (ab a1) (ao a1 + v10.toNat * 1)) (w' := w) (R_ia L34 rfl rfl (dsl_addr (hst.pull 2) hx4) (gt_some hx4).1 (gt_some hx4).2.1) rfl rfl ?_)
          obtain ⟨q4, hc4, hst⟩ := dsl_cells (hst.pull 2) hx4
          have hst := hst.drop
          refine L_op rfl (O_run (v := S x10) (w' := w) (R_loadAt (off := ao a1 + v10.toNat * 1) (j := 0) hc4 rfl rfl) rfl rfl ?_)
          refine L_pure 1 [(0, pt p1 0), (1, .slice a1 x6.length c1), (7, S x10), (18, .slice a1 x6.length c1), (19, I (x6.length : Int)), (20, I v10)] (by kernel_rfl) fun b => ?_
          refine wpL_nil ?_
          refine th_n ?_
          refine wp_seq ?_
          refine wp_reg ?_
          refine L_pure 2 [(0, pt p1 0), (1, .slice a1 x6.length c1), (18, .slice a1 x6.length c1), (19, I (x6.length : Int)), (20, I v10), (24, pt p1 0), (25, S x10)] (by kernel_rfl) fun b => ?_
          obtain ⟨y8, hy8, hr⟩ := bnd hr
          refine L_op rfl (O_call (vs := #[pt p1 0, S x10]) Try.call43 (by kernel_rfl) (platter_Disk_get_ok k x1 x2 x3 y6.2 x5 x10 p1 p2 y8 ((hst.pull 2).pull 2) hy8 fun a3 w hst => ?_))
          refine CK_ret rfl ?_
          obtain ⟨x11, hx5, hr⟩ := bnd hr
          have hst := dpt_pick hx5 hst
          refine L_op rfl (O_run (v := pt (ab a3) (ao a3 + (0 : Int).toNat * 4)) (w' := w) (R_nilc hst rfl) rfl rfl ?_)
          refine L_pure 2 [(0, pt p1 0), (1, .slice a1 x6.length c1), (18, .slice a1 x6.length c1), (19, I (x6.length : Int)), (20, I v10), (29, pt (ab a3) (ao a3 + (0 : Int).toNat * 4))] (by kernel_rfl) fun b => ?_
          obtain ⟨q5, hc5, hst⟩ := dsl_cells hst (show gt [x11] 0 = some x11 from rfl)
          have hst := hst.drop
          refine L_op rfl (O_run (v := .bool x11.now.there) (w' := w) (R_loadAt (off := ao a3 + (0 : Int).toNat * 4) (j := 0) hc5 rfl rfl) rfl rfl ?_)
          refine L_pure 1 [(0, pt p1 0), (1, .slice a1 x6.length c1), (18, .slice a1 x6.length c1), (19, I (x6.length : Int)), (20, I v10), (31, .bool (!x11.now.there))] (by kernel_rfl) fun b => ?_
          refine wpL_nil ?_
          refine th_n ?_
          refine wp_cond_mkF (t := (!x11.now.there)) rfl (fun h => ?_) (fun h => ?_)
          · have hr := (if_pos h).symm.trans hr
            refine wp_seq ?_
            refine wp_reg ?_
            refine L_pure 1 [(4, I 5)] (by kernel_rfl) fun b => ?_
            refine wpL_nil ?_
            refine th_n ?_
            refine wp_ret ?_
            refine ib_r (th_r (th_r (ib_r (th_r (th_r ?_)))))
            refine ret1 rfl rfl ?_
            obtain rfl := Option.some.inj hr
            obtain rfl := Option.some.inj hk3
            have hst := ((((hst.pull 4).pull 4).pull 4).cut 3 2)
            exact hR _ hst
          · have hr := (if_neg (by rw [h]; exact Bool.false_ne_true)).symm.trans hr
            refine wp_skip ?_
            refine ib_n (th_n ?_)
            refine wp_reg ?_
            refine L_pure 2 [(0, pt p1 0), (1, .slice a1 x6.length c1), (18, .slice a1 x6.length c1), (19, I (x6.length : Int)), (20, I (IntKind.i64.wrap (v10 + 1)))] (by kernel_rfl) fun b => ?_
            refine wpL_nil ?_
            refine th_n ?_
            have hst := ((((hst.pull 4).pull 4).pull 4).cut 3 2)
            exact ⟨(IntKind.i64.wrap (v10 + 1)), (kpX [(0, pt p1 0), (1, .slice a1 x6.length c1), (18, .slice a1 x6.length c1), (19, I (x6.length : Int)), (20, I (IntKind.i64.wrap (v10 + 1)))] rfl ⟨hst, hr⟩)⟩
        · have hr := (if_neg (by rw [h]; exact Bool.false_ne_true)).symm.trans hr
          refine wp_exit ?_
          refine th_x (th_x (ib_x (th_n ?_)))
          obtain rfl := Option.some.inj hr
          have hst := (((hst.pull 2).pull 2).pull 2)
          exact ⟨(), (kpXf [(0, pt p1 0), (1, .slice a1 x6.length c1)] rfl hst)⟩
def glacierlaw04_PlatterGone (k : Nat) (x1 : (List UInt8)) (x2 : Bool) (x3 : (List Int)) : Option (Bool) := (Option.bind (glacierlaw01_Cut k x1 60) fun y16 => (Option.bind (platter_New k 1000) fun y17 => (Option.bind (Option.bind (glacierlaw04_awake k) fun y19 => (if (!y19) = true then some (true, y17.2.1, y17.2.2.2.1, y17.2.2.2.2) else (Option.bind (platter_Disk_Write k y17.1 y17.2.1 y17.2.2.1 y17.2.2.2.1 y17.2.2.2.2 ([97]) y16) fun y20 => (if (y20.1 != 0) = true then some (true, y20.2.1, y20.2.2.1, y20.2.2.2) else (Option.bind (platter_Disk_Sync k y17.1 y20.2.1 y17.2.2.1 y20.2.2.1 y20.2.2.2 ([])) fun y21 => (if (y21.1 != 0) = true then some (true, y21.2.1, y21.2.2.1, y21.2.2.2) else (Option.bind (platter_Disk_Remove k y17.1 y21.2.1 y17.2.2.1 y21.2.2.1 y21.2.2.2 ([[97]])) fun y22 => some ((y22.1 != 0), y22.2.1, y22.2.2.1, y22.2.2.2)))))))) fun y18 => (if y18.1 = true then some (false) else (Option.bind (if x2 = true then (Option.bind (platter_Disk_Sync k y17.1 y18.2.1 y17.2.2.1 y18.2.2.1 y18.2.2.2 ([[97]])) fun y24 => some ((y24.1 != 0), y24.2.1, y24.2.2.1, y24.2.2.2)) else some (false, y18.2.1, y18.2.2.1, y18.2.2.2)) fun y23 => (if y23.1 = true then some (false) else (Option.bind (platter_Disk_Crash k y17.1 y23.2.1 y17.2.2.1 y23.2.2.1 y23.2.2.2 x3) fun y25 => (Option.bind (platter_Disk_Read k y17.1 y25.1 y17.2.2.1 y23.2.2.1 y25.2 ([97])) fun y26 => (if x2 = true then (Option.bind (if (y26.2.1 == 5) = true then (Option.bind (meter_Meter_Used k y17.1 y25.1 y17.2.2.1 y26.2.2 y25.2) fun y28 => some ((y28 == 0))) else some (false)) fun y27 => some (y27)) else (Option.bind (if (y26.2.1 == 5) = true then (Option.bind (meter_Meter_Used k y17.1 y25.1 y17.2.2.1 y26.2.2 y25.2) fun y30 => (if (y30 == 0) = true then some (true) else (if (y26.2.1 == 0) = true then some ((sEq y26.1 y16)) else some (false)))) else (if (y26.2.1 == 0) = true then some ((sEq y26.1 y16)) else some (false))) fun y29 => some (y29)))))))))))
set_option maxRecDepth 100000 in
set_option maxHeartbeats 4000000 in
theorem glacierlaw04_PlatterGone_ok {G w : World} {F : List HP} {R : Ending → World → Prop} (k : Nat) (x1 : (List UInt8)) (x2 : Bool) (x3 : (List Int)) (a1 : Option Addr) (c1 : Nat) (r : (Bool)) (hst : St G w (dsl (rI .i64) a1 c1 x3 :: F)) (hr : glacierlaw04_PlatterGone k x1 x2 x3 = some r)
    (hR : ∀ w', St G w' (dsl (rI .i64) a1 c1 x3 :: F) → R (.returned (.bool r)) w') :
    Calls Try.prog 6 #[S x1, .bool x2, .slice a1 x3.length c1] w R := by
  unfold glacierlaw04_PlatterGone at hr
  refine enter Try.func6 rfl [(0, S x1), (1, .bool x2), (2, .slice a1 x3.length c1)] rfl rfl fun b => ?_
  refine wp_seq ?_
  refine wp_reg ?_
  refine L_pure 1 [(0, S x1), (1, .bool x2), (2, .slice a1 x3.length c1)] (by kernel_rfl) fun b => ?_
  refine wpL_nil ?_
  refine th_n ?_
  refine wp_seq ?_
  refine wp_reg ?_
  refine L_pure 1 [(1, .bool x2), (2, .slice a1 x3.length c1), (10, S x1)] (by kernel_rfl) fun b => ?_
  obtain ⟨y16, hy16, hr⟩ := bnd hr
  refine L_op rfl (O_call (vs := #[S x1, I 60]) Try.call13 (by kernel_rfl) (glacierlaw01_Cut_ok k x1 60 y16 hst hy16 fun w hst => ?_))
  refine CK_ret rfl ?_
  refine L_pure 1 [(0, S y16), (1, .bool x2), (2, .slice a1 x3.length c1)] (by kernel_rfl) fun b => ?_
  refine wpL_nil ?_
  refine th_n ?_
  refine wp_seq ?_
  refine wp_reg ?_
  obtain ⟨y17, hy17, hr⟩ := bnd hr
  refine L_op rfl (O_call (vs := #[I 1000]) Try.call14 (by kernel_rfl) (platter_New_ok k 1000 y17 hst hy17 fun p5 p6 w hst => ?_))
  refine CK_ret rfl ?_
  refine L_pure 1 [(0, S y16), (1, .bool x2), (2, .slice a1 x3.length c1), (7, pt p5 0)] (by kernel_rfl) fun b => ?_
  refine wpL_nil ?_
  refine th_n ?_
  refine wp_seq ?_
  obtain ⟨y18, hy18, hk5⟩ := bnd hr
  clear hr
  refine wp_seq_cut (fun a w => ∃ (b : Nat → Value), a = mkF 75 b [(0, S y16), (1, .bool x2), (2, .slice a1 x3.length c1), (7, pt p5 0), (31, .bool y18.1)] ∧ St G w (blk p5 (cl [I y17.1, I y18.2.1, .bool y17.2.2.1, I y18.2.2.1, .map (some p6)] 42) :: mpr S (rPt r_T_platter_file) p6 y18.2.2.2 :: dsl (rI .i64) a1 c1 x3 :: F)) ?_ ?_
  · rintro _ w ⟨b, rfl, hst⟩
    have hr := hk5
    refine wp_cond_mkF (t := y18.1) rfl (fun h => ?_) (fun h => ?_)
    · have hr := (if_pos h).symm.trans hr
      refine wp_seq ?_
      refine wp_reg ?_
      refine L_pure 1 [(6, .bool false)] (by kernel_rfl) fun b => ?_
      refine wpL_nil ?_
      refine th_n ?_
      refine wp_ret ?_
      refine th_r ?_
      refine ret1 rfl rfl ?_
      obtain rfl := Option.some.inj hr
      have hst := ((hst.pull 2).cut 1 2)
      exact hR _ hst
    · have hr := (if_neg (by rw [h]; exact Bool.false_ne_true)).symm.trans hr
      refine wp_skip ?_
      refine th_n ?_
      refine wp_seq ?_
      obtain ⟨y23, hy23, hk6⟩ := bnd hr
      clear hr
      refine wp_seq_cut (fun a w => ∃ (b : Nat → Value), a = mkF 75 b [(0, S y16), (1, .bool x2), (2, .slice a1 x3.length c1), (7, pt p5 0), (38, .bool y23.1)] ∧ St G w (blk p5 (cl [I y17.1, I y23.2.1, .bool y17.2.2.1, I y23.2.2.1, .map (some p6)] 42) :: mpr S (rPt r_T_platter_file) p6 y23.2.2.2 :: dsl (rI .i64) a1 c1 x3 :: F)) ?_ ?_
      · rintro _ w ⟨b, rfl, hst⟩
        have hr := hk6
        refine wp_cond_mkF (t := y23.1) rfl (fun h => ?_) (fun h => ?_)
        · have hr := (if_pos h).symm.trans hr
          refine wp_seq ?_
          refine wp_reg ?_
          refine L_pure 1 [(6, .bool false)] (by kernel_rfl) fun b => ?_
          refine wpL_nil ?_
          refine th_n ?_
          refine wp_ret ?_
          refine th_r ?_
          refine ret1 rfl rfl ?_
          obtain rfl := Option.some.inj hr
          have hst := ((hst.pull 2).cut 1 2)
          exact hR _ hst
        · have hr := (if_neg (by rw [h]; exact Bool.false_ne_true)).symm.trans hr
          refine wp_skip ?_
          refine th_n ?_
          refine wp_seq ?_
          refine wp_reg ?_
          refine L_pure 2 [(0, S y16), (1, .bool x2), (7, pt p5 0), (39, pt p5 0), (40, .slice a1 x3.length c1)] (by kernel_rfl) fun b => ?_
          obtain ⟨y25, hy25, hr⟩ := bnd hr
          refine L_op rfl (O_call (vs := #[pt p5 0, .slice a1 x3.length c1]) Try.call19 (by kernel_rfl) (platter_Disk_Crash_ok k y17.1 y23.2.1 y17.2.2.1 y23.2.2.1 y23.2.2.2 x3 p5 p6 a1 c1 y25 (((hst.pull 2).pull 2).pull 2) hy25 fun w hst => ?_))
          refine CK_ret rfl ?_
          refine wpL_nil ?_
          refine th_n ?_
          refine wp_seq ?_
          refine wp_reg ?_
          refine L_pure 1 [(0, S y16), (1, .bool x2), (7, pt p5 0), (43, pt p5 0)] (by kernel_rfl) fun b => ?_
          obtain ⟨y26, hy26, hr⟩ := bnd hr
          refine L_op rfl (O_call (vs := #[pt p5 0, S ([97])]) Try.call20 (by kernel_rfl) (platter_Disk_Read_ok k y17.1 y25.1 y17.2.2.1 y23.2.2.1 y25.2 ([97]) p5 p6 y26 ((hst.pull 1).pull 1) hy26 fun w hst => ?_))
          refine CK_ret rfl ?_
          refine L_pure 5 [(0, S y16), (1, .bool x2), (7, pt p5 0), (8, S y26.1), (9, I y26.2.1)] (by kernel_rfl) fun b => ?_
          refine wpL_nil ?_
          refine th_n ?_
          refine wp_seq ?_
          refine wp_seq ?_
          refine wp_reg ?_
          refine L_pure 1 [(0, S y16), (7, pt p5 0), (8, S y26.1), (9, I y26.2.1), (47, .bool x2)] (by kernel_rfl) fun b => ?_
          refine wpL_nil ?_
          refine th_n ?_
          refine wp_cond_mkF (t := x2) rfl (fun h => ?_) (fun h => ?_)
          · have hr := (if_pos h).symm.trans hr
            obtain ⟨y27, hy27, hk7⟩ := bnd hr
            clear hr
            refine wp_seq_cut (fun a w => ∃ (b : Nat → Value), a = mkF 75 b [(6, .bool y27)] ∧ St G w (blk p5 (cl [I y17.1, I y25.1, .bool y17.2.2.1, I y26.2.2, .map (some p6)] 42) :: mpr S (rPt r_T_platter_file) p6 y25.2 :: dsl (rI .i64) a1 c1 x3 :: F)) ?_ ?_
            · rintro _ w ⟨b, rfl, hst⟩
              have hr := hk7
              refine wp_ret ?_
              refine th_r ?_
              refine ret1 rfl rfl ?_
              obtain rfl := Option.some.inj hr
              have hst := ((hst.pull 2).cut 1 2)
              exact hR _ hst
            · have hr := hy27
              refine wp_reg ?_
              refine L_pure 3 [(7, pt p5 0), (50, .bool (y26.2.1 == 5))] (by kernel_rfl) fun b => ?_
              by_cases h : (y26.2.1 == 5) = true
              · have hr := (if_pos h).symm.trans hr
                refine L_keep ((50, .bool (y26.2.1 == 5)) :: [(7, pt p5 0)]) rfl fun b => ?_
                refine L_bool h ?_
                refine L_pure 3 [(50, .bool true), (53, pt p5 0)] (by kernel_rfl) fun b => ?_
                obtain ⟨y28, hy28, hr⟩ := bnd hr
                refine L_op rfl (O_call (vs := #[pt p5 0]) Try.call21 (by kernel_rfl) (meter_Meter_Used_ok k y17.1 y25.1 y17.2.2.1 y26.2.2 y25.2 p5 p6 y28 ((hst.pull 1).pull 1) hy28 fun w hst => ?_))
                refine CK_ret rfl ?_
                refine L_pure 3 [(6, .bool (y28 == 0))] (by kernel_rfl) fun b => ?_
                refine wpL_nil ?_
                refine th_n ?_
                obtain rfl := Option.some.inj hr
                have hst := (((hst.pull 2).pull 2).pull 2)
                exact (kpX [(6, .bool (y28 == 0))] rfl hst)
              · have hr := (if_neg h).symm.trans hr
                refine L_keep ((50, .bool (y26.2.1 == 5)) :: [(7, pt p5 0)]) rfl fun b => ?_
                refine L_bool (eq_false_of_ne_true h) ?_
                refine L_pure 7 [(6, .bool false)] (by kernel_rfl) fun b => ?_
                refine wpL_nil ?_
                refine th_n ?_
                obtain rfl := Option.some.inj hr
                have hst := (((hst.pull 2).pull 2).pull 2)
                exact (kpX [(6, .bool false)] rfl hst)
          · have hr := (if_neg (by rw [h]; exact Bool.false_ne_true)).symm.trans hr
            refine wp_skip ?_
            refine th_n ?_
            obtain ⟨y29, hy29, hk8⟩ := bnd hr
            clear hr
            refine wp_seq_cut (fun a w => ∃ (b : Nat → Value), a = mkF 75 b [(6, .bool y29)] ∧ St G w (blk p5 (cl [I y17.1, I y25.1, .bool y17.2.2.1, I y26.2.2, .map (some p6)] 42) :: mpr S (rPt r_T_platter_file) p6 y25.2 :: dsl (rI .i64) a1 c1 x3 :: F)) ?_ ?_
            · rintro _ w ⟨b, rfl, hst⟩
              have hr := hk8
              refine wp_ret ?_
              refine ret1 rfl rfl ?_
              obtain rfl := Option.some.inj hr
              have hst := ((hst.pull 2).cut 1 2)
              exact hR _ hst
            · have hr := hy29
              refine wp_reg ?_
              refine L_pure 3 [(0, S y16), (7, pt p5 0), (8, S y26.1), (9, I y26.2.1), (59, .bool (y26.2.1 == 5))] (by kernel_rfl) fun b => ?_
              by_cases h : (y26.2.1 == 5) = true
              · have hr := (if_pos h).symm.trans hr
                refine L_keep ((59, .bool (y26.2.1 == 5)) :: [(0, S y16), (7, pt p5 0), (8, S y26.1), (9, I y26.2.1)]) rfl fun b => ?_
                refine L_bool h ?_
                refine L_pure 3 [(0, S y16), (8, S y26.1), (9, I y26.2.1), (59, .bool true), (62, pt p5 0)] (by kernel_rfl) fun b => ?_
                obtain ⟨y30, hy30, hr⟩ := bnd hr
                refine L_op rfl (O_call (vs := #[pt p5 0]) Try.call21 (by kernel_rfl) (meter_Meter_Used_ok k y17.1 y25.1 y17.2.2.1 y26.2.2 y25.2 p5 p6 y30 ((hst.pull 1).pull 1) hy30 fun w hst => ?_))
                refine CK_ret rfl ?_
                refine L_pure 3 [(0, S y16), (8, S y26.1), (9, I y26.2.1), (66, .bool (y30 == 0))] (by kernel_rfl) fun b => ?_
                by_cases h : (y30 == 0) = true
                · have hr := (if_pos h).symm.trans hr
                  refine L_keep ((66, .bool (y30 == 0)) :: [(0, S y16), (8, S y26.1), (9, I y26.2.1)]) rfl fun b => ?_
                  refine L_bool h ?_
                  refine L_pure 9 [(6, .bool true)] (by kernel_rfl) fun b => ?_
                  refine wpL_nil ?_
                  refine th_n ?_
                  obtain rfl := Option.some.inj hr
                  have hst := (((hst.pull 2).pull 2).pull 2)
                  exact (kpX [(6, .bool true)] rfl hst)
                · have hr := (if_neg h).symm.trans hr
                  refine L_keep ((66, .bool (y30 == 0)) :: [(0, S y16), (8, S y26.1), (9, I y26.2.1)]) rfl fun b => ?_
                  refine L_bool (eq_false_of_ne_true h) ?_
                  refine L_pure 3 [(0, S y16), (8, S y26.1), (66, .bool false), (69, .bool (y26.2.1 == 0))] (by kernel_rfl) fun b => ?_
                  by_cases h : (y26.2.1 == 0) = true
                  · have hr := (if_pos h).symm.trans hr
                    refine L_keep ((69, .bool (y26.2.1 == 0)) :: [(0, S y16), (8, S y26.1), (66, .bool false)]) rfl fun b => ?_
                    refine L_bool h ?_
                    refine L_pure 6 [(6, .bool (sEq y26.1 y16))] (by kernel_rfl) fun b => ?_
                    refine wpL_nil ?_
                    refine th_n ?_
                    obtain rfl := Option.some.inj hr
                    have hst := (((hst.pull 2).pull 2).pull 2)
                    exact (kpX [(6, .bool (sEq y26.1 y16))] rfl hst)
                  · have hr := (if_neg h).symm.trans hr
                    refine L_keep ((69, .bool (y26.2.1 == 0)) :: [(0, S y16), (8, S y26.1), (66, .bool false)]) rfl fun b => ?_
                    refine L_bool (eq_false_of_ne_true h) ?_
                    refine L_pure 6 [(6, .bool false)] (by kernel_rfl) fun b => ?_
                    refine wpL_nil ?_
                    refine th_n ?_
                    obtain rfl := Option.some.inj hr
                    have hst := (((hst.pull 2).pull 2).pull 2)
                    exact (kpX [(6, .bool false)] rfl hst)
              · have hr := (if_neg h).symm.trans hr
                refine L_keep ((59, .bool (y26.2.1 == 5)) :: [(0, S y16), (7, pt p5 0), (8, S y26.1), (9, I y26.2.1)]) rfl fun b => ?_
                refine L_bool (eq_false_of_ne_true h) ?_
                refine L_pure 10 [(0, S y16), (8, S y26.1), (66, .bool false), (69, .bool (y26.2.1 == 0))] (by kernel_rfl) fun b => ?_
                by_cases h : (y26.2.1 == 0) = true
                · have hr := (if_pos h).symm.trans hr
                  refine L_keep ((69, .bool (y26.2.1 == 0)) :: [(0, S y16), (8, S y26.1), (66, .bool false)]) rfl fun b => ?_
                  refine L_bool h ?_
                  refine L_pure 6 [(6, .bool (sEq y26.1 y16))] (by kernel_rfl) fun b => ?_
                  refine wpL_nil ?_
                  refine th_n ?_
                  obtain rfl := Option.some.inj hr
                  have hst := (((hst.pull 2).pull 2).pull 2)
                  exact (kpX [(6, .bool (sEq y26.1 y16))] rfl hst)
                · have hr := (if_neg h).symm.trans hr
                  refine L_keep ((69, .bool (y26.2.1 == 0)) :: [(0, S y16), (8, S y26.1), (66, .bool false)]) rfl fun b => ?_
                  refine L_bool (eq_false_of_ne_true h) ?_
                  refine L_pure 6 [(6, .bool false)] (by kernel_rfl) fun b => ?_
                  refine wpL_nil ?_
                  refine th_n ?_
                  obtain rfl := Option.some.inj hr
                  have hst := (((hst.pull 2).pull 2).pull 2)
                  exact (kpX [(6, .bool false)] rfl hst)
      · have hr := hy23
        refine wp_reg ?_
        refine L_pure 2 [(0, S y16), (1, .bool x2), (2, .slice a1 x3.length c1), (7, pt p5 0), (33, .bool x2)] (by kernel_rfl) fun b => ?_
        by_cases h : x2 = true
        · have hr := (if_pos h).symm.trans hr
          refine L_keep ((33, .bool x2) :: [(0, S y16), (1, .bool x2), (2, .slice a1 x3.length c1), (7, pt p5 0)]) rfl fun b => ?_
          refine L_bool h ?_
          refine L_pure 1 [(0, S y16), (1, .bool x2), (2, .slice a1 x3.length c1), (7, pt p5 0), (33, .bool true), (34, pt p5 0)] (by kernel_rfl) fun b => ?_
          refine L_op rfl (O_bs (T := 9) [S ([97])] #[(0, S ([97]))] hst (by kernel_rfl) (by kernel_rfl) rfl fun p8 w hst => ?_)
          have hst := osl_of_blk0 (ecs := [[S ([97])]]) rS [[97]] rfl (fun m => ⟨⟨(), rfl, trivial⟩, trivial⟩) rfl hst
          obtain ⟨y24, hy24, hr⟩ := bnd hr
          have hst := osl_freeze hst
          refine L_op rfl (O_call (vs := #[pt p5 0, .slice (some ⟨p8, 0, none⟩) ([[97]]).length 1]) Try.call17 (by kernel_rfl) (platter_Disk_Sync_ok k y17.1 y18.2.1 y17.2.2.1 y18.2.2.1 y18.2.2.2 ([[97]]) p5 p6 (some ⟨p8, 0, none⟩) 1 y24 ((hst.pull 2).pull 2) hy24 fun w hst => ?_))
          refine CK_ret rfl ?_
          refine L_pure 2 [(0, S y16), (1, .bool x2), (2, .slice a1 x3.length c1), (7, pt p5 0), (38, .bool (y24.1 != 0))] (by kernel_rfl) fun b => ?_
          refine wpL_nil ?_
          refine th_n ?_
          obtain rfl := Option.some.inj hr
          have hst := ((((hst.pull 3).pull 2).pull 2).cut 3 1)
          exact (kpX [(0, S y16), (1, .bool x2), (2, .slice a1 x3.length c1), (7, pt p5 0), (38, .bool (y24.1 != 0))] rfl hst)
        · have hr := (if_neg h).symm.trans hr
          refine L_keep ((33, .bool x2) :: [(0, S y16), (1, .bool x2), (2, .slice a1 x3.length c1), (7, pt p5 0)]) rfl fun b => ?_
          refine L_bool (eq_false_of_ne_true h) ?_
          refine L_pure 5 [(0, S y16), (1, .bool x2), (2, .slice a1 x3.length c1), (7, pt p5 0), (38, .bool false)] (by kernel_rfl) fun b => ?_
          refine wpL_nil ?_
          refine th_n ?_
          obtain rfl := Option.some.inj hr
          have hst := (((hst.pull 2).pull 2).pull 2)
          exact (kpX [(0, S y16), (1, .bool x2), (2, .slice a1 x3.length c1), (7, pt p5 0), (38, .bool false)] rfl hst)
  · have hr := hy18
    refine wp_reg ?_
    obtain ⟨y19, hy19, hr⟩ := bnd hr
    refine L_op rfl (O_call (vs := #[]) Try.call15 (by kernel_rfl) (glacierlaw04_awake_ok k y19 hst hy19 fun w hst => ?_))
    refine CK_ret rfl ?_
    refine L_pure 2 [(0, S y16), (1, .bool x2), (2, .slice a1 x3.length c1), (7, pt p5 0), (15, .bool (!y19))] (by kernel_rfl) fun b => ?_
    by_cases h : (!y19) = true
    · have hr := (if_pos h).symm.trans hr
      refine L_keep ((15, .bool (!y19)) :: [(0, S y16), (1, .bool x2), (2, .slice a1 x3.length c1), (7, pt p5 0)]) rfl fun b => ?_
      refine L_bool h ?_
      refine L_pure 16 [(0, S y16), (1, .bool x2), (2, .slice a1 x3.length c1), (7, pt p5 0), (31, .bool true)] (by kernel_rfl) fun b => ?_
      refine wpL_nil ?_
      refine th_n ?_
      obtain rfl := Option.some.inj hr
      have hst := (((hst.pull 2).pull 2).pull 2)
      exact (kpX [(0, S y16), (1, .bool x2), (2, .slice a1 x3.length c1), (7, pt p5 0), (31, .bool true)] rfl hst)
    · have hr := (if_neg h).symm.trans hr
      refine L_keep ((15, .bool (!y19)) :: [(0, S y16), (1, .bool x2), (2, .slice a1 x3.length c1), (7, pt p5 0)]) rfl fun b => ?_
      refine L_bool (eq_false_of_ne_true h) ?_
      refine L_pure 2 [(0, S y16), (1, .bool x2), (2, .slice a1 x3.length c1), (7, pt p5 0), (15, .bool false), (16, pt p5 0), (17, S y16)] (by kernel_rfl) fun b => ?_
      obtain ⟨y20, hy20, hr⟩ := bnd hr
      refine L_op rfl (O_call (vs := #[pt p5 0, S ([97]), S y16]) Try.call16 (by kernel_rfl) (platter_Disk_Write_ok k y17.1 y17.2.1 y17.2.2.1 y17.2.2.2.1 y17.2.2.2.2 ([97]) y16 p5 p6 y20 ((hst.pull 1).pull 1) hy20 fun w hst => ?_))
      refine CK_ret rfl ?_
      refine L_pure 3 [(0, S y16), (1, .bool x2), (2, .slice a1 x3.length c1), (7, pt p5 0), (21, .bool (y20.1 != 0))] (by kernel_rfl) fun b => ?_
      by_cases h : (y20.1 != 0) = true
      · have hr := (if_pos h).symm.trans hr
        refine L_keep ((21, .bool (y20.1 != 0)) :: [(0, S y16), (1, .bool x2), (2, .slice a1 x3.length c1), (7, pt p5 0)]) rfl fun b => ?_
        refine L_bool h ?_
        refine L_pure 10 [(0, S y16), (1, .bool x2), (2, .slice a1 x3.length c1), (7, pt p5 0), (31, .bool true)] (by kernel_rfl) fun b => ?_
        refine wpL_nil ?_
        refine th_n ?_
        obtain rfl := Option.some.inj hr
        have hst := (((hst.pull 2).pull 2).pull 2)
        exact (kpX [(0, S y16), (1, .bool x2), (2, .slice a1 x3.length c1), (7, pt p5 0), (31, .bool true)] rfl hst)
      · have hr := (if_neg h).symm.trans hr
        refine L_keep ((21, .bool (y20.1 != 0)) :: [(0, S y16), (1, .bool x2), (2, .slice a1 x3.length c1), (7, pt p5 0)]) rfl fun b => ?_
        refine L_bool (eq_false_of_ne_true h) ?_
        refine L_pure 1 [(0, S y16), (1, .bool x2), (2, .slice a1 x3.length c1), (7, pt p5 0), (21, .bool false), (22, pt p5 0)] (by kernel_rfl) fun b => ?_
        obtain ⟨y21, hy21, hr⟩ := bnd hr
        have hst := dsl_nil rS hst
        refine L_op rfl (O_call (vs := #[pt p5 0, .slice none 0 0]) Try.call17 (by kernel_rfl) (platter_Disk_Sync_ok k y17.1 y20.2.1 y17.2.2.1 y20.2.2.1 y20.2.2.2 ([]) p5 p6 none 0 y21 ((hst.pull 2).pull 2) hy21 fun w hst => ?_))
        refine CK_ret rfl ?_
        refine L_pure 3 [(0, S y16), (1, .bool x2), (2, .slice a1 x3.length c1), (7, pt p5 0), (26, .bool (y21.1 != 0))] (by kernel_rfl) fun b => ?_
        by_cases h : (y21.1 != 0) = true
        · have hr := (if_pos h).symm.trans hr
          refine L_keep ((26, .bool (y21.1 != 0)) :: [(0, S y16), (1, .bool x2), (2, .slice a1 x3.length c1), (7, pt p5 0)]) rfl fun b => ?_
          refine L_bool h ?_
          refine L_pure 5 [(0, S y16), (1, .bool x2), (2, .slice a1 x3.length c1), (7, pt p5 0), (31, .bool true)] (by kernel_rfl) fun b => ?_
          refine wpL_nil ?_
          refine th_n ?_
          obtain rfl := Option.some.inj hr
          have hst := ((((hst.pull 3).pull 2).pull 2).cut 3 1)
          exact (kpX [(0, S y16), (1, .bool x2), (2, .slice a1 x3.length c1), (7, pt p5 0), (31, .bool true)] rfl hst)
        · have hr := (if_neg h).symm.trans hr
          refine L_keep ((26, .bool (y21.1 != 0)) :: [(0, S y16), (1, .bool x2), (2, .slice a1 x3.length c1), (7, pt p5 0)]) rfl fun b => ?_
          refine L_bool (eq_false_of_ne_true h) ?_
          refine L_pure 1 [(0, S y16), (1, .bool x2), (2, .slice a1 x3.length c1), (7, pt p5 0), (26, .bool false), (27, pt p5 0)] (by kernel_rfl) fun b => ?_
          refine L_op rfl (O_bs (T := 9) [S ([97])] #[(0, S ([97]))] hst (by kernel_rfl) (by kernel_rfl) rfl fun p7 w hst => ?_)
          have hst := osl_of_blk0 (ecs := [[S ([97])]]) rS [[97]] rfl (fun m => ⟨⟨(), rfl, trivial⟩, trivial⟩) rfl hst
          obtain ⟨y22, hy22, hr⟩ := bnd hr
          have hst := osl_freeze hst
          refine L_op rfl (O_call (vs := #[pt p5 0, .slice (some ⟨p7, 0, none⟩) ([[97]]).length 1]) Try.call23 (by kernel_rfl) (platter_Disk_Remove_ok k y17.1 y21.2.1 y17.2.2.1 y21.2.2.1 y21.2.2.2 ([[97]]) p5 p6 (some ⟨p7, 0, none⟩) 1 y22 ((hst.pull 2).pull 2) hy22 fun w hst => ?_))
          refine CK_ret rfl ?_
          refine L_pure 2 [(0, S y16), (1, .bool x2), (2, .slice a1 x3.length c1), (7, pt p5 0), (31, .bool (y22.1 != 0))] (by kernel_rfl) fun b => ?_
          refine wpL_nil ?_
          refine th_n ?_
          obtain rfl := Option.some.inj hr
          have hst := ((((hst.pull 4).pull 2).pull 2).cut 3 2)
          exact (kpX [(0, S y16), (1, .bool x2), (2, .slice a1 x3.length c1), (7, pt p5 0), (31, .bool (y22.1 != 0))] rfl hst)
end Go.Proofs.Ythmjdekmacoaaaa
