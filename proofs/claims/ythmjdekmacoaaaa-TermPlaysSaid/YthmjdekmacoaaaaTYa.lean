/- TY: printed by hx.py (own work) out of the program. -/
import Derived.Test.YthmjdekmacoaaaaHxT
import Derived.Test.YthmjdekmacoaaaaHxU
import Derived.Tactics
import Derived.Test.YthmjdekmacoaaaaHxW
import Derived.Test.YthmjdekmacoaaaaShelf
import Derived.Test.YthmjdekmacoaaaaHxK
import Derived.Test.YthmjdekmacoaaaaHxS
import Derived.Test.YthmjdekmacoaaaaHxM
import Derived.Test.YthmjdekmacoaaaaChecked
namespace Go.Proofs.Ythmjdekmacoaaaa
open Go.Hx Go.RowKit
structure T_glacierlaw09_Act where
  Kind : Int
  N : Int
  M : Int
  S : (List UInt8)
  Texts : (List (List UInt8))
  Choice : (List Int)
def r_T_glacierlaw09_Act : Rp T_glacierlaw09_Act := ⟨(Option Addr × Nat) × (Option Addr × Nat), 6, fun x y => [.int .i64 x.Kind, .int .i64 x.N, .int .i64 x.M, S x.S, .slice y.1.1 x.Texts.length y.1.2, .slice y.2.1 x.Choice.length y.2.2], fun x y m => dslP rS y.1.1 y.1.2 x.Texts m ∧ dslP (rI .i64) y.2.1 y.2.2 x.Choice m, fun _ _ _ _ hm h => ⟨dslP_mono _ _ _ _ _ _ hm h.1, dslP_mono _ _ _ _ _ _ hm h.2⟩, fun _ _ => rfl, fun _ _ => rfl⟩
structure T_meter_Meter where
  room : Int
  used : Int
  deriving DecidableEq
def r_T_meter_Meter : Rp T_meter_Meter := ⟨Unit, 2, fun x _ => [.int .i64 x.room, .int .i64 x.used], fun _ _ _ => True, fun _ _ _ _ _ h => h, fun _ _ => rfl, fun _ _ => rfl⟩
structure T_platter_text where
  there : Bool
  s : (List UInt8)
  deriving DecidableEq
def r_T_platter_text : Rp T_platter_text := ⟨Unit, 2, fun x _ => [.bool x.there, S x.s], fun _ _ _ => True, fun _ _ _ _ _ h => h, fun _ _ => rfl, fun _ _ => rfl⟩
structure T_platter_file where
  now : T_platter_text
  safe : T_platter_text
  deriving DecidableEq
def r_T_platter_file : Rp T_platter_file := ⟨Unit, 4, fun x _ => [.bool x.now.there, S x.now.s, .bool x.safe.there, S x.safe.s], fun _ _ _ => True, fun _ _ _ _ _ h => h, fun _ _ => rfl, fun _ _ => rfl⟩
structure T_wire_Enc where
  b : (List Int)
def r_T_wire_Enc : Rp T_wire_Enc := ⟨(Option Addr × Nat), 1, fun x y => [.slice y.1 x.b.length y.2], fun x y => dslP (rI .u8) y.1 y.2 x.b, fun _ _ _ _ hm h => dslP_mono _ _ _ _ _ _ hm h, fun _ _ => rfl, fun _ _ => rfl⟩
structure T_term_Entry where
  Index : Int
  Term : Int
  Cmd : (List UInt8)
  deriving DecidableEq
def r_T_term_Entry : Rp T_term_Entry := ⟨Unit, 3, fun x _ => [.int .i64 x.Index, .int .i64 x.Term, S x.Cmd], fun _ _ _ => True, fun _ _ _ _ _ h => h, fun _ _ => rfl, fun _ _ => rfl⟩
structure T_wire_Dec where
  s : (List UInt8)
  err : Int
  deriving DecidableEq
def r_T_wire_Dec : Rp T_wire_Dec := ⟨Unit, 2, fun x _ => [S x.s, .int .i64 x.err], fun _ _ _ => True, fun _ _ _ _ _ h => h, fun _ _ => rfl, fun _ _ => rfl⟩
structure T_term_State where
  Term : Int
  Vote : Int
  Base : Int
  BaseTerm : Int
  Snap : (List UInt8)
  Log : (List T_term_Entry)
def r_T_term_State : Rp T_term_State := ⟨(Option Addr × Nat), 6, fun x y => [.int .i64 x.Term, .int .i64 x.Vote, .int .i64 x.Base, .int .i64 x.BaseTerm, S x.Snap, .slice y.1 x.Log.length y.2], fun x y => dslP r_T_term_Entry y.1 y.2 x.Log, fun _ _ _ _ hm h => dslP_mono _ _ _ _ _ _ hm h, fun _ _ => rfl, fun _ _ => rfl⟩
structure T_glacierref09_Entry where
  Index : Int
  Term : Int
  Cmd : (List UInt8)
  deriving DecidableEq
def r_T_glacierref09_Entry : Rp T_glacierref09_Entry := ⟨Unit, 3, fun x _ => [.int .i64 x.Index, .int .i64 x.Term, S x.Cmd], fun _ _ _ => True, fun _ _ _ _ _ h => h, fun _ _ => rfl, fun _ _ => rfl⟩
structure T_glacierref09_State where
  Term : Int
  Vote : Int
  Base : Int
  BaseTerm : Int
  Snap : (List UInt8)
  Log : (List T_glacierref09_Entry)
def r_T_glacierref09_State : Rp T_glacierref09_State := ⟨(Option Addr × Nat), 6, fun x y => [.int .i64 x.Term, .int .i64 x.Vote, .int .i64 x.Base, .int .i64 x.BaseTerm, S x.Snap, .slice y.1 x.Log.length y.2], fun x y => dslP r_T_glacierref09_Entry y.1 y.2 x.Log, fun _ _ _ _ hm h => dslP_mono _ _ _ _ _ _ hm h, fun _ _ => rfl, fun _ _ => rfl⟩
theorem L30 : Lst Try.prog 30 3 1 8 := ⟨Try.underlying30, Try.t3, _, by kernel_rfl, rfl, rfl, rfl, rfl⟩
theorem L34 : Lst Try.prog 34 9 1 16 := ⟨Try.underlying34, Try.t9, _, by kernel_rfl, rfl, rfl, rfl, rfl⟩
theorem L50 : Lst Try.prog 50 52 3 32 := ⟨Try.underlying50, Try.t52, _, by kernel_rfl, rfl, rfl, rfl, rfl⟩
theorem L69 : Lst Try.prog 69 119 3 32 := ⟨Try.underlying69, Try.t119, _, by kernel_rfl, rfl, rfl, rfl, rfl⟩
theorem L74 : Lst Try.prog 74 77 6 88 := ⟨Try.underlying74, Try.t77, _, by kernel_rfl, rfl, rfl, rfl, rfl⟩
theorem L75 : Lst Try.prog 75 71 6 72 := ⟨Try.underlying75, Try.t71, _, by kernel_rfl, rfl, rfl, rfl, rfl⟩
theorem L99 : Lst Try.prog 99 5 1 1 := ⟨Try.underlying99, Try.t5, _, by kernel_rfl, rfl, rfl, rfl, rfl⟩
theorem L143 : Lst Try.prog 143 129 1 8 := ⟨Try.underlying143, Try.t129, _, by kernel_rfl, rfl, rfl, rfl, rfl⟩
theorem M40 : MapR Try.prog 40 9 91 S (rPt r_T_platter_file) none (.pointer none) := ⟨Try.underlying40, keys_str Try.underlying9, ⟨Try.t91, by kernel_rfl, rfl⟩, fun _ => ⟨none, rfl, rfl⟩⟩
theorem G86 : Try.prog.eqGuardType Try.prog.depth 86 = false := by kernel_rfl
theorem EQ86 (x y : T_platter_text) (w : World) : (Op.equalIn 10000 86 (.agg #[.bool x.there, S x.s]) (.agg #[.bool y.there, S y.s])).run Try.prog w = .ok (decide (x = y)) w := by
  have hS : Try.prog.underlying 86 = some (.struct (Try.prog.fieldsOf 86)) := by kernel_rfl
  have hp : Try.prog.stoodInHeld 86 = false := by kernel_rfl
  have u4 := run_underlying (P := Try.prog) Try.underlying4
  have z4 := Try.sizeOf4; have a4 := Try.isAgg4
  have u9 := run_underlying (P := Try.prog) Try.underlying9
  have z9 := Try.sizeOf9; have a9 := Try.isAgg9
  rw [show (10000 : Nat) = 9999 + 1 from rfl, run_equalIn_agg w 9999 86 _ _ hS hp]
  simp only [Program.fieldsOf, Try.underlying86]
  go_simp
  cases x; cases y; simp; repeat' split
  all_goals simp_all
theorem G119 : Try.prog.eqGuardType Try.prog.depth 119 = false := by kernel_rfl
theorem EQ119 (x y : T_glacierref09_Entry) (w : World) : (Op.equalIn 10000 119 (.agg #[I x.Index, I x.Term, S x.Cmd]) (.agg #[I y.Index, I y.Term, S y.Cmd])).run Try.prog w = .ok (decide (x = y)) w := by
  have hS : Try.prog.underlying 119 = some (.struct (Try.prog.fieldsOf 119)) := by kernel_rfl
  have hp : Try.prog.stoodInHeld 119 = false := by kernel_rfl
  have u3 := run_underlying (P := Try.prog) Try.underlying3
  have z3 := Try.sizeOf3; have a3 := Try.isAgg3
  have u9 := run_underlying (P := Try.prog) Try.underlying9
  have z9 := Try.sizeOf9; have a9 := Try.isAgg9
  rw [show (10000 : Nat) = 9999 + 1 from rfl, run_equalIn_agg w 9999 119 _ _ hS hp]
  simp only [Program.fieldsOf, Try.underlying119]
  go_simp
  cases x; cases y; simp; repeat' split
  all_goals simp_all
def meter_Made (_k : Nat) (x1 : Int) : Option (T_meter_Meter) := some ((T_meter_Meter.mk (mx2 x1 0) 0))
set_option maxRecDepth 100000 in
set_option maxHeartbeats 4000000 in
theorem meter_Made_ok {G w : World} {F : List HP} {R : Ending → World → Prop} (k : Nat) (x1 : Int) (r : (T_meter_Meter)) (hst : St G w (F)) (hr : meter_Made k x1 = some r)
    (hR : ∀ w', St G w' (F) → R (.returned (.agg #[I r.room, I r.used])) w') :
    Calls Try.prog 38 #[I x1] w R := by
  unfold meter_Made at hr
  refine enter Try.func38 rfl [(0, I x1)] rfl rfl fun b => ?_
  refine wp_seq ?_
  refine wp_reg ?_
  refine L_op rfl (O_alloc (i := Try.t37) (z := .agg #[I 0, I 0]) [I 0, I 0] hst rfl rfl rfl rfl fun p2 w hst => ?_)
  refine wpL_nil ?_
  refine th_n ?_
  refine wp_seq ?_
  refine wp_reg ?_
  refine L_pure 3 [(2, pt p2 0), (5, .agg #[I (mx2 x1 0), I 0])] (by kernel_rfl) fun b => ?_
  refine L_op rfl (O_store [I (mx2 x1 0), I 0] hst rfl rfl (by kernel_rfl) fun w hst => ?_)
  refine wpL_nil ?_
  refine th_n ?_
  refine wp_ret ?_
  refine retC (v := .agg #[I (mx2 x1 0), I 0]) (p := p2) (off := 0) (cs := [I (mx2 x1 0), I 0]) (T' := 37) rfl rfl hst (by kernel_rfl) ?_
  obtain rfl := Option.some.inj hr
  have hst := (hst.cut 0 1)
  exact hR _ hst
def platter_New (k : Nat) (x1 : Int) : Option (Int × Int × Bool × Int × (List ((List UInt8) × (Option T_platter_file)))) := (Option.bind (meter_Made k x1) fun y2 => some (y2.room, y2.used, false, (0 : Int), ([] : (List ((List UInt8) × (Option T_platter_file))))))
set_option maxRecDepth 100000 in
set_option maxHeartbeats 4000000 in
theorem platter_New_ok {G w : World} {F : List HP} {R : Ending → World → Prop} (k : Nat) (x1 : Int) (r : (Int × Int × Bool × Int × (List ((List UInt8) × (Option T_platter_file))))) (hst : St G w (F)) (hr : platter_New k x1 = some r)
    (hR : ∀ (p3 : Nat) (p4 : Nat) w', St G w' (blk p3 (cl [I r.1, I r.2.1, .bool r.2.2.1, I r.2.2.2.1, .map (some p4)] 42) :: mpr S (rPt r_T_platter_file) p4 r.2.2.2.2 :: F) → R (.returned (pt p3 0)) w') :
    Calls Try.prog 14 #[I x1] w R := by
  unfold platter_New at hr
  refine enter Try.func14 rfl [(0, I x1)] rfl rfl fun b => ?_
  refine wp_seq ?_
  refine wp_reg ?_
  refine L_pure 1 [(0, I x1)] (by kernel_rfl) fun b => ?_
  refine wpL_nil ?_
  refine th_n ?_
  refine wp_seq ?_
  refine wp_reg ?_
  refine L_pure 1 [(3, I x1)] (by kernel_rfl) fun b => ?_
  obtain ⟨y2, hy2, hr⟩ := bnd hr
  refine L_op rfl (O_call (vs := #[I x1]) Try.call38 (by kernel_rfl) (meter_Made_ok k x1 y2 hst hy2 fun w hst => ?_))
  refine CK_ret rfl ?_
  refine L_op rfl (O_makeMapR S (rPt r_T_platter_file) hst rfl fun p5 w hst => ?_)
  refine L_pure 1 [(6, .agg #[I y2.room, I y2.used, .bool false, I 0, .map (some p5)])] (by kernel_rfl) fun b => ?_
  refine L_op rfl (O_box [I y2.room, I y2.used, .bool false, I 0, .map (some p5)] hst rfl rfl fun p6 w hst => ?_)
  refine L_pure 1 [(2, pt p6 0)] (by kernel_rfl) fun b => ?_
  refine wpL_nil ?_
  refine th_n ?_
  refine wp_ret ?_
  refine ret1 rfl rfl ?_
  obtain rfl := Option.some.inj hr
  have hst := ((hst.pull 1).pull 1)
  exact hR p6 p5 _ hst
def wire_Enc_U_l2 (k : Nat) (x4 : Int) : Nat → Int → Option (Int)
  | 0, _ => none
  | j + 1, v16 => (if 0 ≤ v16 then (if decide ((shR .u64 x4 v16) > 127) = true then (wire_Enc_U_l2 k x4 j (IntKind.i64.wrap (v16 + 7))) else some (v16)) else none)
def wire_Enc_U_l3 (k : Nat) (x4 : Int) : Nat → Int → (List Int) → Option ((List Int))
  | 0, _, _ => none
  | j + 1, v19, v20 => (if decide (v19 > 0) = true then (if 0 ≤ v19 then (if room (v20.length + ([(bOr .u8 (IntKind.u8.wrap (shR .u64 x4 v19)) 128)]).length) 1 = true then (wire_Enc_U_l3 k x4 j (IntKind.i64.wrap (v19 - 7)) (v20 ++ ([(bOr .u8 (IntKind.u8.wrap (shR .u64 x4 v19)) 128)]))) else none) else none) else some (v20))
def wire_Enc_U_l1 (k : Nat) (x2 : (List Int)) : Nat → Int → (List Int) → Option ((List Int))
  | 0, _, _ => none
  | j + 1, v13, v14 => (if decide (v13 < (x2.length : Int)) = true then (Option.bind (gt x2 v13) fun x4 => (Option.bind (wire_Enc_U_l2 k x4 k (0 : Int)) fun y5 => (Option.bind (wire_Enc_U_l3 k x4 k y5 v14) fun y6 => (if room (y6.length + ([(IntKind.u8.wrap (bAnd .u64 x4 127))]).length) 1 = true then (wire_Enc_U_l1 k x2 j (IntKind.i64.wrap (v13 + 1)) (y6 ++ ([(IntKind.u8.wrap (bAnd .u64 x4 127))]))) else none)))) else some (v14))
def wire_Enc_U (k : Nat) (x1 : T_wire_Enc) (x2 : (List Int)) : Option ((List Int)) := (Option.bind (wire_Enc_U_l1 k x2 k (0 : Int) x1.b) fun y4 => some (y4))
set_option maxRecDepth 100000 in
set_option maxHeartbeats 4000000 in
theorem wire_Enc_U_ok {G w : World} {F : List HP} {R : Ending → World → Prop} (k : Nat) (x1 : T_wire_Enc) (x2 : (List Int)) (p1 : Nat) (a1 : Option Addr) (c1 : Nat) (a2 : Option Addr) (c2 : Nat) (r : ((List Int))) (hst : St G w (blk p1 (cl [.slice a1 x1.b.length c1] 101) :: osl (rI .u8) 5 a1 c1 x1.b :: osl (rI .u64) 129 a2 c2 x2 :: F)) (hr : wire_Enc_U k x1 x2 = some r)
    (hR : ∀ (a11 : Option Addr) (c11 : Nat) w', St G w' (osl (rI .u8) 5 a11 c11 r :: blk p1 (cl [.slice a11 r.length c11] 101) :: osl (rI .u64) 129 a2 c2 x2 :: F) → R (.returned (pt p1 0)) w') :
    Calls Try.prog 67 #[pt p1 0, .slice a2 x2.length c2] w R := by
  unfold wire_Enc_U at hr
  refine enter Try.func67 rfl [(0, pt p1 0), (1, .slice a2 x2.length c2)] rfl rfl fun b => ?_
  refine wp_seq ?_
  refine wp_reg ?_
  refine L_pure 1 [(0, pt p1 0), (1, .slice a2 x2.length c2)] (by kernel_rfl) fun b => ?_
  refine wpL_nil ?_
  refine th_n ?_
  refine wp_seq ?_
  refine wp_seq ?_
  refine wp_reg ?_
  refine L_pure 3 [(0, pt p1 0), (8, .slice a2 x2.length c2), (9, I (x2.length : Int)), (10, I 0)] (by kernel_rfl) fun b => ?_
  refine wpL_nil ?_
  refine th_n ?_
  obtain ⟨y4, hy4, hk4⟩ := bnd hr
  clear hr
  refine Go.Hx.wp_cut (fun a w => ∃ (a14 : Option Addr) (c14 : Nat)(b : Nat → Value), a = mkF 52 b [(0, pt p1 0)] ∧ St G w (osl (rI .u8) 5 a14 c14 y4 :: blk p1 (cl [.slice a14 y4.length c14] 101) :: osl (rI .u64) 129 a2 c2 x2 :: F)) ?_ ?_
  · rintro _ w ⟨a14, c14, b, rfl, hst⟩
    have hr := hk4
    refine th_n ?_
    refine wp_seq ?_
    refine wp_reg ?_
    refine L_pure 2 [(4, pt p1 0)] (by kernel_rfl) fun b => ?_
    refine wpL_nil ?_
    refine th_n ?_
    refine wp_ret ?_
    refine ret1 rfl rfl ?_
    obtain rfl := Option.some.inj hr
    have hst := (((hst.pull 2).pull 2).pull 2)
    exact hR a14 c14 _ hst
  · have hst := (((hst.pull 2).pull 1).pull 2)
    refine wp_block ?_
    refine wp_loop_fuel (fun j a w => ∃ (v13 : Int) (v14 : (List Int)) (a12 : Option Addr) (c12 : Nat) (b : Nat → Value), a = mkF 52 b [(0, pt p1 0), (8, .slice a2 x2.length c2), (9, I (x2.length : Int)), (10, I v13)] ∧ St G w (osl (rI .u8) 5 a12 c12 v14 :: blk p1 (cl [.slice a12 v14.length c12] 101) :: osl (rI .u64) 129 a2 c2 x2 :: F) ∧ wire_Enc_U_l1 k x2 j v13 v14 = some y4) (k := k) ⟨(0 : Int), x1.b, a1, c1, (kpX [(0, pt p1 0), (8, .slice a2 x2.length c2), (9, I (x2.length : Int)), (10, I 0)] rfl ⟨hst, hy4⟩)⟩ ?_ ?_
    · rintro _ _ ⟨_, _, _, _, _, _, _, h⟩
      rw [wire_Enc_U_l1] at h
      cases h
    · rintro j _ w ⟨v13, v14, a12, c12, b, rfl, hst, hr⟩
      rw [wire_Enc_U_l1] at hr
      refine wp_seq ?_
      refine wp_reg ?_
      refine L_pure 1 [(0, pt p1 0), (8, .slice a2 x2.length c2), (9, I (x2.length : Int)), (10, I v13), (11, .bool (decide (v13 < (x2.length : Int))))] (by kernel_rfl) fun b => ?_
      refine wpL_nil ?_
      refine th_n ?_
      refine wp_seq ?_
      refine wp_cond_mkF (t := decide (v13 < (x2.length : Int))) rfl (fun h => ?_) (fun h => ?_)
      · have hr := (if_pos h).symm.trans hr
        refine wp_skip ?_
        refine th_n ?_
        refine wp_seq ?_
        refine wp_block ?_
        refine wp_seq ?_
        refine wp_reg ?_
        obtain ⟨x4, hx2, hr⟩ := bnd hr
        refine L_op rfl (O_run (v := pt (ab a2) (ao a2 + v13.toNat * 1)) (w' := w) (R_ia L143 rfl rfl (osl_addr (hst.pull 2) hx2) (gt_some hx2).1 (gt_some hx2).2.1) rfl rfl ?_)
        obtain ⟨q2, hc2, hst⟩ := osl_cells (hst.pull 2) hx2
        have hst := hst.drop
        refine L_op rfl (O_run (v := .int .u64 x4) (w' := w) (R_loadAt (off := ao a2 + v13.toNat * 1) (j := 0) hc2 rfl rfl) rfl rfl ?_)
        refine L_pure 1 [(0, pt p1 0), (6, .int .u64 x4), (8, .slice a2 x2.length c2), (9, I (x2.length : Int)), (10, I v13)] (by kernel_rfl) fun b => ?_
        refine wpL_nil ?_
        refine th_n ?_
        refine wp_seq ?_
        refine wp_reg ?_
        refine L_pure 1 [(0, pt p1 0), (6, .int .u64 x4), (7, I 0), (8, .slice a2 x2.length c2), (9, I (x2.length : Int)), (10, I v13)] (by kernel_rfl) fun b => ?_
        refine wpL_nil ?_
        refine th_n ?_
        obtain ⟨y5, hy5, hk5⟩ := bnd hr
        clear hr
        refine wp_seq_cut (fun a w => ∃ (b : Nat → Value), a = mkF 52 b [(0, pt p1 0), (6, .int .u64 x4), (7, I y5), (8, .slice a2 x2.length c2), (9, I (x2.length : Int)), (10, I v13)] ∧ St G w (osl (rI .u64) 129 a2 c2 x2 :: osl (rI .u8) 5 a12 c12 v14 :: blk p1 (cl [.slice a12 v14.length c12] 101) :: F)) ?_ ?_
        · rintro _ w ⟨b, rfl, hst⟩
          have hr := hk5
          obtain ⟨y6, hy6, hk6⟩ := bnd hr
          clear hr
          refine wp_seq_cut (fun a w => ∃ (a17 : Option Addr) (c17 : Nat)(b : Nat → Value), a = mkF 52 b [(0, pt p1 0), (6, .int .u64 x4), (8, .slice a2 x2.length c2), (9, I (x2.length : Int)), (10, I v13)] ∧ St G w (osl (rI .u8) 5 a17 c17 y6 :: osl (rI .u64) 129 a2 c2 x2 :: blk p1 (cl [.slice a17 y6.length c17] 101) :: F)) ?_ ?_
          · rintro _ w ⟨a17, c17, b, rfl, hst⟩
            have hr := hk6
            refine wp_reg ?_
            refine L_pure 4 [(0, pt p1 0), (6, .int .u64 x4), (8, .slice a2 x2.length c2), (9, I (x2.length : Int)), (10, I v13), (38, pt p1 0), (41, pt p1 0)] (by kernel_rfl) fun b => ?_
            refine L_op rfl (O_run (v := .slice a17 y6.length c17) (w' := w) (R_load (hst.pull 2) rfl rfl) rfl rfl ?_)
            refine L_pure 3 [(0, pt p1 0), (8, .slice a2 x2.length c2), (9, I (x2.length : Int)), (10, I v13), (38, pt p1 0), (42, .slice a17 y6.length c17), (45, .int .u8 (IntKind.u8.wrap (bAnd .u64 x4 127)))] (by kernel_rfl) fun b => ?_
            refine L_op rfl (O_bs (T := 5) [.int .u8 (IntKind.u8.wrap (bAnd .u64 x4 127))] #[(0, .int .u8 (IntKind.u8.wrap (bAnd .u64 x4 127)))] hst (by kernel_rfl) (by kernel_rfl) rfl fun p5 w hst => ?_)
            have hst := osl_of_blk0 (ecs := [[.int .u8 (IntKind.u8.wrap (bAnd .u64 x4 127))]]) (rI .u8) [(IntKind.u8.wrap (bAnd .u64 x4 127))] rfl (fun m => ⟨⟨(), rfl, trivial⟩, trivial⟩) rfl hst
            obtain ⟨hb4, hr⟩ := chk hr
            refine L_op rfl (O_app_o L99 (hst.pull 1) rfl rfl hb4 rfl fun a19 c19 w hst => ?_)
            refine L_pure 2 [(0, pt p1 0), (8, .slice a2 x2.length c2), (9, I (x2.length : Int)), (10, I v13), (47, .slice a19 (y6 ++ ([(IntKind.u8.wrap (bAnd .u64 x4 127))])).length c19), (49, pt p1 0)] (by kernel_rfl) fun b => ?_
            refine L_op rfl (O_store [.slice a19 (y6 ++ ([(IntKind.u8.wrap (bAnd .u64 x4 127))])).length c19] (hst.pull 3) rfl rfl (by kernel_rfl) fun w hst => ?_)
            refine wpL_nil ?_
            refine ib_n (th_n ?_)
            refine wp_reg ?_
            refine L_pure 2 [(0, pt p1 0), (8, .slice a2 x2.length c2), (9, I (x2.length : Int)), (10, I (IntKind.i64.wrap (v13 + 1)))] (by kernel_rfl) fun b => ?_
            refine wpL_nil ?_
            refine th_n ?_
            have hst := ((((hst.pull 3).pull 1).pull 2).cut 3 1)
            exact ⟨(IntKind.i64.wrap (v13 + 1)), (y6 ++ ([(IntKind.u8.wrap (bAnd .u64 x4 127))])), a19, c19, (kpX [(0, pt p1 0), (8, .slice a2 x2.length c2), (9, I (x2.length : Int)), (10, I (IntKind.i64.wrap (v13 + 1)))] rfl ⟨hst, hr⟩)⟩
          · have hst := (((hst.pull 2).pull 1).pull 2)
            refine wp_block ?_
            refine wp_loop_fuel (fun j a w => ∃ (v19 : Int) (v20 : (List Int)) (a15 : Option Addr) (c15 : Nat) (b : Nat → Value), a = mkF 52 b [(0, pt p1 0), (6, .int .u64 x4), (7, I v19), (8, .slice a2 x2.length c2), (9, I (x2.length : Int)), (10, I v13)] ∧ St G w (osl (rI .u8) 5 a15 c15 v20 :: osl (rI .u64) 129 a2 c2 x2 :: blk p1 (cl [.slice a15 v20.length c15] 101) :: F) ∧ wire_Enc_U_l3 k x4 j v19 v20 = some y6) (k := k) ⟨y5, v14, a12, c12, (kpX [(0, pt p1 0), (6, .int .u64 x4), (7, I y5), (8, .slice a2 x2.length c2), (9, I (x2.length : Int)), (10, I v13)] rfl ⟨hst, hy6⟩)⟩ ?_ ?_
            · rintro _ _ ⟨_, _, _, _, _, _, _, h⟩
              rw [wire_Enc_U_l3] at h
              cases h
            · rintro j _ w ⟨v19, v20, a15, c15, b, rfl, hst, hr⟩
              rw [wire_Enc_U_l3] at hr
              refine wp_seq ?_
              refine wp_seq ?_
              refine wp_reg ?_
              refine L_pure 2 [(0, pt p1 0), (6, .int .u64 x4), (7, I v19), (8, .slice a2 x2.length c2), (9, I (x2.length : Int)), (10, I v13), (21, .bool (decide (v19 > 0)))] (by kernel_rfl) fun b => ?_
              refine wpL_nil ?_
              refine th_n ?_
              refine wp_cond_mkF (t := decide (v19 > 0)) rfl (fun h => ?_) (fun h => ?_)
              · have hr := (if_pos h).symm.trans hr
                refine wp_skip ?_
                refine th_n ?_
                refine wp_seq ?_
                refine wp_block ?_
                refine wp_regG (SP 11 (fun w => St G w (osl (rI .u8) 5 a15 c15 v20 :: osl (rI .u64) 129 a2 c2 x2 :: blk p1 (cl [.slice a15 v20.length c15] 101) :: F))) rfl ?_
                have hst := hst.draw (n := w.drawn + 1)
                generalize { w with drawn := w.drawn + 1 } = w at hst ⊢
                refine P_pure (i := 0) (v := pt p1 0) 11 rfl rfl (by kernel_rfl) (fun _ _ _ h => h) rfl rfl rfl (by kernel_rfl) (.inr (((hst.pull 2).pull 2).pull 2)) ?_
                refine P_pure (i := 1) (v := pt p1 0) 11 rfl rfl (by kernel_rfl) (fun _ _ _ h => h) rfl rfl rfl (by kernel_rfl) (.inr (((hst.pull 2).pull 2).pull 2)) ?_
                refine P_pure (i := 2) (v := pt p1 0) 11 rfl rfl (by kernel_rfl) (fun _ _ _ h => h) rfl rfl rfl (by kernel_rfl) (.inr (((hst.pull 2).pull 2).pull 2)) ?_
                refine P_pure (i := 3) (v := pt p1 0) 11 rfl rfl (by kernel_rfl) (fun _ _ _ h => h) rfl rfl rfl (by kernel_rfl) (.inr (((hst.pull 2).pull 2).pull 2)) ?_
                refine P_take (i := 4) (v := .slice a15 v20.length c15) 11 [4] (by kernel_rfl) rfl (by kernel_rfl) (fun _ _ _ h => h) rfl rfl rfl (fun w hst => R_load (hst.pull 2) rfl rfl) ((((hst.pull 2).pull 2).pull 2)) ?_
                refine P_pure (i := 5) (v := .int .u64 x4) 11 rfl rfl (by kernel_rfl) (fun _ _ _ h => h) rfl rfl rfl (by kernel_rfl) (.inr (((hst.pull 2).pull 2).pull 2)) ?_
                refine P_pure (i := 6) (v := I v19) 11 rfl rfl (by kernel_rfl) (fun _ _ _ h => h) rfl rfl rfl (by kernel_rfl) (.inr (((hst.pull 2).pull 2).pull 2)) ?_
                obtain ⟨hy4, hr⟩ := chk hr
                refine P_any (i := 7) (v := .int .u64 (shR .u64 x4 v19)) 11 rfl rfl (by kernel_rfl) (fun _ _ _ h => h) rfl rfl rfl (fun w => (R_shr rfl rfl hy4)) (.inr (((hst.pull 2).pull 2).pull 2)) ?_
                refine P_pure (i := 8) (v := .int .u8 (IntKind.u8.wrap (shR .u64 x4 v19))) 11 rfl rfl (by kernel_rfl) (fun _ _ _ h => h) rfl rfl rfl (by kernel_rfl) (.inr (((hst.pull 2).pull 2).pull 2)) ?_
                refine P_pure (i := 9) (v := .int .u8 (bOr .u8 (IntKind.u8.wrap (shR .u64 x4 v19)) 128)) 11 rfl rfl (by kernel_rfl) (fun _ _ _ h => h) rfl rfl rfl (by kernel_rfl) (.inr (((hst.pull 2).pull 2).pull 2)) ?_
                refine P_one (i := 10) 11 (by kernel_rfl) rfl rfl (O_bs (T := 5) [.int .u8 (bOr .u8 (IntKind.u8.wrap (shR .u64 x4 v19)) 128)] #[(0, .int .u8 (bOr .u8 (IntKind.u8.wrap (shR .u64 x4 v19)) 128))] hst (by kernel_rfl) (by kernel_rfl) rfl fun p4 w hst => ?_)
                have hst := osl_of_blk0 (ecs := [[.int .u8 (bOr .u8 (IntKind.u8.wrap (shR .u64 x4 v19)) 128)]]) (rI .u8) [(bOr .u8 (IntKind.u8.wrap (shR .u64 x4 v19)) 128)] rfl (fun m => ⟨⟨(), rfl, trivial⟩, trivial⟩) rfl hst
                refine ⟨((((hst.pull 3).pull 3).pull 3).cut 3 1), ?_⟩
                obtain ⟨hb3, hr⟩ := chk hr
                refine P_act (i := 11) 11 (by kernel_rfl) rfl rfl (by kernel_rfl) (O_app_o L99 (hst.pull 1) rfl rfl hb3 rfl fun a18 c18 w hst => ?_)
                refine P_pure (i := 12) (v := pt p1 0) 11 rfl rfl (by kernel_rfl) (fun _ _ _ h => h) rfl rfl rfl (by kernel_rfl) (.inl (by kernel_rfl)) ?_
                refine P_pure (i := 13) (v := pt p1 0) 11 rfl rfl (by kernel_rfl) (fun _ _ _ h => h) rfl rfl rfl (by kernel_rfl) (.inl (by kernel_rfl)) ?_
                refine P_act (i := 14) 11 (by kernel_rfl) rfl rfl (by kernel_rfl) (O_store [.slice a18 (v20 ++ ([(bOr .u8 (IntKind.u8.wrap (shR .u64 x4 v19)) 128)])).length c18] (hst.pull 3) rfl rfl (by kernel_rfl) fun w hst => ?_)
                refine wpG_done (by kernel_rfl) ?_ _
                refine C_keepQ [(0, pt p1 0), (6, .int .u64 x4), (7, I v19), (8, .slice a2 x2.length c2), (9, I (x2.length : Int)), (10, I v13)] rfl fun b => ?_
                refine ib_n (th_n ?_)
                refine wp_reg ?_
                refine L_pure 3 [(0, pt p1 0), (6, .int .u64 x4), (7, I (IntKind.i64.wrap (v19 - 7))), (8, .slice a2 x2.length c2), (9, I (x2.length : Int)), (10, I v13)] (by kernel_rfl) fun b => ?_
                refine wpL_nil ?_
                refine th_n ?_
                have hst := (((hst.pull 3).pull 2).cut 3 1)
                exact ⟨(IntKind.i64.wrap (v19 - 7)), (v20 ++ ([(bOr .u8 (IntKind.u8.wrap (shR .u64 x4 v19)) 128)])), a18, c18, (kpX [(0, pt p1 0), (6, .int .u64 x4), (7, I (IntKind.i64.wrap (v19 - 7))), (8, .slice a2 x2.length c2), (9, I (x2.length : Int)), (10, I v13)] rfl ⟨hst, hr⟩)⟩
              · have hr := (if_neg (by rw [h]; exact Bool.false_ne_true)).symm.trans hr
                refine wp_exit ?_
                refine th_x (th_x (ib_x (th_n ?_)))
                obtain rfl := Option.some.inj hr
                have hst := (((hst.pull 2).pull 2).pull 2)
                exact ⟨a15, c15, (kpX [(0, pt p1 0), (6, .int .u64 x4), (8, .slice a2 x2.length c2), (9, I (x2.length : Int)), (10, I v13)] rfl hst)⟩
        · have hst := (((hst.pull 2).pull 2).pull 2)
          refine wp_block ?_
          refine wp_loop_fuel (fun j a w => ∃ (v16 : Int) (b : Nat → Value), a = mkF 52 b [(0, pt p1 0), (6, .int .u64 x4), (7, I v16), (8, .slice a2 x2.length c2), (9, I (x2.length : Int)), (10, I v13)] ∧ St G w (osl (rI .u64) 129 a2 c2 x2 :: osl (rI .u8) 5 a12 c12 v14 :: blk p1 (cl [.slice a12 v14.length c12] 101) :: F) ∧ wire_Enc_U_l2 k x4 j v16 = some y5) (k := k) ⟨(0 : Int), (kpX [(0, pt p1 0), (6, .int .u64 x4), (7, I 0), (8, .slice a2 x2.length c2), (9, I (x2.length : Int)), (10, I v13)] rfl ⟨hst, hy5⟩)⟩ ?_ ?_
          · rintro _ _ ⟨_, _, _, _, h⟩
            rw [wire_Enc_U_l2] at h
            cases h
          · rintro j _ w ⟨v16, b, rfl, hst, hr⟩
            rw [wire_Enc_U_l2] at hr
            refine wp_seq ?_
            refine wp_seq ?_
            refine wp_reg ?_
            refine L_pure 2 [(0, pt p1 0), (6, .int .u64 x4), (7, I v16), (8, .slice a2 x2.length c2), (9, I (x2.length : Int)), (10, I v13), (14, .int .u64 x4), (15, I v16)] (by kernel_rfl) fun b => ?_
            obtain ⟨hy3, hr⟩ := chk hr
            refine L_op rfl (O_run (v := .int .u64 (shR .u64 x4 v16)) (w' := w) (R_shr rfl rfl hy3) rfl rfl ?_)
            refine L_pure 1 [(0, pt p1 0), (6, .int .u64 x4), (7, I v16), (8, .slice a2 x2.length c2), (9, I (x2.length : Int)), (10, I v13), (17, .bool (decide ((shR .u64 x4 v16) > 127)))] (by kernel_rfl) fun b => ?_
            refine wpL_nil ?_
            refine th_n ?_
            refine wp_cond_mkF (t := decide ((shR .u64 x4 v16) > 127)) rfl (fun h => ?_) (fun h => ?_)
            · have hr := (if_pos h).symm.trans hr
              refine wp_skip ?_
              refine th_n ?_
              refine wp_block ?_
              refine wp_reg ?_
              refine L_pure 3 [(0, pt p1 0), (6, .int .u64 x4), (7, I (IntKind.i64.wrap (v16 + 7))), (8, .slice a2 x2.length c2), (9, I (x2.length : Int)), (10, I v13)] (by kernel_rfl) fun b => ?_
              refine wpL_nil ?_
              refine ib_n (th_n ?_)
              have hst := (((hst.pull 2).pull 2).pull 2)
              exact ⟨(IntKind.i64.wrap (v16 + 7)), (kpX [(0, pt p1 0), (6, .int .u64 x4), (7, I (IntKind.i64.wrap (v16 + 7))), (8, .slice a2 x2.length c2), (9, I (x2.length : Int)), (10, I v13)] rfl ⟨hst, hr⟩)⟩
            · have hr := (if_neg (by rw [h]; exact Bool.false_ne_true)).symm.trans hr
              refine wp_exit ?_
              refine th_x (th_x (ib_x (th_n ?_)))
              obtain rfl := Option.some.inj hr
              have hst := (((hst.pull 2).pull 2).pull 2)
              exact (kpX [(0, pt p1 0), (6, .int .u64 x4), (7, I v16), (8, .slice a2 x2.length c2), (9, I (x2.length : Int)), (10, I v13)] rfl hst)
      · have hr := (if_neg (by rw [h]; exact Bool.false_ne_true)).symm.trans hr
        refine wp_exit ?_
        refine th_x (th_x (ib_x (th_n ?_)))
        obtain rfl := Option.some.inj hr
        have hst := (((hst.pull 2).pull 2).pull 2)
        exact ⟨a12, c12, (kpX [(0, pt p1 0)] rfl hst)⟩
def wire_Enc_I_l1 (k : Nat) (x2 : (List Int)) : Nat → Int → (List Int) → Option ((List Int))
  | 0, _, _ => none
  | j + 1, v7, v8 => (if decide (v7 < (x2.length : Int)) = true then (Option.bind (gt x2 v7) fun x4 => (Option.bind (wire_Enc_U k (T_wire_Enc.mk v8) ([(IntKind.u64.wrap (mx2 x4 0))])) fun y4 => (wire_Enc_I_l1 k x2 j (IntKind.i64.wrap (v7 + 1)) y4))) else some (v8))
def wire_Enc_I (k : Nat) (x1 : T_wire_Enc) (x2 : (List Int)) : Option ((List Int)) := (Option.bind (wire_Enc_I_l1 k x2 k (0 : Int) x1.b) fun y3 => some (y3))
set_option maxRecDepth 100000 in
set_option maxHeartbeats 4000000 in
theorem wire_Enc_I_ok {G w : World} {F : List HP} {R : Ending → World → Prop} (k : Nat) (x1 : T_wire_Enc) (x2 : (List Int)) (p1 : Nat) (a1 : Option Addr) (c1 : Nat) (a2 : Option Addr) (c2 : Nat) (r : ((List Int))) (hst : St G w (blk p1 (cl [.slice a1 x1.b.length c1] 101) :: osl (rI .u8) 5 a1 c1 x1.b :: osl (rI .i64) 3 a2 c2 x2 :: F)) (hr : wire_Enc_I k x1 x2 = some r)
    (hR : ∀ (a7 : Option Addr) (c7 : Nat) w', St G w' (osl (rI .u8) 5 a7 c7 r :: blk p1 (cl [.slice a7 r.length c7] 101) :: osl (rI .i64) 3 a2 c2 x2 :: F) → R (.returned (pt p1 0)) w') :
    Calls Try.prog 48 #[pt p1 0, .slice a2 x2.length c2] w R := by
  unfold wire_Enc_I at hr
  refine enter Try.func48 rfl [(0, pt p1 0), (1, .slice a2 x2.length c2)] rfl rfl fun b => ?_
  refine wp_seq ?_
  refine wp_reg ?_
  refine L_pure 1 [(0, pt p1 0), (1, .slice a2 x2.length c2)] (by kernel_rfl) fun b => ?_
  refine wpL_nil ?_
  refine th_n ?_
  refine wp_seq ?_
  refine wp_seq ?_
  refine wp_reg ?_
  refine L_pure 3 [(0, pt p1 0), (7, .slice a2 x2.length c2), (8, I (x2.length : Int)), (9, I 0)] (by kernel_rfl) fun b => ?_
  refine wpL_nil ?_
  refine th_n ?_
  obtain ⟨y3, hy3, hk2⟩ := bnd hr
  clear hr
  refine Go.Hx.wp_cut (fun a w => ∃ (a10 : Option Addr) (c10 : Nat)(b : Nat → Value), a = mkF 21 b [(0, pt p1 0)] ∧ St G w (osl (rI .u8) 5 a10 c10 y3 :: blk p1 (cl [.slice a10 y3.length c10] 101) :: osl (rI .i64) 3 a2 c2 x2 :: F)) ?_ ?_
  · rintro _ w ⟨a10, c10, b, rfl, hst⟩
    have hr := hk2
    refine th_n ?_
    refine wp_seq ?_
    refine wp_reg ?_
    refine L_pure 2 [(4, pt p1 0)] (by kernel_rfl) fun b => ?_
    refine wpL_nil ?_
    refine th_n ?_
    refine wp_ret ?_
    refine ret1 rfl rfl ?_
    obtain rfl := Option.some.inj hr
    have hst := (((hst.pull 2).pull 2).pull 2)
    exact hR a10 c10 _ hst
  · have hst := (((hst.pull 2).pull 1).pull 2)
    refine wp_block ?_
    refine wp_loop_fuel (fun j a w => ∃ (v7 : Int) (v8 : (List Int)) (a8 : Option Addr) (c8 : Nat) (b : Nat → Value), a = mkF 21 b [(0, pt p1 0), (7, .slice a2 x2.length c2), (8, I (x2.length : Int)), (9, I v7)] ∧ St G w (osl (rI .u8) 5 a8 c8 v8 :: blk p1 (cl [.slice a8 v8.length c8] 101) :: osl (rI .i64) 3 a2 c2 x2 :: F) ∧ wire_Enc_I_l1 k x2 j v7 v8 = some y3) (k := k) ⟨(0 : Int), x1.b, a1, c1, (kpX [(0, pt p1 0), (7, .slice a2 x2.length c2), (8, I (x2.length : Int)), (9, I 0)] rfl ⟨hst, hy3⟩)⟩ ?_ ?_
    · rintro _ _ ⟨_, _, _, _, _, _, _, h⟩
      rw [wire_Enc_I_l1] at h
      cases h
    · rintro j _ w ⟨v7, v8, a8, c8, b, rfl, hst, hr⟩
      rw [wire_Enc_I_l1] at hr
      refine wp_seq ?_
      refine wp_reg ?_
      refine L_pure 1 [(0, pt p1 0), (7, .slice a2 x2.length c2), (8, I (x2.length : Int)), (9, I v7), (10, .bool (decide (v7 < (x2.length : Int))))] (by kernel_rfl) fun b => ?_
      refine wpL_nil ?_
      refine th_n ?_
      refine wp_seq ?_
      refine wp_cond_mkF (t := decide (v7 < (x2.length : Int))) rfl (fun h => ?_) (fun h => ?_)
      · have hr := (if_pos h).symm.trans hr
        refine wp_skip ?_
        refine th_n ?_
        refine wp_seq ?_
        refine wp_block ?_
        refine wp_seq ?_
        refine wp_reg ?_
        obtain ⟨x4, hx2, hr⟩ := bnd hr
        refine L_op rfl (O_run (v := pt (ab a2) (ao a2 + v7.toNat * 1)) (w' := w) (R_ia L30 rfl rfl (osl_addr (hst.pull 2) hx2) (gt_some hx2).1 (gt_some hx2).2.1) rfl rfl ?_)
        obtain ⟨q2, hc2, hst⟩ := osl_cells (hst.pull 2) hx2
        have hst := hst.drop
        refine L_op rfl (O_run (v := I x4) (w' := w) (R_loadAt (off := ao a2 + v7.toNat * 1) (j := 0) hc2 rfl rfl) rfl rfl ?_)
        refine L_pure 1 [(0, pt p1 0), (6, I x4), (7, .slice a2 x2.length c2), (8, I (x2.length : Int)), (9, I v7)] (by kernel_rfl) fun b => ?_
        refine wpL_nil ?_
        refine th_n ?_
        refine wp_reg ?_
        refine L_pure 4 [(0, pt p1 0), (7, .slice a2 x2.length c2), (8, I (x2.length : Int)), (9, I v7), (13, pt p1 0), (16, .int .u64 (IntKind.u64.wrap (mx2 x4 0)))] (by kernel_rfl) fun b => ?_
        refine L_op rfl (O_bs (T := 129) [.int .u64 (IntKind.u64.wrap (mx2 x4 0))] #[(0, .int .u64 (IntKind.u64.wrap (mx2 x4 0)))] hst (by kernel_rfl) (by kernel_rfl) rfl fun p3 w hst => ?_)
        have hst := osl_of_blk0 (ecs := [[.int .u64 (IntKind.u64.wrap (mx2 x4 0))]]) (rI .u64) [(IntKind.u64.wrap (mx2 x4 0))] rfl (fun m => ⟨⟨(), rfl, trivial⟩, trivial⟩) rfl hst
        obtain ⟨y4, hy4, hr⟩ := bnd hr
        refine L_op rfl (O_call (vs := #[pt p1 0, .slice (some ⟨p3, 0, none⟩) ([(IntKind.u64.wrap (mx2 x4 0))]).length 1]) Try.call67 (by kernel_rfl) (wire_Enc_U_ok k (T_wire_Enc.mk v8) ([(IntKind.u64.wrap (mx2 x4 0))]) p1 a8 c8 (some ⟨p3, 0, none⟩) 1 y4 ((hst.pull 2).pull 3) hy4 fun a11 c11 w hst => ?_))
        refine CK_ret rfl ?_
        refine wpL_nil ?_
        refine ib_n (th_n ?_)
        refine wp_reg ?_
        refine L_pure 2 [(0, pt p1 0), (7, .slice a2 x2.length c2), (8, I (x2.length : Int)), (9, I (IntKind.i64.wrap (v7 + 1)))] (by kernel_rfl) fun b => ?_
        refine wpL_nil ?_
        refine th_n ?_
        have hst := ((((hst.pull 3).pull 2).pull 2).cut 3 1)
        exact ⟨(IntKind.i64.wrap (v7 + 1)), y4, a11, c11, (kpX [(0, pt p1 0), (7, .slice a2 x2.length c2), (8, I (x2.length : Int)), (9, I (IntKind.i64.wrap (v7 + 1)))] rfl ⟨hst, hr⟩)⟩
      · have hr := (if_neg (by rw [h]; exact Bool.false_ne_true)).symm.trans hr
        refine wp_exit ?_
        refine th_x (th_x (ib_x (th_n ?_)))
        obtain rfl := Option.some.inj hr
        have hst := (((hst.pull 2).pull 2).pull 2)
        exact ⟨a8, c8, (kpX [(0, pt p1 0)] rfl hst)⟩
def wire_Enc_Bytes (_k : Nat) (x1 : T_wire_Enc) : Option ((List UInt8)) := some ((bS x1.b))
set_option maxRecDepth 100000 in
set_option maxHeartbeats 4000000 in
theorem wire_Enc_Bytes_ok {G w : World} {F : List HP} {R : Ending → World → Prop} (k : Nat) (x1 : T_wire_Enc) (p1 : Nat) (a1 : Option Addr) (c1 : Nat) (r : ((List UInt8))) (hst : St G w (blk p1 (cl [.slice a1 x1.b.length c1] 101) :: dsl (rI .u8) a1 c1 x1.b :: F)) (hr : wire_Enc_Bytes k x1 = some r)
    (hR : ∀ w', St G w' (blk p1 (cl [.slice a1 x1.b.length c1] 101) :: dsl (rI .u8) a1 c1 x1.b :: F) → R (.returned (S r)) w') :
    Calls Try.prog 50 #[pt p1 0] w R := by
  unfold wire_Enc_Bytes at hr
  refine enter Try.func50 rfl [(0, pt p1 0)] rfl rfl fun b => ?_
  refine wp_seq ?_
  refine wp_reg ?_
  refine L_pure 1 [(0, pt p1 0)] (by kernel_rfl) fun b => ?_
  refine wpL_nil ?_
  refine th_n ?_
  refine wp_seq ?_
  refine wp_reg ?_
  refine L_pure 3 [(5, pt p1 0)] (by kernel_rfl) fun b => ?_
  refine L_op rfl (O_run (v := .slice a1 x1.b.length c1) (w' := w) (R_load hst rfl rfl) rfl rfl ?_)
  refine L_op rfl (O_run (v := S (bS x1.b)) (w' := w) (R_b2s Try.underlying99 Try.underlying5 Try.underlying9 (dsl_b2s Try.underlying99 (hst.pull 1)).1 (dsl_b2s Try.underlying99 (hst.pull 1)).2 rfl) rfl rfl ?_)
  refine L_pure 1 [(2, S (bS x1.b))] (by kernel_rfl) fun b => ?_
  refine wpL_nil ?_
  refine th_n ?_
  refine wp_ret ?_
  refine ret1 rfl rfl ?_
  obtain rfl := Option.some.inj hr
  have hst := ((hst.pull 1).pull 1)
  exact hR _ hst
def seal_four (_k : Nat) (x1 : Int) : Option ((List UInt8)) := some ((bS ([(IntKind.u8.wrap (shR .u32 x1 24)), (IntKind.u8.wrap (shR .u32 x1 16)), (IntKind.u8.wrap (shR .u32 x1 8)), (IntKind.u8.wrap x1)])))
set_option maxRecDepth 100000 in
set_option maxHeartbeats 4000000 in
theorem seal_four_ok {G w : World} {F : List HP} {R : Ending → World → Prop} (k : Nat) (x1 : Int) (r : ((List UInt8))) (hst : St G w (F)) (hr : seal_four k x1 = some r)
    (hR : ∀ w', St G w' (F) → R (.returned (S r)) w') :
    Calls Try.prog 65 #[.int .u32 x1] w R := by
  unfold seal_four at hr
  refine enter Try.func65 rfl [(0, .int .u32 x1)] rfl rfl fun b => ?_
  refine wp_seq ?_
  refine wp_reg ?_
  refine L_pure 1 [(0, .int .u32 x1)] (by kernel_rfl) fun b => ?_
  refine wpL_nil ?_
  refine th_n ?_
  refine wp_seq ?_
  refine wp_reg ?_
  refine L_pure 11 [(5, .int .u8 (IntKind.u8.wrap (shR .u32 x1 24))), (8, .int .u8 (IntKind.u8.wrap (shR .u32 x1 16))), (11, .int .u8 (IntKind.u8.wrap (shR .u32 x1 8))), (13, .int .u8 (IntKind.u8.wrap x1))] (by kernel_rfl) fun b => ?_
  refine L_op rfl (O_bs (T := 5) [.int .u8 (IntKind.u8.wrap (shR .u32 x1 24)), .int .u8 (IntKind.u8.wrap (shR .u32 x1 16)), .int .u8 (IntKind.u8.wrap (shR .u32 x1 8)), .int .u8 (IntKind.u8.wrap x1)] #[(0, .int .u8 (IntKind.u8.wrap (shR .u32 x1 24))), (1, .int .u8 (IntKind.u8.wrap (shR .u32 x1 16))), (2, .int .u8 (IntKind.u8.wrap (shR .u32 x1 8))), (3, .int .u8 (IntKind.u8.wrap x1))] hst (by kernel_rfl) (by kernel_rfl) rfl fun p2 w hst => ?_)
  have hst := osl_of_blk0 (ecs := [[.int .u8 (IntKind.u8.wrap (shR .u32 x1 24))], [.int .u8 (IntKind.u8.wrap (shR .u32 x1 16))], [.int .u8 (IntKind.u8.wrap (shR .u32 x1 8))], [.int .u8 (IntKind.u8.wrap x1)]]) (rI .u8) [(IntKind.u8.wrap (shR .u32 x1 24)), (IntKind.u8.wrap (shR .u32 x1 16)), (IntKind.u8.wrap (shR .u32 x1 8)), (IntKind.u8.wrap x1)] rfl (fun m => ⟨⟨(), rfl, trivial⟩, ⟨(), rfl, trivial⟩, ⟨(), rfl, trivial⟩, ⟨(), rfl, trivial⟩, trivial⟩) rfl hst
  refine L_op rfl (O_run (v := S (bS ([(IntKind.u8.wrap (shR .u32 x1 24)), (IntKind.u8.wrap (shR .u32 x1 16)), (IntKind.u8.wrap (shR .u32 x1 8)), (IntKind.u8.wrap x1)]))) (w' := w) (R_b2s Try.underlying99 Try.underlying5 Try.underlying9 (osl_b2s Try.underlying99 hst).1 (osl_b2s Try.underlying99 hst).2 rfl) rfl rfl ?_)
  refine L_pure 1 [(2, S (bS ([(IntKind.u8.wrap (shR .u32 x1 24)), (IntKind.u8.wrap (shR .u32 x1 16)), (IntKind.u8.wrap (shR .u32 x1 8)), (IntKind.u8.wrap x1)])))] (by kernel_rfl) fun b => ?_
  refine wpL_nil ?_
  refine th_n ?_
  refine wp_ret ?_
  refine ret1 rfl rfl ?_
  obtain rfl := Option.some.inj hr
  have hst := (hst.cut 0 1)
  exact hR _ hst
def seal_step_l1 (k : Nat) : Nat → Int → Int → Option (Int)
  | 0, _, _ => none
  | j + 1, v7, v8 => (if decide (v8 < 8) = true then (seal_step_l1 k j (bXor .u32 (shR .u32 v7 1) (bAnd .u32 3988292384 (IntKind.u32.wrap (0 - (bAnd .u32 v7 1))))) (IntKind.i64.wrap (v8 + 1))) else some (v7))
def seal_step (k : Nat) (x1 : Int) (x2 : Int) : Option (Int) := (Option.bind (seal_step_l1 k k (bXor .u32 x1 (IntKind.u32.wrap x2)) (0 : Int)) fun y2 => some (y2))
set_option maxRecDepth 100000 in
set_option maxHeartbeats 4000000 in
theorem seal_step_ok {G w : World} {F : List HP} {R : Ending → World → Prop} (k : Nat) (x1 : Int) (x2 : Int) (r : (Int)) (hst : St G w (F)) (hr : seal_step k x1 x2 = some r)
    (hR : ∀ w', St G w' (F) → R (.returned (.int .u32 r)) w') :
    Calls Try.prog 77 #[.int .u32 x1, .int .u8 x2] w R := by
  unfold seal_step at hr
  refine enter Try.func77 rfl [(0, .int .u32 x1), (1, .int .u8 x2)] rfl rfl fun b => ?_
  refine wp_seq ?_
  refine wp_reg ?_
  refine L_pure 1 [(0, .int .u32 x1), (1, .int .u8 x2)] (by kernel_rfl) fun b => ?_
  refine wpL_nil ?_
  refine th_n ?_
  refine wp_seq ?_
  refine wp_reg ?_
  refine L_pure 5 [(0, .int .u32 (bXor .u32 x1 (IntKind.u32.wrap x2)))] (by kernel_rfl) fun b => ?_
  refine wpL_nil ?_
  refine th_n ?_
  refine wp_seq ?_
  refine wp_seq ?_
  refine wp_reg ?_
  refine L_pure 1 [(0, .int .u32 (bXor .u32 x1 (IntKind.u32.wrap x2))), (9, I 0)] (by kernel_rfl) fun b => ?_
  refine wpL_nil ?_
  refine th_n ?_
  obtain ⟨y2, hy2, hk2⟩ := bnd hr
  clear hr
  refine Go.Hx.wp_cut (fun a w => ∃ (b : Nat → Value), a = mkF 20 b [(0, .int .u32 y2)] ∧ St G w (F)) ?_ ?_
  · rintro _ w ⟨b, rfl, hst⟩
    have hr := hk2
    refine th_n ?_
    refine wp_seq ?_
    refine wp_reg ?_
    refine L_pure 2 [(4, .int .u32 y2)] (by kernel_rfl) fun b => ?_
    refine wpL_nil ?_
    refine th_n ?_
    refine wp_ret ?_
    refine ret1 rfl rfl ?_
    obtain rfl := Option.some.inj hr
    exact hR _ hst
  · refine wp_block ?_
    refine wp_loop_fuel (fun j a w => ∃ (v7 : Int) (v8 : Int) (b : Nat → Value), a = mkF 20 b [(0, .int .u32 v7), (9, I v8)] ∧ St G w (F) ∧ seal_step_l1 k j v7 v8 = some y2) (k := k) ⟨(bXor .u32 x1 (IntKind.u32.wrap x2)), (0 : Int), (kpX [(0, .int .u32 (bXor .u32 x1 (IntKind.u32.wrap x2))), (9, I 0)] rfl ⟨hst, hy2⟩)⟩ ?_ ?_
    · rintro _ _ ⟨_, _, _, _, _, h⟩
      rw [seal_step_l1] at h
      cases h
    · rintro j _ w ⟨v7, v8, b, rfl, hst, hr⟩
      rw [seal_step_l1] at hr
      refine wp_seq ?_
      refine wp_reg ?_
      refine L_pure 1 [(0, .int .u32 v7), (9, I v8), (10, .bool (decide (v8 < 8)))] (by kernel_rfl) fun b => ?_
      refine wpL_nil ?_
      refine th_n ?_
      refine wp_seq ?_
      refine wp_cond_mkF (t := decide (v8 < 8)) rfl (fun h => ?_) (fun h => ?_)
      · have hr := (if_pos h).symm.trans hr
        refine wp_skip ?_
        refine th_n ?_
        refine wp_seq ?_
        refine wp_block ?_
        refine wp_reg ?_
        refine L_pure 8 [(0, .int .u32 (bXor .u32 (shR .u32 v7 1) (bAnd .u32 3988292384 (IntKind.u32.wrap (0 - (bAnd .u32 v7 1)))))), (9, I v8)] (by kernel_rfl) fun b => ?_
        refine wpL_nil ?_
        refine ib_n (th_n ?_)
        refine wp_reg ?_
        refine L_pure 2 [(0, .int .u32 (bXor .u32 (shR .u32 v7 1) (bAnd .u32 3988292384 (IntKind.u32.wrap (0 - (bAnd .u32 v7 1)))))), (9, I (IntKind.i64.wrap (v8 + 1)))] (by kernel_rfl) fun b => ?_
        refine wpL_nil ?_
        refine th_n ?_
        exact ⟨(bXor .u32 (shR .u32 v7 1) (bAnd .u32 3988292384 (IntKind.u32.wrap (0 - (bAnd .u32 v7 1))))), (IntKind.i64.wrap (v8 + 1)), (kpX [(0, .int .u32 (bXor .u32 (shR .u32 v7 1) (bAnd .u32 3988292384 (IntKind.u32.wrap (0 - (bAnd .u32 v7 1)))))), (9, I (IntKind.i64.wrap (v8 + 1)))] rfl ⟨hst, hr⟩)⟩
      · have hr := (if_neg (by rw [h]; exact Bool.false_ne_true)).symm.trans hr
        refine wp_exit ?_
        refine th_x (th_x (ib_x (th_n ?_)))
        obtain rfl := Option.some.inj hr
        exact (kpX [(0, .int .u32 v7)] rfl hst)
def seal_Sum_l2 (k : Nat) (x4 : (List UInt8)) : Nat → Int → Int → Option (Int)
  | 0, _, _ => none
  | j + 1, v15, v16 => (if decide (v16 < (x4.length : Int)) = true then (Option.bind (gt x4 v16) fun x5 => (Option.bind (seal_step k v15 (x5.toNat : Int)) fun y6 => (seal_Sum_l2 k x4 j y6 (IntKind.i64.wrap (v16 + 1))))) else some (v15))
def seal_Sum_l1 (k : Nat) (x1 : (List (List UInt8))) : Nat → Int → Int → Option (Int)
  | 0, _, _ => none
  | j + 1, v11, v12 => (if decide (v12 < (x1.length : Int)) = true then (Option.bind (gt x1 v12) fun x4 => (Option.bind (seal_Sum_l2 k x4 k v11 (0 : Int)) fun y5 => (seal_Sum_l1 k x1 j y5 (IntKind.i64.wrap (v12 + 1))))) else some (v11))
def seal_Sum (k : Nat) (x1 : (List (List UInt8))) : Option (Int) := (Option.bind (seal_Sum_l1 k x1 k (4294967295 : Int) (0 : Int)) fun y4 => some ((bXor .u32 (IntKind.u32.max) y4)))
set_option maxRecDepth 100000 in
set_option maxHeartbeats 4000000 in
theorem seal_Sum_ok {G w : World} {F : List HP} {R : Ending → World → Prop} (k : Nat) (x1 : (List (List UInt8))) (a1 : Option Addr) (c1 : Nat) (r : (Int)) (hst : St G w (dsl rS a1 c1 x1 :: F)) (hr : seal_Sum k x1 = some r)
    (hR : ∀ w', St G w' (dsl rS a1 c1 x1 :: F) → R (.returned (.int .u32 r)) w') :
    Calls Try.prog 66 #[.slice a1 x1.length c1] w R := by
  unfold seal_Sum at hr
  refine enter Try.func66 rfl [(0, .slice a1 x1.length c1)] rfl rfl fun b => ?_
  refine wp_seq ?_
  refine wp_reg ?_
  refine L_pure 1 [(0, .slice a1 x1.length c1)] (by kernel_rfl) fun b => ?_
  refine wpL_nil ?_
  refine th_n ?_
  refine wp_seq ?_
  refine wp_reg ?_
  refine L_pure 1 [(0, .slice a1 x1.length c1), (3, .int .u32 4294967295)] (by kernel_rfl) fun b => ?_
  refine wpL_nil ?_
  refine th_n ?_
  refine wp_seq ?_
  refine wp_seq ?_
  refine wp_reg ?_
  refine L_pure 3 [(3, .int .u32 4294967295), (7, .slice a1 x1.length c1), (8, I (x1.length : Int)), (9, I 0)] (by kernel_rfl) fun b => ?_
  refine wpL_nil ?_
  refine th_n ?_
  obtain ⟨y4, hy4, hk3⟩ := bnd hr
  clear hr
  refine Go.Hx.wp_cut (fun a w => ∃ (b : Nat → Value), a = mkF 27 b [(3, .int .u32 y4)] ∧ St G w (dsl rS a1 c1 x1 :: F)) ?_ ?_
  · rintro _ w ⟨b, rfl, hst⟩
    have hr := hk3
    refine th_n ?_
    refine wp_seq ?_
    refine wp_reg ?_
    refine L_pure 3 [(2, .int .u32 (bXor .u32 (IntKind.u32.max) y4))] (by kernel_rfl) fun b => ?_
    refine wpL_nil ?_
    refine th_n ?_
    refine wp_ret ?_
    refine ret1 rfl rfl ?_
    obtain rfl := Option.some.inj hr
    exact hR _ hst
  · refine wp_block ?_
    refine wp_loop_fuel (fun j a w => ∃ (v11 : Int) (v12 : Int) (b : Nat → Value), a = mkF 27 b [(3, .int .u32 v11), (7, .slice a1 x1.length c1), (8, I (x1.length : Int)), (9, I v12)] ∧ St G w (dsl rS a1 c1 x1 :: F) ∧ seal_Sum_l1 k x1 j v11 v12 = some y4) (k := k) ⟨(4294967295 : Int), (0 : Int), (kpX [(3, .int .u32 4294967295), (7, .slice a1 x1.length c1), (8, I (x1.length : Int)), (9, I 0)] rfl ⟨hst, hy4⟩)⟩ ?_ ?_
    · rintro _ _ ⟨_, _, _, _, _, h⟩
      rw [seal_Sum_l1] at h
      cases h
    · rintro j _ w ⟨v11, v12, b, rfl, hst, hr⟩
      rw [seal_Sum_l1] at hr
      refine wp_seq ?_
      refine wp_reg ?_
      refine L_pure 1 [(3, .int .u32 v11), (7, .slice a1 x1.length c1), (8, I (x1.length : Int)), (9, I v12), (10, .bool (decide (v12 < (x1.length : Int))))] (by kernel_rfl) fun b => ?_
      refine wpL_nil ?_
      refine th_n ?_
      refine wp_seq ?_
      refine wp_cond_mkF (t := decide (v12 < (x1.length : Int))) rfl (fun h => ?_) (fun h => ?_)
      · have hr := (if_pos h).symm.trans hr
        refine wp_skip ?_
        refine th_n ?_
        refine wp_seq ?_
        refine wp_block ?_
        refine wp_seq ?_
        refine wp_reg ?_
        obtain ⟨x4, hx3, hr⟩ := bnd hr
        refine L_op rfl (O_run (v := pt (ab a1) (ao a1 + v12.toNat * 1)) (w' := w) (R_ia L34 rfl rfl (dsl_addr hst hx3) (gt_some hx3).1 (gt_some hx3).2.1) rfl rfl ?_)
        obtain ⟨q2, hc2, hst⟩ := dsl_cells hst hx3
        have hst := hst.drop
        refine L_op rfl (O_run (v := S x4) (w' := w) (R_loadAt (off := ao a1 + v12.toNat * 1) (j := 0) hc2 rfl rfl) rfl rfl ?_)
        refine L_pure 1 [(3, .int .u32 v11), (5, S x4), (7, .slice a1 x1.length c1), (8, I (x1.length : Int)), (9, I v12)] (by kernel_rfl) fun b => ?_
        refine wpL_nil ?_
        refine th_n ?_
        refine wp_seq ?_
        refine wp_reg ?_
        refine L_pure 3 [(3, .int .u32 v11), (5, S x4), (7, .slice a1 x1.length c1), (8, I (x1.length : Int)), (9, I v12), (14, I (x4.length : Int)), (15, I 0)] (by kernel_rfl) fun b => ?_
        refine wpL_nil ?_
        refine th_n ?_
        obtain ⟨y5, hy5, hk4⟩ := bnd hr
        clear hr
        refine Go.Hx.wp_cut (fun a w => ∃ (b : Nat → Value), a = mkF 27 b [(3, .int .u32 y5), (7, .slice a1 x1.length c1), (8, I (x1.length : Int)), (9, I v12)] ∧ St G w (dsl rS a1 c1 x1 :: F)) ?_ ?_
        · rintro _ w ⟨b, rfl, hst⟩
          have hr := hk4
          refine ib_n (th_n ?_)
          refine wp_reg ?_
          refine L_pure 2 [(3, .int .u32 y5), (7, .slice a1 x1.length c1), (8, I (x1.length : Int)), (9, I (IntKind.i64.wrap (v12 + 1)))] (by kernel_rfl) fun b => ?_
          refine wpL_nil ?_
          refine th_n ?_
          exact ⟨y5, (IntKind.i64.wrap (v12 + 1)), (kpX [(3, .int .u32 y5), (7, .slice a1 x1.length c1), (8, I (x1.length : Int)), (9, I (IntKind.i64.wrap (v12 + 1)))] rfl ⟨hst, hr⟩)⟩
        · refine wp_block ?_
          refine wp_loop_fuel (fun j a w => ∃ (v15 : Int) (v16 : Int) (b : Nat → Value), a = mkF 27 b [(3, .int .u32 v15), (5, S x4), (7, .slice a1 x1.length c1), (8, I (x1.length : Int)), (9, I v12), (14, I (x4.length : Int)), (15, I v16)] ∧ St G w (dsl rS a1 c1 x1 :: F) ∧ seal_Sum_l2 k x4 j v15 v16 = some y5) (k := k) ⟨v11, (0 : Int), (kpX [(3, .int .u32 v11), (5, S x4), (7, .slice a1 x1.length c1), (8, I (x1.length : Int)), (9, I v12), (14, I (x4.length : Int)), (15, I 0)] rfl ⟨hst, hy5⟩)⟩ ?_ ?_
          · rintro _ _ ⟨_, _, _, _, _, h⟩
            rw [seal_Sum_l2] at h
            cases h
          · rintro j _ w ⟨v15, v16, b, rfl, hst, hr⟩
            rw [seal_Sum_l2] at hr
            refine wp_seq ?_
            refine wp_reg ?_
            refine L_pure 1 [(3, .int .u32 v15), (5, S x4), (7, .slice a1 x1.length c1), (8, I (x1.length : Int)), (9, I v12), (14, I (x4.length : Int)), (15, I v16), (16, .bool (decide (v16 < (x4.length : Int))))] (by kernel_rfl) fun b => ?_
            refine wpL_nil ?_
            refine th_n ?_
            refine wp_seq ?_
            refine wp_cond_mkF (t := decide (v16 < (x4.length : Int))) rfl (fun h => ?_) (fun h => ?_)
            · have hr := (if_pos h).symm.trans hr
              refine wp_skip ?_
              refine th_n ?_
              refine wp_seq ?_
              refine wp_block ?_
              refine wp_seq ?_
              refine wp_reg ?_
              refine L_pure 2 [(3, .int .u32 v15), (5, S x4), (6, I v16), (7, .slice a1 x1.length c1), (8, I (x1.length : Int)), (9, I v12), (14, I (x4.length : Int)), (15, I v16)] (by kernel_rfl) fun b => ?_
              refine wpL_nil ?_
              refine th_n ?_
              refine wp_reg ?_
              refine L_pure 3 [(5, S x4), (7, .slice a1 x1.length c1), (8, I (x1.length : Int)), (9, I v12), (14, I (x4.length : Int)), (15, I v16), (18, .int .u32 v15), (19, S x4), (20, I v16)] (by kernel_rfl) fun b => ?_
              obtain ⟨x5, hx4, hr⟩ := bnd hr
              refine L_op rfl (O_run (v := .int .u8 (x5.toNat : Int)) (w' := w) (R_idx_s Try.underlying9 rfl rfl hx4) rfl rfl ?_)
              obtain ⟨y6, hy6, hr⟩ := bnd hr
              refine L_op rfl (O_call (vs := #[.int .u32 v15, .int .u8 (x5.toNat : Int)]) Try.call77 (by kernel_rfl) (seal_step_ok k v15 (x5.toNat : Int) y6 hst hy6 fun w hst => ?_))
              refine CK_ret rfl ?_
              refine L_pure 1 [(3, .int .u32 y6), (5, S x4), (7, .slice a1 x1.length c1), (8, I (x1.length : Int)), (9, I v12), (14, I (x4.length : Int)), (15, I v16)] (by kernel_rfl) fun b => ?_
              refine wpL_nil ?_
              refine ib_n (th_n ?_)
              refine wp_reg ?_
              refine L_pure 2 [(3, .int .u32 y6), (5, S x4), (7, .slice a1 x1.length c1), (8, I (x1.length : Int)), (9, I v12), (14, I (x4.length : Int)), (15, I (IntKind.i64.wrap (v16 + 1)))] (by kernel_rfl) fun b => ?_
              refine wpL_nil ?_
              refine th_n ?_
              exact ⟨y6, (IntKind.i64.wrap (v16 + 1)), (kpX [(3, .int .u32 y6), (5, S x4), (7, .slice a1 x1.length c1), (8, I (x1.length : Int)), (9, I v12), (14, I (x4.length : Int)), (15, I (IntKind.i64.wrap (v16 + 1)))] rfl ⟨hst, hr⟩)⟩
            · have hr := (if_neg (by rw [h]; exact Bool.false_ne_true)).symm.trans hr
              refine wp_exit ?_
              refine th_x (th_x (ib_x (th_n ?_)))
              obtain rfl := Option.some.inj hr
              exact (kpX [(3, .int .u32 v15), (7, .slice a1 x1.length c1), (8, I (x1.length : Int)), (9, I v12)] rfl hst)
      · have hr := (if_neg (by rw [h]; exact Bool.false_ne_true)).symm.trans hr
        refine wp_exit ?_
        refine th_x (th_x (ib_x (th_n ?_)))
        obtain rfl := Option.some.inj hr
        exact (kpX [(3, .int .u32 v11)] rfl hst)
def seal_Frame_l1 (k : Nat) (x1 : (List (List UInt8))) : Nat → Int → Int → Option (Int)
  | 0, _, _ => none
  | j + 1, v11, v12 => (if decide (v12 < (x1.length : Int)) = true then (Option.bind (gt x1 v12) fun x6 => (seal_Frame_l1 k x1 j (IntKind.i64.wrap (v11 + (x6.length : Int))) (IntKind.i64.wrap (v12 + 1)))) else some (v11))
def seal_Frame_l2 (k : Nat) (x1 : (List (List UInt8))) : Nat → (List UInt8) → Int → Option ((List UInt8))
  | 0, _, _ => none
  | j + 1, v15, v16 => (if decide (v16 < (x1.length : Int)) = true then (Option.bind (gt x1 v16) fun x8 => (Option.bind (cat v15 x8) fun x9 => (seal_Frame_l2 k x1 j x9 (IntKind.i64.wrap (v16 + 1))))) else some (v15))
def seal_Frame (k : Nat) (x1 : (List (List UInt8))) : Option ((List UInt8)) := (Option.bind (seal_Frame_l1 k x1 k (0 : Int) (0 : Int)) fun y6 => (Option.bind (seal_four k (IntKind.u32.wrap y6)) fun y7 => (if room (([y7]).length + x1.length) 16 = true then (Option.bind (seal_Sum k (([y7]) ++ x1)) fun y8 => (Option.bind (seal_four k y8) fun y9 => (Option.bind (cat y7 y9) fun x7 => (Option.bind (seal_Frame_l2 k x1 k x7 (0 : Int)) fun y10 => some (y10))))) else none)))
set_option maxRecDepth 100000 in
set_option maxHeartbeats 4000000 in
theorem seal_Frame_ok {G w : World} {F : List HP} {R : Ending → World → Prop} (k : Nat) (x1 : (List (List UInt8))) (a1 : Option Addr) (c1 : Nat) (r : ((List UInt8))) (hst : St G w (dsl rS a1 c1 x1 :: F)) (hr : seal_Frame k x1 = some r)
    (hR : ∀ w', St G w' (dsl rS a1 c1 x1 :: F) → R (.returned (S r)) w') :
    Calls Try.prog 47 #[.slice a1 x1.length c1] w R := by
  unfold seal_Frame at hr
  refine enter Try.func47 rfl [(0, .slice a1 x1.length c1)] rfl rfl fun b => ?_
  refine wp_seq ?_
  refine wp_reg ?_
  refine L_pure 1 [(0, .slice a1 x1.length c1)] (by kernel_rfl) fun b => ?_
  refine wpL_nil ?_
  refine th_n ?_
  refine wp_seq ?_
  refine wp_reg ?_
  refine L_pure 1 [(0, .slice a1 x1.length c1), (3, I 0)] (by kernel_rfl) fun b => ?_
  refine wpL_nil ?_
  refine th_n ?_
  refine wp_seq ?_
  refine wp_seq ?_
  refine wp_reg ?_
  refine L_pure 3 [(0, .slice a1 x1.length c1), (3, I 0), (10, .slice a1 x1.length c1), (11, I (x1.length : Int)), (12, I 0)] (by kernel_rfl) fun b => ?_
  refine wpL_nil ?_
  refine th_n ?_
  obtain ⟨y6, hy6, hk3⟩ := bnd hr
  clear hr
  refine Go.Hx.wp_cut (fun a w => ∃ (b : Nat → Value), a = mkF 43 b [(0, .slice a1 x1.length c1), (3, I y6)] ∧ St G w (dsl rS a1 c1 x1 :: F)) ?_ ?_
  · rintro _ w ⟨b, rfl, hst⟩
    have hr := hk3
    refine th_n ?_
    refine wp_seq ?_
    refine wp_reg ?_
    refine L_pure 2 [(0, .slice a1 x1.length c1), (22, .int .u32 (IntKind.u32.wrap y6))] (by kernel_rfl) fun b => ?_
    obtain ⟨y7, hy7, hr⟩ := bnd hr
    refine L_op rfl (O_call (vs := #[.int .u32 (IntKind.u32.wrap y6)]) Try.call65 (by kernel_rfl) (seal_four_ok k (IntKind.u32.wrap y6) y7 hst hy7 fun w hst => ?_))
    refine CK_ret rfl ?_
    refine L_pure 1 [(0, .slice a1 x1.length c1), (6, S y7)] (by kernel_rfl) fun b => ?_
    refine wpL_nil ?_
    refine th_n ?_
    refine wp_seq ?_
    refine wp_reg ?_
    refine L_pure 2 [(0, .slice a1 x1.length c1), (24, S y7), (25, S y7)] (by kernel_rfl) fun b => ?_
    refine L_op rfl (O_bs (T := 9) [S y7] #[(0, S y7)] hst (by kernel_rfl) (by kernel_rfl) rfl fun p2 w hst => ?_)
    have hst := osl_of_blk0 (ecs := [[S y7]]) rS [y7] rfl (fun m => ⟨⟨(), rfl, trivial⟩, trivial⟩) rfl hst
    refine L_pure 1 [(0, .slice a1 x1.length c1), (24, S y7), (26, .slice (some ⟨p2, 0, none⟩) ([y7]).length 1), (27, .slice a1 x1.length c1)] (by kernel_rfl) fun b => ?_
    obtain ⟨hb2, hr⟩ := chk hr
    refine L_op rfl (O_app_d L34 ((hst.pull 1).pull 1) rfl rfl hb2 rfl fun a3 c3 w hst => ?_)
    obtain ⟨y8, hy8, hr⟩ := bnd hr
    have hst := osl_freeze hst
    refine L_op rfl (O_call (vs := #[.slice a3 (([y7]) ++ x1).length c3]) Try.call66 (by kernel_rfl) (seal_Sum_ok k (([y7]) ++ x1) a3 c3 y8 hst hy8 fun w hst => ?_))
    refine CK_ret rfl ?_
    obtain ⟨y9, hy9, hr⟩ := bnd hr
    refine L_op rfl (O_call (vs := #[.int .u32 y8]) Try.call65 (by kernel_rfl) (seal_four_ok k y8 y9 hst hy9 fun w hst => ?_))
    refine CK_ret rfl ?_
    obtain ⟨x7, hx6, hr⟩ := bnd hr
    refine L_op rfl (O_run (v := S x7) (w' := w) (R_cat rfl rfl hx6) rfl rfl ?_)
    refine L_pure 1 [(0, .slice a1 x1.length c1), (7, S x7)] (by kernel_rfl) fun b => ?_
    refine wpL_nil ?_
    refine th_n ?_
    refine wp_seq ?_
    refine wp_seq ?_
    refine wp_reg ?_
    refine L_pure 3 [(7, S x7), (32, .slice a1 x1.length c1), (33, I (x1.length : Int)), (34, I 0)] (by kernel_rfl) fun b => ?_
    refine wpL_nil ?_
    refine th_n ?_
    obtain ⟨y10, hy10, hk4⟩ := bnd hr
    clear hr
    refine Go.Hx.wp_cut (fun a w => ∃ (b : Nat → Value), a = mkF 43 b [(7, S y10)] ∧ St G w (dsl rS a3 c3 (([y7]) ++ x1) :: dsl rS a1 c1 x1 :: F)) ?_ ?_
    · rintro _ w ⟨b, rfl, hst⟩
      have hr := hk4
      refine th_n ?_
      refine wp_seq ?_
      refine wp_reg ?_
      refine L_pure 2 [(2, S y10)] (by kernel_rfl) fun b => ?_
      refine wpL_nil ?_
      refine th_n ?_
      refine wp_ret ?_
      refine ret1 rfl rfl ?_
      obtain rfl := Option.some.inj hr
      have hst := ((hst.pull 1).cut 1 1)
      exact hR _ hst
    · have hst := ((hst.pull 1).pull 1)
      refine wp_block ?_
      refine wp_loop_fuel (fun j a w => ∃ (v15 : (List UInt8)) (v16 : Int) (b : Nat → Value), a = mkF 43 b [(7, S v15), (32, .slice a1 x1.length c1), (33, I (x1.length : Int)), (34, I v16)] ∧ St G w (dsl rS a3 c3 (([y7]) ++ x1) :: dsl rS a1 c1 x1 :: F) ∧ seal_Frame_l2 k x1 j v15 v16 = some y10) (k := k) ⟨x7, (0 : Int), (kpX [(7, S x7), (32, .slice a1 x1.length c1), (33, I (x1.length : Int)), (34, I 0)] rfl ⟨hst, hy10⟩)⟩ ?_ ?_
      · rintro _ _ ⟨_, _, _, _, _, h⟩
        rw [seal_Frame_l2] at h
        cases h
      · rintro j _ w ⟨v15, v16, b, rfl, hst, hr⟩
        rw [seal_Frame_l2] at hr
        refine wp_seq ?_
        refine wp_reg ?_
        refine L_pure 1 [(7, S v15), (32, .slice a1 x1.length c1), (33, I (x1.length : Int)), (34, I v16), (35, .bool (decide (v16 < (x1.length : Int))))] (by kernel_rfl) fun b => ?_
        refine wpL_nil ?_
        refine th_n ?_
        refine wp_seq ?_
        refine wp_cond_mkF (t := decide (v16 < (x1.length : Int))) rfl (fun h => ?_) (fun h => ?_)
        · have hr := (if_pos h).symm.trans hr
          refine wp_skip ?_
          refine th_n ?_
          refine wp_seq ?_
          refine wp_block ?_
          refine wp_seq ?_
          refine wp_reg ?_
          obtain ⟨x8, hx7, hr⟩ := bnd hr
          refine L_op rfl (O_run (v := pt (ab a1) (ao a1 + v16.toNat * 1)) (w' := w) (R_ia L34 rfl rfl (dsl_addr (hst.pull 1) hx7) (gt_some hx7).1 (gt_some hx7).2.1) rfl rfl ?_)
          obtain ⟨q4, hc4, hst⟩ := dsl_cells (hst.pull 1) hx7
          have hst := hst.drop
          refine L_op rfl (O_run (v := S x8) (w' := w) (R_loadAt (off := ao a1 + v16.toNat * 1) (j := 0) hc4 rfl rfl) rfl rfl ?_)
          refine L_pure 1 [(7, S v15), (9, S x8), (32, .slice a1 x1.length c1), (33, I (x1.length : Int)), (34, I v16)] (by kernel_rfl) fun b => ?_
          refine wpL_nil ?_
          refine th_n ?_
          refine wp_reg ?_
          refine L_pure 2 [(32, .slice a1 x1.length c1), (33, I (x1.length : Int)), (34, I v16), (38, S v15), (39, S x8)] (by kernel_rfl) fun b => ?_
          obtain ⟨x9, hx8, hr⟩ := bnd hr
          refine L_op rfl (O_run (v := S x9) (w' := w) (R_cat rfl rfl hx8) rfl rfl ?_)
          refine L_pure 1 [(7, S x9), (32, .slice a1 x1.length c1), (33, I (x1.length : Int)), (34, I v16)] (by kernel_rfl) fun b => ?_
          refine wpL_nil ?_
          refine ib_n (th_n ?_)
          refine wp_reg ?_
          refine L_pure 2 [(7, S x9), (32, .slice a1 x1.length c1), (33, I (x1.length : Int)), (34, I (IntKind.i64.wrap (v16 + 1)))] (by kernel_rfl) fun b => ?_
          refine wpL_nil ?_
          refine th_n ?_
          have hst := (hst.pull 1)
          exact ⟨x9, (IntKind.i64.wrap (v16 + 1)), (kpX [(7, S x9), (32, .slice a1 x1.length c1), (33, I (x1.length : Int)), (34, I (IntKind.i64.wrap (v16 + 1)))] rfl ⟨hst, hr⟩)⟩
        · have hr := (if_neg (by rw [h]; exact Bool.false_ne_true)).symm.trans hr
          refine wp_exit ?_
          refine th_x (th_x (ib_x (th_n ?_)))
          obtain rfl := Option.some.inj hr
          have hst := ((hst.pull 1).pull 1)
          exact (kpX [(7, S v15)] rfl hst)
  · refine wp_block ?_
    refine wp_loop_fuel (fun j a w => ∃ (v11 : Int) (v12 : Int) (b : Nat → Value), a = mkF 43 b [(0, .slice a1 x1.length c1), (3, I v11), (10, .slice a1 x1.length c1), (11, I (x1.length : Int)), (12, I v12)] ∧ St G w (dsl rS a1 c1 x1 :: F) ∧ seal_Frame_l1 k x1 j v11 v12 = some y6) (k := k) ⟨(0 : Int), (0 : Int), (kpX [(0, .slice a1 x1.length c1), (3, I 0), (10, .slice a1 x1.length c1), (11, I (x1.length : Int)), (12, I 0)] rfl ⟨hst, hy6⟩)⟩ ?_ ?_
    · rintro _ _ ⟨_, _, _, _, _, h⟩
      rw [seal_Frame_l1] at h
      cases h
    · rintro j _ w ⟨v11, v12, b, rfl, hst, hr⟩
      rw [seal_Frame_l1] at hr
      refine wp_seq ?_
      refine wp_reg ?_
      refine L_pure 1 [(0, .slice a1 x1.length c1), (3, I v11), (10, .slice a1 x1.length c1), (11, I (x1.length : Int)), (12, I v12), (13, .bool (decide (v12 < (x1.length : Int))))] (by kernel_rfl) fun b => ?_
      refine wpL_nil ?_
      refine th_n ?_
      refine wp_seq ?_
      refine wp_cond_mkF (t := decide (v12 < (x1.length : Int))) rfl (fun h => ?_) (fun h => ?_)
      · have hr := (if_pos h).symm.trans hr
        refine wp_skip ?_
        refine th_n ?_
        refine wp_seq ?_
        refine wp_block ?_
        refine wp_seq ?_
        refine wp_reg ?_
        obtain ⟨x6, hx5, hr⟩ := bnd hr
        refine L_op rfl (O_run (v := pt (ab a1) (ao a1 + v12.toNat * 1)) (w' := w) (R_ia L34 rfl rfl (dsl_addr hst hx5) (gt_some hx5).1 (gt_some hx5).2.1) rfl rfl ?_)
        obtain ⟨q3, hc3, hst⟩ := dsl_cells hst hx5
        have hst := hst.drop
        refine L_op rfl (O_run (v := S x6) (w' := w) (R_loadAt (off := ao a1 + v12.toNat * 1) (j := 0) hc3 rfl rfl) rfl rfl ?_)
        refine L_pure 1 [(0, .slice a1 x1.length c1), (3, I v11), (5, S x6), (10, .slice a1 x1.length c1), (11, I (x1.length : Int)), (12, I v12)] (by kernel_rfl) fun b => ?_
        refine wpL_nil ?_
        refine th_n ?_
        refine wp_reg ?_
        refine L_pure 5 [(0, .slice a1 x1.length c1), (3, I (IntKind.i64.wrap (v11 + (x6.length : Int)))), (10, .slice a1 x1.length c1), (11, I (x1.length : Int)), (12, I v12)] (by kernel_rfl) fun b => ?_
        refine wpL_nil ?_
        refine ib_n (th_n ?_)
        refine wp_reg ?_
        refine L_pure 2 [(0, .slice a1 x1.length c1), (3, I (IntKind.i64.wrap (v11 + (x6.length : Int)))), (10, .slice a1 x1.length c1), (11, I (x1.length : Int)), (12, I (IntKind.i64.wrap (v12 + 1)))] (by kernel_rfl) fun b => ?_
        refine wpL_nil ?_
        refine th_n ?_
        exact ⟨(IntKind.i64.wrap (v11 + (x6.length : Int))), (IntKind.i64.wrap (v12 + 1)), (kpX [(0, .slice a1 x1.length c1), (3, I (IntKind.i64.wrap (v11 + (x6.length : Int)))), (10, .slice a1 x1.length c1), (11, I (x1.length : Int)), (12, I (IntKind.i64.wrap (v12 + 1)))] rfl ⟨hst, hr⟩)⟩
      · have hr := (if_neg (by rw [h]; exact Bool.false_ne_true)).symm.trans hr
        refine wp_exit ?_
        refine th_x (th_x (ib_x (th_n ?_)))
        obtain rfl := Option.some.inj hr
        exact (kpX [(0, .slice a1 x1.length c1), (3, I v11)] rfl hst)
def meter_Luck_Try (_k : Nat) (_x1 : Int) (_x2 : Int) (x3 : Bool) (x4 : Int) (_x5 : (List ((List UInt8) × (Option T_platter_file)))) : Option (Int × Int) := (if x3 = true then some ((14 : Int), x4) else (Option.bind (if decide (x4 > 0) = true then (if ((IntKind.i64.wrap (x4 - 1)) == 0) = true then some (Flow.ret ((8 : Int), (IntKind.i64.wrap (x4 - 1)))) else some (Flow.go ((IntKind.i64.wrap (x4 - 1))))) else some (Flow.go (x4))) fun y2 => (match y2 with | Flow.ret r => some r | Flow.go z2 => some ((0 : Int), z2))))
set_option maxRecDepth 100000 in
set_option maxHeartbeats 4000000 in
theorem meter_Luck_Try_ok {G w : World} {F : List HP} {R : Ending → World → Prop} (k : Nat) (x1 : Int) (x2 : Int) (x3 : Bool) (x4 : Int) (x5 : (List ((List UInt8) × (Option T_platter_file)))) (p1 : Nat) (p2 : Nat) (r : (Int × Int)) (hst : St G w (blk p1 (cl [I x1, I x2, .bool x3, I x4, .map (some p2)] 42) :: mpr S (rPt r_T_platter_file) p2 x5 :: F)) (hr : meter_Luck_Try k x1 x2 x3 x4 x5 = some r)
    (hR : ∀ w', St G w' (blk p1 (cl [I x1, I x2, .bool x3, I r.2, .map (some p2)] 42) :: mpr S (rPt r_T_platter_file) p2 x5 :: F) → R (.returned (I r.1)) w') :
    Calls Try.prog 39 #[pt p1 2] w R := by
  unfold meter_Luck_Try at hr
  refine enter Try.func39 rfl [(0, pt p1 2)] rfl rfl fun b => ?_
  refine wp_seq ?_
  refine wp_reg ?_
  refine L_pure 1 [(0, pt p1 2)] (by kernel_rfl) fun b => ?_
  refine wpL_nil ?_
  refine th_n ?_
  refine wp_seq ?_
  refine wp_seq ?_
  refine wp_reg ?_
  refine L_pure 3 [(0, pt p1 2), (5, pt p1 2)] (by kernel_rfl) fun b => ?_
  refine L_op rfl (O_run (v := .bool x3) (w' := w) (R_load hst rfl rfl) rfl rfl ?_)
  refine wpL_nil ?_
  refine th_n ?_
  refine wp_cond_mkF (t := x3) rfl (fun h => ?_) (fun h => ?_)
  · have hr := (if_pos h).symm.trans hr
    refine wp_seq ?_
    refine wp_reg ?_
    refine L_pure 1 [(2, I 14)] (by kernel_rfl) fun b => ?_
    refine wpL_nil ?_
    refine th_n ?_
    refine wp_ret ?_
    refine th_r ?_
    refine ret1 rfl rfl ?_
    obtain rfl := Option.some.inj hr
    have hst := ((hst.pull 1).pull 1)
    exact hR _ hst
  · have hr := (if_neg (by rw [h]; exact Bool.false_ne_true)).symm.trans hr
    refine wp_skip ?_
    refine th_n ?_
    obtain ⟨y2, hy2, hk2⟩ := bnd hr
    clear hr
    refine wp_seq_cut (fun a w => ∃ (z2 : Int) (b : Nat → Value), y2 = .go z2 ∧ a = mkF 24 b [] ∧ St G w (blk p1 (cl [I x1, I x2, .bool x3, I z2, .map (some p2)] 42) :: mpr S (rPt r_T_platter_file) p2 x5 :: F)) ?_ ?_
    · rintro _ w ⟨z2, b, rfl, rfl, hst⟩
      have hr := hk2
      refine wp_seq ?_
      refine wp_reg ?_
      refine L_pure 1 [(2, I 0)] (by kernel_rfl) fun b => ?_
      refine wpL_nil ?_
      refine th_n ?_
      refine wp_ret ?_
      refine ret1 rfl rfl ?_
      obtain rfl := Option.some.inj hr
      have hst := ((hst.pull 1).pull 1)
      exact hR _ hst
    · have hr := hy2
      refine wp_seq ?_
      refine wp_reg ?_
      refine L_pure 3 [(0, pt p1 2), (9, pt p1 3)] (by kernel_rfl) fun b => ?_
      refine L_op rfl (O_run (v := I x4) (w' := w) (R_load hst rfl rfl) rfl rfl ?_)
      refine L_pure 1 [(0, pt p1 2), (11, .bool (decide (x4 > 0)))] (by kernel_rfl) fun b => ?_
      refine wpL_nil ?_
      refine th_n ?_
      refine wp_cond_mkF (t := decide (x4 > 0)) rfl (fun h => ?_) (fun h => ?_)
      · have hr := (if_pos h).symm.trans hr
        refine wp_seq ?_
        refine wp_reg ?_
        refine L_pure 3 [(0, pt p1 2), (12, pt p1 2), (14, pt p1 3)] (by kernel_rfl) fun b => ?_
        refine L_op rfl (O_run (v := I x4) (w' := w) (R_load hst rfl rfl) rfl rfl ?_)
        refine L_pure 3 [(0, pt p1 2), (16, I (IntKind.i64.wrap (x4 - 1))), (18, pt p1 3)] (by kernel_rfl) fun b => ?_
        refine L_op rfl (O_store [I x1, I x2, .bool x3, I (IntKind.i64.wrap (x4 - 1)), .map (some p2)] hst rfl rfl (by kernel_rfl) fun w hst => ?_)
        refine wpL_nil ?_
        refine th_n ?_
        refine wp_seq ?_
        refine wp_reg ?_
        refine L_pure 3 [(21, pt p1 3)] (by kernel_rfl) fun b => ?_
        refine L_op rfl (O_run (v := I (IntKind.i64.wrap (x4 - 1))) (w' := w) (R_load hst rfl rfl) rfl rfl ?_)
        refine L_pure 1 [(23, .bool ((IntKind.i64.wrap (x4 - 1)) == 0))] (by kernel_rfl) fun b => ?_
        refine wpL_nil ?_
        refine th_n ?_
        refine wp_cond_mkF (t := ((IntKind.i64.wrap (x4 - 1)) == 0)) rfl (fun h => ?_) (fun h => ?_)
        · have hr := (if_pos h).symm.trans hr
          refine wp_seq ?_
          refine wp_reg ?_
          refine L_pure 1 [(2, I 8)] (by kernel_rfl) fun b => ?_
          refine wpL_nil ?_
          refine th_n ?_
          refine wp_ret ?_
          refine th_r ?_
          refine ret1 rfl rfl ?_
          obtain rfl := Option.some.inj hr
          obtain rfl := Option.some.inj hk2
          have hst := ((hst.pull 1).pull 1)
          exact hR _ hst
        · have hr := (if_neg (by rw [h]; exact Bool.false_ne_true)).symm.trans hr
          refine wp_skip ?_
          refine th_n ?_
          obtain rfl := Option.some.inj hr
          have hst := ((hst.pull 1).pull 1)
          exact ⟨((IntKind.i64.wrap (x4 - 1))), (kpXf [] rfl hst)⟩
      · have hr := (if_neg (by rw [h]; exact Bool.false_ne_true)).symm.trans hr
        refine wp_skip ?_
        refine th_n ?_
        obtain rfl := Option.some.inj hr
        have hst := ((hst.pull 1).pull 1)
        exact ⟨(x4), (kpXf [] rfl hst)⟩
def platter_Disk_get (_k : Nat) (_x1 : Int) (_x2 : Int) (_x3 : Bool) (_x4 : Int) (x5 : (List ((List UInt8) × (Option T_platter_file)))) (x6 : (List UInt8)) : Option ((Option T_platter_file)) := (if (mget x5 x6).isSome = true then some (((mget x5 x6).getD none)) else some ((some (T_platter_file.mk (T_platter_text.mk false ([])) (T_platter_text.mk false ([]))))))
set_option maxRecDepth 100000 in
set_option maxHeartbeats 4000000 in
theorem platter_Disk_get_ok {G w : World} {F : List HP} {R : Ending → World → Prop} (k : Nat) (x1 : Int) (x2 : Int) (x3 : Bool) (x4 : Int) (x5 : (List ((List UInt8) × (Option T_platter_file)))) (x6 : (List UInt8)) (p1 : Nat) (p2 : Nat) (r : ((Option T_platter_file))) (hst : St G w (blk p1 (cl [I x1, I x2, .bool x3, I x4, .map (some p2)] 42) :: mpr S (rPt r_T_platter_file) p2 x5 :: F)) (hr : platter_Disk_get k x1 x2 x3 x4 x5 x6 = some r)
    (hR : ∀ (a2 : Option Addr) w', St G w' (dpt r_T_platter_file a2 r :: blk p1 (cl [I x1, I x2, .bool x3, I x4, .map (some p2)] 42) :: mpr S (rPt r_T_platter_file) p2 x5 :: F) → R (.returned (.pointer a2)) w') :
    Calls Try.prog 43 #[pt p1 0, S x6] w R := by
  unfold platter_Disk_get at hr
  refine enter Try.func43 rfl [(0, pt p1 0), (1, S x6)] rfl rfl fun b => ?_
  refine wp_seq ?_
  refine wp_reg ?_
  refine L_pure 1 [(0, pt p1 0), (1, S x6)] (by kernel_rfl) fun b => ?_
  refine wpL_nil ?_
  refine th_n ?_
  refine wp_seq ?_
  refine wp_seq ?_
  refine wp_reg ?_
  refine L_pure 3 [(1, S x6), (10, pt p1 4)] (by kernel_rfl) fun b => ?_
  refine L_op rfl (O_run (v := .map (some p2)) (w' := w) (R_load hst rfl rfl) rfl rfl ?_)
  refine L_pure 1 [(11, .map (some p2)), (12, S x6)] (by kernel_rfl) fun b => ?_
  refine L_op rfl (O_lookP2 M40 x6 (hst.pull 1) rfl rfl rfl fun a3 hst => ?_)
  refine L_pure 5 [(5, .pointer a3), (6, .bool ((mget x5 x6).isSome))] (by kernel_rfl) fun b => ?_
  refine wpL_nil ?_
  refine th_n ?_
  refine wp_seq ?_
  refine wp_reg ?_
  refine L_pure 1 [(5, .pointer a3), (16, .bool ((mget x5 x6).isSome))] (by kernel_rfl) fun b => ?_
  refine wpL_nil ?_
  refine th_n ?_
  refine wp_cond_mkF (t := (mget x5 x6).isSome) rfl (fun h => ?_) (fun h => ?_)
  · have hr := (if_pos h).symm.trans hr
    refine wp_seq ?_
    refine wp_reg ?_
    refine L_pure 2 [(4, .pointer a3)] (by kernel_rfl) fun b => ?_
    refine wpL_nil ?_
    refine th_n ?_
    refine wp_ret ?_
    refine th_r ?_
    refine ret1 rfl rfl ?_
    obtain rfl := Option.some.inj hr
    have hst := (((hst.pull 1).pull 2).pull 2)
    exact hR a3 _ hst
  · have hr := (if_neg (by rw [h]; exact Bool.false_ne_true)).symm.trans hr
    refine wp_skip ?_
    refine th_n ?_
    refine wp_seq ?_
    refine wp_reg ?_
    refine L_pure 1 [(18, .agg #[.bool false, S ([]), .bool false, S ([])])] (by kernel_rfl) fun b => ?_
    refine L_op rfl (O_box [.bool false, S ([]), .bool false, S ([])] hst rfl rfl fun p4 w hst => ?_)
    refine L_pure 1 [(4, pt p4 0)] (by kernel_rfl) fun b => ?_
    refine wpL_nil ?_
    refine th_n ?_
    refine wp_ret ?_
    refine ret1 rfl rfl ?_
    obtain rfl := Option.some.inj hr
    have hst := osl_of_blk0 (ecs := [[.bool false, S ([]), .bool false, S ([])]]) r_T_platter_file [(T_platter_file.mk (T_platter_text.mk false ([])) (T_platter_text.mk false ([])))] rfl (fun m => ⟨⟨(), rfl, trivial⟩, trivial⟩) rfl hst
    have hst := dpt_of (osl_freeze hst)
    have hst := ((((hst.pull 2).pull 3).pull 2).cut 3 1)
    exact hR (some ⟨p4, 0, none⟩) _ hst
def platter_file_weight (_k : Nat) (x1 : T_platter_file) : Option (Int) := some ((mx2 (x1.now.s.length : Int) (x1.safe.s.length : Int)))
set_option maxRecDepth 100000 in
set_option maxHeartbeats 4000000 in
theorem platter_file_weight_ok {G w : World} {F : List HP} {R : Ending → World → Prop} (k : Nat) (x1 : T_platter_file) (p1 : Nat) (r : (Int)) (hst : St G w (blk p1 (cl [.bool x1.now.there, S x1.now.s, .bool x1.safe.there, S x1.safe.s] 95) :: F)) (hr : platter_file_weight k x1 = some r)
    (hR : ∀ w', St G w' (blk p1 (cl [.bool x1.now.there, S x1.now.s, .bool x1.safe.there, S x1.safe.s] 95) :: F) → R (.returned (I r)) w') :
    Calls Try.prog 58 #[pt p1 0] w R := by
  unfold platter_file_weight at hr
  refine enter Try.func58 rfl [(0, pt p1 0)] rfl rfl fun b => ?_
  refine wp_seq ?_
  refine wp_reg ?_
  refine L_pure 1 [(0, pt p1 0)] (by kernel_rfl) fun b => ?_
  refine wpL_nil ?_
  refine th_n ?_
  refine wp_seq ?_
  refine wp_regG (SN { w with drawn := w.drawn + 1 }) rfl ?_
  have hst := hst.draw (n := w.drawn + 1)
  generalize { w with drawn := w.drawn + 1 } = w at hst ⊢
  refine C_take (i := 0) (v := pt p1 0) rfl (by kernel_rfl) (fun _ _ _ h => h) rfl rfl rfl (R_pure (by kernel_rfl)) ?_
  refine C_take (i := 1) (v := pt p1 0) rfl (by kernel_rfl) (fun _ _ _ h => h) rfl rfl rfl (R_pure (by kernel_rfl)) ?_
  refine C_take (i := 2) (v := pt p1 0) rfl (by kernel_rfl) (fun _ _ _ h => h) rfl rfl rfl (R_pure (by kernel_rfl)) ?_
  refine C_take (i := 3) (v := pt p1 1) rfl (by kernel_rfl) (fun _ _ _ h => h) rfl rfl rfl (R_pure (by kernel_rfl)) ?_
  refine C_take (i := 4) (v := S x1.now.s) rfl (by kernel_rfl) (fun _ _ _ h => h) rfl rfl rfl (R_load hst rfl rfl) ?_
  refine C_take (i := 5) (v := I (x1.now.s.length : Int)) rfl (by kernel_rfl) (fun _ _ _ h => h) rfl rfl rfl (R_pure (by kernel_rfl)) ?_
  refine C_take (i := 6) (v := pt p1 0) rfl (by kernel_rfl) (fun _ _ _ h => h) rfl rfl rfl (R_pure (by kernel_rfl)) ?_
  refine C_take (i := 7) (v := pt p1 0) rfl (by kernel_rfl) (fun _ _ _ h => h) rfl rfl rfl (R_pure (by kernel_rfl)) ?_
  refine C_take (i := 8) (v := pt p1 2) rfl (by kernel_rfl) (fun _ _ _ h => h) rfl rfl rfl (R_pure (by kernel_rfl)) ?_
  refine C_take (i := 9) (v := pt p1 3) rfl (by kernel_rfl) (fun _ _ _ h => h) rfl rfl rfl (R_pure (by kernel_rfl)) ?_
  refine C_take (i := 10) (v := S x1.safe.s) rfl (by kernel_rfl) (fun _ _ _ h => h) rfl rfl rfl (R_load hst rfl rfl) ?_
  refine C_take (i := 11) (v := I (x1.safe.s.length : Int)) rfl (by kernel_rfl) (fun _ _ _ h => h) rfl rfl rfl (R_pure (by kernel_rfl)) ?_
  refine C_take (i := 12) (v := I (mx2 (x1.now.s.length : Int) (x1.safe.s.length : Int))) rfl (by kernel_rfl) (fun _ _ _ h => h) rfl rfl rfl (R_pure (by kernel_rfl)) ?_
  refine C_take (i := 13) (v := I (mx2 (x1.now.s.length : Int) (x1.safe.s.length : Int))) rfl (by kernel_rfl) (fun _ _ _ h => h) rfl rfl rfl (R_pure (by kernel_rfl)) ?_
  refine wpG_done (by kernel_rfl) ?_ _
  refine C_keepQ [(2, I (mx2 (x1.now.s.length : Int) (x1.safe.s.length : Int)))] rfl fun b => ?_
  refine th_n ?_
  refine wp_ret ?_
  refine ret1 rfl rfl ?_
  obtain rfl := Option.some.inj hr
  exact hR _ hst
def platter_file_weight_2 (_k : Nat) (x1 : (Option T_platter_file)) : Option (Int) := (Option.bind x1 fun x3 => some ((mx2 (x3.now.s.length : Int) (x3.safe.s.length : Int))))
set_option maxRecDepth 100000 in
set_option maxHeartbeats 4000000 in
theorem platter_file_weight_2_ok {G w : World} {F : List HP} {R : Ending → World → Prop} (k : Nat) (x1 : (Option T_platter_file)) (a1 : Option Addr) (r : (Int)) (hst : St G w (dpt r_T_platter_file a1 x1 :: F)) (hr : platter_file_weight_2 k x1 = some r)
    (hR : ∀ w', St G w' (dpt r_T_platter_file a1 x1 :: F) → R (.returned (I r)) w') :
    Calls Try.prog 58 #[.pointer a1] w R := by
  unfold platter_file_weight_2 at hr
  refine enter Try.func58 rfl [(0, .pointer a1)] rfl rfl fun b => ?_
  refine wp_seq ?_
  refine wp_reg ?_
  refine L_pure 1 [(0, .pointer a1)] (by kernel_rfl) fun b => ?_
  refine wpL_nil ?_
  refine th_n ?_
  refine wp_seq ?_
  refine wp_regG (SN { w with drawn := w.drawn + 1 }) rfl ?_
  have hst := hst.draw (n := w.drawn + 1)
  generalize { w with drawn := w.drawn + 1 } = w at hst ⊢
  refine C_take (i := 0) (v := .pointer a1) rfl (by kernel_rfl) (fun _ _ _ h => h) rfl rfl rfl (R_pure (by kernel_rfl)) ?_
  obtain ⟨x3, hx2, hr⟩ := bnd hr
  have hst := dpt_pick hx2 hst
  refine C_take (i := 1) (v := pt (ab a1) (ao a1 + (0 : Int).toNat * 4)) rfl (by kernel_rfl) (fun _ _ _ h => h) rfl rfl rfl (R_nilc hst rfl) ?_
  refine C_take (i := 2) (v := pt (ab a1) (ao a1 + (0 : Int).toNat * 4)) rfl (by kernel_rfl) (fun _ _ _ h => h) rfl rfl rfl (R_pure (by kernel_rfl)) ?_
  refine C_take (i := 3) (v := pt (ab a1) (ao a1 + (0 : Int).toNat * 4 + 1)) rfl (by kernel_rfl) (fun _ _ _ h => h) rfl rfl rfl (R_pure (by kernel_rfl)) ?_
  obtain ⟨q3, hc3, hst⟩ := dsl_cells hst (show gt [x3] 0 = some x3 from rfl)
  have hst := hst.drop
  refine C_take (i := 4) (v := S x3.now.s) rfl (by kernel_rfl) (fun _ _ _ h => h) rfl rfl rfl (R_loadAt (off := ao a1 + (0 : Int).toNat * 4) (j := 1) hc3 rfl rfl) ?_
  refine C_take (i := 5) (v := I (x3.now.s.length : Int)) rfl (by kernel_rfl) (fun _ _ _ h => h) rfl rfl rfl (R_pure (by kernel_rfl)) ?_
  refine C_take (i := 6) (v := .pointer a1) rfl (by kernel_rfl) (fun _ _ _ h => h) rfl rfl rfl (R_pure (by kernel_rfl)) ?_
  refine C_take (i := 7) (v := pt (ab a1) (ao a1 + (0 : Int).toNat * 4)) rfl (by kernel_rfl) (fun _ _ _ h => h) rfl rfl rfl (R_nilc hst rfl) ?_
  refine C_take (i := 8) (v := pt (ab a1) (ao a1 + (0 : Int).toNat * 4 + 2)) rfl (by kernel_rfl) (fun _ _ _ h => h) rfl rfl rfl (R_pure (by kernel_rfl)) ?_
  refine C_take (i := 9) (v := pt (ab a1) (ao a1 + (0 : Int).toNat * 4 + 3)) rfl (by kernel_rfl) (fun _ _ _ h => h) rfl rfl rfl (R_pure (by kernel_rfl)) ?_
  obtain ⟨q4, hc4, hst⟩ := dsl_cells hst (show gt [x3] 0 = some x3 from rfl)
  have hst := hst.drop
  refine C_take (i := 10) (v := S x3.safe.s) rfl (by kernel_rfl) (fun _ _ _ h => h) rfl rfl rfl (R_loadAt (off := ao a1 + (0 : Int).toNat * 4) (j := 3) hc4 rfl rfl) ?_
  refine C_take (i := 11) (v := I (x3.safe.s.length : Int)) rfl (by kernel_rfl) (fun _ _ _ h => h) rfl rfl rfl (R_pure (by kernel_rfl)) ?_
  refine C_take (i := 12) (v := I (mx2 (x3.now.s.length : Int) (x3.safe.s.length : Int))) rfl (by kernel_rfl) (fun _ _ _ h => h) rfl rfl rfl (R_pure (by kernel_rfl)) ?_
  refine C_take (i := 13) (v := I (mx2 (x3.now.s.length : Int) (x3.safe.s.length : Int))) rfl (by kernel_rfl) (fun _ _ _ h => h) rfl rfl rfl (R_pure (by kernel_rfl)) ?_
  refine wpG_done (by kernel_rfl) ?_ _
  refine C_keepQ [(2, I (mx2 (x3.now.s.length : Int) (x3.safe.s.length : Int)))] rfl fun b => ?_
  refine th_n ?_
  refine wp_ret ?_
  refine ret1 rfl rfl ?_
  obtain rfl := Option.some.inj hr
  have hst := ((hst.pull 1).cut 1 1)
  exact hR _ hst
def meter_Meter_Fits (_k : Nat) (x1 : Int) (x2 : Int) (_x3 : Bool) (_x4 : Int) (_x5 : (List ((List UInt8) × (Option T_platter_file)))) (x6 : Int) : Option (Bool) := some (decide (x6 ≤ (IntKind.i64.wrap (x1 - x2))))
set_option maxRecDepth 100000 in
set_option maxHeartbeats 4000000 in
theorem meter_Meter_Fits_ok {G w : World} {F : List HP} {R : Ending → World → Prop} (k : Nat) (x1 : Int) (x2 : Int) (x3 : Bool) (x4 : Int) (x5 : (List ((List UInt8) × (Option T_platter_file)))) (x6 : Int) (p1 : Nat) (p2 : Nat) (r : (Bool)) (hst : St G w (blk p1 (cl [I x1, I x2, .bool x3, I x4, .map (some p2)] 42) :: mpr S (rPt r_T_platter_file) p2 x5 :: F)) (hr : meter_Meter_Fits k x1 x2 x3 x4 x5 x6 = some r)
    (hR : ∀ w', St G w' (blk p1 (cl [I x1, I x2, .bool x3, I x4, .map (some p2)] 42) :: mpr S (rPt r_T_platter_file) p2 x5 :: F) → R (.returned (.bool r)) w') :
    Calls Try.prog 73 #[pt p1 0, I x6] w R := by
  unfold meter_Meter_Fits at hr
  refine enter Try.func73 rfl [(0, pt p1 0), (1, I x6)] rfl rfl fun b => ?_
  refine wp_seq ?_
  refine wp_reg ?_
  refine L_pure 1 [(0, pt p1 0), (1, I x6)] (by kernel_rfl) fun b => ?_
  refine wpL_nil ?_
  refine th_n ?_
  refine wp_seq ?_
  refine wp_regG (SN { w with drawn := w.drawn + 1 }) rfl ?_
  have hst := hst.draw (n := w.drawn + 1)
  generalize { w with drawn := w.drawn + 1 } = w at hst ⊢
  refine C_take (i := 0) (v := I x6) rfl (by kernel_rfl) (fun _ _ _ h => h) rfl rfl rfl (R_pure (by kernel_rfl)) ?_
  refine C_take (i := 1) (v := pt p1 0) rfl (by kernel_rfl) (fun _ _ _ h => h) rfl rfl rfl (R_pure (by kernel_rfl)) ?_
  refine C_take (i := 2) (v := pt p1 0) rfl (by kernel_rfl) (fun _ _ _ h => h) rfl rfl rfl (R_pure (by kernel_rfl)) ?_
  refine C_take (i := 3) (v := pt p1 0) rfl (by kernel_rfl) (fun _ _ _ h => h) rfl rfl rfl (R_pure (by kernel_rfl)) ?_
  refine C_take (i := 4) (v := I x1) rfl (by kernel_rfl) (fun _ _ _ h => h) rfl rfl rfl (R_load hst rfl rfl) ?_
  refine C_take (i := 5) (v := pt p1 0) rfl (by kernel_rfl) (fun _ _ _ h => h) rfl rfl rfl (R_pure (by kernel_rfl)) ?_
  refine C_take (i := 6) (v := pt p1 0) rfl (by kernel_rfl) (fun _ _ _ h => h) rfl rfl rfl (R_pure (by kernel_rfl)) ?_
  refine C_take (i := 7) (v := pt p1 1) rfl (by kernel_rfl) (fun _ _ _ h => h) rfl rfl rfl (R_pure (by kernel_rfl)) ?_
  refine C_take (i := 8) (v := I x2) rfl (by kernel_rfl) (fun _ _ _ h => h) rfl rfl rfl (R_load hst rfl rfl) ?_
  refine C_take (i := 9) (v := I (IntKind.i64.wrap (x1 - x2))) rfl (by kernel_rfl) (fun _ _ _ h => h) rfl rfl rfl (R_pure (by kernel_rfl)) ?_
  refine C_take (i := 10) (v := .bool (decide (x6 ≤ (IntKind.i64.wrap (x1 - x2))))) rfl (by kernel_rfl) (fun _ _ _ h => h) rfl rfl rfl (R_pure (by kernel_rfl)) ?_
  refine C_take (i := 11) (v := .bool (decide (x6 ≤ (IntKind.i64.wrap (x1 - x2))))) rfl (by kernel_rfl) (fun _ _ _ h => h) rfl rfl rfl (R_pure (by kernel_rfl)) ?_
  refine wpG_done (by kernel_rfl) ?_ _
  refine C_keepQ [(4, .bool (decide (x6 ≤ (IntKind.i64.wrap (x1 - x2)))))] rfl fun b => ?_
  refine th_n ?_
  refine wp_ret ?_
  refine ret1 rfl rfl ?_
  obtain rfl := Option.some.inj hr
  have hst := ((hst.pull 1).pull 1)
  exact hR _ hst
def meter_Meter_Take (k : Nat) (x1 : Int) (x2 : Int) (x3 : Bool) (x4 : Int) (x5 : (List ((List UInt8) × (Option T_platter_file)))) (x6 : Int) : Option (Int × Int) := (if decide (x6 < 0) = true then some ((1 : Int), x2) else (Option.bind (meter_Meter_Fits k x1 x2 x3 x4 x5 x6) fun y2 => (if (!y2) = true then some ((7 : Int), x2) else some ((0 : Int), (IntKind.i64.wrap (x2 + x6))))))
set_option maxRecDepth 100000 in
set_option maxHeartbeats 4000000 in
theorem meter_Meter_Take_ok {G w : World} {F : List HP} {R : Ending → World → Prop} (k : Nat) (x1 : Int) (x2 : Int) (x3 : Bool) (x4 : Int) (x5 : (List ((List UInt8) × (Option T_platter_file)))) (x6 : Int) (p1 : Nat) (p2 : Nat) (r : (Int × Int)) (hst : St G w (blk p1 (cl [I x1, I x2, .bool x3, I x4, .map (some p2)] 42) :: mpr S (rPt r_T_platter_file) p2 x5 :: F)) (hr : meter_Meter_Take k x1 x2 x3 x4 x5 x6 = some r)
    (hR : ∀ w', St G w' (blk p1 (cl [I x1, I r.2, .bool x3, I x4, .map (some p2)] 42) :: mpr S (rPt r_T_platter_file) p2 x5 :: F) → R (.returned (I r.1)) w') :
    Calls Try.prog 59 #[pt p1 0, I x6] w R := by
  unfold meter_Meter_Take at hr
  refine enter Try.func59 rfl [(0, pt p1 0), (1, I x6)] rfl rfl fun b => ?_
  refine wp_seq ?_
  refine wp_reg ?_
  refine L_pure 1 [(0, pt p1 0), (1, I x6)] (by kernel_rfl) fun b => ?_
  refine wpL_nil ?_
  refine th_n ?_
  refine wp_seq ?_
  refine wp_seq ?_
  refine wp_reg ?_
  refine L_pure 2 [(0, pt p1 0), (1, I x6), (6, .bool (decide (x6 < 0)))] (by kernel_rfl) fun b => ?_
  refine wpL_nil ?_
  refine th_n ?_
  refine wp_cond_mkF (t := decide (x6 < 0)) rfl (fun h => ?_) (fun h => ?_)
  · have hr := (if_pos h).symm.trans hr
    refine wp_seq ?_
    refine wp_reg ?_
    refine L_pure 1 [(4, I 1)] (by kernel_rfl) fun b => ?_
    refine wpL_nil ?_
    refine th_n ?_
    refine wp_ret ?_
    refine th_r ?_
    refine ret1 rfl rfl ?_
    obtain rfl := Option.some.inj hr
    have hst := ((hst.pull 1).pull 1)
    exact hR _ hst
  · have hr := (if_neg (by rw [h]; exact Bool.false_ne_true)).symm.trans hr
    refine wp_skip ?_
    refine th_n ?_
    refine wp_seq ?_
    refine wp_seq ?_
    refine wp_reg ?_
    refine L_pure 2 [(0, pt p1 0), (1, I x6), (7, pt p1 0), (8, I x6)] (by kernel_rfl) fun b => ?_
    obtain ⟨y2, hy2, hr⟩ := bnd hr
    refine L_op rfl (O_call (vs := #[pt p1 0, I x6]) Try.call73 (by kernel_rfl) (meter_Meter_Fits_ok k x1 x2 x3 x4 x5 x6 p1 p2 y2 ((hst.pull 1).pull 1) hy2 fun w hst => ?_))
    refine CK_ret rfl ?_
    refine L_pure 1 [(0, pt p1 0), (1, I x6), (10, .bool (!y2))] (by kernel_rfl) fun b => ?_
    refine wpL_nil ?_
    refine th_n ?_
    refine wp_cond_mkF (t := (!y2)) rfl (fun h => ?_) (fun h => ?_)
    · have hr := (if_pos h).symm.trans hr
      refine wp_seq ?_
      refine wp_reg ?_
      refine L_pure 1 [(4, I 7)] (by kernel_rfl) fun b => ?_
      refine wpL_nil ?_
      refine th_n ?_
      refine wp_ret ?_
      refine th_r ?_
      refine ret1 rfl rfl ?_
      obtain rfl := Option.some.inj hr
      have hst := ((hst.pull 1).pull 1)
      exact hR _ hst
    · have hr := (if_neg (by rw [h]; exact Bool.false_ne_true)).symm.trans hr
      refine wp_skip ?_
      refine th_n ?_
      refine wp_seq ?_
      refine wp_reg ?_
      refine L_pure 3 [(1, I x6), (11, pt p1 0), (13, pt p1 1)] (by kernel_rfl) fun b => ?_
      refine L_op rfl (O_run (v := I x2) (w' := w) (R_load hst rfl rfl) rfl rfl ?_)
      refine L_pure 4 [(16, I (IntKind.i64.wrap (x2 + x6))), (18, pt p1 1)] (by kernel_rfl) fun b => ?_
      refine L_op rfl (O_store [I x1, I (IntKind.i64.wrap (x2 + x6)), .bool x3, I x4, .map (some p2)] hst rfl rfl (by kernel_rfl) fun w hst => ?_)
      refine wpL_nil ?_
      refine th_n ?_
      refine wp_seq ?_
      refine wp_reg ?_
      refine L_pure 1 [(4, I 0)] (by kernel_rfl) fun b => ?_
      refine wpL_nil ?_
      refine th_n ?_
      refine wp_ret ?_
      refine ret1 rfl rfl ?_
      obtain rfl := Option.some.inj hr
      have hst := ((hst.pull 1).pull 1)
      exact hR _ hst
def meter_Meter_Give (_k : Nat) (_x1 : Int) (x2 : Int) (_x3 : Bool) (_x4 : Int) (_x5 : (List ((List UInt8) × (Option T_platter_file)))) (x6 : Int) : Option (Int × Int) := (Option.bind (if decide (x6 < 0) = true then some (true) else some (decide (x6 > x2))) fun y2 => (if y2 = true then some ((1 : Int), x2) else some ((0 : Int), (IntKind.i64.wrap (x2 - x6)))))
set_option maxRecDepth 100000 in
set_option maxHeartbeats 4000000 in
theorem meter_Meter_Give_ok {G w : World} {F : List HP} {R : Ending → World → Prop} (k : Nat) (x1 : Int) (x2 : Int) (x3 : Bool) (x4 : Int) (x5 : (List ((List UInt8) × (Option T_platter_file)))) (x6 : Int) (p1 : Nat) (p2 : Nat) (r : (Int × Int)) (hst : St G w (blk p1 (cl [I x1, I x2, .bool x3, I x4, .map (some p2)] 42) :: mpr S (rPt r_T_platter_file) p2 x5 :: F)) (hr : meter_Meter_Give k x1 x2 x3 x4 x5 x6 = some r)
    (hR : ∀ w', St G w' (blk p1 (cl [I x1, I r.2, .bool x3, I x4, .map (some p2)] 42) :: mpr S (rPt r_T_platter_file) p2 x5 :: F) → R (.returned (I r.1)) w') :
    Calls Try.prog 60 #[pt p1 0, I x6] w R := by
  unfold meter_Meter_Give at hr
  refine enter Try.func60 rfl [(0, pt p1 0), (1, I x6)] rfl rfl fun b => ?_
  refine wp_seq ?_
  refine wp_reg ?_
  refine L_pure 1 [(0, pt p1 0), (1, I x6)] (by kernel_rfl) fun b => ?_
  refine wpL_nil ?_
  refine th_n ?_
  refine wp_seq ?_
  obtain ⟨y2, hy2, hk2⟩ := bnd hr
  clear hr
  refine wp_seq_cut (fun a w => ∃ (b : Nat → Value), a = mkF 23 b [(0, pt p1 0), (1, I x6), (14, .bool y2)] ∧ St G w (blk p1 (cl [I x1, I x2, .bool x3, I x4, .map (some p2)] 42) :: mpr S (rPt r_T_platter_file) p2 x5 :: F)) ?_ ?_
  · rintro _ w ⟨b, rfl, hst⟩
    have hr := hk2
    refine wp_cond_mkF (t := y2) rfl (fun h => ?_) (fun h => ?_)
    · have hr := (if_pos h).symm.trans hr
      refine wp_seq ?_
      refine wp_reg ?_
      refine L_pure 1 [(4, I 1)] (by kernel_rfl) fun b => ?_
      refine wpL_nil ?_
      refine th_n ?_
      refine wp_ret ?_
      refine th_r ?_
      refine ret1 rfl rfl ?_
      obtain rfl := Option.some.inj hr
      have hst := ((hst.pull 1).pull 1)
      exact hR _ hst
    · have hr := (if_neg (by rw [h]; exact Bool.false_ne_true)).symm.trans hr
      refine wp_skip ?_
      refine th_n ?_
      refine wp_seq ?_
      refine wp_reg ?_
      refine L_pure 3 [(1, I x6), (15, pt p1 0), (17, pt p1 1)] (by kernel_rfl) fun b => ?_
      refine L_op rfl (O_run (v := I x2) (w' := w) (R_load hst rfl rfl) rfl rfl ?_)
      refine L_pure 4 [(20, I (IntKind.i64.wrap (x2 - x6))), (22, pt p1 1)] (by kernel_rfl) fun b => ?_
      refine L_op rfl (O_store [I x1, I (IntKind.i64.wrap (x2 - x6)), .bool x3, I x4, .map (some p2)] hst rfl rfl (by kernel_rfl) fun w hst => ?_)
      refine wpL_nil ?_
      refine th_n ?_
      refine wp_seq ?_
      refine wp_reg ?_
      refine L_pure 1 [(4, I 0)] (by kernel_rfl) fun b => ?_
      refine wpL_nil ?_
      refine th_n ?_
      refine wp_ret ?_
      refine ret1 rfl rfl ?_
      obtain rfl := Option.some.inj hr
      have hst := ((hst.pull 1).pull 1)
      exact hR _ hst
  · have hr := hy2
    refine wp_reg ?_
    refine L_pure 3 [(0, pt p1 0), (1, I x6), (7, .bool (decide (x6 < 0)))] (by kernel_rfl) fun b => ?_
    by_cases h : (decide (x6 < 0)) = true
    · have hr := (if_pos h).symm.trans hr
      refine L_keep ((7, .bool (decide (x6 < 0))) :: [(0, pt p1 0), (1, I x6)]) rfl fun b => ?_
      refine L_bool h ?_
      refine L_pure 7 [(0, pt p1 0), (1, I x6), (14, .bool true)] (by kernel_rfl) fun b => ?_
      refine wpL_nil ?_
      refine th_n ?_
      obtain rfl := Option.some.inj hr
      have hst := ((hst.pull 1).pull 1)
      exact (kpX [(0, pt p1 0), (1, I x6), (14, .bool true)] rfl hst)
    · have hr := (if_neg h).symm.trans hr
      refine L_keep ((7, .bool (decide (x6 < 0))) :: [(0, pt p1 0), (1, I x6)]) rfl fun b => ?_
      refine L_bool (eq_false_of_ne_true h) ?_
      refine L_pure 4 [(0, pt p1 0), (1, I x6), (7, .bool false), (8, I x6), (11, pt p1 1)] (by kernel_rfl) fun b => ?_
      refine L_op rfl (O_run (v := I x2) (w' := w) (R_load hst rfl rfl) rfl rfl ?_)
      refine L_pure 2 [(0, pt p1 0), (1, I x6), (14, .bool (decide (x6 > x2)))] (by kernel_rfl) fun b => ?_
      refine wpL_nil ?_
      refine th_n ?_
      obtain rfl := Option.some.inj hr
      have hst := ((hst.pull 1).pull 1)
      exact (kpX [(0, pt p1 0), (1, I x6), (14, .bool (decide (x6 > x2)))] rfl hst)
def platter_Disk_put (k : Nat) (x1 : Int) (x2 : Int) (x3 : Bool) (x4 : Int) (x5 : (List ((List UInt8) × (Option T_platter_file)))) (x6 : (List UInt8)) (x7 : T_platter_text) : Option (Int × Int × (List ((List UInt8) × (Option T_platter_file)))) := (Option.bind (platter_Disk_get k x1 x2 x3 x4 x5 x6) fun y8 => (Option.bind (Option.bind y8 fun x9 => some (x9.safe.there, x9.safe.s)) fun y9 => (Option.bind (platter_file_weight k (T_platter_file.mk x7 (T_platter_text.mk y9.1 y9.2))) fun y10 => (Option.bind (platter_file_weight_2 k y8) fun y11 => (Option.bind (if decide ((IntKind.i64.wrap (y10 - y11)) > 0) = true then (Option.bind (meter_Meter_Take k x1 x2 x3 x4 x5 (IntKind.i64.wrap (y10 - y11))) fun y13 => (if (y13.1 != 0) = true then some (Flow.ret (y13.1, y13.2, x5)) else some (Flow.go (y13.2)))) else (Option.bind (meter_Meter_Give k x1 x2 x3 x4 x5 (IntKind.i64.wrap (0 - (IntKind.i64.wrap (y10 - y11))))) fun y14 => (if (y14.1 != 0) = true then some (Flow.ret (y14.1, y14.2, x5)) else some (Flow.go (y14.2))))) fun y12 => (match y12 with | Flow.ret r => some r | Flow.go z2 => some ((0 : Int), z2, (mput x5 x6 (some (T_platter_file.mk x7 (T_platter_text.mk y9.1 y9.2)))))))))))
set_option maxRecDepth 100000 in
set_option maxHeartbeats 4000000 in
theorem platter_Disk_put_ok {G w : World} {F : List HP} {R : Ending → World → Prop} (k : Nat) (x1 : Int) (x2 : Int) (x3 : Bool) (x4 : Int) (x5 : (List ((List UInt8) × (Option T_platter_file)))) (x6 : (List UInt8)) (x7 : T_platter_text) (p1 : Nat) (p2 : Nat) (r : (Int × Int × (List ((List UInt8) × (Option T_platter_file))))) (hst : St G w (blk p1 (cl [I x1, I x2, .bool x3, I x4, .map (some p2)] 42) :: mpr S (rPt r_T_platter_file) p2 x5 :: F)) (hr : platter_Disk_put k x1 x2 x3 x4 x5 x6 x7 = some r)
    (hR : ∀ w', St G w' (blk p1 (cl [I x1, I r.2.1, .bool x3, I x4, .map (some p2)] 42) :: mpr S (rPt r_T_platter_file) p2 r.2.2 :: F) → R (.returned (I r.1)) w') :
    Calls Try.prog 40 #[pt p1 0, S x6, .agg #[.bool x7.there, S x7.s]] w R := by
  unfold platter_Disk_put at hr
  refine enter Try.func40 rfl [(0, pt p1 0), (1, S x6), (2, .agg #[.bool x7.there, S x7.s])] rfl rfl fun b => ?_
  refine wp_seq ?_
  refine wp_reg ?_
  refine L_op rfl (O_box [.bool x7.there, S x7.s] hst rfl rfl fun p6 w hst => ?_)
  refine L_pure 1 [(0, pt p1 0), (1, S x6), (5, pt p6 0)] (by kernel_rfl) fun b => ?_
  refine wpL_nil ?_
  refine th_n ?_
  refine wp_seq ?_
  refine wp_reg ?_
  refine L_pure 2 [(0, pt p1 0), (1, S x6), (5, pt p6 0), (12, pt p1 0), (13, S x6)] (by kernel_rfl) fun b => ?_
  obtain ⟨y8, hy8, hr⟩ := bnd hr
  refine L_op rfl (O_call (vs := #[pt p1 0, S x6]) Try.call43 (by kernel_rfl) (platter_Disk_get_ok k x1 x2 x3 x4 x5 x6 p1 p2 y8 ((hst.pull 2).pull 2) hy8 fun a2 w hst => ?_))
  refine CK_ret rfl ?_
  refine L_pure 1 [(0, pt p1 0), (1, S x6), (5, pt p6 0), (7, .pointer a2)] (by kernel_rfl) fun b => ?_
  refine wpL_nil ?_
  refine th_n ?_
  obtain ⟨y9, hy9, hk3⟩ := bnd hr
  clear hr
  refine wp_seq_cut (fun a w => ∃ (p7 : Nat)(b : Nat → Value), a = mkF 49 b [(0, pt p1 0), (1, S x6), (7, .pointer a2), (8, pt p7 0)] ∧ St G w (blk p7 (cl [.bool x7.there, S x7.s, .bool y9.1, S y9.2] 95) :: dpt r_T_platter_file a2 y8 :: blk p1 (cl [I x1, I x2, .bool x3, I x4, .map (some p2)] 42) :: mpr S (rPt r_T_platter_file) p2 x5 :: blk p6 (cl [.bool x7.there, S x7.s] 86) :: F)) ?_ ?_
  · rintro _ w ⟨p7, b, rfl, hst⟩
    have hr := hk3
    refine wp_seq ?_
    refine wp_reg ?_
    obtain ⟨y10, hy10, hr⟩ := bnd hr
    refine L_op rfl (O_call (vs := #[pt p7 0]) Try.call58 (by kernel_rfl) (platter_file_weight_ok k (T_platter_file.mk x7 (T_platter_text.mk y9.1 y9.2)) p7 y10 hst hy10 fun w hst => ?_))
    refine CK_ret rfl ?_
    refine L_pure 1 [(0, pt p1 0), (1, S x6), (8, pt p7 0), (21, I y10), (22, .pointer a2)] (by kernel_rfl) fun b => ?_
    obtain ⟨y11, hy11, hr⟩ := bnd hr
    have hst := (hst.pull 1).dup
    refine L_op rfl (O_call (vs := #[.pointer a2]) Try.call58 (by kernel_rfl) (platter_file_weight_2_ok k y8 a2 y11 hst hy11 fun w hst => ?_))
    refine CK_ret rfl ?_
    refine L_pure 2 [(0, pt p1 0), (1, S x6), (8, pt p7 0), (9, I (IntKind.i64.wrap (y10 - y11)))] (by kernel_rfl) fun b => ?_
    refine wpL_nil ?_
    refine th_n ?_
    obtain ⟨y12, hy12, hk4⟩ := bnd hr
    clear hr
    refine wp_seq_cut (fun a w => ∃ (z2 : Int) (b : Nat → Value), y12 = .go z2 ∧ a = mkF 49 b [(0, pt p1 0), (1, S x6), (8, pt p7 0)] ∧ St G w (blk p1 (cl [I x1, I z2, .bool x3, I x4, .map (some p2)] 42) :: mpr S (rPt r_T_platter_file) p2 x5 :: dpt r_T_platter_file a2 y8 :: dpt r_T_platter_file a2 y8 :: blk p7 (cl [.bool x7.there, S x7.s, .bool y9.1, S y9.2] 95) :: blk p6 (cl [.bool x7.there, S x7.s] 86) :: F)) ?_ ?_
    · rintro _ w ⟨z2, b, rfl, rfl, hst⟩
      have hr := hk4
      refine wp_seq ?_
      refine wp_reg ?_
      refine L_pure 3 [(1, S x6), (8, pt p7 0), (46, pt p1 4)] (by kernel_rfl) fun b => ?_
      refine L_op rfl (O_run (v := .map (some p2)) (w' := w) (R_load hst rfl rfl) rfl rfl ?_)
      refine L_pure 1 [(8, pt p7 0), (47, .map (some p2)), (48, S x6)] (by kernel_rfl) fun b => ?_
      have hst := osl_of_blk0 (ecs := [[.bool x7.there, S x7.s, .bool y9.1, S y9.2]]) r_T_platter_file [(T_platter_file.mk x7 (T_platter_text.mk y9.1 y9.2))] rfl (fun m => ⟨⟨(), rfl, trivial⟩, trivial⟩) rfl (hst.pull 4)
      have hst := dpt_of (osl_freeze hst)
      refine L_op rfl (O_updP M40 x6 (hst.pull 2) rfl rfl rfl fun w hst => ?_)
      refine wpL_nil ?_
      refine th_n ?_
      refine wp_seq ?_
      refine wp_reg ?_
      refine L_pure 1 [(6, I 0)] (by kernel_rfl) fun b => ?_
      refine wpL_nil ?_
      refine th_n ?_
      refine wp_ret ?_
      refine ret1 rfl rfl ?_
      obtain rfl := Option.some.inj hr
      have hst := ((hst.pull 2).cut 2 4)
      exact hR _ hst
    · have hr := hy12
      refine wp_seq ?_
      refine wp_reg ?_
      refine L_pure 2 [(0, pt p1 0), (1, S x6), (8, pt p7 0), (9, I (IntKind.i64.wrap (y10 - y11))), (26, .bool (decide ((IntKind.i64.wrap (y10 - y11)) > 0)))] (by kernel_rfl) fun b => ?_
      refine wpL_nil ?_
      refine th_n ?_
      refine wp_cond_mkF (t := decide ((IntKind.i64.wrap (y10 - y11)) > 0)) rfl (fun h => ?_) (fun h => ?_)
      · have hr := (if_pos h).symm.trans hr
        refine wp_seq ?_
        refine wp_reg ?_
        refine L_pure 4 [(0, pt p1 0), (1, S x6), (8, pt p7 0), (29, pt p1 0), (30, I (IntKind.i64.wrap (y10 - y11)))] (by kernel_rfl) fun b => ?_
        obtain ⟨y13, hy13, hr⟩ := bnd hr
        refine L_op rfl (O_call (vs := #[pt p1 0, I (IntKind.i64.wrap (y10 - y11))]) Try.call59 (by kernel_rfl) (meter_Meter_Take_ok k x1 x2 x3 x4 x5 (IntKind.i64.wrap (y10 - y11)) p1 p2 y13 ((hst.pull 4).pull 4) hy13 fun w hst => ?_))
        refine CK_ret rfl ?_
        refine L_pure 1 [(0, pt p1 0), (1, S x6), (8, pt p7 0), (10, I y13.1)] (by kernel_rfl) fun b => ?_
        refine wpL_nil ?_
        refine th_n ?_
        refine wp_seq ?_
        refine wp_reg ?_
        refine L_pure 2 [(0, pt p1 0), (1, S x6), (8, pt p7 0), (10, I y13.1), (33, .bool (y13.1 != 0))] (by kernel_rfl) fun b => ?_
        refine wpL_nil ?_
        refine th_n ?_
        refine wp_cond_mkF (t := (y13.1 != 0)) rfl (fun h => ?_) (fun h => ?_)
        · have hr := (if_pos h).symm.trans hr
          refine wp_seq ?_
          refine wp_reg ?_
          refine L_pure 2 [(6, I y13.1)] (by kernel_rfl) fun b => ?_
          refine wpL_nil ?_
          refine th_n ?_
          refine wp_ret ?_
          refine th_r ?_
          refine ret1 rfl rfl ?_
          obtain rfl := Option.some.inj hr
          obtain rfl := Option.some.inj hk4
          have hst := (((hst.pull 1).pull 1).cut 2 4)
          exact hR _ hst
        · have hr := (if_neg (by rw [h]; exact Bool.false_ne_true)).symm.trans hr
          refine wp_skip ?_
          refine th_n ?_
          obtain rfl := Option.some.inj hr
          have hst := ((((((hst.pull 5).pull 5).pull 5).pull 5).pull 5).pull 5)
          exact ⟨(y13.2), (kpXf [(0, pt p1 0), (1, S x6), (8, pt p7 0)] rfl hst)⟩
      · have hr := (if_neg (by rw [h]; exact Bool.false_ne_true)).symm.trans hr
        refine wp_seq ?_
        refine wp_reg ?_
        refine L_pure 5 [(0, pt p1 0), (1, S x6), (8, pt p7 0), (37, pt p1 0), (39, I (IntKind.i64.wrap (0 - (IntKind.i64.wrap (y10 - y11)))))] (by kernel_rfl) fun b => ?_
        obtain ⟨y14, hy14, hr⟩ := bnd hr
        refine L_op rfl (O_call (vs := #[pt p1 0, I (IntKind.i64.wrap (0 - (IntKind.i64.wrap (y10 - y11))))]) Try.call60 (by kernel_rfl) (meter_Meter_Give_ok k x1 x2 x3 x4 x5 (IntKind.i64.wrap (0 - (IntKind.i64.wrap (y10 - y11)))) p1 p2 y14 ((hst.pull 4).pull 4) hy14 fun w hst => ?_))
        refine CK_ret rfl ?_
        refine L_pure 1 [(0, pt p1 0), (1, S x6), (8, pt p7 0), (11, I y14.1)] (by kernel_rfl) fun b => ?_
        refine wpL_nil ?_
        refine th_n ?_
        refine wp_seq ?_
        refine wp_reg ?_
        refine L_pure 2 [(0, pt p1 0), (1, S x6), (8, pt p7 0), (11, I y14.1), (42, .bool (y14.1 != 0))] (by kernel_rfl) fun b => ?_
        refine wpL_nil ?_
        refine th_n ?_
        refine wp_cond_mkF (t := (y14.1 != 0)) rfl (fun h => ?_) (fun h => ?_)
        · have hr := (if_pos h).symm.trans hr
          refine wp_seq ?_
          refine wp_reg ?_
          refine L_pure 2 [(6, I y14.1)] (by kernel_rfl) fun b => ?_
          refine wpL_nil ?_
          refine th_n ?_
          refine wp_ret ?_
          refine th_r ?_
          refine ret1 rfl rfl ?_
          obtain rfl := Option.some.inj hr
          obtain rfl := Option.some.inj hk4
          have hst := (((hst.pull 1).pull 1).cut 2 4)
          exact hR _ hst
        · have hr := (if_neg (by rw [h]; exact Bool.false_ne_true)).symm.trans hr
          refine wp_skip ?_
          refine th_n ?_
          obtain rfl := Option.some.inj hr
          have hst := ((((((hst.pull 5).pull 5).pull 5).pull 5).pull 5).pull 5)
          exact ⟨(y14.2), (kpXf [(0, pt p1 0), (1, S x6), (8, pt p7 0)] rfl hst)⟩
  · have hr := hy9
    refine wp_regG SA rfl ?_
    have hst := hst.draw (n := w.drawn + 1)
    generalize { w with drawn := w.drawn + 1 } = w at hst ⊢
    refine A_take (i := 1) (v := .pointer a2) rfl (by kernel_rfl) (fun _ _ _ h => h) rfl rfl rfl (fun _ => R_pure (by kernel_rfl)) ?_
    refine A_all [0, 2, 6] (by kernel_rfl) ⟨⟨_, rfl, rfl, ?_⟩, ⟨_, rfl, rfl, ?_⟩, ⟨_, rfl, rfl, ?_⟩, trivial⟩
    · refine O_run (v := .agg #[.bool x7.there, S x7.s]) (w' := w) (R_load (hst.pull 3) rfl rfl) rfl rfl ?_
      refine A_all [2, 6] (by kernel_rfl) ⟨⟨_, rfl, rfl, ?_⟩, ⟨_, rfl, rfl, ?_⟩, trivial⟩
      · obtain ⟨x9, hx2, hr⟩ := bnd hr
        have hst := dpt_pick hx2 hst
        refine O_run (v := pt (ab a2) (ao a2 + (0 : Int).toNat * 4)) (w' := w) (R_nilc hst rfl) rfl rfl ?_
        refine A_take (i := 3) (v := pt (ab a2) (ao a2 + (0 : Int).toNat * 4 + 2)) rfl (by kernel_rfl) (fun _ _ _ h => h) rfl rfl rfl (fun _ => R_pure (by kernel_rfl)) ?_
        refine A_all [4, 6] (by kernel_rfl) ⟨⟨_, rfl, rfl, ?_⟩, ⟨_, rfl, rfl, ?_⟩, trivial⟩
        · obtain ⟨q2, hc2, hst⟩ := dsl_cells hst (show gt [x9] 0 = some x9 from rfl)
          have hst := hst.drop
          refine O_run (v := .agg #[.bool x9.safe.there, S x9.safe.s]) (w' := w) (R_loadAt (off := ao a2 + (0 : Int).toNat * 4) (j := 2) hc2 rfl rfl) rfl rfl ?_
          refine A_take (i := 5) (v := .agg #[.bool x7.there, S x7.s, .bool x9.safe.there, S x9.safe.s]) rfl (by kernel_rfl) (fun _ _ _ h => h) rfl rfl rfl (fun _ => R_pure (by kernel_rfl)) ?_
          refine A_all [6] (by kernel_rfl) ⟨⟨_, rfl, rfl, ?_⟩, trivial⟩
          refine O_alloc (i := Try.t95) (z := .agg #[.bool false, S ([]), .bool false, S ([])]) [.bool false, S ([]), .bool false, S ([])] hst rfl rfl rfl rfl fun p8 w hst => ?_
          refine A_all [7] (by kernel_rfl) ⟨⟨_, rfl, rfl, ?_⟩, trivial⟩
          refine O_store [.bool x7.there, S x7.s, .bool x9.safe.there, S x9.safe.s] hst rfl rfl (by kernel_rfl) fun w hst => ?_
          refine wpG_done (by kernel_rfl) ?_ _
          refine C_keepQ [(0, pt p1 0), (1, S x6), (7, .pointer a2), (8, pt p8 0)] rfl fun b => ?_
          refine th_n ?_
          obtain rfl := Option.some.inj hr
          have hst := ((((((hst.pull 5).pull 5).pull 5).pull 5).pull 4).cut 5 1)
          exact ⟨p8, (kpX [(0, pt p1 0), (1, S x6), (7, .pointer a2), (8, pt p8 0)] rfl hst)⟩
        · refine O_alloc (i := Try.t95) (z := .agg #[.bool false, S ([]), .bool false, S ([])]) [.bool false, S ([]), .bool false, S ([])] hst rfl rfl rfl rfl fun p8 w hst => ?_
          refine A_all [4] (by kernel_rfl) ⟨⟨_, rfl, rfl, ?_⟩, trivial⟩
          obtain ⟨q2, hc2, hst⟩ := dsl_cells (hst.pull 1) (show gt [x9] 0 = some x9 from rfl)
          have hst := hst.drop
          refine O_run (v := .agg #[.bool x9.safe.there, S x9.safe.s]) (w' := w) (R_loadAt (off := ao a2 + (0 : Int).toNat * 4) (j := 2) hc2 rfl rfl) rfl rfl ?_
          refine A_take (i := 5) (v := .agg #[.bool x7.there, S x7.s, .bool x9.safe.there, S x9.safe.s]) rfl (by kernel_rfl) (fun _ _ _ h => h) rfl rfl rfl (fun _ => R_pure (by kernel_rfl)) ?_
          refine A_all [7] (by kernel_rfl) ⟨⟨_, rfl, rfl, ?_⟩, trivial⟩
          refine O_store [.bool x7.there, S x7.s, .bool x9.safe.there, S x9.safe.s] (hst.pull 1) rfl rfl (by kernel_rfl) fun w hst => ?_
          refine wpG_done (by kernel_rfl) ?_ _
          refine C_keepQ [(0, pt p1 0), (1, S x6), (7, .pointer a2), (8, pt p8 0)] rfl fun b => ?_
          refine th_n ?_
          obtain rfl := Option.some.inj hr
          have hst := ((((((hst.pull 5).pull 5).pull 5).pull 5).pull 4).cut 5 1)
          exact ⟨p8, (kpX [(0, pt p1 0), (1, S x6), (7, .pointer a2), (8, pt p8 0)] rfl hst)⟩
      · refine O_alloc (i := Try.t95) (z := .agg #[.bool false, S ([]), .bool false, S ([])]) [.bool false, S ([]), .bool false, S ([])] hst rfl rfl rfl rfl fun p8 w hst => ?_
        refine A_all [2] (by kernel_rfl) ⟨⟨_, rfl, rfl, ?_⟩, trivial⟩
        obtain ⟨x9, hx2, hr⟩ := bnd hr
        have hst := dpt_pick hx2 (hst.pull 1)
        refine O_run (v := pt (ab a2) (ao a2 + (0 : Int).toNat * 4)) (w' := w) (R_nilc hst rfl) rfl rfl ?_
        refine A_take (i := 3) (v := pt (ab a2) (ao a2 + (0 : Int).toNat * 4 + 2)) rfl (by kernel_rfl) (fun _ _ _ h => h) rfl rfl rfl (fun _ => R_pure (by kernel_rfl)) ?_
        refine A_all [4] (by kernel_rfl) ⟨⟨_, rfl, rfl, ?_⟩, trivial⟩
        obtain ⟨q2, hc2, hst⟩ := dsl_cells hst (show gt [x9] 0 = some x9 from rfl)
        have hst := hst.drop
        refine O_run (v := .agg #[.bool x9.safe.there, S x9.safe.s]) (w' := w) (R_loadAt (off := ao a2 + (0 : Int).toNat * 4) (j := 2) hc2 rfl rfl) rfl rfl ?_
        refine A_take (i := 5) (v := .agg #[.bool x7.there, S x7.s, .bool x9.safe.there, S x9.safe.s]) rfl (by kernel_rfl) (fun _ _ _ h => h) rfl rfl rfl (fun _ => R_pure (by kernel_rfl)) ?_
        refine A_all [7] (by kernel_rfl) ⟨⟨_, rfl, rfl, ?_⟩, trivial⟩
        refine O_store [.bool x7.there, S x7.s, .bool x9.safe.there, S x9.safe.s] (hst.pull 2) rfl rfl (by kernel_rfl) fun w hst => ?_
        refine wpG_done (by kernel_rfl) ?_ _
        refine C_keepQ [(0, pt p1 0), (1, S x6), (7, .pointer a2), (8, pt p8 0)] rfl fun b => ?_
        refine th_n ?_
        obtain rfl := Option.some.inj hr
        have hst := ((((((hst.pull 5).pull 5).pull 5).pull 5).pull 4).cut 5 1)
        exact ⟨p8, (kpX [(0, pt p1 0), (1, S x6), (7, .pointer a2), (8, pt p8 0)] rfl hst)⟩
    · obtain ⟨x9, hx2, hr⟩ := bnd hr
      have hst := dpt_pick hx2 hst
      refine O_run (v := pt (ab a2) (ao a2 + (0 : Int).toNat * 4)) (w' := w) (R_nilc hst rfl) rfl rfl ?_
      refine A_take (i := 3) (v := pt (ab a2) (ao a2 + (0 : Int).toNat * 4 + 2)) rfl (by kernel_rfl) (fun _ _ _ h => h) rfl rfl rfl (fun _ => R_pure (by kernel_rfl)) ?_
      refine A_all [0, 4, 6] (by kernel_rfl) ⟨⟨_, rfl, rfl, ?_⟩, ⟨_, rfl, rfl, ?_⟩, ⟨_, rfl, rfl, ?_⟩, trivial⟩
      · refine O_run (v := .agg #[.bool x7.there, S x7.s]) (w' := w) (R_load (hst.pull 4) rfl rfl) rfl rfl ?_
        refine A_all [4, 6] (by kernel_rfl) ⟨⟨_, rfl, rfl, ?_⟩, ⟨_, rfl, rfl, ?_⟩, trivial⟩
        · obtain ⟨q2, hc2, hst⟩ := dsl_cells hst (show gt [x9] 0 = some x9 from rfl)
          have hst := hst.drop
          refine O_run (v := .agg #[.bool x9.safe.there, S x9.safe.s]) (w' := w) (R_loadAt (off := ao a2 + (0 : Int).toNat * 4) (j := 2) hc2 rfl rfl) rfl rfl ?_
          refine A_take (i := 5) (v := .agg #[.bool x7.there, S x7.s, .bool x9.safe.there, S x9.safe.s]) rfl (by kernel_rfl) (fun _ _ _ h => h) rfl rfl rfl (fun _ => R_pure (by kernel_rfl)) ?_
          refine A_all [6] (by kernel_rfl) ⟨⟨_, rfl, rfl, ?_⟩, trivial⟩
          refine O_alloc (i := Try.t95) (z := .agg #[.bool false, S ([]), .bool false, S ([])]) [.bool false, S ([]), .bool false, S ([])] hst rfl rfl rfl rfl fun p8 w hst => ?_
          refine A_all [7] (by kernel_rfl) ⟨⟨_, rfl, rfl, ?_⟩, trivial⟩
          refine O_store [.bool x7.there, S x7.s, .bool x9.safe.there, S x9.safe.s] hst rfl rfl (by kernel_rfl) fun w hst => ?_
          refine wpG_done (by kernel_rfl) ?_ _
          refine C_keepQ [(0, pt p1 0), (1, S x6), (7, .pointer a2), (8, pt p8 0)] rfl fun b => ?_
          refine th_n ?_
          obtain rfl := Option.some.inj hr
          have hst := ((((((hst.pull 5).pull 5).pull 5).pull 5).pull 4).cut 5 1)
          exact ⟨p8, (kpX [(0, pt p1 0), (1, S x6), (7, .pointer a2), (8, pt p8 0)] rfl hst)⟩
        · refine O_alloc (i := Try.t95) (z := .agg #[.bool false, S ([]), .bool false, S ([])]) [.bool false, S ([]), .bool false, S ([])] hst rfl rfl rfl rfl fun p8 w hst => ?_
          refine A_all [4] (by kernel_rfl) ⟨⟨_, rfl, rfl, ?_⟩, trivial⟩
          obtain ⟨q2, hc2, hst⟩ := dsl_cells (hst.pull 1) (show gt [x9] 0 = some x9 from rfl)
          have hst := hst.drop
          refine O_run (v := .agg #[.bool x9.safe.there, S x9.safe.s]) (w' := w) (R_loadAt (off := ao a2 + (0 : Int).toNat * 4) (j := 2) hc2 rfl rfl) rfl rfl ?_
          refine A_take (i := 5) (v := .agg #[.bool x7.there, S x7.s, .bool x9.safe.there, S x9.safe.s]) rfl (by kernel_rfl) (fun _ _ _ h => h) rfl rfl rfl (fun _ => R_pure (by kernel_rfl)) ?_
          refine A_all [7] (by kernel_rfl) ⟨⟨_, rfl, rfl, ?_⟩, trivial⟩
          refine O_store [.bool x7.there, S x7.s, .bool x9.safe.there, S x9.safe.s] (hst.pull 1) rfl rfl (by kernel_rfl) fun w hst => ?_
          refine wpG_done (by kernel_rfl) ?_ _
          refine C_keepQ [(0, pt p1 0), (1, S x6), (7, .pointer a2), (8, pt p8 0)] rfl fun b => ?_
          refine th_n ?_
          obtain rfl := Option.some.inj hr
          have hst := ((((((hst.pull 5).pull 5).pull 5).pull 5).pull 4).cut 5 1)
          exact ⟨p8, (kpX [(0, pt p1 0), (1, S x6), (7, .pointer a2), (8, pt p8 0)] rfl hst)⟩
      · obtain ⟨q2, hc2, hst⟩ := dsl_cells hst (show gt [x9] 0 = some x9 from rfl)
        have hst := hst.drop
        refine O_run (v := .agg #[.bool x9.safe.there, S x9.safe.s]) (w' := w) (R_loadAt (off := ao a2 + (0 : Int).toNat * 4) (j := 2) hc2 rfl rfl) rfl rfl ?_
        refine A_all [0, 6] (by kernel_rfl) ⟨⟨_, rfl, rfl, ?_⟩, ⟨_, rfl, rfl, ?_⟩, trivial⟩
        · refine O_run (v := .agg #[.bool x7.there, S x7.s]) (w' := w) (R_load (hst.pull 4) rfl rfl) rfl rfl ?_
          refine A_take (i := 5) (v := .agg #[.bool x7.there, S x7.s, .bool x9.safe.there, S x9.safe.s]) rfl (by kernel_rfl) (fun _ _ _ h => h) rfl rfl rfl (fun _ => R_pure (by kernel_rfl)) ?_
          refine A_all [6] (by kernel_rfl) ⟨⟨_, rfl, rfl, ?_⟩, trivial⟩
          refine O_alloc (i := Try.t95) (z := .agg #[.bool false, S ([]), .bool false, S ([])]) [.bool false, S ([]), .bool false, S ([])] hst rfl rfl rfl rfl fun p8 w hst => ?_
          refine A_all [7] (by kernel_rfl) ⟨⟨_, rfl, rfl, ?_⟩, trivial⟩
          refine O_store [.bool x7.there, S x7.s, .bool x9.safe.there, S x9.safe.s] hst rfl rfl (by kernel_rfl) fun w hst => ?_
          refine wpG_done (by kernel_rfl) ?_ _
          refine C_keepQ [(0, pt p1 0), (1, S x6), (7, .pointer a2), (8, pt p8 0)] rfl fun b => ?_
          refine th_n ?_
          obtain rfl := Option.some.inj hr
          have hst := ((((((hst.pull 5).pull 5).pull 5).pull 5).pull 4).cut 5 1)
          exact ⟨p8, (kpX [(0, pt p1 0), (1, S x6), (7, .pointer a2), (8, pt p8 0)] rfl hst)⟩
        · refine O_alloc (i := Try.t95) (z := .agg #[.bool false, S ([]), .bool false, S ([])]) [.bool false, S ([]), .bool false, S ([])] hst rfl rfl rfl rfl fun p8 w hst => ?_
          refine A_all [0] (by kernel_rfl) ⟨⟨_, rfl, rfl, ?_⟩, trivial⟩
          refine O_run (v := .agg #[.bool x7.there, S x7.s]) (w' := w) (R_load (hst.pull 5) rfl rfl) rfl rfl ?_
          refine A_take (i := 5) (v := .agg #[.bool x7.there, S x7.s, .bool x9.safe.there, S x9.safe.s]) rfl (by kernel_rfl) (fun _ _ _ h => h) rfl rfl rfl (fun _ => R_pure (by kernel_rfl)) ?_
          refine A_all [7] (by kernel_rfl) ⟨⟨_, rfl, rfl, ?_⟩, trivial⟩
          refine O_store [.bool x7.there, S x7.s, .bool x9.safe.there, S x9.safe.s] hst rfl rfl (by kernel_rfl) fun w hst => ?_
          refine wpG_done (by kernel_rfl) ?_ _
          refine C_keepQ [(0, pt p1 0), (1, S x6), (7, .pointer a2), (8, pt p8 0)] rfl fun b => ?_
          refine th_n ?_
          obtain rfl := Option.some.inj hr
          have hst := ((((((hst.pull 5).pull 5).pull 5).pull 5).pull 4).cut 5 1)
          exact ⟨p8, (kpX [(0, pt p1 0), (1, S x6), (7, .pointer a2), (8, pt p8 0)] rfl hst)⟩
      · refine O_alloc (i := Try.t95) (z := .agg #[.bool false, S ([]), .bool false, S ([])]) [.bool false, S ([]), .bool false, S ([])] hst rfl rfl rfl rfl fun p8 w hst => ?_
        refine A_all [0, 4] (by kernel_rfl) ⟨⟨_, rfl, rfl, ?_⟩, ⟨_, rfl, rfl, ?_⟩, trivial⟩
        · refine O_run (v := .agg #[.bool x7.there, S x7.s]) (w' := w) (R_load (hst.pull 5) rfl rfl) rfl rfl ?_
          refine A_all [4] (by kernel_rfl) ⟨⟨_, rfl, rfl, ?_⟩, trivial⟩
          obtain ⟨q2, hc2, hst⟩ := dsl_cells (hst.pull 1) (show gt [x9] 0 = some x9 from rfl)
          have hst := hst.drop
          refine O_run (v := .agg #[.bool x9.safe.there, S x9.safe.s]) (w' := w) (R_loadAt (off := ao a2 + (0 : Int).toNat * 4) (j := 2) hc2 rfl rfl) rfl rfl ?_
          refine A_take (i := 5) (v := .agg #[.bool x7.there, S x7.s, .bool x9.safe.there, S x9.safe.s]) rfl (by kernel_rfl) (fun _ _ _ h => h) rfl rfl rfl (fun _ => R_pure (by kernel_rfl)) ?_
          refine A_all [7] (by kernel_rfl) ⟨⟨_, rfl, rfl, ?_⟩, trivial⟩
          refine O_store [.bool x7.there, S x7.s, .bool x9.safe.there, S x9.safe.s] (hst.pull 1) rfl rfl (by kernel_rfl) fun w hst => ?_
          refine wpG_done (by kernel_rfl) ?_ _
          refine C_keepQ [(0, pt p1 0), (1, S x6), (7, .pointer a2), (8, pt p8 0)] rfl fun b => ?_
          refine th_n ?_
          obtain rfl := Option.some.inj hr
          have hst := ((((((hst.pull 5).pull 5).pull 5).pull 5).pull 4).cut 5 1)
          exact ⟨p8, (kpX [(0, pt p1 0), (1, S x6), (7, .pointer a2), (8, pt p8 0)] rfl hst)⟩
        · obtain ⟨q2, hc2, hst⟩ := dsl_cells (hst.pull 1) (show gt [x9] 0 = some x9 from rfl)
          have hst := hst.drop
          refine O_run (v := .agg #[.bool x9.safe.there, S x9.safe.s]) (w' := w) (R_loadAt (off := ao a2 + (0 : Int).toNat * 4) (j := 2) hc2 rfl rfl) rfl rfl ?_
          refine A_all [0] (by kernel_rfl) ⟨⟨_, rfl, rfl, ?_⟩, trivial⟩
          refine O_run (v := .agg #[.bool x7.there, S x7.s]) (w' := w) (R_load (hst.pull 5) rfl rfl) rfl rfl ?_
          refine A_take (i := 5) (v := .agg #[.bool x7.there, S x7.s, .bool x9.safe.there, S x9.safe.s]) rfl (by kernel_rfl) (fun _ _ _ h => h) rfl rfl rfl (fun _ => R_pure (by kernel_rfl)) ?_
          refine A_all [7] (by kernel_rfl) ⟨⟨_, rfl, rfl, ?_⟩, trivial⟩
          refine O_store [.bool x7.there, S x7.s, .bool x9.safe.there, S x9.safe.s] (hst.pull 1) rfl rfl (by kernel_rfl) fun w hst => ?_
          refine wpG_done (by kernel_rfl) ?_ _
          refine C_keepQ [(0, pt p1 0), (1, S x6), (7, .pointer a2), (8, pt p8 0)] rfl fun b => ?_
          refine th_n ?_
          obtain rfl := Option.some.inj hr
          have hst := ((((((hst.pull 5).pull 5).pull 5).pull 5).pull 4).cut 5 1)
          exact ⟨p8, (kpX [(0, pt p1 0), (1, S x6), (7, .pointer a2), (8, pt p8 0)] rfl hst)⟩
    · refine O_alloc (i := Try.t95) (z := .agg #[.bool false, S ([]), .bool false, S ([])]) [.bool false, S ([]), .bool false, S ([])] hst rfl rfl rfl rfl fun p8 w hst => ?_
      refine A_all [0, 2] (by kernel_rfl) ⟨⟨_, rfl, rfl, ?_⟩, ⟨_, rfl, rfl, ?_⟩, trivial⟩
      · refine O_run (v := .agg #[.bool x7.there, S x7.s]) (w' := w) (R_load (hst.pull 4) rfl rfl) rfl rfl ?_
        refine A_all [2] (by kernel_rfl) ⟨⟨_, rfl, rfl, ?_⟩, trivial⟩
        obtain ⟨x9, hx2, hr⟩ := bnd hr
        have hst := dpt_pick hx2 (hst.pull 1)
        refine O_run (v := pt (ab a2) (ao a2 + (0 : Int).toNat * 4)) (w' := w) (R_nilc hst rfl) rfl rfl ?_
        refine A_take (i := 3) (v := pt (ab a2) (ao a2 + (0 : Int).toNat * 4 + 2)) rfl (by kernel_rfl) (fun _ _ _ h => h) rfl rfl rfl (fun _ => R_pure (by kernel_rfl)) ?_
        refine A_all [4] (by kernel_rfl) ⟨⟨_, rfl, rfl, ?_⟩, trivial⟩
        obtain ⟨q2, hc2, hst⟩ := dsl_cells hst (show gt [x9] 0 = some x9 from rfl)
        have hst := hst.drop
        refine O_run (v := .agg #[.bool x9.safe.there, S x9.safe.s]) (w' := w) (R_loadAt (off := ao a2 + (0 : Int).toNat * 4) (j := 2) hc2 rfl rfl) rfl rfl ?_
        refine A_take (i := 5) (v := .agg #[.bool x7.there, S x7.s, .bool x9.safe.there, S x9.safe.s]) rfl (by kernel_rfl) (fun _ _ _ h => h) rfl rfl rfl (fun _ => R_pure (by kernel_rfl)) ?_
        refine A_all [7] (by kernel_rfl) ⟨⟨_, rfl, rfl, ?_⟩, trivial⟩
        refine O_store [.bool x7.there, S x7.s, .bool x9.safe.there, S x9.safe.s] (hst.pull 2) rfl rfl (by kernel_rfl) fun w hst => ?_
        refine wpG_done (by kernel_rfl) ?_ _
        refine C_keepQ [(0, pt p1 0), (1, S x6), (7, .pointer a2), (8, pt p8 0)] rfl fun b => ?_
        refine th_n ?_
        obtain rfl := Option.some.inj hr
        have hst := ((((((hst.pull 5).pull 5).pull 5).pull 5).pull 4).cut 5 1)
        exact ⟨p8, (kpX [(0, pt p1 0), (1, S x6), (7, .pointer a2), (8, pt p8 0)] rfl hst)⟩
      · obtain ⟨x9, hx2, hr⟩ := bnd hr
        have hst := dpt_pick hx2 (hst.pull 1)
        refine O_run (v := pt (ab a2) (ao a2 + (0 : Int).toNat * 4)) (w' := w) (R_nilc hst rfl) rfl rfl ?_
        refine A_take (i := 3) (v := pt (ab a2) (ao a2 + (0 : Int).toNat * 4 + 2)) rfl (by kernel_rfl) (fun _ _ _ h => h) rfl rfl rfl (fun _ => R_pure (by kernel_rfl)) ?_
        refine A_all [0, 4] (by kernel_rfl) ⟨⟨_, rfl, rfl, ?_⟩, ⟨_, rfl, rfl, ?_⟩, trivial⟩
        · refine O_run (v := .agg #[.bool x7.there, S x7.s]) (w' := w) (R_load (hst.pull 5) rfl rfl) rfl rfl ?_
          refine A_all [4] (by kernel_rfl) ⟨⟨_, rfl, rfl, ?_⟩, trivial⟩
          obtain ⟨q2, hc2, hst⟩ := dsl_cells hst (show gt [x9] 0 = some x9 from rfl)
          have hst := hst.drop
          refine O_run (v := .agg #[.bool x9.safe.there, S x9.safe.s]) (w' := w) (R_loadAt (off := ao a2 + (0 : Int).toNat * 4) (j := 2) hc2 rfl rfl) rfl rfl ?_
          refine A_take (i := 5) (v := .agg #[.bool x7.there, S x7.s, .bool x9.safe.there, S x9.safe.s]) rfl (by kernel_rfl) (fun _ _ _ h => h) rfl rfl rfl (fun _ => R_pure (by kernel_rfl)) ?_
          refine A_all [7] (by kernel_rfl) ⟨⟨_, rfl, rfl, ?_⟩, trivial⟩
          refine O_store [.bool x7.there, S x7.s, .bool x9.safe.there, S x9.safe.s] (hst.pull 2) rfl rfl (by kernel_rfl) fun w hst => ?_
          refine wpG_done (by kernel_rfl) ?_ _
          refine C_keepQ [(0, pt p1 0), (1, S x6), (7, .pointer a2), (8, pt p8 0)] rfl fun b => ?_
          refine th_n ?_
          obtain rfl := Option.some.inj hr
          have hst := ((((((hst.pull 5).pull 5).pull 5).pull 5).pull 4).cut 5 1)
          exact ⟨p8, (kpX [(0, pt p1 0), (1, S x6), (7, .pointer a2), (8, pt p8 0)] rfl hst)⟩
        · obtain ⟨q2, hc2, hst⟩ := dsl_cells hst (show gt [x9] 0 = some x9 from rfl)
          have hst := hst.drop
          refine O_run (v := .agg #[.bool x9.safe.there, S x9.safe.s]) (w' := w) (R_loadAt (off := ao a2 + (0 : Int).toNat * 4) (j := 2) hc2 rfl rfl) rfl rfl ?_
          refine A_all [0] (by kernel_rfl) ⟨⟨_, rfl, rfl, ?_⟩, trivial⟩
          refine O_run (v := .agg #[.bool x7.there, S x7.s]) (w' := w) (R_load (hst.pull 5) rfl rfl) rfl rfl ?_
          refine A_take (i := 5) (v := .agg #[.bool x7.there, S x7.s, .bool x9.safe.there, S x9.safe.s]) rfl (by kernel_rfl) (fun _ _ _ h => h) rfl rfl rfl (fun _ => R_pure (by kernel_rfl)) ?_
          refine A_all [7] (by kernel_rfl) ⟨⟨_, rfl, rfl, ?_⟩, trivial⟩
          refine O_store [.bool x7.there, S x7.s, .bool x9.safe.there, S x9.safe.s] (hst.pull 2) rfl rfl (by kernel_rfl) fun w hst => ?_
          refine wpG_done (by kernel_rfl) ?_ _
          refine C_keepQ [(0, pt p1 0), (1, S x6), (7, .pointer a2), (8, pt p8 0)] rfl fun b => ?_
          refine th_n ?_
          obtain rfl := Option.some.inj hr
          have hst := ((((((hst.pull 5).pull 5).pull 5).pull 5).pull 4).cut 5 1)
          exact ⟨p8, (kpX [(0, pt p1 0), (1, S x6), (7, .pointer a2), (8, pt p8 0)] rfl hst)⟩
def platter_Disk_Write (k : Nat) (x1 : Int) (x2 : Int) (x3 : Bool) (x4 : Int) (x5 : (List ((List UInt8) × (Option T_platter_file)))) (x6 : (List UInt8)) (x7 : (List UInt8)) : Option (Int × Int × Int × (List ((List UInt8) × (Option T_platter_file)))) := (Option.bind (meter_Luck_Try k x1 x2 x3 x4 x5) fun y3 => (if (y3.1 != 0) = true then some (y3.1, x2, y3.2, x5) else (if (sEq x6 ([])) = true then some ((1 : Int), x2, y3.2, x5) else (Option.bind (platter_Disk_put k x1 x2 x3 y3.2 x5 x6 (T_platter_text.mk true x7)) fun y4 => some (y4.1, y4.2.1, y3.2, y4.2.2)))))
set_option maxRecDepth 100000 in
set_option maxHeartbeats 4000000 in
theorem platter_Disk_Write_ok {G w : World} {F : List HP} {R : Ending → World → Prop} (k : Nat) (x1 : Int) (x2 : Int) (x3 : Bool) (x4 : Int) (x5 : (List ((List UInt8) × (Option T_platter_file)))) (x6 : (List UInt8)) (x7 : (List UInt8)) (p1 : Nat) (p2 : Nat) (r : (Int × Int × Int × (List ((List UInt8) × (Option T_platter_file))))) (hst : St G w (blk p1 (cl [I x1, I x2, .bool x3, I x4, .map (some p2)] 42) :: mpr S (rPt r_T_platter_file) p2 x5 :: F)) (hr : platter_Disk_Write k x1 x2 x3 x4 x5 x6 x7 = some r)
    (hR : ∀ w', St G w' (blk p1 (cl [I x1, I r.2.1, .bool x3, I r.2.2.1, .map (some p2)] 42) :: mpr S (rPt r_T_platter_file) p2 r.2.2.2 :: F) → R (.returned (I r.1)) w') :
    Calls Try.prog 16 #[pt p1 0, S x6, S x7] w R := by
  unfold platter_Disk_Write at hr
  refine enter Try.func16 rfl [(0, pt p1 0), (1, S x6), (2, S x7)] rfl rfl fun b => ?_
  refine wp_seq ?_
  refine wp_reg ?_
  refine L_pure 1 [(0, pt p1 0), (1, S x6), (2, S x7)] (by kernel_rfl) fun b => ?_
  refine wpL_nil ?_
  refine th_n ?_
  refine wp_seq ?_
  refine wp_seq ?_
  refine wp_reg ?_
  refine L_pure 3 [(0, pt p1 0), (1, S x6), (2, S x7), (10, pt p1 2)] (by kernel_rfl) fun b => ?_
  obtain ⟨y3, hy3, hr⟩ := bnd hr
  refine L_op rfl (O_call (vs := #[pt p1 2]) Try.call39 (by kernel_rfl) (meter_Luck_Try_ok k x1 x2 x3 x4 x5 p1 p2 y3 ((hst.pull 1).pull 1) hy3 fun w hst => ?_))
  refine CK_ret rfl ?_
  refine L_pure 1 [(0, pt p1 0), (1, S x6), (2, S x7), (7, I y3.1)] (by kernel_rfl) fun b => ?_
  refine wpL_nil ?_
  refine th_n ?_
  refine wp_seq ?_
  refine wp_reg ?_
  refine L_pure 2 [(0, pt p1 0), (1, S x6), (2, S x7), (7, I y3.1), (13, .bool (y3.1 != 0))] (by kernel_rfl) fun b => ?_
  refine wpL_nil ?_
  refine th_n ?_
  refine wp_cond_mkF (t := (y3.1 != 0)) rfl (fun h => ?_) (fun h => ?_)
  · have hr := (if_pos h).symm.trans hr
    refine wp_seq ?_
    refine wp_reg ?_
    refine L_pure 2 [(6, I y3.1)] (by kernel_rfl) fun b => ?_
    refine wpL_nil ?_
    refine th_n ?_
    refine wp_ret ?_
    refine th_r ?_
    refine ret1 rfl rfl ?_
    obtain rfl := Option.some.inj hr
    have hst := ((hst.pull 1).pull 1)
    exact hR _ hst
  · have hr := (if_neg (by rw [h]; exact Bool.false_ne_true)).symm.trans hr
    refine wp_skip ?_
    refine th_n ?_
    refine wp_seq ?_
    refine wp_seq ?_
    refine wp_reg ?_
    refine L_pure 2 [(0, pt p1 0), (1, S x6), (2, S x7), (16, .bool (sEq x6 ([])))] (by kernel_rfl) fun b => ?_
    refine wpL_nil ?_
    refine th_n ?_
    refine wp_cond_mkF (t := (sEq x6 ([]))) rfl (fun h => ?_) (fun h => ?_)
    · have hr := (if_pos h).symm.trans hr
      refine wp_seq ?_
      refine wp_reg ?_
      refine L_pure 1 [(6, I 1)] (by kernel_rfl) fun b => ?_
      refine wpL_nil ?_
      refine th_n ?_
      refine wp_ret ?_
      refine th_r ?_
      refine ret1 rfl rfl ?_
      obtain rfl := Option.some.inj hr
      have hst := ((hst.pull 1).pull 1)
      exact hR _ hst
    · have hr := (if_neg (by rw [h]; exact Bool.false_ne_true)).symm.trans hr
      refine wp_skip ?_
      refine th_n ?_
      refine wp_seq ?_
      refine wp_reg ?_
      refine L_pure 4 [(17, pt p1 0), (18, S x6), (20, .agg #[.bool true, S x7])] (by kernel_rfl) fun b => ?_
      obtain ⟨y4, hy4, hr⟩ := bnd hr
      refine L_op rfl (O_call (vs := #[pt p1 0, S x6, .agg #[.bool true, S x7]]) Try.call40 (by kernel_rfl) (platter_Disk_put_ok k x1 x2 x3 y3.2 x5 x6 (T_platter_text.mk true x7) p1 p2 y4 ((hst.pull 1).pull 1) hy4 fun w hst => ?_))
      refine CK_ret rfl ?_
      refine L_pure 1 [(6, I y4.1)] (by kernel_rfl) fun b => ?_
      refine wpL_nil ?_
      refine th_n ?_
      refine wp_ret ?_
      refine ret1 rfl rfl ?_
      obtain rfl := Option.some.inj hr
      have hst := ((hst.pull 1).pull 1)
      exact hR _ hst
def maps_Keys (_k : Nat) (_x1 : (List ((List UInt8) × (Option T_platter_file)))) : Option Unit := some ()
open Go.Sort Go.Maps Go.Shelf in
theorem maps_Keys_ok {G w : World} {F : List HP} {R : Ending → World → Prop} (k : Nat) (x1 : (List ((List UInt8) × (Option T_platter_file)))) (p1 : Nat) (r : Unit) (hst : St G w (mpr S (rPt r_T_platter_file) p1 x1 :: F)) (_hr : maps_Keys k x1 = some r)
    (hR : ∀ (p2 : Nat) w', St G w' (blk p2 (cl [.map (some p1)] 40) :: mpr S (rPt r_T_platter_file) p1 x1 :: F) → R (.returned (.func (.func 63) #[] #[pt p2 0])) w') : Calls Try.prog 42 #[.map (some p1)] w R := by
  refine (callsIn_wide.1 (AnyZ.keys_in Try.keys42 Fence.wide 5 trivial rfl (some p1) w)).mono ?_
  rintro e w' ⟨rfl, rfl⟩
  exact hR w.heap.size _ (hst.alloc _)
open Go.Sort Go.Maps Go.Shelf in
theorem SK41 : SKC Try.prog 41 63 9 := by
  intro Bm b nn D0 R W hBm hm hown hmax hbytes
  have hsorts : AnyZ.SortsIn Try.prog Try.sorted41_ren Fence.wide (5 - 1) := ⟨fun blk off cap ss W hH hblk hsz => callsIn_wide.2 (AnyM.slices_Sort_string Try.sort62 blk off cap ss W hH hblk hsz), fun p cap W => callsIn_wide.2 (AnyM.slices_Sort_string_none Try.sort62 p cap W)⟩
  have hseq : SeqGives Fence.wide 2 Try.prog 63 #[.pointer (some ⟨Bm, 0, none⟩)] encStr (fun ss => ss.Perm (strKeys D0)) (Maps.size D0) W :=
    AnyZ.keys_gives (ρ := Try.keys42_ren) { Try.keys42 with } Fence.wide _ trivial rfl (by omega) Bm b nn D0 _ hBm hm hown
  exact callsIn_wide.1 (AnyZ.sorted_in Try.sorted41 Fence.wide 5 trivial trivial trivial trivial rfl (by omega) hsorts (enters_of Try.func62 (by kernel_rfl) rfl) 63 #[.pointer (some ⟨Bm, 0, none⟩)] trivial (enters_of Try.func63 (by kernel_rfl) rfl) _ _ hmax hbytes _ hseq)
def slices_Sorted (_k : Nat) (x1 : (List ((List UInt8) × (Option T_platter_file)))) : Option (List (List UInt8)) := if skOK x1 = true then some (skeys x1) else none
theorem slices_Sorted_ok {G w : World} {F : List HP} {R : Ending → World → Prop} (k : Nat) (x1 : (List ((List UInt8) × (Option T_platter_file)))) (p1 p2 : Nat) (r : List (List UInt8)) (hst : St G w (blk p1 (cl [.map (some p2)] 40) :: mpr S (rPt r_T_platter_file) p2 x1 :: F)) (hr : slices_Sorted k x1 = some r)
    (hR : ∀ (a2 : Option Addr) (c2 : Nat) w', St G w' (osl rS 9 a2 c2 r :: blk p1 (cl [.map (some p2)] 40) :: mpr S (rPt r_T_platter_file) p2 x1 :: F) → R (.returned (.slice a2 r.length c2)) w') :
    Calls Try.prog 41 #[.func (.func 63) #[] #[pt p1 0]] w R := by
  unfold slices_Sorted at hr
  obtain ⟨h0, hr⟩ := chk hr
  obtain rfl := Option.some.inj hr
  exact C_sorted SK41 Try.underlying9 h0 hst hR
def platter_Disk_settle (k : Nat) (x1 : Int) (x2 : Int) (x3 : Bool) (x4 : Int) (x5 : (List ((List UInt8) × (Option T_platter_file)))) (x6 : (List UInt8)) (x7 : T_platter_text) : Option (Int × (List ((List UInt8) × (Option T_platter_file)))) := (if (!((mget x5 x6).isSome)) = true then some (x2, x5) else (Option.bind (platter_file_weight_2 k ((mget x5 x6).getD none)) fun y15 => (Option.bind (meter_Meter_Give k x1 x2 x3 x4 x5 (IntKind.i64.wrap (y15 - (x7.s.length : Int)))) fun y16 => (if x7.there = true then some (y16.2, (mput x5 x6 (some (T_platter_file.mk x7 x7)))) else some (y16.2, (mdel x5 x6))))))
set_option maxRecDepth 100000 in
set_option maxHeartbeats 4000000 in
theorem platter_Disk_settle_ok {G w : World} {F : List HP} {R : Ending → World → Prop} (k : Nat) (x1 : Int) (x2 : Int) (x3 : Bool) (x4 : Int) (x5 : (List ((List UInt8) × (Option T_platter_file)))) (x6 : (List UInt8)) (x7 : T_platter_text) (p1 : Nat) (p2 : Nat) (r : (Int × (List ((List UInt8) × (Option T_platter_file))))) (hst : St G w (blk p1 (cl [I x1, I x2, .bool x3, I x4, .map (some p2)] 42) :: mpr S (rPt r_T_platter_file) p2 x5 :: F)) (hr : platter_Disk_settle k x1 x2 x3 x4 x5 x6 x7 = some r)
    (hR : ∀ w', St G w' (blk p1 (cl [I x1, I r.1, .bool x3, I x4, .map (some p2)] 42) :: mpr S (rPt r_T_platter_file) p2 r.2 :: F) → R (.returned (.tuple #[])) w') :
    Calls Try.prog 44 #[pt p1 0, S x6, .agg #[.bool x7.there, S x7.s]] w R := by
  unfold platter_Disk_settle at hr
  refine enter Try.func44 rfl [(0, pt p1 0), (1, S x6), (2, .agg #[.bool x7.there, S x7.s])] rfl rfl fun b => ?_
  refine wp_seq ?_
  refine wp_reg ?_
  refine L_op rfl (O_box [.bool x7.there, S x7.s] hst rfl rfl fun p8 w hst => ?_)
  refine wpL_nil ?_
  refine th_n ?_
  refine wp_seq ?_
  refine wp_reg ?_
  refine L_pure 3 [(0, pt p1 0), (1, S x6), (5, pt p8 0), (11, pt p1 4)] (by kernel_rfl) fun b => ?_
  refine L_op rfl (O_run (v := .map (some p2)) (w' := w) (R_load (hst.pull 1) rfl rfl) rfl rfl ?_)
  refine L_pure 1 [(0, pt p1 0), (1, S x6), (5, pt p8 0), (12, .map (some p2)), (13, S x6)] (by kernel_rfl) fun b => ?_
  refine L_op rfl (O_lookP2 M40 x6 (hst.pull 2) rfl rfl rfl fun a2 hst => ?_)
  refine L_pure 5 [(0, pt p1 0), (1, S x6), (5, pt p8 0), (6, .pointer a2), (7, .bool ((mget x5 x6).isSome))] (by kernel_rfl) fun b => ?_
  refine wpL_nil ?_
  refine th_n ?_
  refine wp_seq ?_
  refine wp_seq ?_
  refine wp_reg ?_
  refine L_pure 2 [(0, pt p1 0), (1, S x6), (5, pt p8 0), (6, .pointer a2), (18, .bool (!((mget x5 x6).isSome)))] (by kernel_rfl) fun b => ?_
  refine wpL_nil ?_
  refine th_n ?_
  refine wp_cond_mkF (t := (!((mget x5 x6).isSome))) rfl (fun h => ?_) (fun h => ?_)
  · have hr := (if_pos h).symm.trans hr
    refine wp_ret ?_
    refine th_r ?_
    refine ret0 rfl ?_
    obtain rfl := Option.some.inj hr
    have hst := (((hst.pull 1).pull 3).cut 2 2)
    exact hR _ hst
  · have hr := (if_neg (by rw [h]; exact Bool.false_ne_true)).symm.trans hr
    refine wp_skip ?_
    refine th_n ?_
    refine wp_seq ?_
    refine wp_regG (SP 9 (fun w => St G w (dpt r_T_platter_file a2 ((mget x5 x6).getD none) :: mpr S (rPt r_T_platter_file) p2 x5 :: blk p8 (cl [.bool x7.there, S x7.s] 86) :: blk p1 (cl [I x1, I x2, .bool x3, I x4, .map (some p2)] 42) :: F))) rfl ?_
    have hst := hst.draw (n := w.drawn + 1)
    generalize { w with drawn := w.drawn + 1 } = w at hst ⊢
    refine P_pure (i := 0) (v := pt p1 0) 9 rfl rfl (by kernel_rfl) (fun _ _ _ h => h) rfl rfl rfl (by kernel_rfl) (.inr ((((hst.pull 3).pull 3).pull 3).pull 3)) ?_
    refine P_pure (i := 1) (v := pt p1 0) 9 rfl rfl (by kernel_rfl) (fun _ _ _ h => h) rfl rfl rfl (by kernel_rfl) (.inr ((((hst.pull 3).pull 3).pull 3).pull 3)) ?_
    refine P_pure (i := 2) (v := pt p1 0) 9 rfl rfl (by kernel_rfl) (fun _ _ _ h => h) rfl rfl rfl (by kernel_rfl) (.inr ((((hst.pull 3).pull 3).pull 3).pull 3)) ?_
    refine P_pure (i := 3) (v := .pointer a2) 9 rfl rfl (by kernel_rfl) (fun _ _ _ h => h) rfl rfl rfl (by kernel_rfl) (.inr ((((hst.pull 3).pull 3).pull 3).pull 3)) ?_
    refine P_pure (i := 5) (v := pt p8 1) 9 rfl rfl (by kernel_rfl) (fun _ _ _ h => h) rfl rfl rfl (by kernel_rfl) (.inr ((((hst.pull 3).pull 3).pull 3).pull 3)) ?_
    refine P_take (i := 6) (v := S x7.s) 9 [8, 7, 6] (by kernel_rfl) rfl (by kernel_rfl) (fun _ _ _ h => h) rfl rfl rfl (fun w hst => R_load (hst.pull 2) rfl rfl) (((((hst.pull 3).pull 3).pull 3).pull 3)) ?_
    refine P_pure (i := 7) (v := I (x7.s.length : Int)) 9 rfl rfl (by kernel_rfl) (fun _ _ _ h => h) rfl rfl rfl (by kernel_rfl) (.inr ((((hst.pull 3).pull 3).pull 3).pull 3)) ?_
    obtain ⟨y15, hy15, hr⟩ := bnd hr
    have hst := hst.dup
    refine P_one (i := 4) 9 (by kernel_rfl) rfl rfl (O_call (vs := #[.pointer a2]) Try.call58 (by kernel_rfl) (platter_file_weight_2_ok k ((mget x5 x6).getD none) a2 y15 hst hy15 fun w hst => ?_))
    refine CK_ret rfl ?_
    refine ⟨(((((hst.pull 4).pull 4).pull 4).pull 3).cut 4 1), ?_⟩
    refine P_pure (i := 8) (v := I (IntKind.i64.wrap (y15 - (x7.s.length : Int)))) 9 rfl rfl (by kernel_rfl) (fun _ _ _ h => h) rfl rfl rfl (by kernel_rfl) (.inr (((((hst.pull 4).pull 4).pull 4).pull 3).cut 4 1)) ?_
    obtain ⟨y16, hy16, hr⟩ := bnd hr
    refine P_act (i := 9) 9 (by kernel_rfl) rfl rfl (by kernel_rfl) (O_call (vs := #[pt p1 0, I (IntKind.i64.wrap (y15 - (x7.s.length : Int)))]) Try.call60 (by kernel_rfl) (meter_Meter_Give_ok k x1 x2 x3 x4 x5 (IntKind.i64.wrap (y15 - (x7.s.length : Int))) p1 p2 y16 ((hst.pull 2).pull 4) hy16 fun w hst => ?_))
    refine CK_ret rfl ?_
    refine wpG_done (by kernel_rfl) ?_ _
    refine C_keepQ [(0, pt p1 0), (1, S x6), (5, pt p8 0)] rfl fun b => ?_
    refine th_n ?_
    refine wp_seq ?_
    refine wp_reg ?_
    refine L_pure 1 [(0, pt p1 0), (1, S x6), (5, pt p8 0), (29, pt p8 0)] (by kernel_rfl) fun b => ?_
    refine L_op rfl (O_run (v := .bool x7.there) (w' := w) (R_load (hst.pull 4) rfl rfl) rfl rfl ?_)
    refine wpL_nil ?_
    refine th_n ?_
    refine wp_cond_mkF (t := x7.there) rfl (fun h => ?_) (fun h => ?_)
    · have hr := (if_pos h).symm.trans hr
      refine wp_regG (SP 9 (fun w => St G w (blk p1 (cl [I x1, I y16.2, .bool x3, I x4, .map (some p2)] 42) :: mpr S (rPt r_T_platter_file) p2 x5 :: dpt r_T_platter_file a2 ((mget x5 x6).getD none) :: dpt r_T_platter_file a2 ((mget x5 x6).getD none) :: blk p8 (cl [.bool x7.there, S x7.s] 86) :: F))) rfl ?_
      have hst := hst.draw (n := w.drawn + 1)
      generalize { w with drawn := w.drawn + 1 } = w at hst ⊢
      refine P_pure (i := 0) (v := pt p1 0) 9 rfl rfl (by kernel_rfl) (fun _ _ _ h => h) rfl rfl rfl (by kernel_rfl) (.inr (((((hst.pull 4).pull 4).pull 4).pull 4).pull 4)) ?_
      refine P_pure (i := 1) (v := pt p1 0) 9 rfl rfl (by kernel_rfl) (fun _ _ _ h => h) rfl rfl rfl (by kernel_rfl) (.inr (((((hst.pull 4).pull 4).pull 4).pull 4).pull 4)) ?_
      refine P_pure (i := 2) (v := pt p1 4) 9 rfl rfl (by kernel_rfl) (fun _ _ _ h => h) rfl rfl rfl (by kernel_rfl) (.inr (((((hst.pull 4).pull 4).pull 4).pull 4).pull 4)) ?_
      refine P_take (i := 3) (v := .map (some p2)) 9 [3] (by kernel_rfl) rfl (by kernel_rfl) (fun _ _ _ h => h) rfl rfl rfl (fun w hst => R_load hst rfl rfl) ((((((hst.pull 4).pull 4).pull 4).pull 4).pull 4)) ?_
      refine P_pure (i := 4) (v := S x6) 9 rfl rfl (by kernel_rfl) (fun _ _ _ h => h) rfl rfl rfl (by kernel_rfl) (.inr (((((hst.pull 4).pull 4).pull 4).pull 4).pull 4)) ?_
      refine P_take (i := 5) (v := .agg #[.bool x7.there, S x7.s]) 9 [5] (by kernel_rfl) rfl (by kernel_rfl) (fun _ _ _ h => h) rfl rfl rfl (fun w hst => R_load (hst.pull 4) rfl rfl) ((((((hst.pull 4).pull 4).pull 4).pull 4).pull 4)) ?_
      refine P_take (i := 6) (v := .agg #[.bool x7.there, S x7.s]) 9 [6] (by kernel_rfl) rfl (by kernel_rfl) (fun _ _ _ h => h) rfl rfl rfl (fun w hst => R_load (hst.pull 4) rfl rfl) ((((((hst.pull 4).pull 4).pull 4).pull 4).pull 4)) ?_
      refine P_pure (i := 7) (v := .agg #[.bool x7.there, S x7.s, .bool x7.there, S x7.s]) 9 rfl rfl (by kernel_rfl) (fun _ _ _ h => h) rfl rfl rfl (by kernel_rfl) (.inr (((((hst.pull 4).pull 4).pull 4).pull 4).pull 4)) ?_
      refine P_one (i := 8) 9 (by kernel_rfl) rfl rfl (O_box [.bool x7.there, S x7.s, .bool x7.there, S x7.s] hst rfl rfl fun p12 w hst => ?_)
      refine ⟨((((((hst.pull 5).pull 5).pull 5).pull 5).pull 5).cut 5 1), ?_⟩
      have hst := osl_of_blk0 (ecs := [[.bool x7.there, S x7.s, .bool x7.there, S x7.s]]) r_T_platter_file [(T_platter_file.mk x7 x7)] rfl (fun m => ⟨⟨(), rfl, trivial⟩, trivial⟩) rfl hst
      have hst := dpt_of (osl_freeze hst)
      refine P_act (i := 9) 9 (by kernel_rfl) rfl rfl (by kernel_rfl) (O_updP M40 x6 (hst.pull 2) rfl rfl rfl fun w hst => ?_)
      refine wpG_done (by kernel_rfl) ?_ _
      refine C_keepQ [] rfl fun b => ?_
      refine bp_normal ?_
      refine ret0 rfl ?_
      obtain rfl := Option.some.inj hr
      have hst := ((hst.pull 2).cut 2 4)
      exact hR _ hst
    · have hr := (if_neg (by rw [h]; exact Bool.false_ne_true)).symm.trans hr
      refine wp_reg ?_
      refine L_pure 3 [(1, S x6), (42, pt p1 4)] (by kernel_rfl) fun b => ?_
      refine L_op rfl (O_run (v := .map (some p2)) (w' := w) (R_load hst rfl rfl) rfl rfl ?_)
      refine L_pure 1 [(43, .map (some p2)), (44, S x6)] (by kernel_rfl) fun b => ?_
      refine L_op rfl (O_delP M40 x6 (hst.pull 1) rfl rfl fun w hst => ?_)
      refine wpL_nil ?_
      refine bp_normal ?_
      refine ret0 rfl ?_
      obtain rfl := Option.some.inj hr
      have hst := ((hst.pull 1).cut 2 3)
      exact hR _ hst
def platter_Disk_Sync_l1 (k : Nat) (x1 : Int) (x3 : Bool) (y8 : (Int × Int)) (y9 : ((List (List UInt8)))) : Nat → Int → (List ((List UInt8) × (Option T_platter_file))) → Int → Option ((List ((List UInt8) × (Option T_platter_file))) × Int)
  | 0, _, _, _ => none
  | j + 1, v10, v11, v12 => (if decide (v10 < (y9.length : Int)) = true then (Option.bind (gt y9 v10) fun x9 => (Option.bind (platter_Disk_get k x1 v12 x3 y8.2 v11 x9) fun y13 => (Option.bind y13 fun x10 => (Option.bind (platter_Disk_settle k x1 v12 x3 y8.2 v11 x9 x10.now) fun y14 => (platter_Disk_Sync_l1 k x1 x3 y8 y9 j (IntKind.i64.wrap (v10 + 1)) y14.2 y14.1))))) else some (v11, v12))
def platter_Disk_Sync (k : Nat) (x1 : Int) (x2 : Int) (x3 : Bool) (x4 : Int) (x5 : (List ((List UInt8) × (Option T_platter_file)))) (x6 : (List (List UInt8))) : Option (Int × Int × Int × (List ((List UInt8) × (Option T_platter_file)))) := (Option.bind (meter_Luck_Try k x1 x2 x3 x4 x5) fun y8 => (if (y8.1 != 0) = true then some (y8.1, x2, y8.2, x5) else (Option.bind (if ((x6.length : Int) == 0) = true then (Option.bind (maps_Keys k x5) fun _ => (Option.bind (slices_Sorted k x5) fun y11 => some (y11))) else some (x6)) fun y9 => (Option.bind (platter_Disk_Sync_l1 k x1 x3 y8 y9 k (0 : Int) x5 x2) fun y12 => some ((0 : Int), y12.2, y8.2, y12.1)))))
set_option maxRecDepth 100000 in
set_option maxHeartbeats 4000000 in
theorem platter_Disk_Sync_ok {G w : World} {F : List HP} {R : Ending → World → Prop} (k : Nat) (x1 : Int) (x2 : Int) (x3 : Bool) (x4 : Int) (x5 : (List ((List UInt8) × (Option T_platter_file)))) (x6 : (List (List UInt8))) (p1 : Nat) (p2 : Nat) (a1 : Option Addr) (c1 : Nat) (r : (Int × Int × Int × (List ((List UInt8) × (Option T_platter_file))))) (hst : St G w (blk p1 (cl [I x1, I x2, .bool x3, I x4, .map (some p2)] 42) :: mpr S (rPt r_T_platter_file) p2 x5 :: dsl rS a1 c1 x6 :: F)) (hr : platter_Disk_Sync k x1 x2 x3 x4 x5 x6 = some r)
    (hR : ∀ w', St G w' (blk p1 (cl [I x1, I r.2.1, .bool x3, I r.2.2.1, .map (some p2)] 42) :: mpr S (rPt r_T_platter_file) p2 r.2.2.2 :: dsl rS a1 c1 x6 :: F) → R (.returned (I r.1)) w') :
    Calls Try.prog 17 #[pt p1 0, .slice a1 x6.length c1] w R := by
  unfold platter_Disk_Sync at hr
  refine enter Try.func17 rfl [(0, pt p1 0), (1, .slice a1 x6.length c1)] rfl rfl fun b => ?_
  refine wp_seq ?_
  refine wp_reg ?_
  refine L_pure 1 [(0, pt p1 0), (1, .slice a1 x6.length c1)] (by kernel_rfl) fun b => ?_
  refine wpL_nil ?_
  refine th_n ?_
  refine wp_seq ?_
  refine wp_seq ?_
  refine wp_reg ?_
  refine L_pure 3 [(0, pt p1 0), (1, .slice a1 x6.length c1), (11, pt p1 2)] (by kernel_rfl) fun b => ?_
  obtain ⟨y8, hy8, hr⟩ := bnd hr
  refine L_op rfl (O_call (vs := #[pt p1 2]) Try.call39 (by kernel_rfl) (meter_Luck_Try_ok k x1 x2 x3 x4 x5 p1 p2 y8 ((hst.pull 1).pull 1) hy8 fun w hst => ?_))
  refine CK_ret rfl ?_
  refine L_pure 1 [(0, pt p1 0), (1, .slice a1 x6.length c1), (5, I y8.1)] (by kernel_rfl) fun b => ?_
  refine wpL_nil ?_
  refine th_n ?_
  refine wp_seq ?_
  refine wp_reg ?_
  refine L_pure 2 [(0, pt p1 0), (1, .slice a1 x6.length c1), (5, I y8.1), (14, .bool (y8.1 != 0))] (by kernel_rfl) fun b => ?_
  refine wpL_nil ?_
  refine th_n ?_
  refine wp_cond_mkF (t := (y8.1 != 0)) rfl (fun h => ?_) (fun h => ?_)
  · have hr := (if_pos h).symm.trans hr
    refine wp_seq ?_
    refine wp_reg ?_
    refine L_pure 2 [(4, I y8.1)] (by kernel_rfl) fun b => ?_
    refine wpL_nil ?_
    refine th_n ?_
    refine wp_ret ?_
    refine th_r ?_
    refine ret1 rfl rfl ?_
    obtain rfl := Option.some.inj hr
    have hst := (((hst.pull 2).pull 2).pull 2)
    exact hR _ hst
  · have hr := (if_neg (by rw [h]; exact Bool.false_ne_true)).symm.trans hr
    refine wp_skip ?_
    refine th_n ?_
    obtain ⟨y9, hy9, hk3⟩ := bnd hr
    clear hr
    refine wp_seq_cut (fun a w => ∃ (a5 : Option Addr) (c4 : Nat)(b : Nat → Value), a = mkF 42 b [(0, pt p1 0), (1, .slice a5 y9.length c4)] ∧ St G w (dsl rS a5 c4 y9 :: mpr S (rPt r_T_platter_file) p2 x5 :: blk p1 (cl [I x1, I x2, .bool x3, I y8.2, .map (some p2)] 42) :: dsl rS a1 c1 x6 :: F)) ?_ ?_
    · rintro _ w ⟨a5, c4, b, rfl, hst⟩
      have hr := hk3
      refine wp_seq ?_
      refine wp_seq ?_
      refine wp_reg ?_
      refine L_pure 3 [(0, pt p1 0), (25, .slice a5 y9.length c4), (26, I (y9.length : Int)), (27, I 0)] (by kernel_rfl) fun b => ?_
      refine wpL_nil ?_
      refine th_n ?_
      obtain ⟨y12, hy12, hk4⟩ := bnd hr
      clear hr
      refine Go.Hx.wp_cut (fun a w => ∃ (b : Nat → Value), a = mkF 42 b [] ∧ St G w (dsl rS a5 c4 y9 :: mpr S (rPt r_T_platter_file) p2 y12.1 :: blk p1 (cl [I x1, I y12.2, .bool x3, I y8.2, .map (some p2)] 42) :: dsl rS a1 c1 x6 :: F)) ?_ ?_
      · rintro _ w ⟨b, rfl, hst⟩
        have hr := hk4
        refine th_n ?_
        refine wp_seq ?_
        refine wp_reg ?_
        refine L_pure 1 [(4, I 0)] (by kernel_rfl) fun b => ?_
        refine wpL_nil ?_
        refine th_n ?_
        refine wp_ret ?_
        refine ret1 rfl rfl ?_
        obtain rfl := Option.some.inj hr
        have hst := ((((hst.pull 3).pull 2).pull 3).cut 3 1)
        exact hR _ hst
      · have hst := ((((hst.pull 3).pull 3).pull 3).pull 3)
        refine wp_block ?_
        refine wp_loop_fuel (fun j a w => ∃ (v10 : Int) (v11 : (List ((List UInt8) × (Option T_platter_file)))) (v12 : Int) (b : Nat → Value), a = mkF 42 b [(0, pt p1 0), (25, .slice a5 y9.length c4), (26, I (y9.length : Int)), (27, I v10)] ∧ St G w (dsl rS a5 c4 y9 :: mpr S (rPt r_T_platter_file) p2 v11 :: blk p1 (cl [I x1, I v12, .bool x3, I y8.2, .map (some p2)] 42) :: dsl rS a1 c1 x6 :: F) ∧ platter_Disk_Sync_l1 k x1 x3 y8 y9 j v10 v11 v12 = some y12) (k := k) ⟨(0 : Int), x5, x2, (kpX [(0, pt p1 0), (25, .slice a5 y9.length c4), (26, I (y9.length : Int)), (27, I 0)] rfl ⟨hst, hy12⟩)⟩ ?_ ?_
        · rintro _ _ ⟨_, _, _, _, _, _, h⟩
          rw [platter_Disk_Sync_l1] at h
          cases h
        · rintro j _ w ⟨v10, v11, v12, b, rfl, hst, hr⟩
          rw [platter_Disk_Sync_l1] at hr
          refine wp_seq ?_
          refine wp_reg ?_
          refine L_pure 1 [(0, pt p1 0), (25, .slice a5 y9.length c4), (26, I (y9.length : Int)), (27, I v10), (28, .bool (decide (v10 < (y9.length : Int))))] (by kernel_rfl) fun b => ?_
          refine wpL_nil ?_
          refine th_n ?_
          refine wp_seq ?_
          refine wp_cond_mkF (t := decide (v10 < (y9.length : Int))) rfl (fun h => ?_) (fun h => ?_)
          · have hr := (if_pos h).symm.trans hr
            refine wp_skip ?_
            refine th_n ?_
            refine wp_seq ?_
            refine wp_block ?_
            refine wp_seq ?_
            refine wp_reg ?_
            obtain ⟨x9, hx3, hr⟩ := bnd hr
            refine L_op rfl (O_run (v := pt (ab a5) (ao a5 + v10.toNat * 1)) (w' := w) (R_ia L34 rfl rfl (dsl_addr hst hx3) (gt_some hx3).1 (gt_some hx3).2.1) rfl rfl ?_)
            obtain ⟨q3, hc3, hst⟩ := dsl_cells hst hx3
            have hst := hst.drop
            refine L_op rfl (O_run (v := S x9) (w' := w) (R_loadAt (off := ao a5 + v10.toNat * 1) (j := 0) hc3 rfl rfl) rfl rfl ?_)
            refine L_pure 1 [(0, pt p1 0), (7, S x9), (25, .slice a5 y9.length c4), (26, I (y9.length : Int)), (27, I v10)] (by kernel_rfl) fun b => ?_
            refine wpL_nil ?_
            refine th_n ?_
            refine wp_seq ?_
            refine wp_reg ?_
            refine L_pure 2 [(0, pt p1 0), (7, S x9), (25, .slice a5 y9.length c4), (26, I (y9.length : Int)), (27, I v10), (31, pt p1 0), (32, S x9)] (by kernel_rfl) fun b => ?_
            obtain ⟨y13, hy13, hr⟩ := bnd hr
            refine L_op rfl (O_call (vs := #[pt p1 0, S x9]) Try.call43 (by kernel_rfl) (platter_Disk_get_ok k x1 v12 x3 y8.2 v11 x9 p1 p2 y13 ((hst.pull 1).pull 2) hy13 fun a7 w hst => ?_))
            refine CK_ret rfl ?_
            refine L_pure 1 [(0, pt p1 0), (7, S x9), (8, .pointer a7), (25, .slice a5 y9.length c4), (26, I (y9.length : Int)), (27, I v10)] (by kernel_rfl) fun b => ?_
            refine wpL_nil ?_
            refine th_n ?_
            refine wp_reg ?_
            refine L_pure 3 [(0, pt p1 0), (25, .slice a5 y9.length c4), (26, I (y9.length : Int)), (27, I v10), (34, pt p1 0), (35, S x9), (36, .pointer a7)] (by kernel_rfl) fun b => ?_
            obtain ⟨x10, hx4, hr⟩ := bnd hr
            have hst := dpt_pick hx4 hst
            refine L_op rfl (O_run (v := pt (ab a7) (ao a7 + (0 : Int).toNat * 4)) (w' := w) (R_nilc hst rfl) rfl rfl ?_)
            refine L_pure 1 [(0, pt p1 0), (25, .slice a5 y9.length c4), (26, I (y9.length : Int)), (27, I v10), (34, pt p1 0), (35, S x9), (38, pt (ab a7) (ao a7 + (0 : Int).toNat * 4))] (by kernel_rfl) fun b => ?_
            obtain ⟨q4, hc4, hst⟩ := dsl_cells hst (show gt [x10] 0 = some x10 from rfl)
            have hst := hst.drop
            refine L_op rfl (O_run (v := .agg #[.bool x10.now.there, S x10.now.s]) (w' := w) (R_loadAt (off := ao a7 + (0 : Int).toNat * 4) (j := 0) hc4 rfl rfl) rfl rfl ?_)
            obtain ⟨y14, hy14, hr⟩ := bnd hr
            refine L_op rfl (O_call (vs := #[pt p1 0, S x9, .agg #[.bool x10.now.there, S x10.now.s]]) Try.call44 (by kernel_rfl) (platter_Disk_settle_ok k x1 v12 x3 y8.2 v11 x9 x10.now p1 p2 y14 ((hst.pull 3).pull 3) hy14 fun w hst => ?_))
            refine CK_ret rfl ?_
            refine wpL_nil ?_
            refine ib_n (th_n ?_)
            refine wp_reg ?_
            refine L_pure 2 [(0, pt p1 0), (25, .slice a5 y9.length c4), (26, I (y9.length : Int)), (27, I (IntKind.i64.wrap (v10 + 1)))] (by kernel_rfl) fun b => ?_
            refine wpL_nil ?_
            refine th_n ?_
            have hst := (((((hst.pull 5).pull 1).pull 2).pull 5).cut 4 2)
            exact ⟨(IntKind.i64.wrap (v10 + 1)), y14.2, y14.1, (kpX [(0, pt p1 0), (25, .slice a5 y9.length c4), (26, I (y9.length : Int)), (27, I (IntKind.i64.wrap (v10 + 1)))] rfl ⟨hst, hr⟩)⟩
          · have hr := (if_neg (by rw [h]; exact Bool.false_ne_true)).symm.trans hr
            refine wp_exit ?_
            refine th_x (th_x (ib_x (th_n ?_)))
            obtain rfl := Option.some.inj hr
            have hst := ((((hst.pull 3).pull 3).pull 3).pull 3)
            exact (kpX [] rfl hst)
    · have hr := hy9
      refine wp_seq ?_
      refine wp_reg ?_
      refine L_pure 3 [(0, pt p1 0), (1, .slice a1 x6.length c1), (18, .bool ((x6.length : Int) == 0))] (by kernel_rfl) fun b => ?_
      refine wpL_nil ?_
      refine th_n ?_
      refine wp_cond_mkF (t := ((x6.length : Int) == 0)) rfl (fun h => ?_) (fun h => ?_)
      · have hr := (if_pos h).symm.trans hr
        refine wp_reg ?_
        refine L_pure 3 [(0, pt p1 0), (21, pt p1 4)] (by kernel_rfl) fun b => ?_
        refine L_op rfl (O_run (v := .map (some p2)) (w' := w) (R_load hst rfl rfl) rfl rfl ?_)
        obtain ⟨y10, hy10, hr⟩ := bnd hr
        refine L_op rfl (O_call (vs := #[.map (some p2)]) Try.call42 (by kernel_rfl) (maps_Keys_ok k x5 p2 y10 (hst.pull 1) hy10 fun p4 w hst => ?_))
        refine CK_ret rfl ?_
        obtain ⟨y11, hy11, hr⟩ := bnd hr
        refine L_op rfl (O_call (vs := #[.func (.func 63) #[] #[pt p4 0]]) Try.call41 (by kernel_rfl) (slices_Sorted_ok k x5 p4 p2 y11 ((hst.pull 1).pull 1) hy11 fun a6 c5 w hst => ?_))
        refine CK_ret rfl ?_
        refine L_pure 1 [(0, pt p1 0), (1, .slice a6 y11.length c5)] (by kernel_rfl) fun b => ?_
        refine wpL_nil ?_
        refine th_n ?_
        obtain rfl := Option.some.inj hr
        have hst := osl_freeze hst
        have hst := (((((hst.pull 4).pull 4).pull 4).pull 3).cut 4 1)
        exact ⟨a6, c5, (kpX [(0, pt p1 0), (1, .slice a6 y11.length c5)] rfl hst)⟩
      · have hr := (if_neg (by rw [h]; exact Bool.false_ne_true)).symm.trans hr
        refine wp_skip ?_
        refine th_n ?_
        obtain rfl := Option.some.inj hr
        have hst := (hst.pull 2).dup
        have hst := (((hst.pull 2).pull 3).pull 3)
        exact ⟨a1, c1, (kpX [(0, pt p1 0), (1, .slice a1 x6.length c1)] rfl hst)⟩
def term_keep (k : Nat) (x1 : Int) (x2 : Int) (x3 : Bool) (x4 : Int) (x5 : (List ((List UInt8) × (Option T_platter_file)))) (x6 : (List UInt8)) (x7 : (List UInt8)) : Option (Int × Int × Int × (List ((List UInt8) × (Option T_platter_file)))) := (Option.bind (platter_Disk_Write k x1 x2 x3 x4 x5 x6 x7) fun y3 => (if (y3.1 != 0) = true then some (y3.1, y3.2.1, y3.2.2.1, y3.2.2.2) else (Option.bind (platter_Disk_Sync k x1 y3.2.1 x3 y3.2.2.1 y3.2.2.2 ([x6])) fun y4 => some (y4.1, y4.2.1, y4.2.2.1, y4.2.2.2))))
set_option maxRecDepth 100000 in
set_option maxHeartbeats 4000000 in
theorem term_keep_ok {G w : World} {F : List HP} {R : Ending → World → Prop} (k : Nat) (x1 : Int) (x2 : Int) (x3 : Bool) (x4 : Int) (x5 : (List ((List UInt8) × (Option T_platter_file)))) (x6 : (List UInt8)) (x7 : (List UInt8)) (p1 : Nat) (p2 : Nat) (r : (Int × Int × Int × (List ((List UInt8) × (Option T_platter_file))))) (hst : St G w (blk p1 (cl [I x1, I x2, .bool x3, I x4, .map (some p2)] 42) :: mpr S (rPt r_T_platter_file) p2 x5 :: F)) (hr : term_keep k x1 x2 x3 x4 x5 x6 x7 = some r)
    (hR : ∀ w', St G w' (blk p1 (cl [I x1, I r.2.1, .bool x3, I r.2.2.1, .map (some p2)] 42) :: mpr S (rPt r_T_platter_file) p2 r.2.2.2 :: F) → R (.returned (I r.1)) w') :
    Calls Try.prog 46 #[pt p1 0, S x6, S x7] w R := by
  unfold term_keep at hr
  refine enter Try.func46 rfl [(0, pt p1 0), (1, S x6), (2, S x7)] rfl rfl fun b => ?_
  refine wp_seq ?_
  refine wp_reg ?_
  refine L_pure 1 [(0, pt p1 0), (1, S x6), (2, S x7)] (by kernel_rfl) fun b => ?_
  refine wpL_nil ?_
  refine th_n ?_
  refine wp_seq ?_
  refine wp_seq ?_
  refine wp_reg ?_
  refine L_pure 3 [(0, pt p1 0), (1, S x6), (8, pt p1 0), (9, S x6), (10, S x7)] (by kernel_rfl) fun b => ?_
  obtain ⟨y3, hy3, hr⟩ := bnd hr
  refine L_op rfl (O_call (vs := #[pt p1 0, S x6, S x7]) Try.call16 (by kernel_rfl) (platter_Disk_Write_ok k x1 x2 x3 x4 x5 x6 x7 p1 p2 y3 ((hst.pull 1).pull 1) hy3 fun w hst => ?_))
  refine CK_ret rfl ?_
  refine L_pure 1 [(0, pt p1 0), (1, S x6), (7, I y3.1)] (by kernel_rfl) fun b => ?_
  refine wpL_nil ?_
  refine th_n ?_
  refine wp_seq ?_
  refine wp_reg ?_
  refine L_pure 2 [(0, pt p1 0), (1, S x6), (7, I y3.1), (13, .bool (y3.1 != 0))] (by kernel_rfl) fun b => ?_
  refine wpL_nil ?_
  refine th_n ?_
  refine wp_cond_mkF (t := (y3.1 != 0)) rfl (fun h => ?_) (fun h => ?_)
  · have hr := (if_pos h).symm.trans hr
    refine wp_seq ?_
    refine wp_reg ?_
    refine L_pure 2 [(6, I y3.1)] (by kernel_rfl) fun b => ?_
    refine wpL_nil ?_
    refine th_n ?_
    refine wp_ret ?_
    refine th_r ?_
    refine ret1 rfl rfl ?_
    obtain rfl := Option.some.inj hr
    have hst := ((hst.pull 1).pull 1)
    exact hR _ hst
  · have hr := (if_neg (by rw [h]; exact Bool.false_ne_true)).symm.trans hr
    refine wp_skip ?_
    refine th_n ?_
    refine wp_seq ?_
    refine wp_reg ?_
    refine L_pure 2 [(15, pt p1 0), (16, S x6)] (by kernel_rfl) fun b => ?_
    refine L_op rfl (O_bs (T := 9) [S x6] #[(0, S x6)] hst (by kernel_rfl) (by kernel_rfl) rfl fun p4 w hst => ?_)
    have hst := osl_of_blk0 (ecs := [[S x6]]) rS [x6] rfl (fun m => ⟨⟨(), rfl, trivial⟩, trivial⟩) rfl hst
    obtain ⟨y4, hy4, hr⟩ := bnd hr
    have hst := osl_freeze hst
    refine L_op rfl (O_call (vs := #[pt p1 0, .slice (some ⟨p4, 0, none⟩) ([x6]).length 1]) Try.call17 (by kernel_rfl) (platter_Disk_Sync_ok k x1 y3.2.1 x3 y3.2.2.1 y3.2.2.2 ([x6]) p1 p2 (some ⟨p4, 0, none⟩) 1 y4 ((hst.pull 2).pull 2) hy4 fun w hst => ?_))
    refine CK_ret rfl ?_
    refine L_pure 1 [(6, I y4.1)] (by kernel_rfl) fun b => ?_
    refine wpL_nil ?_
    refine th_n ?_
    refine wp_ret ?_
    refine ret1 rfl rfl ?_
    obtain rfl := Option.some.inj hr
    have hst := (((hst.pull 1).pull 1).cut 2 1)
    exact hR _ hst
def term_SaveTerm (k : Nat) (x1 : Int) (x2 : Int) (x3 : Bool) (x4 : Int) (x5 : (List ((List UInt8) × (Option T_platter_file)))) (x6 : Int) (x7 : Int) : Option (Int × Int × Int × (List ((List UInt8) × (Option T_platter_file)))) := (Option.bind (wire_Enc_I k (T_wire_Enc.mk ([])) ([x6, x7])) fun y5 => (Option.bind (wire_Enc_Bytes k (T_wire_Enc.mk y5)) fun y6 => (Option.bind (seal_Frame k ([y6])) fun y7 => (Option.bind (term_keep k x1 x2 x3 x4 x5 ([116, 101, 114, 109]) y7) fun y8 => some (y8.1, y8.2.1, y8.2.2.1, y8.2.2.2)))))
set_option maxRecDepth 100000 in
set_option maxHeartbeats 4000000 in
theorem term_SaveTerm_ok {G w : World} {F : List HP} {R : Ending → World → Prop} (k : Nat) (x1 : Int) (x2 : Int) (x3 : Bool) (x4 : Int) (x5 : (List ((List UInt8) × (Option T_platter_file)))) (x6 : Int) (x7 : Int) (p1 : Nat) (p2 : Nat) (r : (Int × Int × Int × (List ((List UInt8) × (Option T_platter_file))))) (hst : St G w (blk p1 (cl [I x1, I x2, .bool x3, I x4, .map (some p2)] 42) :: mpr S (rPt r_T_platter_file) p2 x5 :: F)) (hr : term_SaveTerm k x1 x2 x3 x4 x5 x6 x7 = some r)
    (hR : ∀ w', St G w' (blk p1 (cl [I x1, I r.2.1, .bool x3, I r.2.2.1, .map (some p2)] 42) :: mpr S (rPt r_T_platter_file) p2 r.2.2.2 :: F) → R (.returned (I r.1)) w') :
    Calls Try.prog 30 #[pt p1 0, I x6, I x7] w R := by
  unfold term_SaveTerm at hr
  refine enter Try.func30 rfl [(0, pt p1 0), (1, I x6), (2, I x7)] rfl rfl fun b => ?_
  refine wp_seq ?_
  refine wp_reg ?_
  refine L_pure 1 [(0, pt p1 0), (1, I x6), (2, I x7)] (by kernel_rfl) fun b => ?_
  refine wpL_nil ?_
  refine th_n ?_
  refine wp_seq ?_
  refine wp_reg ?_
  refine L_op rfl (O_alloc (i := Try.t101) (z := .agg #[.slice none 0 0]) [.slice none 0 0] hst rfl rfl rfl rfl fun p6 w hst => ?_)
  refine wpL_nil ?_
  refine th_n ?_
  refine wp_seq ?_
  refine wp_reg ?_
  refine L_pure 3 [(7, pt p6 0), (8, pt p1 0), (9, I x6), (10, I x7)] (by kernel_rfl) fun b => ?_
  refine L_op rfl (O_bs (T := 3) [I x6, I x7] #[(0, I x6), (1, I x7)] hst (by kernel_rfl) (by kernel_rfl) rfl fun p7 w hst => ?_)
  have hst := osl_of_blk0 (ecs := [[I x6], [I x7]]) (rI .i64) [x6, x7] rfl (fun m => ⟨⟨(), rfl, trivial⟩, ⟨(), rfl, trivial⟩, trivial⟩) rfl hst
  obtain ⟨y5, hy5, hr⟩ := bnd hr
  have hst := osl_nil (rI .u8) 5 hst
  refine L_op rfl (O_call (vs := #[pt p6 0, .slice (some ⟨p7, 0, none⟩) ([x6, x7]).length 2]) Try.call48 (by kernel_rfl) (wire_Enc_I_ok k (T_wire_Enc.mk ([])) ([x6, x7]) p6 none 0 (some ⟨p7, 0, none⟩) 2 y5 (((hst.pull 1).pull 1).pull 2) hy5 fun a2 c2 w hst => ?_))
  refine CK_ret rfl ?_
  obtain ⟨y6, hy6, hr⟩ := bnd hr
  have hst := osl_freeze hst
  refine L_op rfl (O_call (vs := #[pt p6 0]) Try.call50 (by kernel_rfl) (wire_Enc_Bytes_ok k (T_wire_Enc.mk y5) p6 a2 c2 y6 (hst.pull 1) hy6 fun w hst => ?_))
  refine CK_ret rfl ?_
  refine L_op rfl (O_bs (T := 9) [S y6] #[(0, S y6)] hst (by kernel_rfl) (by kernel_rfl) rfl fun p8 w hst => ?_)
  have hst := osl_of_blk0 (ecs := [[S y6]]) rS [y6] rfl (fun m => ⟨⟨(), rfl, trivial⟩, trivial⟩) rfl hst
  obtain ⟨y7, hy7, hr⟩ := bnd hr
  have hst := osl_freeze hst
  refine L_op rfl (O_call (vs := #[.slice (some ⟨p8, 0, none⟩) ([y6]).length 1]) Try.call47 (by kernel_rfl) (seal_Frame_ok k ([y6]) (some ⟨p8, 0, none⟩) 1 y7 hst hy7 fun w hst => ?_))
  refine CK_ret rfl ?_
  obtain ⟨y8, hy8, hr⟩ := bnd hr
  refine L_op rfl (O_call (vs := #[pt p1 0, S ([116, 101, 114, 109]), S y7]) Try.call46 (by kernel_rfl) (term_keep_ok k x1 x2 x3 x4 x5 ([116, 101, 114, 109]) y7 p1 p2 y8 ((hst.pull 5).pull 5) hy8 fun w hst => ?_))
  refine CK_ret rfl ?_
  refine L_pure 1 [(6, I y8.1)] (by kernel_rfl) fun b => ?_
  refine wpL_nil ?_
  refine th_n ?_
  refine wp_ret ?_
  refine ret1 rfl rfl ?_
  obtain rfl := Option.some.inj hr
  have hst := (((hst.pull 1).pull 1).cut 2 4)
  exact hR _ hst
def wire_Enc_S_l1 (k : Nat) (x2 : (List (List UInt8))) : Nat → Int → (List Int) → Option ((List Int))
  | 0, _, _ => none
  | j + 1, v7, v8 => (if decide (v7 < (x2.length : Int)) = true then (Option.bind (gt x2 v7) fun x4 => (Option.bind (wire_Enc_U k (T_wire_Enc.mk v8) ([(IntKind.u64.wrap (x4.length : Int))])) fun y4 => (if room (y4.length + (sB x4).length) 1 = true then (wire_Enc_S_l1 k x2 j (IntKind.i64.wrap (v7 + 1)) (y4 ++ sB x4)) else none))) else some (v8))
def wire_Enc_S (k : Nat) (x1 : T_wire_Enc) (x2 : (List (List UInt8))) : Option ((List Int)) := (Option.bind (wire_Enc_S_l1 k x2 k (0 : Int) x1.b) fun y3 => some (y3))
set_option maxRecDepth 100000 in
set_option maxHeartbeats 4000000 in
theorem wire_Enc_S_ok {G w : World} {F : List HP} {R : Ending → World → Prop} (k : Nat) (x1 : T_wire_Enc) (x2 : (List (List UInt8))) (p1 : Nat) (a1 : Option Addr) (c1 : Nat) (a2 : Option Addr) (c2 : Nat) (r : ((List Int))) (hst : St G w (blk p1 (cl [.slice a1 x1.b.length c1] 101) :: osl (rI .u8) 5 a1 c1 x1.b :: osl rS 9 a2 c2 x2 :: F)) (hr : wire_Enc_S k x1 x2 = some r)
    (hR : ∀ (a8 : Option Addr) (c8 : Nat) w', St G w' (osl (rI .u8) 5 a8 c8 r :: blk p1 (cl [.slice a8 r.length c8] 101) :: osl rS 9 a2 c2 x2 :: F) → R (.returned (pt p1 0)) w') :
    Calls Try.prog 49 #[pt p1 0, .slice a2 x2.length c2] w R := by
  unfold wire_Enc_S at hr
  refine enter Try.func49 rfl [(0, pt p1 0), (1, .slice a2 x2.length c2)] rfl rfl fun b => ?_
  refine wp_seq ?_
  refine wp_reg ?_
  refine L_pure 1 [(0, pt p1 0), (1, .slice a2 x2.length c2)] (by kernel_rfl) fun b => ?_
  refine wpL_nil ?_
  refine th_n ?_
  refine wp_seq ?_
  refine wp_seq ?_
  refine wp_reg ?_
  refine L_pure 3 [(0, pt p1 0), (7, .slice a2 x2.length c2), (8, I (x2.length : Int)), (9, I 0)] (by kernel_rfl) fun b => ?_
  refine wpL_nil ?_
  refine th_n ?_
  obtain ⟨y3, hy3, hk2⟩ := bnd hr
  clear hr
  refine Go.Hx.wp_cut (fun a w => ∃ (a11 : Option Addr) (c11 : Nat)(b : Nat → Value), a = mkF 30 b [(0, pt p1 0)] ∧ St G w (osl (rI .u8) 5 a11 c11 y3 :: blk p1 (cl [.slice a11 y3.length c11] 101) :: osl rS 9 a2 c2 x2 :: F)) ?_ ?_
  · rintro _ w ⟨a11, c11, b, rfl, hst⟩
    have hr := hk2
    refine th_n ?_
    refine wp_seq ?_
    refine wp_reg ?_
    refine L_pure 2 [(4, pt p1 0)] (by kernel_rfl) fun b => ?_
    refine wpL_nil ?_
    refine th_n ?_
    refine wp_ret ?_
    refine ret1 rfl rfl ?_
    obtain rfl := Option.some.inj hr
    have hst := (((hst.pull 2).pull 2).pull 2)
    exact hR a11 c11 _ hst
  · have hst := (((hst.pull 2).pull 1).pull 2)
    refine wp_block ?_
    refine wp_loop_fuel (fun j a w => ∃ (v7 : Int) (v8 : (List Int)) (a9 : Option Addr) (c9 : Nat) (b : Nat → Value), a = mkF 30 b [(0, pt p1 0), (7, .slice a2 x2.length c2), (8, I (x2.length : Int)), (9, I v7)] ∧ St G w (osl (rI .u8) 5 a9 c9 v8 :: blk p1 (cl [.slice a9 v8.length c9] 101) :: osl rS 9 a2 c2 x2 :: F) ∧ wire_Enc_S_l1 k x2 j v7 v8 = some y3) (k := k) ⟨(0 : Int), x1.b, a1, c1, (kpX [(0, pt p1 0), (7, .slice a2 x2.length c2), (8, I (x2.length : Int)), (9, I 0)] rfl ⟨hst, hy3⟩)⟩ ?_ ?_
    · rintro _ _ ⟨_, _, _, _, _, _, _, h⟩
      rw [wire_Enc_S_l1] at h
      cases h
    · rintro j _ w ⟨v7, v8, a9, c9, b, rfl, hst, hr⟩
      rw [wire_Enc_S_l1] at hr
      refine wp_seq ?_
      refine wp_reg ?_
      refine L_pure 1 [(0, pt p1 0), (7, .slice a2 x2.length c2), (8, I (x2.length : Int)), (9, I v7), (10, .bool (decide (v7 < (x2.length : Int))))] (by kernel_rfl) fun b => ?_
      refine wpL_nil ?_
      refine th_n ?_
      refine wp_seq ?_
      refine wp_cond_mkF (t := decide (v7 < (x2.length : Int))) rfl (fun h => ?_) (fun h => ?_)
      · have hr := (if_pos h).symm.trans hr
        refine wp_skip ?_
        refine th_n ?_
        refine wp_seq ?_
        refine wp_block ?_
        refine wp_seq ?_
        refine wp_reg ?_
        obtain ⟨x4, hx2, hr⟩ := bnd hr
        refine L_op rfl (O_run (v := pt (ab a2) (ao a2 + v7.toNat * 1)) (w' := w) (R_ia L34 rfl rfl (osl_addr (hst.pull 2) hx2) (gt_some hx2).1 (gt_some hx2).2.1) rfl rfl ?_)
        obtain ⟨q2, hc2, hst⟩ := osl_cells (hst.pull 2) hx2
        have hst := hst.drop
        refine L_op rfl (O_run (v := S x4) (w' := w) (R_loadAt (off := ao a2 + v7.toNat * 1) (j := 0) hc2 rfl rfl) rfl rfl ?_)
        refine L_pure 1 [(0, pt p1 0), (6, S x4), (7, .slice a2 x2.length c2), (8, I (x2.length : Int)), (9, I v7)] (by kernel_rfl) fun b => ?_
        refine wpL_nil ?_
        refine th_n ?_
        refine wp_seq ?_
        refine wp_reg ?_
        refine L_pure 4 [(0, pt p1 0), (6, S x4), (7, .slice a2 x2.length c2), (8, I (x2.length : Int)), (9, I v7), (13, pt p1 0), (16, .int .u64 (IntKind.u64.wrap (x4.length : Int)))] (by kernel_rfl) fun b => ?_
        refine L_op rfl (O_bs (T := 129) [.int .u64 (IntKind.u64.wrap (x4.length : Int))] #[(0, .int .u64 (IntKind.u64.wrap (x4.length : Int)))] hst (by kernel_rfl) (by kernel_rfl) rfl fun p3 w hst => ?_)
        have hst := osl_of_blk0 (ecs := [[.int .u64 (IntKind.u64.wrap (x4.length : Int))]]) (rI .u64) [(IntKind.u64.wrap (x4.length : Int))] rfl (fun m => ⟨⟨(), rfl, trivial⟩, trivial⟩) rfl hst
        obtain ⟨y4, hy4, hr⟩ := bnd hr
        refine L_op rfl (O_call (vs := #[pt p1 0, .slice (some ⟨p3, 0, none⟩) ([(IntKind.u64.wrap (x4.length : Int))]).length 1]) Try.call67 (by kernel_rfl) (wire_Enc_U_ok k (T_wire_Enc.mk v8) ([(IntKind.u64.wrap (x4.length : Int))]) p1 a9 c9 (some ⟨p3, 0, none⟩) 1 y4 ((hst.pull 2).pull 3) hy4 fun a12 c12 w hst => ?_))
        refine CK_ret rfl ?_
        refine wpL_nil ?_
        refine th_n ?_
        refine wp_reg ?_
        refine L_pure 4 [(0, pt p1 0), (6, S x4), (7, .slice a2 x2.length c2), (8, I (x2.length : Int)), (9, I v7), (19, pt p1 0), (22, pt p1 0)] (by kernel_rfl) fun b => ?_
        refine L_op rfl (O_run (v := .slice a12 y4.length c12) (w' := w) (R_load (hst.pull 1) rfl rfl) rfl rfl ?_)
        refine L_pure 1 [(0, pt p1 0), (7, .slice a2 x2.length c2), (8, I (x2.length : Int)), (9, I v7), (19, pt p1 0), (23, .slice a12 y4.length c12), (24, S x4)] (by kernel_rfl) fun b => ?_
        obtain ⟨hb2, hr⟩ := chk hr
        refine L_op rfl (O_app_s L99 Try.underlying9 hst rfl rfl hb2 rfl fun a13 c13 w hst => ?_)
        refine L_pure 2 [(0, pt p1 0), (7, .slice a2 x2.length c2), (8, I (x2.length : Int)), (9, I v7), (25, .slice a13 (y4 ++ sB x4).length c13), (27, pt p1 0)] (by kernel_rfl) fun b => ?_
        refine L_op rfl (O_store [.slice a13 (y4 ++ sB x4).length c13] (hst.pull 1) rfl rfl (by kernel_rfl) fun w hst => ?_)
        refine wpL_nil ?_
        refine ib_n (th_n ?_)
        refine wp_reg ?_
        refine L_pure 2 [(0, pt p1 0), (7, .slice a2 x2.length c2), (8, I (x2.length : Int)), (9, I (IntKind.i64.wrap (v7 + 1)))] (by kernel_rfl) fun b => ?_
        refine wpL_nil ?_
        refine th_n ?_
        have hst := ((((hst.pull 3).pull 1).pull 2).cut 3 1)
        exact ⟨(IntKind.i64.wrap (v7 + 1)), (y4 ++ sB x4), a13, c13, (kpX [(0, pt p1 0), (7, .slice a2 x2.length c2), (8, I (x2.length : Int)), (9, I (IntKind.i64.wrap (v7 + 1)))] rfl ⟨hst, hr⟩)⟩
      · have hr := (if_neg (by rw [h]; exact Bool.false_ne_true)).symm.trans hr
        refine wp_exit ?_
        refine th_x (th_x (ib_x (th_n ?_)))
        obtain rfl := Option.some.inj hr
        have hst := (((hst.pull 2).pull 2).pull 2)
        exact ⟨a9, c9, (kpX [(0, pt p1 0)] rfl hst)⟩
def term_spell (k : Nat) (x1 : T_term_Entry) : Option ((List UInt8)) := (Option.bind (Option.bind (wire_Enc_I k (T_wire_Enc.mk ([])) ([x1.Index, x1.Term])) fun y7 => (Option.bind (wire_Enc_S k (T_wire_Enc.mk y7) ([x1.Cmd])) fun y8 => some (y8))) fun y6 => (Option.bind (wire_Enc_Bytes k (T_wire_Enc.mk y6)) fun y9 => (Option.bind (seal_Frame k ([y9])) fun y10 => some (y10))))
set_option maxRecDepth 100000 in
set_option maxHeartbeats 4000000 in
theorem term_spell_ok {G w : World} {F : List HP} {R : Ending → World → Prop} (k : Nat) (x1 : T_term_Entry) (r : ((List UInt8))) (hst : St G w (F)) (hr : term_spell k x1 = some r)
    (hR : ∀ w', St G w' (F) → R (.returned (S r)) w') :
    Calls Try.prog 57 #[.agg #[I x1.Index, I x1.Term, S x1.Cmd]] w R := by
  unfold term_spell at hr
  refine enter Try.func57 rfl [(0, .agg #[I x1.Index, I x1.Term, S x1.Cmd])] rfl rfl fun b => ?_
  refine wp_seq ?_
  refine wp_reg ?_
  refine L_op rfl (O_box [I x1.Index, I x1.Term, S x1.Cmd] hst rfl rfl fun p6 w hst => ?_)
  refine L_pure 1 [(1, pt p6 0)] (by kernel_rfl) fun b => ?_
  refine wpL_nil ?_
  refine th_n ?_
  refine wp_seq ?_
  refine wp_reg ?_
  refine L_op rfl (O_alloc (i := Try.t101) (z := .agg #[.slice none 0 0]) [.slice none 0 0] hst rfl rfl rfl rfl fun p7 w hst => ?_)
  refine wpL_nil ?_
  refine th_n ?_
  obtain ⟨y6, hy6, hk2⟩ := bnd hr
  clear hr
  refine wp_seq_cut (fun a w => ∃ (a4 : Option Addr) (c4 : Nat)(b : Nat → Value), a = mkF 17 b [(3, pt p7 0)] ∧ St G w (osl (rI .u8) 5 a4 c4 y6 :: blk p7 (cl [.slice a4 y6.length c4] 101) :: blk p6 (cl [I x1.Index, I x1.Term, S x1.Cmd] 52) :: F)) ?_ ?_
  · rintro _ w ⟨a4, c4, b, rfl, hst⟩
    have hr := hk2
    refine wp_seq ?_
    refine wp_reg ?_
    obtain ⟨y9, hy9, hr⟩ := bnd hr
    have hst := osl_freeze hst
    refine L_op rfl (O_call (vs := #[pt p7 0]) Try.call50 (by kernel_rfl) (wire_Enc_Bytes_ok k (T_wire_Enc.mk y6) p7 a4 c4 y9 (hst.pull 1) hy9 fun w hst => ?_))
    refine CK_ret rfl ?_
    refine L_op rfl (O_bs (T := 9) [S y9] #[(0, S y9)] hst (by kernel_rfl) (by kernel_rfl) rfl fun p10 w hst => ?_)
    have hst := osl_of_blk0 (ecs := [[S y9]]) rS [y9] rfl (fun m => ⟨⟨(), rfl, trivial⟩, trivial⟩) rfl hst
    obtain ⟨y10, hy10, hr⟩ := bnd hr
    have hst := osl_freeze hst
    refine L_op rfl (O_call (vs := #[.slice (some ⟨p10, 0, none⟩) ([y9]).length 1]) Try.call47 (by kernel_rfl) (seal_Frame_ok k ([y9]) (some ⟨p10, 0, none⟩) 1 y10 hst hy10 fun w hst => ?_))
    refine CK_ret rfl ?_
    refine L_pure 1 [(2, S y10)] (by kernel_rfl) fun b => ?_
    refine wpL_nil ?_
    refine th_n ?_
    refine wp_ret ?_
    refine ret1 rfl rfl ?_
    obtain rfl := Option.some.inj hr
    have hst := (hst.cut 0 4)
    exact hR _ hst
  · have hr := hy6
    refine wp_regG SA rfl ?_
    have hst := hst.draw (n := w.drawn + 1)
    generalize { w with drawn := w.drawn + 1 } = w at hst ⊢
    refine A_take (i := 0) (v := pt p6 0) rfl (by kernel_rfl) (fun _ _ _ h => h) rfl rfl rfl (fun _ => R_pure (by kernel_rfl)) ?_
    refine A_take (i := 2) (v := pt p6 1) rfl (by kernel_rfl) (fun _ _ _ h => h) rfl rfl rfl (fun _ => R_pure (by kernel_rfl)) ?_
    refine A_take (i := 6) (v := pt p6 2) rfl (by kernel_rfl) (fun _ _ _ h => h) rfl rfl rfl (fun _ => R_pure (by kernel_rfl)) ?_
    refine A_all [1, 3, 7] (by kernel_rfl) ⟨⟨_, rfl, rfl, ?_⟩, ⟨_, rfl, rfl, ?_⟩, ⟨_, rfl, rfl, ?_⟩, trivial⟩
    · refine O_run (v := I x1.Index) (w' := w) (R_load (hst.pull 1) rfl rfl) rfl rfl ?_
      refine A_all [3, 7] (by kernel_rfl) ⟨⟨_, rfl, rfl, ?_⟩, ⟨_, rfl, rfl, ?_⟩, trivial⟩
      · refine O_run (v := I x1.Term) (w' := w) (R_load (hst.pull 1) rfl rfl) rfl rfl ?_
        refine A_all [4, 7] (by kernel_rfl) ⟨⟨_, rfl, rfl, ?_⟩, ⟨_, rfl, rfl, ?_⟩, trivial⟩
        · refine O_bs (T := 3) [I x1.Index, I x1.Term] #[(0, I x1.Index), (1, I x1.Term)] hst (by kernel_rfl) (by kernel_rfl) rfl fun p8 w hst => ?_
          have hst := osl_of_blk0 (ecs := [[I x1.Index], [I x1.Term]]) (rI .i64) [x1.Index, x1.Term] rfl (fun m => ⟨⟨(), rfl, trivial⟩, ⟨(), rfl, trivial⟩, trivial⟩) rfl hst
          refine A_all [5, 7] (by kernel_rfl) ⟨⟨_, rfl, rfl, ?_⟩, ⟨_, rfl, rfl, ?_⟩, trivial⟩
          · obtain ⟨y7, hy7, hr⟩ := bnd hr
            have hst := osl_nil (rI .u8) 5 hst
            refine O_call (vs := #[pt p7 0, .slice (some ⟨p8, 0, none⟩) ([x1.Index, x1.Term]).length 2]) Try.call48 (by kernel_rfl) (wire_Enc_I_ok k (T_wire_Enc.mk ([])) ([x1.Index, x1.Term]) p7 none 0 (some ⟨p8, 0, none⟩) 2 y7 (((hst.pull 1).pull 1).pull 2) hy7 fun a5 c5 w hst => ?_)
            refine CK_ret rfl ?_
            refine A_all [7] (by kernel_rfl) ⟨⟨_, rfl, rfl, ?_⟩, trivial⟩
            refine O_run (v := S x1.Cmd) (w' := w) (R_load (hst.pull 3) rfl rfl) rfl rfl ?_
            refine A_all [8] (by kernel_rfl) ⟨⟨_, rfl, rfl, ?_⟩, trivial⟩
            refine O_bs (T := 9) [S x1.Cmd] #[(0, S x1.Cmd)] hst (by kernel_rfl) (by kernel_rfl) rfl fun p9 w hst => ?_
            have hst := osl_of_blk0 (ecs := [[S x1.Cmd]]) rS [x1.Cmd] rfl (fun m => ⟨⟨(), rfl, trivial⟩, trivial⟩) rfl hst
            refine A_all [9] (by kernel_rfl) ⟨⟨_, rfl, rfl, ?_⟩, trivial⟩
            obtain ⟨y8, hy8, hr⟩ := bnd hr
            refine O_call (vs := #[pt p7 0, .slice (some ⟨p9, 0, none⟩) ([x1.Cmd]).length 1]) Try.call49 (by kernel_rfl) (wire_Enc_S_ok k (T_wire_Enc.mk y7) ([x1.Cmd]) p7 a5 c5 (some ⟨p9, 0, none⟩) 1 y8 ((hst.pull 1).pull 2) hy8 fun a6 c6 w hst => ?_)
            refine CK_ret rfl ?_
            refine wpG_done (by kernel_rfl) ?_ _
            refine C_keepQ [(3, pt p7 0)] rfl fun b => ?_
            refine th_n ?_
            obtain rfl := Option.some.inj hr
            have hst := ((((hst.pull 4).pull 2).pull 2).cut 3 2)
            exact ⟨a6, c6, (kpX [(3, pt p7 0)] rfl hst)⟩
          · refine O_run (v := S x1.Cmd) (w' := w) (R_load (hst.pull 2) rfl rfl) rfl rfl ?_
            refine A_all [5, 8] (by kernel_rfl) ⟨⟨_, rfl, rfl, ?_⟩, ⟨_, rfl, rfl, ?_⟩, trivial⟩
            · obtain ⟨y7, hy7, hr⟩ := bnd hr
              have hst := osl_nil (rI .u8) 5 hst
              refine O_call (vs := #[pt p7 0, .slice (some ⟨p8, 0, none⟩) ([x1.Index, x1.Term]).length 2]) Try.call48 (by kernel_rfl) (wire_Enc_I_ok k (T_wire_Enc.mk ([])) ([x1.Index, x1.Term]) p7 none 0 (some ⟨p8, 0, none⟩) 2 y7 (((hst.pull 1).pull 1).pull 2) hy7 fun a5 c5 w hst => ?_)
              refine CK_ret rfl ?_
              refine A_all [8] (by kernel_rfl) ⟨⟨_, rfl, rfl, ?_⟩, trivial⟩
              refine O_bs (T := 9) [S x1.Cmd] #[(0, S x1.Cmd)] hst (by kernel_rfl) (by kernel_rfl) rfl fun p9 w hst => ?_
              have hst := osl_of_blk0 (ecs := [[S x1.Cmd]]) rS [x1.Cmd] rfl (fun m => ⟨⟨(), rfl, trivial⟩, trivial⟩) rfl hst
              refine A_all [9] (by kernel_rfl) ⟨⟨_, rfl, rfl, ?_⟩, trivial⟩
              obtain ⟨y8, hy8, hr⟩ := bnd hr
              refine O_call (vs := #[pt p7 0, .slice (some ⟨p9, 0, none⟩) ([x1.Cmd]).length 1]) Try.call49 (by kernel_rfl) (wire_Enc_S_ok k (T_wire_Enc.mk y7) ([x1.Cmd]) p7 a5 c5 (some ⟨p9, 0, none⟩) 1 y8 ((hst.pull 1).pull 2) hy8 fun a6 c6 w hst => ?_)
              refine CK_ret rfl ?_
              refine wpG_done (by kernel_rfl) ?_ _
              refine C_keepQ [(3, pt p7 0)] rfl fun b => ?_
              refine th_n ?_
              obtain rfl := Option.some.inj hr
              have hst := ((((hst.pull 4).pull 2).pull 2).cut 3 2)
              exact ⟨a6, c6, (kpX [(3, pt p7 0)] rfl hst)⟩
            · refine O_bs (T := 9) [S x1.Cmd] #[(0, S x1.Cmd)] hst (by kernel_rfl) (by kernel_rfl) rfl fun p9 w hst => ?_
              have hst := osl_of_blk0 (ecs := [[S x1.Cmd]]) rS [x1.Cmd] rfl (fun m => ⟨⟨(), rfl, trivial⟩, trivial⟩) rfl hst
              refine A_all [5] (by kernel_rfl) ⟨⟨_, rfl, rfl, ?_⟩, trivial⟩
              obtain ⟨y7, hy7, hr⟩ := bnd hr
              have hst := osl_nil (rI .u8) 5 hst
              refine O_call (vs := #[pt p7 0, .slice (some ⟨p8, 0, none⟩) ([x1.Index, x1.Term]).length 2]) Try.call48 (by kernel_rfl) (wire_Enc_I_ok k (T_wire_Enc.mk ([])) ([x1.Index, x1.Term]) p7 none 0 (some ⟨p8, 0, none⟩) 2 y7 (((hst.pull 2).pull 1).pull 3) hy7 fun a5 c5 w hst => ?_)
              refine CK_ret rfl ?_
              refine A_all [9] (by kernel_rfl) ⟨⟨_, rfl, rfl, ?_⟩, trivial⟩
              obtain ⟨y8, hy8, hr⟩ := bnd hr
              refine O_call (vs := #[pt p7 0, .slice (some ⟨p9, 0, none⟩) ([x1.Cmd]).length 1]) Try.call49 (by kernel_rfl) (wire_Enc_S_ok k (T_wire_Enc.mk y7) ([x1.Cmd]) p7 a5 c5 (some ⟨p9, 0, none⟩) 1 y8 (((hst.pull 3).pull 1).pull 2) hy8 fun a6 c6 w hst => ?_)
              refine CK_ret rfl ?_
              refine wpG_done (by kernel_rfl) ?_ _
              refine C_keepQ [(3, pt p7 0)] rfl fun b => ?_
              refine th_n ?_
              obtain rfl := Option.some.inj hr
              have hst := ((((hst.pull 4).pull 2).pull 2).cut 3 2)
              exact ⟨a6, c6, (kpX [(3, pt p7 0)] rfl hst)⟩
        · refine O_run (v := S x1.Cmd) (w' := w) (R_load (hst.pull 1) rfl rfl) rfl rfl ?_
          refine A_all [4, 8] (by kernel_rfl) ⟨⟨_, rfl, rfl, ?_⟩, ⟨_, rfl, rfl, ?_⟩, trivial⟩
          · refine O_bs (T := 3) [I x1.Index, I x1.Term] #[(0, I x1.Index), (1, I x1.Term)] hst (by kernel_rfl) (by kernel_rfl) rfl fun p8 w hst => ?_
            have hst := osl_of_blk0 (ecs := [[I x1.Index], [I x1.Term]]) (rI .i64) [x1.Index, x1.Term] rfl (fun m => ⟨⟨(), rfl, trivial⟩, ⟨(), rfl, trivial⟩, trivial⟩) rfl hst
            refine A_all [5, 8] (by kernel_rfl) ⟨⟨_, rfl, rfl, ?_⟩, ⟨_, rfl, rfl, ?_⟩, trivial⟩
            · obtain ⟨y7, hy7, hr⟩ := bnd hr
              have hst := osl_nil (rI .u8) 5 hst
              refine O_call (vs := #[pt p7 0, .slice (some ⟨p8, 0, none⟩) ([x1.Index, x1.Term]).length 2]) Try.call48 (by kernel_rfl) (wire_Enc_I_ok k (T_wire_Enc.mk ([])) ([x1.Index, x1.Term]) p7 none 0 (some ⟨p8, 0, none⟩) 2 y7 (((hst.pull 1).pull 1).pull 2) hy7 fun a5 c5 w hst => ?_)
              refine CK_ret rfl ?_
              refine A_all [8] (by kernel_rfl) ⟨⟨_, rfl, rfl, ?_⟩, trivial⟩
              refine O_bs (T := 9) [S x1.Cmd] #[(0, S x1.Cmd)] hst (by kernel_rfl) (by kernel_rfl) rfl fun p9 w hst => ?_
              have hst := osl_of_blk0 (ecs := [[S x1.Cmd]]) rS [x1.Cmd] rfl (fun m => ⟨⟨(), rfl, trivial⟩, trivial⟩) rfl hst
              refine A_all [9] (by kernel_rfl) ⟨⟨_, rfl, rfl, ?_⟩, trivial⟩
              obtain ⟨y8, hy8, hr⟩ := bnd hr
              refine O_call (vs := #[pt p7 0, .slice (some ⟨p9, 0, none⟩) ([x1.Cmd]).length 1]) Try.call49 (by kernel_rfl) (wire_Enc_S_ok k (T_wire_Enc.mk y7) ([x1.Cmd]) p7 a5 c5 (some ⟨p9, 0, none⟩) 1 y8 ((hst.pull 1).pull 2) hy8 fun a6 c6 w hst => ?_)
              refine CK_ret rfl ?_
              refine wpG_done (by kernel_rfl) ?_ _
              refine C_keepQ [(3, pt p7 0)] rfl fun b => ?_
              refine th_n ?_
              obtain rfl := Option.some.inj hr
              have hst := ((((hst.pull 4).pull 2).pull 2).cut 3 2)
              exact ⟨a6, c6, (kpX [(3, pt p7 0)] rfl hst)⟩
            · refine O_bs (T := 9) [S x1.Cmd] #[(0, S x1.Cmd)] hst (by kernel_rfl) (by kernel_rfl) rfl fun p9 w hst => ?_
              have hst := osl_of_blk0 (ecs := [[S x1.Cmd]]) rS [x1.Cmd] rfl (fun m => ⟨⟨(), rfl, trivial⟩, trivial⟩) rfl hst
              refine A_all [5] (by kernel_rfl) ⟨⟨_, rfl, rfl, ?_⟩, trivial⟩
              obtain ⟨y7, hy7, hr⟩ := bnd hr
              have hst := osl_nil (rI .u8) 5 hst
              refine O_call (vs := #[pt p7 0, .slice (some ⟨p8, 0, none⟩) ([x1.Index, x1.Term]).length 2]) Try.call48 (by kernel_rfl) (wire_Enc_I_ok k (T_wire_Enc.mk ([])) ([x1.Index, x1.Term]) p7 none 0 (some ⟨p8, 0, none⟩) 2 y7 (((hst.pull 2).pull 1).pull 3) hy7 fun a5 c5 w hst => ?_)
              refine CK_ret rfl ?_
              refine A_all [9] (by kernel_rfl) ⟨⟨_, rfl, rfl, ?_⟩, trivial⟩
              obtain ⟨y8, hy8, hr⟩ := bnd hr
              refine O_call (vs := #[pt p7 0, .slice (some ⟨p9, 0, none⟩) ([x1.Cmd]).length 1]) Try.call49 (by kernel_rfl) (wire_Enc_S_ok k (T_wire_Enc.mk y7) ([x1.Cmd]) p7 a5 c5 (some ⟨p9, 0, none⟩) 1 y8 (((hst.pull 3).pull 1).pull 2) hy8 fun a6 c6 w hst => ?_)
              refine CK_ret rfl ?_
              refine wpG_done (by kernel_rfl) ?_ _
              refine C_keepQ [(3, pt p7 0)] rfl fun b => ?_
              refine th_n ?_
              obtain rfl := Option.some.inj hr
              have hst := ((((hst.pull 4).pull 2).pull 2).cut 3 2)
              exact ⟨a6, c6, (kpX [(3, pt p7 0)] rfl hst)⟩
          · refine O_bs (T := 9) [S x1.Cmd] #[(0, S x1.Cmd)] hst (by kernel_rfl) (by kernel_rfl) rfl fun p8 w hst => ?_
            have hst := osl_of_blk0 (ecs := [[S x1.Cmd]]) rS [x1.Cmd] rfl (fun m => ⟨⟨(), rfl, trivial⟩, trivial⟩) rfl hst
            refine A_all [4] (by kernel_rfl) ⟨⟨_, rfl, rfl, ?_⟩, trivial⟩
            refine O_bs (T := 3) [I x1.Index, I x1.Term] #[(0, I x1.Index), (1, I x1.Term)] hst (by kernel_rfl) (by kernel_rfl) rfl fun p9 w hst => ?_
            have hst := osl_of_blk0 (ecs := [[I x1.Index], [I x1.Term]]) (rI .i64) [x1.Index, x1.Term] rfl (fun m => ⟨⟨(), rfl, trivial⟩, ⟨(), rfl, trivial⟩, trivial⟩) rfl hst
            refine A_all [5] (by kernel_rfl) ⟨⟨_, rfl, rfl, ?_⟩, trivial⟩
            obtain ⟨y7, hy7, hr⟩ := bnd hr
            have hst := osl_nil (rI .u8) 5 hst
            refine O_call (vs := #[pt p7 0, .slice (some ⟨p9, 0, none⟩) ([x1.Index, x1.Term]).length 2]) Try.call48 (by kernel_rfl) (wire_Enc_I_ok k (T_wire_Enc.mk ([])) ([x1.Index, x1.Term]) p7 none 0 (some ⟨p9, 0, none⟩) 2 y7 (((hst.pull 1).pull 1).pull 3) hy7 fun a5 c5 w hst => ?_)
            refine CK_ret rfl ?_
            refine A_all [9] (by kernel_rfl) ⟨⟨_, rfl, rfl, ?_⟩, trivial⟩
            obtain ⟨y8, hy8, hr⟩ := bnd hr
            refine O_call (vs := #[pt p7 0, .slice (some ⟨p8, 0, none⟩) ([x1.Cmd]).length 1]) Try.call49 (by kernel_rfl) (wire_Enc_S_ok k (T_wire_Enc.mk y7) ([x1.Cmd]) p7 a5 c5 (some ⟨p8, 0, none⟩) 1 y8 (((hst.pull 3).pull 1).pull 2) hy8 fun a6 c6 w hst => ?_)
            refine CK_ret rfl ?_
            refine wpG_done (by kernel_rfl) ?_ _
            refine C_keepQ [(3, pt p7 0)] rfl fun b => ?_
            refine th_n ?_
            obtain rfl := Option.some.inj hr
            have hst := ((((hst.pull 4).pull 2).pull 2).cut 3 2)
            exact ⟨a6, c6, (kpX [(3, pt p7 0)] rfl hst)⟩
      · refine O_run (v := S x1.Cmd) (w' := w) (R_load (hst.pull 1) rfl rfl) rfl rfl ?_
        refine A_all [3, 8] (by kernel_rfl) ⟨⟨_, rfl, rfl, ?_⟩, ⟨_, rfl, rfl, ?_⟩, trivial⟩
        · refine O_run (v := I x1.Term) (w' := w) (R_load (hst.pull 1) rfl rfl) rfl rfl ?_
          refine A_all [4, 8] (by kernel_rfl) ⟨⟨_, rfl, rfl, ?_⟩, ⟨_, rfl, rfl, ?_⟩, trivial⟩
          · refine O_bs (T := 3) [I x1.Index, I x1.Term] #[(0, I x1.Index), (1, I x1.Term)] hst (by kernel_rfl) (by kernel_rfl) rfl fun p8 w hst => ?_
            have hst := osl_of_blk0 (ecs := [[I x1.Index], [I x1.Term]]) (rI .i64) [x1.Index, x1.Term] rfl (fun m => ⟨⟨(), rfl, trivial⟩, ⟨(), rfl, trivial⟩, trivial⟩) rfl hst
            refine A_all [5, 8] (by kernel_rfl) ⟨⟨_, rfl, rfl, ?_⟩, ⟨_, rfl, rfl, ?_⟩, trivial⟩
            · obtain ⟨y7, hy7, hr⟩ := bnd hr
              have hst := osl_nil (rI .u8) 5 hst
              refine O_call (vs := #[pt p7 0, .slice (some ⟨p8, 0, none⟩) ([x1.Index, x1.Term]).length 2]) Try.call48 (by kernel_rfl) (wire_Enc_I_ok k (T_wire_Enc.mk ([])) ([x1.Index, x1.Term]) p7 none 0 (some ⟨p8, 0, none⟩) 2 y7 (((hst.pull 1).pull 1).pull 2) hy7 fun a5 c5 w hst => ?_)
              refine CK_ret rfl ?_
              refine A_all [8] (by kernel_rfl) ⟨⟨_, rfl, rfl, ?_⟩, trivial⟩
              refine O_bs (T := 9) [S x1.Cmd] #[(0, S x1.Cmd)] hst (by kernel_rfl) (by kernel_rfl) rfl fun p9 w hst => ?_
              have hst := osl_of_blk0 (ecs := [[S x1.Cmd]]) rS [x1.Cmd] rfl (fun m => ⟨⟨(), rfl, trivial⟩, trivial⟩) rfl hst
              refine A_all [9] (by kernel_rfl) ⟨⟨_, rfl, rfl, ?_⟩, trivial⟩
              obtain ⟨y8, hy8, hr⟩ := bnd hr
              refine O_call (vs := #[pt p7 0, .slice (some ⟨p9, 0, none⟩) ([x1.Cmd]).length 1]) Try.call49 (by kernel_rfl) (wire_Enc_S_ok k (T_wire_Enc.mk y7) ([x1.Cmd]) p7 a5 c5 (some ⟨p9, 0, none⟩) 1 y8 ((hst.pull 1).pull 2) hy8 fun a6 c6 w hst => ?_)
              refine CK_ret rfl ?_
              refine wpG_done (by kernel_rfl) ?_ _
              refine C_keepQ [(3, pt p7 0)] rfl fun b => ?_
              refine th_n ?_
              obtain rfl := Option.some.inj hr
              have hst := ((((hst.pull 4).pull 2).pull 2).cut 3 2)
              exact ⟨a6, c6, (kpX [(3, pt p7 0)] rfl hst)⟩
            · refine O_bs (T := 9) [S x1.Cmd] #[(0, S x1.Cmd)] hst (by kernel_rfl) (by kernel_rfl) rfl fun p9 w hst => ?_
              have hst := osl_of_blk0 (ecs := [[S x1.Cmd]]) rS [x1.Cmd] rfl (fun m => ⟨⟨(), rfl, trivial⟩, trivial⟩) rfl hst
              refine A_all [5] (by kernel_rfl) ⟨⟨_, rfl, rfl, ?_⟩, trivial⟩
              obtain ⟨y7, hy7, hr⟩ := bnd hr
              have hst := osl_nil (rI .u8) 5 hst
              refine O_call (vs := #[pt p7 0, .slice (some ⟨p8, 0, none⟩) ([x1.Index, x1.Term]).length 2]) Try.call48 (by kernel_rfl) (wire_Enc_I_ok k (T_wire_Enc.mk ([])) ([x1.Index, x1.Term]) p7 none 0 (some ⟨p8, 0, none⟩) 2 y7 (((hst.pull 2).pull 1).pull 3) hy7 fun a5 c5 w hst => ?_)
              refine CK_ret rfl ?_
              refine A_all [9] (by kernel_rfl) ⟨⟨_, rfl, rfl, ?_⟩, trivial⟩
              obtain ⟨y8, hy8, hr⟩ := bnd hr
              refine O_call (vs := #[pt p7 0, .slice (some ⟨p9, 0, none⟩) ([x1.Cmd]).length 1]) Try.call49 (by kernel_rfl) (wire_Enc_S_ok k (T_wire_Enc.mk y7) ([x1.Cmd]) p7 a5 c5 (some ⟨p9, 0, none⟩) 1 y8 (((hst.pull 3).pull 1).pull 2) hy8 fun a6 c6 w hst => ?_)
              refine CK_ret rfl ?_
              refine wpG_done (by kernel_rfl) ?_ _
              refine C_keepQ [(3, pt p7 0)] rfl fun b => ?_
              refine th_n ?_
              obtain rfl := Option.some.inj hr
              have hst := ((((hst.pull 4).pull 2).pull 2).cut 3 2)
              exact ⟨a6, c6, (kpX [(3, pt p7 0)] rfl hst)⟩
          · refine O_bs (T := 9) [S x1.Cmd] #[(0, S x1.Cmd)] hst (by kernel_rfl) (by kernel_rfl) rfl fun p8 w hst => ?_
            have hst := osl_of_blk0 (ecs := [[S x1.Cmd]]) rS [x1.Cmd] rfl (fun m => ⟨⟨(), rfl, trivial⟩, trivial⟩) rfl hst
            refine A_all [4] (by kernel_rfl) ⟨⟨_, rfl, rfl, ?_⟩, trivial⟩
            refine O_bs (T := 3) [I x1.Index, I x1.Term] #[(0, I x1.Index), (1, I x1.Term)] hst (by kernel_rfl) (by kernel_rfl) rfl fun p9 w hst => ?_
            have hst := osl_of_blk0 (ecs := [[I x1.Index], [I x1.Term]]) (rI .i64) [x1.Index, x1.Term] rfl (fun m => ⟨⟨(), rfl, trivial⟩, ⟨(), rfl, trivial⟩, trivial⟩) rfl hst
            refine A_all [5] (by kernel_rfl) ⟨⟨_, rfl, rfl, ?_⟩, trivial⟩
            obtain ⟨y7, hy7, hr⟩ := bnd hr
            have hst := osl_nil (rI .u8) 5 hst
            refine O_call (vs := #[pt p7 0, .slice (some ⟨p9, 0, none⟩) ([x1.Index, x1.Term]).length 2]) Try.call48 (by kernel_rfl) (wire_Enc_I_ok k (T_wire_Enc.mk ([])) ([x1.Index, x1.Term]) p7 none 0 (some ⟨p9, 0, none⟩) 2 y7 (((hst.pull 1).pull 1).pull 3) hy7 fun a5 c5 w hst => ?_)
            refine CK_ret rfl ?_
            refine A_all [9] (by kernel_rfl) ⟨⟨_, rfl, rfl, ?_⟩, trivial⟩
            obtain ⟨y8, hy8, hr⟩ := bnd hr
            refine O_call (vs := #[pt p7 0, .slice (some ⟨p8, 0, none⟩) ([x1.Cmd]).length 1]) Try.call49 (by kernel_rfl) (wire_Enc_S_ok k (T_wire_Enc.mk y7) ([x1.Cmd]) p7 a5 c5 (some ⟨p8, 0, none⟩) 1 y8 (((hst.pull 3).pull 1).pull 2) hy8 fun a6 c6 w hst => ?_)
            refine CK_ret rfl ?_
            refine wpG_done (by kernel_rfl) ?_ _
            refine C_keepQ [(3, pt p7 0)] rfl fun b => ?_
            refine th_n ?_
            obtain rfl := Option.some.inj hr
            have hst := ((((hst.pull 4).pull 2).pull 2).cut 3 2)
            exact ⟨a6, c6, (kpX [(3, pt p7 0)] rfl hst)⟩
        · refine O_bs (T := 9) [S x1.Cmd] #[(0, S x1.Cmd)] hst (by kernel_rfl) (by kernel_rfl) rfl fun p8 w hst => ?_
          have hst := osl_of_blk0 (ecs := [[S x1.Cmd]]) rS [x1.Cmd] rfl (fun m => ⟨⟨(), rfl, trivial⟩, trivial⟩) rfl hst
          refine A_all [3] (by kernel_rfl) ⟨⟨_, rfl, rfl, ?_⟩, trivial⟩
          refine O_run (v := I x1.Term) (w' := w) (R_load (hst.pull 2) rfl rfl) rfl rfl ?_
          refine A_all [4] (by kernel_rfl) ⟨⟨_, rfl, rfl, ?_⟩, trivial⟩
          refine O_bs (T := 3) [I x1.Index, I x1.Term] #[(0, I x1.Index), (1, I x1.Term)] hst (by kernel_rfl) (by kernel_rfl) rfl fun p9 w hst => ?_
          have hst := osl_of_blk0 (ecs := [[I x1.Index], [I x1.Term]]) (rI .i64) [x1.Index, x1.Term] rfl (fun m => ⟨⟨(), rfl, trivial⟩, ⟨(), rfl, trivial⟩, trivial⟩) rfl hst
          refine A_all [5] (by kernel_rfl) ⟨⟨_, rfl, rfl, ?_⟩, trivial⟩
          obtain ⟨y7, hy7, hr⟩ := bnd hr
          have hst := osl_nil (rI .u8) 5 hst
          refine O_call (vs := #[pt p7 0, .slice (some ⟨p9, 0, none⟩) ([x1.Index, x1.Term]).length 2]) Try.call48 (by kernel_rfl) (wire_Enc_I_ok k (T_wire_Enc.mk ([])) ([x1.Index, x1.Term]) p7 none 0 (some ⟨p9, 0, none⟩) 2 y7 (((hst.pull 1).pull 1).pull 3) hy7 fun a5 c5 w hst => ?_)
          refine CK_ret rfl ?_
          refine A_all [9] (by kernel_rfl) ⟨⟨_, rfl, rfl, ?_⟩, trivial⟩
          obtain ⟨y8, hy8, hr⟩ := bnd hr
          refine O_call (vs := #[pt p7 0, .slice (some ⟨p8, 0, none⟩) ([x1.Cmd]).length 1]) Try.call49 (by kernel_rfl) (wire_Enc_S_ok k (T_wire_Enc.mk y7) ([x1.Cmd]) p7 a5 c5 (some ⟨p8, 0, none⟩) 1 y8 (((hst.pull 3).pull 1).pull 2) hy8 fun a6 c6 w hst => ?_)
          refine CK_ret rfl ?_
          refine wpG_done (by kernel_rfl) ?_ _
          refine C_keepQ [(3, pt p7 0)] rfl fun b => ?_
          refine th_n ?_
          obtain rfl := Option.some.inj hr
          have hst := ((((hst.pull 4).pull 2).pull 2).cut 3 2)
          exact ⟨a6, c6, (kpX [(3, pt p7 0)] rfl hst)⟩
    · refine O_run (v := I x1.Term) (w' := w) (R_load (hst.pull 1) rfl rfl) rfl rfl ?_
      refine A_all [1, 7] (by kernel_rfl) ⟨⟨_, rfl, rfl, ?_⟩, ⟨_, rfl, rfl, ?_⟩, trivial⟩
      · refine O_run (v := I x1.Index) (w' := w) (R_load (hst.pull 1) rfl rfl) rfl rfl ?_
        refine A_all [4, 7] (by kernel_rfl) ⟨⟨_, rfl, rfl, ?_⟩, ⟨_, rfl, rfl, ?_⟩, trivial⟩
        · refine O_bs (T := 3) [I x1.Index, I x1.Term] #[(0, I x1.Index), (1, I x1.Term)] hst (by kernel_rfl) (by kernel_rfl) rfl fun p8 w hst => ?_
          have hst := osl_of_blk0 (ecs := [[I x1.Index], [I x1.Term]]) (rI .i64) [x1.Index, x1.Term] rfl (fun m => ⟨⟨(), rfl, trivial⟩, ⟨(), rfl, trivial⟩, trivial⟩) rfl hst
          refine A_all [5, 7] (by kernel_rfl) ⟨⟨_, rfl, rfl, ?_⟩, ⟨_, rfl, rfl, ?_⟩, trivial⟩
          · obtain ⟨y7, hy7, hr⟩ := bnd hr
            have hst := osl_nil (rI .u8) 5 hst
            refine O_call (vs := #[pt p7 0, .slice (some ⟨p8, 0, none⟩) ([x1.Index, x1.Term]).length 2]) Try.call48 (by kernel_rfl) (wire_Enc_I_ok k (T_wire_Enc.mk ([])) ([x1.Index, x1.Term]) p7 none 0 (some ⟨p8, 0, none⟩) 2 y7 (((hst.pull 1).pull 1).pull 2) hy7 fun a5 c5 w hst => ?_)
            refine CK_ret rfl ?_
            refine A_all [7] (by kernel_rfl) ⟨⟨_, rfl, rfl, ?_⟩, trivial⟩
            refine O_run (v := S x1.Cmd) (w' := w) (R_load (hst.pull 3) rfl rfl) rfl rfl ?_
            refine A_all [8] (by kernel_rfl) ⟨⟨_, rfl, rfl, ?_⟩, trivial⟩
            refine O_bs (T := 9) [S x1.Cmd] #[(0, S x1.Cmd)] hst (by kernel_rfl) (by kernel_rfl) rfl fun p9 w hst => ?_
            have hst := osl_of_blk0 (ecs := [[S x1.Cmd]]) rS [x1.Cmd] rfl (fun m => ⟨⟨(), rfl, trivial⟩, trivial⟩) rfl hst
            refine A_all [9] (by kernel_rfl) ⟨⟨_, rfl, rfl, ?_⟩, trivial⟩
            obtain ⟨y8, hy8, hr⟩ := bnd hr
            refine O_call (vs := #[pt p7 0, .slice (some ⟨p9, 0, none⟩) ([x1.Cmd]).length 1]) Try.call49 (by kernel_rfl) (wire_Enc_S_ok k (T_wire_Enc.mk y7) ([x1.Cmd]) p7 a5 c5 (some ⟨p9, 0, none⟩) 1 y8 ((hst.pull 1).pull 2) hy8 fun a6 c6 w hst => ?_)
            refine CK_ret rfl ?_
            refine wpG_done (by kernel_rfl) ?_ _
            refine C_keepQ [(3, pt p7 0)] rfl fun b => ?_
            refine th_n ?_
            obtain rfl := Option.some.inj hr
            have hst := ((((hst.pull 4).pull 2).pull 2).cut 3 2)
            exact ⟨a6, c6, (kpX [(3, pt p7 0)] rfl hst)⟩
          · refine O_run (v := S x1.Cmd) (w' := w) (R_load (hst.pull 2) rfl rfl) rfl rfl ?_
            refine A_all [5, 8] (by kernel_rfl) ⟨⟨_, rfl, rfl, ?_⟩, ⟨_, rfl, rfl, ?_⟩, trivial⟩
            · obtain ⟨y7, hy7, hr⟩ := bnd hr
              have hst := osl_nil (rI .u8) 5 hst
              refine O_call (vs := #[pt p7 0, .slice (some ⟨p8, 0, none⟩) ([x1.Index, x1.Term]).length 2]) Try.call48 (by kernel_rfl) (wire_Enc_I_ok k (T_wire_Enc.mk ([])) ([x1.Index, x1.Term]) p7 none 0 (some ⟨p8, 0, none⟩) 2 y7 (((hst.pull 1).pull 1).pull 2) hy7 fun a5 c5 w hst => ?_)
              refine CK_ret rfl ?_
              refine A_all [8] (by kernel_rfl) ⟨⟨_, rfl, rfl, ?_⟩, trivial⟩
              refine O_bs (T := 9) [S x1.Cmd] #[(0, S x1.Cmd)] hst (by kernel_rfl) (by kernel_rfl) rfl fun p9 w hst => ?_
              have hst := osl_of_blk0 (ecs := [[S x1.Cmd]]) rS [x1.Cmd] rfl (fun m => ⟨⟨(), rfl, trivial⟩, trivial⟩) rfl hst
              refine A_all [9] (by kernel_rfl) ⟨⟨_, rfl, rfl, ?_⟩, trivial⟩
              obtain ⟨y8, hy8, hr⟩ := bnd hr
              refine O_call (vs := #[pt p7 0, .slice (some ⟨p9, 0, none⟩) ([x1.Cmd]).length 1]) Try.call49 (by kernel_rfl) (wire_Enc_S_ok k (T_wire_Enc.mk y7) ([x1.Cmd]) p7 a5 c5 (some ⟨p9, 0, none⟩) 1 y8 ((hst.pull 1).pull 2) hy8 fun a6 c6 w hst => ?_)
              refine CK_ret rfl ?_
              refine wpG_done (by kernel_rfl) ?_ _
              refine C_keepQ [(3, pt p7 0)] rfl fun b => ?_
              refine th_n ?_
              obtain rfl := Option.some.inj hr
              have hst := ((((hst.pull 4).pull 2).pull 2).cut 3 2)
              exact ⟨a6, c6, (kpX [(3, pt p7 0)] rfl hst)⟩
            · refine O_bs (T := 9) [S x1.Cmd] #[(0, S x1.Cmd)] hst (by kernel_rfl) (by kernel_rfl) rfl fun p9 w hst => ?_
              have hst := osl_of_blk0 (ecs := [[S x1.Cmd]]) rS [x1.Cmd] rfl (fun m => ⟨⟨(), rfl, trivial⟩, trivial⟩) rfl hst
              refine A_all [5] (by kernel_rfl) ⟨⟨_, rfl, rfl, ?_⟩, trivial⟩
              obtain ⟨y7, hy7, hr⟩ := bnd hr
              have hst := osl_nil (rI .u8) 5 hst
              refine O_call (vs := #[pt p7 0, .slice (some ⟨p8, 0, none⟩) ([x1.Index, x1.Term]).length 2]) Try.call48 (by kernel_rfl) (wire_Enc_I_ok k (T_wire_Enc.mk ([])) ([x1.Index, x1.Term]) p7 none 0 (some ⟨p8, 0, none⟩) 2 y7 (((hst.pull 2).pull 1).pull 3) hy7 fun a5 c5 w hst => ?_)
              refine CK_ret rfl ?_
              refine A_all [9] (by kernel_rfl) ⟨⟨_, rfl, rfl, ?_⟩, trivial⟩
              obtain ⟨y8, hy8, hr⟩ := bnd hr
              refine O_call (vs := #[pt p7 0, .slice (some ⟨p9, 0, none⟩) ([x1.Cmd]).length 1]) Try.call49 (by kernel_rfl) (wire_Enc_S_ok k (T_wire_Enc.mk y7) ([x1.Cmd]) p7 a5 c5 (some ⟨p9, 0, none⟩) 1 y8 (((hst.pull 3).pull 1).pull 2) hy8 fun a6 c6 w hst => ?_)
              refine CK_ret rfl ?_
              refine wpG_done (by kernel_rfl) ?_ _
              refine C_keepQ [(3, pt p7 0)] rfl fun b => ?_
              refine th_n ?_
              obtain rfl := Option.some.inj hr
              have hst := ((((hst.pull 4).pull 2).pull 2).cut 3 2)
              exact ⟨a6, c6, (kpX [(3, pt p7 0)] rfl hst)⟩
        · refine O_run (v := S x1.Cmd) (w' := w) (R_load (hst.pull 1) rfl rfl) rfl rfl ?_
          refine A_all [4, 8] (by kernel_rfl) ⟨⟨_, rfl, rfl, ?_⟩, ⟨_, rfl, rfl, ?_⟩, trivial⟩
          · refine O_bs (T := 3) [I x1.Index, I x1.Term] #[(0, I x1.Index), (1, I x1.Term)] hst (by kernel_rfl) (by kernel_rfl) rfl fun p8 w hst => ?_
            have hst := osl_of_blk0 (ecs := [[I x1.Index], [I x1.Term]]) (rI .i64) [x1.Index, x1.Term] rfl (fun m => ⟨⟨(), rfl, trivial⟩, ⟨(), rfl, trivial⟩, trivial⟩) rfl hst
            refine A_all [5, 8] (by kernel_rfl) ⟨⟨_, rfl, rfl, ?_⟩, ⟨_, rfl, rfl, ?_⟩, trivial⟩
            · obtain ⟨y7, hy7, hr⟩ := bnd hr
              have hst := osl_nil (rI .u8) 5 hst
              refine O_call (vs := #[pt p7 0, .slice (some ⟨p8, 0, none⟩) ([x1.Index, x1.Term]).length 2]) Try.call48 (by kernel_rfl) (wire_Enc_I_ok k (T_wire_Enc.mk ([])) ([x1.Index, x1.Term]) p7 none 0 (some ⟨p8, 0, none⟩) 2 y7 (((hst.pull 1).pull 1).pull 2) hy7 fun a5 c5 w hst => ?_)
              refine CK_ret rfl ?_
              refine A_all [8] (by kernel_rfl) ⟨⟨_, rfl, rfl, ?_⟩, trivial⟩
              refine O_bs (T := 9) [S x1.Cmd] #[(0, S x1.Cmd)] hst (by kernel_rfl) (by kernel_rfl) rfl fun p9 w hst => ?_
              have hst := osl_of_blk0 (ecs := [[S x1.Cmd]]) rS [x1.Cmd] rfl (fun m => ⟨⟨(), rfl, trivial⟩, trivial⟩) rfl hst
              refine A_all [9] (by kernel_rfl) ⟨⟨_, rfl, rfl, ?_⟩, trivial⟩
              obtain ⟨y8, hy8, hr⟩ := bnd hr
              refine O_call (vs := #[pt p7 0, .slice (some ⟨p9, 0, none⟩) ([x1.Cmd]).length 1]) Try.call49 (by kernel_rfl) (wire_Enc_S_ok k (T_wire_Enc.mk y7) ([x1.Cmd]) p7 a5 c5 (some ⟨p9, 0, none⟩) 1 y8 ((hst.pull 1).pull 2) hy8 fun a6 c6 w hst => ?_)
              refine CK_ret rfl ?_
              refine wpG_done (by kernel_rfl) ?_ _
              refine C_keepQ [(3, pt p7 0)] rfl fun b => ?_
              refine th_n ?_
              obtain rfl := Option.some.inj hr
              have hst := ((((hst.pull 4).pull 2).pull 2).cut 3 2)
              exact ⟨a6, c6, (kpX [(3, pt p7 0)] rfl hst)⟩
            · refine O_bs (T := 9) [S x1.Cmd] #[(0, S x1.Cmd)] hst (by kernel_rfl) (by kernel_rfl) rfl fun p9 w hst => ?_
              have hst := osl_of_blk0 (ecs := [[S x1.Cmd]]) rS [x1.Cmd] rfl (fun m => ⟨⟨(), rfl, trivial⟩, trivial⟩) rfl hst
              refine A_all [5] (by kernel_rfl) ⟨⟨_, rfl, rfl, ?_⟩, trivial⟩
              obtain ⟨y7, hy7, hr⟩ := bnd hr
              have hst := osl_nil (rI .u8) 5 hst
              refine O_call (vs := #[pt p7 0, .slice (some ⟨p8, 0, none⟩) ([x1.Index, x1.Term]).length 2]) Try.call48 (by kernel_rfl) (wire_Enc_I_ok k (T_wire_Enc.mk ([])) ([x1.Index, x1.Term]) p7 none 0 (some ⟨p8, 0, none⟩) 2 y7 (((hst.pull 2).pull 1).pull 3) hy7 fun a5 c5 w hst => ?_)
              refine CK_ret rfl ?_
              refine A_all [9] (by kernel_rfl) ⟨⟨_, rfl, rfl, ?_⟩, trivial⟩
              obtain ⟨y8, hy8, hr⟩ := bnd hr
              refine O_call (vs := #[pt p7 0, .slice (some ⟨p9, 0, none⟩) ([x1.Cmd]).length 1]) Try.call49 (by kernel_rfl) (wire_Enc_S_ok k (T_wire_Enc.mk y7) ([x1.Cmd]) p7 a5 c5 (some ⟨p9, 0, none⟩) 1 y8 (((hst.pull 3).pull 1).pull 2) hy8 fun a6 c6 w hst => ?_)
              refine CK_ret rfl ?_
              refine wpG_done (by kernel_rfl) ?_ _
              refine C_keepQ [(3, pt p7 0)] rfl fun b => ?_
              refine th_n ?_
              obtain rfl := Option.some.inj hr
              have hst := ((((hst.pull 4).pull 2).pull 2).cut 3 2)
              exact ⟨a6, c6, (kpX [(3, pt p7 0)] rfl hst)⟩
          · refine O_bs (T := 9) [S x1.Cmd] #[(0, S x1.Cmd)] hst (by kernel_rfl) (by kernel_rfl) rfl fun p8 w hst => ?_
            have hst := osl_of_blk0 (ecs := [[S x1.Cmd]]) rS [x1.Cmd] rfl (fun m => ⟨⟨(), rfl, trivial⟩, trivial⟩) rfl hst
            refine A_all [4] (by kernel_rfl) ⟨⟨_, rfl, rfl, ?_⟩, trivial⟩
            refine O_bs (T := 3) [I x1.Index, I x1.Term] #[(0, I x1.Index), (1, I x1.Term)] hst (by kernel_rfl) (by kernel_rfl) rfl fun p9 w hst => ?_
            have hst := osl_of_blk0 (ecs := [[I x1.Index], [I x1.Term]]) (rI .i64) [x1.Index, x1.Term] rfl (fun m => ⟨⟨(), rfl, trivial⟩, ⟨(), rfl, trivial⟩, trivial⟩) rfl hst
            refine A_all [5] (by kernel_rfl) ⟨⟨_, rfl, rfl, ?_⟩, trivial⟩
            obtain ⟨y7, hy7, hr⟩ := bnd hr
            have hst := osl_nil (rI .u8) 5 hst
            refine O_call (vs := #[pt p7 0, .slice (some ⟨p9, 0, none⟩) ([x1.Index, x1.Term]).length 2]) Try.call48 (by kernel_rfl) (wire_Enc_I_ok k (T_wire_Enc.mk ([])) ([x1.Index, x1.Term]) p7 none 0 (some ⟨p9, 0, none⟩) 2 y7 (((hst.pull 1).pull 1).pull 3) hy7 fun a5 c5 w hst => ?_)
            refine CK_ret rfl ?_
            refine A_all [9] (by kernel_rfl) ⟨⟨_, rfl, rfl, ?_⟩, trivial⟩
            obtain ⟨y8, hy8, hr⟩ := bnd hr
            refine O_call (vs := #[pt p7 0, .slice (some ⟨p8, 0, none⟩) ([x1.Cmd]).length 1]) Try.call49 (by kernel_rfl) (wire_Enc_S_ok k (T_wire_Enc.mk y7) ([x1.Cmd]) p7 a5 c5 (some ⟨p8, 0, none⟩) 1 y8 (((hst.pull 3).pull 1).pull 2) hy8 fun a6 c6 w hst => ?_)
            refine CK_ret rfl ?_
            refine wpG_done (by kernel_rfl) ?_ _
            refine C_keepQ [(3, pt p7 0)] rfl fun b => ?_
            refine th_n ?_
            obtain rfl := Option.some.inj hr
            have hst := ((((hst.pull 4).pull 2).pull 2).cut 3 2)
            exact ⟨a6, c6, (kpX [(3, pt p7 0)] rfl hst)⟩
      · refine O_run (v := S x1.Cmd) (w' := w) (R_load (hst.pull 1) rfl rfl) rfl rfl ?_
        refine A_all [1, 8] (by kernel_rfl) ⟨⟨_, rfl, rfl, ?_⟩, ⟨_, rfl, rfl, ?_⟩, trivial⟩
        · refine O_run (v := I x1.Index) (w' := w) (R_load (hst.pull 1) rfl rfl) rfl rfl ?_
          refine A_all [4, 8] (by kernel_rfl) ⟨⟨_, rfl, rfl, ?_⟩, ⟨_, rfl, rfl, ?_⟩, trivial⟩
          · refine O_bs (T := 3) [I x1.Index, I x1.Term] #[(0, I x1.Index), (1, I x1.Term)] hst (by kernel_rfl) (by kernel_rfl) rfl fun p8 w hst => ?_
            have hst := osl_of_blk0 (ecs := [[I x1.Index], [I x1.Term]]) (rI .i64) [x1.Index, x1.Term] rfl (fun m => ⟨⟨(), rfl, trivial⟩, ⟨(), rfl, trivial⟩, trivial⟩) rfl hst
            refine A_all [5, 8] (by kernel_rfl) ⟨⟨_, rfl, rfl, ?_⟩, ⟨_, rfl, rfl, ?_⟩, trivial⟩
            · obtain ⟨y7, hy7, hr⟩ := bnd hr
              have hst := osl_nil (rI .u8) 5 hst
              refine O_call (vs := #[pt p7 0, .slice (some ⟨p8, 0, none⟩) ([x1.Index, x1.Term]).length 2]) Try.call48 (by kernel_rfl) (wire_Enc_I_ok k (T_wire_Enc.mk ([])) ([x1.Index, x1.Term]) p7 none 0 (some ⟨p8, 0, none⟩) 2 y7 (((hst.pull 1).pull 1).pull 2) hy7 fun a5 c5 w hst => ?_)
              refine CK_ret rfl ?_
              refine A_all [8] (by kernel_rfl) ⟨⟨_, rfl, rfl, ?_⟩, trivial⟩
              refine O_bs (T := 9) [S x1.Cmd] #[(0, S x1.Cmd)] hst (by kernel_rfl) (by kernel_rfl) rfl fun p9 w hst => ?_
              have hst := osl_of_blk0 (ecs := [[S x1.Cmd]]) rS [x1.Cmd] rfl (fun m => ⟨⟨(), rfl, trivial⟩, trivial⟩) rfl hst
              refine A_all [9] (by kernel_rfl) ⟨⟨_, rfl, rfl, ?_⟩, trivial⟩
              obtain ⟨y8, hy8, hr⟩ := bnd hr
              refine O_call (vs := #[pt p7 0, .slice (some ⟨p9, 0, none⟩) ([x1.Cmd]).length 1]) Try.call49 (by kernel_rfl) (wire_Enc_S_ok k (T_wire_Enc.mk y7) ([x1.Cmd]) p7 a5 c5 (some ⟨p9, 0, none⟩) 1 y8 ((hst.pull 1).pull 2) hy8 fun a6 c6 w hst => ?_)
              refine CK_ret rfl ?_
              refine wpG_done (by kernel_rfl) ?_ _
              refine C_keepQ [(3, pt p7 0)] rfl fun b => ?_
              refine th_n ?_
              obtain rfl := Option.some.inj hr
              have hst := ((((hst.pull 4).pull 2).pull 2).cut 3 2)
              exact ⟨a6, c6, (kpX [(3, pt p7 0)] rfl hst)⟩
            · refine O_bs (T := 9) [S x1.Cmd] #[(0, S x1.Cmd)] hst (by kernel_rfl) (by kernel_rfl) rfl fun p9 w hst => ?_
              have hst := osl_of_blk0 (ecs := [[S x1.Cmd]]) rS [x1.Cmd] rfl (fun m => ⟨⟨(), rfl, trivial⟩, trivial⟩) rfl hst
              refine A_all [5] (by kernel_rfl) ⟨⟨_, rfl, rfl, ?_⟩, trivial⟩
              obtain ⟨y7, hy7, hr⟩ := bnd hr
              have hst := osl_nil (rI .u8) 5 hst
              refine O_call (vs := #[pt p7 0, .slice (some ⟨p8, 0, none⟩) ([x1.Index, x1.Term]).length 2]) Try.call48 (by kernel_rfl) (wire_Enc_I_ok k (T_wire_Enc.mk ([])) ([x1.Index, x1.Term]) p7 none 0 (some ⟨p8, 0, none⟩) 2 y7 (((hst.pull 2).pull 1).pull 3) hy7 fun a5 c5 w hst => ?_)
              refine CK_ret rfl ?_
              refine A_all [9] (by kernel_rfl) ⟨⟨_, rfl, rfl, ?_⟩, trivial⟩
              obtain ⟨y8, hy8, hr⟩ := bnd hr
              refine O_call (vs := #[pt p7 0, .slice (some ⟨p9, 0, none⟩) ([x1.Cmd]).length 1]) Try.call49 (by kernel_rfl) (wire_Enc_S_ok k (T_wire_Enc.mk y7) ([x1.Cmd]) p7 a5 c5 (some ⟨p9, 0, none⟩) 1 y8 (((hst.pull 3).pull 1).pull 2) hy8 fun a6 c6 w hst => ?_)
              refine CK_ret rfl ?_
              refine wpG_done (by kernel_rfl) ?_ _
              refine C_keepQ [(3, pt p7 0)] rfl fun b => ?_
              refine th_n ?_
              obtain rfl := Option.some.inj hr
              have hst := ((((hst.pull 4).pull 2).pull 2).cut 3 2)
              exact ⟨a6, c6, (kpX [(3, pt p7 0)] rfl hst)⟩
          · refine O_bs (T := 9) [S x1.Cmd] #[(0, S x1.Cmd)] hst (by kernel_rfl) (by kernel_rfl) rfl fun p8 w hst => ?_
            have hst := osl_of_blk0 (ecs := [[S x1.Cmd]]) rS [x1.Cmd] rfl (fun m => ⟨⟨(), rfl, trivial⟩, trivial⟩) rfl hst
            refine A_all [4] (by kernel_rfl) ⟨⟨_, rfl, rfl, ?_⟩, trivial⟩
            refine O_bs (T := 3) [I x1.Index, I x1.Term] #[(0, I x1.Index), (1, I x1.Term)] hst (by kernel_rfl) (by kernel_rfl) rfl fun p9 w hst => ?_
            have hst := osl_of_blk0 (ecs := [[I x1.Index], [I x1.Term]]) (rI .i64) [x1.Index, x1.Term] rfl (fun m => ⟨⟨(), rfl, trivial⟩, ⟨(), rfl, trivial⟩, trivial⟩) rfl hst
            refine A_all [5] (by kernel_rfl) ⟨⟨_, rfl, rfl, ?_⟩, trivial⟩
            obtain ⟨y7, hy7, hr⟩ := bnd hr
            have hst := osl_nil (rI .u8) 5 hst
            refine O_call (vs := #[pt p7 0, .slice (some ⟨p9, 0, none⟩) ([x1.Index, x1.Term]).length 2]) Try.call48 (by kernel_rfl) (wire_Enc_I_ok k (T_wire_Enc.mk ([])) ([x1.Index, x1.Term]) p7 none 0 (some ⟨p9, 0, none⟩) 2 y7 (((hst.pull 1).pull 1).pull 3) hy7 fun a5 c5 w hst => ?_)
            refine CK_ret rfl ?_
            refine A_all [9] (by kernel_rfl) ⟨⟨_, rfl, rfl, ?_⟩, trivial⟩
            obtain ⟨y8, hy8, hr⟩ := bnd hr
            refine O_call (vs := #[pt p7 0, .slice (some ⟨p8, 0, none⟩) ([x1.Cmd]).length 1]) Try.call49 (by kernel_rfl) (wire_Enc_S_ok k (T_wire_Enc.mk y7) ([x1.Cmd]) p7 a5 c5 (some ⟨p8, 0, none⟩) 1 y8 (((hst.pull 3).pull 1).pull 2) hy8 fun a6 c6 w hst => ?_)
            refine CK_ret rfl ?_
            refine wpG_done (by kernel_rfl) ?_ _
            refine C_keepQ [(3, pt p7 0)] rfl fun b => ?_
            refine th_n ?_
            obtain rfl := Option.some.inj hr
            have hst := ((((hst.pull 4).pull 2).pull 2).cut 3 2)
            exact ⟨a6, c6, (kpX [(3, pt p7 0)] rfl hst)⟩
        · refine O_bs (T := 9) [S x1.Cmd] #[(0, S x1.Cmd)] hst (by kernel_rfl) (by kernel_rfl) rfl fun p8 w hst => ?_
          have hst := osl_of_blk0 (ecs := [[S x1.Cmd]]) rS [x1.Cmd] rfl (fun m => ⟨⟨(), rfl, trivial⟩, trivial⟩) rfl hst
          refine A_all [1] (by kernel_rfl) ⟨⟨_, rfl, rfl, ?_⟩, trivial⟩
          refine O_run (v := I x1.Index) (w' := w) (R_load (hst.pull 2) rfl rfl) rfl rfl ?_
          refine A_all [4] (by kernel_rfl) ⟨⟨_, rfl, rfl, ?_⟩, trivial⟩
          refine O_bs (T := 3) [I x1.Index, I x1.Term] #[(0, I x1.Index), (1, I x1.Term)] hst (by kernel_rfl) (by kernel_rfl) rfl fun p9 w hst => ?_
          have hst := osl_of_blk0 (ecs := [[I x1.Index], [I x1.Term]]) (rI .i64) [x1.Index, x1.Term] rfl (fun m => ⟨⟨(), rfl, trivial⟩, ⟨(), rfl, trivial⟩, trivial⟩) rfl hst
          refine A_all [5] (by kernel_rfl) ⟨⟨_, rfl, rfl, ?_⟩, trivial⟩
          obtain ⟨y7, hy7, hr⟩ := bnd hr
          have hst := osl_nil (rI .u8) 5 hst
          refine O_call (vs := #[pt p7 0, .slice (some ⟨p9, 0, none⟩) ([x1.Index, x1.Term]).length 2]) Try.call48 (by kernel_rfl) (wire_Enc_I_ok k (T_wire_Enc.mk ([])) ([x1.Index, x1.Term]) p7 none 0 (some ⟨p9, 0, none⟩) 2 y7 (((hst.pull 1).pull 1).pull 3) hy7 fun a5 c5 w hst => ?_)
          refine CK_ret rfl ?_
          refine A_all [9] (by kernel_rfl) ⟨⟨_, rfl, rfl, ?_⟩, trivial⟩
          obtain ⟨y8, hy8, hr⟩ := bnd hr
          refine O_call (vs := #[pt p7 0, .slice (some ⟨p8, 0, none⟩) ([x1.Cmd]).length 1]) Try.call49 (by kernel_rfl) (wire_Enc_S_ok k (T_wire_Enc.mk y7) ([x1.Cmd]) p7 a5 c5 (some ⟨p8, 0, none⟩) 1 y8 (((hst.pull 3).pull 1).pull 2) hy8 fun a6 c6 w hst => ?_)
          refine CK_ret rfl ?_
          refine wpG_done (by kernel_rfl) ?_ _
          refine C_keepQ [(3, pt p7 0)] rfl fun b => ?_
          refine th_n ?_
          obtain rfl := Option.some.inj hr
          have hst := ((((hst.pull 4).pull 2).pull 2).cut 3 2)
          exact ⟨a6, c6, (kpX [(3, pt p7 0)] rfl hst)⟩
    · refine O_run (v := S x1.Cmd) (w' := w) (R_load (hst.pull 1) rfl rfl) rfl rfl ?_
      refine A_all [1, 3, 8] (by kernel_rfl) ⟨⟨_, rfl, rfl, ?_⟩, ⟨_, rfl, rfl, ?_⟩, ⟨_, rfl, rfl, ?_⟩, trivial⟩
      · refine O_run (v := I x1.Index) (w' := w) (R_load (hst.pull 1) rfl rfl) rfl rfl ?_
        refine A_all [3, 8] (by kernel_rfl) ⟨⟨_, rfl, rfl, ?_⟩, ⟨_, rfl, rfl, ?_⟩, trivial⟩
        · refine O_run (v := I x1.Term) (w' := w) (R_load (hst.pull 1) rfl rfl) rfl rfl ?_
          refine A_all [4, 8] (by kernel_rfl) ⟨⟨_, rfl, rfl, ?_⟩, ⟨_, rfl, rfl, ?_⟩, trivial⟩
          · refine O_bs (T := 3) [I x1.Index, I x1.Term] #[(0, I x1.Index), (1, I x1.Term)] hst (by kernel_rfl) (by kernel_rfl) rfl fun p8 w hst => ?_
            have hst := osl_of_blk0 (ecs := [[I x1.Index], [I x1.Term]]) (rI .i64) [x1.Index, x1.Term] rfl (fun m => ⟨⟨(), rfl, trivial⟩, ⟨(), rfl, trivial⟩, trivial⟩) rfl hst
            refine A_all [5, 8] (by kernel_rfl) ⟨⟨_, rfl, rfl, ?_⟩, ⟨_, rfl, rfl, ?_⟩, trivial⟩
            · obtain ⟨y7, hy7, hr⟩ := bnd hr
              have hst := osl_nil (rI .u8) 5 hst
              refine O_call (vs := #[pt p7 0, .slice (some ⟨p8, 0, none⟩) ([x1.Index, x1.Term]).length 2]) Try.call48 (by kernel_rfl) (wire_Enc_I_ok k (T_wire_Enc.mk ([])) ([x1.Index, x1.Term]) p7 none 0 (some ⟨p8, 0, none⟩) 2 y7 (((hst.pull 1).pull 1).pull 2) hy7 fun a5 c5 w hst => ?_)
              refine CK_ret rfl ?_
              refine A_all [8] (by kernel_rfl) ⟨⟨_, rfl, rfl, ?_⟩, trivial⟩
              refine O_bs (T := 9) [S x1.Cmd] #[(0, S x1.Cmd)] hst (by kernel_rfl) (by kernel_rfl) rfl fun p9 w hst => ?_
              have hst := osl_of_blk0 (ecs := [[S x1.Cmd]]) rS [x1.Cmd] rfl (fun m => ⟨⟨(), rfl, trivial⟩, trivial⟩) rfl hst
              refine A_all [9] (by kernel_rfl) ⟨⟨_, rfl, rfl, ?_⟩, trivial⟩
              obtain ⟨y8, hy8, hr⟩ := bnd hr
              refine O_call (vs := #[pt p7 0, .slice (some ⟨p9, 0, none⟩) ([x1.Cmd]).length 1]) Try.call49 (by kernel_rfl) (wire_Enc_S_ok k (T_wire_Enc.mk y7) ([x1.Cmd]) p7 a5 c5 (some ⟨p9, 0, none⟩) 1 y8 ((hst.pull 1).pull 2) hy8 fun a6 c6 w hst => ?_)
              refine CK_ret rfl ?_
              refine wpG_done (by kernel_rfl) ?_ _
              refine C_keepQ [(3, pt p7 0)] rfl fun b => ?_
              refine th_n ?_
              obtain rfl := Option.some.inj hr
              have hst := ((((hst.pull 4).pull 2).pull 2).cut 3 2)
              exact ⟨a6, c6, (kpX [(3, pt p7 0)] rfl hst)⟩
            · refine O_bs (T := 9) [S x1.Cmd] #[(0, S x1.Cmd)] hst (by kernel_rfl) (by kernel_rfl) rfl fun p9 w hst => ?_
              have hst := osl_of_blk0 (ecs := [[S x1.Cmd]]) rS [x1.Cmd] rfl (fun m => ⟨⟨(), rfl, trivial⟩, trivial⟩) rfl hst
              refine A_all [5] (by kernel_rfl) ⟨⟨_, rfl, rfl, ?_⟩, trivial⟩
              obtain ⟨y7, hy7, hr⟩ := bnd hr
              have hst := osl_nil (rI .u8) 5 hst
              refine O_call (vs := #[pt p7 0, .slice (some ⟨p8, 0, none⟩) ([x1.Index, x1.Term]).length 2]) Try.call48 (by kernel_rfl) (wire_Enc_I_ok k (T_wire_Enc.mk ([])) ([x1.Index, x1.Term]) p7 none 0 (some ⟨p8, 0, none⟩) 2 y7 (((hst.pull 2).pull 1).pull 3) hy7 fun a5 c5 w hst => ?_)
              refine CK_ret rfl ?_
              refine A_all [9] (by kernel_rfl) ⟨⟨_, rfl, rfl, ?_⟩, trivial⟩
              obtain ⟨y8, hy8, hr⟩ := bnd hr
              refine O_call (vs := #[pt p7 0, .slice (some ⟨p9, 0, none⟩) ([x1.Cmd]).length 1]) Try.call49 (by kernel_rfl) (wire_Enc_S_ok k (T_wire_Enc.mk y7) ([x1.Cmd]) p7 a5 c5 (some ⟨p9, 0, none⟩) 1 y8 (((hst.pull 3).pull 1).pull 2) hy8 fun a6 c6 w hst => ?_)
              refine CK_ret rfl ?_
              refine wpG_done (by kernel_rfl) ?_ _
              refine C_keepQ [(3, pt p7 0)] rfl fun b => ?_
              refine th_n ?_
              obtain rfl := Option.some.inj hr
              have hst := ((((hst.pull 4).pull 2).pull 2).cut 3 2)
              exact ⟨a6, c6, (kpX [(3, pt p7 0)] rfl hst)⟩
          · refine O_bs (T := 9) [S x1.Cmd] #[(0, S x1.Cmd)] hst (by kernel_rfl) (by kernel_rfl) rfl fun p8 w hst => ?_
            have hst := osl_of_blk0 (ecs := [[S x1.Cmd]]) rS [x1.Cmd] rfl (fun m => ⟨⟨(), rfl, trivial⟩, trivial⟩) rfl hst
            refine A_all [4] (by kernel_rfl) ⟨⟨_, rfl, rfl, ?_⟩, trivial⟩
            refine O_bs (T := 3) [I x1.Index, I x1.Term] #[(0, I x1.Index), (1, I x1.Term)] hst (by kernel_rfl) (by kernel_rfl) rfl fun p9 w hst => ?_
            have hst := osl_of_blk0 (ecs := [[I x1.Index], [I x1.Term]]) (rI .i64) [x1.Index, x1.Term] rfl (fun m => ⟨⟨(), rfl, trivial⟩, ⟨(), rfl, trivial⟩, trivial⟩) rfl hst
            refine A_all [5] (by kernel_rfl) ⟨⟨_, rfl, rfl, ?_⟩, trivial⟩
            obtain ⟨y7, hy7, hr⟩ := bnd hr
            have hst := osl_nil (rI .u8) 5 hst
            refine O_call (vs := #[pt p7 0, .slice (some ⟨p9, 0, none⟩) ([x1.Index, x1.Term]).length 2]) Try.call48 (by kernel_rfl) (wire_Enc_I_ok k (T_wire_Enc.mk ([])) ([x1.Index, x1.Term]) p7 none 0 (some ⟨p9, 0, none⟩) 2 y7 (((hst.pull 1).pull 1).pull 3) hy7 fun a5 c5 w hst => ?_)
            refine CK_ret rfl ?_
            refine A_all [9] (by kernel_rfl) ⟨⟨_, rfl, rfl, ?_⟩, trivial⟩
            obtain ⟨y8, hy8, hr⟩ := bnd hr
            refine O_call (vs := #[pt p7 0, .slice (some ⟨p8, 0, none⟩) ([x1.Cmd]).length 1]) Try.call49 (by kernel_rfl) (wire_Enc_S_ok k (T_wire_Enc.mk y7) ([x1.Cmd]) p7 a5 c5 (some ⟨p8, 0, none⟩) 1 y8 (((hst.pull 3).pull 1).pull 2) hy8 fun a6 c6 w hst => ?_)
            refine CK_ret rfl ?_
            refine wpG_done (by kernel_rfl) ?_ _
            refine C_keepQ [(3, pt p7 0)] rfl fun b => ?_
            refine th_n ?_
            obtain rfl := Option.some.inj hr
            have hst := ((((hst.pull 4).pull 2).pull 2).cut 3 2)
            exact ⟨a6, c6, (kpX [(3, pt p7 0)] rfl hst)⟩
        · refine O_bs (T := 9) [S x1.Cmd] #[(0, S x1.Cmd)] hst (by kernel_rfl) (by kernel_rfl) rfl fun p8 w hst => ?_
          have hst := osl_of_blk0 (ecs := [[S x1.Cmd]]) rS [x1.Cmd] rfl (fun m => ⟨⟨(), rfl, trivial⟩, trivial⟩) rfl hst
          refine A_all [3] (by kernel_rfl) ⟨⟨_, rfl, rfl, ?_⟩, trivial⟩
          refine O_run (v := I x1.Term) (w' := w) (R_load (hst.pull 2) rfl rfl) rfl rfl ?_
          refine A_all [4] (by kernel_rfl) ⟨⟨_, rfl, rfl, ?_⟩, trivial⟩
          refine O_bs (T := 3) [I x1.Index, I x1.Term] #[(0, I x1.Index), (1, I x1.Term)] hst (by kernel_rfl) (by kernel_rfl) rfl fun p9 w hst => ?_
          have hst := osl_of_blk0 (ecs := [[I x1.Index], [I x1.Term]]) (rI .i64) [x1.Index, x1.Term] rfl (fun m => ⟨⟨(), rfl, trivial⟩, ⟨(), rfl, trivial⟩, trivial⟩) rfl hst
          refine A_all [5] (by kernel_rfl) ⟨⟨_, rfl, rfl, ?_⟩, trivial⟩
          obtain ⟨y7, hy7, hr⟩ := bnd hr
          have hst := osl_nil (rI .u8) 5 hst
          refine O_call (vs := #[pt p7 0, .slice (some ⟨p9, 0, none⟩) ([x1.Index, x1.Term]).length 2]) Try.call48 (by kernel_rfl) (wire_Enc_I_ok k (T_wire_Enc.mk ([])) ([x1.Index, x1.Term]) p7 none 0 (some ⟨p9, 0, none⟩) 2 y7 (((hst.pull 1).pull 1).pull 3) hy7 fun a5 c5 w hst => ?_)
          refine CK_ret rfl ?_
          refine A_all [9] (by kernel_rfl) ⟨⟨_, rfl, rfl, ?_⟩, trivial⟩
          obtain ⟨y8, hy8, hr⟩ := bnd hr
          refine O_call (vs := #[pt p7 0, .slice (some ⟨p8, 0, none⟩) ([x1.Cmd]).length 1]) Try.call49 (by kernel_rfl) (wire_Enc_S_ok k (T_wire_Enc.mk y7) ([x1.Cmd]) p7 a5 c5 (some ⟨p8, 0, none⟩) 1 y8 (((hst.pull 3).pull 1).pull 2) hy8 fun a6 c6 w hst => ?_)
          refine CK_ret rfl ?_
          refine wpG_done (by kernel_rfl) ?_ _
          refine C_keepQ [(3, pt p7 0)] rfl fun b => ?_
          refine th_n ?_
          obtain rfl := Option.some.inj hr
          have hst := ((((hst.pull 4).pull 2).pull 2).cut 3 2)
          exact ⟨a6, c6, (kpX [(3, pt p7 0)] rfl hst)⟩
      · refine O_run (v := I x1.Term) (w' := w) (R_load (hst.pull 1) rfl rfl) rfl rfl ?_
        refine A_all [1, 8] (by kernel_rfl) ⟨⟨_, rfl, rfl, ?_⟩, ⟨_, rfl, rfl, ?_⟩, trivial⟩
        · refine O_run (v := I x1.Index) (w' := w) (R_load (hst.pull 1) rfl rfl) rfl rfl ?_
          refine A_all [4, 8] (by kernel_rfl) ⟨⟨_, rfl, rfl, ?_⟩, ⟨_, rfl, rfl, ?_⟩, trivial⟩
          · refine O_bs (T := 3) [I x1.Index, I x1.Term] #[(0, I x1.Index), (1, I x1.Term)] hst (by kernel_rfl) (by kernel_rfl) rfl fun p8 w hst => ?_
            have hst := osl_of_blk0 (ecs := [[I x1.Index], [I x1.Term]]) (rI .i64) [x1.Index, x1.Term] rfl (fun m => ⟨⟨(), rfl, trivial⟩, ⟨(), rfl, trivial⟩, trivial⟩) rfl hst
            refine A_all [5, 8] (by kernel_rfl) ⟨⟨_, rfl, rfl, ?_⟩, ⟨_, rfl, rfl, ?_⟩, trivial⟩
            · obtain ⟨y7, hy7, hr⟩ := bnd hr
              have hst := osl_nil (rI .u8) 5 hst
              refine O_call (vs := #[pt p7 0, .slice (some ⟨p8, 0, none⟩) ([x1.Index, x1.Term]).length 2]) Try.call48 (by kernel_rfl) (wire_Enc_I_ok k (T_wire_Enc.mk ([])) ([x1.Index, x1.Term]) p7 none 0 (some ⟨p8, 0, none⟩) 2 y7 (((hst.pull 1).pull 1).pull 2) hy7 fun a5 c5 w hst => ?_)
              refine CK_ret rfl ?_
              refine A_all [8] (by kernel_rfl) ⟨⟨_, rfl, rfl, ?_⟩, trivial⟩
              refine O_bs (T := 9) [S x1.Cmd] #[(0, S x1.Cmd)] hst (by kernel_rfl) (by kernel_rfl) rfl fun p9 w hst => ?_
              have hst := osl_of_blk0 (ecs := [[S x1.Cmd]]) rS [x1.Cmd] rfl (fun m => ⟨⟨(), rfl, trivial⟩, trivial⟩) rfl hst
              refine A_all [9] (by kernel_rfl) ⟨⟨_, rfl, rfl, ?_⟩, trivial⟩
              obtain ⟨y8, hy8, hr⟩ := bnd hr
              refine O_call (vs := #[pt p7 0, .slice (some ⟨p9, 0, none⟩) ([x1.Cmd]).length 1]) Try.call49 (by kernel_rfl) (wire_Enc_S_ok k (T_wire_Enc.mk y7) ([x1.Cmd]) p7 a5 c5 (some ⟨p9, 0, none⟩) 1 y8 ((hst.pull 1).pull 2) hy8 fun a6 c6 w hst => ?_)
              refine CK_ret rfl ?_
              refine wpG_done (by kernel_rfl) ?_ _
              refine C_keepQ [(3, pt p7 0)] rfl fun b => ?_
              refine th_n ?_
              obtain rfl := Option.some.inj hr
              have hst := ((((hst.pull 4).pull 2).pull 2).cut 3 2)
              exact ⟨a6, c6, (kpX [(3, pt p7 0)] rfl hst)⟩
            · refine O_bs (T := 9) [S x1.Cmd] #[(0, S x1.Cmd)] hst (by kernel_rfl) (by kernel_rfl) rfl fun p9 w hst => ?_
              have hst := osl_of_blk0 (ecs := [[S x1.Cmd]]) rS [x1.Cmd] rfl (fun m => ⟨⟨(), rfl, trivial⟩, trivial⟩) rfl hst
              refine A_all [5] (by kernel_rfl) ⟨⟨_, rfl, rfl, ?_⟩, trivial⟩
              obtain ⟨y7, hy7, hr⟩ := bnd hr
              have hst := osl_nil (rI .u8) 5 hst
              refine O_call (vs := #[pt p7 0, .slice (some ⟨p8, 0, none⟩) ([x1.Index, x1.Term]).length 2]) Try.call48 (by kernel_rfl) (wire_Enc_I_ok k (T_wire_Enc.mk ([])) ([x1.Index, x1.Term]) p7 none 0 (some ⟨p8, 0, none⟩) 2 y7 (((hst.pull 2).pull 1).pull 3) hy7 fun a5 c5 w hst => ?_)
              refine CK_ret rfl ?_
              refine A_all [9] (by kernel_rfl) ⟨⟨_, rfl, rfl, ?_⟩, trivial⟩
              obtain ⟨y8, hy8, hr⟩ := bnd hr
              refine O_call (vs := #[pt p7 0, .slice (some ⟨p9, 0, none⟩) ([x1.Cmd]).length 1]) Try.call49 (by kernel_rfl) (wire_Enc_S_ok k (T_wire_Enc.mk y7) ([x1.Cmd]) p7 a5 c5 (some ⟨p9, 0, none⟩) 1 y8 (((hst.pull 3).pull 1).pull 2) hy8 fun a6 c6 w hst => ?_)
              refine CK_ret rfl ?_
              refine wpG_done (by kernel_rfl) ?_ _
              refine C_keepQ [(3, pt p7 0)] rfl fun b => ?_
              refine th_n ?_
              obtain rfl := Option.some.inj hr
              have hst := ((((hst.pull 4).pull 2).pull 2).cut 3 2)
              exact ⟨a6, c6, (kpX [(3, pt p7 0)] rfl hst)⟩
          · refine O_bs (T := 9) [S x1.Cmd] #[(0, S x1.Cmd)] hst (by kernel_rfl) (by kernel_rfl) rfl fun p8 w hst => ?_
            have hst := osl_of_blk0 (ecs := [[S x1.Cmd]]) rS [x1.Cmd] rfl (fun m => ⟨⟨(), rfl, trivial⟩, trivial⟩) rfl hst
            refine A_all [4] (by kernel_rfl) ⟨⟨_, rfl, rfl, ?_⟩, trivial⟩
            refine O_bs (T := 3) [I x1.Index, I x1.Term] #[(0, I x1.Index), (1, I x1.Term)] hst (by kernel_rfl) (by kernel_rfl) rfl fun p9 w hst => ?_
            have hst := osl_of_blk0 (ecs := [[I x1.Index], [I x1.Term]]) (rI .i64) [x1.Index, x1.Term] rfl (fun m => ⟨⟨(), rfl, trivial⟩, ⟨(), rfl, trivial⟩, trivial⟩) rfl hst
            refine A_all [5] (by kernel_rfl) ⟨⟨_, rfl, rfl, ?_⟩, trivial⟩
            obtain ⟨y7, hy7, hr⟩ := bnd hr
            have hst := osl_nil (rI .u8) 5 hst
            refine O_call (vs := #[pt p7 0, .slice (some ⟨p9, 0, none⟩) ([x1.Index, x1.Term]).length 2]) Try.call48 (by kernel_rfl) (wire_Enc_I_ok k (T_wire_Enc.mk ([])) ([x1.Index, x1.Term]) p7 none 0 (some ⟨p9, 0, none⟩) 2 y7 (((hst.pull 1).pull 1).pull 3) hy7 fun a5 c5 w hst => ?_)
            refine CK_ret rfl ?_
            refine A_all [9] (by kernel_rfl) ⟨⟨_, rfl, rfl, ?_⟩, trivial⟩
            obtain ⟨y8, hy8, hr⟩ := bnd hr
            refine O_call (vs := #[pt p7 0, .slice (some ⟨p8, 0, none⟩) ([x1.Cmd]).length 1]) Try.call49 (by kernel_rfl) (wire_Enc_S_ok k (T_wire_Enc.mk y7) ([x1.Cmd]) p7 a5 c5 (some ⟨p8, 0, none⟩) 1 y8 (((hst.pull 3).pull 1).pull 2) hy8 fun a6 c6 w hst => ?_)
            refine CK_ret rfl ?_
            refine wpG_done (by kernel_rfl) ?_ _
            refine C_keepQ [(3, pt p7 0)] rfl fun b => ?_
            refine th_n ?_
            obtain rfl := Option.some.inj hr
            have hst := ((((hst.pull 4).pull 2).pull 2).cut 3 2)
            exact ⟨a6, c6, (kpX [(3, pt p7 0)] rfl hst)⟩
        · refine O_bs (T := 9) [S x1.Cmd] #[(0, S x1.Cmd)] hst (by kernel_rfl) (by kernel_rfl) rfl fun p8 w hst => ?_
          have hst := osl_of_blk0 (ecs := [[S x1.Cmd]]) rS [x1.Cmd] rfl (fun m => ⟨⟨(), rfl, trivial⟩, trivial⟩) rfl hst
          refine A_all [1] (by kernel_rfl) ⟨⟨_, rfl, rfl, ?_⟩, trivial⟩
          refine O_run (v := I x1.Index) (w' := w) (R_load (hst.pull 2) rfl rfl) rfl rfl ?_
          refine A_all [4] (by kernel_rfl) ⟨⟨_, rfl, rfl, ?_⟩, trivial⟩
          refine O_bs (T := 3) [I x1.Index, I x1.Term] #[(0, I x1.Index), (1, I x1.Term)] hst (by kernel_rfl) (by kernel_rfl) rfl fun p9 w hst => ?_
          have hst := osl_of_blk0 (ecs := [[I x1.Index], [I x1.Term]]) (rI .i64) [x1.Index, x1.Term] rfl (fun m => ⟨⟨(), rfl, trivial⟩, ⟨(), rfl, trivial⟩, trivial⟩) rfl hst
          refine A_all [5] (by kernel_rfl) ⟨⟨_, rfl, rfl, ?_⟩, trivial⟩
          obtain ⟨y7, hy7, hr⟩ := bnd hr
          have hst := osl_nil (rI .u8) 5 hst
          refine O_call (vs := #[pt p7 0, .slice (some ⟨p9, 0, none⟩) ([x1.Index, x1.Term]).length 2]) Try.call48 (by kernel_rfl) (wire_Enc_I_ok k (T_wire_Enc.mk ([])) ([x1.Index, x1.Term]) p7 none 0 (some ⟨p9, 0, none⟩) 2 y7 (((hst.pull 1).pull 1).pull 3) hy7 fun a5 c5 w hst => ?_)
          refine CK_ret rfl ?_
          refine A_all [9] (by kernel_rfl) ⟨⟨_, rfl, rfl, ?_⟩, trivial⟩
          obtain ⟨y8, hy8, hr⟩ := bnd hr
          refine O_call (vs := #[pt p7 0, .slice (some ⟨p8, 0, none⟩) ([x1.Cmd]).length 1]) Try.call49 (by kernel_rfl) (wire_Enc_S_ok k (T_wire_Enc.mk y7) ([x1.Cmd]) p7 a5 c5 (some ⟨p8, 0, none⟩) 1 y8 (((hst.pull 3).pull 1).pull 2) hy8 fun a6 c6 w hst => ?_)
          refine CK_ret rfl ?_
          refine wpG_done (by kernel_rfl) ?_ _
          refine C_keepQ [(3, pt p7 0)] rfl fun b => ?_
          refine th_n ?_
          obtain rfl := Option.some.inj hr
          have hst := ((((hst.pull 4).pull 2).pull 2).cut 3 2)
          exact ⟨a6, c6, (kpX [(3, pt p7 0)] rfl hst)⟩
      · refine O_bs (T := 9) [S x1.Cmd] #[(0, S x1.Cmd)] hst (by kernel_rfl) (by kernel_rfl) rfl fun p8 w hst => ?_
        have hst := osl_of_blk0 (ecs := [[S x1.Cmd]]) rS [x1.Cmd] rfl (fun m => ⟨⟨(), rfl, trivial⟩, trivial⟩) rfl hst
        refine A_all [1, 3] (by kernel_rfl) ⟨⟨_, rfl, rfl, ?_⟩, ⟨_, rfl, rfl, ?_⟩, trivial⟩
        · refine O_run (v := I x1.Index) (w' := w) (R_load (hst.pull 2) rfl rfl) rfl rfl ?_
          refine A_all [3] (by kernel_rfl) ⟨⟨_, rfl, rfl, ?_⟩, trivial⟩
          refine O_run (v := I x1.Term) (w' := w) (R_load (hst.pull 2) rfl rfl) rfl rfl ?_
          refine A_all [4] (by kernel_rfl) ⟨⟨_, rfl, rfl, ?_⟩, trivial⟩
          refine O_bs (T := 3) [I x1.Index, I x1.Term] #[(0, I x1.Index), (1, I x1.Term)] hst (by kernel_rfl) (by kernel_rfl) rfl fun p9 w hst => ?_
          have hst := osl_of_blk0 (ecs := [[I x1.Index], [I x1.Term]]) (rI .i64) [x1.Index, x1.Term] rfl (fun m => ⟨⟨(), rfl, trivial⟩, ⟨(), rfl, trivial⟩, trivial⟩) rfl hst
          refine A_all [5] (by kernel_rfl) ⟨⟨_, rfl, rfl, ?_⟩, trivial⟩
          obtain ⟨y7, hy7, hr⟩ := bnd hr
          have hst := osl_nil (rI .u8) 5 hst
          refine O_call (vs := #[pt p7 0, .slice (some ⟨p9, 0, none⟩) ([x1.Index, x1.Term]).length 2]) Try.call48 (by kernel_rfl) (wire_Enc_I_ok k (T_wire_Enc.mk ([])) ([x1.Index, x1.Term]) p7 none 0 (some ⟨p9, 0, none⟩) 2 y7 (((hst.pull 1).pull 1).pull 3) hy7 fun a5 c5 w hst => ?_)
          refine CK_ret rfl ?_
          refine A_all [9] (by kernel_rfl) ⟨⟨_, rfl, rfl, ?_⟩, trivial⟩
          obtain ⟨y8, hy8, hr⟩ := bnd hr
          refine O_call (vs := #[pt p7 0, .slice (some ⟨p8, 0, none⟩) ([x1.Cmd]).length 1]) Try.call49 (by kernel_rfl) (wire_Enc_S_ok k (T_wire_Enc.mk y7) ([x1.Cmd]) p7 a5 c5 (some ⟨p8, 0, none⟩) 1 y8 (((hst.pull 3).pull 1).pull 2) hy8 fun a6 c6 w hst => ?_)
          refine CK_ret rfl ?_
          refine wpG_done (by kernel_rfl) ?_ _
          refine C_keepQ [(3, pt p7 0)] rfl fun b => ?_
          refine th_n ?_
          obtain rfl := Option.some.inj hr
          have hst := ((((hst.pull 4).pull 2).pull 2).cut 3 2)
          exact ⟨a6, c6, (kpX [(3, pt p7 0)] rfl hst)⟩
        · refine O_run (v := I x1.Term) (w' := w) (R_load (hst.pull 2) rfl rfl) rfl rfl ?_
          refine A_all [1] (by kernel_rfl) ⟨⟨_, rfl, rfl, ?_⟩, trivial⟩
          refine O_run (v := I x1.Index) (w' := w) (R_load (hst.pull 2) rfl rfl) rfl rfl ?_
          refine A_all [4] (by kernel_rfl) ⟨⟨_, rfl, rfl, ?_⟩, trivial⟩
          refine O_bs (T := 3) [I x1.Index, I x1.Term] #[(0, I x1.Index), (1, I x1.Term)] hst (by kernel_rfl) (by kernel_rfl) rfl fun p9 w hst => ?_
          have hst := osl_of_blk0 (ecs := [[I x1.Index], [I x1.Term]]) (rI .i64) [x1.Index, x1.Term] rfl (fun m => ⟨⟨(), rfl, trivial⟩, ⟨(), rfl, trivial⟩, trivial⟩) rfl hst
          refine A_all [5] (by kernel_rfl) ⟨⟨_, rfl, rfl, ?_⟩, trivial⟩
          obtain ⟨y7, hy7, hr⟩ := bnd hr
          have hst := osl_nil (rI .u8) 5 hst
          refine O_call (vs := #[pt p7 0, .slice (some ⟨p9, 0, none⟩) ([x1.Index, x1.Term]).length 2]) Try.call48 (by kernel_rfl) (wire_Enc_I_ok k (T_wire_Enc.mk ([])) ([x1.Index, x1.Term]) p7 none 0 (some ⟨p9, 0, none⟩) 2 y7 (((hst.pull 1).pull 1).pull 3) hy7 fun a5 c5 w hst => ?_)
          refine CK_ret rfl ?_
          refine A_all [9] (by kernel_rfl) ⟨⟨_, rfl, rfl, ?_⟩, trivial⟩
          obtain ⟨y8, hy8, hr⟩ := bnd hr
          refine O_call (vs := #[pt p7 0, .slice (some ⟨p8, 0, none⟩) ([x1.Cmd]).length 1]) Try.call49 (by kernel_rfl) (wire_Enc_S_ok k (T_wire_Enc.mk y7) ([x1.Cmd]) p7 a5 c5 (some ⟨p8, 0, none⟩) 1 y8 (((hst.pull 3).pull 1).pull 2) hy8 fun a6 c6 w hst => ?_)
          refine CK_ret rfl ?_
          refine wpG_done (by kernel_rfl) ?_ _
          refine C_keepQ [(3, pt p7 0)] rfl fun b => ?_
          refine th_n ?_
          obtain rfl := Option.some.inj hr
          have hst := ((((hst.pull 4).pull 2).pull 2).cut 3 2)
          exact ⟨a6, c6, (kpX [(3, pt p7 0)] rfl hst)⟩
end Go.Proofs.Ythmjdekmacoaaaa
