/- RM: printed by hx.py (own work) out of the program. -/
import Derived.Test.YtpldjopnhhbjpaaGreatHxT
import Derived.Test.YtpldjopnhhbjpaaGreatHxY
import Derived.Test.YtpldjopnhhbjpaaGreatHxW
import Derived.Test.YtpldjopnhhbjpaaGreatHxS
import Derived.Test.YtpldjopnhhbjpaaGreatHxM
import Derived.Test.YtpldjopnhhbjpaaGreatChecked
namespace Go.Proofs.YtpldjopnhhbjpaaGreat
open Go.Hx Go.RowKit
structure T_glacierlaw10_Start where
  Term : Int
  Vote : Int
  Base : Int
  Terms : (List Int)
def r_T_glacierlaw10_Start : Rp T_glacierlaw10_Start := ⟨(Option Addr × Nat), 4, fun x y => [.int .i64 x.Term, .int .i64 x.Vote, .int .i64 x.Base, .slice y.1 x.Terms.length y.2], fun x y => dslP (rI .i64) y.1 y.2 x.Terms, fun _ _ _ _ hm h => dslP_mono _ _ _ _ _ _ hm h, fun _ _ => rfl, fun _ _ => rfl⟩
structure T_meter_Meter where
  room : Int
  used : Int
  deriving DecidableEq
def r_T_meter_Meter : Rp T_meter_Meter := ⟨Unit, 2, fun x _ => [.int .i64 x.room, .int .i64 x.used], fun _ _ _ => True, fun _ _ _ _ _ h => h, fun _ _ => rfl, fun _ _ => rfl⟩
structure T_platter_text where
  there : Bool
  s : (List UInt8)
  deriving DecidableEq
def r_T_platter_text : Rp T_platter_text := ⟨Unit, 2, fun x _ => [.bool x.there, S x.s], fun _ _ _ => True, fun _ _ _ _ _ h => h, fun _ _ => rfl, fun _ _ => rfl⟩
structure T_platter_file where
  now : T_platter_text
  safe : T_platter_text
  deriving DecidableEq
def r_T_platter_file : Rp T_platter_file := ⟨Unit, 4, fun x _ => [.bool x.now.there, S x.now.s, .bool x.safe.there, S x.safe.s], fun _ _ _ => True, fun _ _ _ _ _ h => h, fun _ _ => rfl, fun _ _ => rfl⟩
structure T_wire_Dec where
  s : (List UInt8)
  err : Int
  deriving DecidableEq
def r_T_wire_Dec : Rp T_wire_Dec := ⟨Unit, 2, fun x _ => [S x.s, .int .i64 x.err], fun _ _ _ => True, fun _ _ _ _ _ h => h, fun _ _ => rfl, fun _ _ => rfl⟩
structure T_term_Entry where
  Index : Int
  Term : Int
  Cmd : (List UInt8)
  deriving DecidableEq
def r_T_term_Entry : Rp T_term_Entry := ⟨Unit, 3, fun x _ => [.int .i64 x.Index, .int .i64 x.Term, S x.Cmd], fun _ _ _ => True, fun _ _ _ _ _ h => h, fun _ _ => rfl, fun _ _ => rfl⟩
structure T_term_State where
  Term : Int
  Vote : Int
  Base : Int
  BaseTerm : Int
  Snap : (List UInt8)
  Log : (List T_term_Entry)
def r_T_term_State : Rp T_term_State := ⟨(Option Addr × Nat), 6, fun x y => [.int .i64 x.Term, .int .i64 x.Vote, .int .i64 x.Base, .int .i64 x.BaseTerm, S x.Snap, .slice y.1 x.Log.length y.2], fun x y => dslP r_T_term_Entry y.1 y.2 x.Log, fun _ _ _ _ hm h => dslP_mono _ _ _ _ _ _ hm h, fun _ _ => rfl, fun _ _ => rfl⟩
structure T_raft_Msg where
  Kind : Int
  From : Int
  To : Int
  Term : Int
  Index : Int
  LogTerm : Int
  Commit : Int
  OK : Bool
  Entries : (List T_term_Entry)
  Snap : (List UInt8)
def r_T_raft_Msg : Rp T_raft_Msg := ⟨(Option Addr × Nat), 10, fun x y => [.int .i64 x.Kind, .int .i64 x.From, .int .i64 x.To, .int .i64 x.Term, .int .i64 x.Index, .int .i64 x.LogTerm, .int .i64 x.Commit, .bool x.OK, .slice y.1 x.Entries.length y.2, S x.Snap], fun x y => dslP r_T_term_Entry y.1 y.2 x.Entries, fun _ _ _ _ hm h => dslP_mono _ _ _ _ _ _ hm h, fun _ _ => rfl, fun _ _ => rfl⟩
structure T_raft_Node where
  id : Int
  n : Int
  st : T_term_State
  role : Int
  leader : Int
  commit : Int
  applied : Int
  timer : Int
  votes : (Nat → Bool)
  next : (Nat → Int)
  match_ : (Nat → Int)
  out : (List T_raft_Msg)
  broken : Int
structure T_wire_Enc where
  b : (List Int)
def r_T_wire_Enc : Rp T_wire_Enc := ⟨(Option Addr × Nat), 1, fun x y => [.slice y.1 x.b.length y.2], fun x y => dslP (rI .u8) y.1 y.2 x.b, fun _ _ _ _ hm h => dslP_mono _ _ _ _ _ _ hm h, fun _ _ => rfl, fun _ _ => rfl⟩
structure T_glacierref09_Entry where
  Index : Int
  Term : Int
  Cmd : (List UInt8)
  deriving DecidableEq
def r_T_glacierref09_Entry : Rp T_glacierref09_Entry := ⟨Unit, 3, fun x _ => [.int .i64 x.Index, .int .i64 x.Term, S x.Cmd], fun _ _ _ => True, fun _ _ _ _ _ h => h, fun _ _ => rfl, fun _ _ => rfl⟩
structure T_glacierref09_State where
  Term : Int
  Vote : Int
  Base : Int
  BaseTerm : Int
  Snap : (List UInt8)
  Log : (List T_glacierref09_Entry)
def r_T_glacierref09_State : Rp T_glacierref09_State := ⟨(Option Addr × Nat), 6, fun x y => [.int .i64 x.Term, .int .i64 x.Vote, .int .i64 x.Base, .int .i64 x.BaseTerm, S x.Snap, .slice y.1 x.Log.length y.2], fun x y => dslP r_T_glacierref09_Entry y.1 y.2 x.Log, fun _ _ _ _ hm h => dslP_mono _ _ _ _ _ _ hm h, fun _ _ => rfl, fun _ _ => rfl⟩
theorem L22 : Lst Tryz.prog 22 3 1 8 := ⟨Tryz.underlying22, Tryz.t3, _, by kernel_rfl, rfl, rfl, rfl, rfl⟩
theorem L25 : Lst Tryz.prog 25 9 1 16 := ⟨Tryz.underlying25, Tryz.t9, _, by kernel_rfl, rfl, rfl, rfl, rfl⟩
theorem L30 : Lst Tryz.prog 30 59 3 32 := ⟨Tryz.underlying30, Tryz.t59, _, by kernel_rfl, rfl, rfl, rfl, rfl⟩
theorem L37 : Lst Tryz.prog 37 48 3 32 := ⟨Tryz.underlying37, Tryz.t48, _, by kernel_rfl, rfl, rfl, rfl, rfl⟩
theorem L42 : Lst Tryz.prog 42 39 10 104 := ⟨Tryz.underlying42, Tryz.t39, _, by kernel_rfl, rfl, rfl, rfl, rfl⟩
theorem L83 : Lst Tryz.prog 83 5 1 1 := ⟨Tryz.underlying83, Tryz.t5, _, by kernel_rfl, rfl, rfl, rfl, rfl⟩
theorem L95 : Lst Tryz.prog 95 4 1 1 := ⟨Tryz.underlying95, Tryz.t4, _, by kernel_rfl, rfl, rfl, rfl, rfl⟩
theorem L141 : Lst Tryz.prog 141 118 1 8 := ⟨Tryz.underlying141, Tryz.t118, _, by kernel_rfl, rfl, rfl, rfl, rfl⟩
theorem A63 : ArrT Tryz.prog 63 4 5 := ⟨Tryz.underlying63, Tryz.t4, by kernel_rfl, rfl⟩
theorem A64 : ArrT Tryz.prog 64 3 5 := ⟨Tryz.underlying64, Tryz.t3, by kernel_rfl, rfl⟩
theorem M75 : MapR Tryz.prog 75 9 125 S (rPt r_T_platter_file) none (.pointer none) := ⟨Tryz.underlying75, keys_str Tryz.underlying9, ⟨Tryz.t125, by kernel_rfl, rfl⟩, fun _ => ⟨none, rfl, rfl⟩⟩
def meter_Made (_k : Nat) (x1 : Int) : Option (T_meter_Meter) := some ((T_meter_Meter.mk (mx2 x1 0) 0))
set_option maxRecDepth 100000 in
set_option maxHeartbeats 4000000 in
theorem meter_Made_ok {G w : World} {F : List HP} {R : Ending → World → Prop} (k : Nat) (x1 : Int) (r : (T_meter_Meter)) (hst : St G w (F)) (hr : meter_Made k x1 = some r)
    (hR : ∀ w', St G w' (F) → R (.returned (.agg #[I r.room, I r.used])) w') :
    Calls Tryz.prog 36 #[I x1] w R := by
  unfold meter_Made at hr
  refine enter Tryz.func36 rfl [(0, I x1)] rfl rfl fun b => ?_
  refine wp_seq ?_
  refine wp_reg ?_
  refine L_op rfl (O_alloc (i := Tryz.t73) (z := .agg #[I 0, I 0]) [I 0, I 0] hst rfl rfl rfl rfl fun p2 w hst => ?_)
  refine wpL_nil ?_
  refine th_n ?_
  refine wp_seq ?_
  refine wp_reg ?_
  refine L_pure 3 [(2, pt p2 0), (5, .agg #[I (mx2 x1 0), I 0])] (by kernel_rfl) fun b => ?_
  refine L_op rfl (O_store [I (mx2 x1 0), I 0] hst rfl rfl (by kernel_rfl) fun w hst => ?_)
  refine wpL_nil ?_
  refine th_n ?_
  refine wp_ret ?_
  refine retC (v := .agg #[I (mx2 x1 0), I 0]) (p := p2) (off := 0) (cs := [I (mx2 x1 0), I 0]) (T' := 73) rfl rfl hst (by kernel_rfl) ?_
  obtain rfl := Option.some.inj hr
  have hst := (hst.cut 0 1)
  exact hR _ hst
def platter_New (k : Nat) (x1 : Int) : Option (Int × Int × Bool × Int × (List ((List UInt8) × (Option T_platter_file)))) := (Option.bind (meter_Made k x1) fun y2 => some (y2.room, y2.used, false, (0 : Int), ([] : (List ((List UInt8) × (Option T_platter_file))))))
set_option maxRecDepth 100000 in
set_option maxHeartbeats 4000000 in
theorem platter_New_ok {G w : World} {F : List HP} {R : Ending → World → Prop} (k : Nat) (x1 : Int) (r : (Int × Int × Bool × Int × (List ((List UInt8) × (Option T_platter_file))))) (hst : St G w (F)) (hr : platter_New k x1 = some r)
    (hR : ∀ (p3 : Nat) (p4 : Nat) w', St G w' (blk p3 (cl [I r.1, I r.2.1, .bool r.2.2.1, I r.2.2.2.1, .map (some p4)] 79) :: mpr S (rPt r_T_platter_file) p4 r.2.2.2.2 :: F) → R (.returned (pt p3 0)) w') :
    Calls Tryz.prog 17 #[I x1] w R := by
  unfold platter_New at hr
  refine enter Tryz.func17 rfl [(0, I x1)] rfl rfl fun b => ?_
  refine wp_seq ?_
  refine wp_reg ?_
  refine L_pure 1 [(0, I x1)] (by kernel_rfl) fun b => ?_
  refine wpL_nil ?_
  refine th_n ?_
  refine wp_seq ?_
  refine wp_reg ?_
  refine L_pure 1 [(3, I x1)] (by kernel_rfl) fun b => ?_
  obtain ⟨y2, hy2, hr⟩ := bnd hr
  refine L_op rfl (O_call (vs := #[I x1]) Tryz.call36 (by kernel_rfl) (meter_Made_ok k x1 y2 hst hy2 fun w hst => ?_))
  refine CK_ret rfl ?_
  refine L_op rfl (O_makeMapR S (rPt r_T_platter_file) hst rfl fun p5 w hst => ?_)
  refine L_pure 1 [(6, .agg #[I y2.room, I y2.used, .bool false, I 0, .map (some p5)])] (by kernel_rfl) fun b => ?_
  refine L_op rfl (O_box [I y2.room, I y2.used, .bool false, I 0, .map (some p5)] hst rfl rfl fun p6 w hst => ?_)
  refine L_pure 1 [(2, pt p6 0)] (by kernel_rfl) fun b => ?_
  refine wpL_nil ?_
  refine th_n ?_
  refine wp_ret ?_
  refine ret1 rfl rfl ?_
  obtain rfl := Option.some.inj hr
  have hst := ((hst.pull 1).pull 1)
  exact hR p6 p5 _ hst
def meter_Luck_Try (_k : Nat) (_x1 : Int) (_x2 : Int) (x3 : Bool) (x4 : Int) (_x5 : (List ((List UInt8) × (Option T_platter_file)))) : Option (Int × Int) := (if x3 = true then some ((14 : Int), x4) else (Option.bind (if decide (x4 > 0) = true then (if ((IntKind.i64.wrap (x4 - 1)) == 0) = true then some (Flow.ret ((8 : Int), (IntKind.i64.wrap (x4 - 1)))) else some (Flow.go ((IntKind.i64.wrap (x4 - 1))))) else some (Flow.go (x4))) fun y2 => (match y2 with | Flow.ret r => some r | Flow.go z2 => some ((0 : Int), z2))))
set_option maxRecDepth 100000 in
set_option maxHeartbeats 4000000 in
theorem meter_Luck_Try_ok {G w : World} {F : List HP} {R : Ending → World → Prop} (k : Nat) (x1 : Int) (x2 : Int) (x3 : Bool) (x4 : Int) (x5 : (List ((List UInt8) × (Option T_platter_file)))) (p1 : Nat) (p2 : Nat) (r : (Int × Int)) (hst : St G w (blk p1 (cl [I x1, I x2, .bool x3, I x4, .map (some p2)] 79) :: mpr S (rPt r_T_platter_file) p2 x5 :: F)) (hr : meter_Luck_Try k x1 x2 x3 x4 x5 = some r)
    (hR : ∀ w', St G w' (blk p1 (cl [I x1, I x2, .bool x3, I r.2, .map (some p2)] 79) :: mpr S (rPt r_T_platter_file) p2 x5 :: F) → R (.returned (I r.1)) w') :
    Calls Tryz.prog 69 #[pt p1 2] w R := by
  unfold meter_Luck_Try at hr
  refine enter Tryz.func69 rfl [(0, pt p1 2)] rfl rfl fun b => ?_
  refine wp_seq ?_
  refine wp_reg ?_
  refine L_pure 1 [(0, pt p1 2)] (by kernel_rfl) fun b => ?_
  refine wpL_nil ?_
  refine th_n ?_
  refine wp_seq ?_
  refine wp_seq ?_
  refine wp_reg ?_
  refine L_pure 3 [(0, pt p1 2), (5, pt p1 2)] (by kernel_rfl) fun b => ?_
  refine L_op rfl (O_run (v := .bool x3) (w' := w) (R_load hst rfl rfl) rfl rfl ?_)
  refine wpL_nil ?_
  refine th_n ?_
  refine wp_cond_mkF (t := x3) rfl (fun h => ?_) (fun h => ?_)
  · have hr := (if_pos h).symm.trans hr
    refine wp_seq ?_
    refine wp_reg ?_
    refine L_pure 1 [(2, I 14)] (by kernel_rfl) fun b => ?_
    refine wpL_nil ?_
    refine th_n ?_
    refine wp_ret ?_
    refine th_r ?_
    refine ret1 rfl rfl ?_
    obtain rfl := Option.some.inj hr
    have hst := ((hst.pull 1).pull 1)
    exact hR _ hst
  · have hr := (if_neg (by rw [h]; exact Bool.false_ne_true)).symm.trans hr
    refine wp_skip ?_
    refine th_n ?_
    obtain ⟨y2, hy2, hk2⟩ := bnd hr
    clear hr
    refine wp_seq_cut (fun a w => ∃ (z2 : Int) (b : Nat → Value), y2 = .go z2 ∧ a = mkF 24 b [] ∧ St G w (blk p1 (cl [I x1, I x2, .bool x3, I z2, .map (some p2)] 79) :: mpr S (rPt r_T_platter_file) p2 x5 :: F)) ?_ ?_
    · rintro _ w ⟨z2, b, rfl, rfl, hst⟩
      have hr := hk2
      refine wp_seq ?_
      refine wp_reg ?_
      refine L_pure 1 [(2, I 0)] (by kernel_rfl) fun b => ?_
      refine wpL_nil ?_
      refine th_n ?_
      refine wp_ret ?_
      refine ret1 rfl rfl ?_
      obtain rfl := Option.some.inj hr
      have hst := ((hst.pull 1).pull 1)
      exact hR _ hst
    · have hr := hy2
      refine wp_seq ?_
      refine wp_reg ?_
      refine L_pure 3 [(0, pt p1 2), (9, pt p1 3)] (by kernel_rfl) fun b => ?_
      refine L_op rfl (O_run (v := I x4) (w' := w) (R_load hst rfl rfl) rfl rfl ?_)
      refine L_pure 1 [(0, pt p1 2), (11, .bool (decide (x4 > 0)))] (by kernel_rfl) fun b => ?_
      refine wpL_nil ?_
      refine th_n ?_
      refine wp_cond_mkF (t := decide (x4 > 0)) rfl (fun h => ?_) (fun h => ?_)
      · have hr := (if_pos h).symm.trans hr
        refine wp_seq ?_
        refine wp_reg ?_
        refine L_pure 3 [(0, pt p1 2), (12, pt p1 2), (14, pt p1 3)] (by kernel_rfl) fun b => ?_
        refine L_op rfl (O_run (v := I x4) (w' := w) (R_load hst rfl rfl) rfl rfl ?_)
        refine L_pure 3 [(0, pt p1 2), (16, I (IntKind.i64.wrap (x4 - 1))), (18, pt p1 3)] (by kernel_rfl) fun b => ?_
        refine L_op rfl (O_store [I x1, I x2, .bool x3, I (IntKind.i64.wrap (x4 - 1)), .map (some p2)] hst rfl rfl (by kernel_rfl) fun w hst => ?_)
        refine wpL_nil ?_
        refine th_n ?_
        refine wp_seq ?_
        refine wp_reg ?_
        refine L_pure 3 [(21, pt p1 3)] (by kernel_rfl) fun b => ?_
        refine L_op rfl (O_run (v := I (IntKind.i64.wrap (x4 - 1))) (w' := w) (R_load hst rfl rfl) rfl rfl ?_)
        refine L_pure 1 [(23, .bool ((IntKind.i64.wrap (x4 - 1)) == 0))] (by kernel_rfl) fun b => ?_
        refine wpL_nil ?_
        refine th_n ?_
        refine wp_cond_mkF (t := ((IntKind.i64.wrap (x4 - 1)) == 0)) rfl (fun h => ?_) (fun h => ?_)
        · have hr := (if_pos h).symm.trans hr
          refine wp_seq ?_
          refine wp_reg ?_
          refine L_pure 1 [(2, I 8)] (by kernel_rfl) fun b => ?_
          refine wpL_nil ?_
          refine th_n ?_
          refine wp_ret ?_
          refine th_r ?_
          refine ret1 rfl rfl ?_
          obtain rfl := Option.some.inj hr
          obtain rfl := Option.some.inj hk2
          have hst := ((hst.pull 1).pull 1)
          exact hR _ hst
        · have hr := (if_neg (by rw [h]; exact Bool.false_ne_true)).symm.trans hr
          refine wp_skip ?_
          refine th_n ?_
          obtain rfl := Option.some.inj hr
          have hst := ((hst.pull 1).pull 1)
          exact ⟨((IntKind.i64.wrap (x4 - 1))), (kpXf [] rfl hst)⟩
      · have hr := (if_neg (by rw [h]; exact Bool.false_ne_true)).symm.trans hr
        refine wp_skip ?_
        refine th_n ?_
        obtain rfl := Option.some.inj hr
        have hst := ((hst.pull 1).pull 1)
        exact ⟨(x4), (kpXf [] rfl hst)⟩
def platter_Disk_get (_k : Nat) (_x1 : Int) (_x2 : Int) (_x3 : Bool) (_x4 : Int) (x5 : (List ((List UInt8) × (Option T_platter_file)))) (x6 : (List UInt8)) : Option ((Option T_platter_file)) := (if (mget x5 x6).isSome = true then some (((mget x5 x6).getD none)) else some ((some (T_platter_file.mk (T_platter_text.mk false ([])) (T_platter_text.mk false ([]))))))
set_option maxRecDepth 100000 in
set_option maxHeartbeats 4000000 in
theorem platter_Disk_get_ok {G w : World} {F : List HP} {R : Ending → World → Prop} (k : Nat) (x1 : Int) (x2 : Int) (x3 : Bool) (x4 : Int) (x5 : (List ((List UInt8) × (Option T_platter_file)))) (x6 : (List UInt8)) (p1 : Nat) (p2 : Nat) (r : ((Option T_platter_file))) (hst : St G w (blk p1 (cl [I x1, I x2, .bool x3, I x4, .map (some p2)] 79) :: mpr S (rPt r_T_platter_file) p2 x5 :: F)) (hr : platter_Disk_get k x1 x2 x3 x4 x5 x6 = some r)
    (hR : ∀ (a2 : Option Addr) w', St G w' (dpt r_T_platter_file a2 r :: blk p1 (cl [I x1, I x2, .bool x3, I x4, .map (some p2)] 79) :: mpr S (rPt r_T_platter_file) p2 x5 :: F) → R (.returned (.pointer a2)) w') :
    Calls Tryz.prog 70 #[pt p1 0, S x6] w R := by
  unfold platter_Disk_get at hr
  refine enter Tryz.func70 rfl [(0, pt p1 0), (1, S x6)] rfl rfl fun b => ?_
  refine wp_seq ?_
  refine wp_reg ?_
  refine L_pure 1 [(0, pt p1 0), (1, S x6)] (by kernel_rfl) fun b => ?_
  refine wpL_nil ?_
  refine th_n ?_
  refine wp_seq ?_
  refine wp_seq ?_
  refine wp_reg ?_
  refine L_pure 3 [(1, S x6), (10, pt p1 4)] (by kernel_rfl) fun b => ?_
  refine L_op rfl (O_run (v := .map (some p2)) (w' := w) (R_load hst rfl rfl) rfl rfl ?_)
  refine L_pure 1 [(11, .map (some p2)), (12, S x6)] (by kernel_rfl) fun b => ?_
  refine L_op rfl (O_lookP2 M75 x6 (hst.pull 1) rfl rfl rfl fun a3 hst => ?_)
  refine L_pure 5 [(5, .pointer a3), (6, .bool ((mget x5 x6).isSome))] (by kernel_rfl) fun b => ?_
  refine wpL_nil ?_
  refine th_n ?_
  refine wp_seq ?_
  refine wp_reg ?_
  refine L_pure 1 [(5, .pointer a3), (16, .bool ((mget x5 x6).isSome))] (by kernel_rfl) fun b => ?_
  refine wpL_nil ?_
  refine th_n ?_
  refine wp_cond_mkF (t := (mget x5 x6).isSome) rfl (fun h => ?_) (fun h => ?_)
  · have hr := (if_pos h).symm.trans hr
    refine wp_seq ?_
    refine wp_reg ?_
    refine L_pure 2 [(4, .pointer a3)] (by kernel_rfl) fun b => ?_
    refine wpL_nil ?_
    refine th_n ?_
    refine wp_ret ?_
    refine th_r ?_
    refine ret1 rfl rfl ?_
    obtain rfl := Option.some.inj hr
    have hst := (((hst.pull 1).pull 2).pull 2)
    exact hR a3 _ hst
  · have hr := (if_neg (by rw [h]; exact Bool.false_ne_true)).symm.trans hr
    refine wp_skip ?_
    refine th_n ?_
    refine wp_seq ?_
    refine wp_reg ?_
    refine L_pure 1 [(18, .agg #[.bool false, S ([]), .bool false, S ([])])] (by kernel_rfl) fun b => ?_
    refine L_op rfl (O_box [.bool false, S ([]), .bool false, S ([])] hst rfl rfl fun p4 w hst => ?_)
    refine L_pure 1 [(4, pt p4 0)] (by kernel_rfl) fun b => ?_
    refine wpL_nil ?_
    refine th_n ?_
    refine wp_ret ?_
    refine ret1 rfl rfl ?_
    obtain rfl := Option.some.inj hr
    have hst := osl_of_blk0 (ecs := [[.bool false, S ([]), .bool false, S ([])]]) r_T_platter_file [(T_platter_file.mk (T_platter_text.mk false ([])) (T_platter_text.mk false ([])))] rfl (fun m => ⟨⟨(), rfl, trivial⟩, trivial⟩) rfl hst
    have hst := dpt_of (osl_freeze hst)
    have hst := ((((hst.pull 2).pull 3).pull 2).cut 3 1)
    exact hR (some ⟨p4, 0, none⟩) _ hst
def platter_Disk_Read (k : Nat) (x1 : Int) (x2 : Int) (x3 : Bool) (x4 : Int) (x5 : (List ((List UInt8) × (Option T_platter_file)))) (x6 : (List UInt8)) : Option ((List UInt8) × Int × Int) := (Option.bind (meter_Luck_Try k x1 x2 x3 x4 x5) fun y3 => (if (y3.1 != 0) = true then some ([], y3.1, y3.2) else (Option.bind (platter_Disk_get k x1 x2 x3 y3.2 x5 x6) fun y4 => (Option.bind y4 fun x8 => (if (!x8.now.there) = true then some ([], (5 : Int), y3.2) else some (x8.now.s, (0 : Int), y3.2))))))
set_option maxRecDepth 100000 in
set_option maxHeartbeats 4000000 in
theorem platter_Disk_Read_ok {G w : World} {F : List HP} {R : Ending → World → Prop} (k : Nat) (x1 : Int) (x2 : Int) (x3 : Bool) (x4 : Int) (x5 : (List ((List UInt8) × (Option T_platter_file)))) (x6 : (List UInt8)) (p1 : Nat) (p2 : Nat) (r : ((List UInt8) × Int × Int)) (hst : St G w (blk p1 (cl [I x1, I x2, .bool x3, I x4, .map (some p2)] 79) :: mpr S (rPt r_T_platter_file) p2 x5 :: F)) (hr : platter_Disk_Read k x1 x2 x3 x4 x5 x6 = some r)
    (hR : ∀ w', St G w' (blk p1 (cl [I x1, I x2, .bool x3, I r.2.2, .map (some p2)] 79) :: mpr S (rPt r_T_platter_file) p2 x5 :: F) → R (.returned (.tuple #[S r.1, I r.2.1])) w') :
    Calls Tryz.prog 55 #[pt p1 0, S x6] w R := by
  unfold platter_Disk_Read at hr
  refine enter Tryz.func55 rfl [(0, pt p1 0), (1, S x6)] rfl rfl fun b => ?_
  refine wp_seq ?_
  refine wp_reg ?_
  refine L_pure 2 [(0, pt p1 0), (1, S x6)] (by kernel_rfl) fun b => ?_
  refine wpL_nil ?_
  refine th_n ?_
  refine wp_seq ?_
  refine wp_seq ?_
  refine wp_reg ?_
  refine L_pure 3 [(0, pt p1 0), (1, S x6), (10, pt p1 2)] (by kernel_rfl) fun b => ?_
  obtain ⟨y3, hy3, hr⟩ := bnd hr
  refine L_op rfl (O_call (vs := #[pt p1 2]) Tryz.call69 (by kernel_rfl) (meter_Luck_Try_ok k x1 x2 x3 x4 x5 p1 p2 y3 ((hst.pull 1).pull 1) hy3 fun w hst => ?_))
  refine CK_ret rfl ?_
  refine L_pure 1 [(0, pt p1 0), (1, S x6), (6, I y3.1)] (by kernel_rfl) fun b => ?_
  refine wpL_nil ?_
  refine th_n ?_
  refine wp_seq ?_
  refine wp_reg ?_
  refine L_pure 2 [(0, pt p1 0), (1, S x6), (6, I y3.1), (13, .bool (y3.1 != 0))] (by kernel_rfl) fun b => ?_
  refine wpL_nil ?_
  refine th_n ?_
  refine wp_cond_mkF (t := (y3.1 != 0)) rfl (fun h => ?_) (fun h => ?_)
  · have hr := (if_pos h).symm.trans hr
    refine wp_seq ?_
    refine wp_reg ?_
    refine L_pure 3 [(4, S ([])), (5, I y3.1)] (by kernel_rfl) fun b => ?_
    refine wpL_nil ?_
    refine th_n ?_
    refine wp_ret ?_
    refine th_r ?_
    refine ret2 rfl rfl rfl ?_
    obtain rfl := Option.some.inj hr
    have hst := ((hst.pull 1).pull 1)
    exact hR _ hst
  · have hr := (if_neg (by rw [h]; exact Bool.false_ne_true)).symm.trans hr
    refine wp_skip ?_
    refine th_n ?_
    refine wp_seq ?_
    refine wp_reg ?_
    refine L_pure 2 [(15, pt p1 0), (16, S x6)] (by kernel_rfl) fun b => ?_
    obtain ⟨y4, hy4, hr⟩ := bnd hr
    refine L_op rfl (O_call (vs := #[pt p1 0, S x6]) Tryz.call70 (by kernel_rfl) (platter_Disk_get_ok k x1 x2 x3 y3.2 x5 x6 p1 p2 y4 ((hst.pull 1).pull 1) hy4 fun a2 w hst => ?_))
    refine CK_ret rfl ?_
    refine L_pure 1 [(7, .pointer a2)] (by kernel_rfl) fun b => ?_
    refine wpL_nil ?_
    refine th_n ?_
    refine wp_seq ?_
    refine wp_seq ?_
    refine wp_reg ?_
    refine L_pure 1 [(7, .pointer a2), (18, .pointer a2)] (by kernel_rfl) fun b => ?_
    obtain ⟨x8, hx2, hr⟩ := bnd hr
    have hst := dpt_pick hx2 hst
    refine L_op rfl (O_run (v := pt (ab a2) (ao a2 + (0 : Int).toNat * 4)) (w' := w) (R_nilc hst rfl) rfl rfl ?_)
    refine L_pure 2 [(7, .pointer a2), (21, pt (ab a2) (ao a2 + (0 : Int).toNat * 4))] (by kernel_rfl) fun b => ?_
    obtain ⟨q3, hc3, hst⟩ := dsl_cells hst (show gt [x8] 0 = some x8 from rfl)
    have hst := hst.drop
    refine L_op rfl (O_run (v := .bool x8.now.there) (w' := w) (R_loadAt (off := ao a2 + (0 : Int).toNat * 4) (j := 0) hc3 rfl rfl) rfl rfl ?_)
    refine L_pure 1 [(7, .pointer a2), (23, .bool (!x8.now.there))] (by kernel_rfl) fun b => ?_
    refine wpL_nil ?_
    refine th_n ?_
    refine wp_cond_mkF (t := (!x8.now.there)) rfl (fun h => ?_) (fun h => ?_)
    · have hr := (if_pos h).symm.trans hr
      refine wp_seq ?_
      refine wp_reg ?_
      refine L_pure 2 [(4, S ([])), (5, I 5)] (by kernel_rfl) fun b => ?_
      refine wpL_nil ?_
      refine th_n ?_
      refine wp_ret ?_
      refine th_r ?_
      refine ret2 rfl rfl rfl ?_
      obtain rfl := Option.some.inj hr
      have hst := (((hst.pull 3).pull 3).cut 2 2)
      exact hR _ hst
    · have hr := (if_neg (by rw [h]; exact Bool.false_ne_true)).symm.trans hr
      refine wp_skip ?_
      refine th_n ?_
      refine wp_seq ?_
      refine wp_reg ?_
      refine L_pure 1 [(24, .pointer a2)] (by kernel_rfl) fun b => ?_
      refine L_op rfl (O_run (v := pt (ab a2) (ao a2 + (0 : Int).toNat * 4)) (w' := w) (R_nilc hst rfl) rfl rfl ?_)
      refine L_pure 2 [(27, pt (ab a2) (ao a2 + (0 : Int).toNat * 4 + 1))] (by kernel_rfl) fun b => ?_
      obtain ⟨q4, hc4, hst⟩ := dsl_cells hst (show gt [x8] 0 = some x8 from rfl)
      have hst := hst.drop
      refine L_op rfl (O_run (v := S x8.now.s) (w' := w) (R_loadAt (off := ao a2 + (0 : Int).toNat * 4) (j := 1) hc4 rfl rfl) rfl rfl ?_)
      refine L_pure 2 [(4, S x8.now.s), (5, I 0)] (by kernel_rfl) fun b => ?_
      refine wpL_nil ?_
      refine th_n ?_
      refine wp_ret ?_
      refine ret2 rfl rfl rfl ?_
      obtain rfl := Option.some.inj hr
      have hst := (((hst.pull 3).pull 3).cut 2 2)
      exact hR _ hst
def wire_From (_k : Nat) (x1 : (List UInt8)) : Option ((List UInt8) × Int) := some (x1, (0 : Int))
set_option maxRecDepth 100000 in
set_option maxHeartbeats 4000000 in
theorem wire_From_ok {G w : World} {F : List HP} {R : Ending → World → Prop} (k : Nat) (x1 : (List UInt8)) (r : ((List UInt8) × Int)) (hst : St G w (F)) (hr : wire_From k x1 = some r)
    (hR : ∀ (p2 : Nat) w', St G w' (blk p2 (cl [S r.1, I r.2] 124) :: F) → R (.returned (pt p2 0)) w') :
    Calls Tryz.prog 65 #[S x1] w R := by
  unfold wire_From at hr
  refine enter Tryz.func65 rfl [(0, S x1)] rfl rfl fun b => ?_
  refine wp_seq ?_
  refine wp_reg ?_
  refine L_pure 1 [(0, S x1)] (by kernel_rfl) fun b => ?_
  refine wpL_nil ?_
  refine th_n ?_
  refine wp_seq ?_
  refine wp_reg ?_
  refine L_pure 2 [(4, .agg #[S x1, I 0])] (by kernel_rfl) fun b => ?_
  refine L_op rfl (O_box [S x1, I 0] hst rfl rfl fun p3 w hst => ?_)
  refine L_pure 1 [(2, pt p3 0)] (by kernel_rfl) fun b => ?_
  refine wpL_nil ?_
  refine th_n ?_
  refine wp_ret ?_
  refine ret1 rfl rfl ?_
  obtain rfl := Option.some.inj hr
  exact hR p3 _ hst
def seal_number (_k : Nat) (x1 : (List UInt8)) : Option (Int) := (Option.bind (gt x1 0) fun x6 => (Option.bind (gt x1 1) fun x7 => (Option.bind (gt x1 2) fun x8 => (Option.bind (gt x1 3) fun x9 => some ((bOr .u32 (bOr .u32 (bOr .u32 (shL .u32 (IntKind.u32.wrap (x6.toNat : Int)) 24) (shL .u32 (IntKind.u32.wrap (x7.toNat : Int)) 16)) (shL .u32 (IntKind.u32.wrap (x8.toNat : Int)) 8)) (IntKind.u32.wrap (x9.toNat : Int))))))))
set_option maxRecDepth 100000 in
set_option maxHeartbeats 4000000 in
theorem seal_number_ok {G w : World} {F : List HP} {R : Ending → World → Prop} (k : Nat) (x1 : (List UInt8)) (r : (Int)) (hst : St G w (F)) (hr : seal_number k x1 = some r)
    (hR : ∀ w', St G w' (F) → R (.returned (.int .u32 r)) w') :
    Calls Tryz.prog 79 #[S x1] w R := by
  unfold seal_number at hr
  refine enter Tryz.func79 rfl [(0, S x1)] rfl rfl fun b => ?_
  refine wp_seq ?_
  refine wp_reg ?_
  refine L_pure 1 [(0, S x1)] (by kernel_rfl) fun b => ?_
  refine wpL_nil ?_
  refine th_n ?_
  refine wp_seq ?_
  refine wp_regG (SN { w with drawn := w.drawn + 1 }) rfl ?_
  have hst := hst.draw (n := w.drawn + 1)
  generalize { w with drawn := w.drawn + 1 } = w at hst ⊢
  refine C_take (i := 0) (v := S x1) rfl (by kernel_rfl) (fun _ _ _ h => h) rfl rfl rfl (R_pure (by kernel_rfl)) ?_
  obtain ⟨x6, hx5, hr⟩ := bnd hr
  refine C_take (i := 1) (v := .int .u8 (x6.toNat : Int)) rfl (by kernel_rfl) (fun _ _ _ h => h) rfl rfl rfl (R_idx_s Tryz.underlying9 rfl rfl hx5) ?_
  refine C_take (i := 2) (v := .int .u32 (IntKind.u32.wrap (x6.toNat : Int))) rfl (by kernel_rfl) (fun _ _ _ h => h) rfl rfl rfl (R_pure (by kernel_rfl)) ?_
  refine C_take (i := 3) (v := .int .u32 (shL .u32 (IntKind.u32.wrap (x6.toNat : Int)) 24)) rfl (by kernel_rfl) (fun _ _ _ h => h) rfl rfl rfl (R_pure (by kernel_rfl)) ?_
  refine C_take (i := 4) (v := S x1) rfl (by kernel_rfl) (fun _ _ _ h => h) rfl rfl rfl (R_pure (by kernel_rfl)) ?_
  obtain ⟨x7, hx6, hr⟩ := bnd hr
  refine C_take (i := 5) (v := .int .u8 (x7.toNat : Int)) rfl (by kernel_rfl) (fun _ _ _ h => h) rfl rfl rfl (R_idx_s Tryz.underlying9 rfl rfl hx6) ?_
  refine C_take (i := 6) (v := .int .u32 (IntKind.u32.wrap (x7.toNat : Int))) rfl (by kernel_rfl) (fun _ _ _ h => h) rfl rfl rfl (R_pure (by kernel_rfl)) ?_
  refine C_take (i := 7) (v := .int .u32 (shL .u32 (IntKind.u32.wrap (x7.toNat : Int)) 16)) rfl (by kernel_rfl) (fun _ _ _ h => h) rfl rfl rfl (R_pure (by kernel_rfl)) ?_
  refine C_take (i := 8) (v := .int .u32 (bOr .u32 (shL .u32 (IntKind.u32.wrap (x6.toNat : Int)) 24) (shL .u32 (IntKind.u32.wrap (x7.toNat : Int)) 16))) rfl (by kernel_rfl) (fun _ _ _ h => h) rfl rfl rfl (R_pure (by kernel_rfl)) ?_
  refine C_take (i := 9) (v := S x1) rfl (by kernel_rfl) (fun _ _ _ h => h) rfl rfl rfl (R_pure (by kernel_rfl)) ?_
  obtain ⟨x8, hx7, hr⟩ := bnd hr
  refine C_take (i := 10) (v := .int .u8 (x8.toNat : Int)) rfl (by kernel_rfl) (fun _ _ _ h => h) rfl rfl rfl (R_idx_s Tryz.underlying9 rfl rfl hx7) ?_
  refine C_take (i := 11) (v := .int .u32 (IntKind.u32.wrap (x8.toNat : Int))) rfl (by kernel_rfl) (fun _ _ _ h => h) rfl rfl rfl (R_pure (by kernel_rfl)) ?_
  refine C_take (i := 12) (v := .int .u32 (shL .u32 (IntKind.u32.wrap (x8.toNat : Int)) 8)) rfl (by kernel_rfl) (fun _ _ _ h => h) rfl rfl rfl (R_pure (by kernel_rfl)) ?_
  refine C_take (i := 13) (v := .int .u32 (bOr .u32 (bOr .u32 (shL .u32 (IntKind.u32.wrap (x6.toNat : Int)) 24) (shL .u32 (IntKind.u32.wrap (x7.toNat : Int)) 16)) (shL .u32 (IntKind.u32.wrap (x8.toNat : Int)) 8))) rfl (by kernel_rfl) (fun _ _ _ h => h) rfl rfl rfl (R_pure (by kernel_rfl)) ?_
  refine C_take (i := 14) (v := S x1) rfl (by kernel_rfl) (fun _ _ _ h => h) rfl rfl rfl (R_pure (by kernel_rfl)) ?_
  obtain ⟨x9, hx8, hr⟩ := bnd hr
  refine C_take (i := 15) (v := .int .u8 (x9.toNat : Int)) rfl (by kernel_rfl) (fun _ _ _ h => h) rfl rfl rfl (R_idx_s Tryz.underlying9 rfl rfl hx8) ?_
  refine C_take (i := 16) (v := .int .u32 (IntKind.u32.wrap (x9.toNat : Int))) rfl (by kernel_rfl) (fun _ _ _ h => h) rfl rfl rfl (R_pure (by kernel_rfl)) ?_
  refine C_take (i := 17) (v := .int .u32 (bOr .u32 (bOr .u32 (bOr .u32 (shL .u32 (IntKind.u32.wrap (x6.toNat : Int)) 24) (shL .u32 (IntKind.u32.wrap (x7.toNat : Int)) 16)) (shL .u32 (IntKind.u32.wrap (x8.toNat : Int)) 8)) (IntKind.u32.wrap (x9.toNat : Int)))) rfl (by kernel_rfl) (fun _ _ _ h => h) rfl rfl rfl (R_pure (by kernel_rfl)) ?_
  refine C_take (i := 18) (v := .int .u32 (bOr .u32 (bOr .u32 (bOr .u32 (shL .u32 (IntKind.u32.wrap (x6.toNat : Int)) 24) (shL .u32 (IntKind.u32.wrap (x7.toNat : Int)) 16)) (shL .u32 (IntKind.u32.wrap (x8.toNat : Int)) 8)) (IntKind.u32.wrap (x9.toNat : Int)))) rfl (by kernel_rfl) (fun _ _ _ h => h) rfl rfl rfl (R_pure (by kernel_rfl)) ?_
  refine wpG_done (by kernel_rfl) ?_ _
  refine C_keepQ [(2, .int .u32 (bOr .u32 (bOr .u32 (bOr .u32 (shL .u32 (IntKind.u32.wrap (x6.toNat : Int)) 24) (shL .u32 (IntKind.u32.wrap (x7.toNat : Int)) 16)) (shL .u32 (IntKind.u32.wrap (x8.toNat : Int)) 8)) (IntKind.u32.wrap (x9.toNat : Int))))] rfl fun b => ?_
  refine th_n ?_
  refine wp_ret ?_
  refine ret1 rfl rfl ?_
  obtain rfl := Option.some.inj hr
  exact hR _ hst
def seal_step_l1 (k : Nat) : Nat → Int → Int → Option (Int)
  | 0, _, _ => none
  | j + 1, v7, v8 => (if decide (v8 < 8) = true then (seal_step_l1 k j (bXor .u32 (shR .u32 v7 1) (bAnd .u32 3988292384 (IntKind.u32.wrap (0 - (bAnd .u32 v7 1))))) (IntKind.i64.wrap (v8 + 1))) else some (v7))
def seal_step (k : Nat) (x1 : Int) (x2 : Int) : Option (Int) := (Option.bind (seal_step_l1 k k (bXor .u32 x1 (IntKind.u32.wrap x2)) (0 : Int)) fun y2 => some (y2))
set_option maxRecDepth 100000 in
set_option maxHeartbeats 4000000 in
theorem seal_step_ok {G w : World} {F : List HP} {R : Ending → World → Prop} (k : Nat) (x1 : Int) (x2 : Int) (r : (Int)) (hst : St G w (F)) (hr : seal_step k x1 x2 = some r)
    (hR : ∀ w', St G w' (F) → R (.returned (.int .u32 r)) w') :
    Calls Tryz.prog 77 #[.int .u32 x1, .int .u8 x2] w R := by
  unfold seal_step at hr
  refine enter Tryz.func77 rfl [(0, .int .u32 x1), (1, .int .u8 x2)] rfl rfl fun b => ?_
  refine wp_seq ?_
  refine wp_reg ?_
  refine L_pure 1 [(0, .int .u32 x1), (1, .int .u8 x2)] (by kernel_rfl) fun b => ?_
  refine wpL_nil ?_
  refine th_n ?_
  refine wp_seq ?_
  refine wp_reg ?_
  refine L_pure 5 [(0, .int .u32 (bXor .u32 x1 (IntKind.u32.wrap x2)))] (by kernel_rfl) fun b => ?_
  refine wpL_nil ?_
  refine th_n ?_
  refine wp_seq ?_
  refine wp_seq ?_
  refine wp_reg ?_
  refine L_pure 1 [(0, .int .u32 (bXor .u32 x1 (IntKind.u32.wrap x2))), (9, I 0)] (by kernel_rfl) fun b => ?_
  refine wpL_nil ?_
  refine th_n ?_
  obtain ⟨y2, hy2, hk2⟩ := bnd hr
  clear hr
  refine Go.Hx.wp_cut (fun a w => ∃ (b : Nat → Value), a = mkF 20 b [(0, .int .u32 y2)] ∧ St G w (F)) ?_ ?_
  · rintro _ w ⟨b, rfl, hst⟩
    have hr := hk2
    refine th_n ?_
    refine wp_seq ?_
    refine wp_reg ?_
    refine L_pure 2 [(4, .int .u32 y2)] (by kernel_rfl) fun b => ?_
    refine wpL_nil ?_
    refine th_n ?_
    refine wp_ret ?_
    refine ret1 rfl rfl ?_
    obtain rfl := Option.some.inj hr
    exact hR _ hst
  · refine wp_block ?_
    refine wp_loop_fuel (fun j a w => ∃ (v7 : Int) (v8 : Int) (b : Nat → Value), a = mkF 20 b [(0, .int .u32 v7), (9, I v8)] ∧ St G w (F) ∧ seal_step_l1 k j v7 v8 = some y2) (k := k) ⟨(bXor .u32 x1 (IntKind.u32.wrap x2)), (0 : Int), (kpX [(0, .int .u32 (bXor .u32 x1 (IntKind.u32.wrap x2))), (9, I 0)] rfl ⟨hst, hy2⟩)⟩ ?_ ?_
    · rintro _ _ ⟨_, _, _, _, _, h⟩
      rw [seal_step_l1] at h
      cases h
    · rintro j _ w ⟨v7, v8, b, rfl, hst, hr⟩
      rw [seal_step_l1] at hr
      refine wp_seq ?_
      refine wp_reg ?_
      refine L_pure 1 [(0, .int .u32 v7), (9, I v8), (10, .bool (decide (v8 < 8)))] (by kernel_rfl) fun b => ?_
      refine wpL_nil ?_
      refine th_n ?_
      refine wp_seq ?_
      refine wp_cond_mkF (t := decide (v8 < 8)) rfl (fun h => ?_) (fun h => ?_)
      · have hr := (if_pos h).symm.trans hr
        refine wp_skip ?_
        refine th_n ?_
        refine wp_seq ?_
        refine wp_block ?_
        refine wp_reg ?_
        refine L_pure 8 [(0, .int .u32 (bXor .u32 (shR .u32 v7 1) (bAnd .u32 3988292384 (IntKind.u32.wrap (0 - (bAnd .u32 v7 1)))))), (9, I v8)] (by kernel_rfl) fun b => ?_
        refine wpL_nil ?_
        refine ib_n (th_n ?_)
        refine wp_reg ?_
        refine L_pure 2 [(0, .int .u32 (bXor .u32 (shR .u32 v7 1) (bAnd .u32 3988292384 (IntKind.u32.wrap (0 - (bAnd .u32 v7 1)))))), (9, I (IntKind.i64.wrap (v8 + 1)))] (by kernel_rfl) fun b => ?_
        refine wpL_nil ?_
        refine th_n ?_
        exact ⟨(bXor .u32 (shR .u32 v7 1) (bAnd .u32 3988292384 (IntKind.u32.wrap (0 - (bAnd .u32 v7 1))))), (IntKind.i64.wrap (v8 + 1)), (kpX [(0, .int .u32 (bXor .u32 (shR .u32 v7 1) (bAnd .u32 3988292384 (IntKind.u32.wrap (0 - (bAnd .u32 v7 1)))))), (9, I (IntKind.i64.wrap (v8 + 1)))] rfl ⟨hst, hr⟩)⟩
      · have hr := (if_neg (by rw [h]; exact Bool.false_ne_true)).symm.trans hr
        refine wp_exit ?_
        refine th_x (th_x (ib_x (th_n ?_)))
        obtain rfl := Option.some.inj hr
        exact (kpX [(0, .int .u32 v7)] rfl hst)
def seal_Sum_l2 (k : Nat) (x4 : (List UInt8)) : Nat → Int → Int → Option (Int)
  | 0, _, _ => none
  | j + 1, v15, v16 => (if decide (v16 < (x4.length : Int)) = true then (Option.bind (gt x4 v16) fun x5 => (Option.bind (seal_step k v15 (x5.toNat : Int)) fun y6 => (seal_Sum_l2 k x4 j y6 (IntKind.i64.wrap (v16 + 1))))) else some (v15))
def seal_Sum_l1 (k : Nat) (x1 : (List (List UInt8))) : Nat → Int → Int → Option (Int)
  | 0, _, _ => none
  | j + 1, v11, v12 => (if decide (v12 < (x1.length : Int)) = true then (Option.bind (gt x1 v12) fun x4 => (Option.bind (seal_Sum_l2 k x4 k v11 (0 : Int)) fun y5 => (seal_Sum_l1 k x1 j y5 (IntKind.i64.wrap (v12 + 1))))) else some (v11))
def seal_Sum (k : Nat) (x1 : (List (List UInt8))) : Option (Int) := (Option.bind (seal_Sum_l1 k x1 k (4294967295 : Int) (0 : Int)) fun y4 => some ((bXor .u32 (IntKind.u32.max) y4)))
set_option maxRecDepth 100000 in
set_option maxHeartbeats 4000000 in
theorem seal_Sum_ok {G w : World} {F : List HP} {R : Ending → World → Prop} (k : Nat) (x1 : (List (List UInt8))) (a1 : Option Addr) (c1 : Nat) (r : (Int)) (hst : St G w (dsl rS a1 c1 x1 :: F)) (hr : seal_Sum k x1 = some r)
    (hR : ∀ w', St G w' (dsl rS a1 c1 x1 :: F) → R (.returned (.int .u32 r)) w') :
    Calls Tryz.prog 62 #[.slice a1 x1.length c1] w R := by
  unfold seal_Sum at hr
  refine enter Tryz.func62 rfl [(0, .slice a1 x1.length c1)] rfl rfl fun b => ?_
  refine wp_seq ?_
  refine wp_reg ?_
  refine L_pure 1 [(0, .slice a1 x1.length c1)] (by kernel_rfl) fun b => ?_
  refine wpL_nil ?_
  refine th_n ?_
  refine wp_seq ?_
  refine wp_reg ?_
  refine L_pure 1 [(0, .slice a1 x1.length c1), (3, .int .u32 4294967295)] (by kernel_rfl) fun b => ?_
  refine wpL_nil ?_
  refine th_n ?_
  refine wp_seq ?_
  refine wp_seq ?_
  refine wp_reg ?_
  refine L_pure 3 [(3, .int .u32 4294967295), (7, .slice a1 x1.length c1), (8, I (x1.length : Int)), (9, I 0)] (by kernel_rfl) fun b => ?_
  refine wpL_nil ?_
  refine th_n ?_
  obtain ⟨y4, hy4, hk3⟩ := bnd hr
  clear hr
  refine Go.Hx.wp_cut (fun a w => ∃ (b : Nat → Value), a = mkF 27 b [(3, .int .u32 y4)] ∧ St G w (dsl rS a1 c1 x1 :: F)) ?_ ?_
  · rintro _ w ⟨b, rfl, hst⟩
    have hr := hk3
    refine th_n ?_
    refine wp_seq ?_
    refine wp_reg ?_
    refine L_pure 3 [(2, .int .u32 (bXor .u32 (IntKind.u32.max) y4))] (by kernel_rfl) fun b => ?_
    refine wpL_nil ?_
    refine th_n ?_
    refine wp_ret ?_
    refine ret1 rfl rfl ?_
    obtain rfl := Option.some.inj hr
    exact hR _ hst
  · refine wp_block ?_
    refine wp_loop_fuel (fun j a w => ∃ (v11 : Int) (v12 : Int) (b : Nat → Value), a = mkF 27 b [(3, .int .u32 v11), (7, .slice a1 x1.length c1), (8, I (x1.length : Int)), (9, I v12)] ∧ St G w (dsl rS a1 c1 x1 :: F) ∧ seal_Sum_l1 k x1 j v11 v12 = some y4) (k := k) ⟨(4294967295 : Int), (0 : Int), (kpX [(3, .int .u32 4294967295), (7, .slice a1 x1.length c1), (8, I (x1.length : Int)), (9, I 0)] rfl ⟨hst, hy4⟩)⟩ ?_ ?_
    · rintro _ _ ⟨_, _, _, _, _, h⟩
      rw [seal_Sum_l1] at h
      cases h
    · rintro j _ w ⟨v11, v12, b, rfl, hst, hr⟩
      rw [seal_Sum_l1] at hr
      refine wp_seq ?_
      refine wp_reg ?_
      refine L_pure 1 [(3, .int .u32 v11), (7, .slice a1 x1.length c1), (8, I (x1.length : Int)), (9, I v12), (10, .bool (decide (v12 < (x1.length : Int))))] (by kernel_rfl) fun b => ?_
      refine wpL_nil ?_
      refine th_n ?_
      refine wp_seq ?_
      refine wp_cond_mkF (t := decide (v12 < (x1.length : Int))) rfl (fun h => ?_) (fun h => ?_)
      · have hr := (if_pos h).symm.trans hr
        refine wp_skip ?_
        refine th_n ?_
        refine wp_seq ?_
        refine wp_block ?_
        refine wp_seq ?_
        refine wp_reg ?_
        obtain ⟨x4, hx3, hr⟩ := bnd hr
        refine L_op rfl (O_run (v := pt (ab a1) (ao a1 + v12.toNat * 1)) (w' := w) (R_ia L25 rfl rfl (dsl_addr hst hx3) (gt_some hx3).1 (gt_some hx3).2.1) rfl rfl ?_)
        obtain ⟨q2, hc2, hst⟩ := dsl_cells hst hx3
        have hst := hst.drop
        refine L_op rfl (O_run (v := S x4) (w' := w) (R_loadAt (off := ao a1 + v12.toNat * 1) (j := 0) hc2 rfl rfl) rfl rfl ?_)
        refine L_pure 1 [(3, .int .u32 v11), (5, S x4), (7, .slice a1 x1.length c1), (8, I (x1.length : Int)), (9, I v12)] (by kernel_rfl) fun b => ?_
        refine wpL_nil ?_
        refine th_n ?_
        refine wp_seq ?_
        refine wp_reg ?_
        refine L_pure 3 [(3, .int .u32 v11), (5, S x4), (7, .slice a1 x1.length c1), (8, I (x1.length : Int)), (9, I v12), (14, I (x4.length : Int)), (15, I 0)] (by kernel_rfl) fun b => ?_
        refine wpL_nil ?_
        refine th_n ?_
        obtain ⟨y5, hy5, hk4⟩ := bnd hr
        clear hr
        refine Go.Hx.wp_cut (fun a w => ∃ (b : Nat → Value), a = mkF 27 b [(3, .int .u32 y5), (7, .slice a1 x1.length c1), (8, I (x1.length : Int)), (9, I v12)] ∧ St G w (dsl rS a1 c1 x1 :: F)) ?_ ?_
        · rintro _ w ⟨b, rfl, hst⟩
          have hr := hk4
          refine ib_n (th_n ?_)
          refine wp_reg ?_
          refine L_pure 2 [(3, .int .u32 y5), (7, .slice a1 x1.length c1), (8, I (x1.length : Int)), (9, I (IntKind.i64.wrap (v12 + 1)))] (by kernel_rfl) fun b => ?_
          refine wpL_nil ?_
          refine th_n ?_
          exact ⟨y5, (IntKind.i64.wrap (v12 + 1)), (kpX [(3, .int .u32 y5), (7, .slice a1 x1.length c1), (8, I (x1.length : Int)), (9, I (IntKind.i64.wrap (v12 + 1)))] rfl ⟨hst, hr⟩)⟩
        · refine wp_block ?_
          refine wp_loop_fuel (fun j a w => ∃ (v15 : Int) (v16 : Int) (b : Nat → Value), a = mkF 27 b [(3, .int .u32 v15), (5, S x4), (7, .slice a1 x1.length c1), (8, I (x1.length : Int)), (9, I v12), (14, I (x4.length : Int)), (15, I v16)] ∧ St G w (dsl rS a1 c1 x1 :: F) ∧ seal_Sum_l2 k x4 j v15 v16 = some y5) (k := k) ⟨v11, (0 : Int), (kpX [(3, .int .u32 v11), (5, S x4), (7, .slice a1 x1.length c1), (8, I (x1.length : Int)), (9, I v12), (14, I (x4.length : Int)), (15, I 0)] rfl ⟨hst, hy5⟩)⟩ ?_ ?_
          · rintro _ _ ⟨_, _, _, _, _, h⟩
            rw [seal_Sum_l2] at h
            cases h
          · rintro j _ w ⟨v15, v16, b, rfl, hst, hr⟩
            rw [seal_Sum_l2] at hr
            refine wp_seq ?_
            refine wp_reg ?_
            refine L_pure 1 [(3, .int .u32 v15), (5, S x4), (7, .slice a1 x1.length c1), (8, I (x1.length : Int)), (9, I v12), (14, I (x4.length : Int)), (15, I v16), (16, .bool (decide (v16 < (x4.length : Int))))] (by kernel_rfl) fun b => ?_
            refine wpL_nil ?_
            refine th_n ?_
            refine wp_seq ?_
            refine wp_cond_mkF (t := decide (v16 < (x4.length : Int))) rfl (fun h => ?_) (fun h => ?_)
            · have hr := (if_pos h).symm.trans hr
              refine wp_skip ?_
              refine th_n ?_
              refine wp_seq ?_
              refine wp_block ?_
              refine wp_seq ?_
              refine wp_reg ?_
              refine L_pure 2 [(3, .int .u32 v15), (5, S x4), (6, I v16), (7, .slice a1 x1.length c1), (8, I (x1.length : Int)), (9, I v12), (14, I (x4.length : Int)), (15, I v16)] (by kernel_rfl) fun b => ?_
              refine wpL_nil ?_
              refine th_n ?_
              refine wp_reg ?_
              refine L_pure 3 [(5, S x4), (7, .slice a1 x1.length c1), (8, I (x1.length : Int)), (9, I v12), (14, I (x4.length : Int)), (15, I v16), (18, .int .u32 v15), (19, S x4), (20, I v16)] (by kernel_rfl) fun b => ?_
              obtain ⟨x5, hx4, hr⟩ := bnd hr
              refine L_op rfl (O_run (v := .int .u8 (x5.toNat : Int)) (w' := w) (R_idx_s Tryz.underlying9 rfl rfl hx4) rfl rfl ?_)
              obtain ⟨y6, hy6, hr⟩ := bnd hr
              refine L_op rfl (O_call (vs := #[.int .u32 v15, .int .u8 (x5.toNat : Int)]) Tryz.call77 (by kernel_rfl) (seal_step_ok k v15 (x5.toNat : Int) y6 hst hy6 fun w hst => ?_))
              refine CK_ret rfl ?_
              refine L_pure 1 [(3, .int .u32 y6), (5, S x4), (7, .slice a1 x1.length c1), (8, I (x1.length : Int)), (9, I v12), (14, I (x4.length : Int)), (15, I v16)] (by kernel_rfl) fun b => ?_
              refine wpL_nil ?_
              refine ib_n (th_n ?_)
              refine wp_reg ?_
              refine L_pure 2 [(3, .int .u32 y6), (5, S x4), (7, .slice a1 x1.length c1), (8, I (x1.length : Int)), (9, I v12), (14, I (x4.length : Int)), (15, I (IntKind.i64.wrap (v16 + 1)))] (by kernel_rfl) fun b => ?_
              refine wpL_nil ?_
              refine th_n ?_
              exact ⟨y6, (IntKind.i64.wrap (v16 + 1)), (kpX [(3, .int .u32 y6), (5, S x4), (7, .slice a1 x1.length c1), (8, I (x1.length : Int)), (9, I v12), (14, I (x4.length : Int)), (15, I (IntKind.i64.wrap (v16 + 1)))] rfl ⟨hst, hr⟩)⟩
            · have hr := (if_neg (by rw [h]; exact Bool.false_ne_true)).symm.trans hr
              refine wp_exit ?_
              refine th_x (th_x (ib_x (th_n ?_)))
              obtain rfl := Option.some.inj hr
              exact (kpX [(3, .int .u32 v15), (7, .slice a1 x1.length c1), (8, I (x1.length : Int)), (9, I v12)] rfl hst)
      · have hr := (if_neg (by rw [h]; exact Bool.false_ne_true)).symm.trans hr
        refine wp_exit ?_
        refine th_x (th_x (ib_x (th_n ?_)))
        obtain rfl := Option.some.inj hr
        exact (kpX [(3, .int .u32 v11)] rfl hst)
def seal_Open (k : Nat) (x1 : (List UInt8)) : Option ((List UInt8) × Int × Int) := (if decide ((x1.length : Int) < 8) = true then some ([], (0 : Int), (2 : Int)) else (Option.bind (seal_number k x1) fun y4 => (if decide ((IntKind.i64.wrap y4) > 1048576) = true then some ([], (0 : Int), (11 : Int)) else (if decide ((IntKind.i64.wrap y4) > (IntKind.i64.wrap ((x1.length : Int) - 8))) = true then some ([], (0 : Int), (2 : Int)) else (Option.bind (sl x1 8 (IntKind.i64.wrap (8 + (IntKind.i64.wrap y4)))) fun x5 => (Option.bind (sl x1 0 4) fun x6 => (Option.bind (sl x1 4 (x1.length : Int)) fun x7 => (Option.bind (seal_Sum k ([x6, x5])) fun y5 => (Option.bind (seal_number k x7) fun y6 => (if (y5 != y6) = true then some ([], (0 : Int), (4 : Int)) else some (x5, (IntKind.i64.wrap (8 + (IntKind.i64.wrap y4))), (0 : Int))))))))))))
set_option maxRecDepth 100000 in
set_option maxHeartbeats 4000000 in
theorem seal_Open_ok {G w : World} {F : List HP} {R : Ending → World → Prop} (k : Nat) (x1 : (List UInt8)) (r : ((List UInt8) × Int × Int)) (hst : St G w (F)) (hr : seal_Open k x1 = some r)
    (hR : ∀ w', St G w' (F) → R (.returned (.tuple #[S r.1, I r.2.1, I r.2.2])) w') :
    Calls Tryz.prog 71 #[S x1] w R := by
  unfold seal_Open at hr
  refine enter Tryz.func71 rfl [(0, S x1)] rfl rfl fun b => ?_
  refine wp_seq ?_
  refine wp_reg ?_
  refine L_pure 3 [(0, S x1)] (by kernel_rfl) fun b => ?_
  refine wpL_nil ?_
  refine th_n ?_
  refine wp_seq ?_
  refine wp_seq ?_
  refine wp_reg ?_
  refine L_pure 3 [(0, S x1), (9, .bool (decide ((x1.length : Int) < 8)))] (by kernel_rfl) fun b => ?_
  refine wpL_nil ?_
  refine th_n ?_
  refine wp_cond_mkF (t := decide ((x1.length : Int) < 8)) rfl (fun h => ?_) (fun h => ?_)
  · have hr := (if_pos h).symm.trans hr
    refine wp_seq ?_
    refine wp_reg ?_
    refine L_pure 3 [(2, S ([])), (3, I 0), (4, I 2)] (by kernel_rfl) fun b => ?_
    refine wpL_nil ?_
    refine th_n ?_
    refine wp_ret ?_
    refine th_r ?_
    refine ret3 rfl rfl rfl rfl ?_
    obtain rfl := Option.some.inj hr
    exact hR _ hst
  · have hr := (if_neg (by rw [h]; exact Bool.false_ne_true)).symm.trans hr
    refine wp_skip ?_
    refine th_n ?_
    refine wp_seq ?_
    refine wp_reg ?_
    refine L_pure 1 [(0, S x1), (10, S x1)] (by kernel_rfl) fun b => ?_
    obtain ⟨y4, hy4, hr⟩ := bnd hr
    refine L_op rfl (O_call (vs := #[S x1]) Tryz.call79 (by kernel_rfl) (seal_number_ok k x1 y4 hst hy4 fun w hst => ?_))
    refine CK_ret rfl ?_
    refine L_pure 2 [(0, S x1), (5, I (IntKind.i64.wrap y4))] (by kernel_rfl) fun b => ?_
    refine wpL_nil ?_
    refine th_n ?_
    refine wp_seq ?_
    refine wp_seq ?_
    refine wp_reg ?_
    refine L_pure 2 [(0, S x1), (5, I (IntKind.i64.wrap y4)), (14, .bool (decide ((IntKind.i64.wrap y4) > 1048576)))] (by kernel_rfl) fun b => ?_
    refine wpL_nil ?_
    refine th_n ?_
    refine wp_cond_mkF (t := decide ((IntKind.i64.wrap y4) > 1048576)) rfl (fun h => ?_) (fun h => ?_)
    · have hr := (if_pos h).symm.trans hr
      refine wp_seq ?_
      refine wp_reg ?_
      refine L_pure 3 [(2, S ([])), (3, I 0), (4, I 11)] (by kernel_rfl) fun b => ?_
      refine wpL_nil ?_
      refine th_n ?_
      refine wp_ret ?_
      refine th_r ?_
      refine ret3 rfl rfl rfl rfl ?_
      obtain rfl := Option.some.inj hr
      exact hR _ hst
    · have hr := (if_neg (by rw [h]; exact Bool.false_ne_true)).symm.trans hr
      refine wp_skip ?_
      refine th_n ?_
      refine wp_seq ?_
      refine wp_seq ?_
      refine wp_reg ?_
      refine L_pure 5 [(0, S x1), (5, I (IntKind.i64.wrap y4)), (19, .bool (decide ((IntKind.i64.wrap y4) > (IntKind.i64.wrap ((x1.length : Int) - 8)))))] (by kernel_rfl) fun b => ?_
      refine wpL_nil ?_
      refine th_n ?_
      refine wp_cond_mkF (t := decide ((IntKind.i64.wrap y4) > (IntKind.i64.wrap ((x1.length : Int) - 8)))) rfl (fun h => ?_) (fun h => ?_)
      · have hr := (if_pos h).symm.trans hr
        refine wp_seq ?_
        refine wp_reg ?_
        refine L_pure 3 [(2, S ([])), (3, I 0), (4, I 2)] (by kernel_rfl) fun b => ?_
        refine wpL_nil ?_
        refine th_n ?_
        refine wp_ret ?_
        refine th_r ?_
        refine ret3 rfl rfl rfl rfl ?_
        obtain rfl := Option.some.inj hr
        exact hR _ hst
      · have hr := (if_neg (by rw [h]; exact Bool.false_ne_true)).symm.trans hr
        refine wp_skip ?_
        refine th_n ?_
        refine wp_seq ?_
        refine wp_reg ?_
        refine L_pure 3 [(0, S x1), (5, I (IntKind.i64.wrap y4)), (20, S x1), (22, I (IntKind.i64.wrap (8 + (IntKind.i64.wrap y4))))] (by kernel_rfl) fun b => ?_
        obtain ⟨x5, hx4, hr⟩ := bnd hr
        refine L_op rfl (O_run (v := S x5) (w' := w) (R_slice_s Tryz.underlying9 rfl rfl rfl hx4) rfl rfl ?_)
        refine L_pure 1 [(0, S x1), (5, I (IntKind.i64.wrap y4)), (6, S x5)] (by kernel_rfl) fun b => ?_
        refine wpL_nil ?_
        refine th_n ?_
        refine wp_seq ?_
        refine wp_seq ?_
        refine wp_regG (SQ (fun w => St G w (F))) rfl ?_
        have hst := hst.draw (n := w.drawn + 1)
        generalize { w with drawn := w.drawn + 1 } = w at hst ⊢
        refine Q_take (i := 0) (v := S x1) rfl (by kernel_rfl) (fun _ _ _ h => h) rfl rfl rfl (fun _ _ => R_pure (by kernel_rfl)) hst ?_
        obtain ⟨x6, hx5, hr⟩ := bnd hr
        refine Q_take (i := 1) (v := S x6) rfl (by kernel_rfl) (fun _ _ _ h => h) rfl rfl rfl (fun _ _ => (R_slice_s Tryz.underlying9 rfl rfl rfl hx5)) hst ?_
        refine Q_take (i := 2) (v := S x5) rfl (by kernel_rfl) (fun _ _ _ h => h) rfl rfl rfl (fun _ _ => R_pure (by kernel_rfl)) hst ?_
        refine Q_take (i := 5) (v := S x1) rfl (by kernel_rfl) (fun _ _ _ h => h) rfl rfl rfl (fun _ _ => R_pure (by kernel_rfl)) hst ?_
        obtain ⟨x7, hx6, hr⟩ := bnd hr
        refine Q_take (i := 6) (v := S x7) rfl (by kernel_rfl) (fun _ _ _ h => h) rfl rfl rfl (fun _ _ => (R_slice_s Tryz.underlying9 rfl rfl rfl hx6)) hst ?_
        refine Q_one (i := 3) (by kernel_rfl) rfl rfl (O_bs (T := 9) [S x6, S x5] #[(0, S x6), (1, S x5)] hst (by kernel_rfl) (by kernel_rfl) rfl fun p2 w hst => ?_)
        have hst := osl_of_blk0 (ecs := [[S x6], [S x5]]) rS [x6, x5] rfl (fun m => ⟨⟨(), rfl, trivial⟩, ⟨(), rfl, trivial⟩, trivial⟩) rfl hst
        refine ⟨(hst.cut 0 1), ?_⟩
        obtain ⟨y5, hy5, hr⟩ := bnd hr
        have hst := osl_freeze hst
        refine Q_one (i := 4) (by kernel_rfl) rfl rfl (O_call (vs := #[.slice (some ⟨p2, 0, none⟩) ([x6, x5]).length 2]) Tryz.call62 (by kernel_rfl) (seal_Sum_ok k ([x6, x5]) (some ⟨p2, 0, none⟩) 2 y5 hst hy5 fun w hst => ?_))
        refine CK_ret rfl ?_
        refine ⟨(hst.cut 0 1), ?_⟩
        obtain ⟨y6, hy6, hr⟩ := bnd hr
        refine Q_one (i := 7) (by kernel_rfl) rfl rfl (O_call (vs := #[S x7]) Tryz.call79 (by kernel_rfl) (seal_number_ok k x7 y6 hst hy6 fun w hst => ?_))
        refine CK_ret rfl ?_
        refine ⟨(hst.cut 0 1), ?_⟩
        refine Q_take (i := 8) (v := .bool (y5 != y6)) rfl (by kernel_rfl) (fun _ _ _ h => h) rfl rfl rfl (fun _ _ => R_pure (by kernel_rfl)) (hst.cut 0 1) ?_
        refine wpG_done (by kernel_rfl) ?_ _
        refine C_keepQ [(5, I (IntKind.i64.wrap y4)), (6, S x5), (32, .bool (y5 != y6))] rfl fun b => ?_
        refine th_n ?_
        refine wp_cond_mkF (t := (y5 != y6)) rfl (fun h => ?_) (fun h => ?_)
        · have hr := (if_pos h).symm.trans hr
          refine wp_seq ?_
          refine wp_reg ?_
          refine L_pure 3 [(2, S ([])), (3, I 0), (4, I 4)] (by kernel_rfl) fun b => ?_
          refine wpL_nil ?_
          refine th_n ?_
          refine wp_ret ?_
          refine th_r ?_
          refine ret3 rfl rfl rfl rfl ?_
          obtain rfl := Option.some.inj hr
          have hst := (hst.cut 0 1)
          exact hR _ hst
        · have hr := (if_neg (by rw [h]; exact Bool.false_ne_true)).symm.trans hr
          refine wp_skip ?_
          refine th_n ?_
          refine wp_seq ?_
          refine wp_reg ?_
          refine L_pure 6 [(2, S x5), (3, I (IntKind.i64.wrap (8 + (IntKind.i64.wrap y4)))), (4, I 0)] (by kernel_rfl) fun b => ?_
          refine wpL_nil ?_
          refine th_n ?_
          refine wp_ret ?_
          refine ret3 rfl rfl rfl rfl ?_
          obtain rfl := Option.some.inj hr
          have hst := (hst.cut 0 1)
          exact hR _ hst
def seal_Only (k : Nat) (x1 : (List UInt8)) : Option ((List UInt8) × Int) := (Option.bind (seal_Open k x1) fun y3 => (Option.bind (if (y3.2.2 == 0) = true then some (decide (y3.2.1 < (x1.length : Int))) else some (false)) fun y4 => (if y4 = true then some ([], (3 : Int)) else some (y3.1, y3.2.2))))
set_option maxRecDepth 100000 in
set_option maxHeartbeats 4000000 in
theorem seal_Only_ok {G w : World} {F : List HP} {R : Ending → World → Prop} (k : Nat) (x1 : (List UInt8)) (r : ((List UInt8) × Int)) (hst : St G w (F)) (hr : seal_Only k x1 = some r)
    (hR : ∀ w', St G w' (F) → R (.returned (.tuple #[S r.1, I r.2])) w') :
    Calls Tryz.prog 66 #[S x1] w R := by
  unfold seal_Only at hr
  refine enter Tryz.func66 rfl [(0, S x1)] rfl rfl fun b => ?_
  refine wp_seq ?_
  refine wp_reg ?_
  refine L_pure 2 [(0, S x1)] (by kernel_rfl) fun b => ?_
  refine wpL_nil ?_
  refine th_n ?_
  refine wp_seq ?_
  refine wp_reg ?_
  refine L_pure 1 [(0, S x1), (8, S x1)] (by kernel_rfl) fun b => ?_
  obtain ⟨y3, hy3, hr⟩ := bnd hr
  refine L_op rfl (O_call (vs := #[S x1]) Tryz.call71 (by kernel_rfl) (seal_Open_ok k x1 y3 hst hy3 fun w hst => ?_))
  refine CK_ret rfl ?_
  refine L_pure 7 [(0, S x1), (4, S y3.1), (5, I y3.2.1), (6, I y3.2.2)] (by kernel_rfl) fun b => ?_
  refine wpL_nil ?_
  refine th_n ?_
  refine wp_seq ?_
  obtain ⟨y4, hy4, hk2⟩ := bnd hr
  clear hr
  refine wp_seq_cut (fun a w => ∃ (b : Nat → Value), a = mkF 23 b [(4, S y3.1), (6, I y3.2.2), (20, .bool y4)] ∧ St G w (F)) ?_ ?_
  · rintro _ w ⟨b, rfl, hst⟩
    have hr := hk2
    refine wp_cond_mkF (t := y4) rfl (fun h => ?_) (fun h => ?_)
    · have hr := (if_pos h).symm.trans hr
      refine wp_seq ?_
      refine wp_reg ?_
      refine L_pure 2 [(2, S ([])), (3, I 3)] (by kernel_rfl) fun b => ?_
      refine wpL_nil ?_
      refine th_n ?_
      refine wp_ret ?_
      refine th_r ?_
      refine ret2 rfl rfl rfl ?_
      obtain rfl := Option.some.inj hr
      exact hR _ hst
    · have hr := (if_neg (by rw [h]; exact Bool.false_ne_true)).symm.trans hr
      refine wp_skip ?_
      refine th_n ?_
      refine wp_seq ?_
      refine wp_reg ?_
      refine L_pure 4 [(2, S y3.1), (3, I y3.2.2)] (by kernel_rfl) fun b => ?_
      refine wpL_nil ?_
      refine th_n ?_
      refine wp_ret ?_
      refine ret2 rfl rfl rfl ?_
      obtain rfl := Option.some.inj hr
      exact hR _ hst
  · have hr := hy4
    refine wp_reg ?_
    refine L_pure 3 [(0, S x1), (4, S y3.1), (5, I y3.2.1), (6, I y3.2.2), (15, .bool (y3.2.2 == 0))] (by kernel_rfl) fun b => ?_
    by_cases h : (y3.2.2 == 0) = true
    · have hr := (if_pos h).symm.trans hr
      refine L_keep ((15, .bool (y3.2.2 == 0)) :: [(0, S x1), (4, S y3.1), (5, I y3.2.1), (6, I y3.2.2)]) rfl fun b => ?_
      refine L_bool h ?_
      refine L_pure 5 [(4, S y3.1), (6, I y3.2.2), (20, .bool (decide (y3.2.1 < (x1.length : Int))))] (by kernel_rfl) fun b => ?_
      refine wpL_nil ?_
      refine th_n ?_
      obtain rfl := Option.some.inj hr
      exact (kpX [(4, S y3.1), (6, I y3.2.2), (20, .bool (decide (y3.2.1 < (x1.length : Int))))] rfl hst)
    · have hr := (if_neg h).symm.trans hr
      refine L_keep ((15, .bool (y3.2.2 == 0)) :: [(0, S x1), (4, S y3.1), (5, I y3.2.1), (6, I y3.2.2)]) rfl fun b => ?_
      refine L_bool (eq_false_of_ne_true h) ?_
      refine L_pure 5 [(4, S y3.1), (6, I y3.2.2), (20, .bool false)] (by kernel_rfl) fun b => ?_
      refine wpL_nil ?_
      refine th_n ?_
      obtain rfl := Option.some.inj hr
      exact (kpX [(4, S y3.1), (6, I y3.2.2), (20, .bool false)] rfl hst)
def term_read (k : Nat) (x1 : Int) (x2 : Int) (x3 : Bool) (x4 : Int) (x5 : (List ((List UInt8) × (Option T_platter_file)))) (x6 : (List UInt8)) : Option ((List UInt8) × Int × Int × Int) := (Option.bind (platter_Disk_Read k x1 x2 x3 x4 x5 x6) fun y6 => (if (y6.2.1 != 0) = true then (Option.bind (wire_From k ([])) fun y7 => some (y7.1, y7.2, y6.2.1, y6.2.2)) else (Option.bind (seal_Only k y6.1) fun y8 => (Option.bind (if (y8.2 == 2) = true then some ((5 : Int)) else some (y8.2)) fun y9 => (Option.bind (wire_From k y8.1) fun y10 => some (y10.1, y10.2, y9, y6.2.2))))))
set_option maxRecDepth 100000 in
set_option maxHeartbeats 4000000 in
theorem term_read_ok {G w : World} {F : List HP} {R : Ending → World → Prop} (k : Nat) (x1 : Int) (x2 : Int) (x3 : Bool) (x4 : Int) (x5 : (List ((List UInt8) × (Option T_platter_file)))) (x6 : (List UInt8)) (p1 : Nat) (p2 : Nat) (r : ((List UInt8) × Int × Int × Int)) (hst : St G w (blk p1 (cl [I x1, I x2, .bool x3, I x4, .map (some p2)] 79) :: mpr S (rPt r_T_platter_file) p2 x5 :: F)) (hr : term_read k x1 x2 x3 x4 x5 x6 = some r)
    (hR : ∀ (p5 : Nat) w', St G w' (blk p5 (cl [S r.1, I r.2.1] 124) :: blk p1 (cl [I x1, I x2, .bool x3, I r.2.2.2, .map (some p2)] 79) :: mpr S (rPt r_T_platter_file) p2 x5 :: F) → R (.returned (.tuple #[pt p5 0, I r.2.2.1])) w') :
    Calls Tryz.prog 51 #[pt p1 0, S x6] w R := by
  unfold term_read at hr
  refine enter Tryz.func51 rfl [(0, pt p1 0), (1, S x6)] rfl rfl fun b => ?_
  refine wp_seq ?_
  refine wp_reg ?_
  refine L_pure 2 [(0, pt p1 0), (1, S x6)] (by kernel_rfl) fun b => ?_
  refine wpL_nil ?_
  refine th_n ?_
  refine wp_seq ?_
  refine wp_reg ?_
  refine L_pure 2 [(10, pt p1 0), (11, S x6)] (by kernel_rfl) fun b => ?_
  obtain ⟨y6, hy6, hr⟩ := bnd hr
  refine L_op rfl (O_call (vs := #[pt p1 0, S x6]) Tryz.call55 (by kernel_rfl) (platter_Disk_Read_ok k x1 x2 x3 x4 x5 x6 p1 p2 y6 ((hst.pull 1).pull 1) hy6 fun w hst => ?_))
  refine CK_ret rfl ?_
  refine L_pure 5 [(6, S y6.1), (7, I y6.2.1)] (by kernel_rfl) fun b => ?_
  refine wpL_nil ?_
  refine th_n ?_
  refine wp_seq ?_
  refine wp_seq ?_
  refine wp_reg ?_
  refine L_pure 2 [(6, S y6.1), (7, I y6.2.1), (16, .bool (y6.2.1 != 0))] (by kernel_rfl) fun b => ?_
  refine wpL_nil ?_
  refine th_n ?_
  refine wp_cond_mkF (t := (y6.2.1 != 0)) rfl (fun h => ?_) (fun h => ?_)
  · have hr := (if_pos h).symm.trans hr
    refine wp_seq ?_
    refine wp_reg ?_
    obtain ⟨y7, hy7, hr⟩ := bnd hr
    refine L_op rfl (O_call (vs := #[S ([])]) Tryz.call65 (by kernel_rfl) (wire_From_ok k ([]) y7 hst hy7 fun p6 w hst => ?_))
    refine CK_ret rfl ?_
    refine L_pure 3 [(4, pt p6 0), (5, I y6.2.1)] (by kernel_rfl) fun b => ?_
    refine wpL_nil ?_
    refine th_n ?_
    refine wp_ret ?_
    refine th_r ?_
    refine ret2 rfl rfl rfl ?_
    obtain rfl := Option.some.inj hr
    have hst := (((hst.pull 2).pull 2).pull 2)
    exact hR p6 _ hst
  · have hr := (if_neg (by rw [h]; exact Bool.false_ne_true)).symm.trans hr
    refine wp_skip ?_
    refine th_n ?_
    refine wp_seq ?_
    refine wp_reg ?_
    refine L_pure 1 [(20, S y6.1)] (by kernel_rfl) fun b => ?_
    obtain ⟨y8, hy8, hr⟩ := bnd hr
    refine L_op rfl (O_call (vs := #[S y6.1]) Tryz.call66 (by kernel_rfl) (seal_Only_ok k y6.1 y8 hst hy8 fun w hst => ?_))
    refine CK_ret rfl ?_
    refine L_pure 5 [(7, I y8.2), (8, S y8.1)] (by kernel_rfl) fun b => ?_
    refine wpL_nil ?_
    refine th_n ?_
    obtain ⟨y9, hy9, hk2⟩ := bnd hr
    clear hr
    refine wp_seq_cut (fun a w => ∃ (b : Nat → Value), a = mkF 29 b [(7, I y9), (8, S y8.1)] ∧ St G w (blk p1 (cl [I x1, I x2, .bool x3, I y6.2.2, .map (some p2)] 79) :: mpr S (rPt r_T_platter_file) p2 x5 :: F)) ?_ ?_
    · rintro _ w ⟨b, rfl, hst⟩
      have hr := hk2
      refine wp_seq ?_
      refine wp_reg ?_
      refine L_pure 1 [(7, I y9), (26, S y8.1)] (by kernel_rfl) fun b => ?_
      obtain ⟨y10, hy10, hr⟩ := bnd hr
      refine L_op rfl (O_call (vs := #[S y8.1]) Tryz.call65 (by kernel_rfl) (wire_From_ok k y8.1 y10 hst hy10 fun p7 w hst => ?_))
      refine CK_ret rfl ?_
      refine L_pure 3 [(4, pt p7 0), (5, I y9)] (by kernel_rfl) fun b => ?_
      refine wpL_nil ?_
      refine th_n ?_
      refine wp_ret ?_
      refine ret2 rfl rfl rfl ?_
      obtain rfl := Option.some.inj hr
      have hst := (((hst.pull 2).pull 2).pull 2)
      exact hR p7 _ hst
    · have hr := hy9
      refine wp_seq ?_
      refine wp_reg ?_
      refine L_pure 2 [(7, I y8.2), (8, S y8.1), (25, .bool (y8.2 == 2))] (by kernel_rfl) fun b => ?_
      refine wpL_nil ?_
      refine th_n ?_
      refine wp_cond_mkF (t := (y8.2 == 2)) rfl (fun h => ?_) (fun h => ?_)
      · have hr := (if_pos h).symm.trans hr
        refine wp_reg ?_
        refine L_pure 1 [(7, I 5), (8, S y8.1)] (by kernel_rfl) fun b => ?_
        refine wpL_nil ?_
        refine th_n ?_
        obtain rfl := Option.some.inj hr
        have hst := ((hst.pull 1).pull 1)
        exact (kpX [(7, I 5), (8, S y8.1)] rfl hst)
      · have hr := (if_neg (by rw [h]; exact Bool.false_ne_true)).symm.trans hr
        refine wp_skip ?_
        refine th_n ?_
        obtain rfl := Option.some.inj hr
        have hst := ((hst.pull 1).pull 1)
        exact (kpX [(7, I y8.2), (8, S y8.1)] rfl hst)
def wire_Dec_byte (_k : Nat) (x1 : T_wire_Dec) : Option (Int × (List UInt8) × Int) := (Option.bind (Option.bind (if (x1.err == 0) = true then some ((sEq x1.s ([]))) else some (false)) fun y4 => (if y4 = true then some ((2 : Int)) else some (x1.err))) fun y3 => (if (y3 != 0) = true then some ((0 : Int), x1.s, y3) else (Option.bind (gt x1.s 0) fun x4 => (Option.bind (sl x1.s 1 (x1.s.length : Int)) fun x5 => some ((x4.toNat : Int), x5, y3)))))
set_option maxRecDepth 100000 in
set_option maxHeartbeats 4000000 in
theorem wire_Dec_byte_ok {G w : World} {F : List HP} {R : Ending → World → Prop} (k : Nat) (x1 : T_wire_Dec) (p1 : Nat) (r : (Int × (List UInt8) × Int)) (hst : St G w (blk p1 (cl [S x1.s, I x1.err] 124) :: F)) (hr : wire_Dec_byte k x1 = some r)
    (hR : ∀ w', St G w' (blk p1 (cl [S r.2.1, I r.2.2] 124) :: F) → R (.returned (.int .u8 r.1)) w') :
    Calls Tryz.prog 78 #[pt p1 0] w R := by
  unfold wire_Dec_byte at hr
  refine enter Tryz.func78 rfl [(0, pt p1 0)] rfl rfl fun b => ?_
  refine wp_seq ?_
  refine wp_reg ?_
  refine L_pure 1 [(0, pt p1 0)] (by kernel_rfl) fun b => ?_
  refine wpL_nil ?_
  refine th_n ?_
  obtain ⟨y3, hy3, hk3⟩ := bnd hr
  clear hr
  refine wp_seq_cut (fun a w => ∃ (b : Nat → Value), a = mkF 38 b [(0, pt p1 0)] ∧ St G w (blk p1 (cl [S x1.s, I y3] 124) :: F)) ?_ ?_
  · rintro _ w ⟨b, rfl, hst⟩
    have hr := hk3
    refine wp_seq ?_
    refine wp_seq ?_
    refine wp_reg ?_
    refine L_pure 3 [(0, pt p1 0), (21, pt p1 1)] (by kernel_rfl) fun b => ?_
    refine L_op rfl (O_run (v := I y3) (w' := w) (R_load hst rfl rfl) rfl rfl ?_)
    refine L_pure 1 [(0, pt p1 0), (23, .bool (y3 != 0))] (by kernel_rfl) fun b => ?_
    refine wpL_nil ?_
    refine th_n ?_
    refine wp_cond_mkF (t := (y3 != 0)) rfl (fun h => ?_) (fun h => ?_)
    · have hr := (if_pos h).symm.trans hr
      refine wp_seq ?_
      refine wp_reg ?_
      refine L_pure 1 [(2, .int .u8 0)] (by kernel_rfl) fun b => ?_
      refine wpL_nil ?_
      refine th_n ?_
      refine wp_ret ?_
      refine th_r ?_
      refine ret1 rfl rfl ?_
      obtain rfl := Option.some.inj hr
      exact hR _ hst
    · have hr := (if_neg (by rw [h]; exact Bool.false_ne_true)).symm.trans hr
      refine wp_skip ?_
      refine th_n ?_
      refine wp_seq ?_
      refine wp_reg ?_
      refine L_pure 3 [(0, pt p1 0), (26, pt p1 0)] (by kernel_rfl) fun b => ?_
      refine L_op rfl (O_run (v := S x1.s) (w' := w) (R_load hst rfl rfl) rfl rfl ?_)
      obtain ⟨x4, hx3, hr⟩ := bnd hr
      refine L_op rfl (O_run (v := .int .u8 (x4.toNat : Int)) (w' := w) (R_idx_s Tryz.underlying9 rfl rfl hx3) rfl rfl ?_)
      refine L_pure 1 [(0, pt p1 0), (3, .int .u8 (x4.toNat : Int))] (by kernel_rfl) fun b => ?_
      refine wpL_nil ?_
      refine th_n ?_
      refine wp_seq ?_
      refine wp_reg ?_
      refine L_pure 4 [(3, .int .u8 (x4.toNat : Int)), (29, pt p1 0), (32, pt p1 0)] (by kernel_rfl) fun b => ?_
      refine L_op rfl (O_run (v := S x1.s) (w' := w) (R_load hst rfl rfl) rfl rfl ?_)
      obtain ⟨x5, hx4, hr⟩ := bnd hr
      refine L_op rfl (O_run (v := S x5) (w' := w) (R_slice_s Tryz.underlying9 rfl rfl rfl hx4) rfl rfl ?_)
      refine L_pure 2 [(3, .int .u8 (x4.toNat : Int)), (34, S x5), (36, pt p1 0)] (by kernel_rfl) fun b => ?_
      refine L_op rfl (O_store [S x5, I y3] hst rfl rfl (by kernel_rfl) fun w hst => ?_)
      refine wpL_nil ?_
      refine th_n ?_
      refine wp_seq ?_
      refine wp_reg ?_
      refine L_pure 2 [(2, .int .u8 (x4.toNat : Int))] (by kernel_rfl) fun b => ?_
      refine wpL_nil ?_
      refine th_n ?_
      refine wp_ret ?_
      refine ret1 rfl rfl ?_
      obtain rfl := Option.some.inj hr
      exact hR _ hst
  · have hr := hy3
    obtain ⟨y4, hy4, hk4⟩ := bnd hr
    clear hr
    refine wp_seq_cut (fun a w => ∃ (b : Nat → Value), a = mkF 38 b [(0, pt p1 0), (15, .bool y4)] ∧ St G w (blk p1 (cl [S x1.s, I x1.err] 124) :: F)) ?_ ?_
    · rintro _ w ⟨b, rfl, hst⟩
      have hr := hk4
      refine wp_cond_mkF (t := y4) rfl (fun h => ?_) (fun h => ?_)
      · have hr := (if_pos h).symm.trans hr
        refine wp_reg ?_
        refine L_pure 3 [(0, pt p1 0), (18, pt p1 1)] (by kernel_rfl) fun b => ?_
        refine L_op rfl (O_store [S x1.s, I 2] hst rfl rfl (by kernel_rfl) fun w hst => ?_)
        refine wpL_nil ?_
        refine th_n ?_
        obtain rfl := Option.some.inj hr
        exact (kpX [(0, pt p1 0)] rfl hst)
      · have hr := (if_neg (by rw [h]; exact Bool.false_ne_true)).symm.trans hr
        refine wp_skip ?_
        refine th_n ?_
        obtain rfl := Option.some.inj hr
        exact (kpX [(0, pt p1 0)] rfl hst)
    · have hr := hy4
      refine wp_reg ?_
      refine L_pure 3 [(0, pt p1 0), (6, pt p1 1)] (by kernel_rfl) fun b => ?_
      refine L_op rfl (O_run (v := I x1.err) (w' := w) (R_load hst rfl rfl) rfl rfl ?_)
      refine L_pure 2 [(0, pt p1 0), (9, .bool (x1.err == 0))] (by kernel_rfl) fun b => ?_
      by_cases h : (x1.err == 0) = true
      · have hr := (if_pos h).symm.trans hr
        refine L_keep ((9, .bool (x1.err == 0)) :: [(0, pt p1 0)]) rfl fun b => ?_
        refine L_bool h ?_
        refine L_pure 3 [(0, pt p1 0), (9, .bool true), (12, pt p1 0)] (by kernel_rfl) fun b => ?_
        refine L_op rfl (O_run (v := S x1.s) (w' := w) (R_load hst rfl rfl) rfl rfl ?_)
        refine L_pure 2 [(0, pt p1 0), (15, .bool (sEq x1.s ([])))] (by kernel_rfl) fun b => ?_
        refine wpL_nil ?_
        refine th_n ?_
        obtain rfl := Option.some.inj hr
        exact (kpX [(0, pt p1 0), (15, .bool (sEq x1.s ([])))] rfl hst)
      · have hr := (if_neg h).symm.trans hr
        refine L_keep ((9, .bool (x1.err == 0)) :: [(0, pt p1 0)]) rfl fun b => ?_
        refine L_bool (eq_false_of_ne_true h) ?_
        refine L_pure 6 [(0, pt p1 0), (15, .bool false)] (by kernel_rfl) fun b => ?_
        refine wpL_nil ?_
        refine th_n ?_
        obtain rfl := Option.some.inj hr
        exact (kpX [(0, pt p1 0), (15, .bool false)] rfl hst)
def wire_Dec_Fail (_k : Nat) (x1 : T_wire_Dec) (x2 : Int) : Option (Int) := (if (x1.err == 0) = true then some (x2) else some (x1.err))
set_option maxRecDepth 100000 in
set_option maxHeartbeats 4000000 in
theorem wire_Dec_Fail_ok {G w : World} {F : List HP} {R : Ending → World → Prop} (k : Nat) (x1 : T_wire_Dec) (x2 : Int) (p1 : Nat) (r : (Int)) (hst : St G w (blk p1 (cl [S x1.s, I x1.err] 124) :: F)) (hr : wire_Dec_Fail k x1 x2 = some r)
    (hR : ∀ w', St G w' (blk p1 (cl [S x1.s, I r] 124) :: F) → R (.returned (.tuple #[])) w') :
    Calls Tryz.prog 68 #[pt p1 0, I x2] w R := by
  unfold wire_Dec_Fail at hr
  refine enter Tryz.func68 rfl [(0, pt p1 0), (1, I x2)] rfl rfl fun b => ?_
  refine wp_seq ?_
  refine wp_reg ?_
  refine L_pure 3 [(0, pt p1 0), (1, I x2), (6, pt p1 1)] (by kernel_rfl) fun b => ?_
  refine L_op rfl (O_run (v := I x1.err) (w' := w) (R_load hst rfl rfl) rfl rfl ?_)
  refine L_pure 1 [(0, pt p1 0), (1, I x2), (8, .bool (x1.err == 0))] (by kernel_rfl) fun b => ?_
  refine wpL_nil ?_
  refine th_n ?_
  refine wp_cond_mkF (t := (x1.err == 0)) rfl (fun h => ?_) (fun h => ?_)
  · have hr := (if_pos h).symm.trans hr
    refine wp_reg ?_
    refine L_pure 4 [(10, I x2), (12, pt p1 1)] (by kernel_rfl) fun b => ?_
    refine L_op rfl (O_store [S x1.s, I x2] hst rfl rfl (by kernel_rfl) fun w hst => ?_)
    refine wpL_nil ?_
    refine bp_normal ?_
    refine ret0 rfl ?_
    obtain rfl := Option.some.inj hr
    exact hR _ hst
  · have hr := (if_neg (by rw [h]; exact Bool.false_ne_true)).symm.trans hr
    refine wp_skip ?_
    refine bp_normal ?_
    refine ret0 rfl ?_
    obtain rfl := Option.some.inj hr
    exact hR _ hst
def wire_Dec_U_l1 (k : Nat) : Nat → Int → Int → (List UInt8) → Int → Option (Flow (Int × (List UInt8) × Int) (Unit))
  | 0, _, _, _, _ => none
  | j + 1, v13, v14, v15, v16 => (Option.bind (wire_Dec_byte k (T_wire_Dec.mk v15 v16)) fun y7 => (Option.bind (Option.bind (if (v14 == 0) = true then (if (y7.1 == 128) = true then some (true) else some (((shR .u64 v13 57) != 0))) else some (((shR .u64 v13 57) != 0))) fun y9 => (if y9 = true then (Option.bind (wire_Dec_Fail k (T_wire_Dec.mk y7.2.1 y7.2.2) 3) fun y10 => some (y10)) else some (y7.2.2))) fun y8 => (if (y8 != 0) = true then some (Flow.ret ((0 : Int), y7.2.1, y8)) else (if decide (y7.1 < 128) = true then some (Flow.ret ((bOr .u64 (shL .u64 v13 7) (IntKind.u64.wrap (bAnd .u8 y7.1 127))), y7.2.1, y8)) else (wire_Dec_U_l1 k j (bOr .u64 (shL .u64 v13 7) (IntKind.u64.wrap (bAnd .u8 y7.1 127))) (IntKind.i64.wrap (v14 + 1)) y7.2.1 y8)))))
def wire_Dec_U (k : Nat) (x1 : T_wire_Dec) : Option (Int × (List UInt8) × Int) := (Option.bind (wire_Dec_U_l1 k k (0 : Int) (0 : Int) x1.s x1.err) fun y6 => (match y6 with | Flow.ret r => some r | Flow.go _ => none))
set_option maxRecDepth 100000 in
set_option maxHeartbeats 4000000 in
theorem wire_Dec_U_ok {G w : World} {F : List HP} {R : Ending → World → Prop} (k : Nat) (x1 : T_wire_Dec) (p1 : Nat) (r : (Int × (List UInt8) × Int)) (hst : St G w (blk p1 (cl [S x1.s, I x1.err] 124) :: F)) (hr : wire_Dec_U k x1 = some r)
    (hR : ∀ w', St G w' (blk p1 (cl [S r.2.1, I r.2.2] 124) :: F) → R (.returned (.int .u64 r.1)) w') :
    Calls Tryz.prog 67 #[pt p1 0] w R := by
  unfold wire_Dec_U at hr
  refine enter Tryz.func67 rfl [(0, pt p1 0)] rfl rfl fun b => ?_
  refine wp_seq ?_
  refine wp_reg ?_
  refine L_pure 1 [(0, pt p1 0)] (by kernel_rfl) fun b => ?_
  refine wpL_nil ?_
  refine th_n ?_
  refine wp_seq ?_
  refine wp_reg ?_
  refine L_pure 1 [(0, pt p1 0), (3, .int .u64 0)] (by kernel_rfl) fun b => ?_
  refine wpL_nil ?_
  refine th_n ?_
  refine wp_seq ?_
  refine wp_reg ?_
  refine L_pure 1 [(0, pt p1 0), (3, .int .u64 0), (4, I 0)] (by kernel_rfl) fun b => ?_
  refine wpL_nil ?_
  refine th_n ?_
  obtain ⟨y6, hy6, hk4⟩ := bnd hr
  clear hr
  refine Go.Hx.wp_cut (fun _ _ => False) ?_ ?_
  · intro _ _ h
    exact h.elim
  · refine wp_block ?_
    refine wp_loop_fuel (fun j a w => ∃ (v13 : Int) (v14 : Int) (v15 : (List UInt8)) (v16 : Int) (b : Nat → Value), a = mkF 37 b [(0, pt p1 0), (3, .int .u64 v13), (4, I v14)] ∧ St G w (blk p1 (cl [S v15, I v16] 124) :: F) ∧ wire_Dec_U_l1 k j v13 v14 v15 v16 = some y6) (k := k) ⟨(0 : Int), (0 : Int), x1.s, x1.err, (kpX [(0, pt p1 0), (3, .int .u64 0), (4, I 0)] rfl ⟨hst, hy6⟩)⟩ ?_ ?_
    · rintro _ _ ⟨_, _, _, _, _, _, _, h⟩
      rw [wire_Dec_U_l1] at h
      cases h
    · rintro j _ w ⟨v13, v14, v15, v16, b, rfl, hst, hr⟩
      rw [wire_Dec_U_l1] at hr
      refine wp_seq ?_
      refine wp_block ?_
      refine wp_seq ?_
      refine wp_reg ?_
      refine L_pure 1 [(0, pt p1 0), (3, .int .u64 v13), (4, I v14), (8, pt p1 0)] (by kernel_rfl) fun b => ?_
      obtain ⟨y7, hy7, hr⟩ := bnd hr
      refine L_op rfl (O_call (vs := #[pt p1 0]) Tryz.call78 (by kernel_rfl) (wire_Dec_byte_ok k (T_wire_Dec.mk v15 v16) p1 y7 hst hy7 fun w hst => ?_))
      refine CK_ret rfl ?_
      refine L_pure 1 [(0, pt p1 0), (3, .int .u64 v13), (4, I v14), (5, .int .u8 y7.1)] (by kernel_rfl) fun b => ?_
      refine wpL_nil ?_
      refine th_n ?_
      obtain ⟨y8, hy8, hk5⟩ := bnd hr
      clear hr
      refine wp_seq_cut (fun a w => ∃ (b : Nat → Value), a = mkF 37 b [(0, pt p1 0), (3, .int .u64 v13), (4, I v14), (5, .int .u8 y7.1)] ∧ St G w (blk p1 (cl [S y7.2.1, I y8] 124) :: F)) ?_ ?_
      · rintro _ w ⟨b, rfl, hst⟩
        have hr := hk5
        refine wp_seq ?_
        refine wp_seq ?_
        refine wp_reg ?_
        refine L_pure 3 [(0, pt p1 0), (3, .int .u64 v13), (4, I v14), (5, .int .u8 y7.1), (25, pt p1 1)] (by kernel_rfl) fun b => ?_
        refine L_op rfl (O_run (v := I y8) (w' := w) (R_load hst rfl rfl) rfl rfl ?_)
        refine L_pure 1 [(0, pt p1 0), (3, .int .u64 v13), (4, I v14), (5, .int .u8 y7.1), (27, .bool (y8 != 0))] (by kernel_rfl) fun b => ?_
        refine wpL_nil ?_
        refine th_n ?_
        refine wp_cond_mkF (t := (y8 != 0)) rfl (fun h => ?_) (fun h => ?_)
        · have hr := (if_pos h).symm.trans hr
          refine wp_seq ?_
          refine wp_reg ?_
          refine L_pure 1 [(2, .int .u64 0)] (by kernel_rfl) fun b => ?_
          refine wpL_nil ?_
          refine th_n ?_
          refine wp_ret ?_
          refine th_r (ib_r (th_r (th_r (ib_r (th_r ?_)))))
          refine ret1 rfl rfl ?_
          obtain rfl := Option.some.inj hr
          obtain rfl := Option.some.inj hk4
          exact hR _ hst
        · have hr := (if_neg (by rw [h]; exact Bool.false_ne_true)).symm.trans hr
          refine wp_skip ?_
          refine th_n ?_
          refine wp_seq ?_
          refine wp_reg ?_
          refine L_pure 7 [(0, pt p1 0), (3, .int .u64 (bOr .u64 (shL .u64 v13 7) (IntKind.u64.wrap (bAnd .u8 y7.1 127)))), (4, I v14), (5, .int .u8 y7.1)] (by kernel_rfl) fun b => ?_
          refine wpL_nil ?_
          refine th_n ?_
          refine wp_seq ?_
          refine wp_reg ?_
          refine L_pure 2 [(0, pt p1 0), (3, .int .u64 (bOr .u64 (shL .u64 v13 7) (IntKind.u64.wrap (bAnd .u8 y7.1 127)))), (4, I v14), (35, .bool (decide (y7.1 < 128)))] (by kernel_rfl) fun b => ?_
          refine wpL_nil ?_
          refine th_n ?_
          refine wp_cond_mkF (t := decide (y7.1 < 128)) rfl (fun h => ?_) (fun h => ?_)
          · have hr := (if_pos h).symm.trans hr
            refine wp_seq ?_
            refine wp_reg ?_
            refine L_pure 2 [(2, .int .u64 (bOr .u64 (shL .u64 v13 7) (IntKind.u64.wrap (bAnd .u8 y7.1 127))))] (by kernel_rfl) fun b => ?_
            refine wpL_nil ?_
            refine th_n ?_
            refine wp_ret ?_
            refine ib_r (th_r (th_r (ib_r (th_r ?_))))
            refine ret1 rfl rfl ?_
            obtain rfl := Option.some.inj hr
            obtain rfl := Option.some.inj hk4
            exact hR _ hst
          · have hr := (if_neg (by rw [h]; exact Bool.false_ne_true)).symm.trans hr
            refine wp_skip ?_
            refine ib_n (th_n ?_)
            refine wp_reg ?_
            refine L_pure 3 [(0, pt p1 0), (3, .int .u64 (bOr .u64 (shL .u64 v13 7) (IntKind.u64.wrap (bAnd .u8 y7.1 127)))), (4, I (IntKind.i64.wrap (v14 + 1)))] (by kernel_rfl) fun b => ?_
            refine wpL_nil ?_
            refine th_n ?_
            exact ⟨(bOr .u64 (shL .u64 v13 7) (IntKind.u64.wrap (bAnd .u8 y7.1 127))), (IntKind.i64.wrap (v14 + 1)), y7.2.1, y8, (kpX [(0, pt p1 0), (3, .int .u64 (bOr .u64 (shL .u64 v13 7) (IntKind.u64.wrap (bAnd .u8 y7.1 127)))), (4, I (IntKind.i64.wrap (v14 + 1)))] rfl ⟨hst, hr⟩)⟩
      · have hr := hy8
        obtain ⟨y9, hy9, hk6⟩ := bnd hr
        clear hr
        refine wp_seq_cut (fun a w => ∃ (b : Nat → Value), a = mkF 37 b [(0, pt p1 0), (3, .int .u64 v13), (4, I v14), (5, .int .u8 y7.1), (20, .bool y9)] ∧ St G w (blk p1 (cl [S y7.2.1, I y7.2.2] 124) :: F)) ?_ ?_
        · rintro _ w ⟨b, rfl, hst⟩
          have hr := hk6
          refine wp_cond_mkF (t := y9) rfl (fun h => ?_) (fun h => ?_)
          · have hr := (if_pos h).symm.trans hr
            refine wp_reg ?_
            refine L_pure 1 [(0, pt p1 0), (3, .int .u64 v13), (4, I v14), (5, .int .u8 y7.1), (21, pt p1 0)] (by kernel_rfl) fun b => ?_
            obtain ⟨y10, hy10, hr⟩ := bnd hr
            refine L_op rfl (O_call (vs := #[pt p1 0, I 3]) Tryz.call68 (by kernel_rfl) (wire_Dec_Fail_ok k (T_wire_Dec.mk y7.2.1 y7.2.2) 3 p1 y10 hst hy10 fun w hst => ?_))
            refine CK_ret rfl ?_
            refine wpL_nil ?_
            refine th_n ?_
            obtain rfl := Option.some.inj hr
            exact (kpX [(0, pt p1 0), (3, .int .u64 v13), (4, I v14), (5, .int .u8 y7.1)] rfl hst)
          · have hr := (if_neg (by rw [h]; exact Bool.false_ne_true)).symm.trans hr
            refine wp_skip ?_
            refine th_n ?_
            obtain rfl := Option.some.inj hr
            exact (kpX [(0, pt p1 0), (3, .int .u64 v13), (4, I v14), (5, .int .u8 y7.1)] rfl hst)
        · have hr := hy9
          refine wp_reg ?_
          refine L_pure 3 [(0, pt p1 0), (3, .int .u64 v13), (4, I v14), (5, .int .u8 y7.1), (12, .bool (v14 == 0))] (by kernel_rfl) fun b => ?_
          by_cases h : (v14 == 0) = true
          · have hr := (if_pos h).symm.trans hr
            refine L_keep ((12, .bool (v14 == 0)) :: [(0, pt p1 0), (3, .int .u64 v13), (4, I v14), (5, .int .u8 y7.1)]) rfl fun b => ?_
            refine L_bool h ?_
            refine L_pure 4 [(0, pt p1 0), (3, .int .u64 v13), (4, I v14), (5, .int .u8 y7.1), (16, .bool (y7.1 == 128))] (by kernel_rfl) fun b => ?_
            by_cases h : (y7.1 == 128) = true
            · have hr := (if_pos h).symm.trans hr
              refine L_keep ((16, .bool (y7.1 == 128)) :: [(0, pt p1 0), (3, .int .u64 v13), (4, I v14), (5, .int .u8 y7.1)]) rfl fun b => ?_
              refine L_bool h ?_
              refine L_pure 4 [(0, pt p1 0), (3, .int .u64 v13), (4, I v14), (5, .int .u8 y7.1), (20, .bool true)] (by kernel_rfl) fun b => ?_
              refine wpL_nil ?_
              refine th_n ?_
              obtain rfl := Option.some.inj hr
              exact (kpX [(0, pt p1 0), (3, .int .u64 v13), (4, I v14), (5, .int .u8 y7.1), (20, .bool true)] rfl hst)
            · have hr := (if_neg h).symm.trans hr
              refine L_keep ((16, .bool (y7.1 == 128)) :: [(0, pt p1 0), (3, .int .u64 v13), (4, I v14), (5, .int .u8 y7.1)]) rfl fun b => ?_
              refine L_bool (eq_false_of_ne_true h) ?_
              refine L_pure 4 [(0, pt p1 0), (3, .int .u64 v13), (4, I v14), (5, .int .u8 y7.1), (20, .bool ((shR .u64 v13 57) != 0))] (by kernel_rfl) fun b => ?_
              refine wpL_nil ?_
              refine th_n ?_
              obtain rfl := Option.some.inj hr
              exact (kpX [(0, pt p1 0), (3, .int .u64 v13), (4, I v14), (5, .int .u8 y7.1), (20, .bool ((shR .u64 v13 57) != 0))] rfl hst)
          · have hr := (if_neg h).symm.trans hr
            refine L_keep ((12, .bool (v14 == 0)) :: [(0, pt p1 0), (3, .int .u64 v13), (4, I v14), (5, .int .u8 y7.1)]) rfl fun b => ?_
            refine L_bool (eq_false_of_ne_true h) ?_
            refine L_pure 8 [(0, pt p1 0), (3, .int .u64 v13), (4, I v14), (5, .int .u8 y7.1), (20, .bool ((shR .u64 v13 57) != 0))] (by kernel_rfl) fun b => ?_
            refine wpL_nil ?_
            refine th_n ?_
            obtain rfl := Option.some.inj hr
            exact (kpX [(0, pt p1 0), (3, .int .u64 v13), (4, I v14), (5, .int .u8 y7.1), (20, .bool ((shR .u64 v13 57) != 0))] rfl hst)
def wire_Dec_I (k : Nat) (x1 : T_wire_Dec) (x2 : Int) : Option (Int × (List UInt8) × Int) := (Option.bind (wire_Dec_U k x1) fun y3 => (if decide (y3.1 > (IntKind.u64.wrap (mx2 x2 0))) = true then (Option.bind (wire_Dec_Fail k (T_wire_Dec.mk y3.2.1 y3.2.2) 11) fun y4 => some ((0 : Int), y3.2.1, y4)) else some ((IntKind.i64.wrap y3.1), y3.2.1, y3.2.2)))
set_option maxRecDepth 100000 in
set_option maxHeartbeats 4000000 in
theorem wire_Dec_I_ok {G w : World} {F : List HP} {R : Ending → World → Prop} (k : Nat) (x1 : T_wire_Dec) (x2 : Int) (p1 : Nat) (r : (Int × (List UInt8) × Int)) (hst : St G w (blk p1 (cl [S x1.s, I x1.err] 124) :: F)) (hr : wire_Dec_I k x1 x2 = some r)
    (hR : ∀ w', St G w' (blk p1 (cl [S r.2.1, I r.2.2] 124) :: F) → R (.returned (I r.1)) w') :
    Calls Tryz.prog 52 #[pt p1 0, I x2] w R := by
  unfold wire_Dec_I at hr
  refine enter Tryz.func52 rfl [(0, pt p1 0), (1, I x2)] rfl rfl fun b => ?_
  refine wp_seq ?_
  refine wp_reg ?_
  refine L_pure 1 [(0, pt p1 0), (1, I x2)] (by kernel_rfl) fun b => ?_
  refine wpL_nil ?_
  refine th_n ?_
  refine wp_seq ?_
  refine wp_reg ?_
  refine L_pure 1 [(0, pt p1 0), (1, I x2), (6, pt p1 0)] (by kernel_rfl) fun b => ?_
  obtain ⟨y3, hy3, hr⟩ := bnd hr
  refine L_op rfl (O_call (vs := #[pt p1 0]) Tryz.call67 (by kernel_rfl) (wire_Dec_U_ok k x1 p1 y3 hst hy3 fun w hst => ?_))
  refine CK_ret rfl ?_
  refine L_pure 1 [(0, pt p1 0), (1, I x2), (5, .int .u64 y3.1)] (by kernel_rfl) fun b => ?_
  refine wpL_nil ?_
  refine th_n ?_
  refine wp_seq ?_
  refine wp_seq ?_
  refine wp_reg ?_
  refine L_pure 5 [(0, pt p1 0), (5, .int .u64 y3.1), (12, .bool (decide (y3.1 > (IntKind.u64.wrap (mx2 x2 0)))))] (by kernel_rfl) fun b => ?_
  refine wpL_nil ?_
  refine th_n ?_
  refine wp_cond_mkF (t := decide (y3.1 > (IntKind.u64.wrap (mx2 x2 0)))) rfl (fun h => ?_) (fun h => ?_)
  · have hr := (if_pos h).symm.trans hr
    refine wp_seq ?_
    refine wp_reg ?_
    refine L_pure 1 [(13, pt p1 0)] (by kernel_rfl) fun b => ?_
    obtain ⟨y4, hy4, hr⟩ := bnd hr
    refine L_op rfl (O_call (vs := #[pt p1 0, I 11]) Tryz.call68 (by kernel_rfl) (wire_Dec_Fail_ok k (T_wire_Dec.mk y3.2.1 y3.2.2) 11 p1 y4 hst hy4 fun w hst => ?_))
    refine CK_ret rfl ?_
    refine wpL_nil ?_
    refine th_n ?_
    refine wp_seq ?_
    refine wp_reg ?_
    refine L_pure 1 [(4, I 0)] (by kernel_rfl) fun b => ?_
    refine wpL_nil ?_
    refine th_n ?_
    refine wp_ret ?_
    refine th_r ?_
    refine ret1 rfl rfl ?_
    obtain rfl := Option.some.inj hr
    exact hR _ hst
  · have hr := (if_neg (by rw [h]; exact Bool.false_ne_true)).symm.trans hr
    refine wp_skip ?_
    refine th_n ?_
    refine wp_seq ?_
    refine wp_reg ?_
    refine L_pure 3 [(4, I (IntKind.i64.wrap y3.1))] (by kernel_rfl) fun b => ?_
    refine wpL_nil ?_
    refine th_n ?_
    refine wp_ret ?_
    refine ret1 rfl rfl ?_
    obtain rfl := Option.some.inj hr
    exact hR _ hst
def wire_Dec_Done (k : Nat) (x1 : T_wire_Dec) : Option (Int) := (Option.bind (if (!sEq x1.s ([])) = true then (Option.bind (wire_Dec_Fail k x1 3) fun y4 => some (y4)) else some (x1.err)) fun y3 => some (y3))
set_option maxRecDepth 100000 in
set_option maxHeartbeats 4000000 in
theorem wire_Dec_Done_ok {G w : World} {F : List HP} {R : Ending → World → Prop} (k : Nat) (x1 : T_wire_Dec) (p1 : Nat) (r : (Int)) (hst : St G w (blk p1 (cl [S x1.s, I x1.err] 124) :: F)) (hr : wire_Dec_Done k x1 = some r)
    (hR : ∀ w', St G w' (blk p1 (cl [S x1.s, I r] 124) :: F) → R (.returned (I r)) w') :
    Calls Tryz.prog 53 #[pt p1 0] w R := by
  unfold wire_Dec_Done at hr
  refine enter Tryz.func53 rfl [(0, pt p1 0)] rfl rfl fun b => ?_
  refine wp_seq ?_
  refine wp_reg ?_
  refine L_pure 1 [(0, pt p1 0)] (by kernel_rfl) fun b => ?_
  refine wpL_nil ?_
  refine th_n ?_
  obtain ⟨y3, hy3, hk2⟩ := bnd hr
  clear hr
  refine wp_seq_cut (fun a w => ∃ (b : Nat → Value), a = mkF 14 b [(0, pt p1 0)] ∧ St G w (blk p1 (cl [S x1.s, I y3] 124) :: F)) ?_ ?_
  · rintro _ w ⟨b, rfl, hst⟩
    have hr := hk2
    refine wp_seq ?_
    refine wp_reg ?_
    refine L_pure 3 [(12, pt p1 1)] (by kernel_rfl) fun b => ?_
    refine L_op rfl (O_run (v := I y3) (w' := w) (R_load hst rfl rfl) rfl rfl ?_)
    refine L_pure 1 [(2, I y3)] (by kernel_rfl) fun b => ?_
    refine wpL_nil ?_
    refine th_n ?_
    refine wp_ret ?_
    refine ret1 rfl rfl ?_
    obtain rfl := Option.some.inj hr
    exact hR _ hst
  · have hr := hy3
    refine wp_seq ?_
    refine wp_reg ?_
    refine L_pure 3 [(0, pt p1 0), (5, pt p1 0)] (by kernel_rfl) fun b => ?_
    refine L_op rfl (O_run (v := S x1.s) (w' := w) (R_load hst rfl rfl) rfl rfl ?_)
    refine L_pure 1 [(0, pt p1 0), (7, .bool (!sEq x1.s ([])))] (by kernel_rfl) fun b => ?_
    refine wpL_nil ?_
    refine th_n ?_
    refine wp_cond_mkF (t := (!sEq x1.s ([]))) rfl (fun h => ?_) (fun h => ?_)
    · have hr := (if_pos h).symm.trans hr
      refine wp_reg ?_
      refine L_pure 1 [(0, pt p1 0), (8, pt p1 0)] (by kernel_rfl) fun b => ?_
      obtain ⟨y4, hy4, hr⟩ := bnd hr
      refine L_op rfl (O_call (vs := #[pt p1 0, I 3]) Tryz.call68 (by kernel_rfl) (wire_Dec_Fail_ok k x1 3 p1 y4 hst hy4 fun w hst => ?_))
      refine CK_ret rfl ?_
      refine wpL_nil ?_
      refine th_n ?_
      obtain rfl := Option.some.inj hr
      exact (kpX [(0, pt p1 0)] rfl hst)
    · have hr := (if_neg (by rw [h]; exact Bool.false_ne_true)).symm.trans hr
      refine wp_skip ?_
      refine th_n ?_
      obtain rfl := Option.some.inj hr
      exact (kpX [(0, pt p1 0)] rfl hst)
def wire_Dec_S (k : Nat) (x1 : T_wire_Dec) (x2 : Int) : Option ((List UInt8) × (List UInt8) × Int) := (Option.bind (wire_Dec_I k x1 x2) fun y4 => (Option.bind (Option.bind (if (y4.2.2 == 0) = true then some (decide (y4.1 > (y4.2.1.length : Int))) else some (false)) fun y6 => (if y6 = true then some ((2 : Int)) else some (y4.2.2))) fun y5 => (if (y5 != 0) = true then some ([], y4.2.1, y5) else (Option.bind (sl y4.2.1 0 y4.1) fun x5 => (Option.bind (sl y4.2.1 y4.1 (y4.2.1.length : Int)) fun x6 => some (x5, x6, y5))))))
set_option maxRecDepth 100000 in
set_option maxHeartbeats 4000000 in
theorem wire_Dec_S_ok {G w : World} {F : List HP} {R : Ending → World → Prop} (k : Nat) (x1 : T_wire_Dec) (x2 : Int) (p1 : Nat) (r : ((List UInt8) × (List UInt8) × Int)) (hst : St G w (blk p1 (cl [S x1.s, I x1.err] 124) :: F)) (hr : wire_Dec_S k x1 x2 = some r)
    (hR : ∀ w', St G w' (blk p1 (cl [S r.2.1, I r.2.2] 124) :: F) → R (.returned (S r.1)) w') :
    Calls Tryz.prog 54 #[pt p1 0, I x2] w R := by
  unfold wire_Dec_S at hr
  refine enter Tryz.func54 rfl [(0, pt p1 0), (1, I x2)] rfl rfl fun b => ?_
  refine wp_seq ?_
  refine wp_reg ?_
  refine L_pure 1 [(0, pt p1 0), (1, I x2)] (by kernel_rfl) fun b => ?_
  refine wpL_nil ?_
  refine th_n ?_
  refine wp_seq ?_
  refine wp_reg ?_
  refine L_pure 2 [(0, pt p1 0), (7, pt p1 0), (8, I x2)] (by kernel_rfl) fun b => ?_
  obtain ⟨y4, hy4, hr⟩ := bnd hr
  refine L_op rfl (O_call (vs := #[pt p1 0, I x2]) Tryz.call52 (by kernel_rfl) (wire_Dec_I_ok k x1 x2 p1 y4 hst hy4 fun w hst => ?_))
  refine CK_ret rfl ?_
  refine L_pure 1 [(0, pt p1 0), (5, I y4.1)] (by kernel_rfl) fun b => ?_
  refine wpL_nil ?_
  refine th_n ?_
  obtain ⟨y5, hy5, hk3⟩ := bnd hr
  clear hr
  refine wp_seq_cut (fun a w => ∃ (b : Nat → Value), a = mkF 48 b [(0, pt p1 0), (5, I y4.1)] ∧ St G w (blk p1 (cl [S y4.2.1, I y5] 124) :: F)) ?_ ?_
  · rintro _ w ⟨b, rfl, hst⟩
    have hr := hk3
    refine wp_seq ?_
    refine wp_seq ?_
    refine wp_reg ?_
    refine L_pure 3 [(0, pt p1 0), (5, I y4.1), (29, pt p1 1)] (by kernel_rfl) fun b => ?_
    refine L_op rfl (O_run (v := I y5) (w' := w) (R_load hst rfl rfl) rfl rfl ?_)
    refine L_pure 1 [(0, pt p1 0), (5, I y4.1), (31, .bool (y5 != 0))] (by kernel_rfl) fun b => ?_
    refine wpL_nil ?_
    refine th_n ?_
    refine wp_cond_mkF (t := (y5 != 0)) rfl (fun h => ?_) (fun h => ?_)
    · have hr := (if_pos h).symm.trans hr
      refine wp_seq ?_
      refine wp_reg ?_
      refine L_pure 1 [(4, S ([]))] (by kernel_rfl) fun b => ?_
      refine wpL_nil ?_
      refine th_n ?_
      refine wp_ret ?_
      refine th_r ?_
      refine ret1 rfl rfl ?_
      obtain rfl := Option.some.inj hr
      exact hR _ hst
    · have hr := (if_neg (by rw [h]; exact Bool.false_ne_true)).symm.trans hr
      refine wp_skip ?_
      refine th_n ?_
      refine wp_seq ?_
      refine wp_reg ?_
      refine L_pure 3 [(0, pt p1 0), (5, I y4.1), (34, pt p1 0)] (by kernel_rfl) fun b => ?_
      refine L_op rfl (O_run (v := S y4.2.1) (w' := w) (R_load hst rfl rfl) rfl rfl ?_)
      refine L_pure 1 [(0, pt p1 0), (5, I y4.1), (35, S y4.2.1), (36, I y4.1)] (by kernel_rfl) fun b => ?_
      obtain ⟨x5, hx3, hr⟩ := bnd hr
      refine L_op rfl (O_run (v := S x5) (w' := w) (R_slice_s Tryz.underlying9 rfl rfl rfl hx3) rfl rfl ?_)
      refine L_pure 1 [(0, pt p1 0), (5, I y4.1), (6, S x5)] (by kernel_rfl) fun b => ?_
      refine wpL_nil ?_
      refine th_n ?_
      refine wp_seq ?_
      refine wp_reg ?_
      refine L_pure 4 [(5, I y4.1), (6, S x5), (38, pt p1 0), (41, pt p1 0)] (by kernel_rfl) fun b => ?_
      refine L_op rfl (O_run (v := S y4.2.1) (w' := w) (R_load hst rfl rfl) rfl rfl ?_)
      refine L_pure 1 [(6, S x5), (38, pt p1 0), (42, S y4.2.1), (43, I y4.1)] (by kernel_rfl) fun b => ?_
      obtain ⟨x6, hx4, hr⟩ := bnd hr
      refine L_op rfl (O_run (v := S x6) (w' := w) (R_slice_s Tryz.underlying9 rfl rfl rfl hx4) rfl rfl ?_)
      refine L_pure 2 [(6, S x5), (44, S x6), (46, pt p1 0)] (by kernel_rfl) fun b => ?_
      refine L_op rfl (O_store [S x6, I y5] hst rfl rfl (by kernel_rfl) fun w hst => ?_)
      refine wpL_nil ?_
      refine th_n ?_
      refine wp_seq ?_
      refine wp_reg ?_
      refine L_pure 2 [(4, S x5)] (by kernel_rfl) fun b => ?_
      refine wpL_nil ?_
      refine th_n ?_
      refine wp_ret ?_
      refine ret1 rfl rfl ?_
      obtain rfl := Option.some.inj hr
      exact hR _ hst
  · have hr := hy5
    obtain ⟨y6, hy6, hk4⟩ := bnd hr
    clear hr
    refine wp_seq_cut (fun a w => ∃ (b : Nat → Value), a = mkF 48 b [(0, pt p1 0), (5, I y4.1), (23, .bool y6)] ∧ St G w (blk p1 (cl [S y4.2.1, I y4.2.2] 124) :: F)) ?_ ?_
    · rintro _ w ⟨b, rfl, hst⟩
      have hr := hk4
      refine wp_cond_mkF (t := y6) rfl (fun h => ?_) (fun h => ?_)
      · have hr := (if_pos h).symm.trans hr
        refine wp_reg ?_
        refine L_pure 3 [(0, pt p1 0), (5, I y4.1), (26, pt p1 1)] (by kernel_rfl) fun b => ?_
        refine L_op rfl (O_store [S y4.2.1, I 2] hst rfl rfl (by kernel_rfl) fun w hst => ?_)
        refine wpL_nil ?_
        refine th_n ?_
        obtain rfl := Option.some.inj hr
        exact (kpX [(0, pt p1 0), (5, I y4.1)] rfl hst)
      · have hr := (if_neg (by rw [h]; exact Bool.false_ne_true)).symm.trans hr
        refine wp_skip ?_
        refine th_n ?_
        obtain rfl := Option.some.inj hr
        exact (kpX [(0, pt p1 0), (5, I y4.1)] rfl hst)
    · have hr := hy6
      refine wp_reg ?_
      refine L_pure 3 [(0, pt p1 0), (5, I y4.1), (12, pt p1 1)] (by kernel_rfl) fun b => ?_
      refine L_op rfl (O_run (v := I y4.2.2) (w' := w) (R_load hst rfl rfl) rfl rfl ?_)
      refine L_pure 2 [(0, pt p1 0), (5, I y4.1), (15, .bool (y4.2.2 == 0))] (by kernel_rfl) fun b => ?_
      by_cases h : (y4.2.2 == 0) = true
      · have hr := (if_pos h).symm.trans hr
        refine L_keep ((15, .bool (y4.2.2 == 0)) :: [(0, pt p1 0), (5, I y4.1)]) rfl fun b => ?_
        refine L_bool h ?_
        refine L_pure 4 [(0, pt p1 0), (5, I y4.1), (15, .bool true), (16, I y4.1), (19, pt p1 0)] (by kernel_rfl) fun b => ?_
        refine L_op rfl (O_run (v := S y4.2.1) (w' := w) (R_load hst rfl rfl) rfl rfl ?_)
        refine L_pure 3 [(0, pt p1 0), (5, I y4.1), (23, .bool (decide (y4.1 > (y4.2.1.length : Int))))] (by kernel_rfl) fun b => ?_
        refine wpL_nil ?_
        refine th_n ?_
        obtain rfl := Option.some.inj hr
        exact (kpX [(0, pt p1 0), (5, I y4.1), (23, .bool (decide (y4.1 > (y4.2.1.length : Int))))] rfl hst)
      · have hr := (if_neg h).symm.trans hr
        refine L_keep ((15, .bool (y4.2.2 == 0)) :: [(0, pt p1 0), (5, I y4.1)]) rfl fun b => ?_
        refine L_bool (eq_false_of_ne_true h) ?_
        refine L_pure 8 [(0, pt p1 0), (5, I y4.1), (23, .bool false)] (by kernel_rfl) fun b => ?_
        refine wpL_nil ?_
        refine th_n ?_
        obtain rfl := Option.some.inj hr
        exact (kpX [(0, pt p1 0), (5, I y4.1), (23, .bool false)] rfl hst)
def seal_Scan_l1 (k : Nat) (x1 : (List UInt8)) : Nat → (List (List UInt8)) → Int → Option (Flow ((List (List UInt8)) × Int) (Unit))
  | 0, _, _ => none
  | j + 1, v7, v8 => (Option.bind (sl x1 v8 (x1.length : Int)) fun x3 => (Option.bind (seal_Open k x3) fun y4 => (if (y4.2.2 != 0) = true then some (Flow.ret (v7, v8)) else (if room (v7.length + ([y4.1]).length) 16 = true then (seal_Scan_l1 k x1 j (v7 ++ ([y4.1])) (IntKind.i64.wrap (v8 + y4.2.1))) else none))))
def seal_Scan (k : Nat) (x1 : (List UInt8)) : Option ((List (List UInt8)) × Int) := (Option.bind (seal_Scan_l1 k x1 k ([]) (0 : Int)) fun y3 => (match y3 with | Flow.ret r => some r | Flow.go _ => none))
set_option maxRecDepth 100000 in
set_option maxHeartbeats 4000000 in
theorem seal_Scan_ok {G w : World} {F : List HP} {R : Ending → World → Prop} (k : Nat) (x1 : (List UInt8)) (r : ((List (List UInt8)) × Int)) (hst : St G w (F)) (hr : seal_Scan k x1 = some r)
    (hR : ∀ (a4 : Option Addr) (c4 : Nat) w', St G w' (osl rS 9 a4 c4 r.1 :: F) → R (.returned (.tuple #[.slice a4 r.1.length c4, I r.2])) w') :
    Calls Tryz.prog 56 #[S x1] w R := by
  unfold seal_Scan at hr
  refine enter Tryz.func56 rfl [(0, S x1)] rfl rfl fun b => ?_
  refine wp_seq ?_
  refine wp_reg ?_
  refine L_pure 2 [(0, S x1)] (by kernel_rfl) fun b => ?_
  refine wpL_nil ?_
  refine th_n ?_
  refine wp_seq ?_
  refine wp_reg ?_
  refine L_pure 1 [(0, S x1), (4, .slice none 0 0)] (by kernel_rfl) fun b => ?_
  refine wpL_nil ?_
  refine th_n ?_
  refine wp_seq ?_
  refine wp_reg ?_
  refine L_pure 1 [(0, S x1), (4, .slice none 0 0), (5, I 0)] (by kernel_rfl) fun b => ?_
  refine wpL_nil ?_
  refine th_n ?_
  obtain ⟨y3, hy3, hk2⟩ := bnd hr
  clear hr
  refine Go.Hx.wp_cut (fun _ _ => False) ?_ ?_
  · intro _ _ h
    exact h.elim
  · have hst := osl_nil rS 9 hst
    refine wp_block ?_
    refine wp_loop_fuel (fun j a w => ∃ (v7 : (List (List UInt8))) (v8 : Int) (a5 : Option Addr) (c5 : Nat) (b : Nat → Value), a = mkF 28 b [(0, S x1), (4, .slice a5 v7.length c5), (5, I v8)] ∧ St G w (osl rS 9 a5 c5 v7 :: F) ∧ seal_Scan_l1 k x1 j v7 v8 = some y3) (k := k) ⟨[], (0 : Int), none, 0, (kpX [(0, S x1), (4, .slice none 0 0), (5, I 0)] rfl ⟨hst, hy3⟩)⟩ ?_ ?_
    · rintro _ _ ⟨_, _, _, _, _, _, _, h⟩
      rw [seal_Scan_l1] at h
      cases h
    · rintro j _ w ⟨v7, v8, a5, c5, b, rfl, hst, hr⟩
      rw [seal_Scan_l1] at hr
      refine wp_block ?_
      refine wp_seq ?_
      refine wp_reg ?_
      refine L_pure 2 [(0, S x1), (4, .slice a5 v7.length c5), (5, I v8), (10, S x1), (11, I v8)] (by kernel_rfl) fun b => ?_
      obtain ⟨x3, hx2, hr⟩ := bnd hr
      refine L_op rfl (O_run (v := S x3) (w' := w) (R_slice_s Tryz.underlying9 rfl rfl rfl hx2) rfl rfl ?_)
      obtain ⟨y4, hy4, hr⟩ := bnd hr
      refine L_op rfl (O_call (vs := #[S x3]) Tryz.call71 (by kernel_rfl) (seal_Open_ok k x3 y4 hst hy4 fun w hst => ?_))
      refine CK_ret rfl ?_
      refine L_pure 7 [(0, S x1), (4, .slice a5 v7.length c5), (5, I v8), (6, S y4.1), (7, I y4.2.1), (8, I y4.2.2)] (by kernel_rfl) fun b => ?_
      refine wpL_nil ?_
      refine th_n ?_
      refine wp_seq ?_
      refine wp_seq ?_
      refine wp_reg ?_
      refine L_pure 2 [(0, S x1), (4, .slice a5 v7.length c5), (5, I v8), (6, S y4.1), (7, I y4.2.1), (18, .bool (y4.2.2 != 0))] (by kernel_rfl) fun b => ?_
      refine wpL_nil ?_
      refine th_n ?_
      refine wp_cond_mkF (t := (y4.2.2 != 0)) rfl (fun h => ?_) (fun h => ?_)
      · have hr := (if_pos h).symm.trans hr
        refine wp_seq ?_
        refine wp_reg ?_
        refine L_pure 4 [(2, .slice a5 v7.length c5), (3, I v8)] (by kernel_rfl) fun b => ?_
        refine wpL_nil ?_
        refine th_n ?_
        refine wp_ret ?_
        refine th_r (ib_r (th_r (ib_r (th_r ?_))))
        refine ret2 rfl rfl rfl ?_
        obtain rfl := Option.some.inj hr
        obtain rfl := Option.some.inj hk2
        exact hR a5 c5 _ hst
      · have hr := (if_neg (by rw [h]; exact Bool.false_ne_true)).symm.trans hr
        refine wp_skip ?_
        refine th_n ?_
        refine wp_seq ?_
        refine wp_reg ?_
        refine L_pure 2 [(0, S x1), (5, I v8), (7, I y4.2.1), (21, .slice a5 v7.length c5), (22, S y4.1)] (by kernel_rfl) fun b => ?_
        refine L_op rfl (O_bs (T := 9) [S y4.1] #[(0, S y4.1)] hst (by kernel_rfl) (by kernel_rfl) rfl fun p2 w hst => ?_)
        have hst := osl_of_blk0 (ecs := [[S y4.1]]) rS [y4.1] rfl (fun m => ⟨⟨(), rfl, trivial⟩, trivial⟩) rfl hst
        obtain ⟨hb2, hr⟩ := chk hr
        refine L_op rfl (O_app_o L25 (hst.pull 1) rfl rfl hb2 rfl fun a7 c7 w hst => ?_)
        refine L_pure 1 [(0, S x1), (4, .slice a7 (v7 ++ ([y4.1])).length c7), (5, I v8), (7, I y4.2.1)] (by kernel_rfl) fun b => ?_
        refine wpL_nil ?_
        refine th_n ?_
        refine wp_reg ?_
        refine L_pure 4 [(0, S x1), (4, .slice a7 (v7 ++ ([y4.1])).length c7), (5, I (IntKind.i64.wrap (v8 + y4.2.1)))] (by kernel_rfl) fun b => ?_
        refine wpL_nil ?_
        refine ib_n (th_n ?_)
        have hst := (hst.cut 1 1)
        exact ⟨(v7 ++ ([y4.1])), (IntKind.i64.wrap (v8 + y4.2.1)), a7, c7, (kpX [(0, S x1), (4, .slice a7 (v7 ++ ([y4.1])).length c7), (5, I (IntKind.i64.wrap (v8 + y4.2.1)))] rfl ⟨hst, hr⟩)⟩
def platter_file_weight (_k : Nat) (x1 : T_platter_file) : Option (Int) := some ((mx2 (x1.now.s.length : Int) (x1.safe.s.length : Int)))
set_option maxRecDepth 100000 in
set_option maxHeartbeats 4000000 in
theorem platter_file_weight_ok {G w : World} {F : List HP} {R : Ending → World → Prop} (k : Nat) (x1 : T_platter_file) (p1 : Nat) (r : (Int)) (hst : St G w (blk p1 (cl [.bool x1.now.there, S x1.now.s, .bool x1.safe.there, S x1.safe.s] 130) :: F)) (hr : platter_file_weight k x1 = some r)
    (hR : ∀ w', St G w' (blk p1 (cl [.bool x1.now.there, S x1.now.s, .bool x1.safe.there, S x1.safe.s] 130) :: F) → R (.returned (I r)) w') :
    Calls Tryz.prog 80 #[pt p1 0] w R := by
  unfold platter_file_weight at hr
  refine enter Tryz.func80 rfl [(0, pt p1 0)] rfl rfl fun b => ?_
  refine wp_seq ?_
  refine wp_reg ?_
  refine L_pure 1 [(0, pt p1 0)] (by kernel_rfl) fun b => ?_
  refine wpL_nil ?_
  refine th_n ?_
  refine wp_seq ?_
  refine wp_regG (SN { w with drawn := w.drawn + 1 }) rfl ?_
  have hst := hst.draw (n := w.drawn + 1)
  generalize { w with drawn := w.drawn + 1 } = w at hst ⊢
  refine C_take (i := 0) (v := pt p1 0) rfl (by kernel_rfl) (fun _ _ _ h => h) rfl rfl rfl (R_pure (by kernel_rfl)) ?_
  refine C_take (i := 1) (v := pt p1 0) rfl (by kernel_rfl) (fun _ _ _ h => h) rfl rfl rfl (R_pure (by kernel_rfl)) ?_
  refine C_take (i := 2) (v := pt p1 0) rfl (by kernel_rfl) (fun _ _ _ h => h) rfl rfl rfl (R_pure (by kernel_rfl)) ?_
  refine C_take (i := 3) (v := pt p1 1) rfl (by kernel_rfl) (fun _ _ _ h => h) rfl rfl rfl (R_pure (by kernel_rfl)) ?_
  refine C_take (i := 4) (v := S x1.now.s) rfl (by kernel_rfl) (fun _ _ _ h => h) rfl rfl rfl (R_load hst rfl rfl) ?_
  refine C_take (i := 5) (v := I (x1.now.s.length : Int)) rfl (by kernel_rfl) (fun _ _ _ h => h) rfl rfl rfl (R_pure (by kernel_rfl)) ?_
  refine C_take (i := 6) (v := pt p1 0) rfl (by kernel_rfl) (fun _ _ _ h => h) rfl rfl rfl (R_pure (by kernel_rfl)) ?_
  refine C_take (i := 7) (v := pt p1 0) rfl (by kernel_rfl) (fun _ _ _ h => h) rfl rfl rfl (R_pure (by kernel_rfl)) ?_
  refine C_take (i := 8) (v := pt p1 2) rfl (by kernel_rfl) (fun _ _ _ h => h) rfl rfl rfl (R_pure (by kernel_rfl)) ?_
  refine C_take (i := 9) (v := pt p1 3) rfl (by kernel_rfl) (fun _ _ _ h => h) rfl rfl rfl (R_pure (by kernel_rfl)) ?_
  refine C_take (i := 10) (v := S x1.safe.s) rfl (by kernel_rfl) (fun _ _ _ h => h) rfl rfl rfl (R_load hst rfl rfl) ?_
  refine C_take (i := 11) (v := I (x1.safe.s.length : Int)) rfl (by kernel_rfl) (fun _ _ _ h => h) rfl rfl rfl (R_pure (by kernel_rfl)) ?_
  refine C_take (i := 12) (v := I (mx2 (x1.now.s.length : Int) (x1.safe.s.length : Int))) rfl (by kernel_rfl) (fun _ _ _ h => h) rfl rfl rfl (R_pure (by kernel_rfl)) ?_
  refine C_take (i := 13) (v := I (mx2 (x1.now.s.length : Int) (x1.safe.s.length : Int))) rfl (by kernel_rfl) (fun _ _ _ h => h) rfl rfl rfl (R_pure (by kernel_rfl)) ?_
  refine wpG_done (by kernel_rfl) ?_ _
  refine C_keepQ [(2, I (mx2 (x1.now.s.length : Int) (x1.safe.s.length : Int)))] rfl fun b => ?_
  refine th_n ?_
  refine wp_ret ?_
  refine ret1 rfl rfl ?_
  obtain rfl := Option.some.inj hr
  exact hR _ hst
def platter_file_weight_2 (_k : Nat) (x1 : (Option T_platter_file)) : Option (Int) := (Option.bind x1 fun x3 => some ((mx2 (x3.now.s.length : Int) (x3.safe.s.length : Int))))
set_option maxRecDepth 100000 in
set_option maxHeartbeats 4000000 in
theorem platter_file_weight_2_ok {G w : World} {F : List HP} {R : Ending → World → Prop} (k : Nat) (x1 : (Option T_platter_file)) (a1 : Option Addr) (r : (Int)) (hst : St G w (dpt r_T_platter_file a1 x1 :: F)) (hr : platter_file_weight_2 k x1 = some r)
    (hR : ∀ w', St G w' (dpt r_T_platter_file a1 x1 :: F) → R (.returned (I r)) w') :
    Calls Tryz.prog 80 #[.pointer a1] w R := by
  unfold platter_file_weight_2 at hr
  refine enter Tryz.func80 rfl [(0, .pointer a1)] rfl rfl fun b => ?_
  refine wp_seq ?_
  refine wp_reg ?_
  refine L_pure 1 [(0, .pointer a1)] (by kernel_rfl) fun b => ?_
  refine wpL_nil ?_
  refine th_n ?_
  refine wp_seq ?_
  refine wp_regG (SN { w with drawn := w.drawn + 1 }) rfl ?_
  have hst := hst.draw (n := w.drawn + 1)
  generalize { w with drawn := w.drawn + 1 } = w at hst ⊢
  refine C_take (i := 0) (v := .pointer a1) rfl (by kernel_rfl) (fun _ _ _ h => h) rfl rfl rfl (R_pure (by kernel_rfl)) ?_
  obtain ⟨x3, hx2, hr⟩ := bnd hr
  have hst := dpt_pick hx2 hst
  refine C_take (i := 1) (v := pt (ab a1) (ao a1 + (0 : Int).toNat * 4)) rfl (by kernel_rfl) (fun _ _ _ h => h) rfl rfl rfl (R_nilc hst rfl) ?_
  refine C_take (i := 2) (v := pt (ab a1) (ao a1 + (0 : Int).toNat * 4)) rfl (by kernel_rfl) (fun _ _ _ h => h) rfl rfl rfl (R_pure (by kernel_rfl)) ?_
  refine C_take (i := 3) (v := pt (ab a1) (ao a1 + (0 : Int).toNat * 4 + 1)) rfl (by kernel_rfl) (fun _ _ _ h => h) rfl rfl rfl (R_pure (by kernel_rfl)) ?_
  obtain ⟨q3, hc3, hst⟩ := dsl_cells hst (show gt [x3] 0 = some x3 from rfl)
  have hst := hst.drop
  refine C_take (i := 4) (v := S x3.now.s) rfl (by kernel_rfl) (fun _ _ _ h => h) rfl rfl rfl (R_loadAt (off := ao a1 + (0 : Int).toNat * 4) (j := 1) hc3 rfl rfl) ?_
  refine C_take (i := 5) (v := I (x3.now.s.length : Int)) rfl (by kernel_rfl) (fun _ _ _ h => h) rfl rfl rfl (R_pure (by kernel_rfl)) ?_
  refine C_take (i := 6) (v := .pointer a1) rfl (by kernel_rfl) (fun _ _ _ h => h) rfl rfl rfl (R_pure (by kernel_rfl)) ?_
  refine C_take (i := 7) (v := pt (ab a1) (ao a1 + (0 : Int).toNat * 4)) rfl (by kernel_rfl) (fun _ _ _ h => h) rfl rfl rfl (R_nilc hst rfl) ?_
  refine C_take (i := 8) (v := pt (ab a1) (ao a1 + (0 : Int).toNat * 4 + 2)) rfl (by kernel_rfl) (fun _ _ _ h => h) rfl rfl rfl (R_pure (by kernel_rfl)) ?_
  refine C_take (i := 9) (v := pt (ab a1) (ao a1 + (0 : Int).toNat * 4 + 3)) rfl (by kernel_rfl) (fun _ _ _ h => h) rfl rfl rfl (R_pure (by kernel_rfl)) ?_
  obtain ⟨q4, hc4, hst⟩ := dsl_cells hst (show gt [x3] 0 = some x3 from rfl)
  have hst := hst.drop
  refine C_take (i := 10) (v := S x3.safe.s) rfl (by kernel_rfl) (fun _ _ _ h => h) rfl rfl rfl (R_loadAt (off := ao a1 + (0 : Int).toNat * 4) (j := 3) hc4 rfl rfl) ?_
  refine C_take (i := 11) (v := I (x3.safe.s.length : Int)) rfl (by kernel_rfl) (fun _ _ _ h => h) rfl rfl rfl (R_pure (by kernel_rfl)) ?_
  refine C_take (i := 12) (v := I (mx2 (x3.now.s.length : Int) (x3.safe.s.length : Int))) rfl (by kernel_rfl) (fun _ _ _ h => h) rfl rfl rfl (R_pure (by kernel_rfl)) ?_
  refine C_take (i := 13) (v := I (mx2 (x3.now.s.length : Int) (x3.safe.s.length : Int))) rfl (by kernel_rfl) (fun _ _ _ h => h) rfl rfl rfl (R_pure (by kernel_rfl)) ?_
  refine wpG_done (by kernel_rfl) ?_ _
  refine C_keepQ [(2, I (mx2 (x3.now.s.length : Int) (x3.safe.s.length : Int)))] rfl fun b => ?_
  refine th_n ?_
  refine wp_ret ?_
  refine ret1 rfl rfl ?_
  obtain rfl := Option.some.inj hr
  have hst := ((hst.pull 1).cut 1 1)
  exact hR _ hst
def meter_Meter_Fits (_k : Nat) (x1 : Int) (x2 : Int) (_x3 : Bool) (_x4 : Int) (_x5 : (List ((List UInt8) × (Option T_platter_file)))) (x6 : Int) : Option (Bool) := some (decide (x6 ≤ (IntKind.i64.wrap (x1 - x2))))
set_option maxRecDepth 100000 in
set_option maxHeartbeats 4000000 in
theorem meter_Meter_Fits_ok {G w : World} {F : List HP} {R : Ending → World → Prop} (k : Nat) (x1 : Int) (x2 : Int) (x3 : Bool) (x4 : Int) (x5 : (List ((List UInt8) × (Option T_platter_file)))) (x6 : Int) (p1 : Nat) (p2 : Nat) (r : (Bool)) (hst : St G w (blk p1 (cl [I x1, I x2, .bool x3, I x4, .map (some p2)] 79) :: mpr S (rPt r_T_platter_file) p2 x5 :: F)) (hr : meter_Meter_Fits k x1 x2 x3 x4 x5 x6 = some r)
    (hR : ∀ w', St G w' (blk p1 (cl [I x1, I x2, .bool x3, I x4, .map (some p2)] 79) :: mpr S (rPt r_T_platter_file) p2 x5 :: F) → R (.returned (.bool r)) w') :
    Calls Tryz.prog 86 #[pt p1 0, I x6] w R := by
  unfold meter_Meter_Fits at hr
  refine enter Tryz.func86 rfl [(0, pt p1 0), (1, I x6)] rfl rfl fun b => ?_
  refine wp_seq ?_
  refine wp_reg ?_
  refine L_pure 1 [(0, pt p1 0), (1, I x6)] (by kernel_rfl) fun b => ?_
  refine wpL_nil ?_
  refine th_n ?_
  refine wp_seq ?_
  refine wp_regG (SN { w with drawn := w.drawn + 1 }) rfl ?_
  have hst := hst.draw (n := w.drawn + 1)
  generalize { w with drawn := w.drawn + 1 } = w at hst ⊢
  refine C_take (i := 0) (v := I x6) rfl (by kernel_rfl) (fun _ _ _ h => h) rfl rfl rfl (R_pure (by kernel_rfl)) ?_
  refine C_take (i := 1) (v := pt p1 0) rfl (by kernel_rfl) (fun _ _ _ h => h) rfl rfl rfl (R_pure (by kernel_rfl)) ?_
  refine C_take (i := 2) (v := pt p1 0) rfl (by kernel_rfl) (fun _ _ _ h => h) rfl rfl rfl (R_pure (by kernel_rfl)) ?_
  refine C_take (i := 3) (v := pt p1 0) rfl (by kernel_rfl) (fun _ _ _ h => h) rfl rfl rfl (R_pure (by kernel_rfl)) ?_
  refine C_take (i := 4) (v := I x1) rfl (by kernel_rfl) (fun _ _ _ h => h) rfl rfl rfl (R_load hst rfl rfl) ?_
  refine C_take (i := 5) (v := pt p1 0) rfl (by kernel_rfl) (fun _ _ _ h => h) rfl rfl rfl (R_pure (by kernel_rfl)) ?_
  refine C_take (i := 6) (v := pt p1 0) rfl (by kernel_rfl) (fun _ _ _ h => h) rfl rfl rfl (R_pure (by kernel_rfl)) ?_
  refine C_take (i := 7) (v := pt p1 1) rfl (by kernel_rfl) (fun _ _ _ h => h) rfl rfl rfl (R_pure (by kernel_rfl)) ?_
  refine C_take (i := 8) (v := I x2) rfl (by kernel_rfl) (fun _ _ _ h => h) rfl rfl rfl (R_load hst rfl rfl) ?_
  refine C_take (i := 9) (v := I (IntKind.i64.wrap (x1 - x2))) rfl (by kernel_rfl) (fun _ _ _ h => h) rfl rfl rfl (R_pure (by kernel_rfl)) ?_
  refine C_take (i := 10) (v := .bool (decide (x6 ≤ (IntKind.i64.wrap (x1 - x2))))) rfl (by kernel_rfl) (fun _ _ _ h => h) rfl rfl rfl (R_pure (by kernel_rfl)) ?_
  refine C_take (i := 11) (v := .bool (decide (x6 ≤ (IntKind.i64.wrap (x1 - x2))))) rfl (by kernel_rfl) (fun _ _ _ h => h) rfl rfl rfl (R_pure (by kernel_rfl)) ?_
  refine wpG_done (by kernel_rfl) ?_ _
  refine C_keepQ [(4, .bool (decide (x6 ≤ (IntKind.i64.wrap (x1 - x2)))))] rfl fun b => ?_
  refine th_n ?_
  refine wp_ret ?_
  refine ret1 rfl rfl ?_
  obtain rfl := Option.some.inj hr
  have hst := ((hst.pull 1).pull 1)
  exact hR _ hst
def meter_Meter_Take (k : Nat) (x1 : Int) (x2 : Int) (x3 : Bool) (x4 : Int) (x5 : (List ((List UInt8) × (Option T_platter_file)))) (x6 : Int) : Option (Int × Int) := (if decide (x6 < 0) = true then some ((1 : Int), x2) else (Option.bind (meter_Meter_Fits k x1 x2 x3 x4 x5 x6) fun y2 => (if (!y2) = true then some ((7 : Int), x2) else some ((0 : Int), (IntKind.i64.wrap (x2 + x6))))))
set_option maxRecDepth 100000 in
set_option maxHeartbeats 4000000 in
theorem meter_Meter_Take_ok {G w : World} {F : List HP} {R : Ending → World → Prop} (k : Nat) (x1 : Int) (x2 : Int) (x3 : Bool) (x4 : Int) (x5 : (List ((List UInt8) × (Option T_platter_file)))) (x6 : Int) (p1 : Nat) (p2 : Nat) (r : (Int × Int)) (hst : St G w (blk p1 (cl [I x1, I x2, .bool x3, I x4, .map (some p2)] 79) :: mpr S (rPt r_T_platter_file) p2 x5 :: F)) (hr : meter_Meter_Take k x1 x2 x3 x4 x5 x6 = some r)
    (hR : ∀ w', St G w' (blk p1 (cl [I x1, I r.2, .bool x3, I x4, .map (some p2)] 79) :: mpr S (rPt r_T_platter_file) p2 x5 :: F) → R (.returned (I r.1)) w') :
    Calls Tryz.prog 81 #[pt p1 0, I x6] w R := by
  unfold meter_Meter_Take at hr
  refine enter Tryz.func81 rfl [(0, pt p1 0), (1, I x6)] rfl rfl fun b => ?_
  refine wp_seq ?_
  refine wp_reg ?_
  refine L_pure 1 [(0, pt p1 0), (1, I x6)] (by kernel_rfl) fun b => ?_
  refine wpL_nil ?_
  refine th_n ?_
  refine wp_seq ?_
  refine wp_seq ?_
  refine wp_reg ?_
  refine L_pure 2 [(0, pt p1 0), (1, I x6), (6, .bool (decide (x6 < 0)))] (by kernel_rfl) fun b => ?_
  refine wpL_nil ?_
  refine th_n ?_
  refine wp_cond_mkF (t := decide (x6 < 0)) rfl (fun h => ?_) (fun h => ?_)
  · have hr := (if_pos h).symm.trans hr
    refine wp_seq ?_
    refine wp_reg ?_
    refine L_pure 1 [(4, I 1)] (by kernel_rfl) fun b => ?_
    refine wpL_nil ?_
    refine th_n ?_
    refine wp_ret ?_
    refine th_r ?_
    refine ret1 rfl rfl ?_
    obtain rfl := Option.some.inj hr
    have hst := ((hst.pull 1).pull 1)
    exact hR _ hst
  · have hr := (if_neg (by rw [h]; exact Bool.false_ne_true)).symm.trans hr
    refine wp_skip ?_
    refine th_n ?_
    refine wp_seq ?_
    refine wp_seq ?_
    refine wp_reg ?_
    refine L_pure 2 [(0, pt p1 0), (1, I x6), (7, pt p1 0), (8, I x6)] (by kernel_rfl) fun b => ?_
    obtain ⟨y2, hy2, hr⟩ := bnd hr
    refine L_op rfl (O_call (vs := #[pt p1 0, I x6]) Tryz.call86 (by kernel_rfl) (meter_Meter_Fits_ok k x1 x2 x3 x4 x5 x6 p1 p2 y2 ((hst.pull 1).pull 1) hy2 fun w hst => ?_))
    refine CK_ret rfl ?_
    refine L_pure 1 [(0, pt p1 0), (1, I x6), (10, .bool (!y2))] (by kernel_rfl) fun b => ?_
    refine wpL_nil ?_
    refine th_n ?_
    refine wp_cond_mkF (t := (!y2)) rfl (fun h => ?_) (fun h => ?_)
    · have hr := (if_pos h).symm.trans hr
      refine wp_seq ?_
      refine wp_reg ?_
      refine L_pure 1 [(4, I 7)] (by kernel_rfl) fun b => ?_
      refine wpL_nil ?_
      refine th_n ?_
      refine wp_ret ?_
      refine th_r ?_
      refine ret1 rfl rfl ?_
      obtain rfl := Option.some.inj hr
      have hst := ((hst.pull 1).pull 1)
      exact hR _ hst
    · have hr := (if_neg (by rw [h]; exact Bool.false_ne_true)).symm.trans hr
      refine wp_skip ?_
      refine th_n ?_
      refine wp_seq ?_
      refine wp_reg ?_
      refine L_pure 3 [(1, I x6), (11, pt p1 0), (13, pt p1 1)] (by kernel_rfl) fun b => ?_
      refine L_op rfl (O_run (v := I x2) (w' := w) (R_load hst rfl rfl) rfl rfl ?_)
      refine L_pure 4 [(16, I (IntKind.i64.wrap (x2 + x6))), (18, pt p1 1)] (by kernel_rfl) fun b => ?_
      refine L_op rfl (O_store [I x1, I (IntKind.i64.wrap (x2 + x6)), .bool x3, I x4, .map (some p2)] hst rfl rfl (by kernel_rfl) fun w hst => ?_)
      refine wpL_nil ?_
      refine th_n ?_
      refine wp_seq ?_
      refine wp_reg ?_
      refine L_pure 1 [(4, I 0)] (by kernel_rfl) fun b => ?_
      refine wpL_nil ?_
      refine th_n ?_
      refine wp_ret ?_
      refine ret1 rfl rfl ?_
      obtain rfl := Option.some.inj hr
      have hst := ((hst.pull 1).pull 1)
      exact hR _ hst
def meter_Meter_Give (_k : Nat) (_x1 : Int) (x2 : Int) (_x3 : Bool) (_x4 : Int) (_x5 : (List ((List UInt8) × (Option T_platter_file)))) (x6 : Int) : Option (Int × Int) := (Option.bind (if decide (x6 < 0) = true then some (true) else some (decide (x6 > x2))) fun y2 => (if y2 = true then some ((1 : Int), x2) else some ((0 : Int), (IntKind.i64.wrap (x2 - x6)))))
set_option maxRecDepth 100000 in
set_option maxHeartbeats 4000000 in
theorem meter_Meter_Give_ok {G w : World} {F : List HP} {R : Ending → World → Prop} (k : Nat) (x1 : Int) (x2 : Int) (x3 : Bool) (x4 : Int) (x5 : (List ((List UInt8) × (Option T_platter_file)))) (x6 : Int) (p1 : Nat) (p2 : Nat) (r : (Int × Int)) (hst : St G w (blk p1 (cl [I x1, I x2, .bool x3, I x4, .map (some p2)] 79) :: mpr S (rPt r_T_platter_file) p2 x5 :: F)) (hr : meter_Meter_Give k x1 x2 x3 x4 x5 x6 = some r)
    (hR : ∀ w', St G w' (blk p1 (cl [I x1, I r.2, .bool x3, I x4, .map (some p2)] 79) :: mpr S (rPt r_T_platter_file) p2 x5 :: F) → R (.returned (I r.1)) w') :
    Calls Tryz.prog 82 #[pt p1 0, I x6] w R := by
  unfold meter_Meter_Give at hr
  refine enter Tryz.func82 rfl [(0, pt p1 0), (1, I x6)] rfl rfl fun b => ?_
  refine wp_seq ?_
  refine wp_reg ?_
  refine L_pure 1 [(0, pt p1 0), (1, I x6)] (by kernel_rfl) fun b => ?_
  refine wpL_nil ?_
  refine th_n ?_
  refine wp_seq ?_
  obtain ⟨y2, hy2, hk2⟩ := bnd hr
  clear hr
  refine wp_seq_cut (fun a w => ∃ (b : Nat → Value), a = mkF 23 b [(0, pt p1 0), (1, I x6), (14, .bool y2)] ∧ St G w (blk p1 (cl [I x1, I x2, .bool x3, I x4, .map (some p2)] 79) :: mpr S (rPt r_T_platter_file) p2 x5 :: F)) ?_ ?_
  · rintro _ w ⟨b, rfl, hst⟩
    have hr := hk2
    refine wp_cond_mkF (t := y2) rfl (fun h => ?_) (fun h => ?_)
    · have hr := (if_pos h).symm.trans hr
      refine wp_seq ?_
      refine wp_reg ?_
      refine L_pure 1 [(4, I 1)] (by kernel_rfl) fun b => ?_
      refine wpL_nil ?_
      refine th_n ?_
      refine wp_ret ?_
      refine th_r ?_
      refine ret1 rfl rfl ?_
      obtain rfl := Option.some.inj hr
      have hst := ((hst.pull 1).pull 1)
      exact hR _ hst
    · have hr := (if_neg (by rw [h]; exact Bool.false_ne_true)).symm.trans hr
      refine wp_skip ?_
      refine th_n ?_
      refine wp_seq ?_
      refine wp_reg ?_
      refine L_pure 3 [(1, I x6), (15, pt p1 0), (17, pt p1 1)] (by kernel_rfl) fun b => ?_
      refine L_op rfl (O_run (v := I x2) (w' := w) (R_load hst rfl rfl) rfl rfl ?_)
      refine L_pure 4 [(20, I (IntKind.i64.wrap (x2 - x6))), (22, pt p1 1)] (by kernel_rfl) fun b => ?_
      refine L_op rfl (O_store [I x1, I (IntKind.i64.wrap (x2 - x6)), .bool x3, I x4, .map (some p2)] hst rfl rfl (by kernel_rfl) fun w hst => ?_)
      refine wpL_nil ?_
      refine th_n ?_
      refine wp_seq ?_
      refine wp_reg ?_
      refine L_pure 1 [(4, I 0)] (by kernel_rfl) fun b => ?_
      refine wpL_nil ?_
      refine th_n ?_
      refine wp_ret ?_
      refine ret1 rfl rfl ?_
      obtain rfl := Option.some.inj hr
      have hst := ((hst.pull 1).pull 1)
      exact hR _ hst
  · have hr := hy2
    refine wp_reg ?_
    refine L_pure 3 [(0, pt p1 0), (1, I x6), (7, .bool (decide (x6 < 0)))] (by kernel_rfl) fun b => ?_
    by_cases h : (decide (x6 < 0)) = true
    · have hr := (if_pos h).symm.trans hr
      refine L_keep ((7, .bool (decide (x6 < 0))) :: [(0, pt p1 0), (1, I x6)]) rfl fun b => ?_
      refine L_bool h ?_
      refine L_pure 7 [(0, pt p1 0), (1, I x6), (14, .bool true)] (by kernel_rfl) fun b => ?_
      refine wpL_nil ?_
      refine th_n ?_
      obtain rfl := Option.some.inj hr
      have hst := ((hst.pull 1).pull 1)
      exact (kpX [(0, pt p1 0), (1, I x6), (14, .bool true)] rfl hst)
    · have hr := (if_neg h).symm.trans hr
      refine L_keep ((7, .bool (decide (x6 < 0))) :: [(0, pt p1 0), (1, I x6)]) rfl fun b => ?_
      refine L_bool (eq_false_of_ne_true h) ?_
      refine L_pure 4 [(0, pt p1 0), (1, I x6), (7, .bool false), (8, I x6), (11, pt p1 1)] (by kernel_rfl) fun b => ?_
      refine L_op rfl (O_run (v := I x2) (w' := w) (R_load hst rfl rfl) rfl rfl ?_)
      refine L_pure 2 [(0, pt p1 0), (1, I x6), (14, .bool (decide (x6 > x2)))] (by kernel_rfl) fun b => ?_
      refine wpL_nil ?_
      refine th_n ?_
      obtain rfl := Option.some.inj hr
      have hst := ((hst.pull 1).pull 1)
      exact (kpX [(0, pt p1 0), (1, I x6), (14, .bool (decide (x6 > x2)))] rfl hst)
def platter_Disk_put (k : Nat) (x1 : Int) (x2 : Int) (x3 : Bool) (x4 : Int) (x5 : (List ((List UInt8) × (Option T_platter_file)))) (x6 : (List UInt8)) (x7 : T_platter_text) : Option (Int × Int × (List ((List UInt8) × (Option T_platter_file)))) := (Option.bind (platter_Disk_get k x1 x2 x3 x4 x5 x6) fun y8 => (Option.bind (Option.bind y8 fun x9 => some (x9.safe.there, x9.safe.s)) fun y9 => (Option.bind (platter_file_weight k (T_platter_file.mk x7 (T_platter_text.mk y9.1 y9.2))) fun y10 => (Option.bind (platter_file_weight_2 k y8) fun y11 => (Option.bind (if decide ((IntKind.i64.wrap (y10 - y11)) > 0) = true then (Option.bind (meter_Meter_Take k x1 x2 x3 x4 x5 (IntKind.i64.wrap (y10 - y11))) fun y13 => (if (y13.1 != 0) = true then some (Flow.ret (y13.1, y13.2, x5)) else some (Flow.go (y13.2)))) else (Option.bind (meter_Meter_Give k x1 x2 x3 x4 x5 (IntKind.i64.wrap (0 - (IntKind.i64.wrap (y10 - y11))))) fun y14 => (if (y14.1 != 0) = true then some (Flow.ret (y14.1, y14.2, x5)) else some (Flow.go (y14.2))))) fun y12 => (match y12 with | Flow.ret r => some r | Flow.go z2 => some ((0 : Int), z2, (mput x5 x6 (some (T_platter_file.mk x7 (T_platter_text.mk y9.1 y9.2)))))))))))
set_option maxRecDepth 100000 in
set_option maxHeartbeats 4000000 in
theorem platter_Disk_put_ok {G w : World} {F : List HP} {R : Ending → World → Prop} (k : Nat) (x1 : Int) (x2 : Int) (x3 : Bool) (x4 : Int) (x5 : (List ((List UInt8) × (Option T_platter_file)))) (x6 : (List UInt8)) (x7 : T_platter_text) (p1 : Nat) (p2 : Nat) (r : (Int × Int × (List ((List UInt8) × (Option T_platter_file))))) (hst : St G w (blk p1 (cl [I x1, I x2, .bool x3, I x4, .map (some p2)] 79) :: mpr S (rPt r_T_platter_file) p2 x5 :: F)) (hr : platter_Disk_put k x1 x2 x3 x4 x5 x6 x7 = some r)
    (hR : ∀ w', St G w' (blk p1 (cl [I x1, I r.2.1, .bool x3, I x4, .map (some p2)] 79) :: mpr S (rPt r_T_platter_file) p2 r.2.2 :: F) → R (.returned (I r.1)) w') :
    Calls Tryz.prog 73 #[pt p1 0, S x6, .agg #[.bool x7.there, S x7.s]] w R := by
  unfold platter_Disk_put at hr
  refine enter Tryz.func73 rfl [(0, pt p1 0), (1, S x6), (2, .agg #[.bool x7.there, S x7.s])] rfl rfl fun b => ?_
  refine wp_seq ?_
  refine wp_reg ?_
  refine L_op rfl (O_box [.bool x7.there, S x7.s] hst rfl rfl fun p6 w hst => ?_)
  refine L_pure 1 [(0, pt p1 0), (1, S x6), (5, pt p6 0)] (by kernel_rfl) fun b => ?_
  refine wpL_nil ?_
  refine th_n ?_
  refine wp_seq ?_
  refine wp_reg ?_
  refine L_pure 2 [(0, pt p1 0), (1, S x6), (5, pt p6 0), (12, pt p1 0), (13, S x6)] (by kernel_rfl) fun b => ?_
  obtain ⟨y8, hy8, hr⟩ := bnd hr
  refine L_op rfl (O_call (vs := #[pt p1 0, S x6]) Tryz.call70 (by kernel_rfl) (platter_Disk_get_ok k x1 x2 x3 x4 x5 x6 p1 p2 y8 ((hst.pull 2).pull 2) hy8 fun a2 w hst => ?_))
  refine CK_ret rfl ?_
  refine L_pure 1 [(0, pt p1 0), (1, S x6), (5, pt p6 0), (7, .pointer a2)] (by kernel_rfl) fun b => ?_
  refine wpL_nil ?_
  refine th_n ?_
  obtain ⟨y9, hy9, hk3⟩ := bnd hr
  clear hr
  refine wp_seq_cut (fun a w => ∃ (p7 : Nat)(b : Nat → Value), a = mkF 49 b [(0, pt p1 0), (1, S x6), (7, .pointer a2), (8, pt p7 0)] ∧ St G w (blk p7 (cl [.bool x7.there, S x7.s, .bool y9.1, S y9.2] 130) :: dpt r_T_platter_file a2 y8 :: blk p1 (cl [I x1, I x2, .bool x3, I x4, .map (some p2)] 79) :: mpr S (rPt r_T_platter_file) p2 x5 :: blk p6 (cl [.bool x7.there, S x7.s] 128) :: F)) ?_ ?_
  · rintro _ w ⟨p7, b, rfl, hst⟩
    have hr := hk3
    refine wp_seq ?_
    refine wp_reg ?_
    obtain ⟨y10, hy10, hr⟩ := bnd hr
    refine L_op rfl (O_call (vs := #[pt p7 0]) Tryz.call80 (by kernel_rfl) (platter_file_weight_ok k (T_platter_file.mk x7 (T_platter_text.mk y9.1 y9.2)) p7 y10 hst hy10 fun w hst => ?_))
    refine CK_ret rfl ?_
    refine L_pure 1 [(0, pt p1 0), (1, S x6), (8, pt p7 0), (21, I y10), (22, .pointer a2)] (by kernel_rfl) fun b => ?_
    obtain ⟨y11, hy11, hr⟩ := bnd hr
    have hst := (hst.pull 1).dup
    refine L_op rfl (O_call (vs := #[.pointer a2]) Tryz.call80 (by kernel_rfl) (platter_file_weight_2_ok k y8 a2 y11 hst hy11 fun w hst => ?_))
    refine CK_ret rfl ?_
    refine L_pure 2 [(0, pt p1 0), (1, S x6), (8, pt p7 0), (9, I (IntKind.i64.wrap (y10 - y11)))] (by kernel_rfl) fun b => ?_
    refine wpL_nil ?_
    refine th_n ?_
    obtain ⟨y12, hy12, hk4⟩ := bnd hr
    clear hr
    refine wp_seq_cut (fun a w => ∃ (z2 : Int) (b : Nat → Value), y12 = .go z2 ∧ a = mkF 49 b [(0, pt p1 0), (1, S x6), (8, pt p7 0)] ∧ St G w (blk p1 (cl [I x1, I z2, .bool x3, I x4, .map (some p2)] 79) :: mpr S (rPt r_T_platter_file) p2 x5 :: dpt r_T_platter_file a2 y8 :: dpt r_T_platter_file a2 y8 :: blk p7 (cl [.bool x7.there, S x7.s, .bool y9.1, S y9.2] 130) :: blk p6 (cl [.bool x7.there, S x7.s] 128) :: F)) ?_ ?_
    · rintro _ w ⟨z2, b, rfl, rfl, hst⟩
      have hr := hk4
      refine wp_seq ?_
      refine wp_reg ?_
      refine L_pure 3 [(1, S x6), (8, pt p7 0), (46, pt p1 4)] (by kernel_rfl) fun b => ?_
      refine L_op rfl (O_run (v := .map (some p2)) (w' := w) (R_load hst rfl rfl) rfl rfl ?_)
      refine L_pure 1 [(8, pt p7 0), (47, .map (some p2)), (48, S x6)] (by kernel_rfl) fun b => ?_
      have hst := osl_of_blk0 (ecs := [[.bool x7.there, S x7.s, .bool y9.1, S y9.2]]) r_T_platter_file [(T_platter_file.mk x7 (T_platter_text.mk y9.1 y9.2))] rfl (fun m => ⟨⟨(), rfl, trivial⟩, trivial⟩) rfl (hst.pull 4)
      have hst := dpt_of (osl_freeze hst)
      refine L_op rfl (O_updP M75 x6 (hst.pull 2) rfl rfl rfl fun w hst => ?_)
      refine wpL_nil ?_
      refine th_n ?_
      refine wp_seq ?_
      refine wp_reg ?_
      refine L_pure 1 [(6, I 0)] (by kernel_rfl) fun b => ?_
      refine wpL_nil ?_
      refine th_n ?_
      refine wp_ret ?_
      refine ret1 rfl rfl ?_
      obtain rfl := Option.some.inj hr
      have hst := ((hst.pull 2).cut 2 4)
      exact hR _ hst
    · have hr := hy12
      refine wp_seq ?_
      refine wp_reg ?_
      refine L_pure 2 [(0, pt p1 0), (1, S x6), (8, pt p7 0), (9, I (IntKind.i64.wrap (y10 - y11))), (26, .bool (decide ((IntKind.i64.wrap (y10 - y11)) > 0)))] (by kernel_rfl) fun b => ?_
      refine wpL_nil ?_
      refine th_n ?_
      refine wp_cond_mkF (t := decide ((IntKind.i64.wrap (y10 - y11)) > 0)) rfl (fun h => ?_) (fun h => ?_)
      · have hr := (if_pos h).symm.trans hr
        refine wp_seq ?_
        refine wp_reg ?_
        refine L_pure 4 [(0, pt p1 0), (1, S x6), (8, pt p7 0), (29, pt p1 0), (30, I (IntKind.i64.wrap (y10 - y11)))] (by kernel_rfl) fun b => ?_
        obtain ⟨y13, hy13, hr⟩ := bnd hr
        refine L_op rfl (O_call (vs := #[pt p1 0, I (IntKind.i64.wrap (y10 - y11))]) Tryz.call81 (by kernel_rfl) (meter_Meter_Take_ok k x1 x2 x3 x4 x5 (IntKind.i64.wrap (y10 - y11)) p1 p2 y13 ((hst.pull 4).pull 4) hy13 fun w hst => ?_))
        refine CK_ret rfl ?_
        refine L_pure 1 [(0, pt p1 0), (1, S x6), (8, pt p7 0), (10, I y13.1)] (by kernel_rfl) fun b => ?_
        refine wpL_nil ?_
        refine th_n ?_
        refine wp_seq ?_
        refine wp_reg ?_
        refine L_pure 2 [(0, pt p1 0), (1, S x6), (8, pt p7 0), (10, I y13.1), (33, .bool (y13.1 != 0))] (by kernel_rfl) fun b => ?_
        refine wpL_nil ?_
        refine th_n ?_
        refine wp_cond_mkF (t := (y13.1 != 0)) rfl (fun h => ?_) (fun h => ?_)
        · have hr := (if_pos h).symm.trans hr
          refine wp_seq ?_
          refine wp_reg ?_
          refine L_pure 2 [(6, I y13.1)] (by kernel_rfl) fun b => ?_
          refine wpL_nil ?_
          refine th_n ?_
          refine wp_ret ?_
          refine th_r ?_
          refine ret1 rfl rfl ?_
          obtain rfl := Option.some.inj hr
          obtain rfl := Option.some.inj hk4
          have hst := (((hst.pull 1).pull 1).cut 2 4)
          exact hR _ hst
        · have hr := (if_neg (by rw [h]; exact Bool.false_ne_true)).symm.trans hr
          refine wp_skip ?_
          refine th_n ?_
          obtain rfl := Option.some.inj hr
          have hst := ((((((hst.pull 5).pull 5).pull 5).pull 5).pull 5).pull 5)
          exact ⟨(y13.2), (kpXf [(0, pt p1 0), (1, S x6), (8, pt p7 0)] rfl hst)⟩
      · have hr := (if_neg (by rw [h]; exact Bool.false_ne_true)).symm.trans hr
        refine wp_seq ?_
        refine wp_reg ?_
        refine L_pure 5 [(0, pt p1 0), (1, S x6), (8, pt p7 0), (37, pt p1 0), (39, I (IntKind.i64.wrap (0 - (IntKind.i64.wrap (y10 - y11)))))] (by kernel_rfl) fun b => ?_
        obtain ⟨y14, hy14, hr⟩ := bnd hr
        refine L_op rfl (O_call (vs := #[pt p1 0, I (IntKind.i64.wrap (0 - (IntKind.i64.wrap (y10 - y11))))]) Tryz.call82 (by kernel_rfl) (meter_Meter_Give_ok k x1 x2 x3 x4 x5 (IntKind.i64.wrap (0 - (IntKind.i64.wrap (y10 - y11)))) p1 p2 y14 ((hst.pull 4).pull 4) hy14 fun w hst => ?_))
        refine CK_ret rfl ?_
        refine L_pure 1 [(0, pt p1 0), (1, S x6), (8, pt p7 0), (11, I y14.1)] (by kernel_rfl) fun b => ?_
        refine wpL_nil ?_
        refine th_n ?_
        refine wp_seq ?_
        refine wp_reg ?_
        refine L_pure 2 [(0, pt p1 0), (1, S x6), (8, pt p7 0), (11, I y14.1), (42, .bool (y14.1 != 0))] (by kernel_rfl) fun b => ?_
        refine wpL_nil ?_
        refine th_n ?_
        refine wp_cond_mkF (t := (y14.1 != 0)) rfl (fun h => ?_) (fun h => ?_)
        · have hr := (if_pos h).symm.trans hr
          refine wp_seq ?_
          refine wp_reg ?_
          refine L_pure 2 [(6, I y14.1)] (by kernel_rfl) fun b => ?_
          refine wpL_nil ?_
          refine th_n ?_
          refine wp_ret ?_
          refine th_r ?_
          refine ret1 rfl rfl ?_
          obtain rfl := Option.some.inj hr
          obtain rfl := Option.some.inj hk4
          have hst := (((hst.pull 1).pull 1).cut 2 4)
          exact hR _ hst
        · have hr := (if_neg (by rw [h]; exact Bool.false_ne_true)).symm.trans hr
          refine wp_skip ?_
          refine th_n ?_
          obtain rfl := Option.some.inj hr
          have hst := ((((((hst.pull 5).pull 5).pull 5).pull 5).pull 5).pull 5)
          exact ⟨(y14.2), (kpXf [(0, pt p1 0), (1, S x6), (8, pt p7 0)] rfl hst)⟩
  · have hr := hy9
    refine wp_regG SA rfl ?_
    have hst := hst.draw (n := w.drawn + 1)
    generalize { w with drawn := w.drawn + 1 } = w at hst ⊢
    refine A_take (i := 1) (v := .pointer a2) rfl (by kernel_rfl) (fun _ _ _ h => h) rfl rfl rfl (fun _ => R_pure (by kernel_rfl)) ?_
    refine A_all [0, 2, 6] (by kernel_rfl) ⟨⟨_, rfl, rfl, ?_⟩, ⟨_, rfl, rfl, ?_⟩, ⟨_, rfl, rfl, ?_⟩, trivial⟩
    · refine O_run (v := .agg #[.bool x7.there, S x7.s]) (w' := w) (R_load (hst.pull 3) rfl rfl) rfl rfl ?_
      refine A_all [2, 6] (by kernel_rfl) ⟨⟨_, rfl, rfl, ?_⟩, ⟨_, rfl, rfl, ?_⟩, trivial⟩
      · obtain ⟨x9, hx2, hr⟩ := bnd hr
        have hst := dpt_pick hx2 hst
        refine O_run (v := pt (ab a2) (ao a2 + (0 : Int).toNat * 4)) (w' := w) (R_nilc hst rfl) rfl rfl ?_
        refine A_take (i := 3) (v := pt (ab a2) (ao a2 + (0 : Int).toNat * 4 + 2)) rfl (by kernel_rfl) (fun _ _ _ h => h) rfl rfl rfl (fun _ => R_pure (by kernel_rfl)) ?_
        refine A_all [4, 6] (by kernel_rfl) ⟨⟨_, rfl, rfl, ?_⟩, ⟨_, rfl, rfl, ?_⟩, trivial⟩
        · obtain ⟨q2, hc2, hst⟩ := dsl_cells hst (show gt [x9] 0 = some x9 from rfl)
          have hst := hst.drop
          refine O_run (v := .agg #[.bool x9.safe.there, S x9.safe.s]) (w' := w) (R_loadAt (off := ao a2 + (0 : Int).toNat * 4) (j := 2) hc2 rfl rfl) rfl rfl ?_
          refine A_take (i := 5) (v := .agg #[.bool x7.there, S x7.s, .bool x9.safe.there, S x9.safe.s]) rfl (by kernel_rfl) (fun _ _ _ h => h) rfl rfl rfl (fun _ => R_pure (by kernel_rfl)) ?_
          refine A_all [6] (by kernel_rfl) ⟨⟨_, rfl, rfl, ?_⟩, trivial⟩
          refine O_alloc (i := Tryz.t130) (z := .agg #[.bool false, S ([]), .bool false, S ([])]) [.bool false, S ([]), .bool false, S ([])] hst rfl rfl rfl rfl fun p8 w hst => ?_
          refine A_all [7] (by kernel_rfl) ⟨⟨_, rfl, rfl, ?_⟩, trivial⟩
          refine O_store [.bool x7.there, S x7.s, .bool x9.safe.there, S x9.safe.s] hst rfl rfl (by kernel_rfl) fun w hst => ?_
          refine wpG_done (by kernel_rfl) ?_ _
          refine C_keepQ [(0, pt p1 0), (1, S x6), (7, .pointer a2), (8, pt p8 0)] rfl fun b => ?_
          refine th_n ?_
          obtain rfl := Option.some.inj hr
          have hst := ((((((hst.pull 5).pull 5).pull 5).pull 5).pull 4).cut 5 1)
          exact ⟨p8, (kpX [(0, pt p1 0), (1, S x6), (7, .pointer a2), (8, pt p8 0)] rfl hst)⟩
        · refine O_alloc (i := Tryz.t130) (z := .agg #[.bool false, S ([]), .bool false, S ([])]) [.bool false, S ([]), .bool false, S ([])] hst rfl rfl rfl rfl fun p8 w hst => ?_
          refine A_all [4] (by kernel_rfl) ⟨⟨_, rfl, rfl, ?_⟩, trivial⟩
          obtain ⟨q2, hc2, hst⟩ := dsl_cells (hst.pull 1) (show gt [x9] 0 = some x9 from rfl)
          have hst := hst.drop
          refine O_run (v := .agg #[.bool x9.safe.there, S x9.safe.s]) (w' := w) (R_loadAt (off := ao a2 + (0 : Int).toNat * 4) (j := 2) hc2 rfl rfl) rfl rfl ?_
          refine A_take (i := 5) (v := .agg #[.bool x7.there, S x7.s, .bool x9.safe.there, S x9.safe.s]) rfl (by kernel_rfl) (fun _ _ _ h => h) rfl rfl rfl (fun _ => R_pure (by kernel_rfl)) ?_
          refine A_all [7] (by kernel_rfl) ⟨⟨_, rfl, rfl, ?_⟩, trivial⟩
          refine O_store [.bool x7.there, S x7.s, .bool x9.safe.there, S x9.safe.s] (hst.pull 1) rfl rfl (by kernel_rfl) fun w hst => ?_
          refine wpG_done (by kernel_rfl) ?_ _
          refine C_keepQ [(0, pt p1 0), (1, S x6), (7, .pointer a2), (8, pt p8 0)] rfl fun b => ?_
          refine th_n ?_
          obtain rfl := Option.some.inj hr
          have hst := ((((((hst.pull 5).pull 5).pull 5).pull 5).pull 4).cut 5 1)
          exact ⟨p8, (kpX [(0, pt p1 0), (1, S x6), (7, .pointer a2), (8, pt p8 0)] rfl hst)⟩
      · refine O_alloc (i := Tryz.t130) (z := .agg #[.bool false, S ([]), .bool false, S ([])]) [.bool false, S ([]), .bool false, S ([])] hst rfl rfl rfl rfl fun p8 w hst => ?_
        refine A_all [2] (by kernel_rfl) ⟨⟨_, rfl, rfl, ?_⟩, trivial⟩
        obtain ⟨x9, hx2, hr⟩ := bnd hr
        have hst := dpt_pick hx2 (hst.pull 1)
        refine O_run (v := pt (ab a2) (ao a2 + (0 : Int).toNat * 4)) (w' := w) (R_nilc hst rfl) rfl rfl ?_
        refine A_take (i := 3) (v := pt (ab a2) (ao a2 + (0 : Int).toNat * 4 + 2)) rfl (by kernel_rfl) (fun _ _ _ h => h) rfl rfl rfl (fun _ => R_pure (by kernel_rfl)) ?_
        refine A_all [4] (by kernel_rfl) ⟨⟨_, rfl, rfl, ?_⟩, trivial⟩
        obtain ⟨q2, hc2, hst⟩ := dsl_cells hst (show gt [x9] 0 = some x9 from rfl)
        have hst := hst.drop
        refine O_run (v := .agg #[.bool x9.safe.there, S x9.safe.s]) (w' := w) (R_loadAt (off := ao a2 + (0 : Int).toNat * 4) (j := 2) hc2 rfl rfl) rfl rfl ?_
        refine A_take (i := 5) (v := .agg #[.bool x7.there, S x7.s, .bool x9.safe.there, S x9.safe.s]) rfl (by kernel_rfl) (fun _ _ _ h => h) rfl rfl rfl (fun _ => R_pure (by kernel_rfl)) ?_
        refine A_all [7] (by kernel_rfl) ⟨⟨_, rfl, rfl, ?_⟩, trivial⟩
        refine O_store [.bool x7.there, S x7.s, .bool x9.safe.there, S x9.safe.s] (hst.pull 2) rfl rfl (by kernel_rfl) fun w hst => ?_
        refine wpG_done (by kernel_rfl) ?_ _
        refine C_keepQ [(0, pt p1 0), (1, S x6), (7, .pointer a2), (8, pt p8 0)] rfl fun b => ?_
        refine th_n ?_
        obtain rfl := Option.some.inj hr
        have hst := ((((((hst.pull 5).pull 5).pull 5).pull 5).pull 4).cut 5 1)
        exact ⟨p8, (kpX [(0, pt p1 0), (1, S x6), (7, .pointer a2), (8, pt p8 0)] rfl hst)⟩
    · obtain ⟨x9, hx2, hr⟩ := bnd hr
      have hst := dpt_pick hx2 hst
      refine O_run (v := pt (ab a2) (ao a2 + (0 : Int).toNat * 4)) (w' := w) (R_nilc hst rfl) rfl rfl ?_
      refine A_take (i := 3) (v := pt (ab a2) (ao a2 + (0 : Int).toNat * 4 + 2)) rfl (by kernel_rfl) (fun _ _ _ h => h) rfl rfl rfl (fun _ => R_pure (by kernel_rfl)) ?_
      refine A_all [0, 4, 6] (by kernel_rfl) ⟨⟨_, rfl, rfl, ?_⟩, ⟨_, rfl, rfl, ?_⟩, ⟨_, rfl, rfl, ?_⟩, trivial⟩
      · refine O_run (v := .agg #[.bool x7.there, S x7.s]) (w' := w) (R_load (hst.pull 4) rfl rfl) rfl rfl ?_
        refine A_all [4, 6] (by kernel_rfl) ⟨⟨_, rfl, rfl, ?_⟩, ⟨_, rfl, rfl, ?_⟩, trivial⟩
        · obtain ⟨q2, hc2, hst⟩ := dsl_cells hst (show gt [x9] 0 = some x9 from rfl)
          have hst := hst.drop
          refine O_run (v := .agg #[.bool x9.safe.there, S x9.safe.s]) (w' := w) (R_loadAt (off := ao a2 + (0 : Int).toNat * 4) (j := 2) hc2 rfl rfl) rfl rfl ?_
          refine A_take (i := 5) (v := .agg #[.bool x7.there, S x7.s, .bool x9.safe.there, S x9.safe.s]) rfl (by kernel_rfl) (fun _ _ _ h => h) rfl rfl rfl (fun _ => R_pure (by kernel_rfl)) ?_
          refine A_all [6] (by kernel_rfl) ⟨⟨_, rfl, rfl, ?_⟩, trivial⟩
          refine O_alloc (i := Tryz.t130) (z := .agg #[.bool false, S ([]), .bool false, S ([])]) [.bool false, S ([]), .bool false, S ([])] hst rfl rfl rfl rfl fun p8 w hst => ?_
          refine A_all [7] (by kernel_rfl) ⟨⟨_, rfl, rfl, ?_⟩, trivial⟩
          refine O_store [.bool x7.there, S x7.s, .bool x9.safe.there, S x9.safe.s] hst rfl rfl (by kernel_rfl) fun w hst => ?_
          refine wpG_done (by kernel_rfl) ?_ _
          refine C_keepQ [(0, pt p1 0), (1, S x6), (7, .pointer a2), (8, pt p8 0)] rfl fun b => ?_
          refine th_n ?_
          obtain rfl := Option.some.inj hr
          have hst := ((((((hst.pull 5).pull 5).pull 5).pull 5).pull 4).cut 5 1)
          exact ⟨p8, (kpX [(0, pt p1 0), (1, S x6), (7, .pointer a2), (8, pt p8 0)] rfl hst)⟩
        · refine O_alloc (i := Tryz.t130) (z := .agg #[.bool false, S ([]), .bool false, S ([])]) [.bool false, S ([]), .bool false, S ([])] hst rfl rfl rfl rfl fun p8 w hst => ?_
          refine A_all [4] (by kernel_rfl) ⟨⟨_, rfl, rfl, ?_⟩, trivial⟩
          obtain ⟨q2, hc2, hst⟩ := dsl_cells (hst.pull 1) (show gt [x9] 0 = some x9 from rfl)
          have hst := hst.drop
          refine O_run (v := .agg #[.bool x9.safe.there, S x9.safe.s]) (w' := w) (R_loadAt (off := ao a2 + (0 : Int).toNat * 4) (j := 2) hc2 rfl rfl) rfl rfl ?_
          refine A_take (i := 5) (v := .agg #[.bool x7.there, S x7.s, .bool x9.safe.there, S x9.safe.s]) rfl (by kernel_rfl) (fun _ _ _ h => h) rfl rfl rfl (fun _ => R_pure (by kernel_rfl)) ?_
          refine A_all [7] (by kernel_rfl) ⟨⟨_, rfl, rfl, ?_⟩, trivial⟩
          refine O_store [.bool x7.there, S x7.s, .bool x9.safe.there, S x9.safe.s] (hst.pull 1) rfl rfl (by kernel_rfl) fun w hst => ?_
          refine wpG_done (by kernel_rfl) ?_ _
          refine C_keepQ [(0, pt p1 0), (1, S x6), (7, .pointer a2), (8, pt p8 0)] rfl fun b => ?_
          refine th_n ?_
          obtain rfl := Option.some.inj hr
          have hst := ((((((hst.pull 5).pull 5).pull 5).pull 5).pull 4).cut 5 1)
          exact ⟨p8, (kpX [(0, pt p1 0), (1, S x6), (7, .pointer a2), (8, pt p8 0)] rfl hst)⟩
      · obtain ⟨q2, hc2, hst⟩ := dsl_cells hst (show gt [x9] 0 = some x9 from rfl)
        have hst := hst.drop
        refine O_run (v := .agg #[.bool x9.safe.there, S x9.safe.s]) (w' := w) (R_loadAt (off := ao a2 + (0 : Int).toNat * 4) (j := 2) hc2 rfl rfl) rfl rfl ?_
        refine A_all [0, 6] (by kernel_rfl) ⟨⟨_, rfl, rfl, ?_⟩, ⟨_, rfl, rfl, ?_⟩, trivial⟩
        · refine O_run (v := .agg #[.bool x7.there, S x7.s]) (w' := w) (R_load (hst.pull 4) rfl rfl) rfl rfl ?_
          refine A_take (i := 5) (v := .agg #[.bool x7.there, S x7.s, .bool x9.safe.there, S x9.safe.s]) rfl (by kernel_rfl) (fun _ _ _ h => h) rfl rfl rfl (fun _ => R_pure (by kernel_rfl)) ?_
          refine A_all [6] (by kernel_rfl) ⟨⟨_, rfl, rfl, ?_⟩, trivial⟩
          refine O_alloc (i := Tryz.t130) (z := .agg #[.bool false, S ([]), .bool false, S ([])]) [.bool false, S ([]), .bool false, S ([])] hst rfl rfl rfl rfl fun p8 w hst => ?_
          refine A_all [7] (by kernel_rfl) ⟨⟨_, rfl, rfl, ?_⟩, trivial⟩
          refine O_store [.bool x7.there, S x7.s, .bool x9.safe.there, S x9.safe.s] hst rfl rfl (by kernel_rfl) fun w hst => ?_
          refine wpG_done (by kernel_rfl) ?_ _
          refine C_keepQ [(0, pt p1 0), (1, S x6), (7, .pointer a2), (8, pt p8 0)] rfl fun b => ?_
          refine th_n ?_
          obtain rfl := Option.some.inj hr
          have hst := ((((((hst.pull 5).pull 5).pull 5).pull 5).pull 4).cut 5 1)
          exact ⟨p8, (kpX [(0, pt p1 0), (1, S x6), (7, .pointer a2), (8, pt p8 0)] rfl hst)⟩
        · refine O_alloc (i := Tryz.t130) (z := .agg #[.bool false, S ([]), .bool false, S ([])]) [.bool false, S ([]), .bool false, S ([])] hst rfl rfl rfl rfl fun p8 w hst => ?_
          refine A_all [0] (by kernel_rfl) ⟨⟨_, rfl, rfl, ?_⟩, trivial⟩
          refine O_run (v := .agg #[.bool x7.there, S x7.s]) (w' := w) (R_load (hst.pull 5) rfl rfl) rfl rfl ?_
          refine A_take (i := 5) (v := .agg #[.bool x7.there, S x7.s, .bool x9.safe.there, S x9.safe.s]) rfl (by kernel_rfl) (fun _ _ _ h => h) rfl rfl rfl (fun _ => R_pure (by kernel_rfl)) ?_
          refine A_all [7] (by kernel_rfl) ⟨⟨_, rfl, rfl, ?_⟩, trivial⟩
          refine O_store [.bool x7.there, S x7.s, .bool x9.safe.there, S x9.safe.s] hst rfl rfl (by kernel_rfl) fun w hst => ?_
          refine wpG_done (by kernel_rfl) ?_ _
          refine C_keepQ [(0, pt p1 0), (1, S x6), (7, .pointer a2), (8, pt p8 0)] rfl fun b => ?_
          refine th_n ?_
          obtain rfl := Option.some.inj hr
          have hst := ((((((hst.pull 5).pull 5).pull 5).pull 5).pull 4).cut 5 1)
          exact ⟨p8, (kpX [(0, pt p1 0), (1, S x6), (7, .pointer a2), (8, pt p8 0)] rfl hst)⟩
      · refine O_alloc (i := Tryz.t130) (z := .agg #[.bool false, S ([]), .bool false, S ([])]) [.bool false, S ([]), .bool false, S ([])] hst rfl rfl rfl rfl fun p8 w hst => ?_
        refine A_all [0, 4] (by kernel_rfl) ⟨⟨_, rfl, rfl, ?_⟩, ⟨_, rfl, rfl, ?_⟩, trivial⟩
        · refine O_run (v := .agg #[.bool x7.there, S x7.s]) (w' := w) (R_load (hst.pull 5) rfl rfl) rfl rfl ?_
          refine A_all [4] (by kernel_rfl) ⟨⟨_, rfl, rfl, ?_⟩, trivial⟩
          obtain ⟨q2, hc2, hst⟩ := dsl_cells (hst.pull 1) (show gt [x9] 0 = some x9 from rfl)
          have hst := hst.drop
          refine O_run (v := .agg #[.bool x9.safe.there, S x9.safe.s]) (w' := w) (R_loadAt (off := ao a2 + (0 : Int).toNat * 4) (j := 2) hc2 rfl rfl) rfl rfl ?_
          refine A_take (i := 5) (v := .agg #[.bool x7.there, S x7.s, .bool x9.safe.there, S x9.safe.s]) rfl (by kernel_rfl) (fun _ _ _ h => h) rfl rfl rfl (fun _ => R_pure (by kernel_rfl)) ?_
          refine A_all [7] (by kernel_rfl) ⟨⟨_, rfl, rfl, ?_⟩, trivial⟩
          refine O_store [.bool x7.there, S x7.s, .bool x9.safe.there, S x9.safe.s] (hst.pull 1) rfl rfl (by kernel_rfl) fun w hst => ?_
          refine wpG_done (by kernel_rfl) ?_ _
          refine C_keepQ [(0, pt p1 0), (1, S x6), (7, .pointer a2), (8, pt p8 0)] rfl fun b => ?_
          refine th_n ?_
          obtain rfl := Option.some.inj hr
          have hst := ((((((hst.pull 5).pull 5).pull 5).pull 5).pull 4).cut 5 1)
          exact ⟨p8, (kpX [(0, pt p1 0), (1, S x6), (7, .pointer a2), (8, pt p8 0)] rfl hst)⟩
        · obtain ⟨q2, hc2, hst⟩ := dsl_cells (hst.pull 1) (show gt [x9] 0 = some x9 from rfl)
          have hst := hst.drop
          refine O_run (v := .agg #[.bool x9.safe.there, S x9.safe.s]) (w' := w) (R_loadAt (off := ao a2 + (0 : Int).toNat * 4) (j := 2) hc2 rfl rfl) rfl rfl ?_
          refine A_all [0] (by kernel_rfl) ⟨⟨_, rfl, rfl, ?_⟩, trivial⟩
          refine O_run (v := .agg #[.bool x7.there, S x7.s]) (w' := w) (R_load (hst.pull 5) rfl rfl) rfl rfl ?_
          refine A_take (i := 5) (v := .agg #[.bool x7.there, S x7.s, .bool x9.safe.there, S x9.safe.s]) rfl (by kernel_rfl) (fun _ _ _ h => h) rfl rfl rfl (fun _ => R_pure (by kernel_rfl)) ?_
          refine A_all [7] (by kernel_rfl) ⟨⟨_, rfl, rfl, ?_⟩, trivial⟩
          refine O_store [.bool x7.there, S x7.s, .bool x9.safe.there, S x9.safe.s] (hst.pull 1) rfl rfl (by kernel_rfl) fun w hst => ?_
          refine wpG_done (by kernel_rfl) ?_ _
          refine C_keepQ [(0, pt p1 0), (1, S x6), (7, .pointer a2), (8, pt p8 0)] rfl fun b => ?_
          refine th_n ?_
          obtain rfl := Option.some.inj hr
          have hst := ((((((hst.pull 5).pull 5).pull 5).pull 5).pull 4).cut 5 1)
          exact ⟨p8, (kpX [(0, pt p1 0), (1, S x6), (7, .pointer a2), (8, pt p8 0)] rfl hst)⟩
    · refine O_alloc (i := Tryz.t130) (z := .agg #[.bool false, S ([]), .bool false, S ([])]) [.bool false, S ([]), .bool false, S ([])] hst rfl rfl rfl rfl fun p8 w hst => ?_
      refine A_all [0, 2] (by kernel_rfl) ⟨⟨_, rfl, rfl, ?_⟩, ⟨_, rfl, rfl, ?_⟩, trivial⟩
      · refine O_run (v := .agg #[.bool x7.there, S x7.s]) (w' := w) (R_load (hst.pull 4) rfl rfl) rfl rfl ?_
        refine A_all [2] (by kernel_rfl) ⟨⟨_, rfl, rfl, ?_⟩, trivial⟩
        obtain ⟨x9, hx2, hr⟩ := bnd hr
        have hst := dpt_pick hx2 (hst.pull 1)
        refine O_run (v := pt (ab a2) (ao a2 + (0 : Int).toNat * 4)) (w' := w) (R_nilc hst rfl) rfl rfl ?_
        refine A_take (i := 3) (v := pt (ab a2) (ao a2 + (0 : Int).toNat * 4 + 2)) rfl (by kernel_rfl) (fun _ _ _ h => h) rfl rfl rfl (fun _ => R_pure (by kernel_rfl)) ?_
        refine A_all [4] (by kernel_rfl) ⟨⟨_, rfl, rfl, ?_⟩, trivial⟩
        obtain ⟨q2, hc2, hst⟩ := dsl_cells hst (show gt [x9] 0 = some x9 from rfl)
        have hst := hst.drop
        refine O_run (v := .agg #[.bool x9.safe.there, S x9.safe.s]) (w' := w) (R_loadAt (off := ao a2 + (0 : Int).toNat * 4) (j := 2) hc2 rfl rfl) rfl rfl ?_
        refine A_take (i := 5) (v := .agg #[.bool x7.there, S x7.s, .bool x9.safe.there, S x9.safe.s]) rfl (by kernel_rfl) (fun _ _ _ h => h) rfl rfl rfl (fun _ => R_pure (by kernel_rfl)) ?_
        refine A_all [7] (by kernel_rfl) ⟨⟨_, rfl, rfl, ?_⟩, trivial⟩
        refine O_store [.bool x7.there, S x7.s, .bool x9.safe.there, S x9.safe.s] (hst.pull 2) rfl rfl (by kernel_rfl) fun w hst => ?_
        refine wpG_done (by kernel_rfl) ?_ _
        refine C_keepQ [(0, pt p1 0), (1, S x6), (7, .pointer a2), (8, pt p8 0)] rfl fun b => ?_
        refine th_n ?_
        obtain rfl := Option.some.inj hr
        have hst := ((((((hst.pull 5).pull 5).pull 5).pull 5).pull 4).cut 5 1)
        exact ⟨p8, (kpX [(0, pt p1 0), (1, S x6), (7, .pointer a2), (8, pt p8 0)] rfl hst)⟩
      · obtain ⟨x9, hx2, hr⟩ := bnd hr
        have hst := dpt_pick hx2 (hst.pull 1)
        refine O_run (v := pt (ab a2) (ao a2 + (0 : Int).toNat * 4)) (w' := w) (R_nilc hst rfl) rfl rfl ?_
        refine A_take (i := 3) (v := pt (ab a2) (ao a2 + (0 : Int).toNat * 4 + 2)) rfl (by kernel_rfl) (fun _ _ _ h => h) rfl rfl rfl (fun _ => R_pure (by kernel_rfl)) ?_
        refine A_all [0, 4] (by kernel_rfl) ⟨⟨_, rfl, rfl, ?_⟩, ⟨_, rfl, rfl, ?_⟩, trivial⟩
        · refine O_run (v := .agg #[.bool x7.there, S x7.s]) (w' := w) (R_load (hst.pull 5) rfl rfl) rfl rfl ?_
          refine A_all [4] (by kernel_rfl) ⟨⟨_, rfl, rfl, ?_⟩, trivial⟩
          obtain ⟨q2, hc2, hst⟩ := dsl_cells hst (show gt [x9] 0 = some x9 from rfl)
          have hst := hst.drop
          refine O_run (v := .agg #[.bool x9.safe.there, S x9.safe.s]) (w' := w) (R_loadAt (off := ao a2 + (0 : Int).toNat * 4) (j := 2) hc2 rfl rfl) rfl rfl ?_
          refine A_take (i := 5) (v := .agg #[.bool x7.there, S x7.s, .bool x9.safe.there, S x9.safe.s]) rfl (by kernel_rfl) (fun _ _ _ h => h) rfl rfl rfl (fun _ => R_pure (by kernel_rfl)) ?_
          refine A_all [7] (by kernel_rfl) ⟨⟨_, rfl, rfl, ?_⟩, trivial⟩
          refine O_store [.bool x7.there, S x7.s, .bool x9.safe.there, S x9.safe.s] (hst.pull 2) rfl rfl (by kernel_rfl) fun w hst => ?_
          refine wpG_done (by kernel_rfl) ?_ _
          refine C_keepQ [(0, pt p1 0), (1, S x6), (7, .pointer a2), (8, pt p8 0)] rfl fun b => ?_
          refine th_n ?_
          obtain rfl := Option.some.inj hr
          have hst := ((((((hst.pull 5).pull 5).pull 5).pull 5).pull 4).cut 5 1)
          exact ⟨p8, (kpX [(0, pt p1 0), (1, S x6), (7, .pointer a2), (8, pt p8 0)] rfl hst)⟩
        · obtain ⟨q2, hc2, hst⟩ := dsl_cells hst (show gt [x9] 0 = some x9 from rfl)
          have hst := hst.drop
          refine O_run (v := .agg #[.bool x9.safe.there, S x9.safe.s]) (w' := w) (R_loadAt (off := ao a2 + (0 : Int).toNat * 4) (j := 2) hc2 rfl rfl) rfl rfl ?_
          refine A_all [0] (by kernel_rfl) ⟨⟨_, rfl, rfl, ?_⟩, trivial⟩
          refine O_run (v := .agg #[.bool x7.there, S x7.s]) (w' := w) (R_load (hst.pull 5) rfl rfl) rfl rfl ?_
          refine A_take (i := 5) (v := .agg #[.bool x7.there, S x7.s, .bool x9.safe.there, S x9.safe.s]) rfl (by kernel_rfl) (fun _ _ _ h => h) rfl rfl rfl (fun _ => R_pure (by kernel_rfl)) ?_
          refine A_all [7] (by kernel_rfl) ⟨⟨_, rfl, rfl, ?_⟩, trivial⟩
          refine O_store [.bool x7.there, S x7.s, .bool x9.safe.there, S x9.safe.s] (hst.pull 2) rfl rfl (by kernel_rfl) fun w hst => ?_
          refine wpG_done (by kernel_rfl) ?_ _
          refine C_keepQ [(0, pt p1 0), (1, S x6), (7, .pointer a2), (8, pt p8 0)] rfl fun b => ?_
          refine th_n ?_
          obtain rfl := Option.some.inj hr
          have hst := ((((((hst.pull 5).pull 5).pull 5).pull 5).pull 4).cut 5 1)
          exact ⟨p8, (kpX [(0, pt p1 0), (1, S x6), (7, .pointer a2), (8, pt p8 0)] rfl hst)⟩
def platter_Disk_Write (k : Nat) (x1 : Int) (x2 : Int) (x3 : Bool) (x4 : Int) (x5 : (List ((List UInt8) × (Option T_platter_file)))) (x6 : (List UInt8)) (x7 : (List UInt8)) : Option (Int × Int × Int × (List ((List UInt8) × (Option T_platter_file)))) := (Option.bind (meter_Luck_Try k x1 x2 x3 x4 x5) fun y3 => (if (y3.1 != 0) = true then some (y3.1, x2, y3.2, x5) else (if (sEq x6 ([])) = true then some ((1 : Int), x2, y3.2, x5) else (Option.bind (platter_Disk_put k x1 x2 x3 y3.2 x5 x6 (T_platter_text.mk true x7)) fun y4 => some (y4.1, y4.2.1, y3.2, y4.2.2)))))
set_option maxRecDepth 100000 in
set_option maxHeartbeats 4000000 in
theorem platter_Disk_Write_ok {G w : World} {F : List HP} {R : Ending → World → Prop} (k : Nat) (x1 : Int) (x2 : Int) (x3 : Bool) (x4 : Int) (x5 : (List ((List UInt8) × (Option T_platter_file)))) (x6 : (List UInt8)) (x7 : (List UInt8)) (p1 : Nat) (p2 : Nat) (r : (Int × Int × Int × (List ((List UInt8) × (Option T_platter_file))))) (hst : St G w (blk p1 (cl [I x1, I x2, .bool x3, I x4, .map (some p2)] 79) :: mpr S (rPt r_T_platter_file) p2 x5 :: F)) (hr : platter_Disk_Write k x1 x2 x3 x4 x5 x6 x7 = some r)
    (hR : ∀ w', St G w' (blk p1 (cl [I x1, I r.2.1, .bool x3, I r.2.2.1, .map (some p2)] 79) :: mpr S (rPt r_T_platter_file) p2 r.2.2.2 :: F) → R (.returned (I r.1)) w') :
    Calls Tryz.prog 59 #[pt p1 0, S x6, S x7] w R := by
  unfold platter_Disk_Write at hr
  refine enter Tryz.func59 rfl [(0, pt p1 0), (1, S x6), (2, S x7)] rfl rfl fun b => ?_
  refine wp_seq ?_
  refine wp_reg ?_
  refine L_pure 1 [(0, pt p1 0), (1, S x6), (2, S x7)] (by kernel_rfl) fun b => ?_
  refine wpL_nil ?_
  refine th_n ?_
  refine wp_seq ?_
  refine wp_seq ?_
  refine wp_reg ?_
  refine L_pure 3 [(0, pt p1 0), (1, S x6), (2, S x7), (10, pt p1 2)] (by kernel_rfl) fun b => ?_
  obtain ⟨y3, hy3, hr⟩ := bnd hr
  refine L_op rfl (O_call (vs := #[pt p1 2]) Tryz.call69 (by kernel_rfl) (meter_Luck_Try_ok k x1 x2 x3 x4 x5 p1 p2 y3 ((hst.pull 1).pull 1) hy3 fun w hst => ?_))
  refine CK_ret rfl ?_
  refine L_pure 1 [(0, pt p1 0), (1, S x6), (2, S x7), (7, I y3.1)] (by kernel_rfl) fun b => ?_
  refine wpL_nil ?_
  refine th_n ?_
  refine wp_seq ?_
  refine wp_reg ?_
  refine L_pure 2 [(0, pt p1 0), (1, S x6), (2, S x7), (7, I y3.1), (13, .bool (y3.1 != 0))] (by kernel_rfl) fun b => ?_
  refine wpL_nil ?_
  refine th_n ?_
  refine wp_cond_mkF (t := (y3.1 != 0)) rfl (fun h => ?_) (fun h => ?_)
  · have hr := (if_pos h).symm.trans hr
    refine wp_seq ?_
    refine wp_reg ?_
    refine L_pure 2 [(6, I y3.1)] (by kernel_rfl) fun b => ?_
    refine wpL_nil ?_
    refine th_n ?_
    refine wp_ret ?_
    refine th_r ?_
    refine ret1 rfl rfl ?_
    obtain rfl := Option.some.inj hr
    have hst := ((hst.pull 1).pull 1)
    exact hR _ hst
  · have hr := (if_neg (by rw [h]; exact Bool.false_ne_true)).symm.trans hr
    refine wp_skip ?_
    refine th_n ?_
    refine wp_seq ?_
    refine wp_seq ?_
    refine wp_reg ?_
    refine L_pure 2 [(0, pt p1 0), (1, S x6), (2, S x7), (16, .bool (sEq x6 ([])))] (by kernel_rfl) fun b => ?_
    refine wpL_nil ?_
    refine th_n ?_
    refine wp_cond_mkF (t := (sEq x6 ([]))) rfl (fun h => ?_) (fun h => ?_)
    · have hr := (if_pos h).symm.trans hr
      refine wp_seq ?_
      refine wp_reg ?_
      refine L_pure 1 [(6, I 1)] (by kernel_rfl) fun b => ?_
      refine wpL_nil ?_
      refine th_n ?_
      refine wp_ret ?_
      refine th_r ?_
      refine ret1 rfl rfl ?_
      obtain rfl := Option.some.inj hr
      have hst := ((hst.pull 1).pull 1)
      exact hR _ hst
    · have hr := (if_neg (by rw [h]; exact Bool.false_ne_true)).symm.trans hr
      refine wp_skip ?_
      refine th_n ?_
      refine wp_seq ?_
      refine wp_reg ?_
      refine L_pure 4 [(17, pt p1 0), (18, S x6), (20, .agg #[.bool true, S x7])] (by kernel_rfl) fun b => ?_
      obtain ⟨y4, hy4, hr⟩ := bnd hr
      refine L_op rfl (O_call (vs := #[pt p1 0, S x6, .agg #[.bool true, S x7]]) Tryz.call73 (by kernel_rfl) (platter_Disk_put_ok k x1 x2 x3 y3.2 x5 x6 (T_platter_text.mk true x7) p1 p2 y4 ((hst.pull 1).pull 1) hy4 fun w hst => ?_))
      refine CK_ret rfl ?_
      refine L_pure 1 [(6, I y4.1)] (by kernel_rfl) fun b => ?_
      refine wpL_nil ?_
      refine th_n ?_
      refine wp_ret ?_
      refine ret1 rfl rfl ?_
      obtain rfl := Option.some.inj hr
      have hst := ((hst.pull 1).pull 1)
      exact hR _ hst
def platter_Disk_settle (k : Nat) (x1 : Int) (x2 : Int) (x3 : Bool) (x4 : Int) (x5 : (List ((List UInt8) × (Option T_platter_file)))) (x6 : (List UInt8)) (x7 : T_platter_text) : Option (Int × (List ((List UInt8) × (Option T_platter_file)))) := (if (!((mget x5 x6).isSome)) = true then some (x2, x5) else (Option.bind (platter_file_weight_2 k ((mget x5 x6).getD none)) fun y15 => (Option.bind (meter_Meter_Give k x1 x2 x3 x4 x5 (IntKind.i64.wrap (y15 - (x7.s.length : Int)))) fun y16 => (if x7.there = true then some (y16.2, (mput x5 x6 (some (T_platter_file.mk x7 x7)))) else some (y16.2, (mdel x5 x6))))))
set_option maxRecDepth 100000 in
set_option maxHeartbeats 4000000 in
theorem platter_Disk_settle_ok {G w : World} {F : List HP} {R : Ending → World → Prop} (k : Nat) (x1 : Int) (x2 : Int) (x3 : Bool) (x4 : Int) (x5 : (List ((List UInt8) × (Option T_platter_file)))) (x6 : (List UInt8)) (x7 : T_platter_text) (p1 : Nat) (p2 : Nat) (r : (Int × (List ((List UInt8) × (Option T_platter_file))))) (hst : St G w (blk p1 (cl [I x1, I x2, .bool x3, I x4, .map (some p2)] 79) :: mpr S (rPt r_T_platter_file) p2 x5 :: F)) (hr : platter_Disk_settle k x1 x2 x3 x4 x5 x6 x7 = some r)
    (hR : ∀ w', St G w' (blk p1 (cl [I x1, I r.1, .bool x3, I x4, .map (some p2)] 79) :: mpr S (rPt r_T_platter_file) p2 r.2 :: F) → R (.returned (.tuple #[])) w') :
    Calls Tryz.prog 76 #[pt p1 0, S x6, .agg #[.bool x7.there, S x7.s]] w R := by
  unfold platter_Disk_settle at hr
  refine enter Tryz.func76 rfl [(0, pt p1 0), (1, S x6), (2, .agg #[.bool x7.there, S x7.s])] rfl rfl fun b => ?_
  refine wp_seq ?_
  refine wp_reg ?_
  refine L_op rfl (O_box [.bool x7.there, S x7.s] hst rfl rfl fun p8 w hst => ?_)
  refine wpL_nil ?_
  refine th_n ?_
  refine wp_seq ?_
  refine wp_reg ?_
  refine L_pure 3 [(0, pt p1 0), (1, S x6), (5, pt p8 0), (11, pt p1 4)] (by kernel_rfl) fun b => ?_
  refine L_op rfl (O_run (v := .map (some p2)) (w' := w) (R_load (hst.pull 1) rfl rfl) rfl rfl ?_)
  refine L_pure 1 [(0, pt p1 0), (1, S x6), (5, pt p8 0), (12, .map (some p2)), (13, S x6)] (by kernel_rfl) fun b => ?_
  refine L_op rfl (O_lookP2 M75 x6 (hst.pull 2) rfl rfl rfl fun a2 hst => ?_)
  refine L_pure 5 [(0, pt p1 0), (1, S x6), (5, pt p8 0), (6, .pointer a2), (7, .bool ((mget x5 x6).isSome))] (by kernel_rfl) fun b => ?_
  refine wpL_nil ?_
  refine th_n ?_
  refine wp_seq ?_
  refine wp_seq ?_
  refine wp_reg ?_
  refine L_pure 2 [(0, pt p1 0), (1, S x6), (5, pt p8 0), (6, .pointer a2), (18, .bool (!((mget x5 x6).isSome)))] (by kernel_rfl) fun b => ?_
  refine wpL_nil ?_
  refine th_n ?_
  refine wp_cond_mkF (t := (!((mget x5 x6).isSome))) rfl (fun h => ?_) (fun h => ?_)
  · have hr := (if_pos h).symm.trans hr
    refine wp_ret ?_
    refine th_r ?_
    refine ret0 rfl ?_
    obtain rfl := Option.some.inj hr
    have hst := (((hst.pull 1).pull 3).cut 2 2)
    exact hR _ hst
  · have hr := (if_neg (by rw [h]; exact Bool.false_ne_true)).symm.trans hr
    refine wp_skip ?_
    refine th_n ?_
    refine wp_seq ?_
    refine wp_regG (SP 9 (fun w => St G w (dpt r_T_platter_file a2 ((mget x5 x6).getD none) :: mpr S (rPt r_T_platter_file) p2 x5 :: blk p8 (cl [.bool x7.there, S x7.s] 128) :: blk p1 (cl [I x1, I x2, .bool x3, I x4, .map (some p2)] 79) :: F))) rfl ?_
    have hst := hst.draw (n := w.drawn + 1)
    generalize { w with drawn := w.drawn + 1 } = w at hst ⊢
    refine P_pure (i := 0) (v := pt p1 0) 9 rfl rfl (by kernel_rfl) (fun _ _ _ h => h) rfl rfl rfl (by kernel_rfl) (.inr ((((hst.pull 3).pull 3).pull 3).pull 3)) ?_
    refine P_pure (i := 1) (v := pt p1 0) 9 rfl rfl (by kernel_rfl) (fun _ _ _ h => h) rfl rfl rfl (by kernel_rfl) (.inr ((((hst.pull 3).pull 3).pull 3).pull 3)) ?_
    refine P_pure (i := 2) (v := pt p1 0) 9 rfl rfl (by kernel_rfl) (fun _ _ _ h => h) rfl rfl rfl (by kernel_rfl) (.inr ((((hst.pull 3).pull 3).pull 3).pull 3)) ?_
    refine P_pure (i := 3) (v := .pointer a2) 9 rfl rfl (by kernel_rfl) (fun _ _ _ h => h) rfl rfl rfl (by kernel_rfl) (.inr ((((hst.pull 3).pull 3).pull 3).pull 3)) ?_
    refine P_pure (i := 5) (v := pt p8 1) 9 rfl rfl (by kernel_rfl) (fun _ _ _ h => h) rfl rfl rfl (by kernel_rfl) (.inr ((((hst.pull 3).pull 3).pull 3).pull 3)) ?_
    refine P_take (i := 6) (v := S x7.s) 9 [8, 7, 6] (by kernel_rfl) rfl (by kernel_rfl) (fun _ _ _ h => h) rfl rfl rfl (fun w hst => R_load (hst.pull 2) rfl rfl) (((((hst.pull 3).pull 3).pull 3).pull 3)) ?_
    refine P_pure (i := 7) (v := I (x7.s.length : Int)) 9 rfl rfl (by kernel_rfl) (fun _ _ _ h => h) rfl rfl rfl (by kernel_rfl) (.inr ((((hst.pull 3).pull 3).pull 3).pull 3)) ?_
    obtain ⟨y15, hy15, hr⟩ := bnd hr
    have hst := hst.dup
    refine P_one (i := 4) 9 (by kernel_rfl) rfl rfl (O_call (vs := #[.pointer a2]) Tryz.call80 (by kernel_rfl) (platter_file_weight_2_ok k ((mget x5 x6).getD none) a2 y15 hst hy15 fun w hst => ?_))
    refine CK_ret rfl ?_
    refine ⟨(((((hst.pull 4).pull 4).pull 4).pull 3).cut 4 1), ?_⟩
    refine P_pure (i := 8) (v := I (IntKind.i64.wrap (y15 - (x7.s.length : Int)))) 9 rfl rfl (by kernel_rfl) (fun _ _ _ h => h) rfl rfl rfl (by kernel_rfl) (.inr (((((hst.pull 4).pull 4).pull 4).pull 3).cut 4 1)) ?_
    obtain ⟨y16, hy16, hr⟩ := bnd hr
    refine P_act (i := 9) 9 (by kernel_rfl) rfl rfl (by kernel_rfl) (O_call (vs := #[pt p1 0, I (IntKind.i64.wrap (y15 - (x7.s.length : Int)))]) Tryz.call82 (by kernel_rfl) (meter_Meter_Give_ok k x1 x2 x3 x4 x5 (IntKind.i64.wrap (y15 - (x7.s.length : Int))) p1 p2 y16 ((hst.pull 2).pull 4) hy16 fun w hst => ?_))
    refine CK_ret rfl ?_
    refine wpG_done (by kernel_rfl) ?_ _
    refine C_keepQ [(0, pt p1 0), (1, S x6), (5, pt p8 0)] rfl fun b => ?_
    refine th_n ?_
    refine wp_seq ?_
    refine wp_reg ?_
    refine L_pure 1 [(0, pt p1 0), (1, S x6), (5, pt p8 0), (29, pt p8 0)] (by kernel_rfl) fun b => ?_
    refine L_op rfl (O_run (v := .bool x7.there) (w' := w) (R_load (hst.pull 4) rfl rfl) rfl rfl ?_)
    refine wpL_nil ?_
    refine th_n ?_
    refine wp_cond_mkF (t := x7.there) rfl (fun h => ?_) (fun h => ?_)
    · have hr := (if_pos h).symm.trans hr
      refine wp_regG (SP 9 (fun w => St G w (blk p1 (cl [I x1, I y16.2, .bool x3, I x4, .map (some p2)] 79) :: mpr S (rPt r_T_platter_file) p2 x5 :: dpt r_T_platter_file a2 ((mget x5 x6).getD none) :: dpt r_T_platter_file a2 ((mget x5 x6).getD none) :: blk p8 (cl [.bool x7.there, S x7.s] 128) :: F))) rfl ?_
      have hst := hst.draw (n := w.drawn + 1)
      generalize { w with drawn := w.drawn + 1 } = w at hst ⊢
      refine P_pure (i := 0) (v := pt p1 0) 9 rfl rfl (by kernel_rfl) (fun _ _ _ h => h) rfl rfl rfl (by kernel_rfl) (.inr (((((hst.pull 4).pull 4).pull 4).pull 4).pull 4)) ?_
      refine P_pure (i := 1) (v := pt p1 0) 9 rfl rfl (by kernel_rfl) (fun _ _ _ h => h) rfl rfl rfl (by kernel_rfl) (.inr (((((hst.pull 4).pull 4).pull 4).pull 4).pull 4)) ?_
      refine P_pure (i := 2) (v := pt p1 4) 9 rfl rfl (by kernel_rfl) (fun _ _ _ h => h) rfl rfl rfl (by kernel_rfl) (.inr (((((hst.pull 4).pull 4).pull 4).pull 4).pull 4)) ?_
      refine P_take (i := 3) (v := .map (some p2)) 9 [3] (by kernel_rfl) rfl (by kernel_rfl) (fun _ _ _ h => h) rfl rfl rfl (fun w hst => R_load hst rfl rfl) ((((((hst.pull 4).pull 4).pull 4).pull 4).pull 4)) ?_
      refine P_pure (i := 4) (v := S x6) 9 rfl rfl (by kernel_rfl) (fun _ _ _ h => h) rfl rfl rfl (by kernel_rfl) (.inr (((((hst.pull 4).pull 4).pull 4).pull 4).pull 4)) ?_
      refine P_take (i := 5) (v := .agg #[.bool x7.there, S x7.s]) 9 [5] (by kernel_rfl) rfl (by kernel_rfl) (fun _ _ _ h => h) rfl rfl rfl (fun w hst => R_load (hst.pull 4) rfl rfl) ((((((hst.pull 4).pull 4).pull 4).pull 4).pull 4)) ?_
      refine P_take (i := 6) (v := .agg #[.bool x7.there, S x7.s]) 9 [6] (by kernel_rfl) rfl (by kernel_rfl) (fun _ _ _ h => h) rfl rfl rfl (fun w hst => R_load (hst.pull 4) rfl rfl) ((((((hst.pull 4).pull 4).pull 4).pull 4).pull 4)) ?_
      refine P_pure (i := 7) (v := .agg #[.bool x7.there, S x7.s, .bool x7.there, S x7.s]) 9 rfl rfl (by kernel_rfl) (fun _ _ _ h => h) rfl rfl rfl (by kernel_rfl) (.inr (((((hst.pull 4).pull 4).pull 4).pull 4).pull 4)) ?_
      refine P_one (i := 8) 9 (by kernel_rfl) rfl rfl (O_box [.bool x7.there, S x7.s, .bool x7.there, S x7.s] hst rfl rfl fun p12 w hst => ?_)
      refine ⟨((((((hst.pull 5).pull 5).pull 5).pull 5).pull 5).cut 5 1), ?_⟩
      have hst := osl_of_blk0 (ecs := [[.bool x7.there, S x7.s, .bool x7.there, S x7.s]]) r_T_platter_file [(T_platter_file.mk x7 x7)] rfl (fun m => ⟨⟨(), rfl, trivial⟩, trivial⟩) rfl hst
      have hst := dpt_of (osl_freeze hst)
      refine P_act (i := 9) 9 (by kernel_rfl) rfl rfl (by kernel_rfl) (O_updP M75 x6 (hst.pull 2) rfl rfl rfl fun w hst => ?_)
      refine wpG_done (by kernel_rfl) ?_ _
      refine C_keepQ [] rfl fun b => ?_
      refine bp_normal ?_
      refine ret0 rfl ?_
      obtain rfl := Option.some.inj hr
      have hst := ((hst.pull 2).cut 2 4)
      exact hR _ hst
    · have hr := (if_neg (by rw [h]; exact Bool.false_ne_true)).symm.trans hr
      refine wp_reg ?_
      refine L_pure 3 [(1, S x6), (42, pt p1 4)] (by kernel_rfl) fun b => ?_
      refine L_op rfl (O_run (v := .map (some p2)) (w' := w) (R_load hst rfl rfl) rfl rfl ?_)
      refine L_pure 1 [(43, .map (some p2)), (44, S x6)] (by kernel_rfl) fun b => ?_
      refine L_op rfl (O_delP M75 x6 (hst.pull 1) rfl rfl fun w hst => ?_)
      refine wpL_nil ?_
      refine bp_normal ?_
      refine ret0 rfl ?_
      obtain rfl := Option.some.inj hr
      have hst := ((hst.pull 1).cut 2 3)
      exact hR _ hst
def platter_Disk_Sync_l1 (k : Nat) (x1 : Int) (x3 : Bool) (x6 : (List (List UInt8))) (y5 : (Int × Int)) : Nat → Int → Int → (List ((List UInt8) × (Option T_platter_file))) → Option (Int × (List ((List UInt8) × (Option T_platter_file))))
  | 0, _, _, _ => none
  | j + 1, v10, v11, v12 => (if decide (v10 < (x6.length : Int)) = true then (Option.bind (gt x6 v10) fun x9 => (Option.bind (platter_Disk_get k x1 v11 x3 y5.2 v12 x9) fun y7 => (Option.bind y7 fun x10 => (Option.bind (platter_Disk_settle k x1 v11 x3 y5.2 v12 x9 x10.now) fun y8 => (platter_Disk_Sync_l1 k x1 x3 x6 y5 j (IntKind.i64.wrap (v10 + 1)) y8.1 y8.2))))) else some (v11, v12))
def platter_Disk_Sync (k : Nat) (x1 : Int) (x2 : Int) (x3 : Bool) (x4 : Int) (x5 : (List ((List UInt8) × (Option T_platter_file)))) (x6 : (List (List UInt8))) : Option (Int × Int × Int × (List ((List UInt8) × (Option T_platter_file)))) := (Option.bind (meter_Luck_Try k x1 x2 x3 x4 x5) fun y5 => (if (y5.1 != 0) = true then some (y5.1, x2, y5.2, x5) else (if ((x6.length : Int) == 0) = true then none else (Option.bind (platter_Disk_Sync_l1 k x1 x3 x6 y5 k (0 : Int) x2 x5) fun y6 => some ((0 : Int), y6.1, y5.2, y6.2)))))
set_option maxRecDepth 100000 in
set_option maxHeartbeats 4000000 in
theorem platter_Disk_Sync_ok {G w : World} {F : List HP} {R : Ending → World → Prop} (k : Nat) (x1 : Int) (x2 : Int) (x3 : Bool) (x4 : Int) (x5 : (List ((List UInt8) × (Option T_platter_file)))) (x6 : (List (List UInt8))) (p1 : Nat) (p2 : Nat) (a1 : Option Addr) (c1 : Nat) (r : (Int × Int × Int × (List ((List UInt8) × (Option T_platter_file))))) (hst : St G w (blk p1 (cl [I x1, I x2, .bool x3, I x4, .map (some p2)] 79) :: mpr S (rPt r_T_platter_file) p2 x5 :: dsl rS a1 c1 x6 :: F)) (hr : platter_Disk_Sync k x1 x2 x3 x4 x5 x6 = some r)
    (hR : ∀ w', St G w' (blk p1 (cl [I x1, I r.2.1, .bool x3, I r.2.2.1, .map (some p2)] 79) :: mpr S (rPt r_T_platter_file) p2 r.2.2.2 :: dsl rS a1 c1 x6 :: F) → R (.returned (I r.1)) w') :
    Calls Tryz.prog 60 #[pt p1 0, .slice a1 x6.length c1] w R := by
  unfold platter_Disk_Sync at hr
  refine enter Tryz.func60 rfl [(0, pt p1 0), (1, .slice a1 x6.length c1)] rfl rfl fun b => ?_
  refine wp_seq ?_
  refine wp_reg ?_
  refine L_pure 1 [(0, pt p1 0), (1, .slice a1 x6.length c1)] (by kernel_rfl) fun b => ?_
  refine wpL_nil ?_
  refine th_n ?_
  refine wp_seq ?_
  refine wp_seq ?_
  refine wp_reg ?_
  refine L_pure 3 [(0, pt p1 0), (1, .slice a1 x6.length c1), (11, pt p1 2)] (by kernel_rfl) fun b => ?_
  obtain ⟨y5, hy5, hr⟩ := bnd hr
  refine L_op rfl (O_call (vs := #[pt p1 2]) Tryz.call69 (by kernel_rfl) (meter_Luck_Try_ok k x1 x2 x3 x4 x5 p1 p2 y5 ((hst.pull 1).pull 1) hy5 fun w hst => ?_))
  refine CK_ret rfl ?_
  refine L_pure 1 [(0, pt p1 0), (1, .slice a1 x6.length c1), (5, I y5.1)] (by kernel_rfl) fun b => ?_
  refine wpL_nil ?_
  refine th_n ?_
  refine wp_seq ?_
  refine wp_reg ?_
  refine L_pure 2 [(0, pt p1 0), (1, .slice a1 x6.length c1), (5, I y5.1), (14, .bool (y5.1 != 0))] (by kernel_rfl) fun b => ?_
  refine wpL_nil ?_
  refine th_n ?_
  refine wp_cond_mkF (t := (y5.1 != 0)) rfl (fun h => ?_) (fun h => ?_)
  · have hr := (if_pos h).symm.trans hr
    refine wp_seq ?_
    refine wp_reg ?_
    refine L_pure 2 [(4, I y5.1)] (by kernel_rfl) fun b => ?_
    refine wpL_nil ?_
    refine th_n ?_
    refine wp_ret ?_
    refine th_r ?_
    refine ret1 rfl rfl ?_
    obtain rfl := Option.some.inj hr
    have hst := (((hst.pull 2).pull 2).pull 2)
    exact hR _ hst
  · have hr := (if_neg (by rw [h]; exact Bool.false_ne_true)).symm.trans hr
    refine wp_skip ?_
    refine th_n ?_
    refine wp_seq ?_
    refine wp_seq ?_
    refine wp_reg ?_
    refine L_pure 3 [(0, pt p1 0), (1, .slice a1 x6.length c1), (18, .bool ((x6.length : Int) == 0))] (by kernel_rfl) fun b => ?_
    refine wpL_nil ?_
    refine th_n ?_
    refine wp_cond_mkF (t := ((x6.length : Int) == 0)) rfl (fun h => ?_) (fun h => ?_)
    · have hr := (if_pos h).symm.trans hr
      refine wp_reg ?_
      refine L_pure 3 [(0, pt p1 0), (21, pt p1 4)] (by kernel_rfl) fun b => ?_
      refine L_op rfl (O_run (v := .map (some p2)) (w' := w) (R_load hst rfl rfl) rfl rfl ?_)
      cases hr
    · have hr := (if_neg (by rw [h]; exact Bool.false_ne_true)).symm.trans hr
      refine wp_skip ?_
      refine th_n ?_
      refine wp_seq ?_
      refine wp_seq ?_
      refine wp_reg ?_
      refine L_pure 3 [(0, pt p1 0), (25, .slice a1 x6.length c1), (26, I (x6.length : Int)), (27, I 0)] (by kernel_rfl) fun b => ?_
      refine wpL_nil ?_
      refine th_n ?_
      obtain ⟨y6, hy6, hk2⟩ := bnd hr
      clear hr
      refine Go.Hx.wp_cut (fun a w => ∃ (b : Nat → Value), a = mkF 42 b [] ∧ St G w (blk p1 (cl [I x1, I y6.1, .bool x3, I y5.2, .map (some p2)] 79) :: mpr S (rPt r_T_platter_file) p2 y6.2 :: dsl rS a1 c1 x6 :: F)) ?_ ?_
      · rintro _ w ⟨b, rfl, hst⟩
        have hr := hk2
        refine th_n ?_
        refine wp_seq ?_
        refine wp_reg ?_
        refine L_pure 1 [(4, I 0)] (by kernel_rfl) fun b => ?_
        refine wpL_nil ?_
        refine th_n ?_
        refine wp_ret ?_
        refine ret1 rfl rfl ?_
        obtain rfl := Option.some.inj hr
        have hst := (((hst.pull 2).pull 2).pull 2)
        exact hR _ hst
      · have hst := (((hst.pull 2).pull 2).pull 2)
        refine wp_block ?_
        refine wp_loop_fuel (fun j a w => ∃ (v10 : Int) (v11 : Int) (v12 : (List ((List UInt8) × (Option T_platter_file)))) (b : Nat → Value), a = mkF 42 b [(0, pt p1 0), (25, .slice a1 x6.length c1), (26, I (x6.length : Int)), (27, I v10)] ∧ St G w (blk p1 (cl [I x1, I v11, .bool x3, I y5.2, .map (some p2)] 79) :: mpr S (rPt r_T_platter_file) p2 v12 :: dsl rS a1 c1 x6 :: F) ∧ platter_Disk_Sync_l1 k x1 x3 x6 y5 j v10 v11 v12 = some y6) (k := k) ⟨(0 : Int), x2, x5, (kpX [(0, pt p1 0), (25, .slice a1 x6.length c1), (26, I (x6.length : Int)), (27, I 0)] rfl ⟨hst, hy6⟩)⟩ ?_ ?_
        · rintro _ _ ⟨_, _, _, _, _, _, h⟩
          rw [platter_Disk_Sync_l1] at h
          cases h
        · rintro j _ w ⟨v10, v11, v12, b, rfl, hst, hr⟩
          rw [platter_Disk_Sync_l1] at hr
          refine wp_seq ?_
          refine wp_reg ?_
          refine L_pure 1 [(0, pt p1 0), (25, .slice a1 x6.length c1), (26, I (x6.length : Int)), (27, I v10), (28, .bool (decide (v10 < (x6.length : Int))))] (by kernel_rfl) fun b => ?_
          refine wpL_nil ?_
          refine th_n ?_
          refine wp_seq ?_
          refine wp_cond_mkF (t := decide (v10 < (x6.length : Int))) rfl (fun h => ?_) (fun h => ?_)
          · have hr := (if_pos h).symm.trans hr
            refine wp_skip ?_
            refine th_n ?_
            refine wp_seq ?_
            refine wp_block ?_
            refine wp_seq ?_
            refine wp_reg ?_
            obtain ⟨x9, hx3, hr⟩ := bnd hr
            refine L_op rfl (O_run (v := pt (ab a1) (ao a1 + v10.toNat * 1)) (w' := w) (R_ia L25 rfl rfl (dsl_addr (hst.pull 2) hx3) (gt_some hx3).1 (gt_some hx3).2.1) rfl rfl ?_)
            obtain ⟨q3, hc3, hst⟩ := dsl_cells (hst.pull 2) hx3
            have hst := hst.drop
            refine L_op rfl (O_run (v := S x9) (w' := w) (R_loadAt (off := ao a1 + v10.toNat * 1) (j := 0) hc3 rfl rfl) rfl rfl ?_)
            refine L_pure 1 [(0, pt p1 0), (7, S x9), (25, .slice a1 x6.length c1), (26, I (x6.length : Int)), (27, I v10)] (by kernel_rfl) fun b => ?_
            refine wpL_nil ?_
            refine th_n ?_
            refine wp_seq ?_
            refine wp_reg ?_
            refine L_pure 2 [(0, pt p1 0), (7, S x9), (25, .slice a1 x6.length c1), (26, I (x6.length : Int)), (27, I v10), (31, pt p1 0), (32, S x9)] (by kernel_rfl) fun b => ?_
            obtain ⟨y7, hy7, hr⟩ := bnd hr
            refine L_op rfl (O_call (vs := #[pt p1 0, S x9]) Tryz.call70 (by kernel_rfl) (platter_Disk_get_ok k x1 v11 x3 y5.2 v12 x9 p1 p2 y7 ((hst.pull 2).pull 2) hy7 fun a3 w hst => ?_))
            refine CK_ret rfl ?_
            refine L_pure 1 [(0, pt p1 0), (7, S x9), (8, .pointer a3), (25, .slice a1 x6.length c1), (26, I (x6.length : Int)), (27, I v10)] (by kernel_rfl) fun b => ?_
            refine wpL_nil ?_
            refine th_n ?_
            refine wp_reg ?_
            refine L_pure 3 [(0, pt p1 0), (25, .slice a1 x6.length c1), (26, I (x6.length : Int)), (27, I v10), (34, pt p1 0), (35, S x9), (36, .pointer a3)] (by kernel_rfl) fun b => ?_
            obtain ⟨x10, hx4, hr⟩ := bnd hr
            have hst := dpt_pick hx4 hst
            refine L_op rfl (O_run (v := pt (ab a3) (ao a3 + (0 : Int).toNat * 4)) (w' := w) (R_nilc hst rfl) rfl rfl ?_)
            refine L_pure 1 [(0, pt p1 0), (25, .slice a1 x6.length c1), (26, I (x6.length : Int)), (27, I v10), (34, pt p1 0), (35, S x9), (38, pt (ab a3) (ao a3 + (0 : Int).toNat * 4))] (by kernel_rfl) fun b => ?_
            obtain ⟨q4, hc4, hst⟩ := dsl_cells hst (show gt [x10] 0 = some x10 from rfl)
            have hst := hst.drop
            refine L_op rfl (O_run (v := .agg #[.bool x10.now.there, S x10.now.s]) (w' := w) (R_loadAt (off := ao a3 + (0 : Int).toNat * 4) (j := 0) hc4 rfl rfl) rfl rfl ?_)
            obtain ⟨y8, hy8, hr⟩ := bnd hr
            refine L_op rfl (O_call (vs := #[pt p1 0, S x9, .agg #[.bool x10.now.there, S x10.now.s]]) Tryz.call76 (by kernel_rfl) (platter_Disk_settle_ok k x1 v11 x3 y5.2 v12 x9 x10.now p1 p2 y8 ((hst.pull 3).pull 3) hy8 fun w hst => ?_))
            refine CK_ret rfl ?_
            refine wpL_nil ?_
            refine ib_n (th_n ?_)
            refine wp_reg ?_
            refine L_pure 2 [(0, pt p1 0), (25, .slice a1 x6.length c1), (26, I (x6.length : Int)), (27, I (IntKind.i64.wrap (v10 + 1)))] (by kernel_rfl) fun b => ?_
            refine wpL_nil ?_
            refine th_n ?_
            have hst := ((((hst.pull 4).pull 2).pull 2).cut 3 2)
            exact ⟨(IntKind.i64.wrap (v10 + 1)), y8.1, y8.2, (kpX [(0, pt p1 0), (25, .slice a1 x6.length c1), (26, I (x6.length : Int)), (27, I (IntKind.i64.wrap (v10 + 1)))] rfl ⟨hst, hr⟩)⟩
          · have hr := (if_neg (by rw [h]; exact Bool.false_ne_true)).symm.trans hr
            refine wp_exit ?_
            refine th_x (th_x (ib_x (th_n ?_)))
            obtain rfl := Option.some.inj hr
            have hst := (((hst.pull 2).pull 2).pull 2)
            exact (kpX [] rfl hst)
def term_keep (k : Nat) (x1 : Int) (x2 : Int) (x3 : Bool) (x4 : Int) (x5 : (List ((List UInt8) × (Option T_platter_file)))) (x6 : (List UInt8)) (x7 : (List UInt8)) : Option (Int × Int × Int × (List ((List UInt8) × (Option T_platter_file)))) := (Option.bind (platter_Disk_Write k x1 x2 x3 x4 x5 x6 x7) fun y3 => (if (y3.1 != 0) = true then some (y3.1, y3.2.1, y3.2.2.1, y3.2.2.2) else (Option.bind (platter_Disk_Sync k x1 y3.2.1 x3 y3.2.2.1 y3.2.2.2 ([x6])) fun y4 => some (y4.1, y4.2.1, y4.2.2.1, y4.2.2.2))))
set_option maxRecDepth 100000 in
set_option maxHeartbeats 4000000 in
theorem term_keep_ok {G w : World} {F : List HP} {R : Ending → World → Prop} (k : Nat) (x1 : Int) (x2 : Int) (x3 : Bool) (x4 : Int) (x5 : (List ((List UInt8) × (Option T_platter_file)))) (x6 : (List UInt8)) (x7 : (List UInt8)) (p1 : Nat) (p2 : Nat) (r : (Int × Int × Int × (List ((List UInt8) × (Option T_platter_file))))) (hst : St G w (blk p1 (cl [I x1, I x2, .bool x3, I x4, .map (some p2)] 79) :: mpr S (rPt r_T_platter_file) p2 x5 :: F)) (hr : term_keep k x1 x2 x3 x4 x5 x6 x7 = some r)
    (hR : ∀ w', St G w' (blk p1 (cl [I x1, I r.2.1, .bool x3, I r.2.2.1, .map (some p2)] 79) :: mpr S (rPt r_T_platter_file) p2 r.2.2.2 :: F) → R (.returned (I r.1)) w') :
    Calls Tryz.prog 39 #[pt p1 0, S x6, S x7] w R := by
  unfold term_keep at hr
  refine enter Tryz.func39 rfl [(0, pt p1 0), (1, S x6), (2, S x7)] rfl rfl fun b => ?_
  refine wp_seq ?_
  refine wp_reg ?_
  refine L_pure 1 [(0, pt p1 0), (1, S x6), (2, S x7)] (by kernel_rfl) fun b => ?_
  refine wpL_nil ?_
  refine th_n ?_
  refine wp_seq ?_
  refine wp_seq ?_
  refine wp_reg ?_
  refine L_pure 3 [(0, pt p1 0), (1, S x6), (8, pt p1 0), (9, S x6), (10, S x7)] (by kernel_rfl) fun b => ?_
  obtain ⟨y3, hy3, hr⟩ := bnd hr
  refine L_op rfl (O_call (vs := #[pt p1 0, S x6, S x7]) Tryz.call59 (by kernel_rfl) (platter_Disk_Write_ok k x1 x2 x3 x4 x5 x6 x7 p1 p2 y3 ((hst.pull 1).pull 1) hy3 fun w hst => ?_))
  refine CK_ret rfl ?_
  refine L_pure 1 [(0, pt p1 0), (1, S x6), (7, I y3.1)] (by kernel_rfl) fun b => ?_
  refine wpL_nil ?_
  refine th_n ?_
  refine wp_seq ?_
  refine wp_reg ?_
  refine L_pure 2 [(0, pt p1 0), (1, S x6), (7, I y3.1), (13, .bool (y3.1 != 0))] (by kernel_rfl) fun b => ?_
  refine wpL_nil ?_
  refine th_n ?_
  refine wp_cond_mkF (t := (y3.1 != 0)) rfl (fun h => ?_) (fun h => ?_)
  · have hr := (if_pos h).symm.trans hr
    refine wp_seq ?_
    refine wp_reg ?_
    refine L_pure 2 [(6, I y3.1)] (by kernel_rfl) fun b => ?_
    refine wpL_nil ?_
    refine th_n ?_
    refine wp_ret ?_
    refine th_r ?_
    refine ret1 rfl rfl ?_
    obtain rfl := Option.some.inj hr
    have hst := ((hst.pull 1).pull 1)
    exact hR _ hst
  · have hr := (if_neg (by rw [h]; exact Bool.false_ne_true)).symm.trans hr
    refine wp_skip ?_
    refine th_n ?_
    refine wp_seq ?_
    refine wp_reg ?_
    refine L_pure 2 [(15, pt p1 0), (16, S x6)] (by kernel_rfl) fun b => ?_
    refine L_op rfl (O_bs (T := 9) [S x6] #[(0, S x6)] hst (by kernel_rfl) (by kernel_rfl) rfl fun p4 w hst => ?_)
    have hst := osl_of_blk0 (ecs := [[S x6]]) rS [x6] rfl (fun m => ⟨⟨(), rfl, trivial⟩, trivial⟩) rfl hst
    obtain ⟨y4, hy4, hr⟩ := bnd hr
    have hst := osl_freeze hst
    refine L_op rfl (O_call (vs := #[pt p1 0, .slice (some ⟨p4, 0, none⟩) ([x6]).length 1]) Tryz.call60 (by kernel_rfl) (platter_Disk_Sync_ok k x1 y3.2.1 x3 y3.2.2.1 y3.2.2.2 ([x6]) p1 p2 (some ⟨p4, 0, none⟩) 1 y4 ((hst.pull 2).pull 2) hy4 fun w hst => ?_))
    refine CK_ret rfl ?_
    refine L_pure 1 [(6, I y4.1)] (by kernel_rfl) fun b => ?_
    refine wpL_nil ?_
    refine th_n ?_
    refine wp_ret ?_
    refine ret1 rfl rfl ?_
    obtain rfl := Option.some.inj hr
    have hst := (((hst.pull 1).pull 1).cut 2 1)
    exact hR _ hst
def term_parse (k : Nat) (x1 : (List UInt8)) : Option (T_term_Entry × Bool) := (Option.bind (wire_From k x1) fun y7 => (Option.bind (wire_Dec_I k (T_wire_Dec.mk y7.1 y7.2) 1099511627776) fun y8 => (Option.bind (wire_Dec_I k (T_wire_Dec.mk y8.2.1 y8.2.2) 1099511627776) fun y9 => (Option.bind (wire_Dec_S k (T_wire_Dec.mk y9.2.1 y9.2.2) 100000) fun y10 => (Option.bind (Option.bind (wire_Dec_Done k (T_wire_Dec.mk y10.2.1 y10.2.2)) fun y12 => some ((y12 == 0), y12)) fun y11 => some ((T_term_Entry.mk y8.1 y9.1 y10.1), y11.1))))))
set_option maxRecDepth 100000 in
set_option maxHeartbeats 4000000 in
theorem term_parse_ok {G w : World} {F : List HP} {R : Ending → World → Prop} (k : Nat) (x1 : (List UInt8)) (r : (T_term_Entry × Bool)) (hst : St G w (F)) (hr : term_parse k x1 = some r)
    (hR : ∀ w', St G w' (F) → R (.returned (.tuple #[.agg #[I r.1.Index, I r.1.Term, S r.1.Cmd], .bool r.2])) w') :
    Calls Tryz.prog 57 #[S x1] w R := by
  unfold term_parse at hr
  refine enter Tryz.func57 rfl [(0, S x1)] rfl rfl fun b => ?_
  refine wp_seq ?_
  refine wp_reg ?_
  refine L_op rfl (O_alloc (i := Tryz.t48) (z := .agg #[I 0, I 0, S ([])]) [I 0, I 0, S ([])] hst rfl rfl rfl rfl fun p4 w hst => ?_)
  refine L_pure 1 [(0, S x1), (2, pt p4 0)] (by kernel_rfl) fun b => ?_
  refine wpL_nil ?_
  refine th_n ?_
  refine wp_seq ?_
  refine wp_reg ?_
  refine L_pure 1 [(2, pt p4 0), (6, S x1)] (by kernel_rfl) fun b => ?_
  obtain ⟨y7, hy7, hr⟩ := bnd hr
  refine L_op rfl (O_call (vs := #[S x1]) Tryz.call65 (by kernel_rfl) (wire_From_ok k x1 y7 hst hy7 fun p5 w hst => ?_))
  refine CK_ret rfl ?_
  refine L_pure 1 [(2, pt p4 0), (4, pt p5 0)] (by kernel_rfl) fun b => ?_
  refine wpL_nil ?_
  refine th_n ?_
  refine wp_seq ?_
  refine wp_reg ?_
  refine L_op rfl (O_alloc (i := Tryz.t48) (z := .agg #[I 0, I 0, S ([])]) [I 0, I 0, S ([])] hst rfl rfl rfl rfl fun p6 w hst => ?_)
  refine wpL_nil ?_
  refine th_n ?_
  refine wp_seq ?_
  refine wp_reg ?_
  refine L_pure 1 [(2, pt p4 0), (4, pt p5 0), (5, pt p6 0), (8, pt p5 0)] (by kernel_rfl) fun b => ?_
  obtain ⟨y8, hy8, hr⟩ := bnd hr
  refine L_op rfl (O_call (vs := #[pt p5 0, I 1099511627776]) Tryz.call52 (by kernel_rfl) (wire_Dec_I_ok k (T_wire_Dec.mk y7.1 y7.2) 1099511627776 p5 y8 (hst.pull 1) hy8 fun w hst => ?_))
  refine CK_ret rfl ?_
  refine L_pure 1 [(2, pt p4 0), (4, pt p5 0), (5, pt p6 0), (9, I y8.1), (10, pt p6 0)] (by kernel_rfl) fun b => ?_
  refine L_op rfl (O_store [I y8.1, I 0, S ([])] (hst.pull 1) rfl rfl (by kernel_rfl) fun w hst => ?_)
  refine wpL_nil ?_
  refine th_n ?_
  refine wp_seq ?_
  refine wp_reg ?_
  refine L_pure 1 [(2, pt p4 0), (4, pt p5 0), (5, pt p6 0), (11, pt p5 0)] (by kernel_rfl) fun b => ?_
  obtain ⟨y9, hy9, hr⟩ := bnd hr
  refine L_op rfl (O_call (vs := #[pt p5 0, I 1099511627776]) Tryz.call52 (by kernel_rfl) (wire_Dec_I_ok k (T_wire_Dec.mk y8.2.1 y8.2.2) 1099511627776 p5 y9 (hst.pull 1) hy9 fun w hst => ?_))
  refine CK_ret rfl ?_
  refine L_pure 1 [(2, pt p4 0), (4, pt p5 0), (5, pt p6 0), (12, I y9.1), (13, pt p6 1)] (by kernel_rfl) fun b => ?_
  refine L_op rfl (O_store [I y8.1, I y9.1, S ([])] (hst.pull 1) rfl rfl (by kernel_rfl) fun w hst => ?_)
  refine wpL_nil ?_
  refine th_n ?_
  refine wp_seq ?_
  refine wp_reg ?_
  refine L_pure 1 [(2, pt p4 0), (4, pt p5 0), (5, pt p6 0), (14, pt p5 0)] (by kernel_rfl) fun b => ?_
  obtain ⟨y10, hy10, hr⟩ := bnd hr
  refine L_op rfl (O_call (vs := #[pt p5 0, I 100000]) Tryz.call54 (by kernel_rfl) (wire_Dec_S_ok k (T_wire_Dec.mk y9.2.1 y9.2.2) 100000 p5 y10 (hst.pull 1) hy10 fun w hst => ?_))
  refine CK_ret rfl ?_
  refine L_pure 1 [(2, pt p4 0), (4, pt p5 0), (5, pt p6 0), (15, S y10.1), (16, pt p6 2)] (by kernel_rfl) fun b => ?_
  refine L_op rfl (O_store [I y8.1, I y9.1, S y10.1] (hst.pull 1) rfl rfl (by kernel_rfl) fun w hst => ?_)
  refine wpL_nil ?_
  refine th_n ?_
  obtain ⟨y11, hy11, hk2⟩ := bnd hr
  clear hr
  refine wp_seq_cut (fun a w => ∃ (b : Nat → Value), a = mkF 21 b [(2, pt p4 0), (3, .bool y11.1)] ∧ St G w (blk p4 (cl [I y8.1, I y9.1, S y10.1] 48) :: blk p5 (cl [S y10.2.1, I y11.2] 124) :: blk p6 (cl [I y8.1, I y9.1, S y10.1] 48) :: F)) ?_ ?_
  · rintro _ w ⟨b, rfl, hst⟩
    have hr := hk2
    refine wp_ret ?_
    refine retCT (v := .agg #[I y8.1, I y9.1, S y10.1]) (p := p4) (off := 0) (cs := [I y8.1, I y9.1, S y10.1]) (T' := 48) rfl rfl hst (by kernel_rfl) rfl ?_
    obtain rfl := Option.some.inj hr
    have hst := (hst.cut 0 3)
    exact hR _ hst
  · have hr := hy11
    refine wp_regG SA rfl ?_
    have hst := hst.draw (n := w.drawn + 1)
    generalize { w with drawn := w.drawn + 1 } = w at hst ⊢
    refine A_take (i := 1) (v := pt p5 0) rfl (by kernel_rfl) (fun _ _ _ h => h) rfl rfl rfl (fun _ => R_pure (by kernel_rfl)) ?_
    refine A_all [0, 2] (by kernel_rfl) ⟨⟨_, rfl, rfl, ?_⟩, ⟨_, rfl, rfl, ?_⟩, trivial⟩
    · refine O_run (v := .agg #[I y8.1, I y9.1, S y10.1]) (w' := w) (R_load hst rfl rfl) rfl rfl ?_
      refine A_all [2] (by kernel_rfl) ⟨⟨_, rfl, rfl, ?_⟩, trivial⟩
      obtain ⟨y12, hy12, hr⟩ := bnd hr
      refine O_call (vs := #[pt p5 0]) Tryz.call53 (by kernel_rfl) ?_
      refine (wire_Dec_Done_ok k (T_wire_Dec.mk y10.2.1 y10.2.2) p5 y12 (hst.pull 1) hy12 fun w hst => ?_)
      refine CK_ret rfl ?_
      refine A_take (i := 3) (v := .bool (y12 == 0)) rfl (by kernel_rfl) (fun _ _ _ h => h) rfl rfl rfl (fun _ => R_pure (by kernel_rfl)) ?_
      refine A_all [4] (by kernel_rfl) ⟨⟨_, rfl, rfl, ?_⟩, trivial⟩
      refine O_store [I y8.1, I y9.1, S y10.1] (hst.pull 2) rfl rfl (by kernel_rfl) fun w hst => ?_
      refine A_take (i := 5) (v := .bool (y12 == 0)) rfl (by kernel_rfl) (fun _ _ _ h => h) rfl rfl rfl (fun _ => R_pure (by kernel_rfl)) ?_
      refine wpG_done (by kernel_rfl) ?_ _
      refine C_keepQ [(2, pt p4 0), (3, .bool (y12 == 0))] rfl fun b => ?_
      refine th_n ?_
      obtain rfl := Option.some.inj hr
      have hst := (((hst.pull 2).pull 2).pull 2)
      exact (kpX [(2, pt p4 0), (3, .bool (y12 == 0))] rfl hst)
    · obtain ⟨y12, hy12, hr⟩ := bnd hr
      refine O_call (vs := #[pt p5 0]) Tryz.call53 (by kernel_rfl) ?_
      refine (wire_Dec_Done_ok k (T_wire_Dec.mk y10.2.1 y10.2.2) p5 y12 (hst.pull 1) hy12 fun w hst => ?_)
      refine CK_ret rfl ?_
      refine A_take (i := 3) (v := .bool (y12 == 0)) rfl (by kernel_rfl) (fun _ _ _ h => h) rfl rfl rfl (fun _ => R_pure (by kernel_rfl)) ?_
      refine A_all [0] (by kernel_rfl) ⟨⟨_, rfl, rfl, ?_⟩, trivial⟩
      refine O_run (v := .agg #[I y8.1, I y9.1, S y10.1]) (w' := w) (R_load (hst.pull 1) rfl rfl) rfl rfl ?_
      refine A_all [4] (by kernel_rfl) ⟨⟨_, rfl, rfl, ?_⟩, trivial⟩
      refine O_store [I y8.1, I y9.1, S y10.1] (hst.pull 2) rfl rfl (by kernel_rfl) fun w hst => ?_
      refine A_take (i := 5) (v := .bool (y12 == 0)) rfl (by kernel_rfl) (fun _ _ _ h => h) rfl rfl rfl (fun _ => R_pure (by kernel_rfl)) ?_
      refine wpG_done (by kernel_rfl) ?_ _
      refine C_keepQ [(2, pt p4 0), (3, .bool (y12 == 0))] rfl fun b => ?_
      refine th_n ?_
      obtain rfl := Option.some.inj hr
      have hst := (((hst.pull 2).pull 2).pull 2)
      exact (kpX [(2, pt p4 0), (3, .bool (y12 == 0))] rfl hst)
def term_Load_l1 (k : Nat) (y29 : (Int × (List UInt8) × Int × Int × Int × (List UInt8))) (y37 : ((List (List UInt8)) × Int)) (z4 : Int × Int × (List ((List UInt8) × (Option T_platter_file)))) : Nat → Int → (List T_term_Entry) → Option (Flow ((List T_term_Entry) × T_term_State × Int × Int × Int × (List ((List UInt8) × (Option T_platter_file)))) ((List T_term_Entry)))
  | 0, _, _ => none
  | j + 1, v7, v8 => (if decide (v7 < (y37.1.length : Int)) = true then (Option.bind (Option.bind (gt y37.1 v7) fun x9 => (Option.bind (term_parse k x9) fun y42 => (if (!y42.2) = true then some (Flow.ret ([], (T_term_State.mk 0 0 0 0 ([]) ([])), (3 : Int), z4.1, z4.2.1, z4.2.2)) else (if (y42.1.Index == (IntKind.i64.wrap ((IntKind.i64.wrap (y29.2.2.2.1 + (v8.length : Int))) + 1))) = true then (if room (v8.length + ([y42.1]).length) 32 = true then some (Flow.go ((v8 ++ ([y42.1])))) else none) else some (Flow.go (v8)))))) fun y41 => (match y41 with | Flow.ret r => some (Flow.ret r) | Flow.go z6 => (term_Load_l1 k y29 y37 z4 j (IntKind.i64.wrap (v7 + 1)) z6))) else some (Flow.go (v8)))
def term_Load (k : Nat) (x1 : Int) (x2 : Int) (x3 : Bool) (x4 : Int) (x5 : (List ((List UInt8) × (Option T_platter_file)))) : Option ((List T_term_Entry) × T_term_State × Int × Int × Int × (List ((List UInt8) × (Option T_platter_file)))) := (Option.bind (term_read k x1 x2 x3 x4 x5 ([116, 101, 114, 109])) fun y22 => (Option.bind (if (y22.2.2.1 == 0) = true then (Option.bind (wire_Dec_I k (T_wire_Dec.mk y22.1 y22.2.1) 1099511627776) fun y24 => (Option.bind (wire_Dec_I k (T_wire_Dec.mk y24.2.1 y24.2.2) 5) fun y25 => (Option.bind (wire_Dec_Done k (T_wire_Dec.mk y25.2.1 y25.2.2)) fun y26 => some (y26, y25.2.1, y26, y24.1, y25.1)))) else some (y22.2.2.1, y22.1, y22.2.1, (0 : Int), (0 : Int))) fun y23 => (Option.bind (if (y23.1 != 0) = true then some ((y23.1 != 5)) else some (false)) fun y27 => (if y27 = true then some ([], (T_term_State.mk 0 0 0 0 ([]) ([])), y23.1, x2, y22.2.2.2, x5) else (Option.bind (term_read k x1 x2 x3 y22.2.2.2 x5 ([115, 110, 97, 112])) fun y28 => (Option.bind (if (y28.2.2.1 == 0) = true then (Option.bind (wire_Dec_I k (T_wire_Dec.mk y28.1 y28.2.1) 1099511627776) fun y30 => (Option.bind (wire_Dec_I k (T_wire_Dec.mk y30.2.1 y30.2.2) 1099511627776) fun y31 => (Option.bind (wire_Dec_S k (T_wire_Dec.mk y31.2.1 y31.2.2) 1000000) fun y32 => (Option.bind (wire_Dec_Done k (T_wire_Dec.mk y32.2.1 y32.2.2)) fun y33 => some (y33, y32.2.1, y33, y30.1, y31.1, y32.1))))) else some (y28.2.2.1, y28.1, y28.2.1, (0 : Int), (0 : Int), [])) fun y29 => (Option.bind (if (y29.1 != 0) = true then some ((y29.1 != 5)) else some (false)) fun y34 => (if y34 = true then some ([], (T_term_State.mk 0 0 0 0 ([]) ([])), y29.1, x2, y28.2.2.2, x5) else (Option.bind (platter_Disk_Read k x1 x2 x3 y28.2.2.2 x5 ([108, 111, 103])) fun y35 => (Option.bind (if (y35.2.1 != 0) = true then some ((y35.2.1 != 5)) else some (false)) fun y36 => (if y36 = true then some ([], (T_term_State.mk 0 0 0 0 ([]) ([])), y35.2.1, x2, y35.2.2, x5) else (Option.bind (seal_Scan k y35.1) fun y37 => (Option.bind (if decide (y37.2 < (y35.1.length : Int)) = true then (Option.bind (sl y35.1 0 y37.2) fun x8 => (Option.bind (term_keep k x1 x2 x3 y35.2.2 x5 ([108, 111, 103]) x8) fun y39 => (if (y39.1 != 0) = true then some (Flow.ret ([], (T_term_State.mk 0 0 0 0 ([]) ([])), y39.1, y39.2.1, y39.2.2.1, y39.2.2.2)) else some (Flow.go (y39.2.1, y39.2.2.1, y39.2.2.2))))) else some (Flow.go (x2, y35.2.2, x5))) fun y38 => (match y38 with | Flow.ret r => some r | Flow.go z4 => (Option.bind (term_Load_l1 k y29 y37 z4 k (0 : Int) ([])) fun y40 => (match y40 with | Flow.ret r => some r | Flow.go z5 => some (z5, (T_term_State.mk y23.2.2.2.1 y23.2.2.2.2 y29.2.2.2.1 y29.2.2.2.2.1 y29.2.2.2.2.2 z5), (0 : Int), z4.1, z4.2.1, z4.2.2)))))))))))))))))
set_option maxRecDepth 100000 in
set_option maxHeartbeats 4000000 in
theorem term_Load_ok {G w : World} {F : List HP} {R : Ending → World → Prop} (k : Nat) (x1 : Int) (x2 : Int) (x3 : Bool) (x4 : Int) (x5 : (List ((List UInt8) × (Option T_platter_file)))) (p1 : Nat) (p2 : Nat) (r : ((List T_term_Entry) × T_term_State × Int × Int × Int × (List ((List UInt8) × (Option T_platter_file))))) (hst : St G w (blk p1 (cl [I x1, I x2, .bool x3, I x4, .map (some p2)] 79) :: mpr S (rPt r_T_platter_file) p2 x5 :: F)) (hr : term_Load k x1 x2 x3 x4 x5 = some r)
    (hR : ∀ (a7 : Option Addr) (c7 : Nat) w', St G w' (osl r_T_term_Entry 48 a7 c7 r.1 :: blk p1 (cl [I x1, I r.2.2.2.1, .bool x3, I r.2.2.2.2.1, .map (some p2)] 79) :: mpr S (rPt r_T_platter_file) p2 r.2.2.2.2.2 :: F) → R (.returned (.tuple #[.agg #[I r.2.1.Term, I r.2.1.Vote, I r.2.1.Base, I r.2.1.BaseTerm, S r.2.1.Snap, .slice a7 r.1.length c7], I r.2.2.1])) w') :
    Calls Tryz.prog 35 #[pt p1 0] w R := by
  unfold term_Load at hr
  refine enter Tryz.func35 rfl [(0, pt p1 0)] rfl rfl fun b => ?_
  refine wp_seq ?_
  refine wp_reg ?_
  refine L_op rfl (O_alloc (i := Tryz.t45) (z := .agg #[I 0, I 0, I 0, I 0, S ([]), .slice none 0 0]) [I 0, I 0, I 0, I 0, S ([]), .slice none 0 0] hst rfl rfl rfl rfl fun p9 w hst => ?_)
  refine L_pure 1 [(0, pt p1 0), (2, pt p9 0)] (by kernel_rfl) fun b => ?_
  refine wpL_nil ?_
  refine th_n ?_
  refine wp_seq ?_
  refine wp_reg ?_
  refine L_op rfl (O_alloc (i := Tryz.t45) (z := .agg #[I 0, I 0, I 0, I 0, S ([]), .slice none 0 0]) [I 0, I 0, I 0, I 0, S ([]), .slice none 0 0] hst rfl rfl rfl rfl fun p10 w hst => ?_)
  refine wpL_nil ?_
  refine th_n ?_
  refine wp_seq ?_
  refine wp_reg ?_
  refine L_pure 1 [(0, pt p1 0), (2, pt p9 0), (4, pt p10 0), (16, pt p1 0)] (by kernel_rfl) fun b => ?_
  obtain ⟨y22, hy22, hr⟩ := bnd hr
  refine L_op rfl (O_call (vs := #[pt p1 0, S ([116, 101, 114, 109])]) Tryz.call51 (by kernel_rfl) (term_read_ok k x1 x2 x3 x4 x5 ([116, 101, 114, 109]) p1 p2 y22 ((hst.pull 3).pull 3) hy22 fun p11 w hst => ?_))
  refine CK_ret rfl ?_
  refine L_pure 5 [(0, pt p1 0), (2, pt p9 0), (4, pt p10 0), (5, pt p11 0), (6, I y22.2.2.1)] (by kernel_rfl) fun b => ?_
  refine wpL_nil ?_
  refine th_n ?_
  obtain ⟨y23, hy23, hk9⟩ := bnd hr
  clear hr
  refine wp_seq_cut (fun a w => ∃ (b : Nat → Value), a = mkF 127 b [(0, pt p1 0), (2, pt p9 0), (4, pt p10 0), (6, I y23.1)] ∧ St G w (blk p11 (cl [S y23.2.1, I y23.2.2.1] 124) :: blk p10 (cl [I y23.2.2.2.1, I y23.2.2.2.2, I 0, I 0, S ([]), .slice none 0 0] 45) :: blk p1 (cl [I x1, I x2, .bool x3, I y22.2.2.2, .map (some p2)] 79) :: mpr S (rPt r_T_platter_file) p2 x5 :: blk p9 (cl [I 0, I 0, I 0, I 0, S ([]), .slice none 0 0] 45) :: F)) ?_ ?_
  · rintro _ w ⟨b, rfl, hst⟩
    have hr := hk9
    refine wp_seq ?_
    obtain ⟨y27, hy27, hk10⟩ := bnd hr
    clear hr
    refine wp_seq_cut (fun a w => ∃ (b : Nat → Value), a = mkF 127 b [(0, pt p1 0), (2, pt p9 0), (4, pt p10 0), (6, I y23.1), (35, .bool y27)] ∧ St G w (blk p11 (cl [S y23.2.1, I y23.2.2.1] 124) :: blk p10 (cl [I y23.2.2.2.1, I y23.2.2.2.2, I 0, I 0, S ([]), .slice none 0 0] 45) :: blk p1 (cl [I x1, I x2, .bool x3, I y22.2.2.2, .map (some p2)] 79) :: mpr S (rPt r_T_platter_file) p2 x5 :: blk p9 (cl [I 0, I 0, I 0, I 0, S ([]), .slice none 0 0] 45) :: F)) ?_ ?_
    · rintro _ w ⟨b, rfl, hst⟩
      have hr := hk10
      refine wp_cond_mkF (t := y27) rfl (fun h => ?_) (fun h => ?_)
      · have hr := (if_pos h).symm.trans hr
        refine wp_seq ?_
        refine wp_reg ?_
        refine L_pure 2 [(2, pt p9 0), (36, .agg #[I 0, I 0, I 0, I 0, S ([]), .slice none 0 0]), (37, I y23.1)] (by kernel_rfl) fun b => ?_
        refine L_op rfl (O_store [I 0, I 0, I 0, I 0, S ([]), .slice none 0 0] (hst.pull 4) rfl rfl (by kernel_rfl) fun w hst => ?_)
        refine L_pure 1 [(2, pt p9 0), (3, I y23.1)] (by kernel_rfl) fun b => ?_
        refine wpL_nil ?_
        refine th_n ?_
        refine wp_ret ?_
        refine th_r ?_
        refine retCT (v := .agg #[I 0, I 0, I 0, I 0, S ([]), .slice none 0 0]) (p := p9) (off := 0) (cs := [I 0, I 0, I 0, I 0, S ([]), .slice none 0 0]) (T' := 45) rfl rfl hst (by kernel_rfl) rfl ?_
        obtain rfl := Option.some.inj hr
        have hst := osl_nil r_T_term_Entry 48 hst
        have hst := ((((hst.pull 5).pull 5).pull 2).cut 3 3)
        exact hR none 0 _ hst
      · have hr := (if_neg (by rw [h]; exact Bool.false_ne_true)).symm.trans hr
        refine wp_skip ?_
        refine th_n ?_
        refine wp_seq ?_
        refine wp_reg ?_
        refine L_pure 1 [(0, pt p1 0), (2, pt p9 0), (4, pt p10 0), (39, pt p1 0)] (by kernel_rfl) fun b => ?_
        obtain ⟨y28, hy28, hr⟩ := bnd hr
        refine L_op rfl (O_call (vs := #[pt p1 0, S ([115, 110, 97, 112])]) Tryz.call51 (by kernel_rfl) (term_read_ok k x1 x2 x3 y22.2.2.2 x5 ([115, 110, 97, 112]) p1 p2 y28 ((hst.pull 3).pull 3) hy28 fun p12 w hst => ?_))
        refine CK_ret rfl ?_
        refine L_pure 5 [(0, pt p1 0), (2, pt p9 0), (4, pt p10 0), (5, pt p12 0), (6, I y28.2.2.1)] (by kernel_rfl) fun b => ?_
        refine wpL_nil ?_
        refine th_n ?_
        obtain ⟨y29, hy29, hk11⟩ := bnd hr
        clear hr
        refine wp_seq_cut (fun a w => ∃ (b : Nat → Value), a = mkF 127 b [(0, pt p1 0), (2, pt p9 0), (4, pt p10 0), (6, I y29.1)] ∧ St G w (blk p12 (cl [S y29.2.1, I y29.2.2.1] 124) :: blk p10 (cl [I y23.2.2.2.1, I y23.2.2.2.2, I y29.2.2.2.1, I y29.2.2.2.2.1, S y29.2.2.2.2.2, .slice none 0 0] 45) :: blk p1 (cl [I x1, I x2, .bool x3, I y28.2.2.2, .map (some p2)] 79) :: mpr S (rPt r_T_platter_file) p2 x5 :: blk p11 (cl [S y23.2.1, I y23.2.2.1] 124) :: blk p9 (cl [I 0, I 0, I 0, I 0, S ([]), .slice none 0 0] 45) :: F)) ?_ ?_
        · rintro _ w ⟨b, rfl, hst⟩
          have hr := hk11
          refine wp_seq ?_
          obtain ⟨y34, hy34, hk12⟩ := bnd hr
          clear hr
          refine wp_seq_cut (fun a w => ∃ (b : Nat → Value), a = mkF 127 b [(0, pt p1 0), (2, pt p9 0), (4, pt p10 0), (6, I y29.1), (61, .bool y34)] ∧ St G w (blk p12 (cl [S y29.2.1, I y29.2.2.1] 124) :: blk p10 (cl [I y23.2.2.2.1, I y23.2.2.2.2, I y29.2.2.2.1, I y29.2.2.2.2.1, S y29.2.2.2.2.2, .slice none 0 0] 45) :: blk p1 (cl [I x1, I x2, .bool x3, I y28.2.2.2, .map (some p2)] 79) :: mpr S (rPt r_T_platter_file) p2 x5 :: blk p11 (cl [S y23.2.1, I y23.2.2.1] 124) :: blk p9 (cl [I 0, I 0, I 0, I 0, S ([]), .slice none 0 0] 45) :: F)) ?_ ?_
          · rintro _ w ⟨b, rfl, hst⟩
            have hr := hk12
            refine wp_cond_mkF (t := y34) rfl (fun h => ?_) (fun h => ?_)
            · have hr := (if_pos h).symm.trans hr
              refine wp_seq ?_
              refine wp_reg ?_
              refine L_pure 2 [(2, pt p9 0), (62, .agg #[I 0, I 0, I 0, I 0, S ([]), .slice none 0 0]), (63, I y29.1)] (by kernel_rfl) fun b => ?_
              refine L_op rfl (O_store [I 0, I 0, I 0, I 0, S ([]), .slice none 0 0] (hst.pull 5) rfl rfl (by kernel_rfl) fun w hst => ?_)
              refine L_pure 1 [(2, pt p9 0), (3, I y29.1)] (by kernel_rfl) fun b => ?_
              refine wpL_nil ?_
              refine th_n ?_
              refine wp_ret ?_
              refine th_r ?_
              refine retCT (v := .agg #[I 0, I 0, I 0, I 0, S ([]), .slice none 0 0]) (p := p9) (off := 0) (cs := [I 0, I 0, I 0, I 0, S ([]), .slice none 0 0]) (T' := 45) rfl rfl hst (by kernel_rfl) rfl ?_
              obtain rfl := Option.some.inj hr
              have hst := osl_nil r_T_term_Entry 48 hst
              have hst := ((((hst.pull 5).pull 5).pull 2).cut 3 4)
              exact hR none 0 _ hst
            · have hr := (if_neg (by rw [h]; exact Bool.false_ne_true)).symm.trans hr
              refine wp_skip ?_
              refine th_n ?_
              refine wp_seq ?_
              refine wp_reg ?_
              refine L_pure 1 [(0, pt p1 0), (2, pt p9 0), (4, pt p10 0), (65, pt p1 0)] (by kernel_rfl) fun b => ?_
              obtain ⟨y35, hy35, hr⟩ := bnd hr
              refine L_op rfl (O_call (vs := #[pt p1 0, S ([108, 111, 103])]) Tryz.call55 (by kernel_rfl) (platter_Disk_Read_ok k x1 x2 x3 y28.2.2.2 x5 ([108, 111, 103]) p1 p2 y35 ((hst.pull 3).pull 3) hy35 fun w hst => ?_))
              refine CK_ret rfl ?_
              refine L_pure 5 [(0, pt p1 0), (2, pt p9 0), (4, pt p10 0), (6, I y35.2.1), (7, S y35.1)] (by kernel_rfl) fun b => ?_
              refine wpL_nil ?_
              refine th_n ?_
              refine wp_seq ?_
              obtain ⟨y36, hy36, hk13⟩ := bnd hr
              clear hr
              refine wp_seq_cut (fun a w => ∃ (b : Nat → Value), a = mkF 127 b [(0, pt p1 0), (2, pt p9 0), (4, pt p10 0), (6, I y35.2.1), (7, S y35.1), (74, .bool y36)] ∧ St G w (blk p1 (cl [I x1, I x2, .bool x3, I y35.2.2, .map (some p2)] 79) :: mpr S (rPt r_T_platter_file) p2 x5 :: blk p12 (cl [S y29.2.1, I y29.2.2.1] 124) :: blk p10 (cl [I y23.2.2.2.1, I y23.2.2.2.2, I y29.2.2.2.1, I y29.2.2.2.2.1, S y29.2.2.2.2.2, .slice none 0 0] 45) :: blk p11 (cl [S y23.2.1, I y23.2.2.1] 124) :: blk p9 (cl [I 0, I 0, I 0, I 0, S ([]), .slice none 0 0] 45) :: F)) ?_ ?_
              · rintro _ w ⟨b, rfl, hst⟩
                have hr := hk13
                refine wp_cond_mkF (t := y36) rfl (fun h => ?_) (fun h => ?_)
                · have hr := (if_pos h).symm.trans hr
                  refine wp_seq ?_
                  refine wp_reg ?_
                  refine L_pure 2 [(2, pt p9 0), (75, .agg #[I 0, I 0, I 0, I 0, S ([]), .slice none 0 0]), (76, I y35.2.1)] (by kernel_rfl) fun b => ?_
                  refine L_op rfl (O_store [I 0, I 0, I 0, I 0, S ([]), .slice none 0 0] (hst.pull 5) rfl rfl (by kernel_rfl) fun w hst => ?_)
                  refine L_pure 1 [(2, pt p9 0), (3, I y35.2.1)] (by kernel_rfl) fun b => ?_
                  refine wpL_nil ?_
                  refine th_n ?_
                  refine wp_ret ?_
                  refine th_r ?_
                  refine retCT (v := .agg #[I 0, I 0, I 0, I 0, S ([]), .slice none 0 0]) (p := p9) (off := 0) (cs := [I 0, I 0, I 0, I 0, S ([]), .slice none 0 0]) (T' := 45) rfl rfl hst (by kernel_rfl) rfl ?_
                  obtain rfl := Option.some.inj hr
                  have hst := osl_nil r_T_term_Entry 48 hst
                  have hst := ((((hst.pull 3).pull 3).pull 2).cut 3 4)
                  exact hR none 0 _ hst
                · have hr := (if_neg (by rw [h]; exact Bool.false_ne_true)).symm.trans hr
                  refine wp_skip ?_
                  refine th_n ?_
                  refine wp_seq ?_
                  refine wp_reg ?_
                  refine L_pure 1 [(0, pt p1 0), (2, pt p9 0), (4, pt p10 0), (7, S y35.1), (78, S y35.1)] (by kernel_rfl) fun b => ?_
                  obtain ⟨y37, hy37, hr⟩ := bnd hr
                  refine L_op rfl (O_call (vs := #[S y35.1]) Tryz.call56 (by kernel_rfl) (seal_Scan_ok k y35.1 y37 hst hy37 fun a8 c8 w hst => ?_))
                  refine CK_ret rfl ?_
                  refine L_pure 5 [(0, pt p1 0), (2, pt p9 0), (4, pt p10 0), (7, S y35.1), (8, .slice a8 y37.1.length c8), (9, I y37.2)] (by kernel_rfl) fun b => ?_
                  refine wpL_nil ?_
                  refine th_n ?_
                  obtain ⟨y38, hy38, hk14⟩ := bnd hr
                  clear hr
                  refine wp_seq_cut (fun a w => ∃ (z4 : Int × Int × (List ((List UInt8) × (Option T_platter_file)))) (b : Nat → Value), y38 = .go z4 ∧ a = mkF 127 b [(2, pt p9 0), (4, pt p10 0), (8, .slice a8 y37.1.length c8)] ∧ St G w (blk p1 (cl [I x1, I z4.1, .bool x3, I z4.2.1, .map (some p2)] 79) :: mpr S (rPt r_T_platter_file) p2 z4.2.2 :: osl rS 9 a8 c8 y37.1 :: blk p12 (cl [S y29.2.1, I y29.2.2.1] 124) :: blk p10 (cl [I y23.2.2.2.1, I y23.2.2.2.2, I y29.2.2.2.1, I y29.2.2.2.2.1, S y29.2.2.2.2.2, .slice none 0 0] 45) :: blk p11 (cl [S y23.2.1, I y23.2.2.1] 124) :: blk p9 (cl [I 0, I 0, I 0, I 0, S ([]), .slice none 0 0] 45) :: F)) ?_ ?_
                  · rintro _ w ⟨z4, b, rfl, rfl, hst⟩
                    have hr := hk14
                    refine wp_seq ?_
                    refine wp_seq ?_
                    refine wp_reg ?_
                    refine L_pure 3 [(2, pt p9 0), (4, pt p10 0), (95, .slice a8 y37.1.length c8), (96, I (y37.1.length : Int)), (97, I 0)] (by kernel_rfl) fun b => ?_
                    refine wpL_nil ?_
                    refine th_n ?_
                    obtain ⟨y40, hy40, hk15⟩ := bnd hr
                    clear hr
                    refine Go.Hx.wp_cut (fun a w => ∃ (z5 : (List T_term_Entry)) (a11 : Option Addr) (c11 : Nat)(b : Nat → Value), y40 = .go z5 ∧ a = mkF 127 b [(2, pt p9 0), (4, pt p10 0)] ∧ St G w (osl r_T_term_Entry 48 a11 c11 z5 :: blk p1 (cl [I x1, I z4.1, .bool x3, I z4.2.1, .map (some p2)] 79) :: mpr S (rPt r_T_platter_file) p2 z4.2.2 :: osl rS 9 a8 c8 y37.1 :: blk p12 (cl [S y29.2.1, I y29.2.2.1] 124) :: blk p10 (cl [I y23.2.2.2.1, I y23.2.2.2.2, I y29.2.2.2.1, I y29.2.2.2.2.1, S y29.2.2.2.2.2, .slice a11 z5.length c11] 45) :: blk p11 (cl [S y23.2.1, I y23.2.2.1] 124) :: blk p9 (cl [I 0, I 0, I 0, I 0, S ([]), .slice none 0 0] 45) :: F)) ?_ ?_
                    · rintro _ w ⟨z5, a11, c11, b, rfl, rfl, hst⟩
                      have hr := hk15
                      refine th_n ?_
                      refine wp_seq ?_
                      refine wp_reg ?_
                      refine L_op rfl (O_run (v := .agg #[I y23.2.2.2.1, I y23.2.2.2.2, I y29.2.2.2.1, I y29.2.2.2.2.1, S y29.2.2.2.2.2, .slice a11 z5.length c11]) (w' := w) (R_load (hst.pull 5) rfl rfl) rfl rfl ?_)
                      refine L_op rfl (O_store [I y23.2.2.2.1, I y23.2.2.2.2, I y29.2.2.2.1, I y29.2.2.2.2.1, S y29.2.2.2.2.2, .slice a11 z5.length c11] (hst.pull 7) rfl rfl (by kernel_rfl) fun w hst => ?_)
                      refine L_pure 1 [(2, pt p9 0), (3, I 0)] (by kernel_rfl) fun b => ?_
                      refine wpL_nil ?_
                      refine th_n ?_
                      refine wp_ret ?_
                      refine retCT (v := .agg #[I y23.2.2.2.1, I y23.2.2.2.2, I y29.2.2.2.1, I y29.2.2.2.2.1, S y29.2.2.2.2.2, .slice a11 z5.length c11]) (p := p9) (off := 0) (cs := [I y23.2.2.2.1, I y23.2.2.2.2, I y29.2.2.2.1, I y29.2.2.2.2.1, S y29.2.2.2.2.2, .slice a11 z5.length c11]) (T' := 45) rfl rfl hst (by kernel_rfl) rfl ?_
                      obtain rfl := Option.some.inj hr
                      have hst := ((((hst.pull 3).pull 3).pull 3).cut 3 5)
                      exact hR a11 c11 _ hst
                    · have hst := osl_nil r_T_term_Entry 48 hst
                      have hst := ((((((((hst.pull 7).pull 7).pull 7).pull 7).pull 7).pull 7).pull 7).pull 7)
                      refine wp_block ?_
                      refine wp_loop_fuel (fun j a w => ∃ (v7 : Int) (v8 : (List T_term_Entry)) (a9 : Option Addr) (c9 : Nat) (b : Nat → Value), a = mkF 127 b [(2, pt p9 0), (4, pt p10 0), (95, .slice a8 y37.1.length c8), (96, I (y37.1.length : Int)), (97, I v7)] ∧ St G w (osl r_T_term_Entry 48 a9 c9 v8 :: blk p1 (cl [I x1, I z4.1, .bool x3, I z4.2.1, .map (some p2)] 79) :: mpr S (rPt r_T_platter_file) p2 z4.2.2 :: osl rS 9 a8 c8 y37.1 :: blk p12 (cl [S y29.2.1, I y29.2.2.1] 124) :: blk p10 (cl [I y23.2.2.2.1, I y23.2.2.2.2, I y29.2.2.2.1, I y29.2.2.2.2.1, S y29.2.2.2.2.2, .slice a9 v8.length c9] 45) :: blk p11 (cl [S y23.2.1, I y23.2.2.1] 124) :: blk p9 (cl [I 0, I 0, I 0, I 0, S ([]), .slice none 0 0] 45) :: F) ∧ term_Load_l1 k y29 y37 z4 j v7 v8 = some y40) (k := k) ⟨(0 : Int), [], none, 0, (kpX [(2, pt p9 0), (4, pt p10 0), (95, .slice a8 y37.1.length c8), (96, I (y37.1.length : Int)), (97, I 0)] rfl ⟨hst, hy40⟩)⟩ ?_ ?_
                      · rintro _ _ ⟨_, _, _, _, _, _, _, h⟩
                        rw [term_Load_l1] at h
                        cases h
                      · rintro j _ w ⟨v7, v8, a9, c9, b, rfl, hst, hr⟩
                        rw [term_Load_l1] at hr
                        refine wp_seq ?_
                        refine wp_reg ?_
                        refine L_pure 1 [(2, pt p9 0), (4, pt p10 0), (95, .slice a8 y37.1.length c8), (96, I (y37.1.length : Int)), (97, I v7), (98, .bool (decide (v7 < (y37.1.length : Int))))] (by kernel_rfl) fun b => ?_
                        refine wpL_nil ?_
                        refine th_n ?_
                        refine wp_seq ?_
                        refine wp_cond_mkF (t := decide (v7 < (y37.1.length : Int))) rfl (fun h => ?_) (fun h => ?_)
                        · have hr := (if_pos h).symm.trans hr
                          refine wp_skip ?_
                          refine th_n ?_
                          obtain ⟨y41, hy41, hk16⟩ := bnd hr
                          clear hr
                          refine wp_seq_cut (fun a w => ∃ (z6 : (List T_term_Entry)) (a12 : Option Addr) (c12 : Nat)(b : Nat → Value), y41 = .go z6 ∧ a = mkF 127 b [(2, pt p9 0), (4, pt p10 0), (95, .slice a8 y37.1.length c8), (96, I (y37.1.length : Int)), (97, I v7)] ∧ St G w (osl r_T_term_Entry 48 a12 c12 z6 :: blk p10 (cl [I y23.2.2.2.1, I y23.2.2.2.2, I y29.2.2.2.1, I y29.2.2.2.2.1, S y29.2.2.2.2.2, .slice a12 z6.length c12] 45) :: osl rS 9 a8 c8 y37.1 :: blk p1 (cl [I x1, I z4.1, .bool x3, I z4.2.1, .map (some p2)] 79) :: mpr S (rPt r_T_platter_file) p2 z4.2.2 :: blk p12 (cl [S y29.2.1, I y29.2.2.1] 124) :: blk p11 (cl [S y23.2.1, I y23.2.2.1] 124) :: blk p9 (cl [I 0, I 0, I 0, I 0, S ([]), .slice none 0 0] 45) :: F)) ?_ ?_
                          · rintro _ w ⟨z6, a12, c12, b, rfl, rfl, hst⟩
                            have hr := hk16
                            refine wp_reg ?_
                            refine L_pure 2 [(2, pt p9 0), (4, pt p10 0), (95, .slice a8 y37.1.length c8), (96, I (y37.1.length : Int)), (97, I (IntKind.i64.wrap (v7 + 1)))] (by kernel_rfl) fun b => ?_
                            refine wpL_nil ?_
                            refine th_n ?_
                            have hst := ((((((((hst.pull 7).pull 7).pull 3).pull 7).pull 5).pull 7).pull 7).pull 7)
                            exact ⟨(IntKind.i64.wrap (v7 + 1)), z6, a12, c12, (kpX [(2, pt p9 0), (4, pt p10 0), (95, .slice a8 y37.1.length c8), (96, I (y37.1.length : Int)), (97, I (IntKind.i64.wrap (v7 + 1)))] rfl ⟨hst, hr⟩)⟩
                          · have hr := hy41
                            refine wp_block ?_
                            refine wp_seq ?_
                            refine wp_reg ?_
                            obtain ⟨x9, hx4, hr⟩ := bnd hr
                            refine L_op rfl (O_run (v := pt (ab a8) (ao a8 + v7.toNat * 1)) (w' := w) (R_ia L25 rfl rfl (osl_addr (hst.pull 3) hx4) (gt_some hx4).1 (gt_some hx4).2.1) rfl rfl ?_)
                            obtain ⟨q2, hc2, hst⟩ := osl_cells (hst.pull 3) hx4
                            have hst := hst.drop
                            refine L_op rfl (O_run (v := S x9) (w' := w) (R_loadAt (off := ao a8 + v7.toNat * 1) (j := 0) hc2 rfl rfl) rfl rfl ?_)
                            refine L_pure 1 [(2, pt p9 0), (4, pt p10 0), (12, S x9), (95, .slice a8 y37.1.length c8), (96, I (y37.1.length : Int)), (97, I v7)] (by kernel_rfl) fun b => ?_
                            refine wpL_nil ?_
                            refine th_n ?_
                            refine wp_seq ?_
                            refine wp_reg ?_
                            refine L_pure 1 [(2, pt p9 0), (4, pt p10 0), (95, .slice a8 y37.1.length c8), (96, I (y37.1.length : Int)), (97, I v7), (102, S x9)] (by kernel_rfl) fun b => ?_
                            obtain ⟨y42, hy42, hr⟩ := bnd hr
                            refine L_op rfl (O_call (vs := #[S x9]) Tryz.call57 (by kernel_rfl) (term_parse_ok k x9 y42 hst hy42 fun w hst => ?_))
                            refine CK_ret rfl ?_
                            refine L_pure 3 [(2, pt p9 0), (4, pt p10 0), (95, .slice a8 y37.1.length c8), (96, I (y37.1.length : Int)), (97, I v7), (104, .agg #[I y42.1.Index, I y42.1.Term, S y42.1.Cmd]), (105, .bool y42.2)] (by kernel_rfl) fun b => ?_
                            refine L_op rfl (O_alloc (i := Tryz.t48) (z := .agg #[I 0, I 0, S ([])]) [I 0, I 0, S ([])] hst rfl rfl rfl rfl fun p13 w hst => ?_)
                            refine L_op rfl (O_store [I y42.1.Index, I y42.1.Term, S y42.1.Cmd] hst rfl rfl (by kernel_rfl) fun w hst => ?_)
                            refine L_pure 1 [(2, pt p9 0), (4, pt p10 0), (13, pt p13 0), (14, .bool y42.2), (95, .slice a8 y37.1.length c8), (96, I (y37.1.length : Int)), (97, I v7)] (by kernel_rfl) fun b => ?_
                            refine wpL_nil ?_
                            refine th_n ?_
                            refine wp_seq ?_
                            refine wp_seq ?_
                            refine wp_reg ?_
                            refine L_pure 2 [(2, pt p9 0), (4, pt p10 0), (13, pt p13 0), (95, .slice a8 y37.1.length c8), (96, I (y37.1.length : Int)), (97, I v7), (107, .bool (!y42.2))] (by kernel_rfl) fun b => ?_
                            refine wpL_nil ?_
                            refine th_n ?_
                            refine wp_cond_mkF (t := (!y42.2)) rfl (fun h => ?_) (fun h => ?_)
                            · have hr := (if_pos h).symm.trans hr
                              refine wp_seq ?_
                              refine wp_reg ?_
                              refine L_pure 1 [(2, pt p9 0), (108, .agg #[I 0, I 0, I 0, I 0, S ([]), .slice none 0 0])] (by kernel_rfl) fun b => ?_
                              refine L_op rfl (O_store [I 0, I 0, I 0, I 0, S ([]), .slice none 0 0] (hst.pull 8) rfl rfl (by kernel_rfl) fun w hst => ?_)
                              refine L_pure 1 [(2, pt p9 0), (3, I 3)] (by kernel_rfl) fun b => ?_
                              refine wpL_nil ?_
                              refine th_n ?_
                              refine wp_ret ?_
                              refine th_r (ib_r (th_r (th_r (ib_r (th_r (th_r ?_))))))
                              refine retCT (v := .agg #[I 0, I 0, I 0, I 0, S ([]), .slice none 0 0]) (p := p9) (off := 0) (cs := [I 0, I 0, I 0, I 0, S ([]), .slice none 0 0]) (T' := 45) rfl rfl hst (by kernel_rfl) rfl ?_
                              obtain rfl := Option.some.inj hr
                              obtain rfl := Option.some.inj hk16
                              obtain rfl := Option.some.inj hk15
                              have hst := osl_nil r_T_term_Entry 48 hst
                              have hst := ((((hst.pull 6).pull 6).pull 2).cut 3 7)
                              exact hR none 0 _ hst
                            · have hr := (if_neg (by rw [h]; exact Bool.false_ne_true)).symm.trans hr
                              refine wp_skip ?_
                              refine th_n ?_
                              refine wp_seq ?_
                              refine wp_reg ?_
                              refine L_pure 1 [(2, pt p9 0), (4, pt p10 0), (13, pt p13 0), (95, .slice a8 y37.1.length c8), (96, I (y37.1.length : Int)), (97, I v7), (109, pt p13 0)] (by kernel_rfl) fun b => ?_
                              refine L_op rfl (O_run (v := I y42.1.Index) (w' := w) (R_load hst rfl rfl) rfl rfl ?_)
                              refine L_pure 1 [(2, pt p9 0), (4, pt p10 0), (13, pt p13 0), (95, .slice a8 y37.1.length c8), (96, I (y37.1.length : Int)), (97, I v7), (110, I y42.1.Index), (111, pt p10 2)] (by kernel_rfl) fun b => ?_
                              refine L_op rfl (O_run (v := I y29.2.2.2.1) (w' := w) (R_load (hst.pull 6) rfl rfl) rfl rfl ?_)
                              refine L_pure 1 [(2, pt p9 0), (4, pt p10 0), (13, pt p13 0), (95, .slice a8 y37.1.length c8), (96, I (y37.1.length : Int)), (97, I v7), (110, I y42.1.Index), (112, I y29.2.2.2.1), (113, pt p10 5)] (by kernel_rfl) fun b => ?_
                              refine L_op rfl (O_run (v := .slice a9 v8.length c9) (w' := w) (R_load (hst.pull 6) rfl rfl) rfl rfl ?_)
                              refine L_pure 3 [(2, pt p9 0), (4, pt p10 0), (13, pt p13 0), (95, .slice a8 y37.1.length c8), (96, I (y37.1.length : Int)), (97, I v7), (110, I y42.1.Index), (117, I (IntKind.i64.wrap ((IntKind.i64.wrap (y29.2.2.2.1 + (v8.length : Int))) + 1)))] (by kernel_rfl) fun b => ?_
                              refine L_op rfl (O_run (v := .bool (y42.1.Index == (IntKind.i64.wrap ((IntKind.i64.wrap (y29.2.2.2.1 + (v8.length : Int))) + 1)))) (w' := w) (R_ieq rfl rfl) rfl rfl ?_)
                              refine wpL_nil ?_
                              refine th_n ?_
                              refine wp_cond_mkF (t := (y42.1.Index == (IntKind.i64.wrap ((IntKind.i64.wrap (y29.2.2.2.1 + (v8.length : Int))) + 1)))) rfl (fun h => ?_) (fun h => ?_)
                              · have hr := (if_pos h).symm.trans hr
                                refine wp_reg ?_
                                refine L_pure 1 [(2, pt p9 0), (4, pt p10 0), (13, pt p13 0), (95, .slice a8 y37.1.length c8), (96, I (y37.1.length : Int)), (97, I v7), (119, pt p10 5)] (by kernel_rfl) fun b => ?_
                                refine L_op rfl (O_run (v := .slice a9 v8.length c9) (w' := w) (R_load (hst.pull 6) rfl rfl) rfl rfl ?_)
                                refine L_op rfl (O_run (v := .agg #[I y42.1.Index, I y42.1.Term, S y42.1.Cmd]) (w' := w) (R_load hst rfl rfl) rfl rfl ?_)
                                refine L_op rfl (O_bs (T := 48) [I y42.1.Index, I y42.1.Term, S y42.1.Cmd] #[(0, .agg #[I y42.1.Index, I y42.1.Term, S y42.1.Cmd])] hst (by kernel_rfl) (by kernel_rfl) rfl fun p14 w hst => ?_)
                                have hst := osl_of_blk0 (ecs := [[I y42.1.Index, I y42.1.Term, S y42.1.Cmd]]) r_T_term_Entry [y42.1] rfl (fun m => ⟨⟨(), rfl, trivial⟩, trivial⟩) rfl hst
                                obtain ⟨hb2, hr⟩ := chk hr
                                refine L_op rfl (O_app_o L37 (hst.pull 3) rfl rfl hb2 rfl fun a13 c13 w hst => ?_)
                                refine L_pure 1 [(2, pt p9 0), (4, pt p10 0), (95, .slice a8 y37.1.length c8), (96, I (y37.1.length : Int)), (97, I v7), (123, .slice a13 (v8 ++ ([y42.1])).length c13), (124, pt p10 5)] (by kernel_rfl) fun b => ?_
                                refine L_op rfl (O_store [I y23.2.2.2.1, I y23.2.2.2.2, I y29.2.2.2.1, I y29.2.2.2.2.1, S y29.2.2.2.2.2, .slice a13 (v8 ++ ([y42.1])).length c13] (hst.pull 7) rfl rfl (by kernel_rfl) fun w hst => ?_)
                                refine wpL_nil ?_
                                refine ib_n (th_n ?_)
                                obtain rfl := Option.some.inj hr
                                have hst := (((((((((hst.pull 9).pull 9).pull 9).pull 9).pull 9).pull 9).pull 6).pull 7).cut 8 2)
                                exact ⟨((v8 ++ ([y42.1]))), a13, c13, (kpXf [(2, pt p9 0), (4, pt p10 0), (95, .slice a8 y37.1.length c8), (96, I (y37.1.length : Int)), (97, I v7)] rfl hst)⟩
                              · have hr := (if_neg (by rw [h]; exact Bool.false_ne_true)).symm.trans hr
                                refine wp_skip ?_
                                refine ib_n (th_n ?_)
                                obtain rfl := Option.some.inj hr
                                have hst := (((((((((hst.pull 8).pull 8).pull 7).pull 7).pull 7).pull 6).pull 8).pull 8).cut 8 1)
                                exact ⟨(v8), a9, c9, (kpXf [(2, pt p9 0), (4, pt p10 0), (95, .slice a8 y37.1.length c8), (96, I (y37.1.length : Int)), (97, I v7)] rfl hst)⟩
                        · have hr := (if_neg (by rw [h]; exact Bool.false_ne_true)).symm.trans hr
                          refine wp_exit ?_
                          refine th_x (th_x (ib_x (th_n ?_)))
                          obtain rfl := Option.some.inj hr
                          have hst := ((((((((hst.pull 7).pull 7).pull 7).pull 7).pull 7).pull 7).pull 7).pull 7)
                          exact ⟨(v8), a9, c9, (kpXf [(2, pt p9 0), (4, pt p10 0)] rfl hst)⟩
                  · have hr := hy38
                    refine wp_seq ?_
                    refine wp_reg ?_
                    refine L_pure 4 [(0, pt p1 0), (2, pt p9 0), (4, pt p10 0), (7, S y35.1), (8, .slice a8 y37.1.length c8), (9, I y37.2), (85, .bool (decide (y37.2 < (y35.1.length : Int))))] (by kernel_rfl) fun b => ?_
                    refine wpL_nil ?_
                    refine th_n ?_
                    refine wp_cond_mkF (t := decide (y37.2 < (y35.1.length : Int))) rfl (fun h => ?_) (fun h => ?_)
                    · have hr := (if_pos h).symm.trans hr
                      refine wp_seq ?_
                      refine wp_reg ?_
                      refine L_pure 3 [(2, pt p9 0), (4, pt p10 0), (8, .slice a8 y37.1.length c8), (86, pt p1 0), (87, S y35.1), (88, I y37.2)] (by kernel_rfl) fun b => ?_
                      obtain ⟨x8, hx3, hr⟩ := bnd hr
                      refine L_op rfl (O_run (v := S x8) (w' := w) (R_slice_s Tryz.underlying9 rfl rfl rfl hx3) rfl rfl ?_)
                      obtain ⟨y39, hy39, hr⟩ := bnd hr
                      refine L_op rfl (O_call (vs := #[pt p1 0, S ([108, 111, 103]), S x8]) Tryz.call39 (by kernel_rfl) (term_keep_ok k x1 x2 x3 y35.2.2 x5 ([108, 111, 103]) x8 p1 p2 y39 ((hst.pull 2).pull 2) hy39 fun w hst => ?_))
                      refine CK_ret rfl ?_
                      refine L_pure 1 [(2, pt p9 0), (4, pt p10 0), (8, .slice a8 y37.1.length c8), (10, I y39.1)] (by kernel_rfl) fun b => ?_
                      refine wpL_nil ?_
                      refine th_n ?_
                      refine wp_seq ?_
                      refine wp_reg ?_
                      refine L_pure 2 [(2, pt p9 0), (4, pt p10 0), (8, .slice a8 y37.1.length c8), (10, I y39.1), (92, .bool (y39.1 != 0))] (by kernel_rfl) fun b => ?_
                      refine wpL_nil ?_
                      refine th_n ?_
                      refine wp_cond_mkF (t := (y39.1 != 0)) rfl (fun h => ?_) (fun h => ?_)
                      · have hr := (if_pos h).symm.trans hr
                        refine wp_seq ?_
                        refine wp_reg ?_
                        refine L_pure 2 [(2, pt p9 0), (93, .agg #[I 0, I 0, I 0, I 0, S ([]), .slice none 0 0]), (94, I y39.1)] (by kernel_rfl) fun b => ?_
                        refine L_op rfl (O_store [I 0, I 0, I 0, I 0, S ([]), .slice none 0 0] (hst.pull 6) rfl rfl (by kernel_rfl) fun w hst => ?_)
                        refine L_pure 1 [(2, pt p9 0), (3, I y39.1)] (by kernel_rfl) fun b => ?_
                        refine wpL_nil ?_
                        refine th_n ?_
                        refine wp_ret ?_
                        refine th_r ?_
                        refine retCT (v := .agg #[I 0, I 0, I 0, I 0, S ([]), .slice none 0 0]) (p := p9) (off := 0) (cs := [I 0, I 0, I 0, I 0, S ([]), .slice none 0 0]) (T' := 45) rfl rfl hst (by kernel_rfl) rfl ?_
                        obtain rfl := Option.some.inj hr
                        obtain rfl := Option.some.inj hk14
                        have hst := osl_nil r_T_term_Entry 48 hst
                        have hst := ((((hst.pull 3).pull 3).pull 2).cut 3 5)
                        exact hR none 0 _ hst
                      · have hr := (if_neg (by rw [h]; exact Bool.false_ne_true)).symm.trans hr
                        refine wp_skip ?_
                        refine th_n ?_
                        obtain rfl := Option.some.inj hr
                        have hst := (((((((hst.pull 6).pull 6).pull 6).pull 6).pull 6).pull 6).pull 6)
                        exact ⟨(y39.2.1, y39.2.2.1, y39.2.2.2), (kpXf [(2, pt p9 0), (4, pt p10 0), (8, .slice a8 y37.1.length c8)] rfl hst)⟩
                    · have hr := (if_neg (by rw [h]; exact Bool.false_ne_true)).symm.trans hr
                      refine wp_skip ?_
                      refine th_n ?_
                      obtain rfl := Option.some.inj hr
                      have hst := (((((((hst.pull 6).pull 6).pull 6).pull 6).pull 4).pull 6).pull 6)
                      exact ⟨(x2, y35.2.2, x5), (kpXf [(2, pt p9 0), (4, pt p10 0), (8, .slice a8 y37.1.length c8)] rfl hst)⟩
              · have hr := hy36
                refine wp_reg ?_
                refine L_pure 3 [(0, pt p1 0), (2, pt p9 0), (4, pt p10 0), (6, I y35.2.1), (7, S y35.1), (71, .bool (y35.2.1 != 0))] (by kernel_rfl) fun b => ?_
                by_cases h : (y35.2.1 != 0) = true
                · have hr := (if_pos h).symm.trans hr
                  refine L_keep ((71, .bool (y35.2.1 != 0)) :: [(0, pt p1 0), (2, pt p9 0), (4, pt p10 0), (6, I y35.2.1), (7, S y35.1)]) rfl fun b => ?_
                  refine L_bool h ?_
                  refine L_pure 3 [(0, pt p1 0), (2, pt p9 0), (4, pt p10 0), (6, I y35.2.1), (7, S y35.1), (74, .bool (y35.2.1 != 5))] (by kernel_rfl) fun b => ?_
                  refine wpL_nil ?_
                  refine th_n ?_
                  obtain rfl := Option.some.inj hr
                  have hst := ((((((hst.pull 5).pull 5).pull 5).pull 5).pull 5).pull 5)
                  exact (kpX [(0, pt p1 0), (2, pt p9 0), (4, pt p10 0), (6, I y35.2.1), (7, S y35.1), (74, .bool (y35.2.1 != 5))] rfl hst)
                · have hr := (if_neg h).symm.trans hr
                  refine L_keep ((71, .bool (y35.2.1 != 0)) :: [(0, pt p1 0), (2, pt p9 0), (4, pt p10 0), (6, I y35.2.1), (7, S y35.1)]) rfl fun b => ?_
                  refine L_bool (eq_false_of_ne_true h) ?_
                  refine L_pure 3 [(0, pt p1 0), (2, pt p9 0), (4, pt p10 0), (6, I y35.2.1), (7, S y35.1), (74, .bool false)] (by kernel_rfl) fun b => ?_
                  refine wpL_nil ?_
                  refine th_n ?_
                  obtain rfl := Option.some.inj hr
                  have hst := ((((((hst.pull 5).pull 5).pull 5).pull 5).pull 5).pull 5)
                  exact (kpX [(0, pt p1 0), (2, pt p9 0), (4, pt p10 0), (6, I y35.2.1), (7, S y35.1), (74, .bool false)] rfl hst)
          · have hr := hy34
            refine wp_reg ?_
            refine L_pure 3 [(0, pt p1 0), (2, pt p9 0), (4, pt p10 0), (6, I y29.1), (58, .bool (y29.1 != 0))] (by kernel_rfl) fun b => ?_
            by_cases h : (y29.1 != 0) = true
            · have hr := (if_pos h).symm.trans hr
              refine L_keep ((58, .bool (y29.1 != 0)) :: [(0, pt p1 0), (2, pt p9 0), (4, pt p10 0), (6, I y29.1)]) rfl fun b => ?_
              refine L_bool h ?_
              refine L_pure 3 [(0, pt p1 0), (2, pt p9 0), (4, pt p10 0), (6, I y29.1), (61, .bool (y29.1 != 5))] (by kernel_rfl) fun b => ?_
              refine wpL_nil ?_
              refine th_n ?_
              obtain rfl := Option.some.inj hr
              have hst := ((((((hst.pull 5).pull 5).pull 5).pull 5).pull 5).pull 5)
              exact (kpX [(0, pt p1 0), (2, pt p9 0), (4, pt p10 0), (6, I y29.1), (61, .bool (y29.1 != 5))] rfl hst)
            · have hr := (if_neg h).symm.trans hr
              refine L_keep ((58, .bool (y29.1 != 0)) :: [(0, pt p1 0), (2, pt p9 0), (4, pt p10 0), (6, I y29.1)]) rfl fun b => ?_
              refine L_bool (eq_false_of_ne_true h) ?_
              refine L_pure 3 [(0, pt p1 0), (2, pt p9 0), (4, pt p10 0), (6, I y29.1), (61, .bool false)] (by kernel_rfl) fun b => ?_
              refine wpL_nil ?_
              refine th_n ?_
              obtain rfl := Option.some.inj hr
              have hst := ((((((hst.pull 5).pull 5).pull 5).pull 5).pull 5).pull 5)
              exact (kpX [(0, pt p1 0), (2, pt p9 0), (4, pt p10 0), (6, I y29.1), (61, .bool false)] rfl hst)
        · have hr := hy29
          refine wp_seq ?_
          refine wp_reg ?_
          refine L_pure 2 [(0, pt p1 0), (2, pt p9 0), (4, pt p10 0), (5, pt p12 0), (6, I y28.2.2.1), (44, .bool (y28.2.2.1 == 0))] (by kernel_rfl) fun b => ?_
          refine wpL_nil ?_
          refine th_n ?_
          refine wp_cond_mkF (t := (y28.2.2.1 == 0)) rfl (fun h => ?_) (fun h => ?_)
          · have hr := (if_pos h).symm.trans hr
            refine wp_seq ?_
            refine wp_reg ?_
            refine L_pure 1 [(0, pt p1 0), (2, pt p9 0), (4, pt p10 0), (5, pt p12 0), (45, pt p12 0)] (by kernel_rfl) fun b => ?_
            obtain ⟨y30, hy30, hr⟩ := bnd hr
            refine L_op rfl (O_call (vs := #[pt p12 0, I 1099511627776]) Tryz.call52 (by kernel_rfl) (wire_Dec_I_ok k (T_wire_Dec.mk y28.1 y28.2.1) 1099511627776 p12 y30 hst hy30 fun w hst => ?_))
            refine CK_ret rfl ?_
            refine L_pure 1 [(0, pt p1 0), (2, pt p9 0), (4, pt p10 0), (5, pt p12 0), (46, I y30.1), (47, pt p10 2)] (by kernel_rfl) fun b => ?_
            refine L_op rfl (O_store [I y23.2.2.2.1, I y23.2.2.2.2, I y30.1, I 0, S ([]), .slice none 0 0] (hst.pull 4) rfl rfl (by kernel_rfl) fun w hst => ?_)
            refine wpL_nil ?_
            refine th_n ?_
            refine wp_seq ?_
            refine wp_reg ?_
            refine L_pure 1 [(0, pt p1 0), (2, pt p9 0), (4, pt p10 0), (5, pt p12 0), (48, pt p12 0)] (by kernel_rfl) fun b => ?_
            obtain ⟨y31, hy31, hr⟩ := bnd hr
            refine L_op rfl (O_call (vs := #[pt p12 0, I 1099511627776]) Tryz.call52 (by kernel_rfl) (wire_Dec_I_ok k (T_wire_Dec.mk y30.2.1 y30.2.2) 1099511627776 p12 y31 (hst.pull 1) hy31 fun w hst => ?_))
            refine CK_ret rfl ?_
            refine L_pure 1 [(0, pt p1 0), (2, pt p9 0), (4, pt p10 0), (5, pt p12 0), (49, I y31.1), (50, pt p10 3)] (by kernel_rfl) fun b => ?_
            refine L_op rfl (O_store [I y23.2.2.2.1, I y23.2.2.2.2, I y30.1, I y31.1, S ([]), .slice none 0 0] (hst.pull 1) rfl rfl (by kernel_rfl) fun w hst => ?_)
            refine wpL_nil ?_
            refine th_n ?_
            refine wp_seq ?_
            refine wp_reg ?_
            refine L_pure 1 [(0, pt p1 0), (2, pt p9 0), (4, pt p10 0), (5, pt p12 0), (51, pt p12 0)] (by kernel_rfl) fun b => ?_
            obtain ⟨y32, hy32, hr⟩ := bnd hr
            refine L_op rfl (O_call (vs := #[pt p12 0, I 1000000]) Tryz.call54 (by kernel_rfl) (wire_Dec_S_ok k (T_wire_Dec.mk y31.2.1 y31.2.2) 1000000 p12 y32 (hst.pull 1) hy32 fun w hst => ?_))
            refine CK_ret rfl ?_
            refine L_pure 1 [(0, pt p1 0), (2, pt p9 0), (4, pt p10 0), (5, pt p12 0), (52, S y32.1), (53, pt p10 4)] (by kernel_rfl) fun b => ?_
            refine L_op rfl (O_store [I y23.2.2.2.1, I y23.2.2.2.2, I y30.1, I y31.1, S y32.1, .slice none 0 0] (hst.pull 1) rfl rfl (by kernel_rfl) fun w hst => ?_)
            refine wpL_nil ?_
            refine th_n ?_
            refine wp_reg ?_
            refine L_pure 1 [(0, pt p1 0), (2, pt p9 0), (4, pt p10 0), (54, pt p12 0)] (by kernel_rfl) fun b => ?_
            obtain ⟨y33, hy33, hr⟩ := bnd hr
            refine L_op rfl (O_call (vs := #[pt p12 0]) Tryz.call53 (by kernel_rfl) (wire_Dec_Done_ok k (T_wire_Dec.mk y32.2.1 y32.2.2) p12 y33 (hst.pull 1) hy33 fun w hst => ?_))
            refine CK_ret rfl ?_
            refine L_pure 1 [(0, pt p1 0), (2, pt p9 0), (4, pt p10 0), (6, I y33)] (by kernel_rfl) fun b => ?_
            refine wpL_nil ?_
            refine th_n ?_
            obtain rfl := Option.some.inj hr
            have hst := ((((((hst.pull 5).pull 5).pull 5).pull 5).pull 5).pull 5)
            exact (kpX [(0, pt p1 0), (2, pt p9 0), (4, pt p10 0), (6, I y33)] rfl hst)
          · have hr := (if_neg (by rw [h]; exact Bool.false_ne_true)).symm.trans hr
            refine wp_skip ?_
            refine th_n ?_
            obtain rfl := Option.some.inj hr
            have hst := ((((((hst.pull 5).pull 4).pull 4).pull 4).pull 5).pull 5)
            exact (kpX [(0, pt p1 0), (2, pt p9 0), (4, pt p10 0), (6, I y28.2.2.1)] rfl hst)
    · have hr := hy27
      refine wp_reg ?_
      refine L_pure 3 [(0, pt p1 0), (2, pt p9 0), (4, pt p10 0), (6, I y23.1), (32, .bool (y23.1 != 0))] (by kernel_rfl) fun b => ?_
      by_cases h : (y23.1 != 0) = true
      · have hr := (if_pos h).symm.trans hr
        refine L_keep ((32, .bool (y23.1 != 0)) :: [(0, pt p1 0), (2, pt p9 0), (4, pt p10 0), (6, I y23.1)]) rfl fun b => ?_
        refine L_bool h ?_
        refine L_pure 3 [(0, pt p1 0), (2, pt p9 0), (4, pt p10 0), (6, I y23.1), (35, .bool (y23.1 != 5))] (by kernel_rfl) fun b => ?_
        refine wpL_nil ?_
        refine th_n ?_
        obtain rfl := Option.some.inj hr
        have hst := (((((hst.pull 4).pull 4).pull 4).pull 4).pull 4)
        exact (kpX [(0, pt p1 0), (2, pt p9 0), (4, pt p10 0), (6, I y23.1), (35, .bool (y23.1 != 5))] rfl hst)
      · have hr := (if_neg h).symm.trans hr
        refine L_keep ((32, .bool (y23.1 != 0)) :: [(0, pt p1 0), (2, pt p9 0), (4, pt p10 0), (6, I y23.1)]) rfl fun b => ?_
        refine L_bool (eq_false_of_ne_true h) ?_
        refine L_pure 3 [(0, pt p1 0), (2, pt p9 0), (4, pt p10 0), (6, I y23.1), (35, .bool false)] (by kernel_rfl) fun b => ?_
        refine wpL_nil ?_
        refine th_n ?_
        obtain rfl := Option.some.inj hr
        have hst := (((((hst.pull 4).pull 4).pull 4).pull 4).pull 4)
        exact (kpX [(0, pt p1 0), (2, pt p9 0), (4, pt p10 0), (6, I y23.1), (35, .bool false)] rfl hst)
  · have hr := hy23
    refine wp_seq ?_
    refine wp_reg ?_
    refine L_pure 2 [(0, pt p1 0), (2, pt p9 0), (4, pt p10 0), (5, pt p11 0), (6, I y22.2.2.1), (21, .bool (y22.2.2.1 == 0))] (by kernel_rfl) fun b => ?_
    refine wpL_nil ?_
    refine th_n ?_
    refine wp_cond_mkF (t := (y22.2.2.1 == 0)) rfl (fun h => ?_) (fun h => ?_)
    · have hr := (if_pos h).symm.trans hr
      refine wp_seq ?_
      refine wp_reg ?_
      refine L_pure 1 [(0, pt p1 0), (2, pt p9 0), (4, pt p10 0), (5, pt p11 0), (22, pt p11 0)] (by kernel_rfl) fun b => ?_
      obtain ⟨y24, hy24, hr⟩ := bnd hr
      refine L_op rfl (O_call (vs := #[pt p11 0, I 1099511627776]) Tryz.call52 (by kernel_rfl) (wire_Dec_I_ok k (T_wire_Dec.mk y22.1 y22.2.1) 1099511627776 p11 y24 hst hy24 fun w hst => ?_))
      refine CK_ret rfl ?_
      refine L_pure 1 [(0, pt p1 0), (2, pt p9 0), (4, pt p10 0), (5, pt p11 0), (23, I y24.1), (24, pt p10 0)] (by kernel_rfl) fun b => ?_
      refine L_op rfl (O_store [I y24.1, I 0, I 0, I 0, S ([]), .slice none 0 0] (hst.pull 3) rfl rfl (by kernel_rfl) fun w hst => ?_)
      refine wpL_nil ?_
      refine th_n ?_
      refine wp_seq ?_
      refine wp_reg ?_
      refine L_pure 1 [(0, pt p1 0), (2, pt p9 0), (4, pt p10 0), (5, pt p11 0), (25, pt p11 0)] (by kernel_rfl) fun b => ?_
      obtain ⟨y25, hy25, hr⟩ := bnd hr
      refine L_op rfl (O_call (vs := #[pt p11 0, I 5]) Tryz.call52 (by kernel_rfl) (wire_Dec_I_ok k (T_wire_Dec.mk y24.2.1 y24.2.2) 5 p11 y25 (hst.pull 1) hy25 fun w hst => ?_))
      refine CK_ret rfl ?_
      refine L_pure 1 [(0, pt p1 0), (2, pt p9 0), (4, pt p10 0), (5, pt p11 0), (26, I y25.1), (27, pt p10 1)] (by kernel_rfl) fun b => ?_
      refine L_op rfl (O_store [I y24.1, I y25.1, I 0, I 0, S ([]), .slice none 0 0] (hst.pull 1) rfl rfl (by kernel_rfl) fun w hst => ?_)
      refine wpL_nil ?_
      refine th_n ?_
      refine wp_reg ?_
      refine L_pure 1 [(0, pt p1 0), (2, pt p9 0), (4, pt p10 0), (28, pt p11 0)] (by kernel_rfl) fun b => ?_
      obtain ⟨y26, hy26, hr⟩ := bnd hr
      refine L_op rfl (O_call (vs := #[pt p11 0]) Tryz.call53 (by kernel_rfl) (wire_Dec_Done_ok k (T_wire_Dec.mk y25.2.1 y25.2.2) p11 y26 (hst.pull 1) hy26 fun w hst => ?_))
      refine CK_ret rfl ?_
      refine L_pure 1 [(0, pt p1 0), (2, pt p9 0), (4, pt p10 0), (6, I y26)] (by kernel_rfl) fun b => ?_
      refine wpL_nil ?_
      refine th_n ?_
      obtain rfl := Option.some.inj hr
      have hst := (((((hst.pull 4).pull 4).pull 4).pull 4).pull 4)
      exact (kpX [(0, pt p1 0), (2, pt p9 0), (4, pt p10 0), (6, I y26)] rfl hst)
    · have hr := (if_neg (by rw [h]; exact Bool.false_ne_true)).symm.trans hr
      refine wp_skip ?_
      refine th_n ?_
      obtain rfl := Option.some.inj hr
      have hst := (((((hst.pull 4).pull 3).pull 3).pull 4).pull 4)
      exact (kpX [(0, pt p1 0), (2, pt p9 0), (4, pt p10 0), (6, I y22.2.2.1)] rfl hst)
end Go.Proofs.YtpldjopnhhbjpaaGreat
