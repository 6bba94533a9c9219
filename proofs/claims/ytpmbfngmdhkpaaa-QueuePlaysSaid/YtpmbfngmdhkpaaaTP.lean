/- TP: printed by hx.py (own work) out of the program. -/
import Derived.Test.YtpmbfngmdhkpaaaHxM
import Derived.Test.YtpmbfngmdhkpaaaChecked
namespace Go.Proofs.Ytpmbfngmdhkpaaa
open Go.Hx Go.RowKit
structure T_queue_Req where
  ID : Int
  Blob : Int
  Vol : Int
  At : Int
  deriving DecidableEq
def r_T_queue_Req : Rp T_queue_Req := ⟨Unit, 4, fun x _ => [.int .i64 x.ID, .int .u64 x.Blob, .int .i64 x.Vol, .int .i64 x.At], fun _ _ _ => True, fun _ _ _ _ _ h => h, fun _ _ => rfl, fun _ _ => rfl⟩
structure T_glacierlaw16_Act where
  Kind : Int
  N : Int
  M : Int
  R : T_queue_Req
  deriving DecidableEq
def r_T_glacierlaw16_Act : Rp T_glacierlaw16_Act := ⟨Unit, 7, fun x _ => [.int .i64 x.Kind, .int .i64 x.N, .int .i64 x.M, .int .i64 x.R.ID, .int .u64 x.R.Blob, .int .i64 x.R.Vol, .int .i64 x.R.At], fun _ _ _ => True, fun _ _ _ _ _ h => h, fun _ _ => rfl, fun _ _ => rfl⟩
structure T_glacierref16_Req where
  ID : Int
  Blob : Int
  Vol : Int
  At : Int
  Passed : Int
  deriving DecidableEq
def r_T_glacierref16_Req : Rp T_glacierref16_Req := ⟨Unit, 5, fun x _ => [.int .i64 x.ID, .int .u64 x.Blob, .int .i64 x.Vol, .int .i64 x.At, .int .i64 x.Passed], fun _ _ _ => True, fun _ _ _ _ _ h => h, fun _ _ => rfl, fun _ _ => rfl⟩
structure T_queue_waiting where
  Req : T_queue_Req
  passed : Int
  deriving DecidableEq
def r_T_queue_waiting : Rp T_queue_waiting := ⟨Unit, 5, fun x _ => [.int .i64 x.Req.ID, .int .u64 x.Req.Blob, .int .i64 x.Req.Vol, .int .i64 x.Req.At, .int .i64 x.passed], fun _ _ _ => True, fun _ _ _ _ _ h => h, fun _ _ => rfl, fun _ _ => rfl⟩
structure T_queue_Queue where
  l : (List T_queue_waiting)
def r_T_queue_Queue : Rp T_queue_Queue := ⟨(Option Addr × Nat), 1, fun x y => [.slice y.1 x.l.length y.2], fun x y => dslP r_T_queue_waiting y.1 y.2 x.l, fun _ _ _ _ hm h => dslP_mono _ _ _ _ _ _ hm h, fun _ _ => rfl, fun _ _ => rfl⟩
theorem L22 : Lst Try.prog 22 25 4 32 := ⟨Try.underlying22, Try.t25, _, by kernel_rfl, rfl, rfl, rfl, rfl⟩
theorem L28 : Lst Try.prog 28 70 5 40 := ⟨Try.underlying28, Try.t70, _, by kernel_rfl, rfl, rfl, rfl, rfl⟩
theorem L41 : Lst Try.prog 41 44 7 56 := ⟨Try.underlying41, Try.t44, _, by kernel_rfl, rfl, rfl, rfl, rfl⟩
theorem L42 : Lst Try.prog 42 47 5 40 := ⟨Try.underlying42, Try.t47, _, by kernel_rfl, rfl, rfl, rfl, rfl⟩
def queue_Queue_find_1 (_k : Nat) (x1 : T_queue_waiting) (x2 : Int) : Option (Bool) := some ((x1.Req.ID == x2))
set_option maxRecDepth 100000 in
set_option maxHeartbeats 4000000 in
theorem queue_Queue_find_1_ok {G w : World} {F : List HP} {R : Ending → World → Prop} (k : Nat) (x1 : T_queue_waiting) (x2 : Int) (p1 : Nat) (r : (Bool)) (hst : St G w (blk p1 (cl [I x2] 3) :: F)) (hr : queue_Queue_find_1 k x1 x2 = some r)
    (hR : ∀ w', St G w' (blk p1 (cl [I x2] 3) :: F) → R (.returned (.bool r)) w') :
    Calls Try.prog 36 #[.agg #[I x1.Req.ID, .int .u64 x1.Req.Blob, I x1.Req.Vol, I x1.Req.At, I x1.passed], pt p1 0] w R := by
  unfold queue_Queue_find_1 at hr
  refine enter Try.func36 rfl [(0, .agg #[I x1.Req.ID, .int .u64 x1.Req.Blob, I x1.Req.Vol, I x1.Req.At, I x1.passed]), (1, pt p1 0)] rfl rfl fun b => ?_
  refine wp_seq ?_
  refine wp_reg ?_
  refine L_op rfl (O_box [I x1.Req.ID, .int .u64 x1.Req.Blob, I x1.Req.Vol, I x1.Req.At, I x1.passed] hst rfl rfl fun p3 w hst => ?_)
  refine L_pure 1 [(1, pt p1 0), (2, pt p3 0)] (by kernel_rfl) fun b => ?_
  refine wpL_nil ?_
  refine th_n ?_
  refine wp_seq ?_
  refine wp_reg ?_
  refine L_pure 2 [(1, pt p1 0), (5, pt p3 0)] (by kernel_rfl) fun b => ?_
  refine L_op rfl (O_run (v := I x1.Req.ID) (w' := w) (R_load hst rfl rfl) rfl rfl ?_)
  refine L_op rfl (O_run (v := I x2) (w' := w) (R_load (hst.pull 1) rfl rfl) rfl rfl ?_)
  refine L_pure 2 [(3, .bool (x1.Req.ID == x2))] (by kernel_rfl) fun b => ?_
  refine wpL_nil ?_
  refine th_n ?_
  refine wp_ret ?_
  refine ret1 rfl rfl ?_
  obtain rfl := Option.some.inj hr
  have hst := ((hst.pull 1).cut 1 1)
  exact hR _ hst
def slices_IndexFunc_l1 (k : Nat) (x1 : (List T_queue_waiting)) (x2 : Int) : Nat → Int → Option (Flow (Int) (Unit))
  | 0, _ => none
  | j + 1, v4 => (if decide (v4 < (x1.length : Int)) = true then (Option.bind (gt x1 v4) fun x4 => (Option.bind (queue_Queue_find_1 k x4 x2) fun y4 => (if y4 = true then some (Flow.ret (v4)) else (slices_IndexFunc_l1 k x1 x2 j (IntKind.i64.wrap (v4 + 1)))))) else some (Flow.go ()))
def slices_IndexFunc (k : Nat) (x1 : (List T_queue_waiting)) (x2 : Int) : Option (Int) := (Option.bind (slices_IndexFunc_l1 k x1 x2 k (0 : Int)) fun y3 => (match y3 with | Flow.ret r => some r | Flow.go _ => some (((-1) : Int))))
set_option maxRecDepth 100000 in
set_option maxHeartbeats 4000000 in
theorem slices_IndexFunc_ok {G w : World} {F : List HP} {R : Ending → World → Prop} (k : Nat) (x1 : (List T_queue_waiting)) (x2 : Int) (a1 : Option Addr) (c1 : Nat) (p1 : Nat) (r : (Int)) (hst : St G w (osl r_T_queue_waiting 70 a1 c1 x1 :: blk p1 (cl [I x2] 3) :: F)) (hr : slices_IndexFunc k x1 x2 = some r)
    (hR : ∀ w', St G w' (osl r_T_queue_waiting 70 a1 c1 x1 :: blk p1 (cl [I x2] 3) :: F) → R (.returned (I r)) w') :
    Calls Try.prog 35 #[.slice a1 x1.length c1, .func (.func 36) #[] #[pt p1 0]] w R := by
  unfold slices_IndexFunc at hr
  refine enter Try.func35 rfl [(0, .slice a1 x1.length c1), (1, .func (.func 36) #[] #[pt p1 0])] rfl rfl fun b => ?_
  refine wp_seq ?_
  refine wp_reg ?_
  refine L_pure 1 [(0, .slice a1 x1.length c1), (1, .func (.func 36) #[] #[pt p1 0])] (by kernel_rfl) fun b => ?_
  refine wpL_nil ?_
  refine th_n ?_
  refine wp_seq ?_
  refine wp_seq ?_
  refine wp_reg ?_
  refine L_pure 3 [(0, .slice a1 x1.length c1), (1, .func (.func 36) #[] #[pt p1 0]), (7, I (x1.length : Int)), (8, I 0)] (by kernel_rfl) fun b => ?_
  refine wpL_nil ?_
  refine th_n ?_
  obtain ⟨y3, hy3, hk2⟩ := bnd hr
  clear hr
  refine wp_cut (fun a w => ∃ (z2 : Unit) (b : Nat → Value), y3 = .go z2 ∧ a = mkF 19 b [] ∧ St G w (osl r_T_queue_waiting 70 a1 c1 x1 :: blk p1 (cl [I x2] 3) :: F)) ?_ ?_
  · rintro _ w ⟨z2, b, rfl, rfl, hst⟩
    have hr := hk2
    refine th_n ?_
    refine wp_seq ?_
    refine wp_reg ?_
    refine L_pure 1 [(4, I (-1))] (by kernel_rfl) fun b => ?_
    refine wpL_nil ?_
    refine th_n ?_
    refine wp_ret ?_
    refine ret1 rfl rfl ?_
    obtain rfl := Option.some.inj hr
    have hst := ((hst.pull 1).pull 1)
    exact hR _ hst
  · have hst := ((hst.pull 1).pull 1)
    refine wp_block ?_
    refine wp_loop_fuel (fun j a w => ∃ (v4 : Int) (b : Nat → Value), a = mkF 19 b [(0, .slice a1 x1.length c1), (1, .func (.func 36) #[] #[pt p1 0]), (7, I (x1.length : Int)), (8, I v4)] ∧ St G w (osl r_T_queue_waiting 70 a1 c1 x1 :: blk p1 (cl [I x2] 3) :: F) ∧ slices_IndexFunc_l1 k x1 x2 j v4 = some y3) (k := k) ⟨(0 : Int), (kpX [(0, .slice a1 x1.length c1), (1, .func (.func 36) #[] #[pt p1 0]), (7, I (x1.length : Int)), (8, I 0)] rfl ⟨hst, hy3⟩)⟩ ?_ ?_
    · rintro _ _ ⟨_, _, _, _, h⟩
      rw [slices_IndexFunc_l1] at h
      cases h
    · rintro j _ w ⟨v4, b, rfl, hst, hr⟩
      rw [slices_IndexFunc_l1] at hr
      refine wp_seq ?_
      refine wp_reg ?_
      refine L_pure 1 [(0, .slice a1 x1.length c1), (1, .func (.func 36) #[] #[pt p1 0]), (7, I (x1.length : Int)), (8, I v4), (9, .bool (decide (v4 < (x1.length : Int))))] (by kernel_rfl) fun b => ?_
      refine wpL_nil ?_
      refine th_n ?_
      refine wp_seq ?_
      refine wp_cond_mkF (t := decide (v4 < (x1.length : Int))) rfl (fun h => ?_) (fun h => ?_)
      · have hr := (if_pos h).symm.trans hr
        refine wp_skip ?_
        refine th_n ?_
        refine wp_seq ?_
        refine wp_block ?_
        refine wp_seq ?_
        refine wp_reg ?_
        refine L_pure 2 [(0, .slice a1 x1.length c1), (1, .func (.func 36) #[] #[pt p1 0]), (5, I v4), (7, I (x1.length : Int)), (8, I v4)] (by kernel_rfl) fun b => ?_
        refine wpL_nil ?_
        refine th_n ?_
        refine wp_seq ?_
        refine wp_reg ?_
        refine L_pure 3 [(0, .slice a1 x1.length c1), (1, .func (.func 36) #[] #[pt p1 0]), (5, I v4), (7, I (x1.length : Int)), (8, I v4), (11, .func (.func 36) #[] #[pt p1 0]), (12, .slice a1 x1.length c1), (13, I v4)] (by kernel_rfl) fun b => ?_
        obtain ⟨x4, hx2, hr⟩ := bnd hr
        refine L_op rfl (O_run (v := pt (ab a1) (ao a1 + v4.toNat * 5)) (w' := w) (R_ia L28 rfl rfl (osl_addr hst hx2) (gt_some hx2).1 (gt_some hx2).2.1) rfl rfl ?_)
        obtain ⟨q2, hc2, hst⟩ := osl_cells hst hx2
        have hst := hst.drop
        refine L_op rfl (O_run (v := .agg #[I x4.Req.ID, .int .u64 x4.Req.Blob, I x4.Req.Vol, I x4.Req.At, I x4.passed]) (w' := w) (R_loadAt (off := ao a1 + v4.toNat * 5) (j := 0) hc2 rfl rfl) rfl rfl ?_)
        obtain ⟨y4, hy4, hr⟩ := bnd hr
        refine L_op rfl (O_callv (vs := #[.agg #[I x4.Req.ID, .int .u64 x4.Req.Blob, I x4.Req.Vol, I x4.Req.At, I x4.passed], pt p1 0]) (ws := #[.agg #[I x4.Req.ID, .int .u64 x4.Req.Blob, I x4.Req.Vol, I x4.Req.At, I x4.passed]]) rfl Try.call36 (by kernel_rfl) rfl (queue_Queue_find_1_ok k x4 x2 p1 y4 (hst.pull 1) hy4 fun w hst => ?_))
        refine CK_ret rfl ?_
        refine wpL_nil ?_
        refine th_n ?_
        refine wp_cond_mkF (t := y4) rfl (fun h => ?_) (fun h => ?_)
        · have hr := (if_pos h).symm.trans hr
          refine wp_seq ?_
          refine wp_reg ?_
          refine L_pure 2 [(4, I v4)] (by kernel_rfl) fun b => ?_
          refine wpL_nil ?_
          refine th_n ?_
          refine wp_ret ?_
          refine ib_r (th_r (th_r (ib_r (th_r (th_r ?_)))))
          refine ret1 rfl rfl ?_
          obtain rfl := Option.some.inj hr
          obtain rfl := Option.some.inj hk2
          have hst := (hst.pull 1)
          exact hR _ hst
        · have hr := (if_neg (by rw [h]; exact Bool.false_ne_true)).symm.trans hr
          refine wp_skip ?_
          refine ib_n (th_n ?_)
          refine wp_reg ?_
          refine L_pure 2 [(0, .slice a1 x1.length c1), (1, .func (.func 36) #[] #[pt p1 0]), (7, I (x1.length : Int)), (8, I (IntKind.i64.wrap (v4 + 1)))] (by kernel_rfl) fun b => ?_
          refine wpL_nil ?_
          refine th_n ?_
          have hst := (hst.pull 1)
          exact ⟨(IntKind.i64.wrap (v4 + 1)), (kpX [(0, .slice a1 x1.length c1), (1, .func (.func 36) #[] #[pt p1 0]), (7, I (x1.length : Int)), (8, I (IntKind.i64.wrap (v4 + 1)))] rfl ⟨hst, hr⟩)⟩
      · have hr := (if_neg (by rw [h]; exact Bool.false_ne_true)).symm.trans hr
        refine wp_exit ?_
        refine th_x (th_x (ib_x (th_n ?_)))
        obtain rfl := Option.some.inj hr
        have hst := ((hst.pull 1).pull 1)
        exact ⟨(), (kpXf [] rfl hst)⟩
def queue_Queue_find (k : Nat) (x1 : T_queue_Queue) (x2 : Int) : Option (Int) := (Option.bind (slices_IndexFunc k x1.l x2) fun y2 => some (y2))
set_option maxRecDepth 100000 in
set_option maxHeartbeats 4000000 in
theorem queue_Queue_find_ok {G w : World} {F : List HP} {R : Ending → World → Prop} (k : Nat) (x1 : T_queue_Queue) (x2 : Int) (p1 : Nat) (a1 : Option Addr) (c1 : Nat) (r : (Int)) (hst : St G w (blk p1 (cl [.slice a1 x1.l.length c1] 30) :: osl r_T_queue_waiting 70 a1 c1 x1.l :: F)) (hr : queue_Queue_find k x1 x2 = some r)
    (hR : ∀ w', St G w' (blk p1 (cl [.slice a1 x1.l.length c1] 30) :: osl r_T_queue_waiting 70 a1 c1 x1.l :: F) → R (.returned (I r)) w') :
    Calls Try.prog 26 #[pt p1 0, I x2] w R := by
  unfold queue_Queue_find at hr
  refine enter Try.func26 rfl [(0, pt p1 0), (1, I x2)] rfl rfl fun b => ?_
  refine wp_seq ?_
  refine wp_reg ?_
  refine L_op rfl (O_box [I x2] hst rfl rfl fun p3 w hst => ?_)
  refine L_pure 1 [(0, pt p1 0), (3, pt p3 0)] (by kernel_rfl) fun b => ?_
  refine wpL_nil ?_
  refine th_n ?_
  refine wp_seq ?_
  refine wp_reg ?_
  refine L_pure 3 [(3, pt p3 0), (7, pt p1 0)] (by kernel_rfl) fun b => ?_
  refine L_op rfl (O_run (v := .slice a1 x1.l.length c1) (w' := w) (R_load (hst.pull 1) rfl rfl) rfl rfl ?_)
  refine L_pure 1 [(8, .slice a1 x1.l.length c1), (9, .func (.func 36) #[] #[pt p3 0])] (by kernel_rfl) fun b => ?_
  obtain ⟨y2, hy2, hr⟩ := bnd hr
  refine L_op rfl (O_call (vs := #[.slice a1 x1.l.length c1, .func (.func 36) #[] #[pt p3 0]]) Try.call35 (by kernel_rfl) (slices_IndexFunc_ok k x1.l x2 a1 c1 p3 y2 (hst.pull 2) hy2 fun w hst => ?_))
  refine CK_ret rfl ?_
  refine L_pure 1 [(4, I y2)] (by kernel_rfl) fun b => ?_
  refine wpL_nil ?_
  refine th_n ?_
  refine wp_ret ?_
  refine ret1 rfl rfl ?_
  obtain rfl := Option.some.inj hr
  have hst := ((hst.pull 2).cut 2 1)
  exact hR _ hst
def queue_Queue_Add (k : Nat) (x1 : T_queue_Queue) (x2 : T_queue_Req) : Option (Bool × (List T_queue_waiting)) := (Option.bind (queue_Queue_find k x1 x2.ID) fun y2 => (if decide (y2 ≥ 0) = true then some (false, x1.l) else (if room (x1.l.length + ([(T_queue_waiting.mk x2 0)]).length) 40 = true then some (true, (x1.l ++ ([(T_queue_waiting.mk x2 0)]))) else none)))
set_option maxRecDepth 100000 in
set_option maxHeartbeats 4000000 in
theorem queue_Queue_Add_ok {G w : World} {F : List HP} {R : Ending → World → Prop} (k : Nat) (x1 : T_queue_Queue) (x2 : T_queue_Req) (p1 : Nat) (a1 : Option Addr) (c1 : Nat) (r : (Bool × (List T_queue_waiting))) (hst : St G w (blk p1 (cl [.slice a1 x1.l.length c1] 30) :: osl r_T_queue_waiting 70 a1 c1 x1.l :: F)) (hr : queue_Queue_Add k x1 x2 = some r)
    (hR : ∀ (a3 : Option Addr) (c3 : Nat) w', St G w' (osl r_T_queue_waiting 70 a3 c3 r.2 :: blk p1 (cl [.slice a3 r.2.length c3] 30) :: F) → R (.returned (.bool r.1)) w') :
    Calls Try.prog 14 #[pt p1 0, .agg #[I x2.ID, .int .u64 x2.Blob, I x2.Vol, I x2.At]] w R := by
  unfold queue_Queue_Add at hr
  refine enter Try.func14 rfl [(0, pt p1 0), (1, .agg #[I x2.ID, .int .u64 x2.Blob, I x2.Vol, I x2.At])] rfl rfl fun b => ?_
  refine wp_seq ?_
  refine wp_reg ?_
  refine L_op rfl (O_box [I x2.ID, .int .u64 x2.Blob, I x2.Vol, I x2.At] hst rfl rfl fun p4 w hst => ?_)
  refine L_pure 1 [(0, pt p1 0), (3, pt p4 0)] (by kernel_rfl) fun b => ?_
  refine wpL_nil ?_
  refine th_n ?_
  refine wp_seq ?_
  refine wp_seq ?_
  refine wp_reg ?_
  refine L_pure 2 [(0, pt p1 0), (3, pt p4 0), (5, pt p1 0), (6, pt p4 0)] (by kernel_rfl) fun b => ?_
  refine L_op rfl (O_run (v := I x2.ID) (w' := w) (R_load hst rfl rfl) rfl rfl ?_)
  obtain ⟨y2, hy2, hr⟩ := bnd hr
  refine L_op rfl (O_call (vs := #[pt p1 0, I x2.ID]) Try.call26 (by kernel_rfl) (queue_Queue_find_ok k x1 x2.ID p1 a1 c1 y2 ((hst.pull 2).pull 2) hy2 fun w hst => ?_))
  refine CK_ret rfl ?_
  refine L_pure 1 [(0, pt p1 0), (3, pt p4 0), (9, .bool (decide (y2 ≥ 0)))] (by kernel_rfl) fun b => ?_
  refine wpL_nil ?_
  refine th_n ?_
  refine wp_cond_mkF (t := decide (y2 ≥ 0)) rfl (fun h => ?_) (fun h => ?_)
  · have hr := (if_pos h).symm.trans hr
    refine wp_seq ?_
    refine wp_reg ?_
    refine L_pure 1 [(4, .bool false)] (by kernel_rfl) fun b => ?_
    refine wpL_nil ?_
    refine th_n ?_
    refine wp_ret ?_
    refine th_r ?_
    refine ret1 rfl rfl ?_
    obtain rfl := Option.some.inj hr
    have hst := ((hst.pull 1).cut 2 1)
    exact hR a1 c1 _ hst
  · have hr := (if_neg (by rw [h]; exact Bool.false_ne_true)).symm.trans hr
    refine wp_skip ?_
    refine th_n ?_
    refine wp_seq ?_
    refine wp_regG (SP 8 (fun w => St G w (blk p1 (cl [.slice a1 x1.l.length c1] 30) :: osl r_T_queue_waiting 70 a1 c1 x1.l :: blk p4 (cl [I x2.ID, .int .u64 x2.Blob, I x2.Vol, I x2.At] 25) :: F))) rfl ?_
    have hst := hst.draw (n := w.drawn + 1)
    generalize { w with drawn := w.drawn + 1 } = w at hst ⊢
    refine P_pure (i := 0) (v := pt p1 0) 8 rfl rfl (by kernel_rfl) (fun _ _ _ h => h) rfl rfl rfl (by kernel_rfl) (.inr (((hst.pull 2).pull 2).pull 2)) ?_
    refine P_pure (i := 1) (v := pt p1 0) 8 rfl rfl (by kernel_rfl) (fun _ _ _ h => h) rfl rfl rfl (by kernel_rfl) (.inr (((hst.pull 2).pull 2).pull 2)) ?_
    refine P_pure (i := 2) (v := pt p1 0) 8 rfl rfl (by kernel_rfl) (fun _ _ _ h => h) rfl rfl rfl (by kernel_rfl) (.inr (((hst.pull 2).pull 2).pull 2)) ?_
    refine P_pure (i := 3) (v := pt p1 0) 8 rfl rfl (by kernel_rfl) (fun _ _ _ h => h) rfl rfl rfl (by kernel_rfl) (.inr (((hst.pull 2).pull 2).pull 2)) ?_
    refine P_take (i := 4) (v := .slice a1 x1.l.length c1) 8 [4] (by kernel_rfl) rfl (by kernel_rfl) (fun _ _ _ h => h) rfl rfl rfl (fun w hst => R_load hst rfl rfl) ((((hst.pull 2).pull 2).pull 2)) ?_
    refine P_take (i := 5) (v := .agg #[I x2.ID, .int .u64 x2.Blob, I x2.Vol, I x2.At]) 8 [7, 6, 5] (by kernel_rfl) rfl (by kernel_rfl) (fun _ _ _ h => h) rfl rfl rfl (fun w hst => R_load (hst.pull 2) rfl rfl) ((((hst.pull 2).pull 2).pull 2)) ?_
    refine P_pure (i := 6) (v := .agg #[I x2.ID, .int .u64 x2.Blob, I x2.Vol, I x2.At, I 0]) 8 rfl rfl (by kernel_rfl) (fun _ _ _ h => h) rfl rfl rfl (by kernel_rfl) (.inr (((hst.pull 2).pull 2).pull 2)) ?_
    refine P_one (i := 7) 8 (by kernel_rfl) rfl rfl (O_bs (T := 70) [I x2.ID, .int .u64 x2.Blob, I x2.Vol, I x2.At, I 0] #[(0, .agg #[I x2.ID, .int .u64 x2.Blob, I x2.Vol, I x2.At, I 0])] hst (by kernel_rfl) (by kernel_rfl) rfl fun p5 w hst => ?_)
    have hst := osl_of_blk0 (ecs := [[I x2.ID, .int .u64 x2.Blob, I x2.Vol, I x2.At, I 0]]) r_T_queue_waiting [(T_queue_waiting.mk x2 0)] rfl (fun m => ⟨⟨(), rfl, trivial⟩, trivial⟩) rfl hst
    refine ⟨((((hst.pull 3).pull 3).pull 3).cut 3 1), ?_⟩
    obtain ⟨hb2, hr⟩ := chk hr
    refine P_act (i := 8) 8 (by kernel_rfl) rfl rfl (by kernel_rfl) (O_app_o L28 (hst.pull 2) rfl rfl hb2 rfl fun a4 c4 w hst => ?_)
    refine P_pure (i := 9) (v := pt p1 0) 8 rfl rfl (by kernel_rfl) (fun _ _ _ h => h) rfl rfl rfl (by kernel_rfl) (.inl (by kernel_rfl)) ?_
    refine P_pure (i := 10) (v := pt p1 0) 8 rfl rfl (by kernel_rfl) (fun _ _ _ h => h) rfl rfl rfl (by kernel_rfl) (.inl (by kernel_rfl)) ?_
    refine P_act (i := 11) 8 (by kernel_rfl) rfl rfl (by kernel_rfl) (O_store [.slice a4 (x1.l ++ ([(T_queue_waiting.mk x2 0)])).length c4] (hst.pull 2) rfl rfl (by kernel_rfl) fun w hst => ?_)
    refine wpG_done (by kernel_rfl) ?_ _
    refine C_keepQ [] rfl fun b => ?_
    refine th_n ?_
    refine wp_seq ?_
    refine wp_reg ?_
    refine L_pure 1 [(4, .bool true)] (by kernel_rfl) fun b => ?_
    refine wpL_nil ?_
    refine th_n ?_
    refine wp_ret ?_
    refine ret1 rfl rfl ?_
    obtain rfl := Option.some.inj hr
    have hst := ((hst.pull 1).cut 2 2)
    exact hR a4 c4 _ hst
def queue_ahead (_k : Nat) (x1 : T_queue_waiting) (x2 : T_queue_waiting) (x3 : Int) : Option (Bool) := (if ((decide (x1.Req.At ≥ x3)) != (decide (x2.Req.At ≥ x3))) = true then some (decide (x1.Req.At ≥ x3)) else some (decide (x1.Req.At < x2.Req.At)))
set_option maxRecDepth 100000 in
set_option maxHeartbeats 4000000 in
theorem queue_ahead_ok {G w : World} {F : List HP} {R : Ending → World → Prop} (k : Nat) (x1 : T_queue_waiting) (x2 : T_queue_waiting) (x3 : Int) (r : (Bool)) (hst : St G w (F)) (hr : queue_ahead k x1 x2 x3 = some r)
    (hR : ∀ w', St G w' (F) → R (.returned (.bool r)) w') :
    Calls Try.prog 37 #[.agg #[I x1.Req.ID, .int .u64 x1.Req.Blob, I x1.Req.Vol, I x1.Req.At, I x1.passed], .agg #[I x2.Req.ID, .int .u64 x2.Req.Blob, I x2.Req.Vol, I x2.Req.At, I x2.passed], I x3] w R := by
  unfold queue_ahead at hr
  refine enter Try.func37 rfl [(0, .agg #[I x1.Req.ID, .int .u64 x1.Req.Blob, I x1.Req.Vol, I x1.Req.At, I x1.passed]), (1, .agg #[I x2.Req.ID, .int .u64 x2.Req.Blob, I x2.Req.Vol, I x2.Req.At, I x2.passed]), (2, I x3)] rfl rfl fun b => ?_
  refine wp_seq ?_
  refine wp_reg ?_
  refine L_op rfl (O_box [I x1.Req.ID, .int .u64 x1.Req.Blob, I x1.Req.Vol, I x1.Req.At, I x1.passed] hst rfl rfl fun p3 w hst => ?_)
  refine L_op rfl (O_box [I x2.Req.ID, .int .u64 x2.Req.Blob, I x2.Req.Vol, I x2.Req.At, I x2.passed] hst rfl rfl fun p4 w hst => ?_)
  refine L_pure 1 [(2, I x3), (3, pt p3 0), (4, pt p4 0)] (by kernel_rfl) fun b => ?_
  refine wpL_nil ?_
  refine th_n ?_
  refine wp_seq ?_
  refine wp_seq ?_
  refine wp_reg ?_
  refine L_pure 2 [(2, I x3), (3, pt p3 0), (4, pt p4 0), (8, pt p3 3)] (by kernel_rfl) fun b => ?_
  refine L_op rfl (O_run (v := I x1.Req.At) (w' := w) (R_load (hst.pull 1) rfl rfl) rfl rfl ?_)
  refine L_pure 4 [(2, I x3), (3, pt p3 0), (4, pt p4 0), (11, .bool (decide (x1.Req.At ≥ x3))), (13, pt p4 3)] (by kernel_rfl) fun b => ?_
  refine L_op rfl (O_run (v := I x2.Req.At) (w' := w) (R_load hst rfl rfl) rfl rfl ?_)
  refine L_pure 3 [(2, I x3), (3, pt p3 0), (4, pt p4 0), (17, .bool ((decide (x1.Req.At ≥ x3)) != (decide (x2.Req.At ≥ x3))))] (by kernel_rfl) fun b => ?_
  refine wpL_nil ?_
  refine th_n ?_
  refine wp_cond_mkF (t := ((decide (x1.Req.At ≥ x3)) != (decide (x2.Req.At ≥ x3)))) rfl (fun h => ?_) (fun h => ?_)
  · have hr := (if_pos h).symm.trans hr
    refine wp_seq ?_
    refine wp_reg ?_
    refine L_pure 2 [(2, I x3), (19, pt p3 3)] (by kernel_rfl) fun b => ?_
    refine L_op rfl (O_run (v := I x1.Req.At) (w' := w) (R_load (hst.pull 1) rfl rfl) rfl rfl ?_)
    refine L_pure 3 [(6, .bool (decide (x1.Req.At ≥ x3)))] (by kernel_rfl) fun b => ?_
    refine wpL_nil ?_
    refine th_n ?_
    refine wp_ret ?_
    refine th_r ?_
    refine ret1 rfl rfl ?_
    obtain rfl := Option.some.inj hr
    have hst := (hst.cut 0 2)
    exact hR _ hst
  · have hr := (if_neg (by rw [h]; exact Bool.false_ne_true)).symm.trans hr
    refine wp_skip ?_
    refine th_n ?_
    refine wp_seq ?_
    refine wp_reg ?_
    refine L_pure 2 [(4, pt p4 0), (24, pt p3 3)] (by kernel_rfl) fun b => ?_
    refine L_op rfl (O_run (v := I x1.Req.At) (w' := w) (R_load (hst.pull 1) rfl rfl) rfl rfl ?_)
    refine L_pure 2 [(25, I x1.Req.At), (27, pt p4 3)] (by kernel_rfl) fun b => ?_
    refine L_op rfl (O_run (v := I x2.Req.At) (w' := w) (R_load hst rfl rfl) rfl rfl ?_)
    refine L_pure 2 [(6, .bool (decide (x1.Req.At < x2.Req.At)))] (by kernel_rfl) fun b => ?_
    refine wpL_nil ?_
    refine th_n ?_
    refine wp_ret ?_
    refine ret1 rfl rfl ?_
    obtain rfl := Option.some.inj hr
    have hst := (hst.cut 0 2)
    exact hR _ hst
def queue_Queue_choose_l1 (k : Nat) (x1 : T_queue_Queue) (x2 : Int) (x3 : Int) : Nat → Int → Int → Option (Int)
  | 0, _, _ => none
  | j + 1, v11, v12 => (if decide (v12 < (x1.l.length : Int)) = true then (Option.bind (Option.bind (gt x1.l v12) fun x11 => (Option.bind (if (x11.Req.Vol == x2) = true then (if decide (v11 < 0) = true then some (true) else (Option.bind (gt x1.l v11) fun x12 => (Option.bind (queue_ahead k x11 x12 x3) fun y12 => some (y12)))) else some (false)) fun y11 => (if y11 = true then some (v12) else some (v11)))) fun y10 => (queue_Queue_choose_l1 k x1 x2 x3 j y10 (IntKind.i64.wrap (v12 + 1)))) else some (v11))
def queue_Queue_choose_l2 (k : Nat) (x1 : T_queue_Queue) : Nat → Int → Int → Option (Int)
  | 0, _, _ => none
  | j + 1, v15, v16 => (if decide (v16 < (x1.l.length : Int)) = true then (Option.bind (Option.bind (gt x1.l v16) fun x13 => (Option.bind (Option.bind (gt x1.l 0) fun x14 => (if (x13.Req.Vol == x14.Req.Vol) = true then (if decide (v15 < 0) = true then some (true) else (Option.bind (gt x1.l v15) fun x15 => (Option.bind (queue_ahead k x13 x15 0) fun y16 => some (y16)))) else some (false))) fun y15 => (if y15 = true then some (v16) else some (v15)))) fun y14 => (queue_Queue_choose_l2 k x1 j y14 (IntKind.i64.wrap (v16 + 1)))) else some (v15))
def queue_Queue_choose (k : Nat) (x1 : T_queue_Queue) (x2 : Int) (x3 : Int) : Option (Int) := (Option.bind (gt x1.l 0) fun x10 => (if decide (x10.passed ≥ 8) = true then some ((0 : Int)) else (Option.bind (queue_Queue_choose_l1 k x1 x2 x3 k ((-1) : Int) (0 : Int)) fun y9 => (if decide (y9 ≥ 0) = true then some (y9) else (Option.bind (queue_Queue_choose_l2 k x1 k y9 (0 : Int)) fun y13 => some (y13))))))
set_option maxRecDepth 100000 in
set_option maxHeartbeats 4000000 in
theorem queue_Queue_choose_ok {G w : World} {F : List HP} {R : Ending → World → Prop} (k : Nat) (x1 : T_queue_Queue) (x2 : Int) (x3 : Int) (p1 : Nat) (a1 : Option Addr) (c1 : Nat) (r : (Int)) (hst : St G w (blk p1 (cl [.slice a1 x1.l.length c1] 30) :: osl r_T_queue_waiting 70 a1 c1 x1.l :: F)) (hr : queue_Queue_choose k x1 x2 x3 = some r)
    (hR : ∀ w', St G w' (blk p1 (cl [.slice a1 x1.l.length c1] 30) :: osl r_T_queue_waiting 70 a1 c1 x1.l :: F) → R (.returned (I r)) w') :
    Calls Try.prog 27 #[pt p1 0, I x2, I x3] w R := by
  unfold queue_Queue_choose at hr
  refine enter Try.func27 rfl [(0, pt p1 0), (1, I x2), (2, I x3)] rfl rfl fun b => ?_
  refine wp_seq ?_
  refine wp_reg ?_
  refine L_pure 1 [(0, pt p1 0), (1, I x2), (2, I x3)] (by kernel_rfl) fun b => ?_
  refine wpL_nil ?_
  refine th_n ?_
  refine wp_seq ?_
  refine wp_seq ?_
  refine wp_reg ?_
  refine L_pure 3 [(0, pt p1 0), (1, I x2), (2, I x3), (14, pt p1 0)] (by kernel_rfl) fun b => ?_
  refine L_op rfl (O_run (v := .slice a1 x1.l.length c1) (w' := w) (R_load hst rfl rfl) rfl rfl ?_)
  obtain ⟨x10, hx7, hr⟩ := bnd hr
  refine L_op rfl (O_run (v := pt (ab a1) (ao a1 + (0 : Int).toNat * 5)) (w' := w) (R_ia L28 rfl rfl (osl_addr (hst.pull 1) hx7) (gt_some hx7).1 (gt_some hx7).2.1) rfl rfl ?_)
  refine L_pure 1 [(0, pt p1 0), (1, I x2), (2, I x3), (17, pt (ab a1) (ao a1 + (0 : Int).toNat * 5 + 4))] (by kernel_rfl) fun b => ?_
  obtain ⟨q7, hc7, hst⟩ := osl_cells (hst.pull 1) hx7
  have hst := hst.drop
  refine L_op rfl (O_run (v := I x10.passed) (w' := w) (R_loadAt (off := ao a1 + (0 : Int).toNat * 5) (j := 4) hc7 rfl rfl) rfl rfl ?_)
  refine L_pure 1 [(0, pt p1 0), (1, I x2), (2, I x3), (19, .bool (decide (x10.passed ≥ 8)))] (by kernel_rfl) fun b => ?_
  refine wpL_nil ?_
  refine th_n ?_
  refine wp_cond_mkF (t := decide (x10.passed ≥ 8)) rfl (fun h => ?_) (fun h => ?_)
  · have hr := (if_pos h).symm.trans hr
    refine wp_seq ?_
    refine wp_reg ?_
    refine L_pure 1 [(6, I 0)] (by kernel_rfl) fun b => ?_
    refine wpL_nil ?_
    refine th_n ?_
    refine wp_ret ?_
    refine th_r ?_
    refine ret1 rfl rfl ?_
    obtain rfl := Option.some.inj hr
    have hst := (hst.pull 1)
    exact hR _ hst
  · have hr := (if_neg (by rw [h]; exact Bool.false_ne_true)).symm.trans hr
    refine wp_skip ?_
    refine th_n ?_
    refine wp_seq ?_
    refine wp_reg ?_
    refine L_pure 1 [(0, pt p1 0), (1, I x2), (2, I x3), (7, I (-1))] (by kernel_rfl) fun b => ?_
    refine wpL_nil ?_
    refine th_n ?_
    refine wp_seq ?_
    refine wp_seq ?_
    refine wp_reg ?_
    refine L_pure 3 [(0, pt p1 0), (1, I x2), (2, I x3), (7, I (-1)), (22, pt p1 0)] (by kernel_rfl) fun b => ?_
    refine L_op rfl (O_run (v := .slice a1 x1.l.length c1) (w' := w) (R_load (hst.pull 1) rfl rfl) rfl rfl ?_)
    refine L_pure 2 [(0, pt p1 0), (1, I x2), (2, I x3), (7, I (-1)), (23, .slice a1 x1.l.length c1), (24, I (x1.l.length : Int)), (25, I 0)] (by kernel_rfl) fun b => ?_
    refine wpL_nil ?_
    refine th_n ?_
    obtain ⟨y9, hy9, hk7⟩ := bnd hr
    clear hr
    refine wp_cut (fun a w => ∃ (b : Nat → Value), a = mkF 96 b [(0, pt p1 0), (7, I y9)] ∧ St G w (osl r_T_queue_waiting 70 a1 c1 x1.l :: blk p1 (cl [.slice a1 x1.l.length c1] 30) :: F)) ?_ ?_
    · rintro _ w ⟨b, rfl, hst⟩
      have hr := hk7
      refine th_n ?_
      refine wp_seq ?_
      refine wp_seq ?_
      refine wp_reg ?_
      refine L_pure 2 [(0, pt p1 0), (7, I y9), (54, .bool (decide (y9 ≥ 0)))] (by kernel_rfl) fun b => ?_
      refine wpL_nil ?_
      refine th_n ?_
      refine wp_cond_mkF (t := decide (y9 ≥ 0)) rfl (fun h => ?_) (fun h => ?_)
      · have hr := (if_pos h).symm.trans hr
        refine wp_seq ?_
        refine wp_reg ?_
        refine L_pure 2 [(6, I y9)] (by kernel_rfl) fun b => ?_
        refine wpL_nil ?_
        refine th_n ?_
        refine wp_ret ?_
        refine th_r ?_
        refine ret1 rfl rfl ?_
        obtain rfl := Option.some.inj hr
        have hst := (hst.pull 1)
        exact hR _ hst
      · have hr := (if_neg (by rw [h]; exact Bool.false_ne_true)).symm.trans hr
        refine wp_skip ?_
        refine th_n ?_
        refine wp_seq ?_
        refine wp_seq ?_
        refine wp_reg ?_
        refine L_pure 3 [(0, pt p1 0), (7, I y9), (58, pt p1 0)] (by kernel_rfl) fun b => ?_
        refine L_op rfl (O_run (v := .slice a1 x1.l.length c1) (w' := w) (R_load (hst.pull 1) rfl rfl) rfl rfl ?_)
        refine L_pure 2 [(0, pt p1 0), (7, I y9), (59, .slice a1 x1.l.length c1), (60, I (x1.l.length : Int)), (61, I 0)] (by kernel_rfl) fun b => ?_
        refine wpL_nil ?_
        refine th_n ?_
        obtain ⟨y13, hy13, hk10⟩ := bnd hr
        clear hr
        refine wp_cut (fun a w => ∃ (b : Nat → Value), a = mkF 96 b [(7, I y13)] ∧ St G w (osl r_T_queue_waiting 70 a1 c1 x1.l :: blk p1 (cl [.slice a1 x1.l.length c1] 30) :: F)) ?_ ?_
        · rintro _ w ⟨b, rfl, hst⟩
          have hr := hk10
          refine th_n ?_
          refine wp_seq ?_
          refine wp_reg ?_
          refine L_pure 2 [(6, I y13)] (by kernel_rfl) fun b => ?_
          refine wpL_nil ?_
          refine th_n ?_
          refine wp_ret ?_
          refine ret1 rfl rfl ?_
          obtain rfl := Option.some.inj hr
          have hst := (hst.pull 1)
          exact hR _ hst
        · have hst := ((hst.pull 1).pull 1)
          refine wp_block ?_
          refine wp_loop_fuel (fun j a w => ∃ (v15 : Int) (v16 : Int) (b : Nat → Value), a = mkF 96 b [(0, pt p1 0), (7, I v15), (59, .slice a1 x1.l.length c1), (60, I (x1.l.length : Int)), (61, I v16)] ∧ St G w (osl r_T_queue_waiting 70 a1 c1 x1.l :: blk p1 (cl [.slice a1 x1.l.length c1] 30) :: F) ∧ queue_Queue_choose_l2 k x1 j v15 v16 = some y13) (k := k) ⟨y9, (0 : Int), (kpX [(0, pt p1 0), (7, I y9), (59, .slice a1 x1.l.length c1), (60, I (x1.l.length : Int)), (61, I 0)] rfl ⟨hst, hy13⟩)⟩ ?_ ?_
          · rintro _ _ ⟨_, _, _, _, _, h⟩
            rw [queue_Queue_choose_l2] at h
            cases h
          · rintro j _ w ⟨v15, v16, b, rfl, hst, hr⟩
            rw [queue_Queue_choose_l2] at hr
            refine wp_seq ?_
            refine wp_reg ?_
            refine L_pure 1 [(0, pt p1 0), (7, I v15), (59, .slice a1 x1.l.length c1), (60, I (x1.l.length : Int)), (61, I v16), (62, .bool (decide (v16 < (x1.l.length : Int))))] (by kernel_rfl) fun b => ?_
            refine wpL_nil ?_
            refine th_n ?_
            refine wp_seq ?_
            refine wp_cond_mkF (t := decide (v16 < (x1.l.length : Int))) rfl (fun h => ?_) (fun h => ?_)
            · have hr := (if_pos h).symm.trans hr
              refine wp_skip ?_
              refine th_n ?_
              obtain ⟨y14, hy14, hk11⟩ := bnd hr
              clear hr
              refine wp_seq_cut (fun a w => ∃ (b : Nat → Value), a = mkF 96 b [(0, pt p1 0), (7, I y14), (59, .slice a1 x1.l.length c1), (60, I (x1.l.length : Int)), (61, I v16)] ∧ St G w (osl r_T_queue_waiting 70 a1 c1 x1.l :: blk p1 (cl [.slice a1 x1.l.length c1] 30) :: F)) ?_ ?_
              · rintro _ w ⟨b, rfl, hst⟩
                have hr := hk11
                refine wp_reg ?_
                refine L_pure 2 [(0, pt p1 0), (7, I y14), (59, .slice a1 x1.l.length c1), (60, I (x1.l.length : Int)), (61, I (IntKind.i64.wrap (v16 + 1)))] (by kernel_rfl) fun b => ?_
                refine wpL_nil ?_
                refine th_n ?_
                have hst := ((hst.pull 1).pull 1)
                exact ⟨y14, (IntKind.i64.wrap (v16 + 1)), (kpX [(0, pt p1 0), (7, I y14), (59, .slice a1 x1.l.length c1), (60, I (x1.l.length : Int)), (61, I (IntKind.i64.wrap (v16 + 1)))] rfl ⟨hst, hr⟩)⟩
              · have hr := hy14
                refine wp_block ?_
                refine wp_seq ?_
                refine wp_reg ?_
                refine L_pure 1 [(0, pt p1 0), (7, I v15), (59, .slice a1 x1.l.length c1), (60, I (x1.l.length : Int)), (61, I v16), (63, I v16)] (by kernel_rfl) fun b => ?_
                obtain ⟨x13, hx10, hr⟩ := bnd hr
                refine L_op rfl (O_run (v := pt (ab a1) (ao a1 + v16.toNat * 5)) (w' := w) (R_ia L28 rfl rfl (osl_addr hst hx10) (gt_some hx10).1 (gt_some hx10).2.1) rfl rfl ?_)
                obtain ⟨q10, hc10, hst⟩ := osl_cells hst hx10
                have hst := hst.drop
                refine L_op rfl (O_run (v := .agg #[I x13.Req.ID, .int .u64 x13.Req.Blob, I x13.Req.Vol, I x13.Req.At, I x13.passed]) (w' := w) (R_loadAt (off := ao a1 + v16.toNat * 5) (j := 0) hc10 rfl rfl) rfl rfl ?_)
                refine L_op rfl (O_alloc (i := Try.t70) (z := .agg #[I 0, .int .u64 0, I 0, I 0, I 0]) [I 0, .int .u64 0, I 0, I 0, I 0] hst rfl rfl rfl rfl fun p5 w hst => ?_)
                refine L_pure 1 [(0, pt p1 0), (7, I v15), (10, I v16), (11, pt p5 0), (59, .slice a1 x1.l.length c1), (60, I (x1.l.length : Int)), (61, I v16), (65, .agg #[I x13.Req.ID, .int .u64 x13.Req.Blob, I x13.Req.Vol, I x13.Req.At, I x13.passed])] (by kernel_rfl) fun b => ?_
                refine L_op rfl (O_store [I x13.Req.ID, .int .u64 x13.Req.Blob, I x13.Req.Vol, I x13.Req.At, I x13.passed] hst rfl rfl (by kernel_rfl) fun w hst => ?_)
                refine wpL_nil ?_
                refine th_n ?_
                obtain ⟨y15, hy15, hk12⟩ := bnd hr
                clear hr
                refine wp_seq_cut (fun a w => ∃ (b : Nat → Value), a = mkF 96 b [(0, pt p1 0), (7, I v15), (10, I v16), (59, .slice a1 x1.l.length c1), (60, I (x1.l.length : Int)), (61, I v16), (92, .bool y15)] ∧ St G w (osl r_T_queue_waiting 70 a1 c1 x1.l :: blk p5 (cl [I x13.Req.ID, .int .u64 x13.Req.Blob, I x13.Req.Vol, I x13.Req.At, I x13.passed] 70) :: blk p1 (cl [.slice a1 x1.l.length c1] 30) :: F)) ?_ ?_
                · rintro _ w ⟨b, rfl, hst⟩
                  have hr := hk12
                  refine wp_cond_mkF (t := y15) rfl (fun h => ?_) (fun h => ?_)
                  · have hr := (if_pos h).symm.trans hr
                    refine wp_reg ?_
                    refine L_pure 2 [(0, pt p1 0), (7, I v16), (59, .slice a1 x1.l.length c1), (60, I (x1.l.length : Int)), (61, I v16)] (by kernel_rfl) fun b => ?_
                    refine wpL_nil ?_
                    refine ib_n (th_n ?_)
                    obtain rfl := Option.some.inj hr
                    have hst := (((hst.pull 2).pull 1).cut 2 1)
                    exact (kpX [(0, pt p1 0), (7, I v16), (59, .slice a1 x1.l.length c1), (60, I (x1.l.length : Int)), (61, I v16)] rfl hst)
                  · have hr := (if_neg (by rw [h]; exact Bool.false_ne_true)).symm.trans hr
                    refine wp_skip ?_
                    refine ib_n (th_n ?_)
                    obtain rfl := Option.some.inj hr
                    have hst := (((hst.pull 2).pull 1).cut 2 1)
                    exact (kpX [(0, pt p1 0), (7, I v15), (59, .slice a1 x1.l.length c1), (60, I (x1.l.length : Int)), (61, I v16)] rfl hst)
                · have hr := hy15
                  refine wp_regG (SQ (fun w => St G w (blk p5 (cl [I x13.Req.ID, .int .u64 x13.Req.Blob, I x13.Req.Vol, I x13.Req.At, I x13.passed] 70) :: osl r_T_queue_waiting 70 a1 c1 x1.l :: blk p1 (cl [.slice a1 x1.l.length c1] 30) :: F))) rfl ?_
                  have hst := hst.draw (n := w.drawn + 1)
                  generalize { w with drawn := w.drawn + 1 } = w at hst ⊢
                  refine Q_take (i := 0) (v := pt p5 0) rfl (by kernel_rfl) (fun _ _ _ h => h) rfl rfl rfl (fun _ _ => R_pure (by kernel_rfl)) (((hst.pull 2).pull 2).pull 2) ?_
                  refine Q_take (i := 1) (v := pt p5 2) rfl (by kernel_rfl) (fun _ _ _ h => h) rfl rfl rfl (fun _ _ => R_pure (by kernel_rfl)) (((hst.pull 2).pull 2).pull 2) ?_
                  refine Q_take (i := 2) (v := I x13.Req.Vol) rfl (by kernel_rfl) (fun _ _ _ h => h) rfl rfl rfl (fun w hst => R_load hst rfl rfl) (((hst.pull 2).pull 2).pull 2) ?_
                  refine Q_take (i := 3) (v := pt p1 0) rfl (by kernel_rfl) (fun _ _ _ h => h) rfl rfl rfl (fun _ _ => R_pure (by kernel_rfl)) (((hst.pull 2).pull 2).pull 2) ?_
                  refine Q_take (i := 4) (v := pt p1 0) rfl (by kernel_rfl) (fun _ _ _ h => h) rfl rfl rfl (fun _ _ => R_pure (by kernel_rfl)) (((hst.pull 2).pull 2).pull 2) ?_
                  refine Q_take (i := 5) (v := pt p1 0) rfl (by kernel_rfl) (fun _ _ _ h => h) rfl rfl rfl (fun _ _ => R_pure (by kernel_rfl)) (((hst.pull 2).pull 2).pull 2) ?_
                  refine Q_take (i := 6) (v := .slice a1 x1.l.length c1) rfl (by kernel_rfl) (fun _ _ _ h => h) rfl rfl rfl (fun w hst => R_load (hst.pull 2) rfl rfl) (((hst.pull 2).pull 2).pull 2) ?_
                  obtain ⟨x14, hx11, hr⟩ := bnd hr
                  refine Q_take (i := 7) (v := pt (ab a1) (ao a1 + (0 : Int).toNat * 5)) rfl (by kernel_rfl) (fun _ _ _ h => h) rfl rfl rfl (fun _ _ => (R_ia L28 rfl rfl (osl_addr (hst.pull 1) hx11) (gt_some hx11).1 (gt_some hx11).2.1)) (((hst.pull 2).pull 2).pull 2) ?_
                  refine Q_take (i := 8) (v := pt (ab a1) (ao a1 + (0 : Int).toNat * 5)) rfl (by kernel_rfl) (fun _ _ _ h => h) rfl rfl rfl (fun _ _ => R_pure (by kernel_rfl)) (((hst.pull 2).pull 2).pull 2) ?_
                  refine Q_take (i := 9) (v := pt (ab a1) (ao a1 + (0 : Int).toNat * 5 + 2)) rfl (by kernel_rfl) (fun _ _ _ h => h) rfl rfl rfl (fun _ _ => R_pure (by kernel_rfl)) (((hst.pull 2).pull 2).pull 2) ?_
                  obtain ⟨q11, hc11, hst⟩ := osl_cells (hst.pull 1) hx11
                  have hst := hst.drop
                  refine Q_take (i := 10) (v := I x14.Req.Vol) rfl (by kernel_rfl) (fun _ _ _ h => h) rfl rfl rfl (fun w hst => by obtain ⟨_, hc, _⟩ := osl_cells (hst.pull 1) hx11; exact R_loadAt (off := ao a1 + (0 : Int).toNat * 5) (j := 2) hc rfl rfl) (((hst.pull 2).pull 1).pull 2) ?_
                  refine Q_take (i := 11) (v := .bool (x13.Req.Vol == x14.Req.Vol)) rfl (by kernel_rfl) (fun _ _ _ h => h) rfl rfl rfl (fun _ _ => R_pure (by kernel_rfl)) (((hst.pull 2).pull 1).pull 2) ?_
                  refine Q_take (i := 12) (v := .bool (x13.Req.Vol == x14.Req.Vol)) rfl (by kernel_rfl) (fun _ _ _ h => h) rfl rfl rfl (fun _ _ => R_pure (by kernel_rfl)) (((hst.pull 2).pull 1).pull 2) ?_
                  by_cases h : (x13.Req.Vol == x14.Req.Vol) = true
                  · have hr := (if_pos h).symm.trans hr
                    refine C_keep ((78, .bool (x13.Req.Vol == x14.Req.Vol)) :: [(0, pt p1 0), (7, I v15), (10, I v16), (11, pt p5 0), (59, .slice a1 x1.l.length c1), (60, I (x1.l.length : Int)), (61, I v16), (65, .agg #[I x13.Req.ID, .int .u64 x13.Req.Blob, I x13.Req.Vol, I x13.Req.At, I x13.passed]), (66, pt p5 0), (67, pt p5 2), (68, I x13.Req.Vol), (69, pt p1 0), (70, pt p1 0), (71, pt p1 0), (72, .slice a1 x1.l.length c1), (73, pt (ab a1) (ao a1 + (0 : Int).toNat * 5)), (74, pt (ab a1) (ao a1 + (0 : Int).toNat * 5)), (75, pt (ab a1) (ao a1 + (0 : Int).toNat * 5 + 2)), (76, I x14.Req.Vol), (77, .bool (x13.Req.Vol == x14.Req.Vol))]) rfl fun b => ?_
                    refine C_bool h ?_
                    refine Q_take (i := 13) (v := I v15) rfl (by kernel_rfl) (fun _ _ _ h => h) rfl rfl rfl (fun _ _ => R_pure (by kernel_rfl)) (((hst.pull 2).pull 1).pull 2) ?_
                    refine Q_take (i := 14) (v := .bool (decide (v15 < 0))) rfl (by kernel_rfl) (fun _ _ _ h => h) rfl rfl rfl (fun _ _ => R_pure (by kernel_rfl)) (((hst.pull 2).pull 1).pull 2) ?_
                    refine Q_take (i := 15) (v := .bool (decide (v15 < 0))) rfl (by kernel_rfl) (fun _ _ _ h => h) rfl rfl rfl (fun _ _ => R_pure (by kernel_rfl)) (((hst.pull 2).pull 1).pull 2) ?_
                    by_cases h : (decide (v15 < 0)) = true
                    · have hr := (if_pos h).symm.trans hr
                      refine C_keep ((81, .bool (decide (v15 < 0))) :: [(0, pt p1 0), (7, I v15), (10, I v16), (11, pt p5 0), (59, .slice a1 x1.l.length c1), (60, I (x1.l.length : Int)), (61, I v16), (65, .agg #[I x13.Req.ID, .int .u64 x13.Req.Blob, I x13.Req.Vol, I x13.Req.At, I x13.passed]), (66, pt p5 0), (67, pt p5 2), (68, I x13.Req.Vol), (69, pt p1 0), (70, pt p1 0), (71, pt p1 0), (72, .slice a1 x1.l.length c1), (73, pt (ab a1) (ao a1 + (0 : Int).toNat * 5)), (74, pt (ab a1) (ao a1 + (0 : Int).toNat * 5)), (75, pt (ab a1) (ao a1 + (0 : Int).toNat * 5 + 2)), (76, I x14.Req.Vol), (77, .bool (x13.Req.Vol == x14.Req.Vol)), (78, .bool true), (79, I v15), (80, .bool (decide (v15 < 0)))]) rfl fun b => ?_
                      refine C_bool h ?_
                      refine Q_skip (i := 16) rfl (by kernel_rfl) (fun _ _ _ h => h) rfl rfl rfl (((hst.pull 2).pull 1).pull 2) ?_
                      refine Q_skip (i := 17) rfl (by kernel_rfl) (fun _ _ _ h => h) rfl rfl rfl (((hst.pull 2).pull 1).pull 2) ?_
                      refine Q_skip (i := 18) rfl (by kernel_rfl) (fun _ _ _ h => h) rfl rfl rfl (((hst.pull 2).pull 1).pull 2) ?_
                      refine Q_skip (i := 19) rfl (by kernel_rfl) (fun _ _ _ h => h) rfl rfl rfl (((hst.pull 2).pull 1).pull 2) ?_
                      refine Q_skip (i := 20) rfl (by kernel_rfl) (fun _ _ _ h => h) rfl rfl rfl (((hst.pull 2).pull 1).pull 2) ?_
                      refine Q_skip (i := 21) rfl (by kernel_rfl) (fun _ _ _ h => h) rfl rfl rfl (((hst.pull 2).pull 1).pull 2) ?_
                      refine Q_skip (i := 22) rfl (by kernel_rfl) (fun _ _ _ h => h) rfl rfl rfl (((hst.pull 2).pull 1).pull 2) ?_
                      refine Q_skip (i := 23) rfl (by kernel_rfl) (fun _ _ _ h => h) rfl rfl rfl (((hst.pull 2).pull 1).pull 2) ?_
                      refine Q_skip (i := 24) rfl (by kernel_rfl) (fun _ _ _ h => h) rfl rfl rfl (((hst.pull 2).pull 1).pull 2) ?_
                      refine Q_take (i := 25) (v := .bool true) rfl (by kernel_rfl) (fun _ _ _ h => h) rfl rfl rfl (fun _ _ => R_pure (by kernel_rfl)) (((hst.pull 2).pull 1).pull 2) ?_
                      refine Q_take (i := 26) (v := .bool true) rfl (by kernel_rfl) (fun _ _ _ h => h) rfl rfl rfl (fun _ _ => R_pure (by kernel_rfl)) (((hst.pull 2).pull 1).pull 2) ?_
                      refine wpG_done (by kernel_rfl) ?_ _
                      refine C_keepQ [(0, pt p1 0), (7, I v15), (10, I v16), (59, .slice a1 x1.l.length c1), (60, I (x1.l.length : Int)), (61, I v16), (92, .bool true)] rfl fun b => ?_
                      refine th_n ?_
                      obtain rfl := Option.some.inj hr
                      have hst := (((hst.pull 2).pull 2).pull 2)
                      exact (kpX [(0, pt p1 0), (7, I v15), (10, I v16), (59, .slice a1 x1.l.length c1), (60, I (x1.l.length : Int)), (61, I v16), (92, .bool true)] rfl hst)
                    · have hr := (if_neg h).symm.trans hr
                      refine C_keep ((81, .bool (decide (v15 < 0))) :: [(0, pt p1 0), (7, I v15), (10, I v16), (11, pt p5 0), (59, .slice a1 x1.l.length c1), (60, I (x1.l.length : Int)), (61, I v16), (65, .agg #[I x13.Req.ID, .int .u64 x13.Req.Blob, I x13.Req.Vol, I x13.Req.At, I x13.passed]), (66, pt p5 0), (67, pt p5 2), (68, I x13.Req.Vol), (69, pt p1 0), (70, pt p1 0), (71, pt p1 0), (72, .slice a1 x1.l.length c1), (73, pt (ab a1) (ao a1 + (0 : Int).toNat * 5)), (74, pt (ab a1) (ao a1 + (0 : Int).toNat * 5)), (75, pt (ab a1) (ao a1 + (0 : Int).toNat * 5 + 2)), (76, I x14.Req.Vol), (77, .bool (x13.Req.Vol == x14.Req.Vol)), (78, .bool true), (79, I v15), (80, .bool (decide (v15 < 0)))]) rfl fun b => ?_
                      refine C_bool (eq_false_of_ne_true h) ?_
                      refine Q_take (i := 16) (v := .agg #[I x13.Req.ID, .int .u64 x13.Req.Blob, I x13.Req.Vol, I x13.Req.At, I x13.passed]) rfl (by kernel_rfl) (fun _ _ _ h => h) rfl rfl rfl (fun w hst => R_load hst rfl rfl) (((hst.pull 2).pull 1).pull 2) ?_
                      refine Q_take (i := 17) (v := pt p1 0) rfl (by kernel_rfl) (fun _ _ _ h => h) rfl rfl rfl (fun _ _ => R_pure (by kernel_rfl)) (((hst.pull 2).pull 1).pull 2) ?_
                      refine Q_take (i := 18) (v := pt p1 0) rfl (by kernel_rfl) (fun _ _ _ h => h) rfl rfl rfl (fun _ _ => R_pure (by kernel_rfl)) (((hst.pull 2).pull 1).pull 2) ?_
                      refine Q_take (i := 19) (v := pt p1 0) rfl (by kernel_rfl) (fun _ _ _ h => h) rfl rfl rfl (fun _ _ => R_pure (by kernel_rfl)) (((hst.pull 2).pull 1).pull 2) ?_
                      refine Q_take (i := 20) (v := .slice a1 x1.l.length c1) rfl (by kernel_rfl) (fun _ _ _ h => h) rfl rfl rfl (fun w hst => R_load (hst.pull 2) rfl rfl) (((hst.pull 2).pull 1).pull 2) ?_
                      refine Q_take (i := 21) (v := I v15) rfl (by kernel_rfl) (fun _ _ _ h => h) rfl rfl rfl (fun _ _ => R_pure (by kernel_rfl)) (((hst.pull 2).pull 1).pull 2) ?_
                      obtain ⟨x15, hx12, hr⟩ := bnd hr
                      refine Q_take (i := 22) (v := pt (ab a1) (ao a1 + v15.toNat * 5)) rfl (by kernel_rfl) (fun _ _ _ h => h) rfl rfl rfl (fun _ _ => (R_ia L28 rfl rfl (osl_addr hst hx12) (gt_some hx12).1 (gt_some hx12).2.1)) (((hst.pull 2).pull 1).pull 2) ?_
                      obtain ⟨q12, hc12, hst⟩ := osl_cells hst hx12
                      have hst := hst.drop
                      refine Q_take (i := 23) (v := .agg #[I x15.Req.ID, .int .u64 x15.Req.Blob, I x15.Req.Vol, I x15.Req.At, I x15.passed]) rfl (by kernel_rfl) (fun _ _ _ h => h) rfl rfl rfl (fun w hst => by obtain ⟨_, hc, _⟩ := osl_cells (hst.pull 1) hx12; exact R_loadAt (off := ao a1 + v15.toNat * 5) (j := 0) hc rfl rfl) (((hst.pull 2).pull 1).pull 2) ?_
                      obtain ⟨y16, hy16, hr⟩ := bnd hr
                      refine Q_one (i := 24) (by kernel_rfl) rfl rfl (O_call (vs := #[.agg #[I x13.Req.ID, .int .u64 x13.Req.Blob, I x13.Req.Vol, I x13.Req.At, I x13.passed], .agg #[I x15.Req.ID, .int .u64 x15.Req.Blob, I x15.Req.Vol, I x15.Req.At, I x15.passed], I 0]) Try.call37 (by kernel_rfl) (queue_ahead_ok k x13 x15 0 y16 hst hy16 fun w hst => ?_))
                      refine CK_ret rfl ?_
                      refine ⟨(((hst.pull 2).pull 1).pull 2), ?_⟩
                      refine Q_take (i := 25) (v := .bool y16) rfl (by kernel_rfl) (fun _ _ _ h => h) rfl rfl rfl (fun _ _ => R_pure (by kernel_rfl)) (((hst.pull 2).pull 1).pull 2) ?_
                      refine Q_take (i := 26) (v := .bool y16) rfl (by kernel_rfl) (fun _ _ _ h => h) rfl rfl rfl (fun _ _ => R_pure (by kernel_rfl)) (((hst.pull 2).pull 1).pull 2) ?_
                      refine wpG_done (by kernel_rfl) ?_ _
                      refine C_keepQ [(0, pt p1 0), (7, I v15), (10, I v16), (59, .slice a1 x1.l.length c1), (60, I (x1.l.length : Int)), (61, I v16), (92, .bool y16)] rfl fun b => ?_
                      refine th_n ?_
                      obtain rfl := Option.some.inj hr
                      have hst := (((hst.pull 2).pull 2).pull 2)
                      exact (kpX [(0, pt p1 0), (7, I v15), (10, I v16), (59, .slice a1 x1.l.length c1), (60, I (x1.l.length : Int)), (61, I v16), (92, .bool y16)] rfl hst)
                  · have hr := (if_neg h).symm.trans hr
                    refine C_keep ((78, .bool (x13.Req.Vol == x14.Req.Vol)) :: [(0, pt p1 0), (7, I v15), (10, I v16), (11, pt p5 0), (59, .slice a1 x1.l.length c1), (60, I (x1.l.length : Int)), (61, I v16), (65, .agg #[I x13.Req.ID, .int .u64 x13.Req.Blob, I x13.Req.Vol, I x13.Req.At, I x13.passed]), (66, pt p5 0), (67, pt p5 2), (68, I x13.Req.Vol), (69, pt p1 0), (70, pt p1 0), (71, pt p1 0), (72, .slice a1 x1.l.length c1), (73, pt (ab a1) (ao a1 + (0 : Int).toNat * 5)), (74, pt (ab a1) (ao a1 + (0 : Int).toNat * 5)), (75, pt (ab a1) (ao a1 + (0 : Int).toNat * 5 + 2)), (76, I x14.Req.Vol), (77, .bool (x13.Req.Vol == x14.Req.Vol))]) rfl fun b => ?_
                    refine C_bool (eq_false_of_ne_true h) ?_
                    refine Q_skip (i := 13) rfl (by kernel_rfl) (fun _ _ _ h => h) rfl rfl rfl (((hst.pull 2).pull 1).pull 2) ?_
                    refine Q_skip (i := 14) rfl (by kernel_rfl) (fun _ _ _ h => h) rfl rfl rfl (((hst.pull 2).pull 1).pull 2) ?_
                    refine Q_skip (i := 15) rfl (by kernel_rfl) (fun _ _ _ h => h) rfl rfl rfl (((hst.pull 2).pull 1).pull 2) ?_
                    refine Q_skip (i := 16) rfl (by kernel_rfl) (fun _ _ _ h => h) rfl rfl rfl (((hst.pull 2).pull 1).pull 2) ?_
                    refine Q_skip (i := 17) rfl (by kernel_rfl) (fun _ _ _ h => h) rfl rfl rfl (((hst.pull 2).pull 1).pull 2) ?_
                    refine Q_skip (i := 18) rfl (by kernel_rfl) (fun _ _ _ h => h) rfl rfl rfl (((hst.pull 2).pull 1).pull 2) ?_
                    refine Q_skip (i := 19) rfl (by kernel_rfl) (fun _ _ _ h => h) rfl rfl rfl (((hst.pull 2).pull 1).pull 2) ?_
                    refine Q_skip (i := 20) rfl (by kernel_rfl) (fun _ _ _ h => h) rfl rfl rfl (((hst.pull 2).pull 1).pull 2) ?_
                    refine Q_skip (i := 21) rfl (by kernel_rfl) (fun _ _ _ h => h) rfl rfl rfl (((hst.pull 2).pull 1).pull 2) ?_
                    refine Q_skip (i := 22) rfl (by kernel_rfl) (fun _ _ _ h => h) rfl rfl rfl (((hst.pull 2).pull 1).pull 2) ?_
                    refine Q_skip (i := 23) rfl (by kernel_rfl) (fun _ _ _ h => h) rfl rfl rfl (((hst.pull 2).pull 1).pull 2) ?_
                    refine Q_skip (i := 24) rfl (by kernel_rfl) (fun _ _ _ h => h) rfl rfl rfl (((hst.pull 2).pull 1).pull 2) ?_
                    refine Q_skip (i := 25) rfl (by kernel_rfl) (fun _ _ _ h => h) rfl rfl rfl (((hst.pull 2).pull 1).pull 2) ?_
                    refine Q_take (i := 26) (v := .bool false) rfl (by kernel_rfl) (fun _ _ _ h => h) rfl rfl rfl (fun _ _ => R_pure (by kernel_rfl)) (((hst.pull 2).pull 1).pull 2) ?_
                    refine wpG_done (by kernel_rfl) ?_ _
                    refine C_keepQ [(0, pt p1 0), (7, I v15), (10, I v16), (59, .slice a1 x1.l.length c1), (60, I (x1.l.length : Int)), (61, I v16), (92, .bool false)] rfl fun b => ?_
                    refine th_n ?_
                    obtain rfl := Option.some.inj hr
                    have hst := (((hst.pull 2).pull 2).pull 2)
                    exact (kpX [(0, pt p1 0), (7, I v15), (10, I v16), (59, .slice a1 x1.l.length c1), (60, I (x1.l.length : Int)), (61, I v16), (92, .bool false)] rfl hst)
            · have hr := (if_neg (by rw [h]; exact Bool.false_ne_true)).symm.trans hr
              refine wp_exit ?_
              refine th_x (th_x (ib_x (th_n ?_)))
              obtain rfl := Option.some.inj hr
              have hst := ((hst.pull 1).pull 1)
              exact (kpX [(7, I v15)] rfl hst)
    · have hst := ((hst.pull 1).pull 1)
      refine wp_block ?_
      refine wp_loop_fuel (fun j a w => ∃ (v11 : Int) (v12 : Int) (b : Nat → Value), a = mkF 96 b [(0, pt p1 0), (1, I x2), (2, I x3), (7, I v11), (23, .slice a1 x1.l.length c1), (24, I (x1.l.length : Int)), (25, I v12)] ∧ St G w (osl r_T_queue_waiting 70 a1 c1 x1.l :: blk p1 (cl [.slice a1 x1.l.length c1] 30) :: F) ∧ queue_Queue_choose_l1 k x1 x2 x3 j v11 v12 = some y9) (k := k) ⟨((-1) : Int), (0 : Int), (kpX [(0, pt p1 0), (1, I x2), (2, I x3), (7, I (-1)), (23, .slice a1 x1.l.length c1), (24, I (x1.l.length : Int)), (25, I 0)] rfl ⟨hst, hy9⟩)⟩ ?_ ?_
      · rintro _ _ ⟨_, _, _, _, _, h⟩
        rw [queue_Queue_choose_l1] at h
        cases h
      · rintro j _ w ⟨v11, v12, b, rfl, hst, hr⟩
        rw [queue_Queue_choose_l1] at hr
        refine wp_seq ?_
        refine wp_reg ?_
        refine L_pure 1 [(0, pt p1 0), (1, I x2), (2, I x3), (7, I v11), (23, .slice a1 x1.l.length c1), (24, I (x1.l.length : Int)), (25, I v12), (26, .bool (decide (v12 < (x1.l.length : Int))))] (by kernel_rfl) fun b => ?_
        refine wpL_nil ?_
        refine th_n ?_
        refine wp_seq ?_
        refine wp_cond_mkF (t := decide (v12 < (x1.l.length : Int))) rfl (fun h => ?_) (fun h => ?_)
        · have hr := (if_pos h).symm.trans hr
          refine wp_skip ?_
          refine th_n ?_
          obtain ⟨y10, hy10, hk8⟩ := bnd hr
          clear hr
          refine wp_seq_cut (fun a w => ∃ (b : Nat → Value), a = mkF 96 b [(0, pt p1 0), (1, I x2), (2, I x3), (7, I y10), (23, .slice a1 x1.l.length c1), (24, I (x1.l.length : Int)), (25, I v12)] ∧ St G w (osl r_T_queue_waiting 70 a1 c1 x1.l :: blk p1 (cl [.slice a1 x1.l.length c1] 30) :: F)) ?_ ?_
          · rintro _ w ⟨b, rfl, hst⟩
            have hr := hk8
            refine wp_reg ?_
            refine L_pure 2 [(0, pt p1 0), (1, I x2), (2, I x3), (7, I y10), (23, .slice a1 x1.l.length c1), (24, I (x1.l.length : Int)), (25, I (IntKind.i64.wrap (v12 + 1)))] (by kernel_rfl) fun b => ?_
            refine wpL_nil ?_
            refine th_n ?_
            have hst := ((hst.pull 1).pull 1)
            exact ⟨y10, (IntKind.i64.wrap (v12 + 1)), (kpX [(0, pt p1 0), (1, I x2), (2, I x3), (7, I y10), (23, .slice a1 x1.l.length c1), (24, I (x1.l.length : Int)), (25, I (IntKind.i64.wrap (v12 + 1)))] rfl ⟨hst, hr⟩)⟩
          · have hr := hy10
            refine wp_block ?_
            refine wp_seq ?_
            refine wp_reg ?_
            refine L_pure 1 [(0, pt p1 0), (1, I x2), (2, I x3), (7, I v11), (23, .slice a1 x1.l.length c1), (24, I (x1.l.length : Int)), (25, I v12), (27, I v12)] (by kernel_rfl) fun b => ?_
            obtain ⟨x11, hx8, hr⟩ := bnd hr
            refine L_op rfl (O_run (v := pt (ab a1) (ao a1 + v12.toNat * 5)) (w' := w) (R_ia L28 rfl rfl (osl_addr hst hx8) (gt_some hx8).1 (gt_some hx8).2.1) rfl rfl ?_)
            obtain ⟨q8, hc8, hst⟩ := osl_cells hst hx8
            have hst := hst.drop
            refine L_op rfl (O_run (v := .agg #[I x11.Req.ID, .int .u64 x11.Req.Blob, I x11.Req.Vol, I x11.Req.At, I x11.passed]) (w' := w) (R_loadAt (off := ao a1 + v12.toNat * 5) (j := 0) hc8 rfl rfl) rfl rfl ?_)
            refine L_op rfl (O_alloc (i := Try.t70) (z := .agg #[I 0, .int .u64 0, I 0, I 0, I 0]) [I 0, .int .u64 0, I 0, I 0, I 0] hst rfl rfl rfl rfl fun p4 w hst => ?_)
            refine L_pure 1 [(0, pt p1 0), (1, I x2), (2, I x3), (7, I v11), (8, I v12), (9, pt p4 0), (23, .slice a1 x1.l.length c1), (24, I (x1.l.length : Int)), (25, I v12), (29, .agg #[I x11.Req.ID, .int .u64 x11.Req.Blob, I x11.Req.Vol, I x11.Req.At, I x11.passed])] (by kernel_rfl) fun b => ?_
            refine L_op rfl (O_store [I x11.Req.ID, .int .u64 x11.Req.Blob, I x11.Req.Vol, I x11.Req.At, I x11.passed] hst rfl rfl (by kernel_rfl) fun w hst => ?_)
            refine wpL_nil ?_
            refine th_n ?_
            obtain ⟨y11, hy11, hk9⟩ := bnd hr
            clear hr
            refine wp_seq_cut (fun a w => ∃ (b : Nat → Value), a = mkF 96 b [(0, pt p1 0), (1, I x2), (2, I x3), (7, I v11), (8, I v12), (23, .slice a1 x1.l.length c1), (24, I (x1.l.length : Int)), (25, I v12), (50, .bool y11)] ∧ St G w (blk p4 (cl [I x11.Req.ID, .int .u64 x11.Req.Blob, I x11.Req.Vol, I x11.Req.At, I x11.passed] 70) :: osl r_T_queue_waiting 70 a1 c1 x1.l :: blk p1 (cl [.slice a1 x1.l.length c1] 30) :: F)) ?_ ?_
            · rintro _ w ⟨b, rfl, hst⟩
              have hr := hk9
              refine wp_cond_mkF (t := y11) rfl (fun h => ?_) (fun h => ?_)
              · have hr := (if_pos h).symm.trans hr
                refine wp_reg ?_
                refine L_pure 2 [(0, pt p1 0), (1, I x2), (2, I x3), (7, I v12), (23, .slice a1 x1.l.length c1), (24, I (x1.l.length : Int)), (25, I v12)] (by kernel_rfl) fun b => ?_
                refine wpL_nil ?_
                refine ib_n (th_n ?_)
                obtain rfl := Option.some.inj hr
                have hst := (((hst.pull 2).pull 2).cut 2 1)
                exact (kpX [(0, pt p1 0), (1, I x2), (2, I x3), (7, I v12), (23, .slice a1 x1.l.length c1), (24, I (x1.l.length : Int)), (25, I v12)] rfl hst)
              · have hr := (if_neg (by rw [h]; exact Bool.false_ne_true)).symm.trans hr
                refine wp_skip ?_
                refine ib_n (th_n ?_)
                obtain rfl := Option.some.inj hr
                have hst := (((hst.pull 2).pull 2).cut 2 1)
                exact (kpX [(0, pt p1 0), (1, I x2), (2, I x3), (7, I v11), (23, .slice a1 x1.l.length c1), (24, I (x1.l.length : Int)), (25, I v12)] rfl hst)
            · have hr := hy11
              refine wp_regG (SQ (fun w => St G w (blk p4 (cl [I x11.Req.ID, .int .u64 x11.Req.Blob, I x11.Req.Vol, I x11.Req.At, I x11.passed] 70) :: osl r_T_queue_waiting 70 a1 c1 x1.l :: blk p1 (cl [.slice a1 x1.l.length c1] 30) :: F))) rfl ?_
              have hst := hst.draw (n := w.drawn + 1)
              generalize { w with drawn := w.drawn + 1 } = w at hst ⊢
              refine Q_take (i := 0) (v := pt p4 0) rfl (by kernel_rfl) (fun _ _ _ h => h) rfl rfl rfl (fun _ _ => R_pure (by kernel_rfl)) (((hst.pull 2).pull 2).pull 2) ?_
              refine Q_take (i := 1) (v := pt p4 2) rfl (by kernel_rfl) (fun _ _ _ h => h) rfl rfl rfl (fun _ _ => R_pure (by kernel_rfl)) (((hst.pull 2).pull 2).pull 2) ?_
              refine Q_take (i := 2) (v := I x11.Req.Vol) rfl (by kernel_rfl) (fun _ _ _ h => h) rfl rfl rfl (fun w hst => R_load hst rfl rfl) (((hst.pull 2).pull 2).pull 2) ?_
              refine Q_take (i := 3) (v := I x2) rfl (by kernel_rfl) (fun _ _ _ h => h) rfl rfl rfl (fun _ _ => R_pure (by kernel_rfl)) (((hst.pull 2).pull 2).pull 2) ?_
              refine Q_take (i := 4) (v := .bool (x11.Req.Vol == x2)) rfl (by kernel_rfl) (fun _ _ _ h => h) rfl rfl rfl (fun _ _ => R_pure (by kernel_rfl)) (((hst.pull 2).pull 2).pull 2) ?_
              refine Q_take (i := 5) (v := .bool (x11.Req.Vol == x2)) rfl (by kernel_rfl) (fun _ _ _ h => h) rfl rfl rfl (fun _ _ => R_pure (by kernel_rfl)) (((hst.pull 2).pull 2).pull 2) ?_
              by_cases h : (x11.Req.Vol == x2) = true
              · have hr := (if_pos h).symm.trans hr
                refine C_keep ((35, .bool (x11.Req.Vol == x2)) :: [(0, pt p1 0), (1, I x2), (2, I x3), (7, I v11), (8, I v12), (9, pt p4 0), (23, .slice a1 x1.l.length c1), (24, I (x1.l.length : Int)), (25, I v12), (29, .agg #[I x11.Req.ID, .int .u64 x11.Req.Blob, I x11.Req.Vol, I x11.Req.At, I x11.passed]), (30, pt p4 0), (31, pt p4 2), (32, I x11.Req.Vol), (33, I x2), (34, .bool (x11.Req.Vol == x2))]) rfl fun b => ?_
                refine C_bool h ?_
                refine Q_take (i := 6) (v := I v11) rfl (by kernel_rfl) (fun _ _ _ h => h) rfl rfl rfl (fun _ _ => R_pure (by kernel_rfl)) (((hst.pull 2).pull 2).pull 2) ?_
                refine Q_take (i := 7) (v := .bool (decide (v11 < 0))) rfl (by kernel_rfl) (fun _ _ _ h => h) rfl rfl rfl (fun _ _ => R_pure (by kernel_rfl)) (((hst.pull 2).pull 2).pull 2) ?_
                refine Q_take (i := 8) (v := .bool (decide (v11 < 0))) rfl (by kernel_rfl) (fun _ _ _ h => h) rfl rfl rfl (fun _ _ => R_pure (by kernel_rfl)) (((hst.pull 2).pull 2).pull 2) ?_
                by_cases h : (decide (v11 < 0)) = true
                · have hr := (if_pos h).symm.trans hr
                  refine C_keep ((38, .bool (decide (v11 < 0))) :: [(0, pt p1 0), (1, I x2), (2, I x3), (7, I v11), (8, I v12), (9, pt p4 0), (23, .slice a1 x1.l.length c1), (24, I (x1.l.length : Int)), (25, I v12), (29, .agg #[I x11.Req.ID, .int .u64 x11.Req.Blob, I x11.Req.Vol, I x11.Req.At, I x11.passed]), (30, pt p4 0), (31, pt p4 2), (32, I x11.Req.Vol), (33, I x2), (34, .bool (x11.Req.Vol == x2)), (35, .bool true), (36, I v11), (37, .bool (decide (v11 < 0)))]) rfl fun b => ?_
                  refine C_bool h ?_
                  refine Q_skip (i := 9) rfl (by kernel_rfl) (fun _ _ _ h => h) rfl rfl rfl (((hst.pull 2).pull 2).pull 2) ?_
                  refine Q_skip (i := 10) rfl (by kernel_rfl) (fun _ _ _ h => h) rfl rfl rfl (((hst.pull 2).pull 2).pull 2) ?_
                  refine Q_skip (i := 11) rfl (by kernel_rfl) (fun _ _ _ h => h) rfl rfl rfl (((hst.pull 2).pull 2).pull 2) ?_
                  refine Q_skip (i := 12) rfl (by kernel_rfl) (fun _ _ _ h => h) rfl rfl rfl (((hst.pull 2).pull 2).pull 2) ?_
                  refine Q_skip (i := 13) rfl (by kernel_rfl) (fun _ _ _ h => h) rfl rfl rfl (((hst.pull 2).pull 2).pull 2) ?_
                  refine Q_skip (i := 14) rfl (by kernel_rfl) (fun _ _ _ h => h) rfl rfl rfl (((hst.pull 2).pull 2).pull 2) ?_
                  refine Q_skip (i := 15) rfl (by kernel_rfl) (fun _ _ _ h => h) rfl rfl rfl (((hst.pull 2).pull 2).pull 2) ?_
                  refine Q_skip (i := 16) rfl (by kernel_rfl) (fun _ _ _ h => h) rfl rfl rfl (((hst.pull 2).pull 2).pull 2) ?_
                  refine Q_skip (i := 17) rfl (by kernel_rfl) (fun _ _ _ h => h) rfl rfl rfl (((hst.pull 2).pull 2).pull 2) ?_
                  refine Q_skip (i := 18) rfl (by kernel_rfl) (fun _ _ _ h => h) rfl rfl rfl (((hst.pull 2).pull 2).pull 2) ?_
                  refine Q_take (i := 19) (v := .bool true) rfl (by kernel_rfl) (fun _ _ _ h => h) rfl rfl rfl (fun _ _ => R_pure (by kernel_rfl)) (((hst.pull 2).pull 2).pull 2) ?_
                  refine Q_take (i := 20) (v := .bool true) rfl (by kernel_rfl) (fun _ _ _ h => h) rfl rfl rfl (fun _ _ => R_pure (by kernel_rfl)) (((hst.pull 2).pull 2).pull 2) ?_
                  refine wpG_done (by kernel_rfl) ?_ _
                  refine C_keepQ [(0, pt p1 0), (1, I x2), (2, I x3), (7, I v11), (8, I v12), (23, .slice a1 x1.l.length c1), (24, I (x1.l.length : Int)), (25, I v12), (50, .bool true)] rfl fun b => ?_
                  refine th_n ?_
                  obtain rfl := Option.some.inj hr
                  have hst := (((hst.pull 2).pull 2).pull 2)
                  exact (kpX [(0, pt p1 0), (1, I x2), (2, I x3), (7, I v11), (8, I v12), (23, .slice a1 x1.l.length c1), (24, I (x1.l.length : Int)), (25, I v12), (50, .bool true)] rfl hst)
                · have hr := (if_neg h).symm.trans hr
                  refine C_keep ((38, .bool (decide (v11 < 0))) :: [(0, pt p1 0), (1, I x2), (2, I x3), (7, I v11), (8, I v12), (9, pt p4 0), (23, .slice a1 x1.l.length c1), (24, I (x1.l.length : Int)), (25, I v12), (29, .agg #[I x11.Req.ID, .int .u64 x11.Req.Blob, I x11.Req.Vol, I x11.Req.At, I x11.passed]), (30, pt p4 0), (31, pt p4 2), (32, I x11.Req.Vol), (33, I x2), (34, .bool (x11.Req.Vol == x2)), (35, .bool true), (36, I v11), (37, .bool (decide (v11 < 0)))]) rfl fun b => ?_
                  refine C_bool (eq_false_of_ne_true h) ?_
                  refine Q_take (i := 9) (v := .agg #[I x11.Req.ID, .int .u64 x11.Req.Blob, I x11.Req.Vol, I x11.Req.At, I x11.passed]) rfl (by kernel_rfl) (fun _ _ _ h => h) rfl rfl rfl (fun w hst => R_load hst rfl rfl) (((hst.pull 2).pull 2).pull 2) ?_
                  refine Q_take (i := 10) (v := pt p1 0) rfl (by kernel_rfl) (fun _ _ _ h => h) rfl rfl rfl (fun _ _ => R_pure (by kernel_rfl)) (((hst.pull 2).pull 2).pull 2) ?_
                  refine Q_take (i := 11) (v := pt p1 0) rfl (by kernel_rfl) (fun _ _ _ h => h) rfl rfl rfl (fun _ _ => R_pure (by kernel_rfl)) (((hst.pull 2).pull 2).pull 2) ?_
                  refine Q_take (i := 12) (v := pt p1 0) rfl (by kernel_rfl) (fun _ _ _ h => h) rfl rfl rfl (fun _ _ => R_pure (by kernel_rfl)) (((hst.pull 2).pull 2).pull 2) ?_
                  refine Q_take (i := 13) (v := .slice a1 x1.l.length c1) rfl (by kernel_rfl) (fun _ _ _ h => h) rfl rfl rfl (fun w hst => R_load (hst.pull 2) rfl rfl) (((hst.pull 2).pull 2).pull 2) ?_
                  refine Q_take (i := 14) (v := I v11) rfl (by kernel_rfl) (fun _ _ _ h => h) rfl rfl rfl (fun _ _ => R_pure (by kernel_rfl)) (((hst.pull 2).pull 2).pull 2) ?_
                  obtain ⟨x12, hx9, hr⟩ := bnd hr
                  refine Q_take (i := 15) (v := pt (ab a1) (ao a1 + v11.toNat * 5)) rfl (by kernel_rfl) (fun _ _ _ h => h) rfl rfl rfl (fun _ _ => (R_ia L28 rfl rfl (osl_addr (hst.pull 1) hx9) (gt_some hx9).1 (gt_some hx9).2.1)) (((hst.pull 2).pull 2).pull 2) ?_
                  obtain ⟨q9, hc9, hst⟩ := osl_cells (hst.pull 1) hx9
                  have hst := hst.drop
                  refine Q_take (i := 16) (v := .agg #[I x12.Req.ID, .int .u64 x12.Req.Blob, I x12.Req.Vol, I x12.Req.At, I x12.passed]) rfl (by kernel_rfl) (fun _ _ _ h => h) rfl rfl rfl (fun w hst => by obtain ⟨_, hc, _⟩ := osl_cells (hst.pull 1) hx9; exact R_loadAt (off := ao a1 + v11.toNat * 5) (j := 0) hc rfl rfl) (((hst.pull 2).pull 1).pull 2) ?_
                  refine Q_take (i := 17) (v := I x3) rfl (by kernel_rfl) (fun _ _ _ h => h) rfl rfl rfl (fun _ _ => R_pure (by kernel_rfl)) (((hst.pull 2).pull 1).pull 2) ?_
                  obtain ⟨y12, hy12, hr⟩ := bnd hr
                  refine Q_one (i := 18) (by kernel_rfl) rfl rfl (O_call (vs := #[.agg #[I x11.Req.ID, .int .u64 x11.Req.Blob, I x11.Req.Vol, I x11.Req.At, I x11.passed], .agg #[I x12.Req.ID, .int .u64 x12.Req.Blob, I x12.Req.Vol, I x12.Req.At, I x12.passed], I x3]) Try.call37 (by kernel_rfl) (queue_ahead_ok k x11 x12 x3 y12 hst hy12 fun w hst => ?_))
                  refine CK_ret rfl ?_
                  refine ⟨(((hst.pull 2).pull 1).pull 2), ?_⟩
                  refine Q_take (i := 19) (v := .bool y12) rfl (by kernel_rfl) (fun _ _ _ h => h) rfl rfl rfl (fun _ _ => R_pure (by kernel_rfl)) (((hst.pull 2).pull 1).pull 2) ?_
                  refine Q_take (i := 20) (v := .bool y12) rfl (by kernel_rfl) (fun _ _ _ h => h) rfl rfl rfl (fun _ _ => R_pure (by kernel_rfl)) (((hst.pull 2).pull 1).pull 2) ?_
                  refine wpG_done (by kernel_rfl) ?_ _
                  refine C_keepQ [(0, pt p1 0), (1, I x2), (2, I x3), (7, I v11), (8, I v12), (23, .slice a1 x1.l.length c1), (24, I (x1.l.length : Int)), (25, I v12), (50, .bool y12)] rfl fun b => ?_
                  refine th_n ?_
                  obtain rfl := Option.some.inj hr
                  have hst := (((hst.pull 2).pull 1).pull 2)
                  exact (kpX [(0, pt p1 0), (1, I x2), (2, I x3), (7, I v11), (8, I v12), (23, .slice a1 x1.l.length c1), (24, I (x1.l.length : Int)), (25, I v12), (50, .bool y12)] rfl hst)
              · have hr := (if_neg h).symm.trans hr
                refine C_keep ((35, .bool (x11.Req.Vol == x2)) :: [(0, pt p1 0), (1, I x2), (2, I x3), (7, I v11), (8, I v12), (9, pt p4 0), (23, .slice a1 x1.l.length c1), (24, I (x1.l.length : Int)), (25, I v12), (29, .agg #[I x11.Req.ID, .int .u64 x11.Req.Blob, I x11.Req.Vol, I x11.Req.At, I x11.passed]), (30, pt p4 0), (31, pt p4 2), (32, I x11.Req.Vol), (33, I x2), (34, .bool (x11.Req.Vol == x2))]) rfl fun b => ?_
                refine C_bool (eq_false_of_ne_true h) ?_
                refine Q_skip (i := 6) rfl (by kernel_rfl) (fun _ _ _ h => h) rfl rfl rfl (((hst.pull 2).pull 2).pull 2) ?_
                refine Q_skip (i := 7) rfl (by kernel_rfl) (fun _ _ _ h => h) rfl rfl rfl (((hst.pull 2).pull 2).pull 2) ?_
                refine Q_skip (i := 8) rfl (by kernel_rfl) (fun _ _ _ h => h) rfl rfl rfl (((hst.pull 2).pull 2).pull 2) ?_
                refine Q_skip (i := 9) rfl (by kernel_rfl) (fun _ _ _ h => h) rfl rfl rfl (((hst.pull 2).pull 2).pull 2) ?_
                refine Q_skip (i := 10) rfl (by kernel_rfl) (fun _ _ _ h => h) rfl rfl rfl (((hst.pull 2).pull 2).pull 2) ?_
                refine Q_skip (i := 11) rfl (by kernel_rfl) (fun _ _ _ h => h) rfl rfl rfl (((hst.pull 2).pull 2).pull 2) ?_
                refine Q_skip (i := 12) rfl (by kernel_rfl) (fun _ _ _ h => h) rfl rfl rfl (((hst.pull 2).pull 2).pull 2) ?_
                refine Q_skip (i := 13) rfl (by kernel_rfl) (fun _ _ _ h => h) rfl rfl rfl (((hst.pull 2).pull 2).pull 2) ?_
                refine Q_skip (i := 14) rfl (by kernel_rfl) (fun _ _ _ h => h) rfl rfl rfl (((hst.pull 2).pull 2).pull 2) ?_
                refine Q_skip (i := 15) rfl (by kernel_rfl) (fun _ _ _ h => h) rfl rfl rfl (((hst.pull 2).pull 2).pull 2) ?_
                refine Q_skip (i := 16) rfl (by kernel_rfl) (fun _ _ _ h => h) rfl rfl rfl (((hst.pull 2).pull 2).pull 2) ?_
                refine Q_skip (i := 17) rfl (by kernel_rfl) (fun _ _ _ h => h) rfl rfl rfl (((hst.pull 2).pull 2).pull 2) ?_
                refine Q_skip (i := 18) rfl (by kernel_rfl) (fun _ _ _ h => h) rfl rfl rfl (((hst.pull 2).pull 2).pull 2) ?_
                refine Q_skip (i := 19) rfl (by kernel_rfl) (fun _ _ _ h => h) rfl rfl rfl (((hst.pull 2).pull 2).pull 2) ?_
                refine Q_take (i := 20) (v := .bool false) rfl (by kernel_rfl) (fun _ _ _ h => h) rfl rfl rfl (fun _ _ => R_pure (by kernel_rfl)) (((hst.pull 2).pull 2).pull 2) ?_
                refine wpG_done (by kernel_rfl) ?_ _
                refine C_keepQ [(0, pt p1 0), (1, I x2), (2, I x3), (7, I v11), (8, I v12), (23, .slice a1 x1.l.length c1), (24, I (x1.l.length : Int)), (25, I v12), (50, .bool false)] rfl fun b => ?_
                refine th_n ?_
                obtain rfl := Option.some.inj hr
                have hst := (((hst.pull 2).pull 2).pull 2)
                exact (kpX [(0, pt p1 0), (1, I x2), (2, I x3), (7, I v11), (8, I v12), (23, .slice a1 x1.l.length c1), (24, I (x1.l.length : Int)), (25, I v12), (50, .bool false)] rfl hst)
        · have hr := (if_neg (by rw [h]; exact Bool.false_ne_true)).symm.trans hr
          refine wp_exit ?_
          refine th_x (th_x (ib_x (th_n ?_)))
          obtain rfl := Option.some.inj hr
          have hst := ((hst.pull 1).pull 1)
          exact (kpX [(0, pt p1 0), (7, I v11)] rfl hst)
def slices_Delete (_k : Nat) (x1 : (List T_queue_waiting)) (x2 x3 : Int) : Option (List T_queue_waiting) := del x1 x2 x3
set_option maxRecDepth 100000 in
set_option maxHeartbeats 4000000 in
theorem slices_Delete_ok {G w : World} {F : List HP} {R : Ending → World → Prop} (k : Nat) (x1 : (List T_queue_waiting)) (x2 x3 : Int) (a1 : Option Addr) (c1 : Nat) (r : (List T_queue_waiting)) (hst : St G w (osl r_T_queue_waiting 70 a1 c1 x1 :: F)) (hr : slices_Delete k x1 x2 x3 = some r)
    (hR : ∀ (a2 : Option Addr) (c2 : Nat) w', St G w' (osl r_T_queue_waiting 70 a2 c2 r :: F) → R (.returned (.slice a2 r.length c2)) w') :
    Calls Try.prog 28 #[.slice a1 x1.length c1, I x2, I x3] w R := by
  unfold slices_Delete del at hr
  obtain ⟨⟨h0, h1, h2⟩, hr⟩ := chk hr
  obtain rfl := Option.some.inj hr
  obtain ⟨hle, hmx⟩ := osl_len hst
  refine enter Try.func28 rfl [(0, .slice a1 x1.length c1), (1, I x2), (2, I x3)] rfl rfl fun b => ?_
  refine wp_seq (wp_reg ?_)
  refine L_pure 1 [(0, .slice a1 x1.length c1), (1, I x2), (2, I x3)] (by kernel_rfl) fun b => wpL_nil (th_n ?_)
  refine wp_seq (wp_reg ?_)
  refine L_pure 5 [(0, .slice a1 x1.length c1), (1, I x2), (2, I x3), (8, .slice a1 x1.length c1), (9, I x2), (10, I x3), (12, I (x1.length : Int))] (by kernel_rfl) fun b => ?_
  refine L_op rfl (O_run (w' := w) (R_cut3 L28 (len := x1.length) rfl rfl rfl rfl h0 h1 h2 (by omega)) rfl rfl ?_)
  refine wpL_nil (th_n ?_)
  refine wp_seq (wp_seq (wp_reg ?_))
  refine L_pure 3 [(0, .slice a1 x1.length c1), (1, I x2), (2, I x3), (16, .bool (x2 == x3))] (by kernel_rfl) fun b => wpL_nil (th_n ?_)
  refine wp_cond_mkF (t := (x2 == x3)) rfl (fun h => ?_) (fun h => ?_)
  · have e : x2 = x3 := eq_of_beq h
    subst e
    refine wp_seq (wp_reg ?_)
    refine L_pure 2 [(6, .slice a1 x1.length c1)] (by kernel_rfl) fun b => wpL_nil (th_n (wp_ret (th_r (ret1 rfl rfl ?_))))
    have hx : x1.take x2.toNat ++ x1.drop x2.toNat = x1 := List.take_append_drop _ _
    have h9 := hR a1 c1 _ (by rw [hx]; exact hst)
    rw [hx] at h9
    exact h9
  · have hne : x2 ≠ x3 := fun e => by rw [e] at h; simp at h
    refine wp_skip (th_n ?_)
    refine wp_seq (wp_reg ?_)
    refine L_pure 3 [(0, .slice a1 x1.length c1), (1, I x2), (2, I x3), (7, I (x1.length : Int))] (by kernel_rfl) fun b => wpL_nil (th_n ?_)
    rcases osl_open hst with ⟨rfl, rfl, rfl, _⟩ | ⟨g, cur, ecs, rfl, q3, q4, q5, q7, hst1⟩
    · simp at h2; omega
    · refine wp_seq (wp_regG (SP 6 (fun _ => True)) rfl ?_)
      have hst := hst1.draw (n := w.drawn + 1)
      generalize { w with drawn := w.drawn + 1 } = w at hst ⊢
      refine P_pure (i := 0) (v := .slice (some ⟨g, 0, none⟩) x1.length c1) 6 rfl rfl (by kernel_rfl) (fun _ _ _ h => h) rfl rfl rfl (by kernel_rfl) (.inr trivial) ?_
      refine P_pure (i := 1) (v := I x2) 6 rfl rfl (by kernel_rfl) (fun _ _ _ h => h) rfl rfl rfl (by kernel_rfl) (.inr trivial) ?_
      refine P_any (i := 2) 6 rfl rfl (by kernel_rfl) (fun _ _ _ h => h) rfl rfl rfl (fun w => R_cut L28 (len := x1.length) (zl := 0) rfl rfl rfl (by omega) h0 (by omega)) (.inr trivial) ?_
      refine P_pure (i := 3) (v := .slice (some ⟨g, 0, none⟩) x1.length c1) 6 rfl rfl (by kernel_rfl) (fun _ _ _ h => h) rfl rfl rfl (by kernel_rfl) (.inr trivial) ?_
      refine P_pure (i := 4) (v := I x3) 6 rfl rfl (by kernel_rfl) (fun _ _ _ h => h) rfl rfl rfl (by kernel_rfl) (.inr trivial) ?_
      refine P_any (i := 5) 6 rfl rfl (by kernel_rfl) (fun _ _ _ h => h) rfl rfl rfl (fun w => R_cut L28 (len := x1.length) (zh := x1.length) rfl rfl rfl (by omega) h2 (by omega)) (.inr trivial) ?_
      have hc0 : cutAt (some ⟨g, 0, none⟩) c1 (0 : Int).toNat 5 = some ⟨g, 0, none⟩ := by
        unfold cutAt
        by_cases hc : c1 = (0 : Int).toNat
        · rw [if_pos hc]
        · rw [if_neg hc]; rfl
      refine P_act (i := 6) 6 (by kernel_rfl) rfl rfl (by kernel_rfl) ?_
      refine O_app_self (g := g) (i := x2.toNat) (j := x3.toNat) (len := ((x1.length : Int).toNat - x3.toNat)) (cap := c1) (q := cutAt (some ⟨g, 0, none⟩) c1 x3.toNat 5) (c := c1 - x3.toNat) L28 hst q5 q7 (by rw [Int.toNat_natCast]) (by omega) (by omega) q3 ?_ rfl ?_ rfl (fun w cur' hs1 hs2 hst => ?_)
      · show Value.slice (cutAt (some ⟨g, 0, none⟩) c1 (0 : Int).toNat 5) (x2.toNat - (0 : Int).toNat) (c1 - (0 : Int).toNat) = _
        rw [hc0]; rfl
      · intro hl
        unfold cutAt
        rw [if_neg (by rw [Int.toNat_natCast] at hl; omega)]
        simp only [Option.map_some, add_pt, Nat.zero_add]; rfl
      have hlr : (x1.take x2.toNat ++ x1.drop x3.toNat).length = x2.toNat + (x1.length - x3.toNat) := by simp; omega
      refine P_pure (i := 7) (v := .slice (some ⟨g, 0, none⟩) (x1.take x2.toNat ++ x1.drop x3.toNat).length c1) 6 rfl rfl (by kernel_rfl) (fun _ _ _ h => h) rfl rfl rfl (by kernel_rfl) (.inl (by kernel_rfl)) ?_
      refine wpG_done (by kernel_rfl) ?_ _
      refine C_keepQ [(0, .slice (some ⟨g, 0, none⟩) (x1.take x2.toNat ++ x1.drop x3.toNat).length c1), (7, I (x1.length : Int))] rfl fun b => th_n ?_
      refine wp_seq (wp_reg ?_)
      refine L_pure 4 [(0, .slice (some ⟨g, 0, none⟩) (x1.take x2.toNat ++ x1.drop x3.toNat).length c1), (27, .slice (some ⟨g, 0, none⟩) (x1.take x2.toNat ++ x1.drop x3.toNat).length c1), (29, I ((x1.take x2.toNat ++ x1.drop x3.toNat).length : Int)), (30, I (x1.length : Int))] (by kernel_rfl) fun b => ?_
      refine L_op rfl (O_run (w' := w) (R_cut L28 (len := (x1.take x2.toNat ++ x1.drop x3.toNat).length) (cap := c1) rfl rfl rfl (by omega) (by rw [hlr]; omega) (by omega)) rfl rfl ?_)
      refine L_op rfl (O_clear (g := g) (off := (x1.take x2.toNat ++ x1.drop x3.toNat).length * 5) (k := (x1.length : Int).toNat - ((x1.take x2.toNat ++ x1.drop x3.toNat).length : Int).toNat) (c := c1 - ((x1.take x2.toNat ++ x1.drop x3.toNat).length : Int).toNat) L28.ht (inf := Try.t70) (by kernel_rfl) rfl rfl (hst.pull 1) ?_ ?_ (fun w cur2 hz1 hz2 hst => ?_))
      · show Value.slice (cutAt (some ⟨g, 0, none⟩) c1 ((x1.take x2.toNat ++ x1.drop x3.toNat).length : Int).toNat 5) _ _ = _
        unfold cutAt
        rw [if_neg (by rw [Int.toNat_natCast, hlr]; omega)]
        simp only [Option.map_some, add_pt, Nat.zero_add, Int.toNat_natCast]
      · rw [hs1, q5]
        simp only [Int.toNat_natCast]
        show (x1.take x2.toNat ++ x1.drop x3.toNat).length * 5 + (x1.length - (x1.take x2.toNat ++ x1.drop x3.toNat).length) * 5 ≤ c1 * 5
        rw [← Nat.add_mul]
        exact Nat.mul_le_mul_right _ (by rw [hlr]; omega)
      refine wpL_nil (th_n ?_)
      refine wp_seq (wp_reg ?_)
      refine L_pure 2 [(6, .slice (some ⟨g, 0, none⟩) (x1.take x2.toNat ++ x1.drop x3.toNat).length c1)] (by kernel_rfl) fun b => wpL_nil (th_n (wp_ret (ret1 rfl rfl ?_)))
      refine hR _ _ _ (osl_shut (by rw [hlr]; omega) q4 (by rw [hz1, hs1]; exact q5) ?_ (hst.pull 1))
      show cur2.toList.take ((x1.take x2.toNat ++ x1.drop x3.toNat).length * 5) = _
      rw [hz2]
      exact hs2
def queue_Queue_Next_l1 (k : Nat) (y4 : (Int)) : Nat → Int → (List T_queue_waiting) → Option ((List T_queue_waiting))
  | 0, _, _ => none
  | j + 1, v7, v8 => (if decide (v7 < y4) = true then (Option.bind (gt v8 v7) fun x8 => (Option.bind (gt v8 v7) fun x9 => (queue_Queue_Next_l1 k y4 j (IntKind.i64.wrap (v7 + 1)) (v8.set v7.toNat (T_queue_waiting.mk x9.Req (IntKind.i64.wrap (x8.passed + 1))))))) else some (v8))
def queue_Queue_Next (k : Nat) (x1 : T_queue_Queue) (x2 : Int) (x3 : Int) : Option (T_queue_Req × Bool × (List T_queue_waiting)) := (if ((x1.l.length : Int) == 0) = true then some ((T_queue_Req.mk 0 0 0 0), false, x1.l) else (Option.bind (queue_Queue_choose k x1 x2 x3) fun y4 => (Option.bind (gt x1.l y4) fun x7 => (Option.bind (queue_Queue_Next_l1 k y4 k (0 : Int) x1.l) fun y5 => (Option.bind (slices_Delete k y5 y4 (IntKind.i64.wrap (y4 + 1))) fun y6 => some (x7.Req, true, y6))))))
set_option maxRecDepth 100000 in
set_option maxHeartbeats 4000000 in
theorem queue_Queue_Next_ok {G w : World} {F : List HP} {R : Ending → World → Prop} (k : Nat) (x1 : T_queue_Queue) (x2 : Int) (x3 : Int) (p1 : Nat) (a1 : Option Addr) (c1 : Nat) (r : (T_queue_Req × Bool × (List T_queue_waiting))) (hst : St G w (blk p1 (cl [.slice a1 x1.l.length c1] 30) :: osl r_T_queue_waiting 70 a1 c1 x1.l :: F)) (hr : queue_Queue_Next k x1 x2 x3 = some r)
    (hR : ∀ (a5 : Option Addr) (c5 : Nat) w', St G w' (osl r_T_queue_waiting 70 a5 c5 r.2.2 :: blk p1 (cl [.slice a5 r.2.2.length c5] 30) :: F) → R (.returned (.tuple #[.agg #[I r.1.ID, .int .u64 r.1.Blob, I r.1.Vol, I r.1.At], .bool r.2.1])) w') :
    Calls Try.prog 16 #[pt p1 0, I x2, I x3] w R := by
  unfold queue_Queue_Next at hr
  refine enter Try.func16 rfl [(0, pt p1 0), (1, I x2), (2, I x3)] rfl rfl fun b => ?_
  refine wp_seq ?_
  refine wp_reg ?_
  refine L_op rfl (O_alloc (i := Try.t25) (z := .agg #[I 0, .int .u64 0, I 0, I 0]) [I 0, .int .u64 0, I 0, I 0] hst rfl rfl rfl rfl fun p4 w hst => ?_)
  refine L_pure 1 [(0, pt p1 0), (1, I x2), (2, I x3), (6, pt p4 0)] (by kernel_rfl) fun b => ?_
  refine wpL_nil ?_
  refine th_n ?_
  refine wp_seq ?_
  refine wp_seq ?_
  refine wp_reg ?_
  refine L_pure 3 [(0, pt p1 0), (1, I x2), (2, I x3), (6, pt p4 0), (13, pt p1 0)] (by kernel_rfl) fun b => ?_
  refine L_op rfl (O_run (v := .slice a1 x1.l.length c1) (w' := w) (R_load (hst.pull 1) rfl rfl) rfl rfl ?_)
  refine L_pure 2 [(0, pt p1 0), (1, I x2), (2, I x3), (6, pt p4 0), (16, .bool ((x1.l.length : Int) == 0))] (by kernel_rfl) fun b => ?_
  refine wpL_nil ?_
  refine th_n ?_
  refine wp_cond_mkF (t := ((x1.l.length : Int) == 0)) rfl (fun h => ?_) (fun h => ?_)
  · have hr := (if_pos h).symm.trans hr
    refine wp_seq ?_
    refine wp_reg ?_
    refine L_pure 1 [(6, pt p4 0), (17, .agg #[I 0, .int .u64 0, I 0, I 0])] (by kernel_rfl) fun b => ?_
    refine L_op rfl (O_store [I 0, .int .u64 0, I 0, I 0] hst rfl rfl (by kernel_rfl) fun w hst => ?_)
    refine L_pure 1 [(6, pt p4 0), (7, .bool false)] (by kernel_rfl) fun b => ?_
    refine wpL_nil ?_
    refine th_n ?_
    refine wp_ret ?_
    refine th_r ?_
    refine retCT (v := .agg #[I 0, .int .u64 0, I 0, I 0]) (p := p4) (off := 0) (cs := [I 0, .int .u64 0, I 0, I 0]) (T' := 25) rfl rfl hst (by kernel_rfl) rfl ?_
    obtain rfl := Option.some.inj hr
    have hst := (((hst.pull 1).pull 2).cut 2 1)
    exact hR a1 c1 _ hst
  · have hr := (if_neg (by rw [h]; exact Bool.false_ne_true)).symm.trans hr
    refine wp_skip ?_
    refine th_n ?_
    refine wp_seq ?_
    refine wp_reg ?_
    refine L_pure 3 [(0, pt p1 0), (6, pt p4 0), (18, pt p1 0), (19, I x2), (20, I x3)] (by kernel_rfl) fun b => ?_
    obtain ⟨y4, hy4, hr⟩ := bnd hr
    refine L_op rfl (O_call (vs := #[pt p1 0, I x2, I x3]) Try.call27 (by kernel_rfl) (queue_Queue_choose_ok k x1 x2 x3 p1 a1 c1 y4 ((hst.pull 2).pull 2) hy4 fun w hst => ?_))
    refine CK_ret rfl ?_
    refine L_pure 1 [(0, pt p1 0), (6, pt p4 0), (8, I y4)] (by kernel_rfl) fun b => ?_
    refine wpL_nil ?_
    refine th_n ?_
    refine wp_seq ?_
    refine wp_reg ?_
    refine L_pure 3 [(0, pt p1 0), (6, pt p4 0), (8, I y4), (24, pt p1 0)] (by kernel_rfl) fun b => ?_
    refine L_op rfl (O_run (v := .slice a1 x1.l.length c1) (w' := w) (R_load hst rfl rfl) rfl rfl ?_)
    refine L_pure 1 [(0, pt p1 0), (6, pt p4 0), (8, I y4), (25, .slice a1 x1.l.length c1), (26, I y4)] (by kernel_rfl) fun b => ?_
    obtain ⟨x7, hx4, hr⟩ := bnd hr
    refine L_op rfl (O_run (v := pt (ab a1) (ao a1 + y4.toNat * 5)) (w' := w) (R_ia L28 rfl rfl (osl_addr (hst.pull 1) hx4) (gt_some hx4).1 (gt_some hx4).2.1) rfl rfl ?_)
    refine L_pure 1 [(0, pt p1 0), (6, pt p4 0), (8, I y4), (28, pt (ab a1) (ao a1 + y4.toNat * 5))] (by kernel_rfl) fun b => ?_
    obtain ⟨q3, hc3, hst⟩ := osl_cells (hst.pull 1) hx4
    have hst := hst.drop
    refine L_op rfl (O_run (v := .agg #[I x7.Req.ID, .int .u64 x7.Req.Blob, I x7.Req.Vol, I x7.Req.At]) (w' := w) (R_loadAt (off := ao a1 + y4.toNat * 5) (j := 0) hc3 rfl rfl) rfl rfl ?_)
    refine L_op rfl (O_alloc (i := Try.t25) (z := .agg #[I 0, .int .u64 0, I 0, I 0]) [I 0, .int .u64 0, I 0, I 0] hst rfl rfl rfl rfl fun p5 w hst => ?_)
    refine L_op rfl (O_store [I x7.Req.ID, .int .u64 x7.Req.Blob, I x7.Req.Vol, I x7.Req.At] hst rfl rfl (by kernel_rfl) fun w hst => ?_)
    refine wpL_nil ?_
    refine th_n ?_
    refine wp_seq ?_
    refine wp_seq ?_
    refine wp_reg ?_
    refine L_pure 2 [(0, pt p1 0), (6, pt p4 0), (8, I y4), (9, pt p5 0), (30, I y4), (31, I 0)] (by kernel_rfl) fun b => ?_
    refine wpL_nil ?_
    refine th_n ?_
    obtain ⟨y5, hy5, hk2⟩ := bnd hr
    clear hr
    refine wp_cut (fun a w => ∃ (a7 : Option Addr) (c7 : Nat)(b : Nat → Value), a = mkF 58 b [(0, pt p1 0), (6, pt p4 0), (8, I y4), (9, pt p5 0)] ∧ St G w (osl r_T_queue_waiting 70 a7 c7 y5 :: blk p5 (cl [I x7.Req.ID, .int .u64 x7.Req.Blob, I x7.Req.Vol, I x7.Req.At] 25) :: blk p1 (cl [.slice a7 y5.length c7] 30) :: blk p4 (cl [I 0, .int .u64 0, I 0, I 0] 25) :: F)) ?_ ?_
    · rintro _ w ⟨a7, c7, b, rfl, hst⟩
      have hr := hk2
      refine th_n ?_
      refine wp_seq ?_
      refine wp_reg ?_
      refine L_pure 4 [(6, pt p4 0), (8, I y4), (9, pt p5 0), (46, pt p1 0), (49, pt p1 0)] (by kernel_rfl) fun b => ?_
      refine L_op rfl (O_run (v := .slice a7 y5.length c7) (w' := w) (R_load (hst.pull 2) rfl rfl) rfl rfl ?_)
      refine L_pure 3 [(6, pt p4 0), (9, pt p5 0), (46, pt p1 0), (50, .slice a7 y5.length c7), (51, I y4), (53, I (IntKind.i64.wrap (y4 + 1)))] (by kernel_rfl) fun b => ?_
      obtain ⟨y6, hy6, hr⟩ := bnd hr
      refine L_op rfl (O_call (vs := #[.slice a7 y5.length c7, I y4, I (IntKind.i64.wrap (y4 + 1))]) Try.call28 (by kernel_rfl) (slices_Delete_ok k y5 y4 (IntKind.i64.wrap (y4 + 1)) a7 c7 y6 hst hy6 fun a8 c8 w hst => ?_))
      refine CK_ret rfl ?_
      refine L_pure 2 [(6, pt p4 0), (9, pt p5 0), (54, .slice a8 y6.length c8), (56, pt p1 0)] (by kernel_rfl) fun b => ?_
      refine L_op rfl (O_store [.slice a8 y6.length c8] (hst.pull 2) rfl rfl (by kernel_rfl) fun w hst => ?_)
      refine wpL_nil ?_
      refine th_n ?_
      refine wp_seq ?_
      refine wp_reg ?_
      refine L_op rfl (O_run (v := .agg #[I x7.Req.ID, .int .u64 x7.Req.Blob, I x7.Req.Vol, I x7.Req.At]) (w' := w) (R_load (hst.pull 2) rfl rfl) rfl rfl ?_)
      refine L_op rfl (O_store [I x7.Req.ID, .int .u64 x7.Req.Blob, I x7.Req.Vol, I x7.Req.At] (hst.pull 3) rfl rfl (by kernel_rfl) fun w hst => ?_)
      refine L_pure 1 [(6, pt p4 0), (7, .bool true)] (by kernel_rfl) fun b => ?_
      refine wpL_nil ?_
      refine th_n ?_
      refine wp_ret ?_
      refine retCT (v := .agg #[I x7.Req.ID, .int .u64 x7.Req.Blob, I x7.Req.Vol, I x7.Req.At]) (p := p4) (off := 0) (cs := [I x7.Req.ID, .int .u64 x7.Req.Blob, I x7.Req.Vol, I x7.Req.At]) (T' := 25) rfl rfl hst (by kernel_rfl) rfl ?_
      obtain rfl := Option.some.inj hr
      have hst := (((hst.pull 1).pull 2).cut 2 2)
      exact hR a8 c8 _ hst
    · have hst := ((((hst.pull 3).pull 3).pull 2).pull 3)
      refine wp_block ?_
      refine wp_loop_fuel (fun j a w => ∃ (v7 : Int) (v8 : (List T_queue_waiting)) (a6 : Option Addr) (c6 : Nat) (b : Nat → Value), a = mkF 58 b [(0, pt p1 0), (6, pt p4 0), (8, I y4), (9, pt p5 0), (30, I y4), (31, I v7)] ∧ St G w (osl r_T_queue_waiting 70 a6 c6 v8 :: blk p5 (cl [I x7.Req.ID, .int .u64 x7.Req.Blob, I x7.Req.Vol, I x7.Req.At] 25) :: blk p1 (cl [.slice a6 v8.length c6] 30) :: blk p4 (cl [I 0, .int .u64 0, I 0, I 0] 25) :: F) ∧ queue_Queue_Next_l1 k y4 j v7 v8 = some y5) (k := k) ⟨(0 : Int), x1.l, a1, c1, (kpX [(0, pt p1 0), (6, pt p4 0), (8, I y4), (9, pt p5 0), (30, I y4), (31, I 0)] rfl ⟨hst, hy5⟩)⟩ ?_ ?_
      · rintro _ _ ⟨_, _, _, _, _, _, _, h⟩
        rw [queue_Queue_Next_l1] at h
        cases h
      · rintro j _ w ⟨v7, v8, a6, c6, b, rfl, hst, hr⟩
        rw [queue_Queue_Next_l1] at hr
        refine wp_seq ?_
        refine wp_reg ?_
        refine L_pure 1 [(0, pt p1 0), (6, pt p4 0), (8, I y4), (9, pt p5 0), (30, I y4), (31, I v7), (32, .bool (decide (v7 < y4)))] (by kernel_rfl) fun b => ?_
        refine wpL_nil ?_
        refine th_n ?_
        refine wp_seq ?_
        refine wp_cond_mkF (t := decide (v7 < y4)) rfl (fun h => ?_) (fun h => ?_)
        · have hr := (if_pos h).symm.trans hr
          refine wp_skip ?_
          refine th_n ?_
          refine wp_seq ?_
          refine wp_block ?_
          refine wp_seq ?_
          refine wp_reg ?_
          refine L_pure 2 [(0, pt p1 0), (6, pt p4 0), (8, I y4), (9, pt p5 0), (10, I v7), (30, I y4), (31, I v7)] (by kernel_rfl) fun b => ?_
          refine wpL_nil ?_
          refine th_n ?_
          refine wp_reg ?_
          refine L_pure 3 [(0, pt p1 0), (6, pt p4 0), (8, I y4), (9, pt p5 0), (10, I v7), (30, I y4), (31, I v7), (36, pt p1 0)] (by kernel_rfl) fun b => ?_
          refine L_op rfl (O_run (v := .slice a6 v8.length c6) (w' := w) (R_load (hst.pull 2) rfl rfl) rfl rfl ?_)
          refine L_pure 1 [(0, pt p1 0), (6, pt p4 0), (8, I y4), (9, pt p5 0), (30, I y4), (31, I v7), (37, .slice a6 v8.length c6), (38, I v7)] (by kernel_rfl) fun b => ?_
          obtain ⟨x8, hx5, hr⟩ := bnd hr
          refine L_op rfl (O_run (v := pt (ab a6) (ao a6 + v7.toNat * 5)) (w' := w) (R_ia L28 rfl rfl (osl_addr hst hx5) (gt_some hx5).1 (gt_some hx5).2.1) rfl rfl ?_)
          refine L_pure 1 [(0, pt p1 0), (6, pt p4 0), (8, I y4), (9, pt p5 0), (30, I y4), (31, I v7), (37, .slice a6 v8.length c6), (38, I v7), (40, pt (ab a6) (ao a6 + v7.toNat * 5 + 4))] (by kernel_rfl) fun b => ?_
          obtain ⟨q4, hc4, hst⟩ := osl_cells hst hx5
          have hst := hst.drop
          refine L_op rfl (O_run (v := I x8.passed) (w' := w) (R_loadAt (off := ao a6 + v7.toNat * 5) (j := 4) hc4 rfl rfl) rfl rfl ?_)
          refine L_pure 1 [(0, pt p1 0), (6, pt p4 0), (8, I y4), (9, pt p5 0), (30, I y4), (31, I v7), (37, .slice a6 v8.length c6), (38, I v7), (42, I (IntKind.i64.wrap (x8.passed + 1)))] (by kernel_rfl) fun b => ?_
          obtain ⟨x9, hx6, hr⟩ := bnd hr
          refine L_op rfl (O_run (v := pt (ab a6) (ao a6 + v7.toNat * 5)) (w' := w) (R_ia L28 rfl rfl (osl_addr hst hx6) (gt_some hx6).1 (gt_some hx6).2.1) rfl rfl ?_)
          refine L_pure 1 [(0, pt p1 0), (6, pt p4 0), (8, I y4), (9, pt p5 0), (30, I y4), (31, I v7), (42, I (IntKind.i64.wrap (x8.passed + 1))), (44, pt (ab a6) (ao a6 + v7.toNat * 5 + 4))] (by kernel_rfl) fun b => ?_
          refine L_op rfl (O_store_osl (φ := fun _ => True) (hφ := fun _ _ _ h => h) (y := (T_queue_waiting.mk x9.Req (IntKind.i64.wrap (x8.passed + 1)))) (j := 4) (hst := (St.triv (fun _ => trivial) hst)) hx6 rfl rfl (by rintro m cs - ⟨y, rfl, hy⟩; exact ⟨_, rfl, ⟨y, rfl, hy⟩⟩) fun w hst => ?_)
          refine wpL_nil ?_
          refine ib_n (th_n ?_)
          refine wp_reg ?_
          refine L_pure 2 [(0, pt p1 0), (6, pt p4 0), (8, I y4), (9, pt p5 0), (30, I y4), (31, I (IntKind.i64.wrap (v7 + 1)))] (by kernel_rfl) fun b => ?_
          refine wpL_nil ?_
          refine th_n ?_
          have hst := ((((hst.pull 3).pull 3).pull 3).pull 3)
          have hst : St G w (osl r_T_queue_waiting 70 a6 c6 (v8.set v7.toNat (T_queue_waiting.mk x9.Req (IntKind.i64.wrap (x8.passed + 1)))) :: blk p5 (cl [I x7.Req.ID, .int .u64 x7.Req.Blob, I x7.Req.Vol, I x7.Req.At] 25) :: blk p1 (cl [.slice a6 (v8.set v7.toNat (T_queue_waiting.mk x9.Req (IntKind.i64.wrap (x8.passed + 1)))).length c6] 30) :: blk p4 (cl [I 0, .int .u64 0, I 0, I 0] 25) :: F) := by simp only [List.length_set]; exact hst
          exact ⟨(IntKind.i64.wrap (v7 + 1)), (v8.set v7.toNat (T_queue_waiting.mk x9.Req (IntKind.i64.wrap (x8.passed + 1)))), a6, c6, (kpX [(0, pt p1 0), (6, pt p4 0), (8, I y4), (9, pt p5 0), (30, I y4), (31, I (IntKind.i64.wrap (v7 + 1)))] rfl ⟨hst, hr⟩)⟩
        · have hr := (if_neg (by rw [h]; exact Bool.false_ne_true)).symm.trans hr
          refine wp_exit ?_
          refine th_x (th_x (ib_x (th_n ?_)))
          obtain rfl := Option.some.inj hr
          have hst := ((((hst.pull 3).pull 3).pull 3).pull 3)
          exact ⟨a6, c6, (kpX [(0, pt p1 0), (6, pt p4 0), (8, I y4), (9, pt p5 0)] rfl hst)⟩
def glacierlaw16_awake (k : Nat) : Option (Bool) := (Option.bind (queue_Queue_Add k (T_queue_Queue.mk ([])) (T_queue_Req.mk 1 0 1 5)) fun y10 => (Option.bind (queue_Queue_Add k (T_queue_Queue.mk y10.2) (T_queue_Req.mk 2 0 0 9)) fun y11 => (Option.bind (queue_Queue_Add k (T_queue_Queue.mk y11.2) (T_queue_Req.mk 2 0 3 9)) fun y12 => (Option.bind (queue_Queue_Add k (T_queue_Queue.mk y12.2) (T_queue_Req.mk 3 0 0 2)) fun y13 => (Option.bind (queue_Queue_Next k (T_queue_Queue.mk y13.2) 0 4) fun y14 => (Option.bind (queue_Queue_Next k (T_queue_Queue.mk y14.2.2) 0 9) fun y15 => (Option.bind (queue_Queue_Next k (T_queue_Queue.mk y15.2.2) 0 2) fun y16 => (Option.bind (queue_Queue_Next k (T_queue_Queue.mk y16.2.2) 0 2) fun y17 => (Option.bind (if (y14.1.ID == 2) = true then (if (y15.1.ID == 3) = true then (if (y16.1.ID == 1) = true then (if (!y17.2.1) = true then some ((!y12.1)) else some (false)) else some (false)) else some (false)) else some (false)) fun y18 => some (y18))))))))))
set_option maxRecDepth 100000 in
set_option maxHeartbeats 4000000 in
theorem glacierlaw16_awake_ok {G w : World} {F : List HP} {R : Ending → World → Prop} (k : Nat) (r : (Bool)) (hst : St G w (F)) (hr : glacierlaw16_awake k = some r)
    (hR : ∀ w', St G w' (F) → R (.returned (.bool r)) w') :
    Calls Try.prog 12 #[] w R := by
  unfold glacierlaw16_awake at hr
  refine enter Try.func12 rfl [] rfl rfl fun b => ?_
  refine wp_seq ?_
  refine wp_reg ?_
  refine L_pure 1 [] (by kernel_rfl) fun b => ?_
  refine wpL_nil ?_
  refine th_n ?_
  refine wp_seq ?_
  refine wp_reg ?_
  refine L_op rfl (O_alloc (i := Try.t30) (z := .agg #[.slice none 0 0]) [.slice none 0 0] hst rfl rfl rfl rfl fun p6 w hst => ?_)
  refine wpL_nil ?_
  refine th_n ?_
  refine wp_seq ?_
  refine wp_reg ?_
  refine L_pure 1 [(1, pt p6 0), (11, .agg #[I 1, .int .u64 0, I 1, I 5])] (by kernel_rfl) fun b => ?_
  obtain ⟨y10, hy10, hr⟩ := bnd hr
  have hst := osl_nil r_T_queue_waiting 70 hst
  refine L_op rfl (O_call (vs := #[pt p6 0, .agg #[I 1, .int .u64 0, I 1, I 5]]) Try.call14 (by kernel_rfl) (queue_Queue_Add_ok k (T_queue_Queue.mk ([])) (T_queue_Req.mk 1 0 1 5) p6 none 0 y10 (hst.pull 1) hy10 fun a9 c9 w hst => ?_))
  refine CK_ret rfl ?_
  refine wpL_nil ?_
  refine th_n ?_
  refine wp_seq ?_
  refine wp_reg ?_
  refine L_pure 1 [(1, pt p6 0), (13, .agg #[I 2, .int .u64 0, I 0, I 9])] (by kernel_rfl) fun b => ?_
  obtain ⟨y11, hy11, hr⟩ := bnd hr
  refine L_op rfl (O_call (vs := #[pt p6 0, .agg #[I 2, .int .u64 0, I 0, I 9]]) Try.call14 (by kernel_rfl) (queue_Queue_Add_ok k (T_queue_Queue.mk y10.2) (T_queue_Req.mk 2 0 0 9) p6 a9 c9 y11 (hst.pull 1) hy11 fun a10 c10 w hst => ?_))
  refine CK_ret rfl ?_
  refine wpL_nil ?_
  refine th_n ?_
  refine wp_seq ?_
  refine wp_reg ?_
  refine L_pure 1 [(1, pt p6 0), (15, .agg #[I 2, .int .u64 0, I 3, I 9])] (by kernel_rfl) fun b => ?_
  obtain ⟨y12, hy12, hr⟩ := bnd hr
  refine L_op rfl (O_call (vs := #[pt p6 0, .agg #[I 2, .int .u64 0, I 3, I 9]]) Try.call14 (by kernel_rfl) (queue_Queue_Add_ok k (T_queue_Queue.mk y11.2) (T_queue_Req.mk 2 0 3 9) p6 a10 c10 y12 (hst.pull 1) hy12 fun a11 c11 w hst => ?_))
  refine CK_ret rfl ?_
  refine L_pure 1 [(1, pt p6 0), (2, .bool y12.1)] (by kernel_rfl) fun b => ?_
  refine wpL_nil ?_
  refine th_n ?_
  refine wp_seq ?_
  refine wp_reg ?_
  refine L_pure 1 [(1, pt p6 0), (2, .bool y12.1), (17, .agg #[I 3, .int .u64 0, I 0, I 2])] (by kernel_rfl) fun b => ?_
  obtain ⟨y13, hy13, hr⟩ := bnd hr
  refine L_op rfl (O_call (vs := #[pt p6 0, .agg #[I 3, .int .u64 0, I 0, I 2]]) Try.call14 (by kernel_rfl) (queue_Queue_Add_ok k (T_queue_Queue.mk y12.2) (T_queue_Req.mk 3 0 0 2) p6 a11 c11 y13 (hst.pull 1) hy13 fun a12 c12 w hst => ?_))
  refine CK_ret rfl ?_
  refine wpL_nil ?_
  refine th_n ?_
  refine wp_seq ?_
  refine wp_reg ?_
  obtain ⟨y14, hy14, hr⟩ := bnd hr
  refine L_op rfl (O_call (vs := #[pt p6 0, I 0, I 4]) Try.call16 (by kernel_rfl) (queue_Queue_Next_ok k (T_queue_Queue.mk y13.2) 0 4 p6 a12 c12 y14 (hst.pull 1) hy14 fun a13 c13 w hst => ?_))
  refine CK_ret rfl ?_
  refine L_pure 3 [(1, pt p6 0), (2, .bool y12.1), (21, .agg #[I y14.1.ID, .int .u64 y14.1.Blob, I y14.1.Vol, I y14.1.At]), (22, .bool y14.2.1)] (by kernel_rfl) fun b => ?_
  refine L_op rfl (O_alloc (i := Try.t25) (z := .agg #[I 0, .int .u64 0, I 0, I 0]) [I 0, .int .u64 0, I 0, I 0] hst rfl rfl rfl rfl fun p7 w hst => ?_)
  refine L_op rfl (O_store [I y14.1.ID, .int .u64 y14.1.Blob, I y14.1.Vol, I y14.1.At] hst rfl rfl (by kernel_rfl) fun w hst => ?_)
  refine L_pure 1 [(1, pt p6 0), (2, .bool y12.1), (3, pt p7 0)] (by kernel_rfl) fun b => ?_
  refine wpL_nil ?_
  refine th_n ?_
  refine wp_seq ?_
  refine wp_reg ?_
  obtain ⟨y15, hy15, hr⟩ := bnd hr
  refine L_op rfl (O_call (vs := #[pt p6 0, I 0, I 9]) Try.call16 (by kernel_rfl) (queue_Queue_Next_ok k (T_queue_Queue.mk y14.2.2) 0 9 p6 a13 c13 y15 ((hst.pull 1).pull 2) hy15 fun a14 c14 w hst => ?_))
  refine CK_ret rfl ?_
  refine L_pure 3 [(1, pt p6 0), (2, .bool y12.1), (3, pt p7 0), (25, .agg #[I y15.1.ID, .int .u64 y15.1.Blob, I y15.1.Vol, I y15.1.At]), (26, .bool y15.2.1)] (by kernel_rfl) fun b => ?_
  refine L_op rfl (O_alloc (i := Try.t25) (z := .agg #[I 0, .int .u64 0, I 0, I 0]) [I 0, .int .u64 0, I 0, I 0] hst rfl rfl rfl rfl fun p8 w hst => ?_)
  refine L_op rfl (O_store [I y15.1.ID, .int .u64 y15.1.Blob, I y15.1.Vol, I y15.1.At] hst rfl rfl (by kernel_rfl) fun w hst => ?_)
  refine L_pure 1 [(1, pt p6 0), (2, .bool y12.1), (3, pt p7 0), (5, pt p8 0)] (by kernel_rfl) fun b => ?_
  refine wpL_nil ?_
  refine th_n ?_
  refine wp_seq ?_
  refine wp_reg ?_
  obtain ⟨y16, hy16, hr⟩ := bnd hr
  refine L_op rfl (O_call (vs := #[pt p6 0, I 0, I 2]) Try.call16 (by kernel_rfl) (queue_Queue_Next_ok k (T_queue_Queue.mk y15.2.2) 0 2 p6 a14 c14 y16 ((hst.pull 1).pull 2) hy16 fun a15 c15 w hst => ?_))
  refine CK_ret rfl ?_
  refine L_pure 3 [(1, pt p6 0), (2, .bool y12.1), (3, pt p7 0), (5, pt p8 0), (29, .agg #[I y16.1.ID, .int .u64 y16.1.Blob, I y16.1.Vol, I y16.1.At]), (30, .bool y16.2.1)] (by kernel_rfl) fun b => ?_
  refine L_op rfl (O_alloc (i := Try.t25) (z := .agg #[I 0, .int .u64 0, I 0, I 0]) [I 0, .int .u64 0, I 0, I 0] hst rfl rfl rfl rfl fun p9 w hst => ?_)
  refine L_op rfl (O_store [I y16.1.ID, .int .u64 y16.1.Blob, I y16.1.Vol, I y16.1.At] hst rfl rfl (by kernel_rfl) fun w hst => ?_)
  refine L_pure 1 [(1, pt p6 0), (2, .bool y12.1), (3, pt p7 0), (5, pt p8 0), (7, pt p9 0)] (by kernel_rfl) fun b => ?_
  refine wpL_nil ?_
  refine th_n ?_
  refine wp_seq ?_
  refine wp_reg ?_
  obtain ⟨y17, hy17, hr⟩ := bnd hr
  refine L_op rfl (O_call (vs := #[pt p6 0, I 0, I 2]) Try.call16 (by kernel_rfl) (queue_Queue_Next_ok k (T_queue_Queue.mk y16.2.2) 0 2 p6 a15 c15 y17 ((hst.pull 1).pull 2) hy17 fun a16 c16 w hst => ?_))
  refine CK_ret rfl ?_
  refine L_pure 3 [(2, .bool y12.1), (3, pt p7 0), (5, pt p8 0), (7, pt p9 0), (33, .agg #[I y17.1.ID, .int .u64 y17.1.Blob, I y17.1.Vol, I y17.1.At]), (34, .bool y17.2.1)] (by kernel_rfl) fun b => ?_
  refine L_op rfl (O_alloc (i := Try.t25) (z := .agg #[I 0, .int .u64 0, I 0, I 0]) [I 0, .int .u64 0, I 0, I 0] hst rfl rfl rfl rfl fun p10 w hst => ?_)
  refine L_op rfl (O_store [I y17.1.ID, .int .u64 y17.1.Blob, I y17.1.Vol, I y17.1.At] hst rfl rfl (by kernel_rfl) fun w hst => ?_)
  refine L_pure 1 [(2, .bool y12.1), (3, pt p7 0), (5, pt p8 0), (7, pt p9 0), (10, .bool y17.2.1)] (by kernel_rfl) fun b => ?_
  refine wpL_nil ?_
  refine th_n ?_
  obtain ⟨y18, hy18, hk2⟩ := bnd hr
  clear hr
  refine wp_seq_cut (fun a w => ∃ (b : Nat → Value), a = mkF 56 b [(0, .bool y18)] ∧ St G w (blk p10 (cl [I y17.1.ID, .int .u64 y17.1.Blob, I y17.1.Vol, I y17.1.At] 25) :: osl r_T_queue_waiting 70 a16 c16 y17.2.2 :: blk p6 (cl [.slice a16 y17.2.2.length c16] 30) :: blk p9 (cl [I y16.1.ID, .int .u64 y16.1.Blob, I y16.1.Vol, I y16.1.At] 25) :: blk p8 (cl [I y15.1.ID, .int .u64 y15.1.Blob, I y15.1.Vol, I y15.1.At] 25) :: blk p7 (cl [I y14.1.ID, .int .u64 y14.1.Blob, I y14.1.Vol, I y14.1.At] 25) :: F)) ?_ ?_
  · rintro _ w ⟨b, rfl, hst⟩
    have hr := hk2
    refine wp_ret ?_
    refine ret1 rfl rfl ?_
    obtain rfl := Option.some.inj hr
    have hst := (hst.cut 0 6)
    exact hR _ hst
  · have hr := hy18
    refine wp_reg ?_
    refine L_pure 1 [(2, .bool y12.1), (5, pt p8 0), (7, pt p9 0), (10, .bool y17.2.1), (35, pt p7 0)] (by kernel_rfl) fun b => ?_
    refine L_op rfl (O_run (v := I y14.1.ID) (w' := w) (R_load (hst.pull 5) rfl rfl) rfl rfl ?_)
    refine L_pure 2 [(2, .bool y12.1), (5, pt p8 0), (7, pt p9 0), (10, .bool y17.2.1), (38, .bool (y14.1.ID == 2))] (by kernel_rfl) fun b => ?_
    by_cases h : (y14.1.ID == 2) = true
    · have hr := (if_pos h).symm.trans hr
      refine L_keep ((38, .bool (y14.1.ID == 2)) :: [(2, .bool y12.1), (5, pt p8 0), (7, pt p9 0), (10, .bool y17.2.1)]) rfl fun b => ?_
      refine L_bool h ?_
      refine L_pure 1 [(2, .bool y12.1), (7, pt p9 0), (10, .bool y17.2.1), (38, .bool true), (39, pt p8 0)] (by kernel_rfl) fun b => ?_
      refine L_op rfl (O_run (v := I y15.1.ID) (w' := w) (R_load (hst.pull 4) rfl rfl) rfl rfl ?_)
      refine L_pure 3 [(2, .bool y12.1), (7, pt p9 0), (10, .bool y17.2.1), (43, .bool (y15.1.ID == 3))] (by kernel_rfl) fun b => ?_
      by_cases h : (y15.1.ID == 3) = true
      · have hr := (if_pos h).symm.trans hr
        refine L_keep ((43, .bool (y15.1.ID == 3)) :: [(2, .bool y12.1), (7, pt p9 0), (10, .bool y17.2.1)]) rfl fun b => ?_
        refine L_bool h ?_
        refine L_pure 1 [(2, .bool y12.1), (10, .bool y17.2.1), (43, .bool true), (44, pt p9 0)] (by kernel_rfl) fun b => ?_
        refine L_op rfl (O_run (v := I y16.1.ID) (w' := w) (R_load (hst.pull 3) rfl rfl) rfl rfl ?_)
        refine L_pure 3 [(2, .bool y12.1), (10, .bool y17.2.1), (48, .bool (y16.1.ID == 1))] (by kernel_rfl) fun b => ?_
        by_cases h : (y16.1.ID == 1) = true
        · have hr := (if_pos h).symm.trans hr
          refine L_keep ((48, .bool (y16.1.ID == 1)) :: [(2, .bool y12.1), (10, .bool y17.2.1)]) rfl fun b => ?_
          refine L_bool h ?_
          refine L_pure 4 [(2, .bool y12.1), (52, .bool (!y17.2.1))] (by kernel_rfl) fun b => ?_
          by_cases h : (!y17.2.1) = true
          · have hr := (if_pos h).symm.trans hr
            refine L_keep ((52, .bool (!y17.2.1)) :: [(2, .bool y12.1)]) rfl fun b => ?_
            refine L_bool h ?_
            refine L_pure 4 [(0, .bool (!y12.1))] (by kernel_rfl) fun b => ?_
            refine wpL_nil ?_
            refine th_n ?_
            obtain rfl := Option.some.inj hr
            have hst := ((((((hst.pull 5).pull 5).pull 5).pull 5).pull 5).pull 5)
            exact (kpX [(0, .bool (!y12.1))] rfl hst)
          · have hr := (if_neg h).symm.trans hr
            refine L_keep ((52, .bool (!y17.2.1)) :: [(2, .bool y12.1)]) rfl fun b => ?_
            refine L_bool (eq_false_of_ne_true h) ?_
            refine L_pure 4 [(0, .bool false)] (by kernel_rfl) fun b => ?_
            refine wpL_nil ?_
            refine th_n ?_
            obtain rfl := Option.some.inj hr
            have hst := ((((((hst.pull 5).pull 5).pull 5).pull 5).pull 5).pull 5)
            exact (kpX [(0, .bool false)] rfl hst)
        · have hr := (if_neg h).symm.trans hr
          refine L_keep ((48, .bool (y16.1.ID == 1)) :: [(2, .bool y12.1), (10, .bool y17.2.1)]) rfl fun b => ?_
          refine L_bool (eq_false_of_ne_true h) ?_
          refine L_pure 8 [(0, .bool false)] (by kernel_rfl) fun b => ?_
          refine wpL_nil ?_
          refine th_n ?_
          obtain rfl := Option.some.inj hr
          have hst := ((((((hst.pull 5).pull 5).pull 5).pull 5).pull 5).pull 5)
          exact (kpX [(0, .bool false)] rfl hst)
      · have hr := (if_neg h).symm.trans hr
        refine L_keep ((43, .bool (y15.1.ID == 3)) :: [(2, .bool y12.1), (7, pt p9 0), (10, .bool y17.2.1)]) rfl fun b => ?_
        refine L_bool (eq_false_of_ne_true h) ?_
        refine L_pure 13 [(0, .bool false)] (by kernel_rfl) fun b => ?_
        refine wpL_nil ?_
        refine th_n ?_
        obtain rfl := Option.some.inj hr
        have hst := ((((((hst.pull 5).pull 5).pull 5).pull 5).pull 5).pull 5)
        exact (kpX [(0, .bool false)] rfl hst)
    · have hr := (if_neg h).symm.trans hr
      refine L_keep ((38, .bool (y14.1.ID == 2)) :: [(2, .bool y12.1), (5, pt p8 0), (7, pt p9 0), (10, .bool y17.2.1)]) rfl fun b => ?_
      refine L_bool (eq_false_of_ne_true h) ?_
      refine L_pure 18 [(0, .bool false)] (by kernel_rfl) fun b => ?_
      refine wpL_nil ?_
      refine th_n ?_
      obtain rfl := Option.some.inj hr
      have hst := ((((((hst.pull 5).pull 5).pull 5).pull 5).pull 5).pull 5)
      exact (kpX [(0, .bool false)] rfl hst)
def glacierlaw16_small (_k : Nat) (x1 : T_queue_Req) : Option (T_queue_Req) := some ((T_queue_Req.mk x1.ID x1.Blob (mn2 (mx2 x1.Vol 0) 11) (mn2 (mx2 x1.At 0) 1000000000)))
set_option maxRecDepth 100000 in
set_option maxHeartbeats 4000000 in
theorem glacierlaw16_small_ok {G w : World} {F : List HP} {R : Ending → World → Prop} (k : Nat) (x1 : T_queue_Req) (r : (T_queue_Req)) (hst : St G w (F)) (hr : glacierlaw16_small k x1 = some r)
    (hR : ∀ w', St G w' (F) → R (.returned (.agg #[I r.ID, .int .u64 r.Blob, I r.Vol, I r.At])) w') :
    Calls Try.prog 13 #[.agg #[I x1.ID, .int .u64 x1.Blob, I x1.Vol, I x1.At]] w R := by
  unfold glacierlaw16_small at hr
  refine enter Try.func13 rfl [(0, .agg #[I x1.ID, .int .u64 x1.Blob, I x1.Vol, I x1.At])] rfl rfl fun b => ?_
  refine wp_seq ?_
  refine wp_reg ?_
  refine L_op rfl (O_box [I x1.ID, .int .u64 x1.Blob, I x1.Vol, I x1.At] hst rfl rfl fun p3 w hst => ?_)
  refine L_op rfl (O_alloc (i := Try.t25) (z := .agg #[I 0, .int .u64 0, I 0, I 0]) [I 0, .int .u64 0, I 0, I 0] hst rfl rfl rfl rfl fun p4 w hst => ?_)
  refine wpL_nil ?_
  refine th_n ?_
  refine wp_seq ?_
  refine wp_reg ?_
  refine L_pure 1 [(1, pt p3 0), (2, pt p4 0), (3, pt p3 2)] (by kernel_rfl) fun b => ?_
  refine L_op rfl (O_run (v := I x1.Vol) (w' := w) (R_load (hst.pull 1) rfl rfl) rfl rfl ?_)
  refine L_pure 3 [(1, pt p3 0), (2, pt p4 0), (6, I (mn2 (mx2 x1.Vol 0) 11)), (7, pt p3 2)] (by kernel_rfl) fun b => ?_
  refine L_op rfl (O_store [I x1.ID, .int .u64 x1.Blob, I (mn2 (mx2 x1.Vol 0) 11), I x1.At] (hst.pull 1) rfl rfl (by kernel_rfl) fun w hst => ?_)
  refine wpL_nil ?_
  refine th_n ?_
  refine wp_seq ?_
  refine wp_reg ?_
  refine L_pure 1 [(1, pt p3 0), (2, pt p4 0), (8, pt p3 3)] (by kernel_rfl) fun b => ?_
  refine L_op rfl (O_run (v := I x1.At) (w' := w) (R_load hst rfl rfl) rfl rfl ?_)
  refine L_pure 3 [(1, pt p3 0), (2, pt p4 0), (11, I (mn2 (mx2 x1.At 0) 1000000000)), (12, pt p3 3)] (by kernel_rfl) fun b => ?_
  refine L_op rfl (O_store [I x1.ID, .int .u64 x1.Blob, I (mn2 (mx2 x1.Vol 0) 11), I (mn2 (mx2 x1.At 0) 1000000000)] hst rfl rfl (by kernel_rfl) fun w hst => ?_)
  refine wpL_nil ?_
  refine th_n ?_
  refine wp_seq ?_
  refine wp_reg ?_
  refine L_op rfl (O_run (v := .agg #[I x1.ID, .int .u64 x1.Blob, I (mn2 (mx2 x1.Vol 0) 11), I (mn2 (mx2 x1.At 0) 1000000000)]) (w' := w) (R_load hst rfl rfl) rfl rfl ?_)
  refine L_op rfl (O_store [I x1.ID, .int .u64 x1.Blob, I (mn2 (mx2 x1.Vol 0) 11), I (mn2 (mx2 x1.At 0) 1000000000)] (hst.pull 1) rfl rfl (by kernel_rfl) fun w hst => ?_)
  refine wpL_nil ?_
  refine th_n ?_
  refine wp_ret ?_
  refine retC (v := .agg #[I x1.ID, .int .u64 x1.Blob, I (mn2 (mx2 x1.Vol 0) 11), I (mn2 (mx2 x1.At 0) 1000000000)]) (p := p4) (off := 0) (cs := [I x1.ID, .int .u64 x1.Blob, I (mn2 (mx2 x1.Vol 0) 11), I (mn2 (mx2 x1.At 0) 1000000000)]) (T' := 25) rfl rfl hst (by kernel_rfl) ?_
  obtain rfl := Option.some.inj hr
  have hst := (hst.cut 0 2)
  exact hR _ hst
def glacierref16_Find_l1 (k : Nat) (x1 : (List T_glacierref16_Req)) (x2 : Int) : Nat → Int → Option (Flow (Int) (Unit))
  | 0, _ => none
  | j + 1, v4 => (if decide (v4 < (x1.length : Int)) = true then (Option.bind (gt x1 v4) fun x4 => (if (x4.ID == x2) = true then some (Flow.ret (v4)) else (glacierref16_Find_l1 k x1 x2 j (IntKind.i64.wrap (v4 + 1))))) else some (Flow.go ()))
def glacierref16_Find (k : Nat) (x1 : (List T_glacierref16_Req)) (x2 : Int) : Option (Int) := (Option.bind (glacierref16_Find_l1 k x1 x2 k (0 : Int)) fun y2 => (match y2 with | Flow.ret r => some r | Flow.go _ => some (((-1) : Int))))
set_option maxRecDepth 100000 in
set_option maxHeartbeats 4000000 in
theorem glacierref16_Find_ok {G w : World} {F : List HP} {R : Ending → World → Prop} (k : Nat) (x1 : (List T_glacierref16_Req)) (x2 : Int) (a1 : Option Addr) (c1 : Nat) (r : (Int)) (hst : St G w (osl r_T_glacierref16_Req 47 a1 c1 x1 :: F)) (hr : glacierref16_Find k x1 x2 = some r)
    (hR : ∀ w', St G w' (osl r_T_glacierref16_Req 47 a1 c1 x1 :: F) → R (.returned (I r)) w') :
    Calls Try.prog 18 #[.slice a1 x1.length c1, I x2] w R := by
  unfold glacierref16_Find at hr
  refine enter Try.func18 rfl [(0, .slice a1 x1.length c1), (1, I x2)] rfl rfl fun b => ?_
  refine wp_seq ?_
  refine wp_reg ?_
  refine L_pure 1 [(0, .slice a1 x1.length c1), (1, I x2)] (by kernel_rfl) fun b => ?_
  refine wpL_nil ?_
  refine th_n ?_
  refine wp_seq ?_
  refine wp_seq ?_
  refine wp_reg ?_
  refine L_pure 3 [(1, I x2), (7, .slice a1 x1.length c1), (8, I (x1.length : Int)), (9, I 0)] (by kernel_rfl) fun b => ?_
  refine wpL_nil ?_
  refine th_n ?_
  obtain ⟨y2, hy2, hk2⟩ := bnd hr
  clear hr
  refine wp_cut (fun a w => ∃ (z2 : Unit) (b : Nat → Value), y2 = .go z2 ∧ a = mkF 20 b [] ∧ St G w (osl r_T_glacierref16_Req 47 a1 c1 x1 :: F)) ?_ ?_
  · rintro _ w ⟨z2, b, rfl, rfl, hst⟩
    have hr := hk2
    refine th_n ?_
    refine wp_seq ?_
    refine wp_reg ?_
    refine L_pure 1 [(4, I (-1))] (by kernel_rfl) fun b => ?_
    refine wpL_nil ?_
    refine th_n ?_
    refine wp_ret ?_
    refine ret1 rfl rfl ?_
    obtain rfl := Option.some.inj hr
    exact hR _ hst
  · refine wp_block ?_
    refine wp_loop_fuel (fun j a w => ∃ (v4 : Int) (b : Nat → Value), a = mkF 20 b [(1, I x2), (7, .slice a1 x1.length c1), (8, I (x1.length : Int)), (9, I v4)] ∧ St G w (osl r_T_glacierref16_Req 47 a1 c1 x1 :: F) ∧ glacierref16_Find_l1 k x1 x2 j v4 = some y2) (k := k) ⟨(0 : Int), (kpX [(1, I x2), (7, .slice a1 x1.length c1), (8, I (x1.length : Int)), (9, I 0)] rfl ⟨hst, hy2⟩)⟩ ?_ ?_
    · rintro _ _ ⟨_, _, _, _, h⟩
      rw [glacierref16_Find_l1] at h
      cases h
    · rintro j _ w ⟨v4, b, rfl, hst, hr⟩
      rw [glacierref16_Find_l1] at hr
      refine wp_seq ?_
      refine wp_reg ?_
      refine L_pure 1 [(1, I x2), (7, .slice a1 x1.length c1), (8, I (x1.length : Int)), (9, I v4), (10, .bool (decide (v4 < (x1.length : Int))))] (by kernel_rfl) fun b => ?_
      refine wpL_nil ?_
      refine th_n ?_
      refine wp_seq ?_
      refine wp_cond_mkF (t := decide (v4 < (x1.length : Int))) rfl (fun h => ?_) (fun h => ?_)
      · have hr := (if_pos h).symm.trans hr
        refine wp_skip ?_
        refine th_n ?_
        refine wp_seq ?_
        refine wp_block ?_
        refine wp_seq ?_
        refine wp_reg ?_
        refine L_pure 1 [(1, I x2), (7, .slice a1 x1.length c1), (8, I (x1.length : Int)), (9, I v4), (11, I v4)] (by kernel_rfl) fun b => ?_
        obtain ⟨x4, hx2, hr⟩ := bnd hr
        refine L_op rfl (O_run (v := pt (ab a1) (ao a1 + v4.toNat * 5)) (w' := w) (R_ia L42 rfl rfl (osl_addr hst hx2) (gt_some hx2).1 (gt_some hx2).2.1) rfl rfl ?_)
        obtain ⟨q2, hc2, hst⟩ := osl_cells hst hx2
        have hst := hst.drop
        refine L_op rfl (O_run (v := .agg #[I x4.ID, .int .u64 x4.Blob, I x4.Vol, I x4.At, I x4.Passed]) (w' := w) (R_loadAt (off := ao a1 + v4.toNat * 5) (j := 0) hc2 rfl rfl) rfl rfl ?_)
        refine L_op rfl (O_alloc (i := Try.t47) (z := .agg #[I 0, .int .u64 0, I 0, I 0, I 0]) [I 0, .int .u64 0, I 0, I 0, I 0] hst rfl rfl rfl rfl fun p2 w hst => ?_)
        refine L_pure 1 [(1, I x2), (5, I v4), (6, pt p2 0), (7, .slice a1 x1.length c1), (8, I (x1.length : Int)), (9, I v4), (13, .agg #[I x4.ID, .int .u64 x4.Blob, I x4.Vol, I x4.At, I x4.Passed])] (by kernel_rfl) fun b => ?_
        refine L_op rfl (O_store [I x4.ID, .int .u64 x4.Blob, I x4.Vol, I x4.At, I x4.Passed] hst rfl rfl (by kernel_rfl) fun w hst => ?_)
        refine wpL_nil ?_
        refine th_n ?_
        refine wp_seq ?_
        refine wp_reg ?_
        refine L_pure 1 [(1, I x2), (5, I v4), (7, .slice a1 x1.length c1), (8, I (x1.length : Int)), (9, I v4), (14, pt p2 0)] (by kernel_rfl) fun b => ?_
        refine L_op rfl (O_run (v := I x4.ID) (w' := w) (R_load hst rfl rfl) rfl rfl ?_)
        refine L_pure 2 [(1, I x2), (5, I v4), (7, .slice a1 x1.length c1), (8, I (x1.length : Int)), (9, I v4), (17, .bool (x4.ID == x2))] (by kernel_rfl) fun b => ?_
        refine wpL_nil ?_
        refine th_n ?_
        refine wp_cond_mkF (t := (x4.ID == x2)) rfl (fun h => ?_) (fun h => ?_)
        · have hr := (if_pos h).symm.trans hr
          refine wp_seq ?_
          refine wp_reg ?_
          refine L_pure 2 [(4, I v4)] (by kernel_rfl) fun b => ?_
          refine wpL_nil ?_
          refine th_n ?_
          refine wp_ret ?_
          refine ib_r (th_r (th_r (ib_r (th_r (th_r ?_)))))
          refine ret1 rfl rfl ?_
          obtain rfl := Option.some.inj hr
          obtain rfl := Option.some.inj hk2
          have hst := ((hst.pull 1).cut 1 1)
          exact hR _ hst
        · have hr := (if_neg (by rw [h]; exact Bool.false_ne_true)).symm.trans hr
          refine wp_skip ?_
          refine ib_n (th_n ?_)
          refine wp_reg ?_
          refine L_pure 2 [(1, I x2), (7, .slice a1 x1.length c1), (8, I (x1.length : Int)), (9, I (IntKind.i64.wrap (v4 + 1)))] (by kernel_rfl) fun b => ?_
          refine wpL_nil ?_
          refine th_n ?_
          have hst := ((hst.pull 1).cut 1 1)
          exact ⟨(IntKind.i64.wrap (v4 + 1)), (kpX [(1, I x2), (7, .slice a1 x1.length c1), (8, I (x1.length : Int)), (9, I (IntKind.i64.wrap (v4 + 1)))] rfl ⟨hst, hr⟩)⟩
      · have hr := (if_neg (by rw [h]; exact Bool.false_ne_true)).symm.trans hr
        refine wp_exit ?_
        refine th_x (th_x (ib_x (th_n ?_)))
        obtain rfl := Option.some.inj hr
        exact ⟨(), (kpXf [] rfl hst)⟩
def queue_Queue_Drop (k : Nat) (x1 : T_queue_Queue) (x2 : Int) : Option (Bool × (List T_queue_waiting)) := (Option.bind (queue_Queue_find k x1 x2) fun y3 => (if decide (y3 < 0) = true then some (false, x1.l) else (Option.bind (slices_Delete k x1.l y3 (IntKind.i64.wrap (y3 + 1))) fun y4 => some (true, y4))))
set_option maxRecDepth 100000 in
set_option maxHeartbeats 4000000 in
theorem queue_Queue_Drop_ok {G w : World} {F : List HP} {R : Ending → World → Prop} (k : Nat) (x1 : T_queue_Queue) (x2 : Int) (p1 : Nat) (a1 : Option Addr) (c1 : Nat) (r : (Bool × (List T_queue_waiting))) (hst : St G w (blk p1 (cl [.slice a1 x1.l.length c1] 30) :: osl r_T_queue_waiting 70 a1 c1 x1.l :: F)) (hr : queue_Queue_Drop k x1 x2 = some r)
    (hR : ∀ (a3 : Option Addr) (c3 : Nat) w', St G w' (osl r_T_queue_waiting 70 a3 c3 r.2 :: blk p1 (cl [.slice a3 r.2.length c3] 30) :: F) → R (.returned (.bool r.1)) w') :
    Calls Try.prog 17 #[pt p1 0, I x2] w R := by
  unfold queue_Queue_Drop at hr
  refine enter Try.func17 rfl [(0, pt p1 0), (1, I x2)] rfl rfl fun b => ?_
  refine wp_seq ?_
  refine wp_reg ?_
  refine L_pure 1 [(0, pt p1 0), (1, I x2)] (by kernel_rfl) fun b => ?_
  refine wpL_nil ?_
  refine th_n ?_
  refine wp_seq ?_
  refine wp_reg ?_
  refine L_pure 2 [(0, pt p1 0), (6, pt p1 0), (7, I x2)] (by kernel_rfl) fun b => ?_
  obtain ⟨y3, hy3, hr⟩ := bnd hr
  refine L_op rfl (O_call (vs := #[pt p1 0, I x2]) Try.call26 (by kernel_rfl) (queue_Queue_find_ok k x1 x2 p1 a1 c1 y3 ((hst.pull 1).pull 1) hy3 fun w hst => ?_))
  refine CK_ret rfl ?_
  refine L_pure 1 [(0, pt p1 0), (5, I y3)] (by kernel_rfl) fun b => ?_
  refine wpL_nil ?_
  refine th_n ?_
  refine wp_seq ?_
  refine wp_seq ?_
  refine wp_reg ?_
  refine L_pure 2 [(0, pt p1 0), (5, I y3), (10, .bool (decide (y3 < 0)))] (by kernel_rfl) fun b => ?_
  refine wpL_nil ?_
  refine th_n ?_
  refine wp_cond_mkF (t := decide (y3 < 0)) rfl (fun h => ?_) (fun h => ?_)
  · have hr := (if_pos h).symm.trans hr
    refine wp_seq ?_
    refine wp_reg ?_
    refine L_pure 1 [(4, .bool false)] (by kernel_rfl) fun b => ?_
    refine wpL_nil ?_
    refine th_n ?_
    refine wp_ret ?_
    refine th_r ?_
    refine ret1 rfl rfl ?_
    obtain rfl := Option.some.inj hr
    have hst := (hst.pull 1)
    exact hR a1 c1 _ hst
  · have hr := (if_neg (by rw [h]; exact Bool.false_ne_true)).symm.trans hr
    refine wp_skip ?_
    refine th_n ?_
    refine wp_seq ?_
    refine wp_reg ?_
    refine L_pure 4 [(5, I y3), (11, pt p1 0), (14, pt p1 0)] (by kernel_rfl) fun b => ?_
    refine L_op rfl (O_run (v := .slice a1 x1.l.length c1) (w' := w) (R_load hst rfl rfl) rfl rfl ?_)
    refine L_pure 3 [(11, pt p1 0), (15, .slice a1 x1.l.length c1), (16, I y3), (18, I (IntKind.i64.wrap (y3 + 1)))] (by kernel_rfl) fun b => ?_
    obtain ⟨y4, hy4, hr⟩ := bnd hr
    refine L_op rfl (O_call (vs := #[.slice a1 x1.l.length c1, I y3, I (IntKind.i64.wrap (y3 + 1))]) Try.call28 (by kernel_rfl) (slices_Delete_ok k x1.l y3 (IntKind.i64.wrap (y3 + 1)) a1 c1 y4 (hst.pull 1) hy4 fun a4 c4 w hst => ?_))
    refine CK_ret rfl ?_
    refine L_pure 2 [(19, .slice a4 y4.length c4), (21, pt p1 0)] (by kernel_rfl) fun b => ?_
    refine L_op rfl (O_store [.slice a4 y4.length c4] (hst.pull 1) rfl rfl (by kernel_rfl) fun w hst => ?_)
    refine wpL_nil ?_
    refine th_n ?_
    refine wp_seq ?_
    refine wp_reg ?_
    refine L_pure 1 [(4, .bool true)] (by kernel_rfl) fun b => ?_
    refine wpL_nil ?_
    refine th_n ?_
    refine wp_ret ?_
    refine ret1 rfl rfl ?_
    obtain rfl := Option.some.inj hr
    have hst := (hst.pull 1)
    exact hR a4 c4 _ hst
def glacierref16_Without_l1 (k : Nat) (x1 : (List T_glacierref16_Req)) (x2 : Int) : Nat → (List T_glacierref16_Req) → Int → Option ((List T_glacierref16_Req))
  | 0, _, _ => none
  | j + 1, v7, v8 => (if decide (v8 < (x1.length : Int)) = true then (Option.bind (Option.bind (gt x1 v8) fun x4 => (if (v8 != x2) = true then (if room (v7.length + ([x4]).length) 40 = true then some ((v7 ++ ([x4]))) else none) else some (v7))) fun y4 => (glacierref16_Without_l1 k x1 x2 j y4 (IntKind.i64.wrap (v8 + 1)))) else some (v7))
def glacierref16_Without (k : Nat) (x1 : (List T_glacierref16_Req)) (x2 : Int) : Option ((List T_glacierref16_Req)) := (Option.bind (glacierref16_Without_l1 k x1 x2 k ([]) (0 : Int)) fun y3 => some (y3))
set_option maxRecDepth 100000 in
set_option maxHeartbeats 4000000 in
theorem glacierref16_Without_ok {G w : World} {F : List HP} {R : Ending → World → Prop} (k : Nat) (x1 : (List T_glacierref16_Req)) (x2 : Int) (a1 : Option Addr) (c1 : Nat) (r : ((List T_glacierref16_Req))) (hst : St G w (osl r_T_glacierref16_Req 47 a1 c1 x1 :: F)) (hr : glacierref16_Without k x1 x2 = some r)
    (hR : ∀ (a6 : Option Addr) (c6 : Nat) w', St G w' (osl r_T_glacierref16_Req 47 a6 c6 r :: osl r_T_glacierref16_Req 47 a1 c1 x1 :: F) → R (.returned (.slice a6 r.length c6)) w') :
    Calls Try.prog 19 #[.slice a1 x1.length c1, I x2] w R := by
  unfold glacierref16_Without at hr
  refine enter Try.func19 rfl [(0, .slice a1 x1.length c1), (1, I x2)] rfl rfl fun b => ?_
  refine wp_seq ?_
  refine wp_reg ?_
  refine L_pure 1 [(0, .slice a1 x1.length c1), (1, I x2)] (by kernel_rfl) fun b => ?_
  refine wpL_nil ?_
  refine th_n ?_
  refine wp_seq ?_
  refine wp_reg ?_
  refine L_op rfl (O_bs (T := 47) [] #[] hst (by kernel_rfl) (by kernel_rfl) rfl fun p4 w hst => ?_)
  have hst := osl_of_blk0 (ecs := []) r_T_glacierref16_Req [] rfl (fun m => trivial) rfl hst
  refine L_pure 1 [(0, .slice a1 x1.length c1), (1, I x2), (5, .slice (some ⟨p4, 0, none⟩) 0 0)] (by kernel_rfl) fun b => ?_
  refine wpL_nil ?_
  refine th_n ?_
  refine wp_seq ?_
  refine wp_seq ?_
  refine wp_reg ?_
  refine L_pure 3 [(1, I x2), (5, .slice (some ⟨p4, 0, none⟩) 0 0), (9, .slice a1 x1.length c1), (10, I (x1.length : Int)), (11, I 0)] (by kernel_rfl) fun b => ?_
  refine wpL_nil ?_
  refine th_n ?_
  obtain ⟨y3, hy3, hk3⟩ := bnd hr
  clear hr
  refine wp_cut (fun a w => ∃ (a8 : Option Addr) (c8 : Nat)(b : Nat → Value), a = mkF 25 b [(5, .slice a8 y3.length c8)] ∧ St G w (osl r_T_glacierref16_Req 47 a8 c8 y3 :: osl r_T_glacierref16_Req 47 a1 c1 x1 :: F)) ?_ ?_
  · rintro _ w ⟨a8, c8, b, rfl, hst⟩
    have hr := hk3
    refine th_n ?_
    refine wp_seq ?_
    refine wp_reg ?_
    refine L_pure 2 [(4, .slice a8 y3.length c8)] (by kernel_rfl) fun b => ?_
    refine wpL_nil ?_
    refine th_n ?_
    refine wp_ret ?_
    refine ret1 rfl rfl ?_
    obtain rfl := Option.some.inj hr
    have hst := ((hst.pull 1).pull 1)
    exact hR a8 c8 _ hst
  · have hst := ((hst.pull 1).pull 1)
    refine wp_block ?_
    refine wp_loop_fuel (fun j a w => ∃ (v7 : (List T_glacierref16_Req)) (v8 : Int) (a7 : Option Addr) (c7 : Nat) (b : Nat → Value), a = mkF 25 b [(1, I x2), (5, .slice a7 v7.length c7), (9, .slice a1 x1.length c1), (10, I (x1.length : Int)), (11, I v8)] ∧ St G w (osl r_T_glacierref16_Req 47 a7 c7 v7 :: osl r_T_glacierref16_Req 47 a1 c1 x1 :: F) ∧ glacierref16_Without_l1 k x1 x2 j v7 v8 = some y3) (k := k) ⟨[], (0 : Int), (some ⟨p4, 0, none⟩), 0, (kpX [(1, I x2), (5, .slice (some ⟨p4, 0, none⟩) 0 0), (9, .slice a1 x1.length c1), (10, I (x1.length : Int)), (11, I 0)] rfl ⟨hst, hy3⟩)⟩ ?_ ?_
    · rintro _ _ ⟨_, _, _, _, _, _, _, h⟩
      rw [glacierref16_Without_l1] at h
      cases h
    · rintro j _ w ⟨v7, v8, a7, c7, b, rfl, hst, hr⟩
      rw [glacierref16_Without_l1] at hr
      refine wp_seq ?_
      refine wp_reg ?_
      refine L_pure 1 [(1, I x2), (5, .slice a7 v7.length c7), (9, .slice a1 x1.length c1), (10, I (x1.length : Int)), (11, I v8), (12, .bool (decide (v8 < (x1.length : Int))))] (by kernel_rfl) fun b => ?_
      refine wpL_nil ?_
      refine th_n ?_
      refine wp_seq ?_
      refine wp_cond_mkF (t := decide (v8 < (x1.length : Int))) rfl (fun h => ?_) (fun h => ?_)
      · have hr := (if_pos h).symm.trans hr
        refine wp_skip ?_
        refine th_n ?_
        obtain ⟨y4, hy4, hk4⟩ := bnd hr
        clear hr
        refine wp_seq_cut (fun a w => ∃ (a9 : Option Addr) (c9 : Nat)(b : Nat → Value), a = mkF 25 b [(1, I x2), (5, .slice a9 y4.length c9), (9, .slice a1 x1.length c1), (10, I (x1.length : Int)), (11, I v8)] ∧ St G w (osl r_T_glacierref16_Req 47 a9 c9 y4 :: osl r_T_glacierref16_Req 47 a1 c1 x1 :: F)) ?_ ?_
        · rintro _ w ⟨a9, c9, b, rfl, hst⟩
          have hr := hk4
          refine wp_reg ?_
          refine L_pure 2 [(1, I x2), (5, .slice a9 y4.length c9), (9, .slice a1 x1.length c1), (10, I (x1.length : Int)), (11, I (IntKind.i64.wrap (v8 + 1)))] (by kernel_rfl) fun b => ?_
          refine wpL_nil ?_
          refine th_n ?_
          have hst := ((hst.pull 1).pull 1)
          exact ⟨y4, (IntKind.i64.wrap (v8 + 1)), a9, c9, (kpX [(1, I x2), (5, .slice a9 y4.length c9), (9, .slice a1 x1.length c1), (10, I (x1.length : Int)), (11, I (IntKind.i64.wrap (v8 + 1)))] rfl ⟨hst, hr⟩)⟩
        · have hr := hy4
          refine wp_block ?_
          refine wp_seq ?_
          refine wp_reg ?_
          refine L_pure 1 [(1, I x2), (5, .slice a7 v7.length c7), (9, .slice a1 x1.length c1), (10, I (x1.length : Int)), (11, I v8), (13, I v8)] (by kernel_rfl) fun b => ?_
          obtain ⟨x4, hx2, hr⟩ := bnd hr
          refine L_op rfl (O_run (v := pt (ab a1) (ao a1 + v8.toNat * 5)) (w' := w) (R_ia L42 rfl rfl (osl_addr (hst.pull 1) hx2) (gt_some hx2).1 (gt_some hx2).2.1) rfl rfl ?_)
          obtain ⟨q2, hc2, hst⟩ := osl_cells (hst.pull 1) hx2
          have hst := hst.drop
          refine L_op rfl (O_run (v := .agg #[I x4.ID, .int .u64 x4.Blob, I x4.Vol, I x4.At, I x4.Passed]) (w' := w) (R_loadAt (off := ao a1 + v8.toNat * 5) (j := 0) hc2 rfl rfl) rfl rfl ?_)
          refine L_op rfl (O_alloc (i := Try.t47) (z := .agg #[I 0, .int .u64 0, I 0, I 0, I 0]) [I 0, .int .u64 0, I 0, I 0, I 0] hst rfl rfl rfl rfl fun p5 w hst => ?_)
          refine L_pure 1 [(1, I x2), (5, .slice a7 v7.length c7), (6, I v8), (7, pt p5 0), (9, .slice a1 x1.length c1), (10, I (x1.length : Int)), (11, I v8), (15, .agg #[I x4.ID, .int .u64 x4.Blob, I x4.Vol, I x4.At, I x4.Passed])] (by kernel_rfl) fun b => ?_
          refine L_op rfl (O_store [I x4.ID, .int .u64 x4.Blob, I x4.Vol, I x4.At, I x4.Passed] hst rfl rfl (by kernel_rfl) fun w hst => ?_)
          refine wpL_nil ?_
          refine th_n ?_
          refine wp_seq ?_
          refine wp_reg ?_
          refine L_pure 3 [(1, I x2), (5, .slice a7 v7.length c7), (7, pt p5 0), (9, .slice a1 x1.length c1), (10, I (x1.length : Int)), (11, I v8), (18, .bool (v8 != x2))] (by kernel_rfl) fun b => ?_
          refine wpL_nil ?_
          refine th_n ?_
          refine wp_cond_mkF (t := (v8 != x2)) rfl (fun h => ?_) (fun h => ?_)
          · have hr := (if_pos h).symm.trans hr
            refine wp_reg ?_
            refine L_pure 1 [(1, I x2), (7, pt p5 0), (9, .slice a1 x1.length c1), (10, I (x1.length : Int)), (11, I v8), (19, .slice a7 v7.length c7)] (by kernel_rfl) fun b => ?_
            refine L_op rfl (O_run (v := .agg #[I x4.ID, .int .u64 x4.Blob, I x4.Vol, I x4.At, I x4.Passed]) (w' := w) (R_load hst rfl rfl) rfl rfl ?_)
            refine L_op rfl (O_bs (T := 47) [I x4.ID, .int .u64 x4.Blob, I x4.Vol, I x4.At, I x4.Passed] #[(0, .agg #[I x4.ID, .int .u64 x4.Blob, I x4.Vol, I x4.At, I x4.Passed])] hst (by kernel_rfl) (by kernel_rfl) rfl fun p6 w hst => ?_)
            have hst := osl_of_blk0 (ecs := [[I x4.ID, .int .u64 x4.Blob, I x4.Vol, I x4.At, I x4.Passed]]) r_T_glacierref16_Req [x4] rfl (fun m => ⟨⟨(), rfl, trivial⟩, trivial⟩) rfl hst
            obtain ⟨hb2, hr⟩ := chk hr
            refine L_op rfl (O_app_o L42 (hst.pull 3) rfl rfl hb2 rfl fun a10 c10 w hst => ?_)
            refine L_pure 1 [(1, I x2), (5, .slice a10 (v7 ++ ([x4])).length c10), (9, .slice a1 x1.length c1), (10, I (x1.length : Int)), (11, I v8)] (by kernel_rfl) fun b => ?_
            refine wpL_nil ?_
            refine ib_n (th_n ?_)
            obtain rfl := Option.some.inj hr
            have hst := (((hst.pull 3).pull 1).cut 2 2)
            exact ⟨a10, c10, (kpX [(1, I x2), (5, .slice a10 (v7 ++ ([x4])).length c10), (9, .slice a1 x1.length c1), (10, I (x1.length : Int)), (11, I v8)] rfl hst)⟩
          · have hr := (if_neg (by rw [h]; exact Bool.false_ne_true)).symm.trans hr
            refine wp_skip ?_
            refine ib_n (th_n ?_)
            obtain rfl := Option.some.inj hr
            have hst := (((hst.pull 1).pull 2).cut 2 1)
            exact ⟨a7, c7, (kpX [(1, I x2), (5, .slice a7 v7.length c7), (9, .slice a1 x1.length c1), (10, I (x1.length : Int)), (11, I v8)] rfl hst)⟩
      · have hr := (if_neg (by rw [h]; exact Bool.false_ne_true)).symm.trans hr
        refine wp_exit ?_
        refine th_x (th_x (ib_x (th_n ?_)))
        obtain rfl := Option.some.inj hr
        have hst := ((hst.pull 1).pull 1)
        exact ⟨a7, c7, (kpX [(5, .slice a7 v7.length c7)] rfl hst)⟩
def glacierref16_least_l1 (k : Nat) (x1 : (List T_glacierref16_Req)) (x2 : Int) (x3 : Int) (x4 : Int) : Nat → Int → Int → Option (Int)
  | 0, _, _ => none
  | j + 1, v7, v8 => (if decide (v8 < (x1.length : Int)) = true then (Option.bind (Option.bind (gt x1 v8) fun x7 => (Option.bind (if (x7.Vol == x2) = true then (if decide (x7.At ≥ x3) = true then (if decide (x7.At < x4) = true then (if decide (v7 < 0) = true then some (true) else (Option.bind (gt x1 v7) fun x8 => some (decide (x7.At < x8.At)))) else some (false)) else some (false)) else some (false)) fun y6 => (if y6 = true then some (v8) else some (v7)))) fun y5 => (glacierref16_least_l1 k x1 x2 x3 x4 j y5 (IntKind.i64.wrap (v8 + 1)))) else some (v7))
def glacierref16_least (k : Nat) (x1 : (List T_glacierref16_Req)) (x2 : Int) (x3 : Int) (x4 : Int) : Option (Int) := (Option.bind (glacierref16_least_l1 k x1 x2 x3 x4 k ((-1) : Int) (0 : Int)) fun y4 => some (y4))
set_option maxRecDepth 100000 in
set_option maxHeartbeats 4000000 in
theorem glacierref16_least_ok {G w : World} {F : List HP} {R : Ending → World → Prop} (k : Nat) (x1 : (List T_glacierref16_Req)) (x2 : Int) (x3 : Int) (x4 : Int) (a1 : Option Addr) (c1 : Nat) (r : (Int)) (hst : St G w (osl r_T_glacierref16_Req 47 a1 c1 x1 :: F)) (hr : glacierref16_least k x1 x2 x3 x4 = some r)
    (hR : ∀ w', St G w' (osl r_T_glacierref16_Req 47 a1 c1 x1 :: F) → R (.returned (I r)) w') :
    Calls Try.prog 38 #[.slice a1 x1.length c1, I x2, I x3, I x4] w R := by
  unfold glacierref16_least at hr
  refine enter Try.func38 rfl [(0, .slice a1 x1.length c1), (1, I x2), (2, I x3), (3, I x4)] rfl rfl fun b => ?_
  refine wp_seq ?_
  refine wp_reg ?_
  refine L_pure 1 [(0, .slice a1 x1.length c1), (1, I x2), (2, I x3), (3, I x4)] (by kernel_rfl) fun b => ?_
  refine wpL_nil ?_
  refine th_n ?_
  refine wp_seq ?_
  refine wp_reg ?_
  refine L_pure 1 [(0, .slice a1 x1.length c1), (1, I x2), (2, I x3), (3, I x4), (9, I (-1))] (by kernel_rfl) fun b => ?_
  refine wpL_nil ?_
  refine th_n ?_
  refine wp_seq ?_
  refine wp_seq ?_
  refine wp_reg ?_
  refine L_pure 3 [(0, .slice a1 x1.length c1), (1, I x2), (2, I x3), (3, I x4), (9, I (-1)), (12, .slice a1 x1.length c1), (13, I (x1.length : Int)), (14, I 0)] (by kernel_rfl) fun b => ?_
  refine wpL_nil ?_
  refine th_n ?_
  obtain ⟨y4, hy4, hk4⟩ := bnd hr
  clear hr
  refine wp_cut (fun a w => ∃ (b : Nat → Value), a = mkF 52 b [(9, I y4)] ∧ St G w (osl r_T_glacierref16_Req 47 a1 c1 x1 :: F)) ?_ ?_
  · rintro _ w ⟨b, rfl, hst⟩
    have hr := hk4
    refine th_n ?_
    refine wp_seq ?_
    refine wp_reg ?_
    refine L_pure 2 [(8, I y4)] (by kernel_rfl) fun b => ?_
    refine wpL_nil ?_
    refine th_n ?_
    refine wp_ret ?_
    refine ret1 rfl rfl ?_
    obtain rfl := Option.some.inj hr
    exact hR _ hst
  · refine wp_block ?_
    refine wp_loop_fuel (fun j a w => ∃ (v7 : Int) (v8 : Int) (b : Nat → Value), a = mkF 52 b [(0, .slice a1 x1.length c1), (1, I x2), (2, I x3), (3, I x4), (9, I v7), (12, .slice a1 x1.length c1), (13, I (x1.length : Int)), (14, I v8)] ∧ St G w (osl r_T_glacierref16_Req 47 a1 c1 x1 :: F) ∧ glacierref16_least_l1 k x1 x2 x3 x4 j v7 v8 = some y4) (k := k) ⟨((-1) : Int), (0 : Int), (kpX [(0, .slice a1 x1.length c1), (1, I x2), (2, I x3), (3, I x4), (9, I (-1)), (12, .slice a1 x1.length c1), (13, I (x1.length : Int)), (14, I 0)] rfl ⟨hst, hy4⟩)⟩ ?_ ?_
    · rintro _ _ ⟨_, _, _, _, _, h⟩
      rw [glacierref16_least_l1] at h
      cases h
    · rintro j _ w ⟨v7, v8, b, rfl, hst, hr⟩
      rw [glacierref16_least_l1] at hr
      refine wp_seq ?_
      refine wp_reg ?_
      refine L_pure 1 [(0, .slice a1 x1.length c1), (1, I x2), (2, I x3), (3, I x4), (9, I v7), (12, .slice a1 x1.length c1), (13, I (x1.length : Int)), (14, I v8), (15, .bool (decide (v8 < (x1.length : Int))))] (by kernel_rfl) fun b => ?_
      refine wpL_nil ?_
      refine th_n ?_
      refine wp_seq ?_
      refine wp_cond_mkF (t := decide (v8 < (x1.length : Int))) rfl (fun h => ?_) (fun h => ?_)
      · have hr := (if_pos h).symm.trans hr
        refine wp_skip ?_
        refine th_n ?_
        obtain ⟨y5, hy5, hk5⟩ := bnd hr
        clear hr
        refine wp_seq_cut (fun a w => ∃ (b : Nat → Value), a = mkF 52 b [(0, .slice a1 x1.length c1), (1, I x2), (2, I x3), (3, I x4), (9, I y5), (12, .slice a1 x1.length c1), (13, I (x1.length : Int)), (14, I v8)] ∧ St G w (osl r_T_glacierref16_Req 47 a1 c1 x1 :: F)) ?_ ?_
        · rintro _ w ⟨b, rfl, hst⟩
          have hr := hk5
          refine wp_reg ?_
          refine L_pure 2 [(0, .slice a1 x1.length c1), (1, I x2), (2, I x3), (3, I x4), (9, I y5), (12, .slice a1 x1.length c1), (13, I (x1.length : Int)), (14, I (IntKind.i64.wrap (v8 + 1)))] (by kernel_rfl) fun b => ?_
          refine wpL_nil ?_
          refine th_n ?_
          exact ⟨y5, (IntKind.i64.wrap (v8 + 1)), (kpX [(0, .slice a1 x1.length c1), (1, I x2), (2, I x3), (3, I x4), (9, I y5), (12, .slice a1 x1.length c1), (13, I (x1.length : Int)), (14, I (IntKind.i64.wrap (v8 + 1)))] rfl ⟨hst, hr⟩)⟩
        · have hr := hy5
          refine wp_block ?_
          refine wp_seq ?_
          refine wp_reg ?_
          refine L_pure 1 [(0, .slice a1 x1.length c1), (1, I x2), (2, I x3), (3, I x4), (9, I v7), (12, .slice a1 x1.length c1), (13, I (x1.length : Int)), (14, I v8), (16, I v8)] (by kernel_rfl) fun b => ?_
          obtain ⟨x7, hx3, hr⟩ := bnd hr
          refine L_op rfl (O_run (v := pt (ab a1) (ao a1 + v8.toNat * 5)) (w' := w) (R_ia L42 rfl rfl (osl_addr hst hx3) (gt_some hx3).1 (gt_some hx3).2.1) rfl rfl ?_)
          obtain ⟨q3, hc3, hst⟩ := osl_cells hst hx3
          have hst := hst.drop
          refine L_op rfl (O_run (v := .agg #[I x7.ID, .int .u64 x7.Blob, I x7.Vol, I x7.At, I x7.Passed]) (w' := w) (R_loadAt (off := ao a1 + v8.toNat * 5) (j := 0) hc3 rfl rfl) rfl rfl ?_)
          refine L_op rfl (O_alloc (i := Try.t47) (z := .agg #[I 0, .int .u64 0, I 0, I 0, I 0]) [I 0, .int .u64 0, I 0, I 0, I 0] hst rfl rfl rfl rfl fun p2 w hst => ?_)
          refine L_pure 1 [(0, .slice a1 x1.length c1), (1, I x2), (2, I x3), (3, I x4), (9, I v7), (10, I v8), (11, pt p2 0), (12, .slice a1 x1.length c1), (13, I (x1.length : Int)), (14, I v8), (18, .agg #[I x7.ID, .int .u64 x7.Blob, I x7.Vol, I x7.At, I x7.Passed])] (by kernel_rfl) fun b => ?_
          refine L_op rfl (O_store [I x7.ID, .int .u64 x7.Blob, I x7.Vol, I x7.At, I x7.Passed] hst rfl rfl (by kernel_rfl) fun w hst => ?_)
          refine wpL_nil ?_
          refine th_n ?_
          obtain ⟨y6, hy6, hk6⟩ := bnd hr
          clear hr
          refine wp_seq_cut (fun a w => ∃ (b : Nat → Value), a = mkF 52 b [(0, .slice a1 x1.length c1), (1, I x2), (2, I x3), (3, I x4), (9, I v7), (10, I v8), (12, .slice a1 x1.length c1), (13, I (x1.length : Int)), (14, I v8), (48, .bool y6)] ∧ St G w (blk p2 (cl [I x7.ID, .int .u64 x7.Blob, I x7.Vol, I x7.At, I x7.Passed] 47) :: osl r_T_glacierref16_Req 47 a1 c1 x1 :: F)) ?_ ?_
          · rintro _ w ⟨b, rfl, hst⟩
            have hr := hk6
            refine wp_cond_mkF (t := y6) rfl (fun h => ?_) (fun h => ?_)
            · have hr := (if_pos h).symm.trans hr
              refine wp_reg ?_
              refine L_pure 2 [(0, .slice a1 x1.length c1), (1, I x2), (2, I x3), (3, I x4), (9, I v8), (12, .slice a1 x1.length c1), (13, I (x1.length : Int)), (14, I v8)] (by kernel_rfl) fun b => ?_
              refine wpL_nil ?_
              refine ib_n (th_n ?_)
              obtain rfl := Option.some.inj hr
              have hst := ((hst.pull 1).cut 1 1)
              exact (kpX [(0, .slice a1 x1.length c1), (1, I x2), (2, I x3), (3, I x4), (9, I v8), (12, .slice a1 x1.length c1), (13, I (x1.length : Int)), (14, I v8)] rfl hst)
            · have hr := (if_neg (by rw [h]; exact Bool.false_ne_true)).symm.trans hr
              refine wp_skip ?_
              refine ib_n (th_n ?_)
              obtain rfl := Option.some.inj hr
              have hst := ((hst.pull 1).cut 1 1)
              exact (kpX [(0, .slice a1 x1.length c1), (1, I x2), (2, I x3), (3, I x4), (9, I v7), (12, .slice a1 x1.length c1), (13, I (x1.length : Int)), (14, I v8)] rfl hst)
          · have hr := hy6
            refine wp_regG (SN { w with drawn := w.drawn + 1 }) rfl ?_
            have hst := hst.draw (n := w.drawn + 1)
            generalize { w with drawn := w.drawn + 1 } = w at hst ⊢
            refine C_take (i := 0) (v := pt p2 2) rfl (by kernel_rfl) (fun _ _ _ h => h) rfl rfl rfl (R_pure (by kernel_rfl)) ?_
            refine C_take (i := 1) (v := I x7.Vol) rfl (by kernel_rfl) (fun _ _ _ h => h) rfl rfl rfl (R_load hst rfl rfl) ?_
            refine C_take (i := 2) (v := I x2) rfl (by kernel_rfl) (fun _ _ _ h => h) rfl rfl rfl (R_pure (by kernel_rfl)) ?_
            refine C_take (i := 3) (v := .bool (x7.Vol == x2)) rfl (by kernel_rfl) (fun _ _ _ h => h) rfl rfl rfl (R_pure (by kernel_rfl)) ?_
            refine C_take (i := 4) (v := .bool (x7.Vol == x2)) rfl (by kernel_rfl) (fun _ _ _ h => h) rfl rfl rfl (R_pure (by kernel_rfl)) ?_
            by_cases h : (x7.Vol == x2) = true
            · have hr := (if_pos h).symm.trans hr
              refine C_keep ((23, .bool (x7.Vol == x2)) :: [(0, .slice a1 x1.length c1), (1, I x2), (2, I x3), (3, I x4), (9, I v7), (10, I v8), (11, pt p2 0), (12, .slice a1 x1.length c1), (13, I (x1.length : Int)), (14, I v8), (18, .agg #[I x7.ID, .int .u64 x7.Blob, I x7.Vol, I x7.At, I x7.Passed]), (19, pt p2 2), (20, I x7.Vol), (21, I x2), (22, .bool (x7.Vol == x2))]) rfl fun b => ?_
              refine C_bool h ?_
              refine C_take (i := 5) (v := pt p2 3) rfl (by kernel_rfl) (fun _ _ _ h => h) rfl rfl rfl (R_pure (by kernel_rfl)) ?_
              refine C_take (i := 6) (v := I x7.At) rfl (by kernel_rfl) (fun _ _ _ h => h) rfl rfl rfl (R_load hst rfl rfl) ?_
              refine C_take (i := 7) (v := I x3) rfl (by kernel_rfl) (fun _ _ _ h => h) rfl rfl rfl (R_pure (by kernel_rfl)) ?_
              refine C_take (i := 8) (v := .bool (decide (x7.At ≥ x3))) rfl (by kernel_rfl) (fun _ _ _ h => h) rfl rfl rfl (R_pure (by kernel_rfl)) ?_
              refine C_take (i := 9) (v := .bool (decide (x7.At ≥ x3))) rfl (by kernel_rfl) (fun _ _ _ h => h) rfl rfl rfl (R_pure (by kernel_rfl)) ?_
              refine C_take (i := 10) (v := .bool (decide (x7.At ≥ x3))) rfl (by kernel_rfl) (fun _ _ _ h => h) rfl rfl rfl (R_pure (by kernel_rfl)) ?_
              by_cases h : (decide (x7.At ≥ x3)) = true
              · have hr := (if_pos h).symm.trans hr
                refine C_keep ((29, .bool (decide (x7.At ≥ x3))) :: [(0, .slice a1 x1.length c1), (1, I x2), (2, I x3), (3, I x4), (9, I v7), (10, I v8), (11, pt p2 0), (12, .slice a1 x1.length c1), (13, I (x1.length : Int)), (14, I v8), (18, .agg #[I x7.ID, .int .u64 x7.Blob, I x7.Vol, I x7.At, I x7.Passed]), (19, pt p2 2), (20, I x7.Vol), (21, I x2), (22, .bool (x7.Vol == x2)), (23, .bool true), (24, pt p2 3), (25, I x7.At), (26, I x3), (27, .bool (decide (x7.At ≥ x3))), (28, .bool (decide (x7.At ≥ x3)))]) rfl fun b => ?_
                refine C_bool h ?_
                refine C_take (i := 11) (v := pt p2 3) rfl (by kernel_rfl) (fun _ _ _ h => h) rfl rfl rfl (R_pure (by kernel_rfl)) ?_
                refine C_take (i := 12) (v := I x7.At) rfl (by kernel_rfl) (fun _ _ _ h => h) rfl rfl rfl (R_load hst rfl rfl) ?_
                refine C_take (i := 13) (v := I x4) rfl (by kernel_rfl) (fun _ _ _ h => h) rfl rfl rfl (R_pure (by kernel_rfl)) ?_
                refine C_take (i := 14) (v := .bool (decide (x7.At < x4))) rfl (by kernel_rfl) (fun _ _ _ h => h) rfl rfl rfl (R_pure (by kernel_rfl)) ?_
                refine C_take (i := 15) (v := .bool (decide (x7.At < x4))) rfl (by kernel_rfl) (fun _ _ _ h => h) rfl rfl rfl (R_pure (by kernel_rfl)) ?_
                refine C_take (i := 16) (v := .bool (decide (x7.At < x4))) rfl (by kernel_rfl) (fun _ _ _ h => h) rfl rfl rfl (R_pure (by kernel_rfl)) ?_
                by_cases h : (decide (x7.At < x4)) = true
                · have hr := (if_pos h).symm.trans hr
                  refine C_keep ((35, .bool (decide (x7.At < x4))) :: [(0, .slice a1 x1.length c1), (1, I x2), (2, I x3), (3, I x4), (9, I v7), (10, I v8), (11, pt p2 0), (12, .slice a1 x1.length c1), (13, I (x1.length : Int)), (14, I v8), (18, .agg #[I x7.ID, .int .u64 x7.Blob, I x7.Vol, I x7.At, I x7.Passed]), (19, pt p2 2), (20, I x7.Vol), (21, I x2), (22, .bool (x7.Vol == x2)), (23, .bool true), (24, pt p2 3), (25, I x7.At), (26, I x3), (27, .bool (decide (x7.At ≥ x3))), (28, .bool (decide (x7.At ≥ x3))), (29, .bool true), (30, pt p2 3), (31, I x7.At), (32, I x4), (33, .bool (decide (x7.At < x4))), (34, .bool (decide (x7.At < x4)))]) rfl fun b => ?_
                  refine C_bool h ?_
                  refine C_take (i := 17) (v := I v7) rfl (by kernel_rfl) (fun _ _ _ h => h) rfl rfl rfl (R_pure (by kernel_rfl)) ?_
                  refine C_take (i := 18) (v := .bool (decide (v7 < 0))) rfl (by kernel_rfl) (fun _ _ _ h => h) rfl rfl rfl (R_pure (by kernel_rfl)) ?_
                  refine C_take (i := 19) (v := .bool (decide (v7 < 0))) rfl (by kernel_rfl) (fun _ _ _ h => h) rfl rfl rfl (R_pure (by kernel_rfl)) ?_
                  by_cases h : (decide (v7 < 0)) = true
                  · have hr := (if_pos h).symm.trans hr
                    refine C_keep ((38, .bool (decide (v7 < 0))) :: [(0, .slice a1 x1.length c1), (1, I x2), (2, I x3), (3, I x4), (9, I v7), (10, I v8), (11, pt p2 0), (12, .slice a1 x1.length c1), (13, I (x1.length : Int)), (14, I v8), (18, .agg #[I x7.ID, .int .u64 x7.Blob, I x7.Vol, I x7.At, I x7.Passed]), (19, pt p2 2), (20, I x7.Vol), (21, I x2), (22, .bool (x7.Vol == x2)), (23, .bool true), (24, pt p2 3), (25, I x7.At), (26, I x3), (27, .bool (decide (x7.At ≥ x3))), (28, .bool (decide (x7.At ≥ x3))), (29, .bool true), (30, pt p2 3), (31, I x7.At), (32, I x4), (33, .bool (decide (x7.At < x4))), (34, .bool (decide (x7.At < x4))), (35, .bool true), (36, I v7), (37, .bool (decide (v7 < 0)))]) rfl fun b => ?_
                    refine C_bool h ?_
                    refine C_skip (i := 20) rfl (by kernel_rfl) (fun _ _ _ h => h) rfl rfl rfl ?_
                    refine C_skip (i := 21) rfl (by kernel_rfl) (fun _ _ _ h => h) rfl rfl rfl ?_
                    refine C_skip (i := 22) rfl (by kernel_rfl) (fun _ _ _ h => h) rfl rfl rfl ?_
                    refine C_skip (i := 23) rfl (by kernel_rfl) (fun _ _ _ h => h) rfl rfl rfl ?_
                    refine C_skip (i := 24) rfl (by kernel_rfl) (fun _ _ _ h => h) rfl rfl rfl ?_
                    refine C_skip (i := 25) rfl (by kernel_rfl) (fun _ _ _ h => h) rfl rfl rfl ?_
                    refine C_skip (i := 26) rfl (by kernel_rfl) (fun _ _ _ h => h) rfl rfl rfl ?_
                    refine C_skip (i := 27) rfl (by kernel_rfl) (fun _ _ _ h => h) rfl rfl rfl ?_
                    refine C_take (i := 28) (v := .bool true) rfl (by kernel_rfl) (fun _ _ _ h => h) rfl rfl rfl (R_pure (by kernel_rfl)) ?_
                    refine C_take (i := 29) (v := .bool true) rfl (by kernel_rfl) (fun _ _ _ h => h) rfl rfl rfl (R_pure (by kernel_rfl)) ?_
                    refine wpG_done (by kernel_rfl) ?_ _
                    refine C_keepQ [(0, .slice a1 x1.length c1), (1, I x2), (2, I x3), (3, I x4), (9, I v7), (10, I v8), (12, .slice a1 x1.length c1), (13, I (x1.length : Int)), (14, I v8), (48, .bool true)] rfl fun b => ?_
                    refine th_n ?_
                    obtain rfl := Option.some.inj hr
                    have hst := ((hst.pull 1).pull 1)
                    exact (kpX [(0, .slice a1 x1.length c1), (1, I x2), (2, I x3), (3, I x4), (9, I v7), (10, I v8), (12, .slice a1 x1.length c1), (13, I (x1.length : Int)), (14, I v8), (48, .bool true)] rfl hst)
                  · have hr := (if_neg h).symm.trans hr
                    refine C_keep ((38, .bool (decide (v7 < 0))) :: [(0, .slice a1 x1.length c1), (1, I x2), (2, I x3), (3, I x4), (9, I v7), (10, I v8), (11, pt p2 0), (12, .slice a1 x1.length c1), (13, I (x1.length : Int)), (14, I v8), (18, .agg #[I x7.ID, .int .u64 x7.Blob, I x7.Vol, I x7.At, I x7.Passed]), (19, pt p2 2), (20, I x7.Vol), (21, I x2), (22, .bool (x7.Vol == x2)), (23, .bool true), (24, pt p2 3), (25, I x7.At), (26, I x3), (27, .bool (decide (x7.At ≥ x3))), (28, .bool (decide (x7.At ≥ x3))), (29, .bool true), (30, pt p2 3), (31, I x7.At), (32, I x4), (33, .bool (decide (x7.At < x4))), (34, .bool (decide (x7.At < x4))), (35, .bool true), (36, I v7), (37, .bool (decide (v7 < 0)))]) rfl fun b => ?_
                    refine C_bool (eq_false_of_ne_true h) ?_
                    refine C_take (i := 20) (v := pt p2 3) rfl (by kernel_rfl) (fun _ _ _ h => h) rfl rfl rfl (R_pure (by kernel_rfl)) ?_
                    refine C_take (i := 21) (v := I x7.At) rfl (by kernel_rfl) (fun _ _ _ h => h) rfl rfl rfl (R_load hst rfl rfl) ?_
                    refine C_take (i := 22) (v := .slice a1 x1.length c1) rfl (by kernel_rfl) (fun _ _ _ h => h) rfl rfl rfl (R_pure (by kernel_rfl)) ?_
                    refine C_take (i := 23) (v := I v7) rfl (by kernel_rfl) (fun _ _ _ h => h) rfl rfl rfl (R_pure (by kernel_rfl)) ?_
                    obtain ⟨x8, hx4, hr⟩ := bnd hr
                    refine C_take (i := 24) (v := pt (ab a1) (ao a1 + v7.toNat * 5)) rfl (by kernel_rfl) (fun _ _ _ h => h) rfl rfl rfl (R_ia L42 rfl rfl (osl_addr (hst.pull 1) hx4) (gt_some hx4).1 (gt_some hx4).2.1) ?_
                    refine C_take (i := 25) (v := pt (ab a1) (ao a1 + v7.toNat * 5 + 3)) rfl (by kernel_rfl) (fun _ _ _ h => h) rfl rfl rfl (R_pure (by kernel_rfl)) ?_
                    obtain ⟨q4, hc4, hst⟩ := osl_cells (hst.pull 1) hx4
                    have hst := hst.drop
                    refine C_take (i := 26) (v := I x8.At) rfl (by kernel_rfl) (fun _ _ _ h => h) rfl rfl rfl (R_loadAt (off := ao a1 + v7.toNat * 5) (j := 3) hc4 rfl rfl) ?_
                    refine C_take (i := 27) (v := .bool (decide (x7.At < x8.At))) rfl (by kernel_rfl) (fun _ _ _ h => h) rfl rfl rfl (R_pure (by kernel_rfl)) ?_
                    refine C_take (i := 28) (v := .bool (decide (x7.At < x8.At))) rfl (by kernel_rfl) (fun _ _ _ h => h) rfl rfl rfl (R_pure (by kernel_rfl)) ?_
                    refine C_take (i := 29) (v := .bool (decide (x7.At < x8.At))) rfl (by kernel_rfl) (fun _ _ _ h => h) rfl rfl rfl (R_pure (by kernel_rfl)) ?_
                    refine wpG_done (by kernel_rfl) ?_ _
                    refine C_keepQ [(0, .slice a1 x1.length c1), (1, I x2), (2, I x3), (3, I x4), (9, I v7), (10, I v8), (12, .slice a1 x1.length c1), (13, I (x1.length : Int)), (14, I v8), (48, .bool (decide (x7.At < x8.At)))] rfl fun b => ?_
                    refine th_n ?_
                    obtain rfl := Option.some.inj hr
                    have hst := (hst.pull 1)
                    exact (kpX [(0, .slice a1 x1.length c1), (1, I x2), (2, I x3), (3, I x4), (9, I v7), (10, I v8), (12, .slice a1 x1.length c1), (13, I (x1.length : Int)), (14, I v8), (48, .bool (decide (x7.At < x8.At)))] rfl hst)
                · have hr := (if_neg h).symm.trans hr
                  refine C_keep ((35, .bool (decide (x7.At < x4))) :: [(0, .slice a1 x1.length c1), (1, I x2), (2, I x3), (3, I x4), (9, I v7), (10, I v8), (11, pt p2 0), (12, .slice a1 x1.length c1), (13, I (x1.length : Int)), (14, I v8), (18, .agg #[I x7.ID, .int .u64 x7.Blob, I x7.Vol, I x7.At, I x7.Passed]), (19, pt p2 2), (20, I x7.Vol), (21, I x2), (22, .bool (x7.Vol == x2)), (23, .bool true), (24, pt p2 3), (25, I x7.At), (26, I x3), (27, .bool (decide (x7.At ≥ x3))), (28, .bool (decide (x7.At ≥ x3))), (29, .bool true), (30, pt p2 3), (31, I x7.At), (32, I x4), (33, .bool (decide (x7.At < x4))), (34, .bool (decide (x7.At < x4)))]) rfl fun b => ?_
                  refine C_bool (eq_false_of_ne_true h) ?_
                  refine C_skip (i := 17) rfl (by kernel_rfl) (fun _ _ _ h => h) rfl rfl rfl ?_
                  refine C_skip (i := 18) rfl (by kernel_rfl) (fun _ _ _ h => h) rfl rfl rfl ?_
                  refine C_skip (i := 19) rfl (by kernel_rfl) (fun _ _ _ h => h) rfl rfl rfl ?_
                  refine C_skip (i := 20) rfl (by kernel_rfl) (fun _ _ _ h => h) rfl rfl rfl ?_
                  refine C_skip (i := 21) rfl (by kernel_rfl) (fun _ _ _ h => h) rfl rfl rfl ?_
                  refine C_skip (i := 22) rfl (by kernel_rfl) (fun _ _ _ h => h) rfl rfl rfl ?_
                  refine C_skip (i := 23) rfl (by kernel_rfl) (fun _ _ _ h => h) rfl rfl rfl ?_
                  refine C_skip (i := 24) rfl (by kernel_rfl) (fun _ _ _ h => h) rfl rfl rfl ?_
                  refine C_skip (i := 25) rfl (by kernel_rfl) (fun _ _ _ h => h) rfl rfl rfl ?_
                  refine C_skip (i := 26) rfl (by kernel_rfl) (fun _ _ _ h => h) rfl rfl rfl ?_
                  refine C_skip (i := 27) rfl (by kernel_rfl) (fun _ _ _ h => h) rfl rfl rfl ?_
                  refine C_skip (i := 28) rfl (by kernel_rfl) (fun _ _ _ h => h) rfl rfl rfl ?_
                  refine C_take (i := 29) (v := .bool false) rfl (by kernel_rfl) (fun _ _ _ h => h) rfl rfl rfl (R_pure (by kernel_rfl)) ?_
                  refine wpG_done (by kernel_rfl) ?_ _
                  refine C_keepQ [(0, .slice a1 x1.length c1), (1, I x2), (2, I x3), (3, I x4), (9, I v7), (10, I v8), (12, .slice a1 x1.length c1), (13, I (x1.length : Int)), (14, I v8), (48, .bool false)] rfl fun b => ?_
                  refine th_n ?_
                  obtain rfl := Option.some.inj hr
                  have hst := ((hst.pull 1).pull 1)
                  exact (kpX [(0, .slice a1 x1.length c1), (1, I x2), (2, I x3), (3, I x4), (9, I v7), (10, I v8), (12, .slice a1 x1.length c1), (13, I (x1.length : Int)), (14, I v8), (48, .bool false)] rfl hst)
              · have hr := (if_neg h).symm.trans hr
                refine C_keep ((29, .bool (decide (x7.At ≥ x3))) :: [(0, .slice a1 x1.length c1), (1, I x2), (2, I x3), (3, I x4), (9, I v7), (10, I v8), (11, pt p2 0), (12, .slice a1 x1.length c1), (13, I (x1.length : Int)), (14, I v8), (18, .agg #[I x7.ID, .int .u64 x7.Blob, I x7.Vol, I x7.At, I x7.Passed]), (19, pt p2 2), (20, I x7.Vol), (21, I x2), (22, .bool (x7.Vol == x2)), (23, .bool true), (24, pt p2 3), (25, I x7.At), (26, I x3), (27, .bool (decide (x7.At ≥ x3))), (28, .bool (decide (x7.At ≥ x3)))]) rfl fun b => ?_
                refine C_bool (eq_false_of_ne_true h) ?_
                refine C_skip (i := 11) rfl (by kernel_rfl) (fun _ _ _ h => h) rfl rfl rfl ?_
                refine C_skip (i := 12) rfl (by kernel_rfl) (fun _ _ _ h => h) rfl rfl rfl ?_
                refine C_skip (i := 13) rfl (by kernel_rfl) (fun _ _ _ h => h) rfl rfl rfl ?_
                refine C_skip (i := 14) rfl (by kernel_rfl) (fun _ _ _ h => h) rfl rfl rfl ?_
                refine C_take (i := 15) (v := .bool false) rfl (by kernel_rfl) (fun _ _ _ h => h) rfl rfl rfl (R_pure (by kernel_rfl)) ?_
                refine C_take (i := 16) (v := .bool false) rfl (by kernel_rfl) (fun _ _ _ h => h) rfl rfl rfl (R_pure (by kernel_rfl)) ?_
                refine C_skip (i := 17) rfl (by kernel_rfl) (fun _ _ _ h => h) rfl rfl rfl ?_
                refine C_skip (i := 18) rfl (by kernel_rfl) (fun _ _ _ h => h) rfl rfl rfl ?_
                refine C_skip (i := 19) rfl (by kernel_rfl) (fun _ _ _ h => h) rfl rfl rfl ?_
                refine C_skip (i := 20) rfl (by kernel_rfl) (fun _ _ _ h => h) rfl rfl rfl ?_
                refine C_skip (i := 21) rfl (by kernel_rfl) (fun _ _ _ h => h) rfl rfl rfl ?_
                refine C_skip (i := 22) rfl (by kernel_rfl) (fun _ _ _ h => h) rfl rfl rfl ?_
                refine C_skip (i := 23) rfl (by kernel_rfl) (fun _ _ _ h => h) rfl rfl rfl ?_
                refine C_skip (i := 24) rfl (by kernel_rfl) (fun _ _ _ h => h) rfl rfl rfl ?_
                refine C_skip (i := 25) rfl (by kernel_rfl) (fun _ _ _ h => h) rfl rfl rfl ?_
                refine C_skip (i := 26) rfl (by kernel_rfl) (fun _ _ _ h => h) rfl rfl rfl ?_
                refine C_skip (i := 27) rfl (by kernel_rfl) (fun _ _ _ h => h) rfl rfl rfl ?_
                refine C_skip (i := 28) rfl (by kernel_rfl) (fun _ _ _ h => h) rfl rfl rfl ?_
                refine C_take (i := 29) (v := .bool false) rfl (by kernel_rfl) (fun _ _ _ h => h) rfl rfl rfl (R_pure (by kernel_rfl)) ?_
                refine wpG_done (by kernel_rfl) ?_ _
                refine C_keepQ [(0, .slice a1 x1.length c1), (1, I x2), (2, I x3), (3, I x4), (9, I v7), (10, I v8), (12, .slice a1 x1.length c1), (13, I (x1.length : Int)), (14, I v8), (48, .bool false)] rfl fun b => ?_
                refine th_n ?_
                obtain rfl := Option.some.inj hr
                have hst := ((hst.pull 1).pull 1)
                exact (kpX [(0, .slice a1 x1.length c1), (1, I x2), (2, I x3), (3, I x4), (9, I v7), (10, I v8), (12, .slice a1 x1.length c1), (13, I (x1.length : Int)), (14, I v8), (48, .bool false)] rfl hst)
            · have hr := (if_neg h).symm.trans hr
              refine C_keep ((23, .bool (x7.Vol == x2)) :: [(0, .slice a1 x1.length c1), (1, I x2), (2, I x3), (3, I x4), (9, I v7), (10, I v8), (11, pt p2 0), (12, .slice a1 x1.length c1), (13, I (x1.length : Int)), (14, I v8), (18, .agg #[I x7.ID, .int .u64 x7.Blob, I x7.Vol, I x7.At, I x7.Passed]), (19, pt p2 2), (20, I x7.Vol), (21, I x2), (22, .bool (x7.Vol == x2))]) rfl fun b => ?_
              refine C_bool (eq_false_of_ne_true h) ?_
              refine C_skip (i := 5) rfl (by kernel_rfl) (fun _ _ _ h => h) rfl rfl rfl ?_
              refine C_skip (i := 6) rfl (by kernel_rfl) (fun _ _ _ h => h) rfl rfl rfl ?_
              refine C_skip (i := 7) rfl (by kernel_rfl) (fun _ _ _ h => h) rfl rfl rfl ?_
              refine C_skip (i := 8) rfl (by kernel_rfl) (fun _ _ _ h => h) rfl rfl rfl ?_
              refine C_take (i := 9) (v := .bool false) rfl (by kernel_rfl) (fun _ _ _ h => h) rfl rfl rfl (R_pure (by kernel_rfl)) ?_
              refine C_take (i := 10) (v := .bool false) rfl (by kernel_rfl) (fun _ _ _ h => h) rfl rfl rfl (R_pure (by kernel_rfl)) ?_
              refine C_skip (i := 11) rfl (by kernel_rfl) (fun _ _ _ h => h) rfl rfl rfl ?_
              refine C_skip (i := 12) rfl (by kernel_rfl) (fun _ _ _ h => h) rfl rfl rfl ?_
              refine C_skip (i := 13) rfl (by kernel_rfl) (fun _ _ _ h => h) rfl rfl rfl ?_
              refine C_skip (i := 14) rfl (by kernel_rfl) (fun _ _ _ h => h) rfl rfl rfl ?_
              refine C_take (i := 15) (v := .bool false) rfl (by kernel_rfl) (fun _ _ _ h => h) rfl rfl rfl (R_pure (by kernel_rfl)) ?_
              refine C_take (i := 16) (v := .bool false) rfl (by kernel_rfl) (fun _ _ _ h => h) rfl rfl rfl (R_pure (by kernel_rfl)) ?_
              refine C_skip (i := 17) rfl (by kernel_rfl) (fun _ _ _ h => h) rfl rfl rfl ?_
              refine C_skip (i := 18) rfl (by kernel_rfl) (fun _ _ _ h => h) rfl rfl rfl ?_
              refine C_skip (i := 19) rfl (by kernel_rfl) (fun _ _ _ h => h) rfl rfl rfl ?_
              refine C_skip (i := 20) rfl (by kernel_rfl) (fun _ _ _ h => h) rfl rfl rfl ?_
              refine C_skip (i := 21) rfl (by kernel_rfl) (fun _ _ _ h => h) rfl rfl rfl ?_
              refine C_skip (i := 22) rfl (by kernel_rfl) (fun _ _ _ h => h) rfl rfl rfl ?_
              refine C_skip (i := 23) rfl (by kernel_rfl) (fun _ _ _ h => h) rfl rfl rfl ?_
              refine C_skip (i := 24) rfl (by kernel_rfl) (fun _ _ _ h => h) rfl rfl rfl ?_
              refine C_skip (i := 25) rfl (by kernel_rfl) (fun _ _ _ h => h) rfl rfl rfl ?_
              refine C_skip (i := 26) rfl (by kernel_rfl) (fun _ _ _ h => h) rfl rfl rfl ?_
              refine C_skip (i := 27) rfl (by kernel_rfl) (fun _ _ _ h => h) rfl rfl rfl ?_
              refine C_skip (i := 28) rfl (by kernel_rfl) (fun _ _ _ h => h) rfl rfl rfl ?_
              refine C_take (i := 29) (v := .bool false) rfl (by kernel_rfl) (fun _ _ _ h => h) rfl rfl rfl (R_pure (by kernel_rfl)) ?_
              refine wpG_done (by kernel_rfl) ?_ _
              refine C_keepQ [(0, .slice a1 x1.length c1), (1, I x2), (2, I x3), (3, I x4), (9, I v7), (10, I v8), (12, .slice a1 x1.length c1), (13, I (x1.length : Int)), (14, I v8), (48, .bool false)] rfl fun b => ?_
              refine th_n ?_
              obtain rfl := Option.some.inj hr
              have hst := ((hst.pull 1).pull 1)
              exact (kpX [(0, .slice a1 x1.length c1), (1, I x2), (2, I x3), (3, I x4), (9, I v7), (10, I v8), (12, .slice a1 x1.length c1), (13, I (x1.length : Int)), (14, I v8), (48, .bool false)] rfl hst)
      · have hr := (if_neg (by rw [h]; exact Bool.false_ne_true)).symm.trans hr
        refine wp_exit ?_
        refine th_x (th_x (ib_x (th_n ?_)))
        obtain rfl := Option.some.inj hr
        exact (kpX [(9, I v7)] rfl hst)
def glacierref16_Choose (k : Nat) (x1 : (List T_glacierref16_Req)) (x2 : Int) (x3 : Int) : Option (Int) := (Option.bind (gt x1 0) fun x6 => (if decide (x6.Passed ≥ 8) = true then some ((0 : Int)) else (Option.bind (glacierref16_least k x1 x2 x3 2000000000) fun y4 => (if decide (y4 ≥ 0) = true then some (y4) else (Option.bind (glacierref16_least k x1 x2 0 x3) fun y5 => (if decide (y5 ≥ 0) = true then some (y5) else (Option.bind (gt x1 0) fun x7 => (Option.bind (glacierref16_least k x1 x7.Vol 0 2000000000) fun y6 => some (y6)))))))))
set_option maxRecDepth 100000 in
set_option maxHeartbeats 4000000 in
theorem glacierref16_Choose_ok {G w : World} {F : List HP} {R : Ending → World → Prop} (k : Nat) (x1 : (List T_glacierref16_Req)) (x2 : Int) (x3 : Int) (a1 : Option Addr) (c1 : Nat) (r : (Int)) (hst : St G w (osl r_T_glacierref16_Req 47 a1 c1 x1 :: F)) (hr : glacierref16_Choose k x1 x2 x3 = some r)
    (hR : ∀ w', St G w' (osl r_T_glacierref16_Req 47 a1 c1 x1 :: F) → R (.returned (I r)) w') :
    Calls Try.prog 29 #[.slice a1 x1.length c1, I x2, I x3] w R := by
  unfold glacierref16_Choose at hr
  refine enter Try.func29 rfl [(0, .slice a1 x1.length c1), (1, I x2), (2, I x3)] rfl rfl fun b => ?_
  refine wp_seq ?_
  refine wp_reg ?_
  refine L_pure 1 [(0, .slice a1 x1.length c1), (1, I x2), (2, I x3)] (by kernel_rfl) fun b => ?_
  refine wpL_nil ?_
  refine th_n ?_
  refine wp_seq ?_
  refine wp_seq ?_
  refine wp_reg ?_
  refine L_pure 1 [(0, .slice a1 x1.length c1), (1, I x2), (2, I x3), (9, .slice a1 x1.length c1)] (by kernel_rfl) fun b => ?_
  obtain ⟨x6, hx3, hr⟩ := bnd hr
  refine L_op rfl (O_run (v := pt (ab a1) (ao a1 + (0 : Int).toNat * 5)) (w' := w) (R_ia L42 rfl rfl (osl_addr hst hx3) (gt_some hx3).1 (gt_some hx3).2.1) rfl rfl ?_)
  refine L_pure 1 [(0, .slice a1 x1.length c1), (1, I x2), (2, I x3), (11, pt (ab a1) (ao a1 + (0 : Int).toNat * 5 + 4))] (by kernel_rfl) fun b => ?_
  obtain ⟨q3, hc3, hst⟩ := osl_cells hst hx3
  have hst := hst.drop
  refine L_op rfl (O_run (v := I x6.Passed) (w' := w) (R_loadAt (off := ao a1 + (0 : Int).toNat * 5) (j := 4) hc3 rfl rfl) rfl rfl ?_)
  refine L_pure 1 [(0, .slice a1 x1.length c1), (1, I x2), (2, I x3), (13, .bool (decide (x6.Passed ≥ 8)))] (by kernel_rfl) fun b => ?_
  refine wpL_nil ?_
  refine th_n ?_
  refine wp_cond_mkF (t := decide (x6.Passed ≥ 8)) rfl (fun h => ?_) (fun h => ?_)
  · have hr := (if_pos h).symm.trans hr
    refine wp_seq ?_
    refine wp_reg ?_
    refine L_pure 1 [(6, I 0)] (by kernel_rfl) fun b => ?_
    refine wpL_nil ?_
    refine th_n ?_
    refine wp_ret ?_
    refine th_r ?_
    refine ret1 rfl rfl ?_
    obtain rfl := Option.some.inj hr
    exact hR _ hst
  · have hr := (if_neg (by rw [h]; exact Bool.false_ne_true)).symm.trans hr
    refine wp_skip ?_
    refine th_n ?_
    refine wp_seq ?_
    refine wp_seq ?_
    refine wp_reg ?_
    refine L_pure 3 [(0, .slice a1 x1.length c1), (1, I x2), (2, I x3), (14, .slice a1 x1.length c1), (15, I x2), (16, I x3)] (by kernel_rfl) fun b => ?_
    obtain ⟨y4, hy4, hr⟩ := bnd hr
    refine L_op rfl (O_call (vs := #[.slice a1 x1.length c1, I x2, I x3, I 2000000000]) Try.call38 (by kernel_rfl) (glacierref16_least_ok k x1 x2 x3 2000000000 a1 c1 y4 hst hy4 fun w hst => ?_))
    refine CK_ret rfl ?_
    refine L_pure 1 [(0, .slice a1 x1.length c1), (1, I x2), (2, I x3), (7, I y4)] (by kernel_rfl) fun b => ?_
    refine wpL_nil ?_
    refine th_n ?_
    refine wp_seq ?_
    refine wp_reg ?_
    refine L_pure 2 [(0, .slice a1 x1.length c1), (1, I x2), (2, I x3), (7, I y4), (19, .bool (decide (y4 ≥ 0)))] (by kernel_rfl) fun b => ?_
    refine wpL_nil ?_
    refine th_n ?_
    refine wp_cond_mkF (t := decide (y4 ≥ 0)) rfl (fun h => ?_) (fun h => ?_)
    · have hr := (if_pos h).symm.trans hr
      refine wp_seq ?_
      refine wp_reg ?_
      refine L_pure 2 [(6, I y4)] (by kernel_rfl) fun b => ?_
      refine wpL_nil ?_
      refine th_n ?_
      refine wp_ret ?_
      refine th_r ?_
      refine ret1 rfl rfl ?_
      obtain rfl := Option.some.inj hr
      exact hR _ hst
    · have hr := (if_neg (by rw [h]; exact Bool.false_ne_true)).symm.trans hr
      refine wp_skip ?_
      refine th_n ?_
      refine wp_seq ?_
      refine wp_seq ?_
      refine wp_reg ?_
      refine L_pure 3 [(0, .slice a1 x1.length c1), (21, .slice a1 x1.length c1), (22, I x2), (23, I x3)] (by kernel_rfl) fun b => ?_
      obtain ⟨y5, hy5, hr⟩ := bnd hr
      refine L_op rfl (O_call (vs := #[.slice a1 x1.length c1, I x2, I 0, I x3]) Try.call38 (by kernel_rfl) (glacierref16_least_ok k x1 x2 0 x3 a1 c1 y5 hst hy5 fun w hst => ?_))
      refine CK_ret rfl ?_
      refine L_pure 1 [(0, .slice a1 x1.length c1), (8, I y5)] (by kernel_rfl) fun b => ?_
      refine wpL_nil ?_
      refine th_n ?_
      refine wp_seq ?_
      refine wp_reg ?_
      refine L_pure 2 [(0, .slice a1 x1.length c1), (8, I y5), (26, .bool (decide (y5 ≥ 0)))] (by kernel_rfl) fun b => ?_
      refine wpL_nil ?_
      refine th_n ?_
      refine wp_cond_mkF (t := decide (y5 ≥ 0)) rfl (fun h => ?_) (fun h => ?_)
      · have hr := (if_pos h).symm.trans hr
        refine wp_seq ?_
        refine wp_reg ?_
        refine L_pure 2 [(6, I y5)] (by kernel_rfl) fun b => ?_
        refine wpL_nil ?_
        refine th_n ?_
        refine wp_ret ?_
        refine th_r ?_
        refine ret1 rfl rfl ?_
        obtain rfl := Option.some.inj hr
        exact hR _ hst
      · have hr := (if_neg (by rw [h]; exact Bool.false_ne_true)).symm.trans hr
        refine wp_skip ?_
        refine th_n ?_
        refine wp_seq ?_
        refine wp_reg ?_
        refine L_pure 2 [(28, .slice a1 x1.length c1), (29, .slice a1 x1.length c1)] (by kernel_rfl) fun b => ?_
        obtain ⟨x7, hx4, hr⟩ := bnd hr
        refine L_op rfl (O_run (v := pt (ab a1) (ao a1 + (0 : Int).toNat * 5)) (w' := w) (R_ia L42 rfl rfl (osl_addr hst hx4) (gt_some hx4).1 (gt_some hx4).2.1) rfl rfl ?_)
        refine L_pure 1 [(28, .slice a1 x1.length c1), (31, pt (ab a1) (ao a1 + (0 : Int).toNat * 5 + 2))] (by kernel_rfl) fun b => ?_
        obtain ⟨q4, hc4, hst⟩ := osl_cells hst hx4
        have hst := hst.drop
        refine L_op rfl (O_run (v := I x7.Vol) (w' := w) (R_loadAt (off := ao a1 + (0 : Int).toNat * 5) (j := 2) hc4 rfl rfl) rfl rfl ?_)
        obtain ⟨y6, hy6, hr⟩ := bnd hr
        refine L_op rfl (O_call (vs := #[.slice a1 x1.length c1, I x7.Vol, I 0, I 2000000000]) Try.call38 (by kernel_rfl) (glacierref16_least_ok k x1 x7.Vol 0 2000000000 a1 c1 y6 hst hy6 fun w hst => ?_))
        refine CK_ret rfl ?_
        refine L_pure 1 [(6, I y6)] (by kernel_rfl) fun b => ?_
        refine wpL_nil ?_
        refine th_n ?_
        refine wp_ret ?_
        refine ret1 rfl rfl ?_
        obtain rfl := Option.some.inj hr
        exact hR _ hst
def glacierref16_Next_l1 (k : Nat) (x1 : (List T_glacierref16_Req)) (y5 : (Int)) : Nat → (List T_glacierref16_Req) → Int → Option ((List T_glacierref16_Req))
  | 0, _, _ => none
  | j + 1, v7, v8 => (if decide (v8 < (x1.length : Int)) = true then (Option.bind (gt x1 v8) fun x7 => (Option.bind (if decide (v8 < y5) = true then some ((IntKind.i64.wrap (x7.Passed + 1))) else some (x7.Passed)) fun y7 => (if room (v7.length + ([(T_glacierref16_Req.mk x7.ID x7.Blob x7.Vol x7.At y7)]).length) 40 = true then (glacierref16_Next_l1 k x1 y5 j (v7 ++ ([(T_glacierref16_Req.mk x7.ID x7.Blob x7.Vol x7.At y7)])) (IntKind.i64.wrap (v8 + 1))) else none))) else some (v7))
def glacierref16_Next (k : Nat) (x1 : (List T_glacierref16_Req)) (x2 : Int) (x3 : Int) : Option ((List T_glacierref16_Req) × T_glacierref16_Req) := (Option.bind (glacierref16_Choose k x1 x2 x3) fun y5 => (Option.bind (gt x1 y5) fun x6 => (Option.bind (glacierref16_Next_l1 k x1 y5 k ([]) (0 : Int)) fun y6 => (Option.bind (glacierref16_Without k y6 y5) fun y8 => some (y8, x6)))))
set_option maxRecDepth 100000 in
set_option maxHeartbeats 4000000 in
theorem glacierref16_Next_ok {G w : World} {F : List HP} {R : Ending → World → Prop} (k : Nat) (x1 : (List T_glacierref16_Req)) (x2 : Int) (x3 : Int) (a1 : Option Addr) (c1 : Nat) (r : ((List T_glacierref16_Req) × T_glacierref16_Req)) (hst : St G w (osl r_T_glacierref16_Req 47 a1 c1 x1 :: F)) (hr : glacierref16_Next k x1 x2 x3 = some r)
    (hR : ∀ (a6 : Option Addr) (c6 : Nat) w', St G w' (osl r_T_glacierref16_Req 47 a6 c6 r.1 :: osl r_T_glacierref16_Req 47 a1 c1 x1 :: F) → R (.returned (.tuple #[.slice a6 r.1.length c6, .agg #[I r.2.ID, .int .u64 r.2.Blob, I r.2.Vol, I r.2.At, I r.2.Passed]])) w') :
    Calls Try.prog 20 #[.slice a1 x1.length c1, I x2, I x3] w R := by
  unfold glacierref16_Next at hr
  refine enter Try.func20 rfl [(0, .slice a1 x1.length c1), (1, I x2), (2, I x3)] rfl rfl fun b => ?_
  refine wp_seq ?_
  refine wp_reg ?_
  refine L_pure 1 [(0, .slice a1 x1.length c1), (1, I x2), (2, I x3)] (by kernel_rfl) fun b => ?_
  refine L_op rfl (O_alloc (i := Try.t47) (z := .agg #[I 0, .int .u64 0, I 0, I 0, I 0]) [I 0, .int .u64 0, I 0, I 0, I 0] hst rfl rfl rfl rfl fun p6 w hst => ?_)
  refine wpL_nil ?_
  refine th_n ?_
  refine wp_seq ?_
  refine wp_reg ?_
  refine L_pure 3 [(0, .slice a1 x1.length c1), (7, pt p6 0), (13, .slice a1 x1.length c1), (14, I x2), (15, I x3)] (by kernel_rfl) fun b => ?_
  obtain ⟨y5, hy5, hr⟩ := bnd hr
  refine L_op rfl (O_call (vs := #[.slice a1 x1.length c1, I x2, I x3]) Try.call29 (by kernel_rfl) (glacierref16_Choose_ok k x1 x2 x3 a1 c1 y5 (hst.pull 1) hy5 fun w hst => ?_))
  refine CK_ret rfl ?_
  refine L_pure 1 [(0, .slice a1 x1.length c1), (7, pt p6 0), (8, I y5)] (by kernel_rfl) fun b => ?_
  refine wpL_nil ?_
  refine th_n ?_
  refine wp_seq ?_
  refine wp_reg ?_
  refine L_pure 2 [(0, .slice a1 x1.length c1), (7, pt p6 0), (8, I y5), (17, .slice a1 x1.length c1), (18, I y5)] (by kernel_rfl) fun b => ?_
  obtain ⟨x6, hx3, hr⟩ := bnd hr
  refine L_op rfl (O_run (v := pt (ab a1) (ao a1 + y5.toNat * 5)) (w' := w) (R_ia L42 rfl rfl (osl_addr hst hx3) (gt_some hx3).1 (gt_some hx3).2.1) rfl rfl ?_)
  obtain ⟨q3, hc3, hst⟩ := osl_cells hst hx3
  have hst := hst.drop
  refine L_op rfl (O_run (v := .agg #[I x6.ID, .int .u64 x6.Blob, I x6.Vol, I x6.At, I x6.Passed]) (w' := w) (R_loadAt (off := ao a1 + y5.toNat * 5) (j := 0) hc3 rfl rfl) rfl rfl ?_)
  refine L_op rfl (O_alloc (i := Try.t47) (z := .agg #[I 0, .int .u64 0, I 0, I 0, I 0]) [I 0, .int .u64 0, I 0, I 0, I 0] hst rfl rfl rfl rfl fun p7 w hst => ?_)
  refine L_op rfl (O_store [I x6.ID, .int .u64 x6.Blob, I x6.Vol, I x6.At, I x6.Passed] hst rfl rfl (by kernel_rfl) fun w hst => ?_)
  refine wpL_nil ?_
  refine th_n ?_
  refine wp_seq ?_
  refine wp_reg ?_
  refine L_op rfl (O_bs (T := 47) [] #[] hst (by kernel_rfl) (by kernel_rfl) rfl fun p8 w hst => ?_)
  have hst := osl_of_blk0 (ecs := []) r_T_glacierref16_Req [] rfl (fun m => trivial) rfl hst
  refine L_pure 1 [(0, .slice a1 x1.length c1), (7, pt p6 0), (8, I y5), (9, pt p7 0), (10, .slice (some ⟨p8, 0, none⟩) 0 0)] (by kernel_rfl) fun b => ?_
  refine wpL_nil ?_
  refine th_n ?_
  refine wp_seq ?_
  refine wp_seq ?_
  refine wp_reg ?_
  refine L_pure 3 [(7, pt p6 0), (8, I y5), (9, pt p7 0), (10, .slice (some ⟨p8, 0, none⟩) 0 0), (22, .slice a1 x1.length c1), (23, I (x1.length : Int)), (24, I 0)] (by kernel_rfl) fun b => ?_
  refine wpL_nil ?_
  refine th_n ?_
  obtain ⟨y6, hy6, hk3⟩ := bnd hr
  clear hr
  refine wp_cut (fun a w => ∃ (a8 : Option Addr) (c8 : Nat)(b : Nat → Value), a = mkF 45 b [(7, pt p6 0), (8, I y5), (9, pt p7 0), (10, .slice a8 y6.length c8)] ∧ St G w (osl r_T_glacierref16_Req 47 a8 c8 y6 :: blk p7 (cl [I x6.ID, .int .u64 x6.Blob, I x6.Vol, I x6.At, I x6.Passed] 47) :: osl r_T_glacierref16_Req 47 a1 c1 x1 :: blk p6 (cl [I 0, .int .u64 0, I 0, I 0, I 0] 47) :: F)) ?_ ?_
  · rintro _ w ⟨a8, c8, b, rfl, hst⟩
    have hr := hk3
    refine th_n ?_
    refine wp_seq ?_
    refine wp_regG (SP 5 (fun w => St G w (osl r_T_glacierref16_Req 47 a8 c8 y6 :: blk p7 (cl [I x6.ID, .int .u64 x6.Blob, I x6.Vol, I x6.At, I x6.Passed] 47) :: osl r_T_glacierref16_Req 47 a1 c1 x1 :: blk p6 (cl [I 0, .int .u64 0, I 0, I 0, I 0] 47) :: F))) rfl ?_
    have hst := hst.draw (n := w.drawn + 1)
    generalize { w with drawn := w.drawn + 1 } = w at hst ⊢
    refine P_pure (i := 0) (v := .slice a8 y6.length c8) 5 rfl rfl (by kernel_rfl) (fun _ _ _ h => h) rfl rfl rfl (by kernel_rfl) (.inr ((((hst.pull 3).pull 3).pull 3).pull 3)) ?_
    refine P_pure (i := 1) (v := I y5) 5 rfl rfl (by kernel_rfl) (fun _ _ _ h => h) rfl rfl rfl (by kernel_rfl) (.inr ((((hst.pull 3).pull 3).pull 3).pull 3)) ?_
    refine P_take (i := 3) (v := .agg #[I x6.ID, .int .u64 x6.Blob, I x6.Vol, I x6.At, I x6.Passed]) 5 [3] (by kernel_rfl) rfl (by kernel_rfl) (fun _ _ _ h => h) rfl rfl rfl (fun w hst => R_load (hst.pull 1) rfl rfl) (((((hst.pull 3).pull 3).pull 3).pull 3)) ?_
    obtain ⟨y8, hy8, hr⟩ := bnd hr
    refine P_one (i := 2) 5 (by kernel_rfl) rfl rfl (O_call (vs := #[.slice a8 y6.length c8, I y5]) Try.call19 (by kernel_rfl) (glacierref16_Without_ok k y6 y5 a8 c8 y8 hst hy8 fun a10 c10 w hst => ?_))
    refine CK_ret rfl ?_
    refine ⟨(((((hst.pull 4).pull 4).pull 4).pull 4).cut 4 1), ?_⟩
    refine P_pure (i := 4) (v := .slice a10 y8.length c10) 5 rfl rfl (by kernel_rfl) (fun _ _ _ h => h) rfl rfl rfl (by kernel_rfl) (.inr (((((hst.pull 4).pull 4).pull 4).pull 4).cut 4 1)) ?_
    refine P_act (i := 5) 5 (by kernel_rfl) rfl rfl (by kernel_rfl) (O_store [I x6.ID, .int .u64 x6.Blob, I x6.Vol, I x6.At, I x6.Passed] (hst.pull 4) rfl rfl (by kernel_rfl) fun w hst => ?_)
    refine wpG_done (by kernel_rfl) ?_ _
    refine C_keepQ [(6, .slice a10 y8.length c10), (7, pt p6 0)] rfl fun b => ?_
    refine th_n ?_
    refine wp_ret ?_
    refine retTC (v := .agg #[I x6.ID, .int .u64 x6.Blob, I x6.Vol, I x6.At, I x6.Passed]) (p := p6) (off := 0) (cs := [I x6.ID, .int .u64 x6.Blob, I x6.Vol, I x6.At, I x6.Passed]) (T' := 47) rfl rfl hst (by kernel_rfl) rfl ?_
    obtain rfl := Option.some.inj hr
    have hst := (((hst.pull 4).pull 2).cut 2 3)
    exact hR a10 c10 _ hst
  · have hst := ((((hst.pull 3).pull 3).pull 3).pull 3)
    refine wp_block ?_
    refine wp_loop_fuel (fun j a w => ∃ (v7 : (List T_glacierref16_Req)) (v8 : Int) (a7 : Option Addr) (c7 : Nat) (b : Nat → Value), a = mkF 45 b [(7, pt p6 0), (8, I y5), (9, pt p7 0), (10, .slice a7 v7.length c7), (22, .slice a1 x1.length c1), (23, I (x1.length : Int)), (24, I v8)] ∧ St G w (osl r_T_glacierref16_Req 47 a7 c7 v7 :: blk p7 (cl [I x6.ID, .int .u64 x6.Blob, I x6.Vol, I x6.At, I x6.Passed] 47) :: osl r_T_glacierref16_Req 47 a1 c1 x1 :: blk p6 (cl [I 0, .int .u64 0, I 0, I 0, I 0] 47) :: F) ∧ glacierref16_Next_l1 k x1 y5 j v7 v8 = some y6) (k := k) ⟨[], (0 : Int), (some ⟨p8, 0, none⟩), 0, (kpX [(7, pt p6 0), (8, I y5), (9, pt p7 0), (10, .slice (some ⟨p8, 0, none⟩) 0 0), (22, .slice a1 x1.length c1), (23, I (x1.length : Int)), (24, I 0)] rfl ⟨hst, hy6⟩)⟩ ?_ ?_
    · rintro _ _ ⟨_, _, _, _, _, _, _, h⟩
      rw [glacierref16_Next_l1] at h
      cases h
    · rintro j _ w ⟨v7, v8, a7, c7, b, rfl, hst, hr⟩
      rw [glacierref16_Next_l1] at hr
      refine wp_seq ?_
      refine wp_reg ?_
      refine L_pure 1 [(7, pt p6 0), (8, I y5), (9, pt p7 0), (10, .slice a7 v7.length c7), (22, .slice a1 x1.length c1), (23, I (x1.length : Int)), (24, I v8), (25, .bool (decide (v8 < (x1.length : Int))))] (by kernel_rfl) fun b => ?_
      refine wpL_nil ?_
      refine th_n ?_
      refine wp_seq ?_
      refine wp_cond_mkF (t := decide (v8 < (x1.length : Int))) rfl (fun h => ?_) (fun h => ?_)
      · have hr := (if_pos h).symm.trans hr
        refine wp_skip ?_
        refine th_n ?_
        refine wp_seq ?_
        refine wp_block ?_
        refine wp_seq ?_
        refine wp_reg ?_
        refine L_pure 1 [(7, pt p6 0), (8, I y5), (9, pt p7 0), (10, .slice a7 v7.length c7), (22, .slice a1 x1.length c1), (23, I (x1.length : Int)), (24, I v8), (26, I v8)] (by kernel_rfl) fun b => ?_
        obtain ⟨x7, hx4, hr⟩ := bnd hr
        refine L_op rfl (O_run (v := pt (ab a1) (ao a1 + v8.toNat * 5)) (w' := w) (R_ia L42 rfl rfl (osl_addr (hst.pull 2) hx4) (gt_some hx4).1 (gt_some hx4).2.1) rfl rfl ?_)
        obtain ⟨q4, hc4, hst⟩ := osl_cells (hst.pull 2) hx4
        have hst := hst.drop
        refine L_op rfl (O_run (v := .agg #[I x7.ID, .int .u64 x7.Blob, I x7.Vol, I x7.At, I x7.Passed]) (w' := w) (R_loadAt (off := ao a1 + v8.toNat * 5) (j := 0) hc4 rfl rfl) rfl rfl ?_)
        refine L_op rfl (O_alloc (i := Try.t47) (z := .agg #[I 0, .int .u64 0, I 0, I 0, I 0]) [I 0, .int .u64 0, I 0, I 0, I 0] hst rfl rfl rfl rfl fun p9 w hst => ?_)
        refine L_pure 1 [(7, pt p6 0), (8, I y5), (9, pt p7 0), (10, .slice a7 v7.length c7), (11, I v8), (12, pt p9 0), (22, .slice a1 x1.length c1), (23, I (x1.length : Int)), (24, I v8), (28, .agg #[I x7.ID, .int .u64 x7.Blob, I x7.Vol, I x7.At, I x7.Passed])] (by kernel_rfl) fun b => ?_
        refine L_op rfl (O_store [I x7.ID, .int .u64 x7.Blob, I x7.Vol, I x7.At, I x7.Passed] hst rfl rfl (by kernel_rfl) fun w hst => ?_)
        refine wpL_nil ?_
        refine th_n ?_
        obtain ⟨y7, hy7, hk4⟩ := bnd hr
        clear hr
        refine wp_seq_cut (fun a w => ∃ (b : Nat → Value), a = mkF 45 b [(7, pt p6 0), (8, I y5), (9, pt p7 0), (10, .slice a7 v7.length c7), (12, pt p9 0), (22, .slice a1 x1.length c1), (23, I (x1.length : Int)), (24, I v8)] ∧ St G w (blk p9 (cl [I x7.ID, .int .u64 x7.Blob, I x7.Vol, I x7.At, I y7] 47) :: osl r_T_glacierref16_Req 47 a1 c1 x1 :: osl r_T_glacierref16_Req 47 a7 c7 v7 :: blk p7 (cl [I x6.ID, .int .u64 x6.Blob, I x6.Vol, I x6.At, I x6.Passed] 47) :: blk p6 (cl [I 0, .int .u64 0, I 0, I 0, I 0] 47) :: F)) ?_ ?_
        · rintro _ w ⟨b, rfl, hst⟩
          have hr := hk4
          refine wp_reg ?_
          refine L_pure 1 [(7, pt p6 0), (8, I y5), (9, pt p7 0), (12, pt p9 0), (22, .slice a1 x1.length c1), (23, I (x1.length : Int)), (24, I v8), (36, .slice a7 v7.length c7)] (by kernel_rfl) fun b => ?_
          refine L_op rfl (O_run (v := .agg #[I x7.ID, .int .u64 x7.Blob, I x7.Vol, I x7.At, I y7]) (w' := w) (R_load hst rfl rfl) rfl rfl ?_)
          refine L_op rfl (O_bs (T := 47) [I x7.ID, .int .u64 x7.Blob, I x7.Vol, I x7.At, I y7] #[(0, .agg #[I x7.ID, .int .u64 x7.Blob, I x7.Vol, I x7.At, I y7])] hst (by kernel_rfl) (by kernel_rfl) rfl fun p10 w hst => ?_)
          have hst := osl_of_blk0 (ecs := [[I x7.ID, .int .u64 x7.Blob, I x7.Vol, I x7.At, I y7]]) r_T_glacierref16_Req [(T_glacierref16_Req.mk x7.ID x7.Blob x7.Vol x7.At y7)] rfl (fun m => ⟨⟨(), rfl, trivial⟩, trivial⟩) rfl hst
          obtain ⟨hb2, hr⟩ := chk hr
          refine L_op rfl (O_app_o L42 (hst.pull 3) rfl rfl hb2 rfl fun a9 c9 w hst => ?_)
          refine L_pure 1 [(7, pt p6 0), (8, I y5), (9, pt p7 0), (10, .slice a9 (v7 ++ ([(T_glacierref16_Req.mk x7.ID x7.Blob x7.Vol x7.At y7)])).length c9), (22, .slice a1 x1.length c1), (23, I (x1.length : Int)), (24, I v8)] (by kernel_rfl) fun b => ?_
          refine wpL_nil ?_
          refine ib_n (th_n ?_)
          refine wp_reg ?_
          refine L_pure 2 [(7, pt p6 0), (8, I y5), (9, pt p7 0), (10, .slice a9 (v7 ++ ([(T_glacierref16_Req.mk x7.ID x7.Blob x7.Vol x7.At y7)])).length c9), (22, .slice a1 x1.length c1), (23, I (x1.length : Int)), (24, I (IntKind.i64.wrap (v8 + 1)))] (by kernel_rfl) fun b => ?_
          refine wpL_nil ?_
          refine th_n ?_
          have hst := (((((hst.pull 5).pull 4).pull 5).pull 3).cut 4 2)
          exact ⟨(v7 ++ ([(T_glacierref16_Req.mk x7.ID x7.Blob x7.Vol x7.At y7)])), (IntKind.i64.wrap (v8 + 1)), a9, c9, (kpX [(7, pt p6 0), (8, I y5), (9, pt p7 0), (10, .slice a9 (v7 ++ ([(T_glacierref16_Req.mk x7.ID x7.Blob x7.Vol x7.At y7)])).length c9), (22, .slice a1 x1.length c1), (23, I (x1.length : Int)), (24, I (IntKind.i64.wrap (v8 + 1)))] rfl ⟨hst, hr⟩)⟩
        · have hr := hy7
          refine wp_seq ?_
          refine wp_reg ?_
          refine L_pure 3 [(7, pt p6 0), (8, I y5), (9, pt p7 0), (10, .slice a7 v7.length c7), (12, pt p9 0), (22, .slice a1 x1.length c1), (23, I (x1.length : Int)), (24, I v8), (31, .bool (decide (v8 < y5)))] (by kernel_rfl) fun b => ?_
          refine wpL_nil ?_
          refine th_n ?_
          refine wp_cond_mkF (t := decide (v8 < y5)) rfl (fun h => ?_) (fun h => ?_)
          · have hr := (if_pos h).symm.trans hr
            refine wp_reg ?_
            refine L_pure 1 [(7, pt p6 0), (8, I y5), (9, pt p7 0), (10, .slice a7 v7.length c7), (12, pt p9 0), (22, .slice a1 x1.length c1), (23, I (x1.length : Int)), (24, I v8), (32, pt p9 4)] (by kernel_rfl) fun b => ?_
            refine L_op rfl (O_run (v := I x7.Passed) (w' := w) (R_load hst rfl rfl) rfl rfl ?_)
            refine L_pure 2 [(7, pt p6 0), (8, I y5), (9, pt p7 0), (10, .slice a7 v7.length c7), (12, pt p9 0), (22, .slice a1 x1.length c1), (23, I (x1.length : Int)), (24, I v8), (34, I (IntKind.i64.wrap (x7.Passed + 1))), (35, pt p9 4)] (by kernel_rfl) fun b => ?_
            refine L_op rfl (O_store [I x7.ID, .int .u64 x7.Blob, I x7.Vol, I x7.At, I (IntKind.i64.wrap (x7.Passed + 1))] hst rfl rfl (by kernel_rfl) fun w hst => ?_)
            refine wpL_nil ?_
            refine th_n ?_
            obtain rfl := Option.some.inj hr
            have hst := (((((hst.pull 4).pull 4).pull 4).pull 4).pull 4)
            exact (kpX [(7, pt p6 0), (8, I y5), (9, pt p7 0), (10, .slice a7 v7.length c7), (12, pt p9 0), (22, .slice a1 x1.length c1), (23, I (x1.length : Int)), (24, I v8)] rfl hst)
          · have hr := (if_neg (by rw [h]; exact Bool.false_ne_true)).symm.trans hr
            refine wp_skip ?_
            refine th_n ?_
            obtain rfl := Option.some.inj hr
            have hst := (((((hst.pull 4).pull 4).pull 4).pull 4).pull 4)
            exact (kpX [(7, pt p6 0), (8, I y5), (9, pt p7 0), (10, .slice a7 v7.length c7), (12, pt p9 0), (22, .slice a1 x1.length c1), (23, I (x1.length : Int)), (24, I v8)] rfl hst)
      · have hr := (if_neg (by rw [h]; exact Bool.false_ne_true)).symm.trans hr
        refine wp_exit ?_
        refine th_x (th_x (ib_x (th_n ?_)))
        obtain rfl := Option.some.inj hr
        have hst := ((((hst.pull 3).pull 3).pull 3).pull 3)
        exact ⟨a7, c7, (kpX [(7, pt p6 0), (8, I y5), (9, pt p7 0), (10, .slice a7 v7.length c7)] rfl hst)⟩
def queue_Queue_List_l1 (k : Nat) (x1 : T_queue_Queue) : Nat → (List T_queue_Req) → Int → Option ((List T_queue_Req))
  | 0, _, _ => none
  | j + 1, v7, v8 => (if decide (v8 < (x1.l.length : Int)) = true then (Option.bind (gt x1.l v8) fun x3 => (if room (v7.length + ([x3.Req]).length) 32 = true then (queue_Queue_List_l1 k x1 j (v7 ++ ([x3.Req])) (IntKind.i64.wrap (v8 + 1))) else none)) else some (v7))
def queue_Queue_List (k : Nat) (x1 : T_queue_Queue) : Option ((List T_queue_Req)) := (Option.bind (queue_Queue_List_l1 k x1 k ([]) (0 : Int)) fun y2 => some (y2))
set_option maxRecDepth 100000 in
set_option maxHeartbeats 4000000 in
theorem queue_Queue_List_ok {G w : World} {F : List HP} {R : Ending → World → Prop} (k : Nat) (x1 : T_queue_Queue) (p1 : Nat) (a1 : Option Addr) (c1 : Nat) (r : ((List T_queue_Req))) (hst : St G w (blk p1 (cl [.slice a1 x1.l.length c1] 30) :: osl r_T_queue_waiting 70 a1 c1 x1.l :: F)) (hr : queue_Queue_List k x1 = some r)
    (hR : ∀ (a5 : Option Addr) (c5 : Nat) w', St G w' (osl r_T_queue_Req 25 a5 c5 r :: blk p1 (cl [.slice a1 x1.l.length c1] 30) :: osl r_T_queue_waiting 70 a1 c1 x1.l :: F) → R (.returned (.slice a5 r.length c5)) w') :
    Calls Try.prog 21 #[pt p1 0] w R := by
  unfold queue_Queue_List at hr
  refine enter Try.func21 rfl [(0, pt p1 0)] rfl rfl fun b => ?_
  refine wp_seq ?_
  refine wp_reg ?_
  refine L_pure 1 [(0, pt p1 0)] (by kernel_rfl) fun b => ?_
  refine wpL_nil ?_
  refine th_n ?_
  refine wp_seq ?_
  refine wp_reg ?_
  refine L_pure 1 [(0, pt p1 0), (3, .slice none 0 0)] (by kernel_rfl) fun b => ?_
  refine wpL_nil ?_
  refine th_n ?_
  refine wp_seq ?_
  refine wp_seq ?_
  refine wp_reg ?_
  refine L_pure 3 [(3, .slice none 0 0), (8, pt p1 0)] (by kernel_rfl) fun b => ?_
  refine L_op rfl (O_run (v := .slice a1 x1.l.length c1) (w' := w) (R_load hst rfl rfl) rfl rfl ?_)
  refine L_pure 2 [(3, .slice none 0 0), (9, .slice a1 x1.l.length c1), (10, I (x1.l.length : Int)), (11, I 0)] (by kernel_rfl) fun b => ?_
  refine wpL_nil ?_
  refine th_n ?_
  obtain ⟨y2, hy2, hk2⟩ := bnd hr
  clear hr
  refine wp_cut (fun a w => ∃ (a7 : Option Addr) (c7 : Nat)(b : Nat → Value), a = mkF 22 b [(3, .slice a7 y2.length c7)] ∧ St G w (osl r_T_queue_Req 25 a7 c7 y2 :: blk p1 (cl [.slice a1 x1.l.length c1] 30) :: osl r_T_queue_waiting 70 a1 c1 x1.l :: F)) ?_ ?_
  · rintro _ w ⟨a7, c7, b, rfl, hst⟩
    have hr := hk2
    refine th_n ?_
    refine wp_seq ?_
    refine wp_reg ?_
    refine L_pure 2 [(2, .slice a7 y2.length c7)] (by kernel_rfl) fun b => ?_
    refine wpL_nil ?_
    refine th_n ?_
    refine wp_ret ?_
    refine ret1 rfl rfl ?_
    obtain rfl := Option.some.inj hr
    have hst := (((hst.pull 2).pull 2).pull 2)
    exact hR a7 c7 _ hst
  · have hst := osl_nil r_T_queue_Req 25 hst
    have hst := (((hst.pull 2).pull 2).pull 2)
    refine wp_block ?_
    refine wp_loop_fuel (fun j a w => ∃ (v7 : (List T_queue_Req)) (v8 : Int) (a6 : Option Addr) (c6 : Nat) (b : Nat → Value), a = mkF 22 b [(3, .slice a6 v7.length c6), (9, .slice a1 x1.l.length c1), (10, I (x1.l.length : Int)), (11, I v8)] ∧ St G w (osl r_T_queue_Req 25 a6 c6 v7 :: blk p1 (cl [.slice a1 x1.l.length c1] 30) :: osl r_T_queue_waiting 70 a1 c1 x1.l :: F) ∧ queue_Queue_List_l1 k x1 j v7 v8 = some y2) (k := k) ⟨[], (0 : Int), none, 0, (kpX [(3, .slice none 0 0), (9, .slice a1 x1.l.length c1), (10, I (x1.l.length : Int)), (11, I 0)] rfl ⟨hst, hy2⟩)⟩ ?_ ?_
    · rintro _ _ ⟨_, _, _, _, _, _, _, h⟩
      rw [queue_Queue_List_l1] at h
      cases h
    · rintro j _ w ⟨v7, v8, a6, c6, b, rfl, hst, hr⟩
      rw [queue_Queue_List_l1] at hr
      refine wp_seq ?_
      refine wp_reg ?_
      refine L_pure 1 [(3, .slice a6 v7.length c6), (9, .slice a1 x1.l.length c1), (10, I (x1.l.length : Int)), (11, I v8), (12, .bool (decide (v8 < (x1.l.length : Int))))] (by kernel_rfl) fun b => ?_
      refine wpL_nil ?_
      refine th_n ?_
      refine wp_seq ?_
      refine wp_cond_mkF (t := decide (v8 < (x1.l.length : Int))) rfl (fun h => ?_) (fun h => ?_)
      · have hr := (if_pos h).symm.trans hr
        refine wp_skip ?_
        refine th_n ?_
        refine wp_seq ?_
        refine wp_block ?_
        refine wp_seq ?_
        refine wp_reg ?_
        obtain ⟨x3, hx2, hr⟩ := bnd hr
        refine L_op rfl (O_run (v := pt (ab a1) (ao a1 + v8.toNat * 5)) (w' := w) (R_ia L28 rfl rfl (osl_addr (hst.pull 2) hx2) (gt_some hx2).1 (gt_some hx2).2.1) rfl rfl ?_)
        obtain ⟨q2, hc2, hst⟩ := osl_cells (hst.pull 2) hx2
        have hst := hst.drop
        refine L_op rfl (O_run (v := .agg #[I x3.Req.ID, .int .u64 x3.Req.Blob, I x3.Req.Vol, I x3.Req.At, I x3.passed]) (w' := w) (R_loadAt (off := ao a1 + v8.toNat * 5) (j := 0) hc2 rfl rfl) rfl rfl ?_)
        refine L_op rfl (O_alloc (i := Try.t70) (z := .agg #[I 0, .int .u64 0, I 0, I 0, I 0]) [I 0, .int .u64 0, I 0, I 0, I 0] hst rfl rfl rfl rfl fun p4 w hst => ?_)
        refine L_op rfl (O_store [I x3.Req.ID, .int .u64 x3.Req.Blob, I x3.Req.Vol, I x3.Req.At, I x3.passed] hst rfl rfl (by kernel_rfl) fun w hst => ?_)
        refine wpL_nil ?_
        refine th_n ?_
        refine wp_reg ?_
        refine L_pure 2 [(9, .slice a1 x1.l.length c1), (10, I (x1.l.length : Int)), (11, I v8), (15, .slice a6 v7.length c6), (16, pt p4 0)] (by kernel_rfl) fun b => ?_
        refine L_op rfl (O_run (v := .agg #[I x3.Req.ID, .int .u64 x3.Req.Blob, I x3.Req.Vol, I x3.Req.At]) (w' := w) (R_load hst rfl rfl) rfl rfl ?_)
        refine L_op rfl (O_bs (T := 25) [I x3.Req.ID, .int .u64 x3.Req.Blob, I x3.Req.Vol, I x3.Req.At] #[(0, .agg #[I x3.Req.ID, .int .u64 x3.Req.Blob, I x3.Req.Vol, I x3.Req.At])] hst (by kernel_rfl) (by kernel_rfl) rfl fun p5 w hst => ?_)
        have hst := osl_of_blk0 (ecs := [[I x3.Req.ID, .int .u64 x3.Req.Blob, I x3.Req.Vol, I x3.Req.At]]) r_T_queue_Req [x3.Req] rfl (fun m => ⟨⟨(), rfl, trivial⟩, trivial⟩) rfl hst
        obtain ⟨hb2, hr⟩ := chk hr
        refine L_op rfl (O_app_o L22 (hst.pull 3) rfl rfl hb2 rfl fun a8 c8 w hst => ?_)
        refine L_pure 1 [(3, .slice a8 (v7 ++ ([x3.Req])).length c8), (9, .slice a1 x1.l.length c1), (10, I (x1.l.length : Int)), (11, I v8)] (by kernel_rfl) fun b => ?_
        refine wpL_nil ?_
        refine ib_n (th_n ?_)
        refine wp_reg ?_
        refine L_pure 2 [(3, .slice a8 (v7 ++ ([x3.Req])).length c8), (9, .slice a1 x1.l.length c1), (10, I (x1.l.length : Int)), (11, I (IntKind.i64.wrap (v8 + 1)))] (by kernel_rfl) fun b => ?_
        refine wpL_nil ?_
        refine th_n ?_
        have hst := ((((hst.pull 3).pull 4).pull 2).cut 3 2)
        exact ⟨(v7 ++ ([x3.Req])), (IntKind.i64.wrap (v8 + 1)), a8, c8, (kpX [(3, .slice a8 (v7 ++ ([x3.Req])).length c8), (9, .slice a1 x1.l.length c1), (10, I (x1.l.length : Int)), (11, I (IntKind.i64.wrap (v8 + 1)))] rfl ⟨hst, hr⟩)⟩
      · have hr := (if_neg (by rw [h]; exact Bool.false_ne_true)).symm.trans hr
        refine wp_exit ?_
        refine th_x (th_x (ib_x (th_n ?_)))
        obtain rfl := Option.some.inj hr
        have hst := (((hst.pull 2).pull 2).pull 2)
        exact ⟨a6, c6, (kpX [(3, .slice a6 v7.length c6)] rfl hst)⟩
def queue_Queue_Len (_k : Nat) (x1 : T_queue_Queue) : Option (Int) := some ((x1.l.length : Int))
set_option maxRecDepth 100000 in
set_option maxHeartbeats 4000000 in
theorem queue_Queue_Len_ok {G w : World} {F : List HP} {R : Ending → World → Prop} (k : Nat) (x1 : T_queue_Queue) (p1 : Nat) (a1 : Option Addr) (c1 : Nat) (r : (Int)) (hst : St G w (blk p1 (cl [.slice a1 x1.l.length c1] 30) :: osl r_T_queue_waiting 70 a1 c1 x1.l :: F)) (hr : queue_Queue_Len k x1 = some r)
    (hR : ∀ w', St G w' (blk p1 (cl [.slice a1 x1.l.length c1] 30) :: osl r_T_queue_waiting 70 a1 c1 x1.l :: F) → R (.returned (I r)) w') :
    Calls Try.prog 15 #[pt p1 0] w R := by
  unfold queue_Queue_Len at hr
  refine enter Try.func15 rfl [(0, pt p1 0)] rfl rfl fun b => ?_
  refine wp_seq ?_
  refine wp_reg ?_
  refine L_pure 1 [(0, pt p1 0)] (by kernel_rfl) fun b => ?_
  refine wpL_nil ?_
  refine th_n ?_
  refine wp_seq ?_
  refine wp_reg ?_
  refine L_pure 3 [(5, pt p1 0)] (by kernel_rfl) fun b => ?_
  refine L_op rfl (O_run (v := .slice a1 x1.l.length c1) (w' := w) (R_load hst rfl rfl) rfl rfl ?_)
  refine L_pure 2 [(2, I (x1.l.length : Int))] (by kernel_rfl) fun b => ?_
  refine wpL_nil ?_
  refine th_n ?_
  refine wp_ret ?_
  refine ret1 rfl rfl ?_
  obtain rfl := Option.some.inj hr
  have hst := ((hst.pull 1).pull 1)
  exact hR _ hst
def glacierlaw16_QueuePlays_l2 (k : Nat) (y32 : ((List T_queue_Req))) (z5 : (List T_glacierref16_Req) × (List T_queue_waiting)) : Nat → Int → Option (Flow (Bool) (Unit))
  | 0, _ => none
  | j + 1, v16 => (if decide (v16 < (z5.1.length : Int)) = true then (Option.bind (gt z5.1 v16) fun x8 => (Option.bind (Option.bind (gt y32 v16) fun x9 => (if (x9.ID != x8.ID) = true then some (true) else (Option.bind (gt y32 v16) fun x10 => (if (x10.Vol != x8.Vol) = true then some (true) else (Option.bind (gt y32 v16) fun x11 => some ((x11.At != x8.At))))))) fun y36 => (if y36 = true then some (Flow.ret (false)) else (glacierlaw16_QueuePlays_l2 k y32 z5 j (IntKind.i64.wrap (v16 + 1)))))) else some (Flow.go ()))
def glacierlaw16_QueuePlays_l1 (k : Nat) (x1 : (List T_glacierlaw16_Act)) : Nat → (List T_glacierref16_Req) → Int → (List T_queue_waiting) → Option (Flow (Bool) ((List T_queue_waiting)))
  | 0, _, _, _ => none
  | j + 1, v12, v13, v14 => (Option.bind (if decide (v13 < (x1.length : Int)) = true then some (decide (v13 < 40)) else some (false)) fun y21 => (if y21 = true then (Option.bind (gt x1 v13) fun x7 => (Option.bind (glacierlaw16_small k x7.R) fun y22 => (Option.bind (if (x7.Kind == 1) = true then (Option.bind (glacierref16_Find k v12 y22.ID) fun y24 => (Option.bind (queue_Queue_Add k (T_queue_Queue.mk v14) y22) fun y25 => (if (y25.1 == (decide (y24 ≥ 0))) = true then some (Flow.ret (false)) else (if (!(decide (y24 ≥ 0))) = true then (if room (([] : List T_glacierref16_Req).length + v12.length) 40 = true then (if room (([] ++ v12).length + ([(T_glacierref16_Req.mk y22.ID y22.Blob y22.Vol y22.At 0)]).length) 40 = true then some (Flow.go ((([] ++ v12) ++ ([(T_glacierref16_Req.mk y22.ID y22.Blob y22.Vol y22.At 0)])), y25.2)) else none) else none) else some (Flow.go (v12, y25.2)))))) else (if (x7.Kind == 2) = true then (Option.bind (glacierref16_Find k v12 x7.N) fun y26 => (Option.bind (queue_Queue_Drop k (T_queue_Queue.mk v14) x7.N) fun y27 => (if (y27.1 != (decide (y26 ≥ 0))) = true then some (Flow.ret (false)) else (if decide (y26 ≥ 0) = true then (Option.bind (glacierref16_Without k v12 y26) fun y28 => some (Flow.go (y28, y27.2))) else some (Flow.go (v12, y27.2)))))) else (if (x7.Kind == 3) = true then (Option.bind (queue_Queue_Next k (T_queue_Queue.mk v14) x7.N (mn2 (mx2 x7.M 0) 1000000000)) fun y29 => (if (y29.2.1 != (decide ((v12.length : Int) > 0))) = true then some (Flow.ret (false)) else (if y29.2.1 = true then (Option.bind (glacierref16_Next k v12 x7.N (mn2 (mx2 x7.M 0) 1000000000)) fun y30 => (Option.bind (if (y29.1.ID != y30.2.ID) = true then some (true) else some ((y29.1.Blob != y30.2.Blob))) fun y31 => (if y31 = true then some (Flow.ret (false)) else some (Flow.go (y30.1, y29.2.2))))) else some (Flow.go (v12, y29.2.2))))) else some (Flow.go (v12, v14))))) fun y23 => (match y23 with | Flow.ret r => some (Flow.ret r) | Flow.go z5 => (Option.bind (queue_Queue_List k (T_queue_Queue.mk z5.2)) fun y32 => (Option.bind (Option.bind (queue_Queue_Len k (T_queue_Queue.mk z5.2)) fun y34 => (if (y34 != (z5.1.length : Int)) = true then some (true) else some (((y32.length : Int) != (z5.1.length : Int))))) fun y33 => (if y33 = true then some (Flow.ret (false)) else (Option.bind (glacierlaw16_QueuePlays_l2 k y32 z5 k (0 : Int)) fun y35 => (match y35 with | Flow.ret r => some (Flow.ret r) | Flow.go _ => (glacierlaw16_QueuePlays_l1 k x1 j z5.1 (IntKind.i64.wrap (v13 + 1)) z5.2)))))))))) else some (Flow.go (v14))))
def glacierlaw16_QueuePlays (k : Nat) (x1 : (List T_glacierlaw16_Act)) : Option (Bool) := (Option.bind (glacierlaw16_awake k) fun y19 => (if (!y19) = true then some (false) else (Option.bind (glacierlaw16_QueuePlays_l1 k x1 k ([]) (0 : Int) ([])) fun y20 => (match y20 with | Flow.ret r => some r | Flow.go _ => some (true)))))
set_option maxRecDepth 100000 in
set_option maxHeartbeats 4000000 in
theorem glacierlaw16_QueuePlays_ok {G w : World} {F : List HP} {R : Ending → World → Prop} (k : Nat) (x1 : (List T_glacierlaw16_Act)) (a1 : Option Addr) (c1 : Nat) (r : (Bool)) (hst : St G w (dsl r_T_glacierlaw16_Act a1 c1 x1 :: F)) (hr : glacierlaw16_QueuePlays k x1 = some r)
    (hR : ∀ w', St G w' (dsl r_T_glacierlaw16_Act a1 c1 x1 :: F) → R (.returned (.bool r)) w') :
    Calls Try.prog 6 #[.slice a1 x1.length c1] w R := by
  unfold glacierlaw16_QueuePlays at hr
  refine enter Try.func6 rfl [(0, .slice a1 x1.length c1)] rfl rfl fun b => ?_
  refine wp_seq ?_
  refine wp_reg ?_
  refine L_pure 1 [(0, .slice a1 x1.length c1)] (by kernel_rfl) fun b => ?_
  refine wpL_nil ?_
  refine th_n ?_
  refine wp_seq ?_
  refine wp_reg ?_
  refine L_op rfl (O_alloc (i := Try.t30) (z := .agg #[.slice none 0 0]) [.slice none 0 0] hst rfl rfl rfl rfl fun p11 w hst => ?_)
  refine wpL_nil ?_
  refine th_n ?_
  refine wp_seq ?_
  refine wp_reg ?_
  refine L_op rfl (O_bs (T := 47) [] #[] hst (by kernel_rfl) (by kernel_rfl) rfl fun p12 w hst => ?_)
  have hst := osl_of_blk0 (ecs := []) r_T_glacierref16_Req [] rfl (fun m => trivial) rfl hst
  refine L_pure 1 [(0, .slice a1 x1.length c1), (3, pt p11 0), (4, .slice (some ⟨p12, 0, none⟩) 0 0)] (by kernel_rfl) fun b => ?_
  refine wpL_nil ?_
  refine th_n ?_
  refine wp_seq ?_
  refine wp_seq ?_
  refine wp_reg ?_
  obtain ⟨y19, hy19, hr⟩ := bnd hr
  refine L_op rfl (O_call (vs := #[]) Try.call12 (by kernel_rfl) (glacierlaw16_awake_ok k y19 hst hy19 fun w hst => ?_))
  refine CK_ret rfl ?_
  refine L_pure 1 [(0, .slice a1 x1.length c1), (3, pt p11 0), (4, .slice (some ⟨p12, 0, none⟩) 0 0), (20, .bool (!y19))] (by kernel_rfl) fun b => ?_
  refine wpL_nil ?_
  refine th_n ?_
  refine wp_cond_mkF (t := (!y19)) rfl (fun h => ?_) (fun h => ?_)
  · have hr := (if_pos h).symm.trans hr
    refine wp_seq ?_
    refine wp_reg ?_
    refine L_pure 1 [(2, .bool false)] (by kernel_rfl) fun b => ?_
    refine wpL_nil ?_
    refine th_n ?_
    refine wp_ret ?_
    refine th_r ?_
    refine ret1 rfl rfl ?_
    obtain rfl := Option.some.inj hr
    have hst := ((hst.pull 2).cut 1 2)
    exact hR _ hst
  · have hr := (if_neg (by rw [h]; exact Bool.false_ne_true)).symm.trans hr
    refine wp_skip ?_
    refine th_n ?_
    refine wp_seq ?_
    refine wp_seq ?_
    refine wp_reg ?_
    refine L_pure 1 [(0, .slice a1 x1.length c1), (3, pt p11 0), (4, .slice (some ⟨p12, 0, none⟩) 0 0), (5, I 0)] (by kernel_rfl) fun b => ?_
    refine wpL_nil ?_
    refine th_n ?_
    obtain ⟨y20, hy20, hk8⟩ := bnd hr
    clear hr
    refine wp_cut (fun a w => ∃ (z4 : (List T_queue_waiting)) (a17 : Option Addr) (c17 : Nat)(b : Nat → Value), y20 = .go z4 ∧ a = mkF 172 b [] ∧ St G w (osl r_T_queue_waiting 70 a17 c17 z4 :: blk p11 (cl [.slice a17 z4.length c17] 30) :: dsl r_T_glacierlaw16_Act a1 c1 x1 :: F)) ?_ ?_
    · rintro _ w ⟨z4, a17, c17, b, rfl, rfl, hst⟩
      have hr := hk8
      refine th_n ?_
      refine wp_seq ?_
      refine wp_reg ?_
      refine L_pure 1 [(2, .bool true)] (by kernel_rfl) fun b => ?_
      refine wpL_nil ?_
      refine th_n ?_
      refine wp_ret ?_
      refine ret1 rfl rfl ?_
      obtain rfl := Option.some.inj hr
      have hst := ((hst.pull 2).cut 1 2)
      exact hR _ hst
    · have hst := osl_nil r_T_queue_waiting 70 hst
      have hst := ((((hst.pull 3).pull 3).pull 2).pull 3)
      refine wp_block ?_
      refine wp_loop_fuel (fun j a w => ∃ (v12 : (List T_glacierref16_Req)) (v13 : Int) (v14 : (List T_queue_waiting)) (a15 : Option Addr) (c15 : Nat) (a16 : Option Addr) (c16 : Nat) (b : Nat → Value), a = mkF 172 b [(0, .slice a1 x1.length c1), (3, pt p11 0), (4, .slice a15 v12.length c15), (5, I v13)] ∧ St G w (osl r_T_glacierref16_Req 47 a15 c15 v12 :: osl r_T_queue_waiting 70 a16 c16 v14 :: blk p11 (cl [.slice a16 v14.length c16] 30) :: dsl r_T_glacierlaw16_Act a1 c1 x1 :: F) ∧ glacierlaw16_QueuePlays_l1 k x1 j v12 v13 v14 = some y20) (k := k) ⟨[], (0 : Int), [], (some ⟨p12, 0, none⟩), 0, none, 0, (kpX [(0, .slice a1 x1.length c1), (3, pt p11 0), (4, .slice (some ⟨p12, 0, none⟩) 0 0), (5, I 0)] rfl ⟨hst, hy20⟩)⟩ ?_ ?_
      · rintro _ _ ⟨_, _, _, _, _, _, _, _, _, _, h⟩
        rw [glacierlaw16_QueuePlays_l1] at h
        cases h
      · rintro j _ w ⟨v12, v13, v14, a15, c15, a16, c16, b, rfl, hst, hr⟩
        rw [glacierlaw16_QueuePlays_l1] at hr
        refine wp_seq ?_
        obtain ⟨y21, hy21, hk9⟩ := bnd hr
        clear hr
        refine wp_seq_cut (fun a w => ∃ (b : Nat → Value), a = mkF 172 b [(0, .slice a1 x1.length c1), (3, pt p11 0), (4, .slice a15 v12.length c15), (5, I v13), (28, .bool y21)] ∧ St G w (osl r_T_glacierref16_Req 47 a15 c15 v12 :: osl r_T_queue_waiting 70 a16 c16 v14 :: blk p11 (cl [.slice a16 v14.length c16] 30) :: dsl r_T_glacierlaw16_Act a1 c1 x1 :: F)) ?_ ?_
        · rintro _ w ⟨b, rfl, hst⟩
          have hr := hk9
          refine wp_cond_mkF (t := y21) rfl (fun h => ?_) (fun h => ?_)
          · have hr := (if_pos h).symm.trans hr
            refine wp_skip ?_
            refine th_n ?_
            refine wp_seq ?_
            refine wp_block ?_
            refine wp_seq ?_
            refine wp_reg ?_
            refine L_pure 2 [(0, .slice a1 x1.length c1), (3, pt p11 0), (4, .slice a15 v12.length c15), (5, I v13), (31, .slice a1 x1.length c1), (32, I v13)] (by kernel_rfl) fun b => ?_
            obtain ⟨x7, hx6, hr⟩ := bnd hr
            refine L_op rfl (O_run (v := pt (ab a1) (ao a1 + v13.toNat * 7)) (w' := w) (R_ia L41 rfl rfl (dsl_addr (hst.pull 3) hx6) (gt_some hx6).1 (gt_some hx6).2.1) rfl rfl ?_)
            obtain ⟨q6, hc6, hst⟩ := dsl_cells (hst.pull 3) hx6
            have hst := hst.drop
            refine L_op rfl (O_run (v := .agg #[I x7.Kind, I x7.N, I x7.M, I x7.R.ID, .int .u64 x7.R.Blob, I x7.R.Vol, I x7.R.At]) (w' := w) (R_loadAt (off := ao a1 + v13.toNat * 7) (j := 0) hc6 rfl rfl) rfl rfl ?_)
            refine L_op rfl (O_alloc (i := Try.t44) (z := .agg #[I 0, I 0, I 0, I 0, .int .u64 0, I 0, I 0]) [I 0, I 0, I 0, I 0, .int .u64 0, I 0, I 0] hst rfl rfl rfl rfl fun p13 w hst => ?_)
            refine L_op rfl (O_store [I x7.Kind, I x7.N, I x7.M, I x7.R.ID, .int .u64 x7.R.Blob, I x7.R.Vol, I x7.R.At] hst rfl rfl (by kernel_rfl) fun w hst => ?_)
            refine wpL_nil ?_
            refine th_n ?_
            refine wp_seq ?_
            refine wp_reg ?_
            refine L_pure 1 [(0, .slice a1 x1.length c1), (3, pt p11 0), (4, .slice a15 v12.length c15), (5, I v13), (6, pt p13 0), (35, pt p13 3)] (by kernel_rfl) fun b => ?_
            refine L_op rfl (O_run (v := .agg #[I x7.R.ID, .int .u64 x7.R.Blob, I x7.R.Vol, I x7.R.At]) (w' := w) (R_load hst rfl rfl) rfl rfl ?_)
            obtain ⟨y22, hy22, hr⟩ := bnd hr
            refine L_op rfl (O_call (vs := #[.agg #[I x7.R.ID, .int .u64 x7.R.Blob, I x7.R.Vol, I x7.R.At]]) Try.call13 (by kernel_rfl) (glacierlaw16_small_ok k x7.R y22 hst hy22 fun w hst => ?_))
            refine CK_ret rfl ?_
            refine L_op rfl (O_alloc (i := Try.t25) (z := .agg #[I 0, .int .u64 0, I 0, I 0]) [I 0, .int .u64 0, I 0, I 0] hst rfl rfl rfl rfl fun p14 w hst => ?_)
            refine L_op rfl (O_store [I y22.ID, .int .u64 y22.Blob, I y22.Vol, I y22.At] hst rfl rfl (by kernel_rfl) fun w hst => ?_)
            refine wpL_nil ?_
            refine th_n ?_
            obtain ⟨y23, hy23, hk10⟩ := bnd hr
            clear hr
            refine wp_seq_cut (fun a w => ∃ (z5 : (List T_glacierref16_Req) × (List T_queue_waiting)) (a18 : Option Addr) (c18 : Nat) (a19 : Option Addr) (c19 : Nat)(b : Nat → Value), y23 = .go z5 ∧ a = mkF 172 b [(0, .slice a1 x1.length c1), (3, pt p11 0), (4, .slice a18 z5.1.length c18), (5, I v13)] ∧ St G w (osl r_T_glacierref16_Req 47 a18 c18 z5.1 :: osl r_T_queue_waiting 70 a19 c19 z5.2 :: blk p11 (cl [.slice a19 z5.2.length c19] 30) :: blk p14 (cl [I y22.ID, .int .u64 y22.Blob, I y22.Vol, I y22.At] 25) :: blk p13 (cl [I x7.Kind, I x7.N, I x7.M, I x7.R.ID, .int .u64 x7.R.Blob, I x7.R.Vol, I x7.R.At] 44) :: dsl r_T_glacierlaw16_Act a1 c1 x1 :: F)) ?_ ?_
            · rintro _ w ⟨z5, a18, c18, a19, c19, b, rfl, rfl, hst⟩
              have hr := hk10
              refine wp_seq ?_
              refine wp_reg ?_
              obtain ⟨y32, hy32, hr⟩ := bnd hr
              refine L_op rfl (O_call (vs := #[pt p11 0]) Try.call21 (by kernel_rfl) (queue_Queue_List_ok k (T_queue_Queue.mk z5.2) p11 a19 c19 y32 ((hst.pull 1).pull 2) hy32 fun a27 c27 w hst => ?_))
              refine CK_ret rfl ?_
              refine L_pure 1 [(0, .slice a1 x1.length c1), (3, pt p11 0), (4, .slice a18 z5.1.length c18), (5, I v13), (15, .slice a27 y32.length c27)] (by kernel_rfl) fun b => ?_
              refine wpL_nil ?_
              refine th_n ?_
              refine wp_seq ?_
              obtain ⟨y33, hy33, hk12⟩ := bnd hr
              clear hr
              refine wp_seq_cut (fun a w => ∃ (b : Nat → Value), a = mkF 172 b [(0, .slice a1 x1.length c1), (3, pt p11 0), (4, .slice a18 z5.1.length c18), (5, I v13), (15, .slice a27 y32.length c27), (135, .bool y33)] ∧ St G w (blk p11 (cl [.slice a19 z5.2.length c19] 30) :: osl r_T_queue_waiting 70 a19 c19 z5.2 :: osl r_T_queue_Req 25 a27 c27 y32 :: osl r_T_glacierref16_Req 47 a18 c18 z5.1 :: blk p14 (cl [I y22.ID, .int .u64 y22.Blob, I y22.Vol, I y22.At] 25) :: blk p13 (cl [I x7.Kind, I x7.N, I x7.M, I x7.R.ID, .int .u64 x7.R.Blob, I x7.R.Vol, I x7.R.At] 44) :: dsl r_T_glacierlaw16_Act a1 c1 x1 :: F)) ?_ ?_
              · rintro _ w ⟨b, rfl, hst⟩
                have hr := hk12
                refine wp_cond_mkF (t := y33) rfl (fun h => ?_) (fun h => ?_)
                · have hr := (if_pos h).symm.trans hr
                  refine wp_seq ?_
                  refine wp_reg ?_
                  refine L_pure 1 [(2, .bool false)] (by kernel_rfl) fun b => ?_
                  refine wpL_nil ?_
                  refine th_n ?_
                  refine wp_ret ?_
                  refine th_r (ib_r (th_r (th_r (ib_r (th_r (th_r ?_))))))
                  refine ret1 rfl rfl ?_
                  obtain rfl := Option.some.inj hr
                  obtain rfl := Option.some.inj hk8
                  have hst := ((hst.pull 6).cut 1 6)
                  exact hR _ hst
                · have hr := (if_neg (by rw [h]; exact Bool.false_ne_true)).symm.trans hr
                  refine wp_skip ?_
                  refine th_n ?_
                  refine wp_seq ?_
                  refine wp_reg ?_
                  refine L_pure 3 [(0, .slice a1 x1.length c1), (3, pt p11 0), (4, .slice a18 z5.1.length c18), (5, I v13), (15, .slice a27 y32.length c27), (136, .slice a18 z5.1.length c18), (137, I (z5.1.length : Int)), (138, I 0)] (by kernel_rfl) fun b => ?_
                  refine wpL_nil ?_
                  refine th_n ?_
                  obtain ⟨y35, hy35, hk13⟩ := bnd hr
                  clear hr
                  refine wp_cut (fun a w => ∃ (z6 : Unit) (b : Nat → Value), y35 = .go z6 ∧ a = mkF 172 b [(0, .slice a1 x1.length c1), (3, pt p11 0), (4, .slice a18 z5.1.length c18), (5, I v13)] ∧ St G w (blk p11 (cl [.slice a19 z5.2.length c19] 30) :: osl r_T_queue_waiting 70 a19 c19 z5.2 :: osl r_T_queue_Req 25 a27 c27 y32 :: osl r_T_glacierref16_Req 47 a18 c18 z5.1 :: blk p14 (cl [I y22.ID, .int .u64 y22.Blob, I y22.Vol, I y22.At] 25) :: blk p13 (cl [I x7.Kind, I x7.N, I x7.M, I x7.R.ID, .int .u64 x7.R.Blob, I x7.R.Vol, I x7.R.At] 44) :: dsl r_T_glacierlaw16_Act a1 c1 x1 :: F)) ?_ ?_
                  · rintro _ w ⟨z6, b, rfl, rfl, hst⟩
                    have hr := hk13
                    refine ib_n (th_n ?_)
                    refine wp_reg ?_
                    refine L_pure 3 [(0, .slice a1 x1.length c1), (3, pt p11 0), (4, .slice a18 z5.1.length c18), (5, I (IntKind.i64.wrap (v13 + 1)))] (by kernel_rfl) fun b => ?_
                    refine wpL_nil ?_
                    refine th_n ?_
                    have hst := (((((hst.pull 6).pull 1).pull 2).pull 4).cut 4 3)
                    exact ⟨z5.1, (IntKind.i64.wrap (v13 + 1)), z5.2, a18, c18, a19, c19, (kpX [(0, .slice a1 x1.length c1), (3, pt p11 0), (4, .slice a18 z5.1.length c18), (5, I (IntKind.i64.wrap (v13 + 1)))] rfl ⟨hst, hr⟩)⟩
                  · have hst := (((((((hst.pull 6).pull 6).pull 6).pull 6).pull 6).pull 6).pull 6)
                    refine wp_block ?_
                    refine wp_loop_fuel (fun j a w => ∃ (v16 : Int) (b : Nat → Value), a = mkF 172 b [(0, .slice a1 x1.length c1), (3, pt p11 0), (4, .slice a18 z5.1.length c18), (5, I v13), (15, .slice a27 y32.length c27), (136, .slice a18 z5.1.length c18), (137, I (z5.1.length : Int)), (138, I v16)] ∧ St G w (blk p11 (cl [.slice a19 z5.2.length c19] 30) :: osl r_T_queue_waiting 70 a19 c19 z5.2 :: osl r_T_queue_Req 25 a27 c27 y32 :: osl r_T_glacierref16_Req 47 a18 c18 z5.1 :: blk p14 (cl [I y22.ID, .int .u64 y22.Blob, I y22.Vol, I y22.At] 25) :: blk p13 (cl [I x7.Kind, I x7.N, I x7.M, I x7.R.ID, .int .u64 x7.R.Blob, I x7.R.Vol, I x7.R.At] 44) :: dsl r_T_glacierlaw16_Act a1 c1 x1 :: F) ∧ glacierlaw16_QueuePlays_l2 k y32 z5 j v16 = some y35) (k := k) ⟨(0 : Int), (kpX [(0, .slice a1 x1.length c1), (3, pt p11 0), (4, .slice a18 z5.1.length c18), (5, I v13), (15, .slice a27 y32.length c27), (136, .slice a18 z5.1.length c18), (137, I (z5.1.length : Int)), (138, I 0)] rfl ⟨hst, hy35⟩)⟩ ?_ ?_
                    · rintro _ _ ⟨_, _, _, _, h⟩
                      rw [glacierlaw16_QueuePlays_l2] at h
                      cases h
                    · rintro j _ w ⟨v16, b, rfl, hst, hr⟩
                      rw [glacierlaw16_QueuePlays_l2] at hr
                      refine wp_seq ?_
                      refine wp_reg ?_
                      refine L_pure 1 [(0, .slice a1 x1.length c1), (3, pt p11 0), (4, .slice a18 z5.1.length c18), (5, I v13), (15, .slice a27 y32.length c27), (136, .slice a18 z5.1.length c18), (137, I (z5.1.length : Int)), (138, I v16), (139, .bool (decide (v16 < (z5.1.length : Int))))] (by kernel_rfl) fun b => ?_
                      refine wpL_nil ?_
                      refine th_n ?_
                      refine wp_seq ?_
                      refine wp_cond_mkF (t := decide (v16 < (z5.1.length : Int))) rfl (fun h => ?_) (fun h => ?_)
                      · have hr := (if_pos h).symm.trans hr
                        refine wp_skip ?_
                        refine th_n ?_
                        refine wp_seq ?_
                        refine wp_block ?_
                        refine wp_seq ?_
                        refine wp_reg ?_
                        refine L_pure 1 [(0, .slice a1 x1.length c1), (3, pt p11 0), (4, .slice a18 z5.1.length c18), (5, I v13), (15, .slice a27 y32.length c27), (136, .slice a18 z5.1.length c18), (137, I (z5.1.length : Int)), (138, I v16), (140, I v16)] (by kernel_rfl) fun b => ?_
                        obtain ⟨x8, hx7, hr⟩ := bnd hr
                        refine L_op rfl (O_run (v := pt (ab a18) (ao a18 + v16.toNat * 5)) (w' := w) (R_ia L42 rfl rfl (osl_addr (hst.pull 3) hx7) (gt_some hx7).1 (gt_some hx7).2.1) rfl rfl ?_)
                        obtain ⟨q7, hc7, hst⟩ := osl_cells (hst.pull 3) hx7
                        have hst := hst.drop
                        refine L_op rfl (O_run (v := .agg #[I x8.ID, .int .u64 x8.Blob, I x8.Vol, I x8.At, I x8.Passed]) (w' := w) (R_loadAt (off := ao a18 + v16.toNat * 5) (j := 0) hc7 rfl rfl) rfl rfl ?_)
                        refine L_op rfl (O_alloc (i := Try.t47) (z := .agg #[I 0, .int .u64 0, I 0, I 0, I 0]) [I 0, .int .u64 0, I 0, I 0, I 0] hst rfl rfl rfl rfl fun p20 w hst => ?_)
                        refine L_pure 1 [(0, .slice a1 x1.length c1), (3, pt p11 0), (4, .slice a18 z5.1.length c18), (5, I v13), (15, .slice a27 y32.length c27), (16, I v16), (17, pt p20 0), (136, .slice a18 z5.1.length c18), (137, I (z5.1.length : Int)), (138, I v16), (142, .agg #[I x8.ID, .int .u64 x8.Blob, I x8.Vol, I x8.At, I x8.Passed])] (by kernel_rfl) fun b => ?_
                        refine L_op rfl (O_store [I x8.ID, .int .u64 x8.Blob, I x8.Vol, I x8.At, I x8.Passed] hst rfl rfl (by kernel_rfl) fun w hst => ?_)
                        refine wpL_nil ?_
                        refine th_n ?_
                        obtain ⟨y36, hy36, hk14⟩ := bnd hr
                        clear hr
                        refine wp_seq_cut (fun a w => ∃ (b : Nat → Value), a = mkF 172 b [(0, .slice a1 x1.length c1), (3, pt p11 0), (4, .slice a18 z5.1.length c18), (5, I v13), (15, .slice a27 y32.length c27), (136, .slice a18 z5.1.length c18), (137, I (z5.1.length : Int)), (138, I v16), (170, .bool y36)] ∧ St G w (osl r_T_queue_Req 25 a27 c27 y32 :: blk p20 (cl [I x8.ID, .int .u64 x8.Blob, I x8.Vol, I x8.At, I x8.Passed] 47) :: osl r_T_glacierref16_Req 47 a18 c18 z5.1 :: blk p11 (cl [.slice a19 z5.2.length c19] 30) :: osl r_T_queue_waiting 70 a19 c19 z5.2 :: blk p14 (cl [I y22.ID, .int .u64 y22.Blob, I y22.Vol, I y22.At] 25) :: blk p13 (cl [I x7.Kind, I x7.N, I x7.M, I x7.R.ID, .int .u64 x7.R.Blob, I x7.R.Vol, I x7.R.At] 44) :: dsl r_T_glacierlaw16_Act a1 c1 x1 :: F)) ?_ ?_
                        · rintro _ w ⟨b, rfl, hst⟩
                          have hr := hk14
                          refine wp_cond_mkF (t := y36) rfl (fun h => ?_) (fun h => ?_)
                          · have hr := (if_pos h).symm.trans hr
                            refine wp_seq ?_
                            refine wp_reg ?_
                            refine L_pure 1 [(2, .bool false)] (by kernel_rfl) fun b => ?_
                            refine wpL_nil ?_
                            refine th_n ?_
                            refine wp_ret ?_
                            refine ib_r (th_r (th_r (ib_r (th_r (ib_r (th_r (th_r (ib_r (th_r (th_r ?_))))))))))
                            refine ret1 rfl rfl ?_
                            obtain rfl := Option.some.inj hr
                            obtain rfl := Option.some.inj hk13
                            obtain rfl := Option.some.inj hk8
                            have hst := ((hst.pull 7).cut 1 7)
                            exact hR _ hst
                          · have hr := (if_neg (by rw [h]; exact Bool.false_ne_true)).symm.trans hr
                            refine wp_skip ?_
                            refine ib_n (th_n ?_)
                            refine wp_reg ?_
                            refine L_pure 2 [(0, .slice a1 x1.length c1), (3, pt p11 0), (4, .slice a18 z5.1.length c18), (5, I v13), (15, .slice a27 y32.length c27), (136, .slice a18 z5.1.length c18), (137, I (z5.1.length : Int)), (138, I (IntKind.i64.wrap (v16 + 1)))] (by kernel_rfl) fun b => ?_
                            refine wpL_nil ?_
                            refine th_n ?_
                            have hst := ((((((((hst.pull 7).pull 7).pull 7).pull 5).pull 4).pull 7).pull 7).cut 7 1)
                            exact ⟨(IntKind.i64.wrap (v16 + 1)), (kpX [(0, .slice a1 x1.length c1), (3, pt p11 0), (4, .slice a18 z5.1.length c18), (5, I v13), (15, .slice a27 y32.length c27), (136, .slice a18 z5.1.length c18), (137, I (z5.1.length : Int)), (138, I (IntKind.i64.wrap (v16 + 1)))] rfl ⟨hst, hr⟩)⟩
                        · have hr := hy36
                          refine wp_regG (SN { w with drawn := w.drawn + 1 }) rfl ?_
                          have hst := hst.draw (n := w.drawn + 1)
                          generalize { w with drawn := w.drawn + 1 } = w at hst ⊢
                          refine C_take (i := 0) (v := .slice a27 y32.length c27) rfl (by kernel_rfl) (fun _ _ _ h => h) rfl rfl rfl (R_pure (by kernel_rfl)) ?_
                          refine C_take (i := 1) (v := I v16) rfl (by kernel_rfl) (fun _ _ _ h => h) rfl rfl rfl (R_pure (by kernel_rfl)) ?_
                          obtain ⟨x9, hx8, hr⟩ := bnd hr
                          refine C_take (i := 2) (v := pt (ab a27) (ao a27 + v16.toNat * 4)) rfl (by kernel_rfl) (fun _ _ _ h => h) rfl rfl rfl (R_ia L22 rfl rfl (osl_addr (hst.pull 4) hx8) (gt_some hx8).1 (gt_some hx8).2.1) ?_
                          refine C_take (i := 3) (v := pt (ab a27) (ao a27 + v16.toNat * 4)) rfl (by kernel_rfl) (fun _ _ _ h => h) rfl rfl rfl (R_pure (by kernel_rfl)) ?_
                          obtain ⟨q8, hc8, hst⟩ := osl_cells (hst.pull 4) hx8
                          have hst := hst.drop
                          refine C_take (i := 4) (v := I x9.ID) rfl (by kernel_rfl) (fun _ _ _ h => h) rfl rfl rfl (R_loadAt (off := ao a27 + v16.toNat * 4) (j := 0) hc8 rfl rfl) ?_
                          refine C_take (i := 5) (v := pt p20 0) rfl (by kernel_rfl) (fun _ _ _ h => h) rfl rfl rfl (R_pure (by kernel_rfl)) ?_
                          refine C_take (i := 6) (v := I x8.ID) rfl (by kernel_rfl) (fun _ _ _ h => h) rfl rfl rfl (R_load (hst.pull 1) rfl rfl) ?_
                          refine C_take (i := 7) (v := .bool (x9.ID != x8.ID)) rfl (by kernel_rfl) (fun _ _ _ h => h) rfl rfl rfl (R_pure (by kernel_rfl)) ?_
                          refine C_take (i := 8) (v := .bool (x9.ID != x8.ID)) rfl (by kernel_rfl) (fun _ _ _ h => h) rfl rfl rfl (R_pure (by kernel_rfl)) ?_
                          by_cases h : (x9.ID != x8.ID) = true
                          · have hr := (if_pos h).symm.trans hr
                            refine C_keep ((151, .bool (x9.ID != x8.ID)) :: [(0, .slice a1 x1.length c1), (3, pt p11 0), (4, .slice a18 z5.1.length c18), (5, I v13), (15, .slice a27 y32.length c27), (16, I v16), (17, pt p20 0), (136, .slice a18 z5.1.length c18), (137, I (z5.1.length : Int)), (138, I v16), (142, .agg #[I x8.ID, .int .u64 x8.Blob, I x8.Vol, I x8.At, I x8.Passed]), (143, .slice a27 y32.length c27), (144, I v16), (145, pt (ab a27) (ao a27 + v16.toNat * 4)), (146, pt (ab a27) (ao a27 + v16.toNat * 4)), (147, I x9.ID), (148, pt p20 0), (149, I x8.ID), (150, .bool (x9.ID != x8.ID))]) rfl fun b => ?_
                            refine C_bool h ?_
                            refine C_skip (i := 9) rfl (by kernel_rfl) (fun _ _ _ h => h) rfl rfl rfl ?_
                            refine C_skip (i := 10) rfl (by kernel_rfl) (fun _ _ _ h => h) rfl rfl rfl ?_
                            refine C_skip (i := 11) rfl (by kernel_rfl) (fun _ _ _ h => h) rfl rfl rfl ?_
                            refine C_skip (i := 12) rfl (by kernel_rfl) (fun _ _ _ h => h) rfl rfl rfl ?_
                            refine C_skip (i := 13) rfl (by kernel_rfl) (fun _ _ _ h => h) rfl rfl rfl ?_
                            refine C_skip (i := 14) rfl (by kernel_rfl) (fun _ _ _ h => h) rfl rfl rfl ?_
                            refine C_skip (i := 15) rfl (by kernel_rfl) (fun _ _ _ h => h) rfl rfl rfl ?_
                            refine C_skip (i := 16) rfl (by kernel_rfl) (fun _ _ _ h => h) rfl rfl rfl ?_
                            refine C_take (i := 17) (v := .bool true) rfl (by kernel_rfl) (fun _ _ _ h => h) rfl rfl rfl (R_pure (by kernel_rfl)) ?_
                            refine C_take (i := 18) (v := .bool true) rfl (by kernel_rfl) (fun _ _ _ h => h) rfl rfl rfl (R_pure (by kernel_rfl)) ?_
                            refine C_skip (i := 19) rfl (by kernel_rfl) (fun _ _ _ h => h) rfl rfl rfl ?_
                            refine C_skip (i := 20) rfl (by kernel_rfl) (fun _ _ _ h => h) rfl rfl rfl ?_
                            refine C_skip (i := 21) rfl (by kernel_rfl) (fun _ _ _ h => h) rfl rfl rfl ?_
                            refine C_skip (i := 22) rfl (by kernel_rfl) (fun _ _ _ h => h) rfl rfl rfl ?_
                            refine C_skip (i := 23) rfl (by kernel_rfl) (fun _ _ _ h => h) rfl rfl rfl ?_
                            refine C_skip (i := 24) rfl (by kernel_rfl) (fun _ _ _ h => h) rfl rfl rfl ?_
                            refine C_skip (i := 25) rfl (by kernel_rfl) (fun _ _ _ h => h) rfl rfl rfl ?_
                            refine C_skip (i := 26) rfl (by kernel_rfl) (fun _ _ _ h => h) rfl rfl rfl ?_
                            refine C_take (i := 27) (v := .bool true) rfl (by kernel_rfl) (fun _ _ _ h => h) rfl rfl rfl (R_pure (by kernel_rfl)) ?_
                            refine wpG_done (by kernel_rfl) ?_ _
                            refine C_keepQ [(0, .slice a1 x1.length c1), (3, pt p11 0), (4, .slice a18 z5.1.length c18), (5, I v13), (15, .slice a27 y32.length c27), (136, .slice a18 z5.1.length c18), (137, I (z5.1.length : Int)), (138, I v16), (170, .bool true)] rfl fun b => ?_
                            refine th_n ?_
                            obtain rfl := Option.some.inj hr
                            have hst := ((((((((hst.pull 7).pull 7).pull 7).pull 7).pull 7).pull 7).pull 7).pull 7)
                            exact (kpX [(0, .slice a1 x1.length c1), (3, pt p11 0), (4, .slice a18 z5.1.length c18), (5, I v13), (15, .slice a27 y32.length c27), (136, .slice a18 z5.1.length c18), (137, I (z5.1.length : Int)), (138, I v16), (170, .bool true)] rfl hst)
                          · have hr := (if_neg h).symm.trans hr
                            refine C_keep ((151, .bool (x9.ID != x8.ID)) :: [(0, .slice a1 x1.length c1), (3, pt p11 0), (4, .slice a18 z5.1.length c18), (5, I v13), (15, .slice a27 y32.length c27), (16, I v16), (17, pt p20 0), (136, .slice a18 z5.1.length c18), (137, I (z5.1.length : Int)), (138, I v16), (142, .agg #[I x8.ID, .int .u64 x8.Blob, I x8.Vol, I x8.At, I x8.Passed]), (143, .slice a27 y32.length c27), (144, I v16), (145, pt (ab a27) (ao a27 + v16.toNat * 4)), (146, pt (ab a27) (ao a27 + v16.toNat * 4)), (147, I x9.ID), (148, pt p20 0), (149, I x8.ID), (150, .bool (x9.ID != x8.ID))]) rfl fun b => ?_
                            refine C_bool (eq_false_of_ne_true h) ?_
                            refine C_take (i := 9) (v := .slice a27 y32.length c27) rfl (by kernel_rfl) (fun _ _ _ h => h) rfl rfl rfl (R_pure (by kernel_rfl)) ?_
                            refine C_take (i := 10) (v := I v16) rfl (by kernel_rfl) (fun _ _ _ h => h) rfl rfl rfl (R_pure (by kernel_rfl)) ?_
                            obtain ⟨x10, hx9, hr⟩ := bnd hr
                            refine C_take (i := 11) (v := pt (ab a27) (ao a27 + v16.toNat * 4)) rfl (by kernel_rfl) (fun _ _ _ h => h) rfl rfl rfl (R_ia L22 rfl rfl (osl_addr hst hx9) (gt_some hx9).1 (gt_some hx9).2.1) ?_
                            refine C_take (i := 12) (v := pt (ab a27) (ao a27 + v16.toNat * 4 + 2)) rfl (by kernel_rfl) (fun _ _ _ h => h) rfl rfl rfl (R_pure (by kernel_rfl)) ?_
                            obtain ⟨q9, hc9, hst⟩ := osl_cells hst hx9
                            have hst := hst.drop
                            refine C_take (i := 13) (v := I x10.Vol) rfl (by kernel_rfl) (fun _ _ _ h => h) rfl rfl rfl (R_loadAt (off := ao a27 + v16.toNat * 4) (j := 2) hc9 rfl rfl) ?_
                            refine C_take (i := 14) (v := pt p20 2) rfl (by kernel_rfl) (fun _ _ _ h => h) rfl rfl rfl (R_pure (by kernel_rfl)) ?_
                            refine C_take (i := 15) (v := I x8.Vol) rfl (by kernel_rfl) (fun _ _ _ h => h) rfl rfl rfl (R_load (hst.pull 1) rfl rfl) ?_
                            refine C_take (i := 16) (v := .bool (x10.Vol != x8.Vol)) rfl (by kernel_rfl) (fun _ _ _ h => h) rfl rfl rfl (R_pure (by kernel_rfl)) ?_
                            refine C_take (i := 17) (v := .bool (x10.Vol != x8.Vol)) rfl (by kernel_rfl) (fun _ _ _ h => h) rfl rfl rfl (R_pure (by kernel_rfl)) ?_
                            refine C_take (i := 18) (v := .bool (x10.Vol != x8.Vol)) rfl (by kernel_rfl) (fun _ _ _ h => h) rfl rfl rfl (R_pure (by kernel_rfl)) ?_
                            by_cases h : (x10.Vol != x8.Vol) = true
                            · have hr := (if_pos h).symm.trans hr
                              refine C_keep ((161, .bool (x10.Vol != x8.Vol)) :: [(0, .slice a1 x1.length c1), (3, pt p11 0), (4, .slice a18 z5.1.length c18), (5, I v13), (15, .slice a27 y32.length c27), (16, I v16), (17, pt p20 0), (136, .slice a18 z5.1.length c18), (137, I (z5.1.length : Int)), (138, I v16), (142, .agg #[I x8.ID, .int .u64 x8.Blob, I x8.Vol, I x8.At, I x8.Passed]), (143, .slice a27 y32.length c27), (144, I v16), (145, pt (ab a27) (ao a27 + v16.toNat * 4)), (146, pt (ab a27) (ao a27 + v16.toNat * 4)), (147, I x9.ID), (148, pt p20 0), (149, I x8.ID), (150, .bool (x9.ID != x8.ID)), (151, .bool false), (152, .slice a27 y32.length c27), (153, I v16), (154, pt (ab a27) (ao a27 + v16.toNat * 4)), (155, pt (ab a27) (ao a27 + v16.toNat * 4 + 2)), (156, I x10.Vol), (157, pt p20 2), (158, I x8.Vol), (159, .bool (x10.Vol != x8.Vol)), (160, .bool (x10.Vol != x8.Vol))]) rfl fun b => ?_
                              refine C_bool h ?_
                              refine C_skip (i := 19) rfl (by kernel_rfl) (fun _ _ _ h => h) rfl rfl rfl ?_
                              refine C_skip (i := 20) rfl (by kernel_rfl) (fun _ _ _ h => h) rfl rfl rfl ?_
                              refine C_skip (i := 21) rfl (by kernel_rfl) (fun _ _ _ h => h) rfl rfl rfl ?_
                              refine C_skip (i := 22) rfl (by kernel_rfl) (fun _ _ _ h => h) rfl rfl rfl ?_
                              refine C_skip (i := 23) rfl (by kernel_rfl) (fun _ _ _ h => h) rfl rfl rfl ?_
                              refine C_skip (i := 24) rfl (by kernel_rfl) (fun _ _ _ h => h) rfl rfl rfl ?_
                              refine C_skip (i := 25) rfl (by kernel_rfl) (fun _ _ _ h => h) rfl rfl rfl ?_
                              refine C_skip (i := 26) rfl (by kernel_rfl) (fun _ _ _ h => h) rfl rfl rfl ?_
                              refine C_take (i := 27) (v := .bool true) rfl (by kernel_rfl) (fun _ _ _ h => h) rfl rfl rfl (R_pure (by kernel_rfl)) ?_
                              refine wpG_done (by kernel_rfl) ?_ _
                              refine C_keepQ [(0, .slice a1 x1.length c1), (3, pt p11 0), (4, .slice a18 z5.1.length c18), (5, I v13), (15, .slice a27 y32.length c27), (136, .slice a18 z5.1.length c18), (137, I (z5.1.length : Int)), (138, I v16), (170, .bool true)] rfl fun b => ?_
                              refine th_n ?_
                              obtain rfl := Option.some.inj hr
                              have hst := ((((((((hst.pull 7).pull 7).pull 7).pull 7).pull 7).pull 7).pull 7).pull 7)
                              exact (kpX [(0, .slice a1 x1.length c1), (3, pt p11 0), (4, .slice a18 z5.1.length c18), (5, I v13), (15, .slice a27 y32.length c27), (136, .slice a18 z5.1.length c18), (137, I (z5.1.length : Int)), (138, I v16), (170, .bool true)] rfl hst)
                            · have hr := (if_neg h).symm.trans hr
                              refine C_keep ((161, .bool (x10.Vol != x8.Vol)) :: [(0, .slice a1 x1.length c1), (3, pt p11 0), (4, .slice a18 z5.1.length c18), (5, I v13), (15, .slice a27 y32.length c27), (16, I v16), (17, pt p20 0), (136, .slice a18 z5.1.length c18), (137, I (z5.1.length : Int)), (138, I v16), (142, .agg #[I x8.ID, .int .u64 x8.Blob, I x8.Vol, I x8.At, I x8.Passed]), (143, .slice a27 y32.length c27), (144, I v16), (145, pt (ab a27) (ao a27 + v16.toNat * 4)), (146, pt (ab a27) (ao a27 + v16.toNat * 4)), (147, I x9.ID), (148, pt p20 0), (149, I x8.ID), (150, .bool (x9.ID != x8.ID)), (151, .bool false), (152, .slice a27 y32.length c27), (153, I v16), (154, pt (ab a27) (ao a27 + v16.toNat * 4)), (155, pt (ab a27) (ao a27 + v16.toNat * 4 + 2)), (156, I x10.Vol), (157, pt p20 2), (158, I x8.Vol), (159, .bool (x10.Vol != x8.Vol)), (160, .bool (x10.Vol != x8.Vol))]) rfl fun b => ?_
                              refine C_bool (eq_false_of_ne_true h) ?_
                              refine C_take (i := 19) (v := .slice a27 y32.length c27) rfl (by kernel_rfl) (fun _ _ _ h => h) rfl rfl rfl (R_pure (by kernel_rfl)) ?_
                              refine C_take (i := 20) (v := I v16) rfl (by kernel_rfl) (fun _ _ _ h => h) rfl rfl rfl (R_pure (by kernel_rfl)) ?_
                              obtain ⟨x11, hx10, hr⟩ := bnd hr
                              refine C_take (i := 21) (v := pt (ab a27) (ao a27 + v16.toNat * 4)) rfl (by kernel_rfl) (fun _ _ _ h => h) rfl rfl rfl (R_ia L22 rfl rfl (osl_addr hst hx10) (gt_some hx10).1 (gt_some hx10).2.1) ?_
                              refine C_take (i := 22) (v := pt (ab a27) (ao a27 + v16.toNat * 4 + 3)) rfl (by kernel_rfl) (fun _ _ _ h => h) rfl rfl rfl (R_pure (by kernel_rfl)) ?_
                              obtain ⟨q10, hc10, hst⟩ := osl_cells hst hx10
                              have hst := hst.drop
                              refine C_take (i := 23) (v := I x11.At) rfl (by kernel_rfl) (fun _ _ _ h => h) rfl rfl rfl (R_loadAt (off := ao a27 + v16.toNat * 4) (j := 3) hc10 rfl rfl) ?_
                              refine C_take (i := 24) (v := pt p20 3) rfl (by kernel_rfl) (fun _ _ _ h => h) rfl rfl rfl (R_pure (by kernel_rfl)) ?_
                              refine C_take (i := 25) (v := I x8.At) rfl (by kernel_rfl) (fun _ _ _ h => h) rfl rfl rfl (R_load (hst.pull 1) rfl rfl) ?_
                              refine C_take (i := 26) (v := .bool (x11.At != x8.At)) rfl (by kernel_rfl) (fun _ _ _ h => h) rfl rfl rfl (R_pure (by kernel_rfl)) ?_
                              refine C_take (i := 27) (v := .bool (x11.At != x8.At)) rfl (by kernel_rfl) (fun _ _ _ h => h) rfl rfl rfl (R_pure (by kernel_rfl)) ?_
                              refine wpG_done (by kernel_rfl) ?_ _
                              refine C_keepQ [(0, .slice a1 x1.length c1), (3, pt p11 0), (4, .slice a18 z5.1.length c18), (5, I v13), (15, .slice a27 y32.length c27), (136, .slice a18 z5.1.length c18), (137, I (z5.1.length : Int)), (138, I v16), (170, .bool (x11.At != x8.At))] rfl fun b => ?_
                              refine th_n ?_
                              obtain rfl := Option.some.inj hr
                              have hst := ((((((((hst.pull 7).pull 7).pull 7).pull 7).pull 7).pull 7).pull 7).pull 7)
                              exact (kpX [(0, .slice a1 x1.length c1), (3, pt p11 0), (4, .slice a18 z5.1.length c18), (5, I v13), (15, .slice a27 y32.length c27), (136, .slice a18 z5.1.length c18), (137, I (z5.1.length : Int)), (138, I v16), (170, .bool (x11.At != x8.At))] rfl hst)
                      · have hr := (if_neg (by rw [h]; exact Bool.false_ne_true)).symm.trans hr
                        refine wp_exit ?_
                        refine th_x (th_x (ib_x (th_n ?_)))
                        obtain rfl := Option.some.inj hr
                        have hst := (((((((hst.pull 6).pull 6).pull 6).pull 6).pull 6).pull 6).pull 6)
                        exact ⟨(), (kpXf [(0, .slice a1 x1.length c1), (3, pt p11 0), (4, .slice a18 z5.1.length c18), (5, I v13)] rfl hst)⟩
              · have hr := hy33
                refine wp_reg ?_
                obtain ⟨y34, hy34, hr⟩ := bnd hr
                refine L_op rfl (O_call (vs := #[pt p11 0]) Try.call15 (by kernel_rfl) (queue_Queue_Len_ok k (T_queue_Queue.mk z5.2) p11 a19 c19 y34 ((hst.pull 2).pull 2) hy34 fun w hst => ?_))
                refine CK_ret rfl ?_
                refine L_pure 4 [(0, .slice a1 x1.length c1), (3, pt p11 0), (4, .slice a18 z5.1.length c18), (5, I v13), (15, .slice a27 y32.length c27), (129, .bool (y34 != (z5.1.length : Int)))] (by kernel_rfl) fun b => ?_
                by_cases h : (y34 != (z5.1.length : Int)) = true
                · have hr := (if_pos h).symm.trans hr
                  refine L_keep ((129, .bool (y34 != (z5.1.length : Int))) :: [(0, .slice a1 x1.length c1), (3, pt p11 0), (4, .slice a18 z5.1.length c18), (5, I v13), (15, .slice a27 y32.length c27)]) rfl fun b => ?_
                  refine L_bool h ?_
                  refine L_pure 6 [(0, .slice a1 x1.length c1), (3, pt p11 0), (4, .slice a18 z5.1.length c18), (5, I v13), (15, .slice a27 y32.length c27), (135, .bool true)] (by kernel_rfl) fun b => ?_
                  refine wpL_nil ?_
                  refine th_n ?_
                  obtain rfl := Option.some.inj hr
                  have hst := (((((((hst.pull 6).pull 6).pull 6).pull 6).pull 6).pull 6).pull 6)
                  exact (kpX [(0, .slice a1 x1.length c1), (3, pt p11 0), (4, .slice a18 z5.1.length c18), (5, I v13), (15, .slice a27 y32.length c27), (135, .bool true)] rfl hst)
                · have hr := (if_neg h).symm.trans hr
                  refine L_keep ((129, .bool (y34 != (z5.1.length : Int))) :: [(0, .slice a1 x1.length c1), (3, pt p11 0), (4, .slice a18 z5.1.length c18), (5, I v13), (15, .slice a27 y32.length c27)]) rfl fun b => ?_
                  refine L_bool (eq_false_of_ne_true h) ?_
                  refine L_pure 6 [(0, .slice a1 x1.length c1), (3, pt p11 0), (4, .slice a18 z5.1.length c18), (5, I v13), (15, .slice a27 y32.length c27), (135, .bool ((y32.length : Int) != (z5.1.length : Int)))] (by kernel_rfl) fun b => ?_
                  refine wpL_nil ?_
                  refine th_n ?_
                  obtain rfl := Option.some.inj hr
                  have hst := (((((((hst.pull 6).pull 6).pull 6).pull 6).pull 6).pull 6).pull 6)
                  exact (kpX [(0, .slice a1 x1.length c1), (3, pt p11 0), (4, .slice a18 z5.1.length c18), (5, I v13), (15, .slice a27 y32.length c27), (135, .bool ((y32.length : Int) != (z5.1.length : Int)))] rfl hst)
            · have hr := hy23
              refine wp_seq ?_
              refine wp_reg ?_
              refine L_pure 1 [(0, .slice a1 x1.length c1), (3, pt p11 0), (4, .slice a15 v12.length c15), (5, I v13), (6, pt p13 0), (7, pt p14 0), (38, pt p13 0)] (by kernel_rfl) fun b => ?_
              refine L_op rfl (O_run (v := I x7.Kind) (w' := w) (R_load (hst.pull 1) rfl rfl) rfl rfl ?_)
              refine wpL_nil ?_
              refine th_n ?_
              refine wp_block ?_
              refine wp_seq ?_
              refine wp_reg ?_
              refine L_pure 2 [(0, .slice a1 x1.length c1), (3, pt p11 0), (4, .slice a15 v12.length c15), (5, I v13), (6, pt p13 0), (7, pt p14 0), (39, I x7.Kind), (40, .bool (x7.Kind == 1))] (by kernel_rfl) fun b => ?_
              refine wpL_nil ?_
              refine th_n ?_
              refine wp_cond_mkF (t := (x7.Kind == 1)) rfl (fun h => ?_) (fun h => ?_)
              · have hr := (if_pos h).symm.trans hr
                refine wp_seq ?_
                refine wp_reg ?_
                refine L_pure 2 [(0, .slice a1 x1.length c1), (3, pt p11 0), (4, .slice a15 v12.length c15), (5, I v13), (7, pt p14 0), (42, .slice a15 v12.length c15), (43, pt p14 0)] (by kernel_rfl) fun b => ?_
                refine L_op rfl (O_run (v := I y22.ID) (w' := w) (R_load hst rfl rfl) rfl rfl ?_)
                obtain ⟨y24, hy24, hr⟩ := bnd hr
                refine L_op rfl (O_call (vs := #[.slice a15 v12.length c15, I y22.ID]) Try.call18 (by kernel_rfl) (glacierref16_Find_ok k v12 y22.ID a15 c15 y24 (hst.pull 3) hy24 fun w hst => ?_))
                refine CK_ret rfl ?_
                refine L_pure 2 [(0, .slice a1 x1.length c1), (3, pt p11 0), (4, .slice a15 v12.length c15), (5, I v13), (7, pt p14 0), (8, .bool (decide (y24 ≥ 0)))] (by kernel_rfl) fun b => ?_
                refine wpL_nil ?_
                refine th_n ?_
                refine wp_seq ?_
                refine wp_seq ?_
                refine wp_reg ?_
                refine L_op rfl (O_run (v := .agg #[I y22.ID, .int .u64 y22.Blob, I y22.Vol, I y22.At]) (w' := w) (R_load (hst.pull 1) rfl rfl) rfl rfl ?_)
                obtain ⟨y25, hy25, hr⟩ := bnd hr
                refine L_op rfl (O_call (vs := #[pt p11 0, .agg #[I y22.ID, .int .u64 y22.Blob, I y22.Vol, I y22.At]]) Try.call14 (by kernel_rfl) (queue_Queue_Add_ok k (T_queue_Queue.mk v14) y22 p11 a16 c16 y25 ((hst.pull 4).pull 5) hy25 fun a20 c20 w hst => ?_))
                refine CK_ret rfl ?_
                refine L_pure 2 [(0, .slice a1 x1.length c1), (3, pt p11 0), (4, .slice a15 v12.length c15), (5, I v13), (7, pt p14 0), (8, .bool (decide (y24 ≥ 0))), (50, .bool (y25.1 == (decide (y24 ≥ 0))))] (by kernel_rfl) fun b => ?_
                refine wpL_nil ?_
                refine th_n ?_
                refine wp_cond_mkF (t := (y25.1 == (decide (y24 ≥ 0)))) rfl (fun h => ?_) (fun h => ?_)
                · have hr := (if_pos h).symm.trans hr
                  refine wp_seq ?_
                  refine wp_reg ?_
                  refine L_pure 1 [(2, .bool false)] (by kernel_rfl) fun b => ?_
                  refine wpL_nil ?_
                  refine th_n ?_
                  refine wp_ret ?_
                  refine th_r (ib_r (th_r (ib_r (th_r (th_r (ib_r (th_r (th_r ?_))))))))
                  refine ret1 rfl rfl ?_
                  obtain rfl := Option.some.inj hr
                  obtain rfl := Option.some.inj hk10
                  obtain rfl := Option.some.inj hk8
                  have hst := ((hst.pull 5).cut 1 5)
                  exact hR _ hst
                · have hr := (if_neg (by rw [h]; exact Bool.false_ne_true)).symm.trans hr
                  refine wp_skip ?_
                  refine th_n ?_
                  refine wp_seq ?_
                  refine wp_reg ?_
                  refine L_pure 2 [(0, .slice a1 x1.length c1), (3, pt p11 0), (4, .slice a15 v12.length c15), (5, I v13), (7, pt p14 0), (52, .bool (!(decide (y24 ≥ 0))))] (by kernel_rfl) fun b => ?_
                  refine wpL_nil ?_
                  refine th_n ?_
                  refine wp_cond_mkF (t := (!(decide (y24 ≥ 0)))) rfl (fun h => ?_) (fun h => ?_)
                  · have hr := (if_pos h).symm.trans hr
                    refine wp_regG (SQ (fun w => St G w (osl r_T_queue_waiting 70 a20 c20 y25.2 :: blk p11 (cl [.slice a20 y25.2.length c20] 30) :: osl r_T_glacierref16_Req 47 a15 c15 v12 :: blk p14 (cl [I y22.ID, .int .u64 y22.Blob, I y22.Vol, I y22.At] 25) :: blk p13 (cl [I x7.Kind, I x7.N, I x7.M, I x7.R.ID, .int .u64 x7.R.Blob, I x7.R.Vol, I x7.R.At] 44) :: dsl r_T_glacierlaw16_Act a1 c1 x1 :: F))) rfl ?_
                    have hst := hst.draw (n := w.drawn + 1)
                    generalize { w with drawn := w.drawn + 1 } = w at hst ⊢
                    refine Q_take (i := 1) (v := .slice a15 v12.length c15) rfl (by kernel_rfl) (fun _ _ _ h => h) rfl rfl rfl (fun _ _ => R_pure (by kernel_rfl)) ((((((hst.pull 5).pull 5).pull 5).pull 5).pull 5).pull 5) ?_
                    refine Q_take (i := 3) (v := pt p14 0) rfl (by kernel_rfl) (fun _ _ _ h => h) rfl rfl rfl (fun _ _ => R_pure (by kernel_rfl)) ((((((hst.pull 5).pull 5).pull 5).pull 5).pull 5).pull 5) ?_
                    refine Q_take (i := 4) (v := I y22.ID) rfl (by kernel_rfl) (fun _ _ _ h => h) rfl rfl rfl (fun w hst => R_load (hst.pull 3) rfl rfl) ((((((hst.pull 5).pull 5).pull 5).pull 5).pull 5).pull 5) ?_
                    refine Q_take (i := 5) (v := pt p14 1) rfl (by kernel_rfl) (fun _ _ _ h => h) rfl rfl rfl (fun _ _ => R_pure (by kernel_rfl)) ((((((hst.pull 5).pull 5).pull 5).pull 5).pull 5).pull 5) ?_
                    refine Q_take (i := 6) (v := .int .u64 y22.Blob) rfl (by kernel_rfl) (fun _ _ _ h => h) rfl rfl rfl (fun w hst => R_load (hst.pull 3) rfl rfl) ((((((hst.pull 5).pull 5).pull 5).pull 5).pull 5).pull 5) ?_
                    refine Q_take (i := 7) (v := pt p14 2) rfl (by kernel_rfl) (fun _ _ _ h => h) rfl rfl rfl (fun _ _ => R_pure (by kernel_rfl)) ((((((hst.pull 5).pull 5).pull 5).pull 5).pull 5).pull 5) ?_
                    refine Q_take (i := 8) (v := I y22.Vol) rfl (by kernel_rfl) (fun _ _ _ h => h) rfl rfl rfl (fun w hst => R_load (hst.pull 3) rfl rfl) ((((((hst.pull 5).pull 5).pull 5).pull 5).pull 5).pull 5) ?_
                    refine Q_take (i := 9) (v := pt p14 3) rfl (by kernel_rfl) (fun _ _ _ h => h) rfl rfl rfl (fun _ _ => R_pure (by kernel_rfl)) ((((((hst.pull 5).pull 5).pull 5).pull 5).pull 5).pull 5) ?_
                    refine Q_take (i := 10) (v := I y22.At) rfl (by kernel_rfl) (fun _ _ _ h => h) rfl rfl rfl (fun w hst => R_load (hst.pull 3) rfl rfl) ((((((hst.pull 5).pull 5).pull 5).pull 5).pull 5).pull 5) ?_
                    refine Q_take (i := 11) (v := .agg #[I y22.ID, .int .u64 y22.Blob, I y22.Vol, I y22.At, I 0]) rfl (by kernel_rfl) (fun _ _ _ h => h) rfl rfl rfl (fun _ _ => R_pure (by kernel_rfl)) ((((((hst.pull 5).pull 5).pull 5).pull 5).pull 5).pull 5) ?_
                    refine Q_two (i := 0) (j := 12) (by kernel_rfl) rfl rfl rfl rfl ?_ ?_
                    · refine O_bs (T := 47) [] #[] hst (by kernel_rfl) (by kernel_rfl) rfl fun p16 w hst => ?_
                      have hst := osl_of_blk0 (ecs := []) r_T_glacierref16_Req [] rfl (fun m => trivial) rfl hst
                      refine ⟨(((((((hst.pull 6).pull 6).pull 6).pull 6).pull 6).pull 6).cut 6 1), ?_⟩
                      refine Q_two (i := 2) (j := 12) (by kernel_rfl) rfl rfl rfl rfl ?_ ?_
                      · obtain ⟨hb3, hr⟩ := chk hr
                        refine O_app_o L42 ((hst.pull 3).pull 1) rfl rfl hb3 rfl fun a21 c21 w hst => ?_
                        refine ⟨(((((((hst.pull 6).pull 6).pull 6).pull 4).pull 6).pull 6).cut 6 1), ?_⟩
                        refine Q_one (i := 12) (by kernel_rfl) rfl rfl (O_bs (T := 47) [I y22.ID, .int .u64 y22.Blob, I y22.Vol, I y22.At, I 0] #[(0, .agg #[I y22.ID, .int .u64 y22.Blob, I y22.Vol, I y22.At, I 0])] hst (by kernel_rfl) (by kernel_rfl) rfl fun p17 w hst => ?_)
                        have hst := osl_of_blk0 (ecs := [[I y22.ID, .int .u64 y22.Blob, I y22.Vol, I y22.At, I 0]]) r_T_glacierref16_Req [(T_glacierref16_Req.mk y22.ID y22.Blob y22.Vol y22.At 0)] rfl (fun m => ⟨⟨(), rfl, trivial⟩, trivial⟩) rfl hst
                        refine ⟨(((((((hst.pull 7).pull 7).pull 7).pull 5).pull 7).pull 7).cut 6 2), ?_⟩
                        obtain ⟨hb4, hr⟩ := chk hr
                        refine Q_one (i := 13) (by kernel_rfl) rfl rfl (O_app_o L42 (hst.pull 1) rfl rfl hb4 rfl fun a22 c22 w hst => ?_)
                        refine ⟨(((((((hst.pull 7).pull 7).pull 7).pull 5).pull 7).pull 7).cut 6 2), ?_⟩
                        refine Q_take (i := 14) (v := .slice a22 (([] ++ v12) ++ ([(T_glacierref16_Req.mk y22.ID y22.Blob y22.Vol y22.At 0)])).length c22) rfl (by kernel_rfl) (fun _ _ _ h => h) rfl rfl rfl (fun _ _ => R_pure (by kernel_rfl)) (((((((hst.pull 7).pull 7).pull 7).pull 5).pull 7).pull 7).cut 6 2) ?_
                        refine wpG_done (by kernel_rfl) ?_ _
                        refine C_keepQ [(0, .slice a1 x1.length c1), (3, pt p11 0), (4, .slice a22 (([] ++ v12) ++ ([(T_glacierref16_Req.mk y22.ID y22.Blob y22.Vol y22.At 0)])).length c22), (5, I v13)] rfl fun b => ?_
                        refine ib_n (th_n ?_)
                        obtain rfl := Option.some.inj hr
                        have hst := (((((((hst.pull 7).pull 7).pull 7).pull 7).pull 7).pull 5).cut 6 2)
                        exact ⟨((([] ++ v12) ++ ([(T_glacierref16_Req.mk y22.ID y22.Blob y22.Vol y22.At 0)])), y25.2), a22, c22, a20, c20, (kpXf [(0, .slice a1 x1.length c1), (3, pt p11 0), (4, .slice a22 (([] ++ v12) ++ ([(T_glacierref16_Req.mk y22.ID y22.Blob y22.Vol y22.At 0)])).length c22), (5, I v13)] rfl hst)⟩
                      · refine O_bs (T := 47) [I y22.ID, .int .u64 y22.Blob, I y22.Vol, I y22.At, I 0] #[(0, .agg #[I y22.ID, .int .u64 y22.Blob, I y22.Vol, I y22.At, I 0])] hst (by kernel_rfl) (by kernel_rfl) rfl fun p17 w hst => ?_
                        have hst := osl_of_blk0 (ecs := [[I y22.ID, .int .u64 y22.Blob, I y22.Vol, I y22.At, I 0]]) r_T_glacierref16_Req [(T_glacierref16_Req.mk y22.ID y22.Blob y22.Vol y22.At 0)] rfl (fun m => ⟨⟨(), rfl, trivial⟩, trivial⟩) rfl hst
                        refine ⟨(((((((hst.pull 7).pull 7).pull 7).pull 7).pull 7).pull 7).cut 6 2), ?_⟩
                        obtain ⟨hb3, hr⟩ := chk hr
                        refine Q_one (i := 2) (by kernel_rfl) rfl rfl (O_app_o L42 ((hst.pull 4).pull 2) rfl rfl hb3 rfl fun a21 c21 w hst => ?_)
                        refine ⟨(((((((hst.pull 7).pull 7).pull 7).pull 4).pull 7).pull 7).cut 6 2), ?_⟩
                        obtain ⟨hb4, hr⟩ := chk hr
                        refine Q_one (i := 13) (by kernel_rfl) rfl rfl (O_app_o L42 ((hst.pull 2).pull 1) rfl rfl hb4 rfl fun a22 c22 w hst => ?_)
                        refine ⟨(((((((hst.pull 7).pull 7).pull 7).pull 5).pull 7).pull 7).cut 6 2), ?_⟩
                        refine Q_take (i := 14) (v := .slice a22 (([] ++ v12) ++ ([(T_glacierref16_Req.mk y22.ID y22.Blob y22.Vol y22.At 0)])).length c22) rfl (by kernel_rfl) (fun _ _ _ h => h) rfl rfl rfl (fun _ _ => R_pure (by kernel_rfl)) (((((((hst.pull 7).pull 7).pull 7).pull 5).pull 7).pull 7).cut 6 2) ?_
                        refine wpG_done (by kernel_rfl) ?_ _
                        refine C_keepQ [(0, .slice a1 x1.length c1), (3, pt p11 0), (4, .slice a22 (([] ++ v12) ++ ([(T_glacierref16_Req.mk y22.ID y22.Blob y22.Vol y22.At 0)])).length c22), (5, I v13)] rfl fun b => ?_
                        refine ib_n (th_n ?_)
                        obtain rfl := Option.some.inj hr
                        have hst := (((((((hst.pull 7).pull 7).pull 7).pull 7).pull 7).pull 5).cut 6 2)
                        exact ⟨((([] ++ v12) ++ ([(T_glacierref16_Req.mk y22.ID y22.Blob y22.Vol y22.At 0)])), y25.2), a22, c22, a20, c20, (kpXf [(0, .slice a1 x1.length c1), (3, pt p11 0), (4, .slice a22 (([] ++ v12) ++ ([(T_glacierref16_Req.mk y22.ID y22.Blob y22.Vol y22.At 0)])).length c22), (5, I v13)] rfl hst)⟩
                    · refine O_bs (T := 47) [I y22.ID, .int .u64 y22.Blob, I y22.Vol, I y22.At, I 0] #[(0, .agg #[I y22.ID, .int .u64 y22.Blob, I y22.Vol, I y22.At, I 0])] hst (by kernel_rfl) (by kernel_rfl) rfl fun p16 w hst => ?_
                      have hst := osl_of_blk0 (ecs := [[I y22.ID, .int .u64 y22.Blob, I y22.Vol, I y22.At, I 0]]) r_T_glacierref16_Req [(T_glacierref16_Req.mk y22.ID y22.Blob y22.Vol y22.At 0)] rfl (fun m => ⟨⟨(), rfl, trivial⟩, trivial⟩) rfl hst
                      refine ⟨(((((((hst.pull 6).pull 6).pull 6).pull 6).pull 6).pull 6).cut 6 1), ?_⟩
                      refine Q_one (i := 0) (by kernel_rfl) rfl rfl (O_bs (T := 47) [] #[] hst (by kernel_rfl) (by kernel_rfl) rfl fun p17 w hst => ?_)
                      have hst := osl_of_blk0 (ecs := []) r_T_glacierref16_Req [] rfl (fun m => trivial) rfl hst
                      refine ⟨(((((((hst.pull 7).pull 7).pull 7).pull 7).pull 7).pull 7).cut 6 2), ?_⟩
                      obtain ⟨hb3, hr⟩ := chk hr
                      refine Q_one (i := 2) (by kernel_rfl) rfl rfl (O_app_o L42 ((hst.pull 4).pull 1) rfl rfl hb3 rfl fun a21 c21 w hst => ?_)
                      refine ⟨(((((((hst.pull 7).pull 7).pull 7).pull 4).pull 7).pull 7).cut 6 2), ?_⟩
                      obtain ⟨hb4, hr⟩ := chk hr
                      refine Q_one (i := 13) (by kernel_rfl) rfl rfl (O_app_o L42 ((hst.pull 2).pull 1) rfl rfl hb4 rfl fun a22 c22 w hst => ?_)
                      refine ⟨(((((((hst.pull 7).pull 7).pull 7).pull 5).pull 7).pull 7).cut 6 2), ?_⟩
                      refine Q_take (i := 14) (v := .slice a22 (([] ++ v12) ++ ([(T_glacierref16_Req.mk y22.ID y22.Blob y22.Vol y22.At 0)])).length c22) rfl (by kernel_rfl) (fun _ _ _ h => h) rfl rfl rfl (fun _ _ => R_pure (by kernel_rfl)) (((((((hst.pull 7).pull 7).pull 7).pull 5).pull 7).pull 7).cut 6 2) ?_
                      refine wpG_done (by kernel_rfl) ?_ _
                      refine C_keepQ [(0, .slice a1 x1.length c1), (3, pt p11 0), (4, .slice a22 (([] ++ v12) ++ ([(T_glacierref16_Req.mk y22.ID y22.Blob y22.Vol y22.At 0)])).length c22), (5, I v13)] rfl fun b => ?_
                      refine ib_n (th_n ?_)
                      obtain rfl := Option.some.inj hr
                      have hst := (((((((hst.pull 7).pull 7).pull 7).pull 7).pull 7).pull 5).cut 6 2)
                      exact ⟨((([] ++ v12) ++ ([(T_glacierref16_Req.mk y22.ID y22.Blob y22.Vol y22.At 0)])), y25.2), a22, c22, a20, c20, (kpXf [(0, .slice a1 x1.length c1), (3, pt p11 0), (4, .slice a22 (([] ++ v12) ++ ([(T_glacierref16_Req.mk y22.ID y22.Blob y22.Vol y22.At 0)])).length c22), (5, I v13)] rfl hst)⟩
                  · have hr := (if_neg (by rw [h]; exact Bool.false_ne_true)).symm.trans hr
                    refine wp_skip ?_
                    refine ib_n (th_n ?_)
                    obtain rfl := Option.some.inj hr
                    have hst := ((((((hst.pull 5).pull 5).pull 5).pull 4).pull 4).pull 5)
                    exact ⟨(v12, y25.2), a15, c15, a20, c20, (kpXf [(0, .slice a1 x1.length c1), (3, pt p11 0), (4, .slice a15 v12.length c15), (5, I v13)] rfl hst)⟩
              · have hr := (if_neg (by rw [h]; exact Bool.false_ne_true)).symm.trans hr
                refine wp_seq ?_
                refine wp_reg ?_
                refine L_pure 2 [(0, .slice a1 x1.length c1), (3, pt p11 0), (4, .slice a15 v12.length c15), (5, I v13), (6, pt p13 0), (39, I x7.Kind), (67, .bool (x7.Kind == 2))] (by kernel_rfl) fun b => ?_
                refine wpL_nil ?_
                refine th_n ?_
                refine wp_cond_mkF (t := (x7.Kind == 2)) rfl (fun h => ?_) (fun h => ?_)
                · have hr := (if_pos h).symm.trans hr
                  refine wp_seq ?_
                  refine wp_reg ?_
                  refine L_pure 2 [(0, .slice a1 x1.length c1), (3, pt p11 0), (4, .slice a15 v12.length c15), (5, I v13), (6, pt p13 0), (69, .slice a15 v12.length c15), (70, pt p13 1)] (by kernel_rfl) fun b => ?_
                  refine L_op rfl (O_run (v := I x7.N) (w' := w) (R_load (hst.pull 1) rfl rfl) rfl rfl ?_)
                  obtain ⟨y26, hy26, hr⟩ := bnd hr
                  refine L_op rfl (O_call (vs := #[.slice a15 v12.length c15, I x7.N]) Try.call18 (by kernel_rfl) (glacierref16_Find_ok k v12 x7.N a15 c15 y26 (hst.pull 3) hy26 fun w hst => ?_))
                  refine CK_ret rfl ?_
                  refine L_pure 1 [(0, .slice a1 x1.length c1), (3, pt p11 0), (4, .slice a15 v12.length c15), (5, I v13), (6, pt p13 0), (9, I y26)] (by kernel_rfl) fun b => ?_
                  refine wpL_nil ?_
                  refine th_n ?_
                  refine wp_seq ?_
                  refine wp_seq ?_
                  refine wp_reg ?_
                  refine L_pure 1 [(0, .slice a1 x1.length c1), (3, pt p11 0), (4, .slice a15 v12.length c15), (5, I v13), (9, I y26), (73, pt p13 1)] (by kernel_rfl) fun b => ?_
                  refine L_op rfl (O_run (v := I x7.N) (w' := w) (R_load (hst.pull 2) rfl rfl) rfl rfl ?_)
                  obtain ⟨y27, hy27, hr⟩ := bnd hr
                  refine L_op rfl (O_call (vs := #[pt p11 0, I x7.N]) Try.call17 (by kernel_rfl) (queue_Queue_Drop_ok k (T_queue_Queue.mk v14) x7.N p11 a16 c16 y27 ((hst.pull 4).pull 5) hy27 fun a23 c23 w hst => ?_))
                  refine CK_ret rfl ?_
                  refine L_pure 3 [(0, .slice a1 x1.length c1), (3, pt p11 0), (4, .slice a15 v12.length c15), (5, I v13), (9, I y26), (78, .bool (y27.1 != (decide (y26 ≥ 0))))] (by kernel_rfl) fun b => ?_
                  refine wpL_nil ?_
                  refine th_n ?_
                  refine wp_cond_mkF (t := (y27.1 != (decide (y26 ≥ 0)))) rfl (fun h => ?_) (fun h => ?_)
                  · have hr := (if_pos h).symm.trans hr
                    refine wp_seq ?_
                    refine wp_reg ?_
                    refine L_pure 1 [(2, .bool false)] (by kernel_rfl) fun b => ?_
                    refine wpL_nil ?_
                    refine th_n ?_
                    refine wp_ret ?_
                    refine th_r (ib_r (th_r (ib_r (th_r (th_r (ib_r (th_r (th_r ?_))))))))
                    refine ret1 rfl rfl ?_
                    obtain rfl := Option.some.inj hr
                    obtain rfl := Option.some.inj hk10
                    obtain rfl := Option.some.inj hk8
                    have hst := ((hst.pull 5).cut 1 5)
                    exact hR _ hst
                  · have hr := (if_neg (by rw [h]; exact Bool.false_ne_true)).symm.trans hr
                    refine wp_skip ?_
                    refine th_n ?_
                    refine wp_seq ?_
                    refine wp_reg ?_
                    refine L_pure 2 [(0, .slice a1 x1.length c1), (3, pt p11 0), (4, .slice a15 v12.length c15), (5, I v13), (9, I y26), (80, .bool (decide (y26 ≥ 0)))] (by kernel_rfl) fun b => ?_
                    refine wpL_nil ?_
                    refine th_n ?_
                    refine wp_cond_mkF (t := decide (y26 ≥ 0)) rfl (fun h => ?_) (fun h => ?_)
                    · have hr := (if_pos h).symm.trans hr
                      refine wp_reg ?_
                      refine L_pure 2 [(0, .slice a1 x1.length c1), (3, pt p11 0), (5, I v13), (81, .slice a15 v12.length c15), (82, I y26)] (by kernel_rfl) fun b => ?_
                      obtain ⟨y28, hy28, hr⟩ := bnd hr
                      refine L_op rfl (O_call (vs := #[.slice a15 v12.length c15, I y26]) Try.call19 (by kernel_rfl) (glacierref16_Without_ok k v12 y26 a15 c15 y28 (hst.pull 2) hy28 fun a24 c24 w hst => ?_))
                      refine CK_ret rfl ?_
                      refine L_pure 1 [(0, .slice a1 x1.length c1), (3, pt p11 0), (4, .slice a24 y28.length c24), (5, I v13)] (by kernel_rfl) fun b => ?_
                      refine wpL_nil ?_
                      refine ib_n (th_n ?_)
                      obtain rfl := Option.some.inj hr
                      have hst := (((((((hst.pull 6).pull 6).pull 6).pull 6).pull 6).pull 5).cut 6 1)
                      exact ⟨(y28, y27.2), a24, c24, a23, c23, (kpXf [(0, .slice a1 x1.length c1), (3, pt p11 0), (4, .slice a24 y28.length c24), (5, I v13)] rfl hst)⟩
                    · have hr := (if_neg (by rw [h]; exact Bool.false_ne_true)).symm.trans hr
                      refine wp_skip ?_
                      refine ib_n (th_n ?_)
                      obtain rfl := Option.some.inj hr
                      have hst := ((((((hst.pull 5).pull 5).pull 5).pull 4).pull 4).pull 5)
                      exact ⟨(v12, y27.2), a15, c15, a23, c23, (kpXf [(0, .slice a1 x1.length c1), (3, pt p11 0), (4, .slice a15 v12.length c15), (5, I v13)] rfl hst)⟩
                · have hr := (if_neg (by rw [h]; exact Bool.false_ne_true)).symm.trans hr
                  refine wp_seq ?_
                  refine wp_reg ?_
                  refine L_pure 2 [(0, .slice a1 x1.length c1), (3, pt p11 0), (4, .slice a15 v12.length c15), (5, I v13), (6, pt p13 0), (84, .bool (x7.Kind == 3))] (by kernel_rfl) fun b => ?_
                  refine wpL_nil ?_
                  refine th_n ?_
                  refine wp_cond_mkF (t := (x7.Kind == 3)) rfl (fun h => ?_) (fun h => ?_)
                  · have hr := (if_pos h).symm.trans hr
                    refine wp_seq ?_
                    refine wp_reg ?_
                    refine L_pure 1 [(0, .slice a1 x1.length c1), (3, pt p11 0), (4, .slice a15 v12.length c15), (5, I v13), (6, pt p13 0), (86, pt p13 2)] (by kernel_rfl) fun b => ?_
                    refine L_op rfl (O_run (v := I x7.M) (w' := w) (R_load (hst.pull 1) rfl rfl) rfl rfl ?_)
                    refine L_pure 3 [(0, .slice a1 x1.length c1), (3, pt p11 0), (4, .slice a15 v12.length c15), (5, I v13), (6, pt p13 0), (10, I (mn2 (mx2 x7.M 0) 1000000000))] (by kernel_rfl) fun b => ?_
                    refine wpL_nil ?_
                    refine th_n ?_
                    refine wp_seq ?_
                    refine wp_reg ?_
                    refine L_pure 1 [(0, .slice a1 x1.length c1), (3, pt p11 0), (4, .slice a15 v12.length c15), (5, I v13), (6, pt p13 0), (10, I (mn2 (mx2 x7.M 0) 1000000000)), (91, pt p13 1)] (by kernel_rfl) fun b => ?_
                    refine L_op rfl (O_run (v := I x7.N) (w' := w) (R_load (hst.pull 1) rfl rfl) rfl rfl ?_)
                    refine L_pure 1 [(0, .slice a1 x1.length c1), (3, pt p11 0), (4, .slice a15 v12.length c15), (5, I v13), (6, pt p13 0), (10, I (mn2 (mx2 x7.M 0) 1000000000)), (92, I x7.N), (93, I (mn2 (mx2 x7.M 0) 1000000000))] (by kernel_rfl) fun b => ?_
                    obtain ⟨y29, hy29, hr⟩ := bnd hr
                    refine L_op rfl (O_call (vs := #[pt p11 0, I x7.N, I (mn2 (mx2 x7.M 0) 1000000000)]) Try.call16 (by kernel_rfl) (queue_Queue_Next_ok k (T_queue_Queue.mk v14) x7.N (mn2 (mx2 x7.M 0) 1000000000) p11 a16 c16 y29 ((hst.pull 4).pull 5) hy29 fun a25 c25 w hst => ?_))
                    refine CK_ret rfl ?_
                    refine L_pure 3 [(0, .slice a1 x1.length c1), (3, pt p11 0), (4, .slice a15 v12.length c15), (5, I v13), (6, pt p13 0), (10, I (mn2 (mx2 x7.M 0) 1000000000)), (95, .agg #[I y29.1.ID, .int .u64 y29.1.Blob, I y29.1.Vol, I y29.1.At]), (96, .bool y29.2.1)] (by kernel_rfl) fun b => ?_
                    refine L_op rfl (O_alloc (i := Try.t25) (z := .agg #[I 0, .int .u64 0, I 0, I 0]) [I 0, .int .u64 0, I 0, I 0] hst rfl rfl rfl rfl fun p18 w hst => ?_)
                    refine L_op rfl (O_store [I y29.1.ID, .int .u64 y29.1.Blob, I y29.1.Vol, I y29.1.At] hst rfl rfl (by kernel_rfl) fun w hst => ?_)
                    refine L_pure 1 [(0, .slice a1 x1.length c1), (3, pt p11 0), (4, .slice a15 v12.length c15), (5, I v13), (6, pt p13 0), (10, I (mn2 (mx2 x7.M 0) 1000000000)), (11, pt p18 0), (12, .bool y29.2.1)] (by kernel_rfl) fun b => ?_
                    refine wpL_nil ?_
                    refine th_n ?_
                    refine wp_seq ?_
                    refine wp_seq ?_
                    refine wp_reg ?_
                    refine L_pure 5 [(0, .slice a1 x1.length c1), (3, pt p11 0), (4, .slice a15 v12.length c15), (5, I v13), (6, pt p13 0), (10, I (mn2 (mx2 x7.M 0) 1000000000)), (11, pt p18 0), (12, .bool y29.2.1), (101, .bool (y29.2.1 != (decide ((v12.length : Int) > 0))))] (by kernel_rfl) fun b => ?_
                    refine wpL_nil ?_
                    refine th_n ?_
                    refine wp_cond_mkF (t := (y29.2.1 != (decide ((v12.length : Int) > 0)))) rfl (fun h => ?_) (fun h => ?_)
                    · have hr := (if_pos h).symm.trans hr
                      refine wp_seq ?_
                      refine wp_reg ?_
                      refine L_pure 1 [(2, .bool false)] (by kernel_rfl) fun b => ?_
                      refine wpL_nil ?_
                      refine th_n ?_
                      refine wp_ret ?_
                      refine th_r (ib_r (th_r (ib_r (th_r (th_r (ib_r (th_r (th_r ?_))))))))
                      refine ret1 rfl rfl ?_
                      obtain rfl := Option.some.inj hr
                      obtain rfl := Option.some.inj hk10
                      obtain rfl := Option.some.inj hk8
                      have hst := ((hst.pull 5).cut 1 6)
                      exact hR _ hst
                    · have hr := (if_neg (by rw [h]; exact Bool.false_ne_true)).symm.trans hr
                      refine wp_skip ?_
                      refine th_n ?_
                      refine wp_seq ?_
                      refine wp_reg ?_
                      refine L_pure 1 [(0, .slice a1 x1.length c1), (3, pt p11 0), (4, .slice a15 v12.length c15), (5, I v13), (6, pt p13 0), (10, I (mn2 (mx2 x7.M 0) 1000000000)), (11, pt p18 0), (102, .bool y29.2.1)] (by kernel_rfl) fun b => ?_
                      refine wpL_nil ?_
                      refine th_n ?_
                      refine wp_cond_mkF (t := y29.2.1) rfl (fun h => ?_) (fun h => ?_)
                      · have hr := (if_pos h).symm.trans hr
                        refine wp_seq ?_
                        refine wp_reg ?_
                        refine L_pure 2 [(0, .slice a1 x1.length c1), (3, pt p11 0), (5, I v13), (10, I (mn2 (mx2 x7.M 0) 1000000000)), (11, pt p18 0), (104, .slice a15 v12.length c15), (105, pt p13 1)] (by kernel_rfl) fun b => ?_
                        refine L_op rfl (O_run (v := I x7.N) (w' := w) (R_load (hst.pull 4) rfl rfl) rfl rfl ?_)
                        refine L_pure 1 [(0, .slice a1 x1.length c1), (3, pt p11 0), (5, I v13), (11, pt p18 0), (104, .slice a15 v12.length c15), (106, I x7.N), (107, I (mn2 (mx2 x7.M 0) 1000000000))] (by kernel_rfl) fun b => ?_
                        obtain ⟨y30, hy30, hr⟩ := bnd hr
                        refine L_op rfl (O_call (vs := #[.slice a15 v12.length c15, I x7.N, I (mn2 (mx2 x7.M 0) 1000000000)]) Try.call20 (by kernel_rfl) (glacierref16_Next_ok k v12 x7.N (mn2 (mx2 x7.M 0) 1000000000) a15 c15 y30 (hst.pull 6) hy30 fun a26 c26 w hst => ?_))
                        refine CK_ret rfl ?_
                        refine L_pure 3 [(0, .slice a1 x1.length c1), (3, pt p11 0), (5, I v13), (11, pt p18 0), (109, .slice a26 y30.1.length c26), (110, .agg #[I y30.2.ID, .int .u64 y30.2.Blob, I y30.2.Vol, I y30.2.At, I y30.2.Passed])] (by kernel_rfl) fun b => ?_
                        refine L_op rfl (O_alloc (i := Try.t47) (z := .agg #[I 0, .int .u64 0, I 0, I 0, I 0]) [I 0, .int .u64 0, I 0, I 0, I 0] hst rfl rfl rfl rfl fun p19 w hst => ?_)
                        refine L_pure 1 [(0, .slice a1 x1.length c1), (3, pt p11 0), (5, I v13), (11, pt p18 0), (13, .slice a26 y30.1.length c26), (14, pt p19 0), (110, .agg #[I y30.2.ID, .int .u64 y30.2.Blob, I y30.2.Vol, I y30.2.At, I y30.2.Passed])] (by kernel_rfl) fun b => ?_
                        refine L_op rfl (O_store [I y30.2.ID, .int .u64 y30.2.Blob, I y30.2.Vol, I y30.2.At, I y30.2.Passed] hst rfl rfl (by kernel_rfl) fun w hst => ?_)
                        refine wpL_nil ?_
                        refine th_n ?_
                        refine wp_seq ?_
                        refine wp_reg ?_
                        refine L_pure 2 [(0, .slice a1 x1.length c1), (3, pt p11 0), (4, .slice a26 y30.1.length c26), (5, I v13), (11, pt p18 0), (14, pt p19 0)] (by kernel_rfl) fun b => ?_
                        refine wpL_nil ?_
                        refine th_n ?_
                        obtain ⟨y31, hy31, hk11⟩ := bnd hr
                        clear hr
                        refine wp_seq_cut (fun a w => ∃ (b : Nat → Value), a = mkF 172 b [(0, .slice a1 x1.length c1), (3, pt p11 0), (4, .slice a26 y30.1.length c26), (5, I v13), (123, .bool y31)] ∧ St G w (blk p19 (cl [I y30.2.ID, .int .u64 y30.2.Blob, I y30.2.Vol, I y30.2.At, I y30.2.Passed] 47) :: osl r_T_glacierref16_Req 47 a26 c26 y30.1 :: osl r_T_glacierref16_Req 47 a15 c15 v12 :: blk p18 (cl [I y29.1.ID, .int .u64 y29.1.Blob, I y29.1.Vol, I y29.1.At] 25) :: osl r_T_queue_waiting 70 a25 c25 y29.2.2 :: blk p11 (cl [.slice a25 y29.2.2.length c25] 30) :: blk p14 (cl [I y22.ID, .int .u64 y22.Blob, I y22.Vol, I y22.At] 25) :: blk p13 (cl [I x7.Kind, I x7.N, I x7.M, I x7.R.ID, .int .u64 x7.R.Blob, I x7.R.Vol, I x7.R.At] 44) :: dsl r_T_glacierlaw16_Act a1 c1 x1 :: F)) ?_ ?_
                        · rintro _ w ⟨b, rfl, hst⟩
                          have hr := hk11
                          refine wp_cond_mkF (t := y31) rfl (fun h => ?_) (fun h => ?_)
                          · have hr := (if_pos h).symm.trans hr
                            refine wp_seq ?_
                            refine wp_reg ?_
                            refine L_pure 1 [(2, .bool false)] (by kernel_rfl) fun b => ?_
                            refine wpL_nil ?_
                            refine th_n ?_
                            refine wp_ret ?_
                            refine ib_r (th_r (ib_r (th_r (th_r (ib_r (th_r (th_r ?_)))))))
                            refine ret1 rfl rfl ?_
                            obtain rfl := Option.some.inj hr
                            obtain rfl := Option.some.inj hk10
                            obtain rfl := Option.some.inj hk8
                            have hst := ((hst.pull 8).cut 1 8)
                            exact hR _ hst
                          · have hr := (if_neg (by rw [h]; exact Bool.false_ne_true)).symm.trans hr
                            refine wp_skip ?_
                            refine ib_n (th_n ?_)
                            obtain rfl := Option.some.inj hr
                            have hst := (((((((hst.pull 8).pull 8).pull 8).pull 8).pull 8).pull 6).cut 6 3)
                            exact ⟨(y30.1, y29.2.2), a26, c26, a25, c25, (kpXf [(0, .slice a1 x1.length c1), (3, pt p11 0), (4, .slice a26 y30.1.length c26), (5, I v13)] rfl hst)⟩
                        · have hr := hy31
                          refine wp_reg ?_
                          refine L_pure 1 [(0, .slice a1 x1.length c1), (3, pt p11 0), (4, .slice a26 y30.1.length c26), (5, I v13), (11, pt p18 0), (14, pt p19 0), (112, pt p18 0)] (by kernel_rfl) fun b => ?_
                          refine L_op rfl (O_run (v := I y29.1.ID) (w' := w) (R_load (hst.pull 3) rfl rfl) rfl rfl ?_)
                          refine L_pure 1 [(0, .slice a1 x1.length c1), (3, pt p11 0), (4, .slice a26 y30.1.length c26), (5, I v13), (11, pt p18 0), (14, pt p19 0), (113, I y29.1.ID), (114, pt p19 0)] (by kernel_rfl) fun b => ?_
                          refine L_op rfl (O_run (v := I y30.2.ID) (w' := w) (R_load hst rfl rfl) rfl rfl ?_)
                          refine L_pure 2 [(0, .slice a1 x1.length c1), (3, pt p11 0), (4, .slice a26 y30.1.length c26), (5, I v13), (11, pt p18 0), (14, pt p19 0), (117, .bool (y29.1.ID != y30.2.ID))] (by kernel_rfl) fun b => ?_
                          by_cases h : (y29.1.ID != y30.2.ID) = true
                          · have hr := (if_pos h).symm.trans hr
                            refine L_keep ((117, .bool (y29.1.ID != y30.2.ID)) :: [(0, .slice a1 x1.length c1), (3, pt p11 0), (4, .slice a26 y30.1.length c26), (5, I v13), (11, pt p18 0), (14, pt p19 0)]) rfl fun b => ?_
                            refine L_bool h ?_
                            refine L_pure 6 [(0, .slice a1 x1.length c1), (3, pt p11 0), (4, .slice a26 y30.1.length c26), (5, I v13), (123, .bool true)] (by kernel_rfl) fun b => ?_
                            refine wpL_nil ?_
                            refine th_n ?_
                            obtain rfl := Option.some.inj hr
                            have hst := (((((((((hst.pull 8).pull 8).pull 8).pull 8).pull 8).pull 8).pull 8).pull 8).pull 8)
                            exact (kpX [(0, .slice a1 x1.length c1), (3, pt p11 0), (4, .slice a26 y30.1.length c26), (5, I v13), (123, .bool true)] rfl hst)
                          · have hr := (if_neg h).symm.trans hr
                            refine L_keep ((117, .bool (y29.1.ID != y30.2.ID)) :: [(0, .slice a1 x1.length c1), (3, pt p11 0), (4, .slice a26 y30.1.length c26), (5, I v13), (11, pt p18 0), (14, pt p19 0)]) rfl fun b => ?_
                            refine L_bool (eq_false_of_ne_true h) ?_
                            refine L_pure 1 [(0, .slice a1 x1.length c1), (3, pt p11 0), (4, .slice a26 y30.1.length c26), (5, I v13), (14, pt p19 0), (117, .bool false), (118, pt p18 1)] (by kernel_rfl) fun b => ?_
                            refine L_op rfl (O_run (v := .int .u64 y29.1.Blob) (w' := w) (R_load (hst.pull 3) rfl rfl) rfl rfl ?_)
                            refine L_pure 1 [(0, .slice a1 x1.length c1), (3, pt p11 0), (4, .slice a26 y30.1.length c26), (5, I v13), (117, .bool false), (119, .int .u64 y29.1.Blob), (120, pt p19 1)] (by kernel_rfl) fun b => ?_
                            refine L_op rfl (O_run (v := .int .u64 y30.2.Blob) (w' := w) (R_load hst rfl rfl) rfl rfl ?_)
                            refine L_pure 2 [(0, .slice a1 x1.length c1), (3, pt p11 0), (4, .slice a26 y30.1.length c26), (5, I v13), (123, .bool (y29.1.Blob != y30.2.Blob))] (by kernel_rfl) fun b => ?_
                            refine wpL_nil ?_
                            refine th_n ?_
                            obtain rfl := Option.some.inj hr
                            have hst := (((((((((hst.pull 8).pull 8).pull 8).pull 8).pull 8).pull 8).pull 8).pull 8).pull 8)
                            exact (kpX [(0, .slice a1 x1.length c1), (3, pt p11 0), (4, .slice a26 y30.1.length c26), (5, I v13), (123, .bool (y29.1.Blob != y30.2.Blob))] rfl hst)
                      · have hr := (if_neg (by rw [h]; exact Bool.false_ne_true)).symm.trans hr
                        refine wp_skip ?_
                        refine ib_n (th_n ?_)
                        obtain rfl := Option.some.inj hr
                        have hst := (((((((hst.pull 5).pull 5).pull 5).pull 5).pull 5).pull 6).cut 6 1)
                        exact ⟨(v12, y29.2.2), a15, c15, a25, c25, (kpXf [(0, .slice a1 x1.length c1), (3, pt p11 0), (4, .slice a15 v12.length c15), (5, I v13)] rfl hst)⟩
                  · have hr := (if_neg (by rw [h]; exact Bool.false_ne_true)).symm.trans hr
                    refine wp_skip ?_
                    refine ib_n (th_n ?_)
                    obtain rfl := Option.some.inj hr
                    have hst := ((((((hst.pull 2).pull 2).pull 2).pull 5).pull 5).pull 5)
                    exact ⟨(v12, v14), a15, c15, a16, c16, (kpXf [(0, .slice a1 x1.length c1), (3, pt p11 0), (4, .slice a15 v12.length c15), (5, I v13)] rfl hst)⟩
          · have hr := (if_neg (by rw [h]; exact Bool.false_ne_true)).symm.trans hr
            refine wp_exit ?_
            refine th_x (th_x (ib_x (th_n ?_)))
            obtain rfl := Option.some.inj hr
            have hst := ((((hst.pull 3).pull 3).pull 3).cut 3 1)
            exact ⟨(v14), a16, c16, (kpXf [] rfl hst)⟩
        · have hr := hy21
          refine wp_reg ?_
          refine L_pure 5 [(0, .slice a1 x1.length c1), (3, pt p11 0), (4, .slice a15 v12.length c15), (5, I v13), (25, .bool (decide (v13 < (x1.length : Int))))] (by kernel_rfl) fun b => ?_
          by_cases h : (decide (v13 < (x1.length : Int))) = true
          · have hr := (if_pos h).symm.trans hr
            refine L_keep ((25, .bool (decide (v13 < (x1.length : Int)))) :: [(0, .slice a1 x1.length c1), (3, pt p11 0), (4, .slice a15 v12.length c15), (5, I v13)]) rfl fun b => ?_
            refine L_bool h ?_
            refine L_pure 3 [(0, .slice a1 x1.length c1), (3, pt p11 0), (4, .slice a15 v12.length c15), (5, I v13), (28, .bool (decide (v13 < 40)))] (by kernel_rfl) fun b => ?_
            refine wpL_nil ?_
            refine th_n ?_
            obtain rfl := Option.some.inj hr
            have hst := ((((hst.pull 3).pull 3).pull 3).pull 3)
            exact (kpX [(0, .slice a1 x1.length c1), (3, pt p11 0), (4, .slice a15 v12.length c15), (5, I v13), (28, .bool (decide (v13 < 40)))] rfl hst)
          · have hr := (if_neg h).symm.trans hr
            refine L_keep ((25, .bool (decide (v13 < (x1.length : Int)))) :: [(0, .slice a1 x1.length c1), (3, pt p11 0), (4, .slice a15 v12.length c15), (5, I v13)]) rfl fun b => ?_
            refine L_bool (eq_false_of_ne_true h) ?_
            refine L_pure 3 [(0, .slice a1 x1.length c1), (3, pt p11 0), (4, .slice a15 v12.length c15), (5, I v13), (28, .bool false)] (by kernel_rfl) fun b => ?_
            refine wpL_nil ?_
            refine th_n ?_
            obtain rfl := Option.some.inj hr
            have hst := ((((hst.pull 3).pull 3).pull 3).pull 3)
            exact (kpX [(0, .slice a1 x1.length c1), (3, pt p11 0), (4, .slice a15 v12.length c15), (5, I v13), (28, .bool false)] rfl hst)
end Go.Proofs.Ytpmbfngmdhkpaaa
