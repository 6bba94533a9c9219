/- TA: printed by hx.py (own work) out of the program. -/
import Derived.Test.YtpmbfngmdhkpaaaHxM
import Derived.Test.YtpmbfngmdhkpaaaChecked
namespace Go.Proofs.Ytpmbfngmdhkpaaa
open Go.Hx Go.RowKit
structure T_queue_Req where
  ID : Int
  Blob : Int
  Vol : Int
  At : Int
  deriving DecidableEq
def r_T_queue_Req : Rp T_queue_Req := ⟨Unit, 4, fun x _ => [.int .i64 x.ID, .int .u64 x.Blob, .int .i64 x.Vol, .int .i64 x.At], fun _ _ _ => True, fun _ _ _ _ _ h => h, fun _ _ => rfl, fun _ _ => rfl⟩
structure T_queue_waiting where
  Req : T_queue_Req
  passed : Int
  deriving DecidableEq
def r_T_queue_waiting : Rp T_queue_waiting := ⟨Unit, 5, fun x _ => [.int .i64 x.Req.ID, .int .u64 x.Req.Blob, .int .i64 x.Req.Vol, .int .i64 x.Req.At, .int .i64 x.passed], fun _ _ _ => True, fun _ _ _ _ _ h => h, fun _ _ => rfl, fun _ _ => rfl⟩
structure T_queue_Queue where
  l : (List T_queue_waiting)
def r_T_queue_Queue : Rp T_queue_Queue := ⟨(Option Addr × Nat), 1, fun x y => [.slice y.1 x.l.length y.2], fun x y => dslP r_T_queue_waiting y.1 y.2 x.l, fun _ _ _ _ hm h => dslP_mono _ _ _ _ _ _ hm h, fun _ _ => rfl, fun _ _ => rfl⟩
theorem L22 : Lst Try.prog 22 25 4 32 := ⟨Try.underlying22, Try.t25, _, by kernel_rfl, rfl, rfl, rfl, rfl⟩
theorem L26 : Lst Try.prog 26 3 1 8 := ⟨Try.underlying26, Try.t3, _, by kernel_rfl, rfl, rfl, rfl, rfl⟩
theorem L28 : Lst Try.prog 28 70 5 40 := ⟨Try.underlying28, Try.t70, _, by kernel_rfl, rfl, rfl, rfl, rfl⟩
theorem M38 : MapT Try.prog 38 3 4 (fun n => .int .i64 n) (fun b => .bool b) false := ⟨Try.underlying38, keys_int Try.underlying3, ⟨Try.t4, by kernel_rfl, rfl⟩⟩
def queue_Queue_find_1 (_k : Nat) (x1 : T_queue_waiting) (x2 : Int) : Option (Bool) := some ((x1.Req.ID == x2))
set_option maxRecDepth 100000 in
set_option maxHeartbeats 4000000 in
theorem queue_Queue_find_1_ok {G w : World} {F : List HP} {R : Ending → World → Prop} (k : Nat) (x1 : T_queue_waiting) (x2 : Int) (p1 : Nat) (r : (Bool)) (hst : St G w (blk p1 (cl [I x2] 3) :: F)) (hr : queue_Queue_find_1 k x1 x2 = some r)
    (hR : ∀ w', St G w' (blk p1 (cl [I x2] 3) :: F) → R (.returned (.bool r)) w') :
    Calls Try.prog 36 #[.agg #[I x1.Req.ID, .int .u64 x1.Req.Blob, I x1.Req.Vol, I x1.Req.At, I x1.passed], pt p1 0] w R := by
  unfold queue_Queue_find_1 at hr
  refine enter Try.func36 rfl [(0, .agg #[I x1.Req.ID, .int .u64 x1.Req.Blob, I x1.Req.Vol, I x1.Req.At, I x1.passed]), (1, pt p1 0)] rfl rfl fun b => ?_
  refine wp_seq ?_
  refine wp_reg ?_
  refine L_op rfl (O_box [I x1.Req.ID, .int .u64 x1.Req.Blob, I x1.Req.Vol, I x1.Req.At, I x1.passed] hst rfl rfl fun p3 w hst => ?_)
  refine L_pure 1 [(1, pt p1 0), (2, pt p3 0)] (by kernel_rfl) fun b => ?_
  refine wpL_nil ?_
  refine th_n ?_
  refine wp_seq ?_
  refine wp_reg ?_
  refine L_pure 2 [(1, pt p1 0), (5, pt p3 0)] (by kernel_rfl) fun b => ?_
  refine L_op rfl (O_run (v := I x1.Req.ID) (w' := w) (R_load hst rfl rfl) rfl rfl ?_)
  refine L_op rfl (O_run (v := I x2) (w' := w) (R_load (hst.pull 1) rfl rfl) rfl rfl ?_)
  refine L_pure 2 [(3, .bool (x1.Req.ID == x2))] (by kernel_rfl) fun b => ?_
  refine wpL_nil ?_
  refine th_n ?_
  refine wp_ret ?_
  refine ret1 rfl rfl ?_
  obtain rfl := Option.some.inj hr
  have hst := ((hst.pull 1).cut 1 1)
  exact hR _ hst
def slices_IndexFunc_l1 (k : Nat) (x1 : (List T_queue_waiting)) (x2 : Int) : Nat → Int → Option (Flow (Int) (Unit))
  | 0, _ => none
  | j + 1, v4 => (if decide (v4 < (x1.length : Int)) = true then (Option.bind (gt x1 v4) fun x4 => (Option.bind (queue_Queue_find_1 k x4 x2) fun y4 => (if y4 = true then some (Flow.ret (v4)) else (slices_IndexFunc_l1 k x1 x2 j (IntKind.i64.wrap (v4 + 1)))))) else some (Flow.go ()))
def slices_IndexFunc (k : Nat) (x1 : (List T_queue_waiting)) (x2 : Int) : Option (Int) := (Option.bind (slices_IndexFunc_l1 k x1 x2 k (0 : Int)) fun y3 => (match y3 with | Flow.ret r => some r | Flow.go _ => some (((-1) : Int))))
set_option maxRecDepth 100000 in
set_option maxHeartbeats 4000000 in
theorem slices_IndexFunc_ok {G w : World} {F : List HP} {R : Ending → World → Prop} (k : Nat) (x1 : (List T_queue_waiting)) (x2 : Int) (a1 : Option Addr) (c1 : Nat) (p1 : Nat) (r : (Int)) (hst : St G w (osl r_T_queue_waiting 70 a1 c1 x1 :: blk p1 (cl [I x2] 3) :: F)) (hr : slices_IndexFunc k x1 x2 = some r)
    (hR : ∀ w', St G w' (osl r_T_queue_waiting 70 a1 c1 x1 :: blk p1 (cl [I x2] 3) :: F) → R (.returned (I r)) w') :
    Calls Try.prog 35 #[.slice a1 x1.length c1, .func (.func 36) #[] #[pt p1 0]] w R := by
  unfold slices_IndexFunc at hr
  refine enter Try.func35 rfl [(0, .slice a1 x1.length c1), (1, .func (.func 36) #[] #[pt p1 0])] rfl rfl fun b => ?_
  refine wp_seq ?_
  refine wp_reg ?_
  refine L_pure 1 [(0, .slice a1 x1.length c1), (1, .func (.func 36) #[] #[pt p1 0])] (by kernel_rfl) fun b => ?_
  refine wpL_nil ?_
  refine th_n ?_
  refine wp_seq ?_
  refine wp_seq ?_
  refine wp_reg ?_
  refine L_pure 3 [(0, .slice a1 x1.length c1), (1, .func (.func 36) #[] #[pt p1 0]), (7, I (x1.length : Int)), (8, I 0)] (by kernel_rfl) fun b => ?_
  refine wpL_nil ?_
  refine th_n ?_
  obtain ⟨y3, hy3, hk2⟩ := bnd hr
  clear hr
  refine wp_cut (fun a w => ∃ (z2 : Unit) (b : Nat → Value), y3 = .go z2 ∧ a = mkF 19 b [] ∧ St G w (osl r_T_queue_waiting 70 a1 c1 x1 :: blk p1 (cl [I x2] 3) :: F)) ?_ ?_
  · rintro _ w ⟨z2, b, rfl, rfl, hst⟩
    have hr := hk2
    refine th_n ?_
    refine wp_seq ?_
    refine wp_reg ?_
    refine L_pure 1 [(4, I (-1))] (by kernel_rfl) fun b => ?_
    refine wpL_nil ?_
    refine th_n ?_
    refine wp_ret ?_
    refine ret1 rfl rfl ?_
    obtain rfl := Option.some.inj hr
    have hst := ((hst.pull 1).pull 1)
    exact hR _ hst
  · have hst := ((hst.pull 1).pull 1)
    refine wp_block ?_
    refine wp_loop_fuel (fun j a w => ∃ (v4 : Int) (b : Nat → Value), a = mkF 19 b [(0, .slice a1 x1.length c1), (1, .func (.func 36) #[] #[pt p1 0]), (7, I (x1.length : Int)), (8, I v4)] ∧ St G w (osl r_T_queue_waiting 70 a1 c1 x1 :: blk p1 (cl [I x2] 3) :: F) ∧ slices_IndexFunc_l1 k x1 x2 j v4 = some y3) (k := k) ⟨(0 : Int), (kpX [(0, .slice a1 x1.length c1), (1, .func (.func 36) #[] #[pt p1 0]), (7, I (x1.length : Int)), (8, I 0)] rfl ⟨hst, hy3⟩)⟩ ?_ ?_
    · rintro _ _ ⟨_, _, _, _, h⟩
      rw [slices_IndexFunc_l1] at h
      cases h
    · rintro j _ w ⟨v4, b, rfl, hst, hr⟩
      rw [slices_IndexFunc_l1] at hr
      refine wp_seq ?_
      refine wp_reg ?_
      refine L_pure 1 [(0, .slice a1 x1.length c1), (1, .func (.func 36) #[] #[pt p1 0]), (7, I (x1.length : Int)), (8, I v4), (9, .bool (decide (v4 < (x1.length : Int))))] (by kernel_rfl) fun b => ?_
      refine wpL_nil ?_
      refine th_n ?_
      refine wp_seq ?_
      refine wp_cond_mkF (t := decide (v4 < (x1.length : Int))) rfl (fun h => ?_) (fun h => ?_)
      · have hr := (if_pos h).symm.trans hr
        refine wp_skip ?_
        refine th_n ?_
        refine wp_seq ?_
        refine wp_block ?_
        refine wp_seq ?_
        refine wp_reg ?_
        refine L_pure 2 [(0, .slice a1 x1.length c1), (1, .func (.func 36) #[] #[pt p1 0]), (5, I v4), (7, I (x1.length : Int)), (8, I v4)] (by kernel_rfl) fun b => ?_
        refine wpL_nil ?_
        refine th_n ?_
        refine wp_seq ?_
        refine wp_reg ?_
        refine L_pure 3 [(0, .slice a1 x1.length c1), (1, .func (.func 36) #[] #[pt p1 0]), (5, I v4), (7, I (x1.length : Int)), (8, I v4), (11, .func (.func 36) #[] #[pt p1 0]), (12, .slice a1 x1.length c1), (13, I v4)] (by kernel_rfl) fun b => ?_
        obtain ⟨x4, hx2, hr⟩ := bnd hr
        refine L_op rfl (O_run (v := pt (ab a1) (ao a1 + v4.toNat * 5)) (w' := w) (R_ia L28 rfl rfl (osl_addr hst hx2) (gt_some hx2).1 (gt_some hx2).2.1) rfl rfl ?_)
        obtain ⟨q2, hc2, hst⟩ := osl_cells hst hx2
        have hst := hst.drop
        refine L_op rfl (O_run (v := .agg #[I x4.Req.ID, .int .u64 x4.Req.Blob, I x4.Req.Vol, I x4.Req.At, I x4.passed]) (w' := w) (R_loadAt (off := ao a1 + v4.toNat * 5) (j := 0) hc2 rfl rfl) rfl rfl ?_)
        obtain ⟨y4, hy4, hr⟩ := bnd hr
        refine L_op rfl (O_callv (vs := #[.agg #[I x4.Req.ID, .int .u64 x4.Req.Blob, I x4.Req.Vol, I x4.Req.At, I x4.passed], pt p1 0]) (ws := #[.agg #[I x4.Req.ID, .int .u64 x4.Req.Blob, I x4.Req.Vol, I x4.Req.At, I x4.passed]]) rfl Try.call36 (by kernel_rfl) rfl (queue_Queue_find_1_ok k x4 x2 p1 y4 (hst.pull 1) hy4 fun w hst => ?_))
        refine CK_ret rfl ?_
        refine wpL_nil ?_
        refine th_n ?_
        refine wp_cond_mkF (t := y4) rfl (fun h => ?_) (fun h => ?_)
        · have hr := (if_pos h).symm.trans hr
          refine wp_seq ?_
          refine wp_reg ?_
          refine L_pure 2 [(4, I v4)] (by kernel_rfl) fun b => ?_
          refine wpL_nil ?_
          refine th_n ?_
          refine wp_ret ?_
          refine ib_r (th_r (th_r (ib_r (th_r (th_r ?_)))))
          refine ret1 rfl rfl ?_
          obtain rfl := Option.some.inj hr
          obtain rfl := Option.some.inj hk2
          have hst := (hst.pull 1)
          exact hR _ hst
        · have hr := (if_neg (by rw [h]; exact Bool.false_ne_true)).symm.trans hr
          refine wp_skip ?_
          refine ib_n (th_n ?_)
          refine wp_reg ?_
          refine L_pure 2 [(0, .slice a1 x1.length c1), (1, .func (.func 36) #[] #[pt p1 0]), (7, I (x1.length : Int)), (8, I (IntKind.i64.wrap (v4 + 1)))] (by kernel_rfl) fun b => ?_
          refine wpL_nil ?_
          refine th_n ?_
          have hst := (hst.pull 1)
          exact ⟨(IntKind.i64.wrap (v4 + 1)), (kpX [(0, .slice a1 x1.length c1), (1, .func (.func 36) #[] #[pt p1 0]), (7, I (x1.length : Int)), (8, I (IntKind.i64.wrap (v4 + 1)))] rfl ⟨hst, hr⟩)⟩
      · have hr := (if_neg (by rw [h]; exact Bool.false_ne_true)).symm.trans hr
        refine wp_exit ?_
        refine th_x (th_x (ib_x (th_n ?_)))
        obtain rfl := Option.some.inj hr
        have hst := ((hst.pull 1).pull 1)
        exact ⟨(), (kpXf [] rfl hst)⟩
def queue_Queue_find (k : Nat) (x1 : T_queue_Queue) (x2 : Int) : Option (Int) := (Option.bind (slices_IndexFunc k x1.l x2) fun y2 => some (y2))
set_option maxRecDepth 100000 in
set_option maxHeartbeats 4000000 in
theorem queue_Queue_find_ok {G w : World} {F : List HP} {R : Ending → World → Prop} (k : Nat) (x1 : T_queue_Queue) (x2 : Int) (p1 : Nat) (a1 : Option Addr) (c1 : Nat) (r : (Int)) (hst : St G w (blk p1 (cl [.slice a1 x1.l.length c1] 30) :: osl r_T_queue_waiting 70 a1 c1 x1.l :: F)) (hr : queue_Queue_find k x1 x2 = some r)
    (hR : ∀ w', St G w' (blk p1 (cl [.slice a1 x1.l.length c1] 30) :: osl r_T_queue_waiting 70 a1 c1 x1.l :: F) → R (.returned (I r)) w') :
    Calls Try.prog 26 #[pt p1 0, I x2] w R := by
  unfold queue_Queue_find at hr
  refine enter Try.func26 rfl [(0, pt p1 0), (1, I x2)] rfl rfl fun b => ?_
  refine wp_seq ?_
  refine wp_reg ?_
  refine L_op rfl (O_box [I x2] hst rfl rfl fun p3 w hst => ?_)
  refine L_pure 1 [(0, pt p1 0), (3, pt p3 0)] (by kernel_rfl) fun b => ?_
  refine wpL_nil ?_
  refine th_n ?_
  refine wp_seq ?_
  refine wp_reg ?_
  refine L_pure 3 [(3, pt p3 0), (7, pt p1 0)] (by kernel_rfl) fun b => ?_
  refine L_op rfl (O_run (v := .slice a1 x1.l.length c1) (w' := w) (R_load (hst.pull 1) rfl rfl) rfl rfl ?_)
  refine L_pure 1 [(8, .slice a1 x1.l.length c1), (9, .func (.func 36) #[] #[pt p3 0])] (by kernel_rfl) fun b => ?_
  obtain ⟨y2, hy2, hr⟩ := bnd hr
  refine L_op rfl (O_call (vs := #[.slice a1 x1.l.length c1, .func (.func 36) #[] #[pt p3 0]]) Try.call35 (by kernel_rfl) (slices_IndexFunc_ok k x1.l x2 a1 c1 p3 y2 (hst.pull 2) hy2 fun w hst => ?_))
  refine CK_ret rfl ?_
  refine L_pure 1 [(4, I y2)] (by kernel_rfl) fun b => ?_
  refine wpL_nil ?_
  refine th_n ?_
  refine wp_ret ?_
  refine ret1 rfl rfl ?_
  obtain rfl := Option.some.inj hr
  have hst := ((hst.pull 2).cut 2 1)
  exact hR _ hst
def queue_Queue_Add (k : Nat) (x1 : T_queue_Queue) (x2 : T_queue_Req) : Option (Bool × (List T_queue_waiting)) := (Option.bind (queue_Queue_find k x1 x2.ID) fun y2 => (if decide (y2 ≥ 0) = true then some (false, x1.l) else (if room (x1.l.length + ([(T_queue_waiting.mk x2 0)]).length) 40 = true then some (true, (x1.l ++ ([(T_queue_waiting.mk x2 0)]))) else none)))
set_option maxRecDepth 100000 in
set_option maxHeartbeats 4000000 in
theorem queue_Queue_Add_ok {G w : World} {F : List HP} {R : Ending → World → Prop} (k : Nat) (x1 : T_queue_Queue) (x2 : T_queue_Req) (p1 : Nat) (a1 : Option Addr) (c1 : Nat) (r : (Bool × (List T_queue_waiting))) (hst : St G w (blk p1 (cl [.slice a1 x1.l.length c1] 30) :: osl r_T_queue_waiting 70 a1 c1 x1.l :: F)) (hr : queue_Queue_Add k x1 x2 = some r)
    (hR : ∀ (a3 : Option Addr) (c3 : Nat) w', St G w' (osl r_T_queue_waiting 70 a3 c3 r.2 :: blk p1 (cl [.slice a3 r.2.length c3] 30) :: F) → R (.returned (.bool r.1)) w') :
    Calls Try.prog 14 #[pt p1 0, .agg #[I x2.ID, .int .u64 x2.Blob, I x2.Vol, I x2.At]] w R := by
  unfold queue_Queue_Add at hr
  refine enter Try.func14 rfl [(0, pt p1 0), (1, .agg #[I x2.ID, .int .u64 x2.Blob, I x2.Vol, I x2.At])] rfl rfl fun b => ?_
  refine wp_seq ?_
  refine wp_reg ?_
  refine L_op rfl (O_box [I x2.ID, .int .u64 x2.Blob, I x2.Vol, I x2.At] hst rfl rfl fun p4 w hst => ?_)
  refine L_pure 1 [(0, pt p1 0), (3, pt p4 0)] (by kernel_rfl) fun b => ?_
  refine wpL_nil ?_
  refine th_n ?_
  refine wp_seq ?_
  refine wp_seq ?_
  refine wp_reg ?_
  refine L_pure 2 [(0, pt p1 0), (3, pt p4 0), (5, pt p1 0), (6, pt p4 0)] (by kernel_rfl) fun b => ?_
  refine L_op rfl (O_run (v := I x2.ID) (w' := w) (R_load hst rfl rfl) rfl rfl ?_)
  obtain ⟨y2, hy2, hr⟩ := bnd hr
  refine L_op rfl (O_call (vs := #[pt p1 0, I x2.ID]) Try.call26 (by kernel_rfl) (queue_Queue_find_ok k x1 x2.ID p1 a1 c1 y2 ((hst.pull 2).pull 2) hy2 fun w hst => ?_))
  refine CK_ret rfl ?_
  refine L_pure 1 [(0, pt p1 0), (3, pt p4 0), (9, .bool (decide (y2 ≥ 0)))] (by kernel_rfl) fun b => ?_
  refine wpL_nil ?_
  refine th_n ?_
  refine wp_cond_mkF (t := decide (y2 ≥ 0)) rfl (fun h => ?_) (fun h => ?_)
  · have hr := (if_pos h).symm.trans hr
    refine wp_seq ?_
    refine wp_reg ?_
    refine L_pure 1 [(4, .bool false)] (by kernel_rfl) fun b => ?_
    refine wpL_nil ?_
    refine th_n ?_
    refine wp_ret ?_
    refine th_r ?_
    refine ret1 rfl rfl ?_
    obtain rfl := Option.some.inj hr
    have hst := ((hst.pull 1).cut 2 1)
    exact hR a1 c1 _ hst
  · have hr := (if_neg (by rw [h]; exact Bool.false_ne_true)).symm.trans hr
    refine wp_skip ?_
    refine th_n ?_
    refine wp_seq ?_
    refine wp_regG (SP 8 (fun w => St G w (blk p1 (cl [.slice a1 x1.l.length c1] 30) :: osl r_T_queue_waiting 70 a1 c1 x1.l :: blk p4 (cl [I x2.ID, .int .u64 x2.Blob, I x2.Vol, I x2.At] 25) :: F))) rfl ?_
    have hst := hst.draw (n := w.drawn + 1)
    generalize { w with drawn := w.drawn + 1 } = w at hst ⊢
    refine P_pure (i := 0) (v := pt p1 0) 8 rfl rfl (by kernel_rfl) (fun _ _ _ h => h) rfl rfl rfl (by kernel_rfl) (.inr (((hst.pull 2).pull 2).pull 2)) ?_
    refine P_pure (i := 1) (v := pt p1 0) 8 rfl rfl (by kernel_rfl) (fun _ _ _ h => h) rfl rfl rfl (by kernel_rfl) (.inr (((hst.pull 2).pull 2).pull 2)) ?_
    refine P_pure (i := 2) (v := pt p1 0) 8 rfl rfl (by kernel_rfl) (fun _ _ _ h => h) rfl rfl rfl (by kernel_rfl) (.inr (((hst.pull 2).pull 2).pull 2)) ?_
    refine P_pure (i := 3) (v := pt p1 0) 8 rfl rfl (by kernel_rfl) (fun _ _ _ h => h) rfl rfl rfl (by kernel_rfl) (.inr (((hst.pull 2).pull 2).pull 2)) ?_
    refine P_take (i := 4) (v := .slice a1 x1.l.length c1) 8 [4] (by kernel_rfl) rfl (by kernel_rfl) (fun _ _ _ h => h) rfl rfl rfl (fun w hst => R_load hst rfl rfl) ((((hst.pull 2).pull 2).pull 2)) ?_
    refine P_take (i := 5) (v := .agg #[I x2.ID, .int .u64 x2.Blob, I x2.Vol, I x2.At]) 8 [7, 6, 5] (by kernel_rfl) rfl (by kernel_rfl) (fun _ _ _ h => h) rfl rfl rfl (fun w hst => R_load (hst.pull 2) rfl rfl) ((((hst.pull 2).pull 2).pull 2)) ?_
    refine P_pure (i := 6) (v := .agg #[I x2.ID, .int .u64 x2.Blob, I x2.Vol, I x2.At, I 0]) 8 rfl rfl (by kernel_rfl) (fun _ _ _ h => h) rfl rfl rfl (by kernel_rfl) (.inr (((hst.pull 2).pull 2).pull 2)) ?_
    refine P_one (i := 7) 8 (by kernel_rfl) rfl rfl (O_bs (T := 70) [I x2.ID, .int .u64 x2.Blob, I x2.Vol, I x2.At, I 0] #[(0, .agg #[I x2.ID, .int .u64 x2.Blob, I x2.Vol, I x2.At, I 0])] hst (by kernel_rfl) (by kernel_rfl) rfl fun p5 w hst => ?_)
    have hst := osl_of_blk0 (ecs := [[I x2.ID, .int .u64 x2.Blob, I x2.Vol, I x2.At, I 0]]) r_T_queue_waiting [(T_queue_waiting.mk x2 0)] rfl (fun m => ⟨⟨(), rfl, trivial⟩, trivial⟩) rfl hst
    refine ⟨((((hst.pull 3).pull 3).pull 3).cut 3 1), ?_⟩
    obtain ⟨hb2, hr⟩ := chk hr
    refine P_act (i := 8) 8 (by kernel_rfl) rfl rfl (by kernel_rfl) (O_app_o L28 (hst.pull 2) rfl rfl hb2 rfl fun a4 c4 w hst => ?_)
    refine P_pure (i := 9) (v := pt p1 0) 8 rfl rfl (by kernel_rfl) (fun _ _ _ h => h) rfl rfl rfl (by kernel_rfl) (.inl (by kernel_rfl)) ?_
    refine P_pure (i := 10) (v := pt p1 0) 8 rfl rfl (by kernel_rfl) (fun _ _ _ h => h) rfl rfl rfl (by kernel_rfl) (.inl (by kernel_rfl)) ?_
    refine P_act (i := 11) 8 (by kernel_rfl) rfl rfl (by kernel_rfl) (O_store [.slice a4 (x1.l ++ ([(T_queue_waiting.mk x2 0)])).length c4] (hst.pull 2) rfl rfl (by kernel_rfl) fun w hst => ?_)
    refine wpG_done (by kernel_rfl) ?_ _
    refine C_keepQ [] rfl fun b => ?_
    refine th_n ?_
    refine wp_seq ?_
    refine wp_reg ?_
    refine L_pure 1 [(4, .bool true)] (by kernel_rfl) fun b => ?_
    refine wpL_nil ?_
    refine th_n ?_
    refine wp_ret ?_
    refine ret1 rfl rfl ?_
    obtain rfl := Option.some.inj hr
    have hst := ((hst.pull 1).cut 2 2)
    exact hR a4 c4 _ hst
def queue_ahead (_k : Nat) (x1 : T_queue_waiting) (x2 : T_queue_waiting) (x3 : Int) : Option (Bool) := (if ((decide (x1.Req.At ≥ x3)) != (decide (x2.Req.At ≥ x3))) = true then some (decide (x1.Req.At ≥ x3)) else some (decide (x1.Req.At < x2.Req.At)))
set_option maxRecDepth 100000 in
set_option maxHeartbeats 4000000 in
theorem queue_ahead_ok {G w : World} {F : List HP} {R : Ending → World → Prop} (k : Nat) (x1 : T_queue_waiting) (x2 : T_queue_waiting) (x3 : Int) (r : (Bool)) (hst : St G w (F)) (hr : queue_ahead k x1 x2 x3 = some r)
    (hR : ∀ w', St G w' (F) → R (.returned (.bool r)) w') :
    Calls Try.prog 37 #[.agg #[I x1.Req.ID, .int .u64 x1.Req.Blob, I x1.Req.Vol, I x1.Req.At, I x1.passed], .agg #[I x2.Req.ID, .int .u64 x2.Req.Blob, I x2.Req.Vol, I x2.Req.At, I x2.passed], I x3] w R := by
  unfold queue_ahead at hr
  refine enter Try.func37 rfl [(0, .agg #[I x1.Req.ID, .int .u64 x1.Req.Blob, I x1.Req.Vol, I x1.Req.At, I x1.passed]), (1, .agg #[I x2.Req.ID, .int .u64 x2.Req.Blob, I x2.Req.Vol, I x2.Req.At, I x2.passed]), (2, I x3)] rfl rfl fun b => ?_
  refine wp_seq ?_
  refine wp_reg ?_
  refine L_op rfl (O_box [I x1.Req.ID, .int .u64 x1.Req.Blob, I x1.Req.Vol, I x1.Req.At, I x1.passed] hst rfl rfl fun p3 w hst => ?_)
  refine L_op rfl (O_box [I x2.Req.ID, .int .u64 x2.Req.Blob, I x2.Req.Vol, I x2.Req.At, I x2.passed] hst rfl rfl fun p4 w hst => ?_)
  refine L_pure 1 [(2, I x3), (3, pt p3 0), (4, pt p4 0)] (by kernel_rfl) fun b => ?_
  refine wpL_nil ?_
  refine th_n ?_
  refine wp_seq ?_
  refine wp_seq ?_
  refine wp_reg ?_
  refine L_pure 2 [(2, I x3), (3, pt p3 0), (4, pt p4 0), (8, pt p3 3)] (by kernel_rfl) fun b => ?_
  refine L_op rfl (O_run (v := I x1.Req.At) (w' := w) (R_load (hst.pull 1) rfl rfl) rfl rfl ?_)
  refine L_pure 4 [(2, I x3), (3, pt p3 0), (4, pt p4 0), (11, .bool (decide (x1.Req.At ≥ x3))), (13, pt p4 3)] (by kernel_rfl) fun b => ?_
  refine L_op rfl (O_run (v := I x2.Req.At) (w' := w) (R_load hst rfl rfl) rfl rfl ?_)
  refine L_pure 3 [(2, I x3), (3, pt p3 0), (4, pt p4 0), (17, .bool ((decide (x1.Req.At ≥ x3)) != (decide (x2.Req.At ≥ x3))))] (by kernel_rfl) fun b => ?_
  refine wpL_nil ?_
  refine th_n ?_
  refine wp_cond_mkF (t := ((decide (x1.Req.At ≥ x3)) != (decide (x2.Req.At ≥ x3)))) rfl (fun h => ?_) (fun h => ?_)
  · have hr := (if_pos h).symm.trans hr
    refine wp_seq ?_
    refine wp_reg ?_
    refine L_pure 2 [(2, I x3), (19, pt p3 3)] (by kernel_rfl) fun b => ?_
    refine L_op rfl (O_run (v := I x1.Req.At) (w' := w) (R_load (hst.pull 1) rfl rfl) rfl rfl ?_)
    refine L_pure 3 [(6, .bool (decide (x1.Req.At ≥ x3)))] (by kernel_rfl) fun b => ?_
    refine wpL_nil ?_
    refine th_n ?_
    refine wp_ret ?_
    refine th_r ?_
    refine ret1 rfl rfl ?_
    obtain rfl := Option.some.inj hr
    have hst := (hst.cut 0 2)
    exact hR _ hst
  · have hr := (if_neg (by rw [h]; exact Bool.false_ne_true)).symm.trans hr
    refine wp_skip ?_
    refine th_n ?_
    refine wp_seq ?_
    refine wp_reg ?_
    refine L_pure 2 [(4, pt p4 0), (24, pt p3 3)] (by kernel_rfl) fun b => ?_
    refine L_op rfl (O_run (v := I x1.Req.At) (w' := w) (R_load (hst.pull 1) rfl rfl) rfl rfl ?_)
    refine L_pure 2 [(25, I x1.Req.At), (27, pt p4 3)] (by kernel_rfl) fun b => ?_
    refine L_op rfl (O_run (v := I x2.Req.At) (w' := w) (R_load hst rfl rfl) rfl rfl ?_)
    refine L_pure 2 [(6, .bool (decide (x1.Req.At < x2.Req.At)))] (by kernel_rfl) fun b => ?_
    refine wpL_nil ?_
    refine th_n ?_
    refine wp_ret ?_
    refine ret1 rfl rfl ?_
    obtain rfl := Option.some.inj hr
    have hst := (hst.cut 0 2)
    exact hR _ hst
def queue_Queue_choose_l1 (k : Nat) (x1 : T_queue_Queue) (x2 : Int) (x3 : Int) : Nat → Int → Int → Option (Int)
  | 0, _, _ => none
  | j + 1, v11, v12 => (if decide (v12 < (x1.l.length : Int)) = true then (Option.bind (Option.bind (gt x1.l v12) fun x11 => (Option.bind (if (x11.Req.Vol == x2) = true then (if decide (v11 < 0) = true then some (true) else (Option.bind (gt x1.l v11) fun x12 => (Option.bind (queue_ahead k x11 x12 x3) fun y12 => some (y12)))) else some (false)) fun y11 => (if y11 = true then some (v12) else some (v11)))) fun y10 => (queue_Queue_choose_l1 k x1 x2 x3 j y10 (IntKind.i64.wrap (v12 + 1)))) else some (v11))
def queue_Queue_choose_l2 (k : Nat) (x1 : T_queue_Queue) : Nat → Int → Int → Option (Int)
  | 0, _, _ => none
  | j + 1, v15, v16 => (if decide (v16 < (x1.l.length : Int)) = true then (Option.bind (Option.bind (gt x1.l v16) fun x13 => (Option.bind (Option.bind (gt x1.l 0) fun x14 => (if (x13.Req.Vol == x14.Req.Vol) = true then (if decide (v15 < 0) = true then some (true) else (Option.bind (gt x1.l v15) fun x15 => (Option.bind (queue_ahead k x13 x15 0) fun y16 => some (y16)))) else some (false))) fun y15 => (if y15 = true then some (v16) else some (v15)))) fun y14 => (queue_Queue_choose_l2 k x1 j y14 (IntKind.i64.wrap (v16 + 1)))) else some (v15))
def queue_Queue_choose (k : Nat) (x1 : T_queue_Queue) (x2 : Int) (x3 : Int) : Option (Int) := (Option.bind (gt x1.l 0) fun x10 => (if decide (x10.passed ≥ 8) = true then some ((0 : Int)) else (Option.bind (queue_Queue_choose_l1 k x1 x2 x3 k ((-1) : Int) (0 : Int)) fun y9 => (if decide (y9 ≥ 0) = true then some (y9) else (Option.bind (queue_Queue_choose_l2 k x1 k y9 (0 : Int)) fun y13 => some (y13))))))
set_option maxRecDepth 100000 in
set_option maxHeartbeats 4000000 in
theorem queue_Queue_choose_ok {G w : World} {F : List HP} {R : Ending → World → Prop} (k : Nat) (x1 : T_queue_Queue) (x2 : Int) (x3 : Int) (p1 : Nat) (a1 : Option Addr) (c1 : Nat) (r : (Int)) (hst : St G w (blk p1 (cl [.slice a1 x1.l.length c1] 30) :: osl r_T_queue_waiting 70 a1 c1 x1.l :: F)) (hr : queue_Queue_choose k x1 x2 x3 = some r)
    (hR : ∀ w', St G w' (blk p1 (cl [.slice a1 x1.l.length c1] 30) :: osl r_T_queue_waiting 70 a1 c1 x1.l :: F) → R (.returned (I r)) w') :
    Calls Try.prog 27 #[pt p1 0, I x2, I x3] w R := by
  unfold queue_Queue_choose at hr
  refine enter Try.func27 rfl [(0, pt p1 0), (1, I x2), (2, I x3)] rfl rfl fun b => ?_
  refine wp_seq ?_
  refine wp_reg ?_
  refine L_pure 1 [(0, pt p1 0), (1, I x2), (2, I x3)] (by kernel_rfl) fun b => ?_
  refine wpL_nil ?_
  refine th_n ?_
  refine wp_seq ?_
  refine wp_seq ?_
  refine wp_reg ?_
  refine L_pure 3 [(0, pt p1 0), (1, I x2), (2, I x3), (14, pt p1 0)] (by kernel_rfl) fun b => ?_
  refine L_op rfl (O_run (v := .slice a1 x1.l.length c1) (w' := w) (R_load hst rfl rfl) rfl rfl ?_)
  obtain ⟨x10, hx7, hr⟩ := bnd hr
  refine L_op rfl (O_run (v := pt (ab a1) (ao a1 + (0 : Int).toNat * 5)) (w' := w) (R_ia L28 rfl rfl (osl_addr (hst.pull 1) hx7) (gt_some hx7).1 (gt_some hx7).2.1) rfl rfl ?_)
  refine L_pure 1 [(0, pt p1 0), (1, I x2), (2, I x3), (17, pt (ab a1) (ao a1 + (0 : Int).toNat * 5 + 4))] (by kernel_rfl) fun b => ?_
  obtain ⟨q7, hc7, hst⟩ := osl_cells (hst.pull 1) hx7
  have hst := hst.drop
  refine L_op rfl (O_run (v := I x10.passed) (w' := w) (R_loadAt (off := ao a1 + (0 : Int).toNat * 5) (j := 4) hc7 rfl rfl) rfl rfl ?_)
  refine L_pure 1 [(0, pt p1 0), (1, I x2), (2, I x3), (19, .bool (decide (x10.passed ≥ 8)))] (by kernel_rfl) fun b => ?_
  refine wpL_nil ?_
  refine th_n ?_
  refine wp_cond_mkF (t := decide (x10.passed ≥ 8)) rfl (fun h => ?_) (fun h => ?_)
  · have hr := (if_pos h).symm.trans hr
    refine wp_seq ?_
    refine wp_reg ?_
    refine L_pure 1 [(6, I 0)] (by kernel_rfl) fun b => ?_
    refine wpL_nil ?_
    refine th_n ?_
    refine wp_ret ?_
    refine th_r ?_
    refine ret1 rfl rfl ?_
    obtain rfl := Option.some.inj hr
    have hst := (hst.pull 1)
    exact hR _ hst
  · have hr := (if_neg (by rw [h]; exact Bool.false_ne_true)).symm.trans hr
    refine wp_skip ?_
    refine th_n ?_
    refine wp_seq ?_
    refine wp_reg ?_
    refine L_pure 1 [(0, pt p1 0), (1, I x2), (2, I x3), (7, I (-1))] (by kernel_rfl) fun b => ?_
    refine wpL_nil ?_
    refine th_n ?_
    refine wp_seq ?_
    refine wp_seq ?_
    refine wp_reg ?_
    refine L_pure 3 [(0, pt p1 0), (1, I x2), (2, I x3), (7, I (-1)), (22, pt p1 0)] (by kernel_rfl) fun b => ?_
    refine L_op rfl (O_run (v := .slice a1 x1.l.length c1) (w' := w) (R_load (hst.pull 1) rfl rfl) rfl rfl ?_)
    refine L_pure 2 [(0, pt p1 0), (1, I x2), (2, I x3), (7, I (-1)), (23, .slice a1 x1.l.length c1), (24, I (x1.l.length : Int)), (25, I 0)] (by kernel_rfl) fun b => ?_
    refine wpL_nil ?_
    refine th_n ?_
    obtain ⟨y9, hy9, hk7⟩ := bnd hr
    clear hr
    refine wp_cut (fun a w => ∃ (b : Nat → Value), a = mkF 96 b [(0, pt p1 0), (7, I y9)] ∧ St G w (osl r_T_queue_waiting 70 a1 c1 x1.l :: blk p1 (cl [.slice a1 x1.l.length c1] 30) :: F)) ?_ ?_
    · rintro _ w ⟨b, rfl, hst⟩
      have hr := hk7
      refine th_n ?_
      refine wp_seq ?_
      refine wp_seq ?_
      refine wp_reg ?_
      refine L_pure 2 [(0, pt p1 0), (7, I y9), (54, .bool (decide (y9 ≥ 0)))] (by kernel_rfl) fun b => ?_
      refine wpL_nil ?_
      refine th_n ?_
      refine wp_cond_mkF (t := decide (y9 ≥ 0)) rfl (fun h => ?_) (fun h => ?_)
      · have hr := (if_pos h).symm.trans hr
        refine wp_seq ?_
        refine wp_reg ?_
        refine L_pure 2 [(6, I y9)] (by kernel_rfl) fun b => ?_
        refine wpL_nil ?_
        refine th_n ?_
        refine wp_ret ?_
        refine th_r ?_
        refine ret1 rfl rfl ?_
        obtain rfl := Option.some.inj hr
        have hst := (hst.pull 1)
        exact hR _ hst
      · have hr := (if_neg (by rw [h]; exact Bool.false_ne_true)).symm.trans hr
        refine wp_skip ?_
        refine th_n ?_
        refine wp_seq ?_
        refine wp_seq ?_
        refine wp_reg ?_
        refine L_pure 3 [(0, pt p1 0), (7, I y9), (58, pt p1 0)] (by kernel_rfl) fun b => ?_
        refine L_op rfl (O_run (v := .slice a1 x1.l.length c1) (w' := w) (R_load (hst.pull 1) rfl rfl) rfl rfl ?_)
        refine L_pure 2 [(0, pt p1 0), (7, I y9), (59, .slice a1 x1.l.length c1), (60, I (x1.l.length : Int)), (61, I 0)] (by kernel_rfl) fun b => ?_
        refine wpL_nil ?_
        refine th_n ?_
        obtain ⟨y13, hy13, hk10⟩ := bnd hr
        clear hr
        refine wp_cut (fun a w => ∃ (b : Nat → Value), a = mkF 96 b [(7, I y13)] ∧ St G w (osl r_T_queue_waiting 70 a1 c1 x1.l :: blk p1 (cl [.slice a1 x1.l.length c1] 30) :: F)) ?_ ?_
        · rintro _ w ⟨b, rfl, hst⟩
          have hr := hk10
          refine th_n ?_
          refine wp_seq ?_
          refine wp_reg ?_
          refine L_pure 2 [(6, I y13)] (by kernel_rfl) fun b => ?_
          refine wpL_nil ?_
          refine th_n ?_
          refine wp_ret ?_
          refine ret1 rfl rfl ?_
          obtain rfl := Option.some.inj hr
          have hst := (hst.pull 1)
          exact hR _ hst
        · have hst := ((hst.pull 1).pull 1)
          refine wp_block ?_
          refine wp_loop_fuel (fun j a w => ∃ (v15 : Int) (v16 : Int) (b : Nat → Value), a = mkF 96 b [(0, pt p1 0), (7, I v15), (59, .slice a1 x1.l.length c1), (60, I (x1.l.length : Int)), (61, I v16)] ∧ St G w (osl r_T_queue_waiting 70 a1 c1 x1.l :: blk p1 (cl [.slice a1 x1.l.length c1] 30) :: F) ∧ queue_Queue_choose_l2 k x1 j v15 v16 = some y13) (k := k) ⟨y9, (0 : Int), (kpX [(0, pt p1 0), (7, I y9), (59, .slice a1 x1.l.length c1), (60, I (x1.l.length : Int)), (61, I 0)] rfl ⟨hst, hy13⟩)⟩ ?_ ?_
          · rintro _ _ ⟨_, _, _, _, _, h⟩
            rw [queue_Queue_choose_l2] at h
            cases h
          · rintro j _ w ⟨v15, v16, b, rfl, hst, hr⟩
            rw [queue_Queue_choose_l2] at hr
            refine wp_seq ?_
            refine wp_reg ?_
            refine L_pure 1 [(0, pt p1 0), (7, I v15), (59, .slice a1 x1.l.length c1), (60, I (x1.l.length : Int)), (61, I v16), (62, .bool (decide (v16 < (x1.l.length : Int))))] (by kernel_rfl) fun b => ?_
            refine wpL_nil ?_
            refine th_n ?_
            refine wp_seq ?_
            refine wp_cond_mkF (t := decide (v16 < (x1.l.length : Int))) rfl (fun h => ?_) (fun h => ?_)
            · have hr := (if_pos h).symm.trans hr
              refine wp_skip ?_
              refine th_n ?_
              obtain ⟨y14, hy14, hk11⟩ := bnd hr
              clear hr
              refine wp_seq_cut (fun a w => ∃ (b : Nat → Value), a = mkF 96 b [(0, pt p1 0), (7, I y14), (59, .slice a1 x1.l.length c1), (60, I (x1.l.length : Int)), (61, I v16)] ∧ St G w (osl r_T_queue_waiting 70 a1 c1 x1.l :: blk p1 (cl [.slice a1 x1.l.length c1] 30) :: F)) ?_ ?_
              · rintro _ w ⟨b, rfl, hst⟩
                have hr := hk11
                refine wp_reg ?_
                refine L_pure 2 [(0, pt p1 0), (7, I y14), (59, .slice a1 x1.l.length c1), (60, I (x1.l.length : Int)), (61, I (IntKind.i64.wrap (v16 + 1)))] (by kernel_rfl) fun b => ?_
                refine wpL_nil ?_
                refine th_n ?_
                have hst := ((hst.pull 1).pull 1)
                exact ⟨y14, (IntKind.i64.wrap (v16 + 1)), (kpX [(0, pt p1 0), (7, I y14), (59, .slice a1 x1.l.length c1), (60, I (x1.l.length : Int)), (61, I (IntKind.i64.wrap (v16 + 1)))] rfl ⟨hst, hr⟩)⟩
              · have hr := hy14
                refine wp_block ?_
                refine wp_seq ?_
                refine wp_reg ?_
                refine L_pure 1 [(0, pt p1 0), (7, I v15), (59, .slice a1 x1.l.length c1), (60, I (x1.l.length : Int)), (61, I v16), (63, I v16)] (by kernel_rfl) fun b => ?_
                obtain ⟨x13, hx10, hr⟩ := bnd hr
                refine L_op rfl (O_run (v := pt (ab a1) (ao a1 + v16.toNat * 5)) (w' := w) (R_ia L28 rfl rfl (osl_addr hst hx10) (gt_some hx10).1 (gt_some hx10).2.1) rfl rfl ?_)
                obtain ⟨q10, hc10, hst⟩ := osl_cells hst hx10
                have hst := hst.drop
                refine L_op rfl (O_run (v := .agg #[I x13.Req.ID, .int .u64 x13.Req.Blob, I x13.Req.Vol, I x13.Req.At, I x13.passed]) (w' := w) (R_loadAt (off := ao a1 + v16.toNat * 5) (j := 0) hc10 rfl rfl) rfl rfl ?_)
                refine L_op rfl (O_alloc (i := Try.t70) (z := .agg #[I 0, .int .u64 0, I 0, I 0, I 0]) [I 0, .int .u64 0, I 0, I 0, I 0] hst rfl rfl rfl rfl fun p5 w hst => ?_)
                refine L_pure 1 [(0, pt p1 0), (7, I v15), (10, I v16), (11, pt p5 0), (59, .slice a1 x1.l.length c1), (60, I (x1.l.length : Int)), (61, I v16), (65, .agg #[I x13.Req.ID, .int .u64 x13.Req.Blob, I x13.Req.Vol, I x13.Req.At, I x13.passed])] (by kernel_rfl) fun b => ?_
                refine L_op rfl (O_store [I x13.Req.ID, .int .u64 x13.Req.Blob, I x13.Req.Vol, I x13.Req.At, I x13.passed] hst rfl rfl (by kernel_rfl) fun w hst => ?_)
                refine wpL_nil ?_
                refine th_n ?_
                obtain ⟨y15, hy15, hk12⟩ := bnd hr
                clear hr
                refine wp_seq_cut (fun a w => ∃ (b : Nat → Value), a = mkF 96 b [(0, pt p1 0), (7, I v15), (10, I v16), (59, .slice a1 x1.l.length c1), (60, I (x1.l.length : Int)), (61, I v16), (92, .bool y15)] ∧ St G w (osl r_T_queue_waiting 70 a1 c1 x1.l :: blk p5 (cl [I x13.Req.ID, .int .u64 x13.Req.Blob, I x13.Req.Vol, I x13.Req.At, I x13.passed] 70) :: blk p1 (cl [.slice a1 x1.l.length c1] 30) :: F)) ?_ ?_
                · rintro _ w ⟨b, rfl, hst⟩
                  have hr := hk12
                  refine wp_cond_mkF (t := y15) rfl (fun h => ?_) (fun h => ?_)
                  · have hr := (if_pos h).symm.trans hr
                    refine wp_reg ?_
                    refine L_pure 2 [(0, pt p1 0), (7, I v16), (59, .slice a1 x1.l.length c1), (60, I (x1.l.length : Int)), (61, I v16)] (by kernel_rfl) fun b => ?_
                    refine wpL_nil ?_
                    refine ib_n (th_n ?_)
                    obtain rfl := Option.some.inj hr
                    have hst := (((hst.pull 2).pull 1).cut 2 1)
                    exact (kpX [(0, pt p1 0), (7, I v16), (59, .slice a1 x1.l.length c1), (60, I (x1.l.length : Int)), (61, I v16)] rfl hst)
                  · have hr := (if_neg (by rw [h]; exact Bool.false_ne_true)).symm.trans hr
                    refine wp_skip ?_
                    refine ib_n (th_n ?_)
                    obtain rfl := Option.some.inj hr
                    have hst := (((hst.pull 2).pull 1).cut 2 1)
                    exact (kpX [(0, pt p1 0), (7, I v15), (59, .slice a1 x1.l.length c1), (60, I (x1.l.length : Int)), (61, I v16)] rfl hst)
                · have hr := hy15
                  refine wp_regG (SQ (fun w => St G w (blk p5 (cl [I x13.Req.ID, .int .u64 x13.Req.Blob, I x13.Req.Vol, I x13.Req.At, I x13.passed] 70) :: osl r_T_queue_waiting 70 a1 c1 x1.l :: blk p1 (cl [.slice a1 x1.l.length c1] 30) :: F))) rfl ?_
                  have hst := hst.draw (n := w.drawn + 1)
                  generalize { w with drawn := w.drawn + 1 } = w at hst ⊢
                  refine Q_take (i := 0) (v := pt p5 0) rfl (by kernel_rfl) (fun _ _ _ h => h) rfl rfl rfl (fun _ _ => R_pure (by kernel_rfl)) (((hst.pull 2).pull 2).pull 2) ?_
                  refine Q_take (i := 1) (v := pt p5 2) rfl (by kernel_rfl) (fun _ _ _ h => h) rfl rfl rfl (fun _ _ => R_pure (by kernel_rfl)) (((hst.pull 2).pull 2).pull 2) ?_
                  refine Q_take (i := 2) (v := I x13.Req.Vol) rfl (by kernel_rfl) (fun _ _ _ h => h) rfl rfl rfl (fun w hst => R_load hst rfl rfl) (((hst.pull 2).pull 2).pull 2) ?_
                  refine Q_take (i := 3) (v := pt p1 0) rfl (by kernel_rfl) (fun _ _ _ h => h) rfl rfl rfl (fun _ _ => R_pure (by kernel_rfl)) (((hst.pull 2).pull 2).pull 2) ?_
                  refine Q_take (i := 4) (v := pt p1 0) rfl (by kernel_rfl) (fun _ _ _ h => h) rfl rfl rfl (fun _ _ => R_pure (by kernel_rfl)) (((hst.pull 2).pull 2).pull 2) ?_
                  refine Q_take (i := 5) (v := pt p1 0) rfl (by kernel_rfl) (fun _ _ _ h => h) rfl rfl rfl (fun _ _ => R_pure (by kernel_rfl)) (((hst.pull 2).pull 2).pull 2) ?_
                  refine Q_take (i := 6) (v := .slice a1 x1.l.length c1) rfl (by kernel_rfl) (fun _ _ _ h => h) rfl rfl rfl (fun w hst => R_load (hst.pull 2) rfl rfl) (((hst.pull 2).pull 2).pull 2) ?_
                  obtain ⟨x14, hx11, hr⟩ := bnd hr
                  refine Q_take (i := 7) (v := pt (ab a1) (ao a1 + (0 : Int).toNat * 5)) rfl (by kernel_rfl) (fun _ _ _ h => h) rfl rfl rfl (fun _ _ => (R_ia L28 rfl rfl (osl_addr (hst.pull 1) hx11) (gt_some hx11).1 (gt_some hx11).2.1)) (((hst.pull 2).pull 2).pull 2) ?_
                  refine Q_take (i := 8) (v := pt (ab a1) (ao a1 + (0 : Int).toNat * 5)) rfl (by kernel_rfl) (fun _ _ _ h => h) rfl rfl rfl (fun _ _ => R_pure (by kernel_rfl)) (((hst.pull 2).pull 2).pull 2) ?_
                  refine Q_take (i := 9) (v := pt (ab a1) (ao a1 + (0 : Int).toNat * 5 + 2)) rfl (by kernel_rfl) (fun _ _ _ h => h) rfl rfl rfl (fun _ _ => R_pure (by kernel_rfl)) (((hst.pull 2).pull 2).pull 2) ?_
                  obtain ⟨q11, hc11, hst⟩ := osl_cells (hst.pull 1) hx11
                  have hst := hst.drop
                  refine Q_take (i := 10) (v := I x14.Req.Vol) rfl (by kernel_rfl) (fun _ _ _ h => h) rfl rfl rfl (fun w hst => by obtain ⟨_, hc, _⟩ := osl_cells (hst.pull 1) hx11; exact R_loadAt (off := ao a1 + (0 : Int).toNat * 5) (j := 2) hc rfl rfl) (((hst.pull 2).pull 1).pull 2) ?_
                  refine Q_take (i := 11) (v := .bool (x13.Req.Vol == x14.Req.Vol)) rfl (by kernel_rfl) (fun _ _ _ h => h) rfl rfl rfl (fun _ _ => R_pure (by kernel_rfl)) (((hst.pull 2).pull 1).pull 2) ?_
                  refine Q_take (i := 12) (v := .bool (x13.Req.Vol == x14.Req.Vol)) rfl (by kernel_rfl) (fun _ _ _ h => h) rfl rfl rfl (fun _ _ => R_pure (by kernel_rfl)) (((hst.pull 2).pull 1).pull 2) ?_
                  by_cases h : (x13.Req.Vol == x14.Req.Vol) = true
                  · have hr := (if_pos h).symm.trans hr
                    refine C_keep ((78, .bool (x13.Req.Vol == x14.Req.Vol)) :: [(0, pt p1 0), (7, I v15), (10, I v16), (11, pt p5 0), (59, .slice a1 x1.l.length c1), (60, I (x1.l.length : Int)), (61, I v16), (65, .agg #[I x13.Req.ID, .int .u64 x13.Req.Blob, I x13.Req.Vol, I x13.Req.At, I x13.passed]), (66, pt p5 0), (67, pt p5 2), (68, I x13.Req.Vol), (69, pt p1 0), (70, pt p1 0), (71, pt p1 0), (72, .slice a1 x1.l.length c1), (73, pt (ab a1) (ao a1 + (0 : Int).toNat * 5)), (74, pt (ab a1) (ao a1 + (0 : Int).toNat * 5)), (75, pt (ab a1) (ao a1 + (0 : Int).toNat * 5 + 2)), (76, I x14.Req.Vol), (77, .bool (x13.Req.Vol == x14.Req.Vol))]) rfl fun b => ?_
                    refine C_bool h ?_
                    refine Q_take (i := 13) (v := I v15) rfl (by kernel_rfl) (fun _ _ _ h => h) rfl rfl rfl (fun _ _ => R_pure (by kernel_rfl)) (((hst.pull 2).pull 1).pull 2) ?_
                    refine Q_take (i := 14) (v := .bool (decide (v15 < 0))) rfl (by kernel_rfl) (fun _ _ _ h => h) rfl rfl rfl (fun _ _ => R_pure (by kernel_rfl)) (((hst.pull 2).pull 1).pull 2) ?_
                    refine Q_take (i := 15) (v := .bool (decide (v15 < 0))) rfl (by kernel_rfl) (fun _ _ _ h => h) rfl rfl rfl (fun _ _ => R_pure (by kernel_rfl)) (((hst.pull 2).pull 1).pull 2) ?_
                    by_cases h : (decide (v15 < 0)) = true
                    · have hr := (if_pos h).symm.trans hr
                      refine C_keep ((81, .bool (decide (v15 < 0))) :: [(0, pt p1 0), (7, I v15), (10, I v16), (11, pt p5 0), (59, .slice a1 x1.l.length c1), (60, I (x1.l.length : Int)), (61, I v16), (65, .agg #[I x13.Req.ID, .int .u64 x13.Req.Blob, I x13.Req.Vol, I x13.Req.At, I x13.passed]), (66, pt p5 0), (67, pt p5 2), (68, I x13.Req.Vol), (69, pt p1 0), (70, pt p1 0), (71, pt p1 0), (72, .slice a1 x1.l.length c1), (73, pt (ab a1) (ao a1 + (0 : Int).toNat * 5)), (74, pt (ab a1) (ao a1 + (0 : Int).toNat * 5)), (75, pt (ab a1) (ao a1 + (0 : Int).toNat * 5 + 2)), (76, I x14.Req.Vol), (77, .bool (x13.Req.Vol == x14.Req.Vol)), (78, .bool true), (79, I v15), (80, .bool (decide (v15 < 0)))]) rfl fun b => ?_
                      refine C_bool h ?_
                      refine Q_skip (i := 16) rfl (by kernel_rfl) (fun _ _ _ h => h) rfl rfl rfl (((hst.pull 2).pull 1).pull 2) ?_
                      refine Q_skip (i := 17) rfl (by kernel_rfl) (fun _ _ _ h => h) rfl rfl rfl (((hst.pull 2).pull 1).pull 2) ?_
                      refine Q_skip (i := 18) rfl (by kernel_rfl) (fun _ _ _ h => h) rfl rfl rfl (((hst.pull 2).pull 1).pull 2) ?_
                      refine Q_skip (i := 19) rfl (by kernel_rfl) (fun _ _ _ h => h) rfl rfl rfl (((hst.pull 2).pull 1).pull 2) ?_
                      refine Q_skip (i := 20) rfl (by kernel_rfl) (fun _ _ _ h => h) rfl rfl rfl (((hst.pull 2).pull 1).pull 2) ?_
                      refine Q_skip (i := 21) rfl (by kernel_rfl) (fun _ _ _ h => h) rfl rfl rfl (((hst.pull 2).pull 1).pull 2) ?_
                      refine Q_skip (i := 22) rfl (by kernel_rfl) (fun _ _ _ h => h) rfl rfl rfl (((hst.pull 2).pull 1).pull 2) ?_
                      refine Q_skip (i := 23) rfl (by kernel_rfl) (fun _ _ _ h => h) rfl rfl rfl (((hst.pull 2).pull 1).pull 2) ?_
                      refine Q_skip (i := 24) rfl (by kernel_rfl) (fun _ _ _ h => h) rfl rfl rfl (((hst.pull 2).pull 1).pull 2) ?_
                      refine Q_take (i := 25) (v := .bool true) rfl (by kernel_rfl) (fun _ _ _ h => h) rfl rfl rfl (fun _ _ => R_pure (by kernel_rfl)) (((hst.pull 2).pull 1).pull 2) ?_
                      refine Q_take (i := 26) (v := .bool true) rfl (by kernel_rfl) (fun _ _ _ h => h) rfl rfl rfl (fun _ _ => R_pure (by kernel_rfl)) (((hst.pull 2).pull 1).pull 2) ?_
                      refine wpG_done (by kernel_rfl) ?_ _
                      refine C_keepQ [(0, pt p1 0), (7, I v15), (10, I v16), (59, .slice a1 x1.l.length c1), (60, I (x1.l.length : Int)), (61, I v16), (92, .bool true)] rfl fun b => ?_
                      refine th_n ?_
                      obtain rfl := Option.some.inj hr
                      have hst := (((hst.pull 2).pull 2).pull 2)
                      exact (kpX [(0, pt p1 0), (7, I v15), (10, I v16), (59, .slice a1 x1.l.length c1), (60, I (x1.l.length : Int)), (61, I v16), (92, .bool true)] rfl hst)
                    · have hr := (if_neg h).symm.trans hr
                      refine C_keep ((81, .bool (decide (v15 < 0))) :: [(0, pt p1 0), (7, I v15), (10, I v16), (11, pt p5 0), (59, .slice a1 x1.l.length c1), (60, I (x1.l.length : Int)), (61, I v16), (65, .agg #[I x13.Req.ID, .int .u64 x13.Req.Blob, I x13.Req.Vol, I x13.Req.At, I x13.passed]), (66, pt p5 0), (67, pt p5 2), (68, I x13.Req.Vol), (69, pt p1 0), (70, pt p1 0), (71, pt p1 0), (72, .slice a1 x1.l.length c1), (73, pt (ab a1) (ao a1 + (0 : Int).toNat * 5)), (74, pt (ab a1) (ao a1 + (0 : Int).toNat * 5)), (75, pt (ab a1) (ao a1 + (0 : Int).toNat * 5 + 2)), (76, I x14.Req.Vol), (77, .bool (x13.Req.Vol == x14.Req.Vol)), (78, .bool true), (79, I v15), (80, .bool (decide (v15 < 0)))]) rfl fun b => ?_
                      refine C_bool (eq_false_of_ne_true h) ?_
                      refine Q_take (i := 16) (v := .agg #[I x13.Req.ID, .int .u64 x13.Req.Blob, I x13.Req.Vol, I x13.Req.At, I x13.passed]) rfl (by kernel_rfl) (fun _ _ _ h => h) rfl rfl rfl (fun w hst => R_load hst rfl rfl) (((hst.pull 2).pull 1).pull 2) ?_
                      refine Q_take (i := 17) (v := pt p1 0) rfl (by kernel_rfl) (fun _ _ _ h => h) rfl rfl rfl (fun _ _ => R_pure (by kernel_rfl)) (((hst.pull 2).pull 1).pull 2) ?_
                      refine Q_take (i := 18) (v := pt p1 0) rfl (by kernel_rfl) (fun _ _ _ h => h) rfl rfl rfl (fun _ _ => R_pure (by kernel_rfl)) (((hst.pull 2).pull 1).pull 2) ?_
                      refine Q_take (i := 19) (v := pt p1 0) rfl (by kernel_rfl) (fun _ _ _ h => h) rfl rfl rfl (fun _ _ => R_pure (by kernel_rfl)) (((hst.pull 2).pull 1).pull 2) ?_
                      refine Q_take (i := 20) (v := .slice a1 x1.l.length c1) rfl (by kernel_rfl) (fun _ _ _ h => h) rfl rfl rfl (fun w hst => R_load (hst.pull 2) rfl rfl) (((hst.pull 2).pull 1).pull 2) ?_
                      refine Q_take (i := 21) (v := I v15) rfl (by kernel_rfl) (fun _ _ _ h => h) rfl rfl rfl (fun _ _ => R_pure (by kernel_rfl)) (((hst.pull 2).pull 1).pull 2) ?_
                      obtain ⟨x15, hx12, hr⟩ := bnd hr
                      refine Q_take (i := 22) (v := pt (ab a1) (ao a1 + v15.toNat * 5)) rfl (by kernel_rfl) (fun _ _ _ h => h) rfl rfl rfl (fun _ _ => (R_ia L28 rfl rfl (osl_addr hst hx12) (gt_some hx12).1 (gt_some hx12).2.1)) (((hst.pull 2).pull 1).pull 2) ?_
                      obtain ⟨q12, hc12, hst⟩ := osl_cells hst hx12
                      have hst := hst.drop
                      refine Q_take (i := 23) (v := .agg #[I x15.Req.ID, .int .u64 x15.Req.Blob, I x15.Req.Vol, I x15.Req.At, I x15.passed]) rfl (by kernel_rfl) (fun _ _ _ h => h) rfl rfl rfl (fun w hst => by obtain ⟨_, hc, _⟩ := osl_cells (hst.pull 1) hx12; exact R_loadAt (off := ao a1 + v15.toNat * 5) (j := 0) hc rfl rfl) (((hst.pull 2).pull 1).pull 2) ?_
                      obtain ⟨y16, hy16, hr⟩ := bnd hr
                      refine Q_one (i := 24) (by kernel_rfl) rfl rfl (O_call (vs := #[.agg #[I x13.Req.ID, .int .u64 x13.Req.Blob, I x13.Req.Vol, I x13.Req.At, I x13.passed], .agg #[I x15.Req.ID, .int .u64 x15.Req.Blob, I x15.Req.Vol, I x15.Req.At, I x15.passed], I 0]) Try.call37 (by kernel_rfl) (queue_ahead_ok k x13 x15 0 y16 hst hy16 fun w hst => ?_))
                      refine CK_ret rfl ?_
                      refine ⟨(((hst.pull 2).pull 1).pull 2), ?_⟩
                      refine Q_take (i := 25) (v := .bool y16) rfl (by kernel_rfl) (fun _ _ _ h => h) rfl rfl rfl (fun _ _ => R_pure (by kernel_rfl)) (((hst.pull 2).pull 1).pull 2) ?_
                      refine Q_take (i := 26) (v := .bool y16) rfl (by kernel_rfl) (fun _ _ _ h => h) rfl rfl rfl (fun _ _ => R_pure (by kernel_rfl)) (((hst.pull 2).pull 1).pull 2) ?_
                      refine wpG_done (by kernel_rfl) ?_ _
                      refine C_keepQ [(0, pt p1 0), (7, I v15), (10, I v16), (59, .slice a1 x1.l.length c1), (60, I (x1.l.length : Int)), (61, I v16), (92, .bool y16)] rfl fun b => ?_
                      refine th_n ?_
                      obtain rfl := Option.some.inj hr
                      have hst := (((hst.pull 2).pull 2).pull 2)
                      exact (kpX [(0, pt p1 0), (7, I v15), (10, I v16), (59, .slice a1 x1.l.length c1), (60, I (x1.l.length : Int)), (61, I v16), (92, .bool y16)] rfl hst)
                  · have hr := (if_neg h).symm.trans hr
                    refine C_keep ((78, .bool (x13.Req.Vol == x14.Req.Vol)) :: [(0, pt p1 0), (7, I v15), (10, I v16), (11, pt p5 0), (59, .slice a1 x1.l.length c1), (60, I (x1.l.length : Int)), (61, I v16), (65, .agg #[I x13.Req.ID, .int .u64 x13.Req.Blob, I x13.Req.Vol, I x13.Req.At, I x13.passed]), (66, pt p5 0), (67, pt p5 2), (68, I x13.Req.Vol), (69, pt p1 0), (70, pt p1 0), (71, pt p1 0), (72, .slice a1 x1.l.length c1), (73, pt (ab a1) (ao a1 + (0 : Int).toNat * 5)), (74, pt (ab a1) (ao a1 + (0 : Int).toNat * 5)), (75, pt (ab a1) (ao a1 + (0 : Int).toNat * 5 + 2)), (76, I x14.Req.Vol), (77, .bool (x13.Req.Vol == x14.Req.Vol))]) rfl fun b => ?_
                    refine C_bool (eq_false_of_ne_true h) ?_
                    refine Q_skip (i := 13) rfl (by kernel_rfl) (fun _ _ _ h => h) rfl rfl rfl (((hst.pull 2).pull 1).pull 2) ?_
                    refine Q_skip (i := 14) rfl (by kernel_rfl) (fun _ _ _ h => h) rfl rfl rfl (((hst.pull 2).pull 1).pull 2) ?_
                    refine Q_skip (i := 15) rfl (by kernel_rfl) (fun _ _ _ h => h) rfl rfl rfl (((hst.pull 2).pull 1).pull 2) ?_
                    refine Q_skip (i := 16) rfl (by kernel_rfl) (fun _ _ _ h => h) rfl rfl rfl (((hst.pull 2).pull 1).pull 2) ?_
                    refine Q_skip (i := 17) rfl (by kernel_rfl) (fun _ _ _ h => h) rfl rfl rfl (((hst.pull 2).pull 1).pull 2) ?_
                    refine Q_skip (i := 18) rfl (by kernel_rfl) (fun _ _ _ h => h) rfl rfl rfl (((hst.pull 2).pull 1).pull 2) ?_
                    refine Q_skip (i := 19) rfl (by kernel_rfl) (fun _ _ _ h => h) rfl rfl rfl (((hst.pull 2).pull 1).pull 2) ?_
                    refine Q_skip (i := 20) rfl (by kernel_rfl) (fun _ _ _ h => h) rfl rfl rfl (((hst.pull 2).pull 1).pull 2) ?_
                    refine Q_skip (i := 21) rfl (by kernel_rfl) (fun _ _ _ h => h) rfl rfl rfl (((hst.pull 2).pull 1).pull 2) ?_
                    refine Q_skip (i := 22) rfl (by kernel_rfl) (fun _ _ _ h => h) rfl rfl rfl (((hst.pull 2).pull 1).pull 2) ?_
                    refine Q_skip (i := 23) rfl (by kernel_rfl) (fun _ _ _ h => h) rfl rfl rfl (((hst.pull 2).pull 1).pull 2) ?_
                    refine Q_skip (i := 24) rfl (by kernel_rfl) (fun _ _ _ h => h) rfl rfl rfl (((hst.pull 2).pull 1).pull 2) ?_
                    refine Q_skip (i := 25) rfl (by kernel_rfl) (fun _ _ _ h => h) rfl rfl rfl (((hst.pull 2).pull 1).pull 2) ?_
                    refine Q_take (i := 26) (v := .bool false) rfl (by kernel_rfl) (fun _ _ _ h => h) rfl rfl rfl (fun _ _ => R_pure (by kernel_rfl)) (((hst.pull 2).pull 1).pull 2) ?_
                    refine wpG_done (by kernel_rfl) ?_ _
                    refine C_keepQ [(0, pt p1 0), (7, I v15), (10, I v16), (59, .slice a1 x1.l.length c1), (60, I (x1.l.length : Int)), (61, I v16), (92, .bool false)] rfl fun b => ?_
                    refine th_n ?_
                    obtain rfl := Option.some.inj hr
                    have hst := (((hst.pull 2).pull 2).pull 2)
                    exact (kpX [(0, pt p1 0), (7, I v15), (10, I v16), (59, .slice a1 x1.l.length c1), (60, I (x1.l.length : Int)), (61, I v16), (92, .bool false)] rfl hst)
            · have hr := (if_neg (by rw [h]; exact Bool.false_ne_true)).symm.trans hr
              refine wp_exit ?_
              refine th_x (th_x (ib_x (th_n ?_)))
              obtain rfl := Option.some.inj hr
              have hst := ((hst.pull 1).pull 1)
              exact (kpX [(7, I v15)] rfl hst)
    · have hst := ((hst.pull 1).pull 1)
      refine wp_block ?_
      refine wp_loop_fuel (fun j a w => ∃ (v11 : Int) (v12 : Int) (b : Nat → Value), a = mkF 96 b [(0, pt p1 0), (1, I x2), (2, I x3), (7, I v11), (23, .slice a1 x1.l.length c1), (24, I (x1.l.length : Int)), (25, I v12)] ∧ St G w (osl r_T_queue_waiting 70 a1 c1 x1.l :: blk p1 (cl [.slice a1 x1.l.length c1] 30) :: F) ∧ queue_Queue_choose_l1 k x1 x2 x3 j v11 v12 = some y9) (k := k) ⟨((-1) : Int), (0 : Int), (kpX [(0, pt p1 0), (1, I x2), (2, I x3), (7, I (-1)), (23, .slice a1 x1.l.length c1), (24, I (x1.l.length : Int)), (25, I 0)] rfl ⟨hst, hy9⟩)⟩ ?_ ?_
      · rintro _ _ ⟨_, _, _, _, _, h⟩
        rw [queue_Queue_choose_l1] at h
        cases h
      · rintro j _ w ⟨v11, v12, b, rfl, hst, hr⟩
        rw [queue_Queue_choose_l1] at hr
        refine wp_seq ?_
        refine wp_reg ?_
        refine L_pure 1 [(0, pt p1 0), (1, I x2), (2, I x3), (7, I v11), (23, .slice a1 x1.l.length c1), (24, I (x1.l.length : Int)), (25, I v12), (26, .bool (decide (v12 < (x1.l.length : Int))))] (by kernel_rfl) fun b => ?_
        refine wpL_nil ?_
        refine th_n ?_
        refine wp_seq ?_
        refine wp_cond_mkF (t := decide (v12 < (x1.l.length : Int))) rfl (fun h => ?_) (fun h => ?_)
        · have hr := (if_pos h).symm.trans hr
          refine wp_skip ?_
          refine th_n ?_
          obtain ⟨y10, hy10, hk8⟩ := bnd hr
          clear hr
          refine wp_seq_cut (fun a w => ∃ (b : Nat → Value), a = mkF 96 b [(0, pt p1 0), (1, I x2), (2, I x3), (7, I y10), (23, .slice a1 x1.l.length c1), (24, I (x1.l.length : Int)), (25, I v12)] ∧ St G w (osl r_T_queue_waiting 70 a1 c1 x1.l :: blk p1 (cl [.slice a1 x1.l.length c1] 30) :: F)) ?_ ?_
          · rintro _ w ⟨b, rfl, hst⟩
            have hr := hk8
            refine wp_reg ?_
            refine L_pure 2 [(0, pt p1 0), (1, I x2), (2, I x3), (7, I y10), (23, .slice a1 x1.l.length c1), (24, I (x1.l.length : Int)), (25, I (IntKind.i64.wrap (v12 + 1)))] (by kernel_rfl) fun b => ?_
            refine wpL_nil ?_
            refine th_n ?_
            have hst := ((hst.pull 1).pull 1)
            exact ⟨y10, (IntKind.i64.wrap (v12 + 1)), (kpX [(0, pt p1 0), (1, I x2), (2, I x3), (7, I y10), (23, .slice a1 x1.l.length c1), (24, I (x1.l.length : Int)), (25, I (IntKind.i64.wrap (v12 + 1)))] rfl ⟨hst, hr⟩)⟩
          · have hr := hy10
            refine wp_block ?_
            refine wp_seq ?_
            refine wp_reg ?_
            refine L_pure 1 [(0, pt p1 0), (1, I x2), (2, I x3), (7, I v11), (23, .slice a1 x1.l.length c1), (24, I (x1.l.length : Int)), (25, I v12), (27, I v12)] (by kernel_rfl) fun b => ?_
            obtain ⟨x11, hx8, hr⟩ := bnd hr
            refine L_op rfl (O_run (v := pt (ab a1) (ao a1 + v12.toNat * 5)) (w' := w) (R_ia L28 rfl rfl (osl_addr hst hx8) (gt_some hx8).1 (gt_some hx8).2.1) rfl rfl ?_)
            obtain ⟨q8, hc8, hst⟩ := osl_cells hst hx8
            have hst := hst.drop
            refine L_op rfl (O_run (v := .agg #[I x11.Req.ID, .int .u64 x11.Req.Blob, I x11.Req.Vol, I x11.Req.At, I x11.passed]) (w' := w) (R_loadAt (off := ao a1 + v12.toNat * 5) (j := 0) hc8 rfl rfl) rfl rfl ?_)
            refine L_op rfl (O_alloc (i := Try.t70) (z := .agg #[I 0, .int .u64 0, I 0, I 0, I 0]) [I 0, .int .u64 0, I 0, I 0, I 0] hst rfl rfl rfl rfl fun p4 w hst => ?_)
            refine L_pure 1 [(0, pt p1 0), (1, I x2), (2, I x3), (7, I v11), (8, I v12), (9, pt p4 0), (23, .slice a1 x1.l.length c1), (24, I (x1.l.length : Int)), (25, I v12), (29, .agg #[I x11.Req.ID, .int .u64 x11.Req.Blob, I x11.Req.Vol, I x11.Req.At, I x11.passed])] (by kernel_rfl) fun b => ?_
            refine L_op rfl (O_store [I x11.Req.ID, .int .u64 x11.Req.Blob, I x11.Req.Vol, I x11.Req.At, I x11.passed] hst rfl rfl (by kernel_rfl) fun w hst => ?_)
            refine wpL_nil ?_
            refine th_n ?_
            obtain ⟨y11, hy11, hk9⟩ := bnd hr
            clear hr
            refine wp_seq_cut (fun a w => ∃ (b : Nat → Value), a = mkF 96 b [(0, pt p1 0), (1, I x2), (2, I x3), (7, I v11), (8, I v12), (23, .slice a1 x1.l.length c1), (24, I (x1.l.length : Int)), (25, I v12), (50, .bool y11)] ∧ St G w (blk p4 (cl [I x11.Req.ID, .int .u64 x11.Req.Blob, I x11.Req.Vol, I x11.Req.At, I x11.passed] 70) :: osl r_T_queue_waiting 70 a1 c1 x1.l :: blk p1 (cl [.slice a1 x1.l.length c1] 30) :: F)) ?_ ?_
            · rintro _ w ⟨b, rfl, hst⟩
              have hr := hk9
              refine wp_cond_mkF (t := y11) rfl (fun h => ?_) (fun h => ?_)
              · have hr := (if_pos h).symm.trans hr
                refine wp_reg ?_
                refine L_pure 2 [(0, pt p1 0), (1, I x2), (2, I x3), (7, I v12), (23, .slice a1 x1.l.length c1), (24, I (x1.l.length : Int)), (25, I v12)] (by kernel_rfl) fun b => ?_
                refine wpL_nil ?_
                refine ib_n (th_n ?_)
                obtain rfl := Option.some.inj hr
                have hst := (((hst.pull 2).pull 2).cut 2 1)
                exact (kpX [(0, pt p1 0), (1, I x2), (2, I x3), (7, I v12), (23, .slice a1 x1.l.length c1), (24, I (x1.l.length : Int)), (25, I v12)] rfl hst)
              · have hr := (if_neg (by rw [h]; exact Bool.false_ne_true)).symm.trans hr
                refine wp_skip ?_
                refine ib_n (th_n ?_)
                obtain rfl := Option.some.inj hr
                have hst := (((hst.pull 2).pull 2).cut 2 1)
                exact (kpX [(0, pt p1 0), (1, I x2), (2, I x3), (7, I v11), (23, .slice a1 x1.l.length c1), (24, I (x1.l.length : Int)), (25, I v12)] rfl hst)
            · have hr := hy11
              refine wp_regG (SQ (fun w => St G w (blk p4 (cl [I x11.Req.ID, .int .u64 x11.Req.Blob, I x11.Req.Vol, I x11.Req.At, I x11.passed] 70) :: osl r_T_queue_waiting 70 a1 c1 x1.l :: blk p1 (cl [.slice a1 x1.l.length c1] 30) :: F))) rfl ?_
              have hst := hst.draw (n := w.drawn + 1)
              generalize { w with drawn := w.drawn + 1 } = w at hst ⊢
              refine Q_take (i := 0) (v := pt p4 0) rfl (by kernel_rfl) (fun _ _ _ h => h) rfl rfl rfl (fun _ _ => R_pure (by kernel_rfl)) (((hst.pull 2).pull 2).pull 2) ?_
              refine Q_take (i := 1) (v := pt p4 2) rfl (by kernel_rfl) (fun _ _ _ h => h) rfl rfl rfl (fun _ _ => R_pure (by kernel_rfl)) (((hst.pull 2).pull 2).pull 2) ?_
              refine Q_take (i := 2) (v := I x11.Req.Vol) rfl (by kernel_rfl) (fun _ _ _ h => h) rfl rfl rfl (fun w hst => R_load hst rfl rfl) (((hst.pull 2).pull 2).pull 2) ?_
              refine Q_take (i := 3) (v := I x2) rfl (by kernel_rfl) (fun _ _ _ h => h) rfl rfl rfl (fun _ _ => R_pure (by kernel_rfl)) (((hst.pull 2).pull 2).pull 2) ?_
              refine Q_take (i := 4) (v := .bool (x11.Req.Vol == x2)) rfl (by kernel_rfl) (fun _ _ _ h => h) rfl rfl rfl (fun _ _ => R_pure (by kernel_rfl)) (((hst.pull 2).pull 2).pull 2) ?_
              refine Q_take (i := 5) (v := .bool (x11.Req.Vol == x2)) rfl (by kernel_rfl) (fun _ _ _ h => h) rfl rfl rfl (fun _ _ => R_pure (by kernel_rfl)) (((hst.pull 2).pull 2).pull 2) ?_
              by_cases h : (x11.Req.Vol == x2) = true
              · have hr := (if_pos h).symm.trans hr
                refine C_keep ((35, .bool (x11.Req.Vol == x2)) :: [(0, pt p1 0), (1, I x2), (2, I x3), (7, I v11), (8, I v12), (9, pt p4 0), (23, .slice a1 x1.l.length c1), (24, I (x1.l.length : Int)), (25, I v12), (29, .agg #[I x11.Req.ID, .int .u64 x11.Req.Blob, I x11.Req.Vol, I x11.Req.At, I x11.passed]), (30, pt p4 0), (31, pt p4 2), (32, I x11.Req.Vol), (33, I x2), (34, .bool (x11.Req.Vol == x2))]) rfl fun b => ?_
                refine C_bool h ?_
                refine Q_take (i := 6) (v := I v11) rfl (by kernel_rfl) (fun _ _ _ h => h) rfl rfl rfl (fun _ _ => R_pure (by kernel_rfl)) (((hst.pull 2).pull 2).pull 2) ?_
                refine Q_take (i := 7) (v := .bool (decide (v11 < 0))) rfl (by kernel_rfl) (fun _ _ _ h => h) rfl rfl rfl (fun _ _ => R_pure (by kernel_rfl)) (((hst.pull 2).pull 2).pull 2) ?_
                refine Q_take (i := 8) (v := .bool (decide (v11 < 0))) rfl (by kernel_rfl) (fun _ _ _ h => h) rfl rfl rfl (fun _ _ => R_pure (by kernel_rfl)) (((hst.pull 2).pull 2).pull 2) ?_
                by_cases h : (decide (v11 < 0)) = true
                · have hr := (if_pos h).symm.trans hr
                  refine C_keep ((38, .bool (decide (v11 < 0))) :: [(0, pt p1 0), (1, I x2), (2, I x3), (7, I v11), (8, I v12), (9, pt p4 0), (23, .slice a1 x1.l.length c1), (24, I (x1.l.length : Int)), (25, I v12), (29, .agg #[I x11.Req.ID, .int .u64 x11.Req.Blob, I x11.Req.Vol, I x11.Req.At, I x11.passed]), (30, pt p4 0), (31, pt p4 2), (32, I x11.Req.Vol), (33, I x2), (34, .bool (x11.Req.Vol == x2)), (35, .bool true), (36, I v11), (37, .bool (decide (v11 < 0)))]) rfl fun b => ?_
                  refine C_bool h ?_
                  refine Q_skip (i := 9) rfl (by kernel_rfl) (fun _ _ _ h => h) rfl rfl rfl (((hst.pull 2).pull 2).pull 2) ?_
                  refine Q_skip (i := 10) rfl (by kernel_rfl) (fun _ _ _ h => h) rfl rfl rfl (((hst.pull 2).pull 2).pull 2) ?_
                  refine Q_skip (i := 11) rfl (by kernel_rfl) (fun _ _ _ h => h) rfl rfl rfl (((hst.pull 2).pull 2).pull 2) ?_
                  refine Q_skip (i := 12) rfl (by kernel_rfl) (fun _ _ _ h => h) rfl rfl rfl (((hst.pull 2).pull 2).pull 2) ?_
                  refine Q_skip (i := 13) rfl (by kernel_rfl) (fun _ _ _ h => h) rfl rfl rfl (((hst.pull 2).pull 2).pull 2) ?_
                  refine Q_skip (i := 14) rfl (by kernel_rfl) (fun _ _ _ h => h) rfl rfl rfl (((hst.pull 2).pull 2).pull 2) ?_
                  refine Q_skip (i := 15) rfl (by kernel_rfl) (fun _ _ _ h => h) rfl rfl rfl (((hst.pull 2).pull 2).pull 2) ?_
                  refine Q_skip (i := 16) rfl (by kernel_rfl) (fun _ _ _ h => h) rfl rfl rfl (((hst.pull 2).pull 2).pull 2) ?_
                  refine Q_skip (i := 17) rfl (by kernel_rfl) (fun _ _ _ h => h) rfl rfl rfl (((hst.pull 2).pull 2).pull 2) ?_
                  refine Q_skip (i := 18) rfl (by kernel_rfl) (fun _ _ _ h => h) rfl rfl rfl (((hst.pull 2).pull 2).pull 2) ?_
                  refine Q_take (i := 19) (v := .bool true) rfl (by kernel_rfl) (fun _ _ _ h => h) rfl rfl rfl (fun _ _ => R_pure (by kernel_rfl)) (((hst.pull 2).pull 2).pull 2) ?_
                  refine Q_take (i := 20) (v := .bool true) rfl (by kernel_rfl) (fun _ _ _ h => h) rfl rfl rfl (fun _ _ => R_pure (by kernel_rfl)) (((hst.pull 2).pull 2).pull 2) ?_
                  refine wpG_done (by kernel_rfl) ?_ _
                  refine C_keepQ [(0, pt p1 0), (1, I x2), (2, I x3), (7, I v11), (8, I v12), (23, .slice a1 x1.l.length c1), (24, I (x1.l.length : Int)), (25, I v12), (50, .bool true)] rfl fun b => ?_
                  refine th_n ?_
                  obtain rfl := Option.some.inj hr
                  have hst := (((hst.pull 2).pull 2).pull 2)
                  exact (kpX [(0, pt p1 0), (1, I x2), (2, I x3), (7, I v11), (8, I v12), (23, .slice a1 x1.l.length c1), (24, I (x1.l.length : Int)), (25, I v12), (50, .bool true)] rfl hst)
                · have hr := (if_neg h).symm.trans hr
                  refine C_keep ((38, .bool (decide (v11 < 0))) :: [(0, pt p1 0), (1, I x2), (2, I x3), (7, I v11), (8, I v12), (9, pt p4 0), (23, .slice a1 x1.l.length c1), (24, I (x1.l.length : Int)), (25, I v12), (29, .agg #[I x11.Req.ID, .int .u64 x11.Req.Blob, I x11.Req.Vol, I x11.Req.At, I x11.passed]), (30, pt p4 0), (31, pt p4 2), (32, I x11.Req.Vol), (33, I x2), (34, .bool (x11.Req.Vol == x2)), (35, .bool true), (36, I v11), (37, .bool (decide (v11 < 0)))]) rfl fun b => ?_
                  refine C_bool (eq_false_of_ne_true h) ?_
                  refine Q_take (i := 9) (v := .agg #[I x11.Req.ID, .int .u64 x11.Req.Blob, I x11.Req.Vol, I x11.Req.At, I x11.passed]) rfl (by kernel_rfl) (fun _ _ _ h => h) rfl rfl rfl (fun w hst => R_load hst rfl rfl) (((hst.pull 2).pull 2).pull 2) ?_
                  refine Q_take (i := 10) (v := pt p1 0) rfl (by kernel_rfl) (fun _ _ _ h => h) rfl rfl rfl (fun _ _ => R_pure (by kernel_rfl)) (((hst.pull 2).pull 2).pull 2) ?_
                  refine Q_take (i := 11) (v := pt p1 0) rfl (by kernel_rfl) (fun _ _ _ h => h) rfl rfl rfl (fun _ _ => R_pure (by kernel_rfl)) (((hst.pull 2).pull 2).pull 2) ?_
                  refine Q_take (i := 12) (v := pt p1 0) rfl (by kernel_rfl) (fun _ _ _ h => h) rfl rfl rfl (fun _ _ => R_pure (by kernel_rfl)) (((hst.pull 2).pull 2).pull 2) ?_
                  refine Q_take (i := 13) (v := .slice a1 x1.l.length c1) rfl (by kernel_rfl) (fun _ _ _ h => h) rfl rfl rfl (fun w hst => R_load (hst.pull 2) rfl rfl) (((hst.pull 2).pull 2).pull 2) ?_
                  refine Q_take (i := 14) (v := I v11) rfl (by kernel_rfl) (fun _ _ _ h => h) rfl rfl rfl (fun _ _ => R_pure (by kernel_rfl)) (((hst.pull 2).pull 2).pull 2) ?_
                  obtain ⟨x12, hx9, hr⟩ := bnd hr
                  refine Q_take (i := 15) (v := pt (ab a1) (ao a1 + v11.toNat * 5)) rfl (by kernel_rfl) (fun _ _ _ h => h) rfl rfl rfl (fun _ _ => (R_ia L28 rfl rfl (osl_addr (hst.pull 1) hx9) (gt_some hx9).1 (gt_some hx9).2.1)) (((hst.pull 2).pull 2).pull 2) ?_
                  obtain ⟨q9, hc9, hst⟩ := osl_cells (hst.pull 1) hx9
                  have hst := hst.drop
                  refine Q_take (i := 16) (v := .agg #[I x12.Req.ID, .int .u64 x12.Req.Blob, I x12.Req.Vol, I x12.Req.At, I x12.passed]) rfl (by kernel_rfl) (fun _ _ _ h => h) rfl rfl rfl (fun w hst => by obtain ⟨_, hc, _⟩ := osl_cells (hst.pull 1) hx9; exact R_loadAt (off := ao a1 + v11.toNat * 5) (j := 0) hc rfl rfl) (((hst.pull 2).pull 1).pull 2) ?_
                  refine Q_take (i := 17) (v := I x3) rfl (by kernel_rfl) (fun _ _ _ h => h) rfl rfl rfl (fun _ _ => R_pure (by kernel_rfl)) (((hst.pull 2).pull 1).pull 2) ?_
                  obtain ⟨y12, hy12, hr⟩ := bnd hr
                  refine Q_one (i := 18) (by kernel_rfl) rfl rfl (O_call (vs := #[.agg #[I x11.Req.ID, .int .u64 x11.Req.Blob, I x11.Req.Vol, I x11.Req.At, I x11.passed], .agg #[I x12.Req.ID, .int .u64 x12.Req.Blob, I x12.Req.Vol, I x12.Req.At, I x12.passed], I x3]) Try.call37 (by kernel_rfl) (queue_ahead_ok k x11 x12 x3 y12 hst hy12 fun w hst => ?_))
                  refine CK_ret rfl ?_
                  refine ⟨(((hst.pull 2).pull 1).pull 2), ?_⟩
                  refine Q_take (i := 19) (v := .bool y12) rfl (by kernel_rfl) (fun _ _ _ h => h) rfl rfl rfl (fun _ _ => R_pure (by kernel_rfl)) (((hst.pull 2).pull 1).pull 2) ?_
                  refine Q_take (i := 20) (v := .bool y12) rfl (by kernel_rfl) (fun _ _ _ h => h) rfl rfl rfl (fun _ _ => R_pure (by kernel_rfl)) (((hst.pull 2).pull 1).pull 2) ?_
                  refine wpG_done (by kernel_rfl) ?_ _
                  refine C_keepQ [(0, pt p1 0), (1, I x2), (2, I x3), (7, I v11), (8, I v12), (23, .slice a1 x1.l.length c1), (24, I (x1.l.length : Int)), (25, I v12), (50, .bool y12)] rfl fun b => ?_
                  refine th_n ?_
                  obtain rfl := Option.some.inj hr
                  have hst := (((hst.pull 2).pull 1).pull 2)
                  exact (kpX [(0, pt p1 0), (1, I x2), (2, I x3), (7, I v11), (8, I v12), (23, .slice a1 x1.l.length c1), (24, I (x1.l.length : Int)), (25, I v12), (50, .bool y12)] rfl hst)
              · have hr := (if_neg h).symm.trans hr
                refine C_keep ((35, .bool (x11.Req.Vol == x2)) :: [(0, pt p1 0), (1, I x2), (2, I x3), (7, I v11), (8, I v12), (9, pt p4 0), (23, .slice a1 x1.l.length c1), (24, I (x1.l.length : Int)), (25, I v12), (29, .agg #[I x11.Req.ID, .int .u64 x11.Req.Blob, I x11.Req.Vol, I x11.Req.At, I x11.passed]), (30, pt p4 0), (31, pt p4 2), (32, I x11.Req.Vol), (33, I x2), (34, .bool (x11.Req.Vol == x2))]) rfl fun b => ?_
                refine C_bool (eq_false_of_ne_true h) ?_
                refine Q_skip (i := 6) rfl (by kernel_rfl) (fun _ _ _ h => h) rfl rfl rfl (((hst.pull 2).pull 2).pull 2) ?_
                refine Q_skip (i := 7) rfl (by kernel_rfl) (fun _ _ _ h => h) rfl rfl rfl (((hst.pull 2).pull 2).pull 2) ?_
                refine Q_skip (i := 8) rfl (by kernel_rfl) (fun _ _ _ h => h) rfl rfl rfl (((hst.pull 2).pull 2).pull 2) ?_
                refine Q_skip (i := 9) rfl (by kernel_rfl) (fun _ _ _ h => h) rfl rfl rfl (((hst.pull 2).pull 2).pull 2) ?_
                refine Q_skip (i := 10) rfl (by kernel_rfl) (fun _ _ _ h => h) rfl rfl rfl (((hst.pull 2).pull 2).pull 2) ?_
                refine Q_skip (i := 11) rfl (by kernel_rfl) (fun _ _ _ h => h) rfl rfl rfl (((hst.pull 2).pull 2).pull 2) ?_
                refine Q_skip (i := 12) rfl (by kernel_rfl) (fun _ _ _ h => h) rfl rfl rfl (((hst.pull 2).pull 2).pull 2) ?_
                refine Q_skip (i := 13) rfl (by kernel_rfl) (fun _ _ _ h => h) rfl rfl rfl (((hst.pull 2).pull 2).pull 2) ?_
                refine Q_skip (i := 14) rfl (by kernel_rfl) (fun _ _ _ h => h) rfl rfl rfl (((hst.pull 2).pull 2).pull 2) ?_
                refine Q_skip (i := 15) rfl (by kernel_rfl) (fun _ _ _ h => h) rfl rfl rfl (((hst.pull 2).pull 2).pull 2) ?_
                refine Q_skip (i := 16) rfl (by kernel_rfl) (fun _ _ _ h => h) rfl rfl rfl (((hst.pull 2).pull 2).pull 2) ?_
                refine Q_skip (i := 17) rfl (by kernel_rfl) (fun _ _ _ h => h) rfl rfl rfl (((hst.pull 2).pull 2).pull 2) ?_
                refine Q_skip (i := 18) rfl (by kernel_rfl) (fun _ _ _ h => h) rfl rfl rfl (((hst.pull 2).pull 2).pull 2) ?_
                refine Q_skip (i := 19) rfl (by kernel_rfl) (fun _ _ _ h => h) rfl rfl rfl (((hst.pull 2).pull 2).pull 2) ?_
                refine Q_take (i := 20) (v := .bool false) rfl (by kernel_rfl) (fun _ _ _ h => h) rfl rfl rfl (fun _ _ => R_pure (by kernel_rfl)) (((hst.pull 2).pull 2).pull 2) ?_
                refine wpG_done (by kernel_rfl) ?_ _
                refine C_keepQ [(0, pt p1 0), (1, I x2), (2, I x3), (7, I v11), (8, I v12), (23, .slice a1 x1.l.length c1), (24, I (x1.l.length : Int)), (25, I v12), (50, .bool false)] rfl fun b => ?_
                refine th_n ?_
                obtain rfl := Option.some.inj hr
                have hst := (((hst.pull 2).pull 2).pull 2)
                exact (kpX [(0, pt p1 0), (1, I x2), (2, I x3), (7, I v11), (8, I v12), (23, .slice a1 x1.l.length c1), (24, I (x1.l.length : Int)), (25, I v12), (50, .bool false)] rfl hst)
        · have hr := (if_neg (by rw [h]; exact Bool.false_ne_true)).symm.trans hr
          refine wp_exit ?_
          refine th_x (th_x (ib_x (th_n ?_)))
          obtain rfl := Option.some.inj hr
          have hst := ((hst.pull 1).pull 1)
          exact (kpX [(0, pt p1 0), (7, I v11)] rfl hst)
def slices_Delete (_k : Nat) (x1 : (List T_queue_waiting)) (x2 x3 : Int) : Option (List T_queue_waiting) := del x1 x2 x3
set_option maxRecDepth 100000 in
set_option maxHeartbeats 4000000 in
theorem slices_Delete_ok {G w : World} {F : List HP} {R : Ending → World → Prop} (k : Nat) (x1 : (List T_queue_waiting)) (x2 x3 : Int) (a1 : Option Addr) (c1 : Nat) (r : (List T_queue_waiting)) (hst : St G w (osl r_T_queue_waiting 70 a1 c1 x1 :: F)) (hr : slices_Delete k x1 x2 x3 = some r)
    (hR : ∀ (a2 : Option Addr) (c2 : Nat) w', St G w' (osl r_T_queue_waiting 70 a2 c2 r :: F) → R (.returned (.slice a2 r.length c2)) w') :
    Calls Try.prog 28 #[.slice a1 x1.length c1, I x2, I x3] w R := by
  unfold slices_Delete del at hr
  obtain ⟨⟨h0, h1, h2⟩, hr⟩ := chk hr
  obtain rfl := Option.some.inj hr
  obtain ⟨hle, hmx⟩ := osl_len hst
  refine enter Try.func28 rfl [(0, .slice a1 x1.length c1), (1, I x2), (2, I x3)] rfl rfl fun b => ?_
  refine wp_seq (wp_reg ?_)
  refine L_pure 1 [(0, .slice a1 x1.length c1), (1, I x2), (2, I x3)] (by kernel_rfl) fun b => wpL_nil (th_n ?_)
  refine wp_seq (wp_reg ?_)
  refine L_pure 5 [(0, .slice a1 x1.length c1), (1, I x2), (2, I x3), (8, .slice a1 x1.length c1), (9, I x2), (10, I x3), (12, I (x1.length : Int))] (by kernel_rfl) fun b => ?_
  refine L_op rfl (O_run (w' := w) (R_cut3 L28 (len := x1.length) rfl rfl rfl rfl h0 h1 h2 (by omega)) rfl rfl ?_)
  refine wpL_nil (th_n ?_)
  refine wp_seq (wp_seq (wp_reg ?_))
  refine L_pure 3 [(0, .slice a1 x1.length c1), (1, I x2), (2, I x3), (16, .bool (x2 == x3))] (by kernel_rfl) fun b => wpL_nil (th_n ?_)
  refine wp_cond_mkF (t := (x2 == x3)) rfl (fun h => ?_) (fun h => ?_)
  · have e : x2 = x3 := eq_of_beq h
    subst e
    refine wp_seq (wp_reg ?_)
    refine L_pure 2 [(6, .slice a1 x1.length c1)] (by kernel_rfl) fun b => wpL_nil (th_n (wp_ret (th_r (ret1 rfl rfl ?_))))
    have hx : x1.take x2.toNat ++ x1.drop x2.toNat = x1 := List.take_append_drop _ _
    have h9 := hR a1 c1 _ (by rw [hx]; exact hst)
    rw [hx] at h9
    exact h9
  · have hne : x2 ≠ x3 := fun e => by rw [e] at h; simp at h
    refine wp_skip (th_n ?_)
    refine wp_seq (wp_reg ?_)
    refine L_pure 3 [(0, .slice a1 x1.length c1), (1, I x2), (2, I x3), (7, I (x1.length : Int))] (by kernel_rfl) fun b => wpL_nil (th_n ?_)
    rcases osl_open hst with ⟨rfl, rfl, rfl, _⟩ | ⟨g, cur, ecs, rfl, q3, q4, q5, q7, hst1⟩
    · simp at h2; omega
    · refine wp_seq (wp_regG (SP 6 (fun _ => True)) rfl ?_)
      have hst := hst1.draw (n := w.drawn + 1)
      generalize { w with drawn := w.drawn + 1 } = w at hst ⊢
      refine P_pure (i := 0) (v := .slice (some ⟨g, 0, none⟩) x1.length c1) 6 rfl rfl (by kernel_rfl) (fun _ _ _ h => h) rfl rfl rfl (by kernel_rfl) (.inr trivial) ?_
      refine P_pure (i := 1) (v := I x2) 6 rfl rfl (by kernel_rfl) (fun _ _ _ h => h) rfl rfl rfl (by kernel_rfl) (.inr trivial) ?_
      refine P_any (i := 2) 6 rfl rfl (by kernel_rfl) (fun _ _ _ h => h) rfl rfl rfl (fun w => R_cut L28 (len := x1.length) (zl := 0) rfl rfl rfl (by omega) h0 (by omega)) (.inr trivial) ?_
      refine P_pure (i := 3) (v := .slice (some ⟨g, 0, none⟩) x1.length c1) 6 rfl rfl (by kernel_rfl) (fun _ _ _ h => h) rfl rfl rfl (by kernel_rfl) (.inr trivial) ?_
      refine P_pure (i := 4) (v := I x3) 6 rfl rfl (by kernel_rfl) (fun _ _ _ h => h) rfl rfl rfl (by kernel_rfl) (.inr trivial) ?_
      refine P_any (i := 5) 6 rfl rfl (by kernel_rfl) (fun _ _ _ h => h) rfl rfl rfl (fun w => R_cut L28 (len := x1.length) (zh := x1.length) rfl rfl rfl (by omega) h2 (by omega)) (.inr trivial) ?_
      have hc0 : cutAt (some ⟨g, 0, none⟩) c1 (0 : Int).toNat 5 = some ⟨g, 0, none⟩ := by
        unfold cutAt
        by_cases hc : c1 = (0 : Int).toNat
        · rw [if_pos hc]
        · rw [if_neg hc]; rfl
      refine P_act (i := 6) 6 (by kernel_rfl) rfl rfl (by kernel_rfl) ?_
      refine O_app_self (g := g) (i := x2.toNat) (j := x3.toNat) (len := ((x1.length : Int).toNat - x3.toNat)) (cap := c1) (q := cutAt (some ⟨g, 0, none⟩) c1 x3.toNat 5) (c := c1 - x3.toNat) L28 hst q5 q7 (by rw [Int.toNat_natCast]) (by omega) (by omega) q3 ?_ rfl ?_ rfl (fun w cur' hs1 hs2 hst => ?_)
      · show Value.slice (cutAt (some ⟨g, 0, none⟩) c1 (0 : Int).toNat 5) (x2.toNat - (0 : Int).toNat) (c1 - (0 : Int).toNat) = _
        rw [hc0]; rfl
      · intro hl
        unfold cutAt
        rw [if_neg (by rw [Int.toNat_natCast] at hl; omega)]
        simp only [Option.map_some, add_pt, Nat.zero_add]; rfl
      have hlr : (x1.take x2.toNat ++ x1.drop x3.toNat).length = x2.toNat + (x1.length - x3.toNat) := by simp; omega
      refine P_pure (i := 7) (v := .slice (some ⟨g, 0, none⟩) (x1.take x2.toNat ++ x1.drop x3.toNat).length c1) 6 rfl rfl (by kernel_rfl) (fun _ _ _ h => h) rfl rfl rfl (by kernel_rfl) (.inl (by kernel_rfl)) ?_
      refine wpG_done (by kernel_rfl) ?_ _
      refine C_keepQ [(0, .slice (some ⟨g, 0, none⟩) (x1.take x2.toNat ++ x1.drop x3.toNat).length c1), (7, I (x1.length : Int))] rfl fun b => th_n ?_
      refine wp_seq (wp_reg ?_)
      refine L_pure 4 [(0, .slice (some ⟨g, 0, none⟩) (x1.take x2.toNat ++ x1.drop x3.toNat).length c1), (27, .slice (some ⟨g, 0, none⟩) (x1.take x2.toNat ++ x1.drop x3.toNat).length c1), (29, I ((x1.take x2.toNat ++ x1.drop x3.toNat).length : Int)), (30, I (x1.length : Int))] (by kernel_rfl) fun b => ?_
      refine L_op rfl (O_run (w' := w) (R_cut L28 (len := (x1.take x2.toNat ++ x1.drop x3.toNat).length) (cap := c1) rfl rfl rfl (by omega) (by rw [hlr]; omega) (by omega)) rfl rfl ?_)
      refine L_op rfl (O_clear (g := g) (off := (x1.take x2.toNat ++ x1.drop x3.toNat).length * 5) (k := (x1.length : Int).toNat - ((x1.take x2.toNat ++ x1.drop x3.toNat).length : Int).toNat) (c := c1 - ((x1.take x2.toNat ++ x1.drop x3.toNat).length : Int).toNat) L28.ht (inf := Try.t70) (by kernel_rfl) rfl rfl (hst.pull 1) ?_ ?_ (fun w cur2 hz1 hz2 hst => ?_))
      · show Value.slice (cutAt (some ⟨g, 0, none⟩) c1 ((x1.take x2.toNat ++ x1.drop x3.toNat).length : Int).toNat 5) _ _ = _
        unfold cutAt
        rw [if_neg (by rw [Int.toNat_natCast, hlr]; omega)]
        simp only [Option.map_some, add_pt, Nat.zero_add, Int.toNat_natCast]
      · rw [hs1, q5]
        simp only [Int.toNat_natCast]
        show (x1.take x2.toNat ++ x1.drop x3.toNat).length * 5 + (x1.length - (x1.take x2.toNat ++ x1.drop x3.toNat).length) * 5 ≤ c1 * 5
        rw [← Nat.add_mul]
        exact Nat.mul_le_mul_right _ (by rw [hlr]; omega)
      refine wpL_nil (th_n ?_)
      refine wp_seq (wp_reg ?_)
      refine L_pure 2 [(6, .slice (some ⟨g, 0, none⟩) (x1.take x2.toNat ++ x1.drop x3.toNat).length c1)] (by kernel_rfl) fun b => wpL_nil (th_n (wp_ret (ret1 rfl rfl ?_)))
      refine hR _ _ _ (osl_shut (by rw [hlr]; omega) q4 (by rw [hz1, hs1]; exact q5) ?_ (hst.pull 1))
      show cur2.toList.take ((x1.take x2.toNat ++ x1.drop x3.toNat).length * 5) = _
      rw [hz2]
      exact hs2
def queue_Queue_Next_l1 (k : Nat) (y4 : (Int)) : Nat → Int → (List T_queue_waiting) → Option ((List T_queue_waiting))
  | 0, _, _ => none
  | j + 1, v7, v8 => (if decide (v7 < y4) = true then (Option.bind (gt v8 v7) fun x8 => (Option.bind (gt v8 v7) fun x9 => (queue_Queue_Next_l1 k y4 j (IntKind.i64.wrap (v7 + 1)) (v8.set v7.toNat (T_queue_waiting.mk x9.Req (IntKind.i64.wrap (x8.passed + 1))))))) else some (v8))
def queue_Queue_Next (k : Nat) (x1 : T_queue_Queue) (x2 : Int) (x3 : Int) : Option (T_queue_Req × Bool × (List T_queue_waiting)) := (if ((x1.l.length : Int) == 0) = true then some ((T_queue_Req.mk 0 0 0 0), false, x1.l) else (Option.bind (queue_Queue_choose k x1 x2 x3) fun y4 => (Option.bind (gt x1.l y4) fun x7 => (Option.bind (queue_Queue_Next_l1 k y4 k (0 : Int) x1.l) fun y5 => (Option.bind (slices_Delete k y5 y4 (IntKind.i64.wrap (y4 + 1))) fun y6 => some (x7.Req, true, y6))))))
set_option maxRecDepth 100000 in
set_option maxHeartbeats 4000000 in
theorem queue_Queue_Next_ok {G w : World} {F : List HP} {R : Ending → World → Prop} (k : Nat) (x1 : T_queue_Queue) (x2 : Int) (x3 : Int) (p1 : Nat) (a1 : Option Addr) (c1 : Nat) (r : (T_queue_Req × Bool × (List T_queue_waiting))) (hst : St G w (blk p1 (cl [.slice a1 x1.l.length c1] 30) :: osl r_T_queue_waiting 70 a1 c1 x1.l :: F)) (hr : queue_Queue_Next k x1 x2 x3 = some r)
    (hR : ∀ (a5 : Option Addr) (c5 : Nat) w', St G w' (osl r_T_queue_waiting 70 a5 c5 r.2.2 :: blk p1 (cl [.slice a5 r.2.2.length c5] 30) :: F) → R (.returned (.tuple #[.agg #[I r.1.ID, .int .u64 r.1.Blob, I r.1.Vol, I r.1.At], .bool r.2.1])) w') :
    Calls Try.prog 16 #[pt p1 0, I x2, I x3] w R := by
  unfold queue_Queue_Next at hr
  refine enter Try.func16 rfl [(0, pt p1 0), (1, I x2), (2, I x3)] rfl rfl fun b => ?_
  refine wp_seq ?_
  refine wp_reg ?_
  refine L_op rfl (O_alloc (i := Try.t25) (z := .agg #[I 0, .int .u64 0, I 0, I 0]) [I 0, .int .u64 0, I 0, I 0] hst rfl rfl rfl rfl fun p4 w hst => ?_)
  refine L_pure 1 [(0, pt p1 0), (1, I x2), (2, I x3), (6, pt p4 0)] (by kernel_rfl) fun b => ?_
  refine wpL_nil ?_
  refine th_n ?_
  refine wp_seq ?_
  refine wp_seq ?_
  refine wp_reg ?_
  refine L_pure 3 [(0, pt p1 0), (1, I x2), (2, I x3), (6, pt p4 0), (13, pt p1 0)] (by kernel_rfl) fun b => ?_
  refine L_op rfl (O_run (v := .slice a1 x1.l.length c1) (w' := w) (R_load (hst.pull 1) rfl rfl) rfl rfl ?_)
  refine L_pure 2 [(0, pt p1 0), (1, I x2), (2, I x3), (6, pt p4 0), (16, .bool ((x1.l.length : Int) == 0))] (by kernel_rfl) fun b => ?_
  refine wpL_nil ?_
  refine th_n ?_
  refine wp_cond_mkF (t := ((x1.l.length : Int) == 0)) rfl (fun h => ?_) (fun h => ?_)
  · have hr := (if_pos h).symm.trans hr
    refine wp_seq ?_
    refine wp_reg ?_
    refine L_pure 1 [(6, pt p4 0), (17, .agg #[I 0, .int .u64 0, I 0, I 0])] (by kernel_rfl) fun b => ?_
    refine L_op rfl (O_store [I 0, .int .u64 0, I 0, I 0] hst rfl rfl (by kernel_rfl) fun w hst => ?_)
    refine L_pure 1 [(6, pt p4 0), (7, .bool false)] (by kernel_rfl) fun b => ?_
    refine wpL_nil ?_
    refine th_n ?_
    refine wp_ret ?_
    refine th_r ?_
    refine retCT (v := .agg #[I 0, .int .u64 0, I 0, I 0]) (p := p4) (off := 0) (cs := [I 0, .int .u64 0, I 0, I 0]) (T' := 25) rfl rfl hst (by kernel_rfl) rfl ?_
    obtain rfl := Option.some.inj hr
    have hst := (((hst.pull 1).pull 2).cut 2 1)
    exact hR a1 c1 _ hst
  · have hr := (if_neg (by rw [h]; exact Bool.false_ne_true)).symm.trans hr
    refine wp_skip ?_
    refine th_n ?_
    refine wp_seq ?_
    refine wp_reg ?_
    refine L_pure 3 [(0, pt p1 0), (6, pt p4 0), (18, pt p1 0), (19, I x2), (20, I x3)] (by kernel_rfl) fun b => ?_
    obtain ⟨y4, hy4, hr⟩ := bnd hr
    refine L_op rfl (O_call (vs := #[pt p1 0, I x2, I x3]) Try.call27 (by kernel_rfl) (queue_Queue_choose_ok k x1 x2 x3 p1 a1 c1 y4 ((hst.pull 2).pull 2) hy4 fun w hst => ?_))
    refine CK_ret rfl ?_
    refine L_pure 1 [(0, pt p1 0), (6, pt p4 0), (8, I y4)] (by kernel_rfl) fun b => ?_
    refine wpL_nil ?_
    refine th_n ?_
    refine wp_seq ?_
    refine wp_reg ?_
    refine L_pure 3 [(0, pt p1 0), (6, pt p4 0), (8, I y4), (24, pt p1 0)] (by kernel_rfl) fun b => ?_
    refine L_op rfl (O_run (v := .slice a1 x1.l.length c1) (w' := w) (R_load hst rfl rfl) rfl rfl ?_)
    refine L_pure 1 [(0, pt p1 0), (6, pt p4 0), (8, I y4), (25, .slice a1 x1.l.length c1), (26, I y4)] (by kernel_rfl) fun b => ?_
    obtain ⟨x7, hx4, hr⟩ := bnd hr
    refine L_op rfl (O_run (v := pt (ab a1) (ao a1 + y4.toNat * 5)) (w' := w) (R_ia L28 rfl rfl (osl_addr (hst.pull 1) hx4) (gt_some hx4).1 (gt_some hx4).2.1) rfl rfl ?_)
    refine L_pure 1 [(0, pt p1 0), (6, pt p4 0), (8, I y4), (28, pt (ab a1) (ao a1 + y4.toNat * 5))] (by kernel_rfl) fun b => ?_
    obtain ⟨q3, hc3, hst⟩ := osl_cells (hst.pull 1) hx4
    have hst := hst.drop
    refine L_op rfl (O_run (v := .agg #[I x7.Req.ID, .int .u64 x7.Req.Blob, I x7.Req.Vol, I x7.Req.At]) (w' := w) (R_loadAt (off := ao a1 + y4.toNat * 5) (j := 0) hc3 rfl rfl) rfl rfl ?_)
    refine L_op rfl (O_alloc (i := Try.t25) (z := .agg #[I 0, .int .u64 0, I 0, I 0]) [I 0, .int .u64 0, I 0, I 0] hst rfl rfl rfl rfl fun p5 w hst => ?_)
    refine L_op rfl (O_store [I x7.Req.ID, .int .u64 x7.Req.Blob, I x7.Req.Vol, I x7.Req.At] hst rfl rfl (by kernel_rfl) fun w hst => ?_)
    refine wpL_nil ?_
    refine th_n ?_
    refine wp_seq ?_
    refine wp_seq ?_
    refine wp_reg ?_
    refine L_pure 2 [(0, pt p1 0), (6, pt p4 0), (8, I y4), (9, pt p5 0), (30, I y4), (31, I 0)] (by kernel_rfl) fun b => ?_
    refine wpL_nil ?_
    refine th_n ?_
    obtain ⟨y5, hy5, hk2⟩ := bnd hr
    clear hr
    refine wp_cut (fun a w => ∃ (a7 : Option Addr) (c7 : Nat)(b : Nat → Value), a = mkF 58 b [(0, pt p1 0), (6, pt p4 0), (8, I y4), (9, pt p5 0)] ∧ St G w (osl r_T_queue_waiting 70 a7 c7 y5 :: blk p5 (cl [I x7.Req.ID, .int .u64 x7.Req.Blob, I x7.Req.Vol, I x7.Req.At] 25) :: blk p1 (cl [.slice a7 y5.length c7] 30) :: blk p4 (cl [I 0, .int .u64 0, I 0, I 0] 25) :: F)) ?_ ?_
    · rintro _ w ⟨a7, c7, b, rfl, hst⟩
      have hr := hk2
      refine th_n ?_
      refine wp_seq ?_
      refine wp_reg ?_
      refine L_pure 4 [(6, pt p4 0), (8, I y4), (9, pt p5 0), (46, pt p1 0), (49, pt p1 0)] (by kernel_rfl) fun b => ?_
      refine L_op rfl (O_run (v := .slice a7 y5.length c7) (w' := w) (R_load (hst.pull 2) rfl rfl) rfl rfl ?_)
      refine L_pure 3 [(6, pt p4 0), (9, pt p5 0), (46, pt p1 0), (50, .slice a7 y5.length c7), (51, I y4), (53, I (IntKind.i64.wrap (y4 + 1)))] (by kernel_rfl) fun b => ?_
      obtain ⟨y6, hy6, hr⟩ := bnd hr
      refine L_op rfl (O_call (vs := #[.slice a7 y5.length c7, I y4, I (IntKind.i64.wrap (y4 + 1))]) Try.call28 (by kernel_rfl) (slices_Delete_ok k y5 y4 (IntKind.i64.wrap (y4 + 1)) a7 c7 y6 hst hy6 fun a8 c8 w hst => ?_))
      refine CK_ret rfl ?_
      refine L_pure 2 [(6, pt p4 0), (9, pt p5 0), (54, .slice a8 y6.length c8), (56, pt p1 0)] (by kernel_rfl) fun b => ?_
      refine L_op rfl (O_store [.slice a8 y6.length c8] (hst.pull 2) rfl rfl (by kernel_rfl) fun w hst => ?_)
      refine wpL_nil ?_
      refine th_n ?_
      refine wp_seq ?_
      refine wp_reg ?_
      refine L_op rfl (O_run (v := .agg #[I x7.Req.ID, .int .u64 x7.Req.Blob, I x7.Req.Vol, I x7.Req.At]) (w' := w) (R_load (hst.pull 2) rfl rfl) rfl rfl ?_)
      refine L_op rfl (O_store [I x7.Req.ID, .int .u64 x7.Req.Blob, I x7.Req.Vol, I x7.Req.At] (hst.pull 3) rfl rfl (by kernel_rfl) fun w hst => ?_)
      refine L_pure 1 [(6, pt p4 0), (7, .bool true)] (by kernel_rfl) fun b => ?_
      refine wpL_nil ?_
      refine th_n ?_
      refine wp_ret ?_
      refine retCT (v := .agg #[I x7.Req.ID, .int .u64 x7.Req.Blob, I x7.Req.Vol, I x7.Req.At]) (p := p4) (off := 0) (cs := [I x7.Req.ID, .int .u64 x7.Req.Blob, I x7.Req.Vol, I x7.Req.At]) (T' := 25) rfl rfl hst (by kernel_rfl) rfl ?_
      obtain rfl := Option.some.inj hr
      have hst := (((hst.pull 1).pull 2).cut 2 2)
      exact hR a8 c8 _ hst
    · have hst := ((((hst.pull 3).pull 3).pull 2).pull 3)
      refine wp_block ?_
      refine wp_loop_fuel (fun j a w => ∃ (v7 : Int) (v8 : (List T_queue_waiting)) (a6 : Option Addr) (c6 : Nat) (b : Nat → Value), a = mkF 58 b [(0, pt p1 0), (6, pt p4 0), (8, I y4), (9, pt p5 0), (30, I y4), (31, I v7)] ∧ St G w (osl r_T_queue_waiting 70 a6 c6 v8 :: blk p5 (cl [I x7.Req.ID, .int .u64 x7.Req.Blob, I x7.Req.Vol, I x7.Req.At] 25) :: blk p1 (cl [.slice a6 v8.length c6] 30) :: blk p4 (cl [I 0, .int .u64 0, I 0, I 0] 25) :: F) ∧ queue_Queue_Next_l1 k y4 j v7 v8 = some y5) (k := k) ⟨(0 : Int), x1.l, a1, c1, (kpX [(0, pt p1 0), (6, pt p4 0), (8, I y4), (9, pt p5 0), (30, I y4), (31, I 0)] rfl ⟨hst, hy5⟩)⟩ ?_ ?_
      · rintro _ _ ⟨_, _, _, _, _, _, _, h⟩
        rw [queue_Queue_Next_l1] at h
        cases h
      · rintro j _ w ⟨v7, v8, a6, c6, b, rfl, hst, hr⟩
        rw [queue_Queue_Next_l1] at hr
        refine wp_seq ?_
        refine wp_reg ?_
        refine L_pure 1 [(0, pt p1 0), (6, pt p4 0), (8, I y4), (9, pt p5 0), (30, I y4), (31, I v7), (32, .bool (decide (v7 < y4)))] (by kernel_rfl) fun b => ?_
        refine wpL_nil ?_
        refine th_n ?_
        refine wp_seq ?_
        refine wp_cond_mkF (t := decide (v7 < y4)) rfl (fun h => ?_) (fun h => ?_)
        · have hr := (if_pos h).symm.trans hr
          refine wp_skip ?_
          refine th_n ?_
          refine wp_seq ?_
          refine wp_block ?_
          refine wp_seq ?_
          refine wp_reg ?_
          refine L_pure 2 [(0, pt p1 0), (6, pt p4 0), (8, I y4), (9, pt p5 0), (10, I v7), (30, I y4), (31, I v7)] (by kernel_rfl) fun b => ?_
          refine wpL_nil ?_
          refine th_n ?_
          refine wp_reg ?_
          refine L_pure 3 [(0, pt p1 0), (6, pt p4 0), (8, I y4), (9, pt p5 0), (10, I v7), (30, I y4), (31, I v7), (36, pt p1 0)] (by kernel_rfl) fun b => ?_
          refine L_op rfl (O_run (v := .slice a6 v8.length c6) (w' := w) (R_load (hst.pull 2) rfl rfl) rfl rfl ?_)
          refine L_pure 1 [(0, pt p1 0), (6, pt p4 0), (8, I y4), (9, pt p5 0), (30, I y4), (31, I v7), (37, .slice a6 v8.length c6), (38, I v7)] (by kernel_rfl) fun b => ?_
          obtain ⟨x8, hx5, hr⟩ := bnd hr
          refine L_op rfl (O_run (v := pt (ab a6) (ao a6 + v7.toNat * 5)) (w' := w) (R_ia L28 rfl rfl (osl_addr hst hx5) (gt_some hx5).1 (gt_some hx5).2.1) rfl rfl ?_)
          refine L_pure 1 [(0, pt p1 0), (6, pt p4 0), (8, I y4), (9, pt p5 0), (30, I y4), (31, I v7), (37, .slice a6 v8.length c6), (38, I v7), (40, pt (ab a6) (ao a6 + v7.toNat * 5 + 4))] (by kernel_rfl) fun b => ?_
          obtain ⟨q4, hc4, hst⟩ := osl_cells hst hx5
          have hst := hst.drop
          refine L_op rfl (O_run (v := I x8.passed) (w' := w) (R_loadAt (off := ao a6 + v7.toNat * 5) (j := 4) hc4 rfl rfl) rfl rfl ?_)
          refine L_pure 1 [(0, pt p1 0), (6, pt p4 0), (8, I y4), (9, pt p5 0), (30, I y4), (31, I v7), (37, .slice a6 v8.length c6), (38, I v7), (42, I (IntKind.i64.wrap (x8.passed + 1)))] (by kernel_rfl) fun b => ?_
          obtain ⟨x9, hx6, hr⟩ := bnd hr
          refine L_op rfl (O_run (v := pt (ab a6) (ao a6 + v7.toNat * 5)) (w' := w) (R_ia L28 rfl rfl (osl_addr hst hx6) (gt_some hx6).1 (gt_some hx6).2.1) rfl rfl ?_)
          refine L_pure 1 [(0, pt p1 0), (6, pt p4 0), (8, I y4), (9, pt p5 0), (30, I y4), (31, I v7), (42, I (IntKind.i64.wrap (x8.passed + 1))), (44, pt (ab a6) (ao a6 + v7.toNat * 5 + 4))] (by kernel_rfl) fun b => ?_
          refine L_op rfl (O_store_osl (φ := fun _ => True) (hφ := fun _ _ _ h => h) (y := (T_queue_waiting.mk x9.Req (IntKind.i64.wrap (x8.passed + 1)))) (j := 4) (hst := (St.triv (fun _ => trivial) hst)) hx6 rfl rfl (by rintro m cs - ⟨y, rfl, hy⟩; exact ⟨_, rfl, ⟨y, rfl, hy⟩⟩) fun w hst => ?_)
          refine wpL_nil ?_
          refine ib_n (th_n ?_)
          refine wp_reg ?_
          refine L_pure 2 [(0, pt p1 0), (6, pt p4 0), (8, I y4), (9, pt p5 0), (30, I y4), (31, I (IntKind.i64.wrap (v7 + 1)))] (by kernel_rfl) fun b => ?_
          refine wpL_nil ?_
          refine th_n ?_
          have hst := ((((hst.pull 3).pull 3).pull 3).pull 3)
          have hst : St G w (osl r_T_queue_waiting 70 a6 c6 (v8.set v7.toNat (T_queue_waiting.mk x9.Req (IntKind.i64.wrap (x8.passed + 1)))) :: blk p5 (cl [I x7.Req.ID, .int .u64 x7.Req.Blob, I x7.Req.Vol, I x7.Req.At] 25) :: blk p1 (cl [.slice a6 (v8.set v7.toNat (T_queue_waiting.mk x9.Req (IntKind.i64.wrap (x8.passed + 1)))).length c6] 30) :: blk p4 (cl [I 0, .int .u64 0, I 0, I 0] 25) :: F) := by simp only [List.length_set]; exact hst
          exact ⟨(IntKind.i64.wrap (v7 + 1)), (v8.set v7.toNat (T_queue_waiting.mk x9.Req (IntKind.i64.wrap (x8.passed + 1)))), a6, c6, (kpX [(0, pt p1 0), (6, pt p4 0), (8, I y4), (9, pt p5 0), (30, I y4), (31, I (IntKind.i64.wrap (v7 + 1)))] rfl ⟨hst, hr⟩)⟩
        · have hr := (if_neg (by rw [h]; exact Bool.false_ne_true)).symm.trans hr
          refine wp_exit ?_
          refine th_x (th_x (ib_x (th_n ?_)))
          obtain rfl := Option.some.inj hr
          have hst := ((((hst.pull 3).pull 3).pull 3).pull 3)
          exact ⟨a6, c6, (kpX [(0, pt p1 0), (6, pt p4 0), (8, I y4), (9, pt p5 0)] rfl hst)⟩
def glacierlaw16_awake (k : Nat) : Option (Bool) := (Option.bind (queue_Queue_Add k (T_queue_Queue.mk ([])) (T_queue_Req.mk 1 0 1 5)) fun y10 => (Option.bind (queue_Queue_Add k (T_queue_Queue.mk y10.2) (T_queue_Req.mk 2 0 0 9)) fun y11 => (Option.bind (queue_Queue_Add k (T_queue_Queue.mk y11.2) (T_queue_Req.mk 2 0 3 9)) fun y12 => (Option.bind (queue_Queue_Add k (T_queue_Queue.mk y12.2) (T_queue_Req.mk 3 0 0 2)) fun y13 => (Option.bind (queue_Queue_Next k (T_queue_Queue.mk y13.2) 0 4) fun y14 => (Option.bind (queue_Queue_Next k (T_queue_Queue.mk y14.2.2) 0 9) fun y15 => (Option.bind (queue_Queue_Next k (T_queue_Queue.mk y15.2.2) 0 2) fun y16 => (Option.bind (queue_Queue_Next k (T_queue_Queue.mk y16.2.2) 0 2) fun y17 => (Option.bind (if (y14.1.ID == 2) = true then (if (y15.1.ID == 3) = true then (if (y16.1.ID == 1) = true then (if (!y17.2.1) = true then some ((!y12.1)) else some (false)) else some (false)) else some (false)) else some (false)) fun y18 => some (y18))))))))))
set_option maxRecDepth 100000 in
set_option maxHeartbeats 4000000 in
theorem glacierlaw16_awake_ok {G w : World} {F : List HP} {R : Ending → World → Prop} (k : Nat) (r : (Bool)) (hst : St G w (F)) (hr : glacierlaw16_awake k = some r)
    (hR : ∀ w', St G w' (F) → R (.returned (.bool r)) w') :
    Calls Try.prog 12 #[] w R := by
  unfold glacierlaw16_awake at hr
  refine enter Try.func12 rfl [] rfl rfl fun b => ?_
  refine wp_seq ?_
  refine wp_reg ?_
  refine L_pure 1 [] (by kernel_rfl) fun b => ?_
  refine wpL_nil ?_
  refine th_n ?_
  refine wp_seq ?_
  refine wp_reg ?_
  refine L_op rfl (O_alloc (i := Try.t30) (z := .agg #[.slice none 0 0]) [.slice none 0 0] hst rfl rfl rfl rfl fun p6 w hst => ?_)
  refine wpL_nil ?_
  refine th_n ?_
  refine wp_seq ?_
  refine wp_reg ?_
  refine L_pure 1 [(1, pt p6 0), (11, .agg #[I 1, .int .u64 0, I 1, I 5])] (by kernel_rfl) fun b => ?_
  obtain ⟨y10, hy10, hr⟩ := bnd hr
  have hst := osl_nil r_T_queue_waiting 70 hst
  refine L_op rfl (O_call (vs := #[pt p6 0, .agg #[I 1, .int .u64 0, I 1, I 5]]) Try.call14 (by kernel_rfl) (queue_Queue_Add_ok k (T_queue_Queue.mk ([])) (T_queue_Req.mk 1 0 1 5) p6 none 0 y10 (hst.pull 1) hy10 fun a9 c9 w hst => ?_))
  refine CK_ret rfl ?_
  refine wpL_nil ?_
  refine th_n ?_
  refine wp_seq ?_
  refine wp_reg ?_
  refine L_pure 1 [(1, pt p6 0), (13, .agg #[I 2, .int .u64 0, I 0, I 9])] (by kernel_rfl) fun b => ?_
  obtain ⟨y11, hy11, hr⟩ := bnd hr
  refine L_op rfl (O_call (vs := #[pt p6 0, .agg #[I 2, .int .u64 0, I 0, I 9]]) Try.call14 (by kernel_rfl) (queue_Queue_Add_ok k (T_queue_Queue.mk y10.2) (T_queue_Req.mk 2 0 0 9) p6 a9 c9 y11 (hst.pull 1) hy11 fun a10 c10 w hst => ?_))
  refine CK_ret rfl ?_
  refine wpL_nil ?_
  refine th_n ?_
  refine wp_seq ?_
  refine wp_reg ?_
  refine L_pure 1 [(1, pt p6 0), (15, .agg #[I 2, .int .u64 0, I 3, I 9])] (by kernel_rfl) fun b => ?_
  obtain ⟨y12, hy12, hr⟩ := bnd hr
  refine L_op rfl (O_call (vs := #[pt p6 0, .agg #[I 2, .int .u64 0, I 3, I 9]]) Try.call14 (by kernel_rfl) (queue_Queue_Add_ok k (T_queue_Queue.mk y11.2) (T_queue_Req.mk 2 0 3 9) p6 a10 c10 y12 (hst.pull 1) hy12 fun a11 c11 w hst => ?_))
  refine CK_ret rfl ?_
  refine L_pure 1 [(1, pt p6 0), (2, .bool y12.1)] (by kernel_rfl) fun b => ?_
  refine wpL_nil ?_
  refine th_n ?_
  refine wp_seq ?_
  refine wp_reg ?_
  refine L_pure 1 [(1, pt p6 0), (2, .bool y12.1), (17, .agg #[I 3, .int .u64 0, I 0, I 2])] (by kernel_rfl) fun b => ?_
  obtain ⟨y13, hy13, hr⟩ := bnd hr
  refine L_op rfl (O_call (vs := #[pt p6 0, .agg #[I 3, .int .u64 0, I 0, I 2]]) Try.call14 (by kernel_rfl) (queue_Queue_Add_ok k (T_queue_Queue.mk y12.2) (T_queue_Req.mk 3 0 0 2) p6 a11 c11 y13 (hst.pull 1) hy13 fun a12 c12 w hst => ?_))
  refine CK_ret rfl ?_
  refine wpL_nil ?_
  refine th_n ?_
  refine wp_seq ?_
  refine wp_reg ?_
  obtain ⟨y14, hy14, hr⟩ := bnd hr
  refine L_op rfl (O_call (vs := #[pt p6 0, I 0, I 4]) Try.call16 (by kernel_rfl) (queue_Queue_Next_ok k (T_queue_Queue.mk y13.2) 0 4 p6 a12 c12 y14 (hst.pull 1) hy14 fun a13 c13 w hst => ?_))
  refine CK_ret rfl ?_
  refine L_pure 3 [(1, pt p6 0), (2, .bool y12.1), (21, .agg #[I y14.1.ID, .int .u64 y14.1.Blob, I y14.1.Vol, I y14.1.At]), (22, .bool y14.2.1)] (by kernel_rfl) fun b => ?_
  refine L_op rfl (O_alloc (i := Try.t25) (z := .agg #[I 0, .int .u64 0, I 0, I 0]) [I 0, .int .u64 0, I 0, I 0] hst rfl rfl rfl rfl fun p7 w hst => ?_)
  refine L_op rfl (O_store [I y14.1.ID, .int .u64 y14.1.Blob, I y14.1.Vol, I y14.1.At] hst rfl rfl (by kernel_rfl) fun w hst => ?_)
  refine L_pure 1 [(1, pt p6 0), (2, .bool y12.1), (3, pt p7 0)] (by kernel_rfl) fun b => ?_
  refine wpL_nil ?_
  refine th_n ?_
  refine wp_seq ?_
  refine wp_reg ?_
  obtain ⟨y15, hy15, hr⟩ := bnd hr
  refine L_op rfl (O_call (vs := #[pt p6 0, I 0, I 9]) Try.call16 (by kernel_rfl) (queue_Queue_Next_ok k (T_queue_Queue.mk y14.2.2) 0 9 p6 a13 c13 y15 ((hst.pull 1).pull 2) hy15 fun a14 c14 w hst => ?_))
  refine CK_ret rfl ?_
  refine L_pure 3 [(1, pt p6 0), (2, .bool y12.1), (3, pt p7 0), (25, .agg #[I y15.1.ID, .int .u64 y15.1.Blob, I y15.1.Vol, I y15.1.At]), (26, .bool y15.2.1)] (by kernel_rfl) fun b => ?_
  refine L_op rfl (O_alloc (i := Try.t25) (z := .agg #[I 0, .int .u64 0, I 0, I 0]) [I 0, .int .u64 0, I 0, I 0] hst rfl rfl rfl rfl fun p8 w hst => ?_)
  refine L_op rfl (O_store [I y15.1.ID, .int .u64 y15.1.Blob, I y15.1.Vol, I y15.1.At] hst rfl rfl (by kernel_rfl) fun w hst => ?_)
  refine L_pure 1 [(1, pt p6 0), (2, .bool y12.1), (3, pt p7 0), (5, pt p8 0)] (by kernel_rfl) fun b => ?_
  refine wpL_nil ?_
  refine th_n ?_
  refine wp_seq ?_
  refine wp_reg ?_
  obtain ⟨y16, hy16, hr⟩ := bnd hr
  refine L_op rfl (O_call (vs := #[pt p6 0, I 0, I 2]) Try.call16 (by kernel_rfl) (queue_Queue_Next_ok k (T_queue_Queue.mk y15.2.2) 0 2 p6 a14 c14 y16 ((hst.pull 1).pull 2) hy16 fun a15 c15 w hst => ?_))
  refine CK_ret rfl ?_
  refine L_pure 3 [(1, pt p6 0), (2, .bool y12.1), (3, pt p7 0), (5, pt p8 0), (29, .agg #[I y16.1.ID, .int .u64 y16.1.Blob, I y16.1.Vol, I y16.1.At]), (30, .bool y16.2.1)] (by kernel_rfl) fun b => ?_
  refine L_op rfl (O_alloc (i := Try.t25) (z := .agg #[I 0, .int .u64 0, I 0, I 0]) [I 0, .int .u64 0, I 0, I 0] hst rfl rfl rfl rfl fun p9 w hst => ?_)
  refine L_op rfl (O_store [I y16.1.ID, .int .u64 y16.1.Blob, I y16.1.Vol, I y16.1.At] hst rfl rfl (by kernel_rfl) fun w hst => ?_)
  refine L_pure 1 [(1, pt p6 0), (2, .bool y12.1), (3, pt p7 0), (5, pt p8 0), (7, pt p9 0)] (by kernel_rfl) fun b => ?_
  refine wpL_nil ?_
  refine th_n ?_
  refine wp_seq ?_
  refine wp_reg ?_
  obtain ⟨y17, hy17, hr⟩ := bnd hr
  refine L_op rfl (O_call (vs := #[pt p6 0, I 0, I 2]) Try.call16 (by kernel_rfl) (queue_Queue_Next_ok k (T_queue_Queue.mk y16.2.2) 0 2 p6 a15 c15 y17 ((hst.pull 1).pull 2) hy17 fun a16 c16 w hst => ?_))
  refine CK_ret rfl ?_
  refine L_pure 3 [(2, .bool y12.1), (3, pt p7 0), (5, pt p8 0), (7, pt p9 0), (33, .agg #[I y17.1.ID, .int .u64 y17.1.Blob, I y17.1.Vol, I y17.1.At]), (34, .bool y17.2.1)] (by kernel_rfl) fun b => ?_
  refine L_op rfl (O_alloc (i := Try.t25) (z := .agg #[I 0, .int .u64 0, I 0, I 0]) [I 0, .int .u64 0, I 0, I 0] hst rfl rfl rfl rfl fun p10 w hst => ?_)
  refine L_op rfl (O_store [I y17.1.ID, .int .u64 y17.1.Blob, I y17.1.Vol, I y17.1.At] hst rfl rfl (by kernel_rfl) fun w hst => ?_)
  refine L_pure 1 [(2, .bool y12.1), (3, pt p7 0), (5, pt p8 0), (7, pt p9 0), (10, .bool y17.2.1)] (by kernel_rfl) fun b => ?_
  refine wpL_nil ?_
  refine th_n ?_
  obtain ⟨y18, hy18, hk2⟩ := bnd hr
  clear hr
  refine wp_seq_cut (fun a w => ∃ (b : Nat → Value), a = mkF 56 b [(0, .bool y18)] ∧ St G w (blk p10 (cl [I y17.1.ID, .int .u64 y17.1.Blob, I y17.1.Vol, I y17.1.At] 25) :: osl r_T_queue_waiting 70 a16 c16 y17.2.2 :: blk p6 (cl [.slice a16 y17.2.2.length c16] 30) :: blk p9 (cl [I y16.1.ID, .int .u64 y16.1.Blob, I y16.1.Vol, I y16.1.At] 25) :: blk p8 (cl [I y15.1.ID, .int .u64 y15.1.Blob, I y15.1.Vol, I y15.1.At] 25) :: blk p7 (cl [I y14.1.ID, .int .u64 y14.1.Blob, I y14.1.Vol, I y14.1.At] 25) :: F)) ?_ ?_
  · rintro _ w ⟨b, rfl, hst⟩
    have hr := hk2
    refine wp_ret ?_
    refine ret1 rfl rfl ?_
    obtain rfl := Option.some.inj hr
    have hst := (hst.cut 0 6)
    exact hR _ hst
  · have hr := hy18
    refine wp_reg ?_
    refine L_pure 1 [(2, .bool y12.1), (5, pt p8 0), (7, pt p9 0), (10, .bool y17.2.1), (35, pt p7 0)] (by kernel_rfl) fun b => ?_
    refine L_op rfl (O_run (v := I y14.1.ID) (w' := w) (R_load (hst.pull 5) rfl rfl) rfl rfl ?_)
    refine L_pure 2 [(2, .bool y12.1), (5, pt p8 0), (7, pt p9 0), (10, .bool y17.2.1), (38, .bool (y14.1.ID == 2))] (by kernel_rfl) fun b => ?_
    by_cases h : (y14.1.ID == 2) = true
    · have hr := (if_pos h).symm.trans hr
      refine L_keep ((38, .bool (y14.1.ID == 2)) :: [(2, .bool y12.1), (5, pt p8 0), (7, pt p9 0), (10, .bool y17.2.1)]) rfl fun b => ?_
      refine L_bool h ?_
      refine L_pure 1 [(2, .bool y12.1), (7, pt p9 0), (10, .bool y17.2.1), (38, .bool true), (39, pt p8 0)] (by kernel_rfl) fun b => ?_
      refine L_op rfl (O_run (v := I y15.1.ID) (w' := w) (R_load (hst.pull 4) rfl rfl) rfl rfl ?_)
      refine L_pure 3 [(2, .bool y12.1), (7, pt p9 0), (10, .bool y17.2.1), (43, .bool (y15.1.ID == 3))] (by kernel_rfl) fun b => ?_
      by_cases h : (y15.1.ID == 3) = true
      · have hr := (if_pos h).symm.trans hr
        refine L_keep ((43, .bool (y15.1.ID == 3)) :: [(2, .bool y12.1), (7, pt p9 0), (10, .bool y17.2.1)]) rfl fun b => ?_
        refine L_bool h ?_
        refine L_pure 1 [(2, .bool y12.1), (10, .bool y17.2.1), (43, .bool true), (44, pt p9 0)] (by kernel_rfl) fun b => ?_
        refine L_op rfl (O_run (v := I y16.1.ID) (w' := w) (R_load (hst.pull 3) rfl rfl) rfl rfl ?_)
        refine L_pure 3 [(2, .bool y12.1), (10, .bool y17.2.1), (48, .bool (y16.1.ID == 1))] (by kernel_rfl) fun b => ?_
        by_cases h : (y16.1.ID == 1) = true
        · have hr := (if_pos h).symm.trans hr
          refine L_keep ((48, .bool (y16.1.ID == 1)) :: [(2, .bool y12.1), (10, .bool y17.2.1)]) rfl fun b => ?_
          refine L_bool h ?_
          refine L_pure 4 [(2, .bool y12.1), (52, .bool (!y17.2.1))] (by kernel_rfl) fun b => ?_
          by_cases h : (!y17.2.1) = true
          · have hr := (if_pos h).symm.trans hr
            refine L_keep ((52, .bool (!y17.2.1)) :: [(2, .bool y12.1)]) rfl fun b => ?_
            refine L_bool h ?_
            refine L_pure 4 [(0, .bool (!y12.1))] (by kernel_rfl) fun b => ?_
            refine wpL_nil ?_
            refine th_n ?_
            obtain rfl := Option.some.inj hr
            have hst := ((((((hst.pull 5).pull 5).pull 5).pull 5).pull 5).pull 5)
            exact (kpX [(0, .bool (!y12.1))] rfl hst)
          · have hr := (if_neg h).symm.trans hr
            refine L_keep ((52, .bool (!y17.2.1)) :: [(2, .bool y12.1)]) rfl fun b => ?_
            refine L_bool (eq_false_of_ne_true h) ?_
            refine L_pure 4 [(0, .bool false)] (by kernel_rfl) fun b => ?_
            refine wpL_nil ?_
            refine th_n ?_
            obtain rfl := Option.some.inj hr
            have hst := ((((((hst.pull 5).pull 5).pull 5).pull 5).pull 5).pull 5)
            exact (kpX [(0, .bool false)] rfl hst)
        · have hr := (if_neg h).symm.trans hr
          refine L_keep ((48, .bool (y16.1.ID == 1)) :: [(2, .bool y12.1), (10, .bool y17.2.1)]) rfl fun b => ?_
          refine L_bool (eq_false_of_ne_true h) ?_
          refine L_pure 8 [(0, .bool false)] (by kernel_rfl) fun b => ?_
          refine wpL_nil ?_
          refine th_n ?_
          obtain rfl := Option.some.inj hr
          have hst := ((((((hst.pull 5).pull 5).pull 5).pull 5).pull 5).pull 5)
          exact (kpX [(0, .bool false)] rfl hst)
      · have hr := (if_neg h).symm.trans hr
        refine L_keep ((43, .bool (y15.1.ID == 3)) :: [(2, .bool y12.1), (7, pt p9 0), (10, .bool y17.2.1)]) rfl fun b => ?_
        refine L_bool (eq_false_of_ne_true h) ?_
        refine L_pure 13 [(0, .bool false)] (by kernel_rfl) fun b => ?_
        refine wpL_nil ?_
        refine th_n ?_
        obtain rfl := Option.some.inj hr
        have hst := ((((((hst.pull 5).pull 5).pull 5).pull 5).pull 5).pull 5)
        exact (kpX [(0, .bool false)] rfl hst)
    · have hr := (if_neg h).symm.trans hr
      refine L_keep ((38, .bool (y14.1.ID == 2)) :: [(2, .bool y12.1), (5, pt p8 0), (7, pt p9 0), (10, .bool y17.2.1)]) rfl fun b => ?_
      refine L_bool (eq_false_of_ne_true h) ?_
      refine L_pure 18 [(0, .bool false)] (by kernel_rfl) fun b => ?_
      refine wpL_nil ?_
      refine th_n ?_
      obtain rfl := Option.some.inj hr
      have hst := ((((((hst.pull 5).pull 5).pull 5).pull 5).pull 5).pull 5)
      exact (kpX [(0, .bool false)] rfl hst)
def glacierlaw16_small (_k : Nat) (x1 : T_queue_Req) : Option (T_queue_Req) := some ((T_queue_Req.mk x1.ID x1.Blob (mn2 (mx2 x1.Vol 0) 11) (mn2 (mx2 x1.At 0) 1000000000)))
set_option maxRecDepth 100000 in
set_option maxHeartbeats 4000000 in
theorem glacierlaw16_small_ok {G w : World} {F : List HP} {R : Ending → World → Prop} (k : Nat) (x1 : T_queue_Req) (r : (T_queue_Req)) (hst : St G w (F)) (hr : glacierlaw16_small k x1 = some r)
    (hR : ∀ w', St G w' (F) → R (.returned (.agg #[I r.ID, .int .u64 r.Blob, I r.Vol, I r.At])) w') :
    Calls Try.prog 13 #[.agg #[I x1.ID, .int .u64 x1.Blob, I x1.Vol, I x1.At]] w R := by
  unfold glacierlaw16_small at hr
  refine enter Try.func13 rfl [(0, .agg #[I x1.ID, .int .u64 x1.Blob, I x1.Vol, I x1.At])] rfl rfl fun b => ?_
  refine wp_seq ?_
  refine wp_reg ?_
  refine L_op rfl (O_box [I x1.ID, .int .u64 x1.Blob, I x1.Vol, I x1.At] hst rfl rfl fun p3 w hst => ?_)
  refine L_op rfl (O_alloc (i := Try.t25) (z := .agg #[I 0, .int .u64 0, I 0, I 0]) [I 0, .int .u64 0, I 0, I 0] hst rfl rfl rfl rfl fun p4 w hst => ?_)
  refine wpL_nil ?_
  refine th_n ?_
  refine wp_seq ?_
  refine wp_reg ?_
  refine L_pure 1 [(1, pt p3 0), (2, pt p4 0), (3, pt p3 2)] (by kernel_rfl) fun b => ?_
  refine L_op rfl (O_run (v := I x1.Vol) (w' := w) (R_load (hst.pull 1) rfl rfl) rfl rfl ?_)
  refine L_pure 3 [(1, pt p3 0), (2, pt p4 0), (6, I (mn2 (mx2 x1.Vol 0) 11)), (7, pt p3 2)] (by kernel_rfl) fun b => ?_
  refine L_op rfl (O_store [I x1.ID, .int .u64 x1.Blob, I (mn2 (mx2 x1.Vol 0) 11), I x1.At] (hst.pull 1) rfl rfl (by kernel_rfl) fun w hst => ?_)
  refine wpL_nil ?_
  refine th_n ?_
  refine wp_seq ?_
  refine wp_reg ?_
  refine L_pure 1 [(1, pt p3 0), (2, pt p4 0), (8, pt p3 3)] (by kernel_rfl) fun b => ?_
  refine L_op rfl (O_run (v := I x1.At) (w' := w) (R_load hst rfl rfl) rfl rfl ?_)
  refine L_pure 3 [(1, pt p3 0), (2, pt p4 0), (11, I (mn2 (mx2 x1.At 0) 1000000000)), (12, pt p3 3)] (by kernel_rfl) fun b => ?_
  refine L_op rfl (O_store [I x1.ID, .int .u64 x1.Blob, I (mn2 (mx2 x1.Vol 0) 11), I (mn2 (mx2 x1.At 0) 1000000000)] hst rfl rfl (by kernel_rfl) fun w hst => ?_)
  refine wpL_nil ?_
  refine th_n ?_
  refine wp_seq ?_
  refine wp_reg ?_
  refine L_op rfl (O_run (v := .agg #[I x1.ID, .int .u64 x1.Blob, I (mn2 (mx2 x1.Vol 0) 11), I (mn2 (mx2 x1.At 0) 1000000000)]) (w' := w) (R_load hst rfl rfl) rfl rfl ?_)
  refine L_op rfl (O_store [I x1.ID, .int .u64 x1.Blob, I (mn2 (mx2 x1.Vol 0) 11), I (mn2 (mx2 x1.At 0) 1000000000)] (hst.pull 1) rfl rfl (by kernel_rfl) fun w hst => ?_)
  refine wpL_nil ?_
  refine th_n ?_
  refine wp_ret ?_
  refine retC (v := .agg #[I x1.ID, .int .u64 x1.Blob, I (mn2 (mx2 x1.Vol 0) 11), I (mn2 (mx2 x1.At 0) 1000000000)]) (p := p4) (off := 0) (cs := [I x1.ID, .int .u64 x1.Blob, I (mn2 (mx2 x1.Vol 0) 11), I (mn2 (mx2 x1.At 0) 1000000000)]) (T' := 25) rfl rfl hst (by kernel_rfl) ?_
  obtain rfl := Option.some.inj hr
  have hst := (hst.cut 0 2)
  exact hR _ hst
def queue_Queue_Drop (k : Nat) (x1 : T_queue_Queue) (x2 : Int) : Option (Bool × (List T_queue_waiting)) := (Option.bind (queue_Queue_find k x1 x2) fun y3 => (if decide (y3 < 0) = true then some (false, x1.l) else (Option.bind (slices_Delete k x1.l y3 (IntKind.i64.wrap (y3 + 1))) fun y4 => some (true, y4))))
set_option maxRecDepth 100000 in
set_option maxHeartbeats 4000000 in
theorem queue_Queue_Drop_ok {G w : World} {F : List HP} {R : Ending → World → Prop} (k : Nat) (x1 : T_queue_Queue) (x2 : Int) (p1 : Nat) (a1 : Option Addr) (c1 : Nat) (r : (Bool × (List T_queue_waiting))) (hst : St G w (blk p1 (cl [.slice a1 x1.l.length c1] 30) :: osl r_T_queue_waiting 70 a1 c1 x1.l :: F)) (hr : queue_Queue_Drop k x1 x2 = some r)
    (hR : ∀ (a3 : Option Addr) (c3 : Nat) w', St G w' (osl r_T_queue_waiting 70 a3 c3 r.2 :: blk p1 (cl [.slice a3 r.2.length c3] 30) :: F) → R (.returned (.bool r.1)) w') :
    Calls Try.prog 17 #[pt p1 0, I x2] w R := by
  unfold queue_Queue_Drop at hr
  refine enter Try.func17 rfl [(0, pt p1 0), (1, I x2)] rfl rfl fun b => ?_
  refine wp_seq ?_
  refine wp_reg ?_
  refine L_pure 1 [(0, pt p1 0), (1, I x2)] (by kernel_rfl) fun b => ?_
  refine wpL_nil ?_
  refine th_n ?_
  refine wp_seq ?_
  refine wp_reg ?_
  refine L_pure 2 [(0, pt p1 0), (6, pt p1 0), (7, I x2)] (by kernel_rfl) fun b => ?_
  obtain ⟨y3, hy3, hr⟩ := bnd hr
  refine L_op rfl (O_call (vs := #[pt p1 0, I x2]) Try.call26 (by kernel_rfl) (queue_Queue_find_ok k x1 x2 p1 a1 c1 y3 ((hst.pull 1).pull 1) hy3 fun w hst => ?_))
  refine CK_ret rfl ?_
  refine L_pure 1 [(0, pt p1 0), (5, I y3)] (by kernel_rfl) fun b => ?_
  refine wpL_nil ?_
  refine th_n ?_
  refine wp_seq ?_
  refine wp_seq ?_
  refine wp_reg ?_
  refine L_pure 2 [(0, pt p1 0), (5, I y3), (10, .bool (decide (y3 < 0)))] (by kernel_rfl) fun b => ?_
  refine wpL_nil ?_
  refine th_n ?_
  refine wp_cond_mkF (t := decide (y3 < 0)) rfl (fun h => ?_) (fun h => ?_)
  · have hr := (if_pos h).symm.trans hr
    refine wp_seq ?_
    refine wp_reg ?_
    refine L_pure 1 [(4, .bool false)] (by kernel_rfl) fun b => ?_
    refine wpL_nil ?_
    refine th_n ?_
    refine wp_ret ?_
    refine th_r ?_
    refine ret1 rfl rfl ?_
    obtain rfl := Option.some.inj hr
    have hst := (hst.pull 1)
    exact hR a1 c1 _ hst
  · have hr := (if_neg (by rw [h]; exact Bool.false_ne_true)).symm.trans hr
    refine wp_skip ?_
    refine th_n ?_
    refine wp_seq ?_
    refine wp_reg ?_
    refine L_pure 4 [(5, I y3), (11, pt p1 0), (14, pt p1 0)] (by kernel_rfl) fun b => ?_
    refine L_op rfl (O_run (v := .slice a1 x1.l.length c1) (w' := w) (R_load hst rfl rfl) rfl rfl ?_)
    refine L_pure 3 [(11, pt p1 0), (15, .slice a1 x1.l.length c1), (16, I y3), (18, I (IntKind.i64.wrap (y3 + 1)))] (by kernel_rfl) fun b => ?_
    obtain ⟨y4, hy4, hr⟩ := bnd hr
    refine L_op rfl (O_call (vs := #[.slice a1 x1.l.length c1, I y3, I (IntKind.i64.wrap (y3 + 1))]) Try.call28 (by kernel_rfl) (slices_Delete_ok k x1.l y3 (IntKind.i64.wrap (y3 + 1)) a1 c1 y4 (hst.pull 1) hy4 fun a4 c4 w hst => ?_))
    refine CK_ret rfl ?_
    refine L_pure 2 [(19, .slice a4 y4.length c4), (21, pt p1 0)] (by kernel_rfl) fun b => ?_
    refine L_op rfl (O_store [.slice a4 y4.length c4] (hst.pull 1) rfl rfl (by kernel_rfl) fun w hst => ?_)
    refine wpL_nil ?_
    refine th_n ?_
    refine wp_seq ?_
    refine wp_reg ?_
    refine L_pure 1 [(4, .bool true)] (by kernel_rfl) fun b => ?_
    refine wpL_nil ?_
    refine th_n ?_
    refine wp_ret ?_
    refine ret1 rfl rfl ?_
    obtain rfl := Option.some.inj hr
    have hst := (hst.pull 1)
    exact hR a4 c4 _ hst
def glacierlaw16_QueueAll_l1 (k : Nat) (x1 : (List T_queue_Req)) : Nat → Int → (List (Int × Bool)) → (List T_queue_waiting) → Option (Flow (Bool) ((List (Int × Bool)) × (List T_queue_waiting)))
  | 0, _, _, _ => none
  | j + 1, v22, v23, v24 => (Option.bind (if decide (v22 < (x1.length : Int)) = true then some (decide (v22 < 20)) else some (false)) fun y19 => (if y19 = true then (Option.bind (gt x1 v22) fun x9 => (Option.bind (glacierlaw16_small k x9) fun y20 => (Option.bind (Option.bind (queue_Queue_Add k (T_queue_Queue.mk v24) y20) fun y22 => some ((y22.1 == ((mget v23 y20.ID).getD false)), y22.2)) fun y21 => (if y21.1 = true then some (Flow.ret (false)) else (glacierlaw16_QueueAll_l1 k x1 j (IntKind.i64.wrap (v22 + 1)) (mput v23 y20.ID true) y21.2))))) else some (Flow.go (v23, v24))))
def glacierlaw16_QueueAll_l2 (k : Nat) (x2 : (List Int)) : Nat → Int → (List (Int × Bool)) → (List T_queue_waiting) → Option (Flow (Bool) ((List (Int × Bool)) × (List T_queue_waiting)))
  | 0, _, _, _ => none
  | j + 1, v28, v29, v30 => (Option.bind (if decide (v28 < (x2.length : Int)) = true then some (decide (v28 < 10)) else some (false)) fun y24 => (if y24 = true then (Option.bind (Option.bind (gt x2 v28) fun x10 => (Option.bind (gt x2 v28) fun x11 => (Option.bind (queue_Queue_Drop k (T_queue_Queue.mk v30) x10) fun y26 => some ((y26.1 != ((mget v29 x11).getD false)), y26.2)))) fun y25 => (if y25.1 = true then some (Flow.ret (false)) else (Option.bind (gt x2 v28) fun x12 => (glacierlaw16_QueueAll_l2 k x2 j (IntKind.i64.wrap (v28 + 1)) (mdel v29 x12) y25.2)))) else some (Flow.go (v29, v30))))
def glacierlaw16_QueueAll_l3 (k : Nat) (x3 : (List Int)) (z5 : (List (Int × Bool)) × (List T_queue_waiting)) : Nat → Int → (List (Int × Bool)) → (List T_queue_waiting) → Option (Flow (Bool) ((List (Int × Bool)) × (List T_queue_waiting)))
  | 0, _, _, _ => none
  | j + 1, v34, v35, v36 => (if decide (v34 < (z5.1.length : Int)) = true then (Option.bind (if decide ((x3.length : Int) > 0) = true then (if (x3.length : Int) ≠ 0 then (Option.bind (gt x3 (v34.tmod (x3.length : Int))) fun x13 => some (x13)) else none) else some (((-1) : Int))) fun y28 => (Option.bind (queue_Queue_Next k (T_queue_Queue.mk v36) y28 v34) fun y29 => (Option.bind (if (!y29.2.1) = true then some (true) else some ((!((mget v35 y29.1.ID).getD false)))) fun y30 => (if y30 = true then some (Flow.ret (false)) else (glacierlaw16_QueueAll_l3 k x3 z5 j (IntKind.i64.wrap (v34 + 1)) (mdel v35 y29.1.ID) y29.2.2))))) else some (Flow.go (v35, v36)))
def glacierlaw16_QueueAll (k : Nat) (x1 : (List T_queue_Req)) (x2 : (List Int)) (x3 : (List Int)) : Option (Bool) := (Option.bind (glacierlaw16_awake k) fun y17 => (if (!y17) = true then some (false) else (Option.bind (glacierlaw16_QueueAll_l1 k x1 k (0 : Int) ([] : (List (Int × Bool))) ([])) fun y18 => (match y18 with | Flow.ret r => some r | Flow.go z4 => (Option.bind (glacierlaw16_QueueAll_l2 k x2 k (0 : Int) z4.1 z4.2) fun y23 => (match y23 with | Flow.ret r => some r | Flow.go z5 => (Option.bind (glacierlaw16_QueueAll_l3 k x3 z5 k (0 : Int) z5.1 z5.2) fun y27 => (match y27 with | Flow.ret r => some r | Flow.go z6 => (Option.bind (queue_Queue_Next k (T_queue_Queue.mk z6.2) 0 0) fun y31 => (Option.bind (if (!y31.2.1) = true then some (((z6.1.length : Int) == 0)) else some (false)) fun y32 => some (y32)))))))))))
set_option maxRecDepth 100000 in
set_option maxHeartbeats 4000000 in
theorem glacierlaw16_QueueAll_ok {G w : World} {F : List HP} {R : Ending → World → Prop} (k : Nat) (x1 : (List T_queue_Req)) (x2 : (List Int)) (x3 : (List Int)) (a1 : Option Addr) (c1 : Nat) (a2 : Option Addr) (c2 : Nat) (a3 : Option Addr) (c3 : Nat) (r : (Bool)) (hst : St G w (dsl r_T_queue_Req a1 c1 x1 :: dsl (rI .i64) a2 c2 x2 :: dsl (rI .i64) a3 c3 x3 :: F)) (hr : glacierlaw16_QueueAll k x1 x2 x3 = some r)
    (hR : ∀ w', St G w' (dsl r_T_queue_Req a1 c1 x1 :: dsl (rI .i64) a2 c2 x2 :: dsl (rI .i64) a3 c3 x3 :: F) → R (.returned (.bool r)) w') :
    Calls Try.prog 5 #[.slice a1 x1.length c1, .slice a2 x2.length c2, .slice a3 x3.length c3] w R := by
  unfold glacierlaw16_QueueAll at hr
  refine enter Try.func5 rfl [(0, .slice a1 x1.length c1), (1, .slice a2 x2.length c2), (2, .slice a3 x3.length c3)] rfl rfl fun b => ?_
  refine wp_seq ?_
  refine wp_reg ?_
  refine L_pure 1 [(0, .slice a1 x1.length c1), (1, .slice a2 x2.length c2), (2, .slice a3 x3.length c3)] (by kernel_rfl) fun b => ?_
  refine wpL_nil ?_
  refine th_n ?_
  refine wp_seq ?_
  refine wp_seq ?_
  refine wp_reg ?_
  obtain ⟨y17, hy17, hr⟩ := bnd hr
  refine L_op rfl (O_call (vs := #[]) Try.call12 (by kernel_rfl) (glacierlaw16_awake_ok k y17 hst hy17 fun w hst => ?_))
  refine CK_ret rfl ?_
  refine L_pure 1 [(0, .slice a1 x1.length c1), (1, .slice a2 x2.length c2), (2, .slice a3 x3.length c3), (20, .bool (!y17))] (by kernel_rfl) fun b => ?_
  refine wpL_nil ?_
  refine th_n ?_
  refine wp_cond_mkF (t := (!y17)) rfl (fun h => ?_) (fun h => ?_)
  · have hr := (if_pos h).symm.trans hr
    refine wp_seq ?_
    refine wp_reg ?_
    refine L_pure 1 [(6, .bool false)] (by kernel_rfl) fun b => ?_
    refine wpL_nil ?_
    refine th_n ?_
    refine wp_ret ?_
    refine th_r ?_
    refine ret1 rfl rfl ?_
    obtain rfl := Option.some.inj hr
    have hst := (((hst.pull 2).pull 2).pull 2)
    exact hR _ hst
  · have hr := (if_neg (by rw [h]; exact Bool.false_ne_true)).symm.trans hr
    refine wp_skip ?_
    refine th_n ?_
    refine wp_seq ?_
    refine wp_reg ?_
    refine L_op rfl (O_alloc (i := Try.t30) (z := .agg #[.slice none 0 0]) [.slice none 0 0] hst rfl rfl rfl rfl fun p6 w hst => ?_)
    refine wpL_nil ?_
    refine th_n ?_
    refine wp_seq ?_
    refine wp_reg ?_
    refine L_op rfl (O_makeMap (fun n => .int .i64 n) (fun b => .bool b) hst rfl fun p7 w hst => ?_)
    refine L_pure 1 [(0, .slice a1 x1.length c1), (1, .slice a2 x2.length c2), (2, .slice a3 x3.length c3), (7, pt p6 0), (8, .map (some p7))] (by kernel_rfl) fun b => ?_
    refine wpL_nil ?_
    refine th_n ?_
    refine wp_seq ?_
    refine wp_seq ?_
    refine wp_reg ?_
    refine L_pure 1 [(0, .slice a1 x1.length c1), (1, .slice a2 x2.length c2), (2, .slice a3 x3.length c3), (7, pt p6 0), (8, .map (some p7)), (9, I 0)] (by kernel_rfl) fun b => ?_
    refine wpL_nil ?_
    refine th_n ?_
    obtain ⟨y18, hy18, hk11⟩ := bnd hr
    clear hr
    refine wp_cut (fun a w => ∃ (z4 : (List (Int × Bool)) × (List T_queue_waiting)) (a17 : Option Addr) (c17 : Nat)(b : Nat → Value), y18 = .go z4 ∧ a = mkF 120 b [(1, .slice a2 x2.length c2), (2, .slice a3 x3.length c3), (7, pt p6 0), (8, .map (some p7))] ∧ St G w (osl r_T_queue_waiting 70 a17 c17 z4.2 :: mpo (fun n => .int .i64 n) (fun b => .bool b) p7 z4.1 :: blk p6 (cl [.slice a17 z4.2.length c17] 30) :: dsl r_T_queue_Req a1 c1 x1 :: dsl (rI .i64) a2 c2 x2 :: dsl (rI .i64) a3 c3 x3 :: F)) ?_ ?_
    · rintro _ w ⟨z4, a17, c17, b, rfl, rfl, hst⟩
      have hr := hk11
      refine th_n ?_
      refine wp_seq ?_
      refine wp_seq ?_
      refine wp_reg ?_
      refine L_pure 1 [(1, .slice a2 x2.length c2), (2, .slice a3 x3.length c3), (7, pt p6 0), (8, .map (some p7)), (11, I 0)] (by kernel_rfl) fun b => ?_
      refine wpL_nil ?_
      refine th_n ?_
      obtain ⟨y23, hy23, hk14⟩ := bnd hr
      clear hr
      refine wp_cut (fun a w => ∃ (z5 : (List (Int × Bool)) × (List T_queue_waiting)) (a21 : Option Addr) (c21 : Nat)(b : Nat → Value), y23 = .go z5 ∧ a = mkF 120 b [(2, .slice a3 x3.length c3), (7, pt p6 0), (8, .map (some p7))] ∧ St G w (osl r_T_queue_waiting 70 a21 c21 z5.2 :: mpo (fun n => .int .i64 n) (fun b => .bool b) p7 z5.1 :: blk p6 (cl [.slice a21 z5.2.length c21] 30) :: dsl r_T_queue_Req a1 c1 x1 :: dsl (rI .i64) a2 c2 x2 :: dsl (rI .i64) a3 c3 x3 :: F)) ?_ ?_
      · rintro _ w ⟨z5, a21, c21, b, rfl, rfl, hst⟩
        have hr := hk14
        refine th_n ?_
        refine wp_seq ?_
        refine wp_reg ?_
        refine L_pure 1 [(2, .slice a3 x3.length c3), (7, pt p6 0), (8, .map (some p7)), (74, .map (some p7))] (by kernel_rfl) fun b => ?_
        refine L_op rfl (O_run (v := I (z5.1.length : Int)) (w' := w) (R_maplen Try.underlying38 (hst.pull 1) rfl) rfl rfl ?_)
        refine L_pure 1 [(2, .slice a3 x3.length c3), (7, pt p6 0), (8, .map (some p7)), (12, I (z5.1.length : Int))] (by kernel_rfl) fun b => ?_
        refine wpL_nil ?_
        refine th_n ?_
        refine wp_seq ?_
        refine wp_seq ?_
        refine wp_reg ?_
        refine L_pure 1 [(2, .slice a3 x3.length c3), (7, pt p6 0), (8, .map (some p7)), (12, I (z5.1.length : Int)), (13, I 0)] (by kernel_rfl) fun b => ?_
        refine wpL_nil ?_
        refine th_n ?_
        obtain ⟨y27, hy27, hk17⟩ := bnd hr
        clear hr
        refine wp_cut (fun a w => ∃ (z6 : (List (Int × Bool)) × (List T_queue_waiting)) (a25 : Option Addr) (c25 : Nat)(b : Nat → Value), y27 = .go z6 ∧ a = mkF 120 b [(7, pt p6 0), (8, .map (some p7))] ∧ St G w (osl r_T_queue_waiting 70 a25 c25 z6.2 :: mpo (fun n => .int .i64 n) (fun b => .bool b) p7 z6.1 :: blk p6 (cl [.slice a25 z6.2.length c25] 30) :: dsl r_T_queue_Req a1 c1 x1 :: dsl (rI .i64) a2 c2 x2 :: dsl (rI .i64) a3 c3 x3 :: F)) ?_ ?_
        · rintro _ w ⟨z6, a25, c25, b, rfl, rfl, hst⟩
          have hr := hk17
          refine th_n ?_
          refine wp_seq ?_
          refine wp_reg ?_
          obtain ⟨y31, hy31, hr⟩ := bnd hr
          refine L_op rfl (O_call (vs := #[pt p6 0, I 0, I 0]) Try.call16 (by kernel_rfl) (queue_Queue_Next_ok k (T_queue_Queue.mk z6.2) 0 0 p6 a25 c25 y31 (hst.pull 2) hy31 fun a27 c27 w hst => ?_))
          refine CK_ret rfl ?_
          refine L_pure 3 [(8, .map (some p7)), (111, .agg #[I y31.1.ID, .int .u64 y31.1.Blob, I y31.1.Vol, I y31.1.At]), (112, .bool y31.2.1)] (by kernel_rfl) fun b => ?_
          refine L_op rfl (O_alloc (i := Try.t25) (z := .agg #[I 0, .int .u64 0, I 0, I 0]) [I 0, .int .u64 0, I 0, I 0] hst rfl rfl rfl rfl fun p10 w hst => ?_)
          refine L_op rfl (O_store [I y31.1.ID, .int .u64 y31.1.Blob, I y31.1.Vol, I y31.1.At] hst rfl rfl (by kernel_rfl) fun w hst => ?_)
          refine L_pure 1 [(8, .map (some p7)), (18, .bool y31.2.1)] (by kernel_rfl) fun b => ?_
          refine wpL_nil ?_
          refine th_n ?_
          obtain ⟨y32, hy32, hk20⟩ := bnd hr
          clear hr
          refine wp_seq_cut (fun a w => ∃ (b : Nat → Value), a = mkF 120 b [(6, .bool y32)] ∧ St G w (blk p10 (cl [I y31.1.ID, .int .u64 y31.1.Blob, I y31.1.Vol, I y31.1.At] 25) :: osl r_T_queue_waiting 70 a27 c27 y31.2.2 :: blk p6 (cl [.slice a27 y31.2.2.length c27] 30) :: mpo (fun n => .int .i64 n) (fun b => .bool b) p7 z6.1 :: dsl r_T_queue_Req a1 c1 x1 :: dsl (rI .i64) a2 c2 x2 :: dsl (rI .i64) a3 c3 x3 :: F)) ?_ ?_
          · rintro _ w ⟨b, rfl, hst⟩
            have hr := hk20
            refine wp_ret ?_
            refine ret1 rfl rfl ?_
            obtain rfl := Option.some.inj hr
            have hst := ((((hst.pull 6).pull 6).pull 6).cut 3 4)
            exact hR _ hst
          · have hr := hy32
            refine wp_reg ?_
            refine L_pure 3 [(8, .map (some p7)), (115, .bool (!y31.2.1))] (by kernel_rfl) fun b => ?_
            by_cases h : (!y31.2.1) = true
            · have hr := (if_pos h).symm.trans hr
              refine L_keep ((115, .bool (!y31.2.1)) :: [(8, .map (some p7))]) rfl fun b => ?_
              refine L_bool h ?_
              refine L_pure 1 [(115, .bool true), (116, .map (some p7))] (by kernel_rfl) fun b => ?_
              refine L_op rfl (O_run (v := I (z6.1.length : Int)) (w' := w) (R_maplen Try.underlying38 (hst.pull 3) rfl) rfl rfl ?_)
              refine L_pure 3 [(6, .bool ((z6.1.length : Int) == 0))] (by kernel_rfl) fun b => ?_
              refine wpL_nil ?_
              refine th_n ?_
              obtain rfl := Option.some.inj hr
              have hst := (((((((hst.pull 6).pull 6).pull 6).pull 6).pull 6).pull 6).pull 6)
              exact (kpX [(6, .bool ((z6.1.length : Int) == 0))] rfl hst)
            · have hr := (if_neg h).symm.trans hr
              refine L_keep ((115, .bool (!y31.2.1)) :: [(8, .map (some p7))]) rfl fun b => ?_
              refine L_bool (eq_false_of_ne_true h) ?_
              refine L_pure 5 [(6, .bool false)] (by kernel_rfl) fun b => ?_
              refine wpL_nil ?_
              refine th_n ?_
              obtain rfl := Option.some.inj hr
              have hst := (((((((hst.pull 6).pull 6).pull 6).pull 6).pull 6).pull 6).pull 6)
              exact (kpX [(6, .bool false)] rfl hst)
        · have hst := ((((((hst.pull 5).pull 5).pull 5).pull 5).pull 5).pull 5)
          refine wp_block ?_
          refine wp_loop_fuel (fun j a w => ∃ (v34 : Int) (v35 : (List (Int × Bool))) (v36 : (List T_queue_waiting)) (a24 : Option Addr) (c24 : Nat) (b : Nat → Value), a = mkF 120 b [(2, .slice a3 x3.length c3), (7, pt p6 0), (8, .map (some p7)), (12, I (z5.1.length : Int)), (13, I v34)] ∧ St G w (osl r_T_queue_waiting 70 a24 c24 v36 :: mpo (fun n => .int .i64 n) (fun b => .bool b) p7 v35 :: blk p6 (cl [.slice a24 v36.length c24] 30) :: dsl r_T_queue_Req a1 c1 x1 :: dsl (rI .i64) a2 c2 x2 :: dsl (rI .i64) a3 c3 x3 :: F) ∧ glacierlaw16_QueueAll_l3 k x3 z5 j v34 v35 v36 = some y27) (k := k) ⟨(0 : Int), z5.1, z5.2, a21, c21, (kpX [(2, .slice a3 x3.length c3), (7, pt p6 0), (8, .map (some p7)), (12, I (z5.1.length : Int)), (13, I 0)] rfl ⟨hst, hy27⟩)⟩ ?_ ?_
          · rintro _ _ ⟨_, _, _, _, _, _, _, _, h⟩
            rw [glacierlaw16_QueueAll_l3] at h
            cases h
          · rintro j _ w ⟨v34, v35, v36, a24, c24, b, rfl, hst, hr⟩
            rw [glacierlaw16_QueueAll_l3] at hr
            refine wp_seq ?_
            refine wp_seq ?_
            refine wp_reg ?_
            refine L_pure 3 [(2, .slice a3 x3.length c3), (7, pt p6 0), (8, .map (some p7)), (12, I (z5.1.length : Int)), (13, I v34), (78, .bool (decide (v34 < (z5.1.length : Int))))] (by kernel_rfl) fun b => ?_
            refine wpL_nil ?_
            refine th_n ?_
            refine wp_cond_mkF (t := decide (v34 < (z5.1.length : Int))) rfl (fun h => ?_) (fun h => ?_)
            · have hr := (if_pos h).symm.trans hr
              refine wp_skip ?_
              refine th_n ?_
              refine wp_seq ?_
              refine wp_block ?_
              refine wp_seq ?_
              refine wp_reg ?_
              refine L_pure 1 [(2, .slice a3 x3.length c3), (7, pt p6 0), (8, .map (some p7)), (12, I (z5.1.length : Int)), (13, I v34), (14, I (-1))] (by kernel_rfl) fun b => ?_
              refine wpL_nil ?_
              refine th_n ?_
              obtain ⟨y28, hy28, hk18⟩ := bnd hr
              clear hr
              refine wp_seq_cut (fun a w => ∃ (b : Nat → Value), a = mkF 120 b [(2, .slice a3 x3.length c3), (7, pt p6 0), (8, .map (some p7)), (12, I (z5.1.length : Int)), (13, I v34), (14, I y28)] ∧ St G w (dsl (rI .i64) a3 c3 x3 :: osl r_T_queue_waiting 70 a24 c24 v36 :: mpo (fun n => .int .i64 n) (fun b => .bool b) p7 v35 :: blk p6 (cl [.slice a24 v36.length c24] 30) :: dsl r_T_queue_Req a1 c1 x1 :: dsl (rI .i64) a2 c2 x2 :: F)) ?_ ?_
              · rintro _ w ⟨b, rfl, hst⟩
                have hr := hk18
                refine wp_seq ?_
                refine wp_reg ?_
                refine L_pure 2 [(2, .slice a3 x3.length c3), (7, pt p6 0), (8, .map (some p7)), (12, I (z5.1.length : Int)), (13, I v34), (92, I y28), (93, I v34)] (by kernel_rfl) fun b => ?_
                obtain ⟨y29, hy29, hr⟩ := bnd hr
                refine L_op rfl (O_call (vs := #[pt p6 0, I y28, I v34]) Try.call16 (by kernel_rfl) (queue_Queue_Next_ok k (T_queue_Queue.mk v36) y28 v34 p6 a24 c24 y29 ((hst.pull 1).pull 3) hy29 fun a26 c26 w hst => ?_))
                refine CK_ret rfl ?_
                refine L_pure 3 [(2, .slice a3 x3.length c3), (7, pt p6 0), (8, .map (some p7)), (12, I (z5.1.length : Int)), (13, I v34), (95, .agg #[I y29.1.ID, .int .u64 y29.1.Blob, I y29.1.Vol, I y29.1.At]), (96, .bool y29.2.1)] (by kernel_rfl) fun b => ?_
                refine L_op rfl (O_alloc (i := Try.t25) (z := .agg #[I 0, .int .u64 0, I 0, I 0]) [I 0, .int .u64 0, I 0, I 0] hst rfl rfl rfl rfl fun p9 w hst => ?_)
                refine L_op rfl (O_store [I y29.1.ID, .int .u64 y29.1.Blob, I y29.1.Vol, I y29.1.At] hst rfl rfl (by kernel_rfl) fun w hst => ?_)
                refine L_pure 1 [(2, .slice a3 x3.length c3), (7, pt p6 0), (8, .map (some p7)), (12, I (z5.1.length : Int)), (13, I v34), (15, pt p9 0), (16, .bool y29.2.1)] (by kernel_rfl) fun b => ?_
                refine wpL_nil ?_
                refine th_n ?_
                refine wp_seq ?_
                obtain ⟨y30, hy30, hk19⟩ := bnd hr
                clear hr
                refine wp_seq_cut (fun a w => ∃ (b : Nat → Value), a = mkF 120 b [(2, .slice a3 x3.length c3), (7, pt p6 0), (8, .map (some p7)), (12, I (z5.1.length : Int)), (13, I v34), (15, pt p9 0), (105, .bool y30)] ∧ St G w (blk p9 (cl [I y29.1.ID, .int .u64 y29.1.Blob, I y29.1.Vol, I y29.1.At] 25) :: osl r_T_queue_waiting 70 a26 c26 y29.2.2 :: blk p6 (cl [.slice a26 y29.2.2.length c26] 30) :: dsl (rI .i64) a3 c3 x3 :: mpo (fun n => .int .i64 n) (fun b => .bool b) p7 v35 :: dsl r_T_queue_Req a1 c1 x1 :: dsl (rI .i64) a2 c2 x2 :: F)) ?_ ?_
                · rintro _ w ⟨b, rfl, hst⟩
                  have hr := hk19
                  refine wp_cond_mkF (t := y30) rfl (fun h => ?_) (fun h => ?_)
                  · have hr := (if_pos h).symm.trans hr
                    refine wp_seq ?_
                    refine wp_reg ?_
                    refine L_pure 1 [(6, .bool false)] (by kernel_rfl) fun b => ?_
                    refine wpL_nil ?_
                    refine th_n ?_
                    refine wp_ret ?_
                    refine th_r (ib_r (th_r (th_r (ib_r (th_r (th_r ?_))))))
                    refine ret1 rfl rfl ?_
                    obtain rfl := Option.some.inj hr
                    obtain rfl := Option.some.inj hk17
                    have hst := ((((hst.pull 3).pull 6).pull 6).cut 3 4)
                    exact hR _ hst
                  · have hr := (if_neg (by rw [h]; exact Bool.false_ne_true)).symm.trans hr
                    refine wp_skip ?_
                    refine th_n ?_
                    refine wp_reg ?_
                    refine L_pure 2 [(2, .slice a3 x3.length c3), (7, pt p6 0), (8, .map (some p7)), (12, I (z5.1.length : Int)), (13, I v34), (106, .map (some p7)), (107, pt p9 0)] (by kernel_rfl) fun b => ?_
                    refine L_op rfl (O_run (v := I y29.1.ID) (w' := w) (R_load hst rfl rfl) rfl rfl ?_)
                    refine L_op rfl (O_delete M38 (k := y29.1.ID) (hst.pull 4) rfl rfl fun w hst => ?_)
                    refine wpL_nil ?_
                    refine ib_n (th_n ?_)
                    refine wp_reg ?_
                    refine L_pure 3 [(2, .slice a3 x3.length c3), (7, pt p6 0), (8, .map (some p7)), (12, I (z5.1.length : Int)), (13, I (IntKind.i64.wrap (v34 + 1)))] (by kernel_rfl) fun b => ?_
                    refine wpL_nil ?_
                    refine th_n ?_
                    have hst := (((((((hst.pull 4).pull 6).pull 6).pull 6).pull 4).pull 6).cut 6 1)
                    exact ⟨(IntKind.i64.wrap (v34 + 1)), (mdel v35 y29.1.ID), y29.2.2, a26, c26, (kpX [(2, .slice a3 x3.length c3), (7, pt p6 0), (8, .map (some p7)), (12, I (z5.1.length : Int)), (13, I (IntKind.i64.wrap (v34 + 1)))] rfl ⟨hst, hr⟩)⟩
                · have hr := hy30
                  refine wp_reg ?_
                  refine L_pure 3 [(2, .slice a3 x3.length c3), (7, pt p6 0), (8, .map (some p7)), (12, I (z5.1.length : Int)), (13, I v34), (15, pt p9 0), (99, .bool (!y29.2.1))] (by kernel_rfl) fun b => ?_
                  by_cases h : (!y29.2.1) = true
                  · have hr := (if_pos h).symm.trans hr
                    refine L_keep ((99, .bool (!y29.2.1)) :: [(2, .slice a3 x3.length c3), (7, pt p6 0), (8, .map (some p7)), (12, I (z5.1.length : Int)), (13, I v34), (15, pt p9 0)]) rfl fun b => ?_
                    refine L_bool h ?_
                    refine L_pure 6 [(2, .slice a3 x3.length c3), (7, pt p6 0), (8, .map (some p7)), (12, I (z5.1.length : Int)), (13, I v34), (15, pt p9 0), (105, .bool true)] (by kernel_rfl) fun b => ?_
                    refine wpL_nil ?_
                    refine th_n ?_
                    obtain rfl := Option.some.inj hr
                    have hst := (((((((hst.pull 6).pull 6).pull 6).pull 6).pull 6).pull 6).pull 6)
                    exact (kpX [(2, .slice a3 x3.length c3), (7, pt p6 0), (8, .map (some p7)), (12, I (z5.1.length : Int)), (13, I v34), (15, pt p9 0), (105, .bool true)] rfl hst)
                  · have hr := (if_neg h).symm.trans hr
                    refine L_keep ((99, .bool (!y29.2.1)) :: [(2, .slice a3 x3.length c3), (7, pt p6 0), (8, .map (some p7)), (12, I (z5.1.length : Int)), (13, I v34), (15, pt p9 0)]) rfl fun b => ?_
                    refine L_bool (eq_false_of_ne_true h) ?_
                    refine L_pure 2 [(2, .slice a3 x3.length c3), (7, pt p6 0), (8, .map (some p7)), (12, I (z5.1.length : Int)), (13, I v34), (15, pt p9 0), (99, .bool false), (100, .map (some p7)), (101, pt p9 0)] (by kernel_rfl) fun b => ?_
                    refine L_op rfl (O_run (v := I y29.1.ID) (w' := w) (R_load hst rfl rfl) rfl rfl ?_)
                    refine L_op rfl (O_run (v := .bool ((mget v35 y29.1.ID).getD false)) (w' := w) (R_lookup M38 false (hst.pull 4) rfl rfl) rfl rfl ?_)
                    refine L_pure 2 [(2, .slice a3 x3.length c3), (7, pt p6 0), (8, .map (some p7)), (12, I (z5.1.length : Int)), (13, I v34), (15, pt p9 0), (105, .bool (!((mget v35 y29.1.ID).getD false)))] (by kernel_rfl) fun b => ?_
                    refine wpL_nil ?_
                    refine th_n ?_
                    obtain rfl := Option.some.inj hr
                    have hst := (((((((hst.pull 6).pull 6).pull 6).pull 6).pull 6).pull 6).pull 6)
                    exact (kpX [(2, .slice a3 x3.length c3), (7, pt p6 0), (8, .map (some p7)), (12, I (z5.1.length : Int)), (13, I v34), (15, pt p9 0), (105, .bool (!((mget v35 y29.1.ID).getD false)))] rfl hst)
              · have hr := hy28
                refine wp_seq ?_
                refine wp_reg ?_
                refine L_pure 3 [(2, .slice a3 x3.length c3), (7, pt p6 0), (8, .map (some p7)), (12, I (z5.1.length : Int)), (13, I v34), (14, I (-1)), (83, .bool (decide ((x3.length : Int) > 0)))] (by kernel_rfl) fun b => ?_
                refine wpL_nil ?_
                refine th_n ?_
                refine wp_cond_mkF (t := decide ((x3.length : Int) > 0)) rfl (fun h => ?_) (fun h => ?_)
                · have hr := (if_pos h).symm.trans hr
                  refine wp_reg ?_
                  refine L_pure 4 [(2, .slice a3 x3.length c3), (7, pt p6 0), (8, .map (some p7)), (12, I (z5.1.length : Int)), (13, I v34), (84, .slice a3 x3.length c3), (85, I v34), (87, I (x3.length : Int))] (by kernel_rfl) fun b => ?_
                  obtain ⟨hy2, hr⟩ := chk hr
                  refine L_op rfl (O_run (v := I (v34.tmod (x3.length : Int))) (w' := w) (R_rem rfl rfl hy2) rfl rfl ?_)
                  obtain ⟨x13, hx10, hr⟩ := bnd hr
                  refine L_op rfl (O_run (v := pt (ab a3) (ao a3 + (v34.tmod (x3.length : Int)).toNat * 1)) (w' := w) (R_ia L26 rfl rfl (dsl_addr (hst.pull 5) hx10) (gt_some hx10).1 (gt_some hx10).2.1) rfl rfl ?_)
                  obtain ⟨q10, hc10, hst⟩ := dsl_cells (hst.pull 5) hx10
                  have hst := hst.drop
                  refine L_op rfl (O_run (v := I x13) (w' := w) (R_loadAt (off := ao a3 + (v34.tmod (x3.length : Int)).toNat * 1) (j := 0) hc10 rfl rfl) rfl rfl ?_)
                  refine L_pure 1 [(2, .slice a3 x3.length c3), (7, pt p6 0), (8, .map (some p7)), (12, I (z5.1.length : Int)), (13, I v34), (14, I x13)] (by kernel_rfl) fun b => ?_
                  refine wpL_nil ?_
                  refine th_n ?_
                  obtain rfl := Option.some.inj hr
                  have hst := ((((((hst.pull 5).pull 5).pull 5).pull 5).pull 5).pull 5)
                  exact (kpX [(2, .slice a3 x3.length c3), (7, pt p6 0), (8, .map (some p7)), (12, I (z5.1.length : Int)), (13, I v34), (14, I x13)] rfl hst)
                · have hr := (if_neg (by rw [h]; exact Bool.false_ne_true)).symm.trans hr
                  refine wp_skip ?_
                  refine th_n ?_
                  obtain rfl := Option.some.inj hr
                  have hst := ((((((hst.pull 4).pull 4).pull 4).pull 4).pull 4).pull 5)
                  exact (kpX [(2, .slice a3 x3.length c3), (7, pt p6 0), (8, .map (some p7)), (12, I (z5.1.length : Int)), (13, I v34), (14, I (-1))] rfl hst)
            · have hr := (if_neg (by rw [h]; exact Bool.false_ne_true)).symm.trans hr
              refine wp_exit ?_
              refine th_x (th_x (ib_x (th_n ?_)))
              obtain rfl := Option.some.inj hr
              have hst := ((((((hst.pull 5).pull 5).pull 5).pull 5).pull 5).pull 5)
              exact ⟨(v35, v36), a24, c24, (kpXf [(7, pt p6 0), (8, .map (some p7))] rfl hst)⟩
      · have hst := ((((((hst.pull 5).pull 5).pull 5).pull 5).pull 5).pull 5)
        refine wp_block ?_
        refine wp_loop_fuel (fun j a w => ∃ (v28 : Int) (v29 : (List (Int × Bool))) (v30 : (List T_queue_waiting)) (a20 : Option Addr) (c20 : Nat) (b : Nat → Value), a = mkF 120 b [(1, .slice a2 x2.length c2), (2, .slice a3 x3.length c3), (7, pt p6 0), (8, .map (some p7)), (11, I v28)] ∧ St G w (osl r_T_queue_waiting 70 a20 c20 v30 :: mpo (fun n => .int .i64 n) (fun b => .bool b) p7 v29 :: blk p6 (cl [.slice a20 v30.length c20] 30) :: dsl r_T_queue_Req a1 c1 x1 :: dsl (rI .i64) a2 c2 x2 :: dsl (rI .i64) a3 c3 x3 :: F) ∧ glacierlaw16_QueueAll_l2 k x2 j v28 v29 v30 = some y23) (k := k) ⟨(0 : Int), z4.1, z4.2, a17, c17, (kpX [(1, .slice a2 x2.length c2), (2, .slice a3 x3.length c3), (7, pt p6 0), (8, .map (some p7)), (11, I 0)] rfl ⟨hst, hy23⟩)⟩ ?_ ?_
        · rintro _ _ ⟨_, _, _, _, _, _, _, _, h⟩
          rw [glacierlaw16_QueueAll_l2] at h
          cases h
        · rintro j _ w ⟨v28, v29, v30, a20, c20, b, rfl, hst, hr⟩
          rw [glacierlaw16_QueueAll_l2] at hr
          refine wp_seq ?_
          obtain ⟨y24, hy24, hk15⟩ := bnd hr
          clear hr
          refine wp_seq_cut (fun a w => ∃ (b : Nat → Value), a = mkF 120 b [(1, .slice a2 x2.length c2), (2, .slice a3 x3.length c3), (7, pt p6 0), (8, .map (some p7)), (11, I v28), (54, .bool y24)] ∧ St G w (osl r_T_queue_waiting 70 a20 c20 v30 :: mpo (fun n => .int .i64 n) (fun b => .bool b) p7 v29 :: blk p6 (cl [.slice a20 v30.length c20] 30) :: dsl r_T_queue_Req a1 c1 x1 :: dsl (rI .i64) a2 c2 x2 :: dsl (rI .i64) a3 c3 x3 :: F)) ?_ ?_
          · rintro _ w ⟨b, rfl, hst⟩
            have hr := hk15
            refine wp_cond_mkF (t := y24) rfl (fun h => ?_) (fun h => ?_)
            · have hr := (if_pos h).symm.trans hr
              refine wp_skip ?_
              refine th_n ?_
              refine wp_seq ?_
              refine wp_block ?_
              refine wp_seq ?_
              obtain ⟨y25, hy25, hk16⟩ := bnd hr
              clear hr
              refine wp_seq_cut (fun a w => ∃ (a22 : Option Addr) (c22 : Nat)(b : Nat → Value), a = mkF 120 b [(1, .slice a2 x2.length c2), (2, .slice a3 x3.length c3), (7, pt p6 0), (8, .map (some p7)), (11, I v28), (68, .bool y25.1)] ∧ St G w (osl r_T_queue_waiting 70 a22 c22 y25.2 :: dsl (rI .i64) a2 c2 x2 :: blk p6 (cl [.slice a22 y25.2.length c22] 30) :: mpo (fun n => .int .i64 n) (fun b => .bool b) p7 v29 :: dsl r_T_queue_Req a1 c1 x1 :: dsl (rI .i64) a3 c3 x3 :: F)) ?_ ?_
              · rintro _ w ⟨a22, c22, b, rfl, hst⟩
                have hr := hk16
                refine wp_cond_mkF (t := y25.1) rfl (fun h => ?_) (fun h => ?_)
                · have hr := (if_pos h).symm.trans hr
                  refine wp_seq ?_
                  refine wp_reg ?_
                  refine L_pure 1 [(6, .bool false)] (by kernel_rfl) fun b => ?_
                  refine wpL_nil ?_
                  refine th_n ?_
                  refine wp_ret ?_
                  refine th_r (ib_r (th_r (th_r (ib_r (th_r (th_r ?_))))))
                  refine ret1 rfl rfl ?_
                  obtain rfl := Option.some.inj hr
                  obtain rfl := Option.some.inj hk14
                  have hst := ((((hst.pull 5).pull 2).pull 5).cut 3 3)
                  exact hR _ hst
                · have hr := (if_neg (by rw [h]; exact Bool.false_ne_true)).symm.trans hr
                  refine wp_skip ?_
                  refine th_n ?_
                  refine wp_reg ?_
                  refine L_pure 3 [(1, .slice a2 x2.length c2), (2, .slice a3 x3.length c3), (7, pt p6 0), (8, .map (some p7)), (11, I v28), (69, .map (some p7)), (70, .slice a2 x2.length c2), (71, I v28)] (by kernel_rfl) fun b => ?_
                  obtain ⟨x12, hx9, hr⟩ := bnd hr
                  refine L_op rfl (O_run (v := pt (ab a2) (ao a2 + v28.toNat * 1)) (w' := w) (R_ia L26 rfl rfl (dsl_addr (hst.pull 1) hx9) (gt_some hx9).1 (gt_some hx9).2.1) rfl rfl ?_)
                  obtain ⟨q9, hc9, hst⟩ := dsl_cells (hst.pull 1) hx9
                  have hst := hst.drop
                  refine L_op rfl (O_run (v := I x12) (w' := w) (R_loadAt (off := ao a2 + v28.toNat * 1) (j := 0) hc9 rfl rfl) rfl rfl ?_)
                  refine L_op rfl (O_delete M38 (k := x12) (hst.pull 3) rfl rfl fun w hst => ?_)
                  refine wpL_nil ?_
                  refine ib_n (th_n ?_)
                  refine wp_reg ?_
                  refine L_pure 3 [(1, .slice a2 x2.length c2), (2, .slice a3 x3.length c3), (7, pt p6 0), (8, .map (some p7)), (11, I (IntKind.i64.wrap (v28 + 1)))] (by kernel_rfl) fun b => ?_
                  refine wpL_nil ?_
                  refine th_n ?_
                  have hst := ((((((hst.pull 5).pull 2).pull 5).pull 5).pull 4).pull 5)
                  exact ⟨(IntKind.i64.wrap (v28 + 1)), (mdel v29 x12), y25.2, a22, c22, (kpX [(1, .slice a2 x2.length c2), (2, .slice a3 x3.length c3), (7, pt p6 0), (8, .map (some p7)), (11, I (IntKind.i64.wrap (v28 + 1)))] rfl ⟨hst, hr⟩)⟩
              · have hr := hy25
                refine wp_regG SA rfl ?_
                have hst := hst.draw (n := w.drawn + 1)
                generalize { w with drawn := w.drawn + 1 } = w at hst ⊢
                refine A_take (i := 0) (v := .slice a2 x2.length c2) rfl (by kernel_rfl) (fun _ _ _ h => h) rfl rfl rfl (fun _ => R_pure (by kernel_rfl)) ?_
                refine A_take (i := 1) (v := I v28) rfl (by kernel_rfl) (fun _ _ _ h => h) rfl rfl rfl (fun _ => R_pure (by kernel_rfl)) ?_
                refine A_take (i := 5) (v := .map (some p7)) rfl (by kernel_rfl) (fun _ _ _ h => h) rfl rfl rfl (fun _ => R_pure (by kernel_rfl)) ?_
                refine A_take (i := 6) (v := .slice a2 x2.length c2) rfl (by kernel_rfl) (fun _ _ _ h => h) rfl rfl rfl (fun _ => R_pure (by kernel_rfl)) ?_
                refine A_take (i := 7) (v := I v28) rfl (by kernel_rfl) (fun _ _ _ h => h) rfl rfl rfl (fun _ => R_pure (by kernel_rfl)) ?_
                obtain ⟨x10, hx7, hr⟩ := bnd hr
                refine A_take (i := 2) (v := pt (ab a2) (ao a2 + v28.toNat * 1)) rfl (by kernel_rfl) (fun _ _ _ h => h) rfl rfl rfl (fun w => (R_ia L26 rfl rfl (dsl_addr (hst.pull 4) hx7) (gt_some hx7).1 (gt_some hx7).2.1)) ?_
                obtain ⟨x11, hx8, hr⟩ := bnd hr
                refine A_take (i := 8) (v := pt (ab a2) (ao a2 + v28.toNat * 1)) rfl (by kernel_rfl) (fun _ _ _ h => h) rfl rfl rfl (fun w => (R_ia L26 rfl rfl (dsl_addr (hst.pull 4) hx8) (gt_some hx8).1 (gt_some hx8).2.1)) ?_
                refine A_all [3, 9] (by kernel_rfl) ⟨⟨_, rfl, rfl, ?_⟩, ⟨_, rfl, rfl, ?_⟩, trivial⟩
                · obtain ⟨q7, hc7, hst⟩ := dsl_cells (hst.pull 4) hx7
                  have hst := hst.drop
                  refine O_run (v := I x10) (w' := w) (R_loadAt (off := ao a2 + v28.toNat * 1) (j := 0) hc7 rfl rfl) rfl rfl ?_
                  refine A_all [4, 9] (by kernel_rfl) ⟨⟨_, rfl, rfl, ?_⟩, ⟨_, rfl, rfl, ?_⟩, trivial⟩
                  · obtain ⟨y26, hy26, hr⟩ := bnd hr
                    refine O_call (vs := #[pt p6 0, I x10]) Try.call17 (by kernel_rfl) (queue_Queue_Drop_ok k (T_queue_Queue.mk v30) x10 p6 a20 c20 y26 ((hst.pull 1).pull 3) hy26 fun a23 c23 w hst => ?_)
                    refine CK_ret rfl ?_
                    refine A_all [9] (by kernel_rfl) ⟨⟨_, rfl, rfl, ?_⟩, trivial⟩
                    obtain ⟨q8, hc8, hst⟩ := dsl_cells (hst.pull 2) hx8
                    have hst := hst.drop
                    refine O_run (v := I x11) (w' := w) (R_loadAt (off := ao a2 + v28.toNat * 1) (j := 0) hc8 rfl rfl) rfl rfl ?_
                    refine A_all [10] (by kernel_rfl) ⟨⟨_, rfl, rfl, ?_⟩, trivial⟩
                    refine O_run (v := .bool ((mget v29 x11).getD false)) (w' := w) (R_lookup M38 false (hst.pull 3) rfl rfl) rfl rfl ?_
                    refine A_take (i := 11) (v := .bool (y26.1 != ((mget v29 x11).getD false))) rfl (by kernel_rfl) (fun _ _ _ h => h) rfl rfl rfl (fun _ => R_pure (by kernel_rfl)) ?_
                    refine wpG_done (by kernel_rfl) ?_ _
                    refine C_keepQ [(1, .slice a2 x2.length c2), (2, .slice a3 x3.length c3), (7, pt p6 0), (8, .map (some p7)), (11, I v28), (68, .bool (y26.1 != ((mget v29 x11).getD false)))] rfl fun b => ?_
                    refine th_n ?_
                    obtain rfl := Option.some.inj hr
                    have hst := ((((((hst.pull 5).pull 5).pull 5).pull 5).pull 4).pull 5)
                    exact ⟨a23, c23, (kpX [(1, .slice a2 x2.length c2), (2, .slice a3 x3.length c3), (7, pt p6 0), (8, .map (some p7)), (11, I v28), (68, .bool (y26.1 != ((mget v29 x11).getD false)))] rfl hst)⟩
                  · obtain ⟨q8, hc8, hst⟩ := dsl_cells hst hx8
                    have hst := hst.drop
                    refine O_run (v := I x11) (w' := w) (R_loadAt (off := ao a2 + v28.toNat * 1) (j := 0) hc8 rfl rfl) rfl rfl ?_
                    refine A_all [4, 10] (by kernel_rfl) ⟨⟨_, rfl, rfl, ?_⟩, ⟨_, rfl, rfl, ?_⟩, trivial⟩
                    · obtain ⟨y26, hy26, hr⟩ := bnd hr
                      refine O_call (vs := #[pt p6 0, I x10]) Try.call17 (by kernel_rfl) (queue_Queue_Drop_ok k (T_queue_Queue.mk v30) x10 p6 a20 c20 y26 ((hst.pull 1).pull 3) hy26 fun a23 c23 w hst => ?_)
                      refine CK_ret rfl ?_
                      refine A_all [10] (by kernel_rfl) ⟨⟨_, rfl, rfl, ?_⟩, trivial⟩
                      refine O_run (v := .bool ((mget v29 x11).getD false)) (w' := w) (R_lookup M38 false (hst.pull 3) rfl rfl) rfl rfl ?_
                      refine A_take (i := 11) (v := .bool (y26.1 != ((mget v29 x11).getD false))) rfl (by kernel_rfl) (fun _ _ _ h => h) rfl rfl rfl (fun _ => R_pure (by kernel_rfl)) ?_
                      refine wpG_done (by kernel_rfl) ?_ _
                      refine C_keepQ [(1, .slice a2 x2.length c2), (2, .slice a3 x3.length c3), (7, pt p6 0), (8, .map (some p7)), (11, I v28), (68, .bool (y26.1 != ((mget v29 x11).getD false)))] rfl fun b => ?_
                      refine th_n ?_
                      obtain rfl := Option.some.inj hr
                      have hst := ((((((hst.pull 5).pull 5).pull 5).pull 4).pull 5).pull 5)
                      exact ⟨a23, c23, (kpX [(1, .slice a2 x2.length c2), (2, .slice a3 x3.length c3), (7, pt p6 0), (8, .map (some p7)), (11, I v28), (68, .bool (y26.1 != ((mget v29 x11).getD false)))] rfl hst)⟩
                    · refine O_run (v := .bool ((mget v29 x11).getD false)) (w' := w) (R_lookup M38 false (hst.pull 2) rfl rfl) rfl rfl ?_
                      refine A_all [4] (by kernel_rfl) ⟨⟨_, rfl, rfl, ?_⟩, trivial⟩
                      obtain ⟨y26, hy26, hr⟩ := bnd hr
                      refine O_call (vs := #[pt p6 0, I x10]) Try.call17 (by kernel_rfl) (queue_Queue_Drop_ok k (T_queue_Queue.mk v30) x10 p6 a20 c20 y26 ((hst.pull 1).pull 3) hy26 fun a23 c23 w hst => ?_)
                      refine CK_ret rfl ?_
                      refine A_take (i := 11) (v := .bool (y26.1 != ((mget v29 x11).getD false))) rfl (by kernel_rfl) (fun _ _ _ h => h) rfl rfl rfl (fun _ => R_pure (by kernel_rfl)) ?_
                      refine wpG_done (by kernel_rfl) ?_ _
                      refine C_keepQ [(1, .slice a2 x2.length c2), (2, .slice a3 x3.length c3), (7, pt p6 0), (8, .map (some p7)), (11, I v28), (68, .bool (y26.1 != ((mget v29 x11).getD false)))] rfl fun b => ?_
                      refine th_n ?_
                      obtain rfl := Option.some.inj hr
                      have hst := ((((((hst.pull 5).pull 5).pull 5).pull 4).pull 5).pull 5)
                      exact ⟨a23, c23, (kpX [(1, .slice a2 x2.length c2), (2, .slice a3 x3.length c3), (7, pt p6 0), (8, .map (some p7)), (11, I v28), (68, .bool (y26.1 != ((mget v29 x11).getD false)))] rfl hst)⟩
                · obtain ⟨q7, hc7, hst⟩ := dsl_cells (hst.pull 4) hx8
                  have hst := hst.drop
                  refine O_run (v := I x11) (w' := w) (R_loadAt (off := ao a2 + v28.toNat * 1) (j := 0) hc7 rfl rfl) rfl rfl ?_
                  refine A_all [3, 10] (by kernel_rfl) ⟨⟨_, rfl, rfl, ?_⟩, ⟨_, rfl, rfl, ?_⟩, trivial⟩
                  · obtain ⟨q8, hc8, hst⟩ := dsl_cells hst hx7
                    have hst := hst.drop
                    refine O_run (v := I x10) (w' := w) (R_loadAt (off := ao a2 + v28.toNat * 1) (j := 0) hc8 rfl rfl) rfl rfl ?_
                    refine A_all [4, 10] (by kernel_rfl) ⟨⟨_, rfl, rfl, ?_⟩, ⟨_, rfl, rfl, ?_⟩, trivial⟩
                    · obtain ⟨y26, hy26, hr⟩ := bnd hr
                      refine O_call (vs := #[pt p6 0, I x10]) Try.call17 (by kernel_rfl) (queue_Queue_Drop_ok k (T_queue_Queue.mk v30) x10 p6 a20 c20 y26 ((hst.pull 1).pull 3) hy26 fun a23 c23 w hst => ?_)
                      refine CK_ret rfl ?_
                      refine A_all [10] (by kernel_rfl) ⟨⟨_, rfl, rfl, ?_⟩, trivial⟩
                      refine O_run (v := .bool ((mget v29 x11).getD false)) (w' := w) (R_lookup M38 false (hst.pull 3) rfl rfl) rfl rfl ?_
                      refine A_take (i := 11) (v := .bool (y26.1 != ((mget v29 x11).getD false))) rfl (by kernel_rfl) (fun _ _ _ h => h) rfl rfl rfl (fun _ => R_pure (by kernel_rfl)) ?_
                      refine wpG_done (by kernel_rfl) ?_ _
                      refine C_keepQ [(1, .slice a2 x2.length c2), (2, .slice a3 x3.length c3), (7, pt p6 0), (8, .map (some p7)), (11, I v28), (68, .bool (y26.1 != ((mget v29 x11).getD false)))] rfl fun b => ?_
                      refine th_n ?_
                      obtain rfl := Option.some.inj hr
                      have hst := ((((((hst.pull 5).pull 5).pull 5).pull 4).pull 5).pull 5)
                      exact ⟨a23, c23, (kpX [(1, .slice a2 x2.length c2), (2, .slice a3 x3.length c3), (7, pt p6 0), (8, .map (some p7)), (11, I v28), (68, .bool (y26.1 != ((mget v29 x11).getD false)))] rfl hst)⟩
                    · refine O_run (v := .bool ((mget v29 x11).getD false)) (w' := w) (R_lookup M38 false (hst.pull 2) rfl rfl) rfl rfl ?_
                      refine A_all [4] (by kernel_rfl) ⟨⟨_, rfl, rfl, ?_⟩, trivial⟩
                      obtain ⟨y26, hy26, hr⟩ := bnd hr
                      refine O_call (vs := #[pt p6 0, I x10]) Try.call17 (by kernel_rfl) (queue_Queue_Drop_ok k (T_queue_Queue.mk v30) x10 p6 a20 c20 y26 ((hst.pull 1).pull 3) hy26 fun a23 c23 w hst => ?_)
                      refine CK_ret rfl ?_
                      refine A_take (i := 11) (v := .bool (y26.1 != ((mget v29 x11).getD false))) rfl (by kernel_rfl) (fun _ _ _ h => h) rfl rfl rfl (fun _ => R_pure (by kernel_rfl)) ?_
                      refine wpG_done (by kernel_rfl) ?_ _
                      refine C_keepQ [(1, .slice a2 x2.length c2), (2, .slice a3 x3.length c3), (7, pt p6 0), (8, .map (some p7)), (11, I v28), (68, .bool (y26.1 != ((mget v29 x11).getD false)))] rfl fun b => ?_
                      refine th_n ?_
                      obtain rfl := Option.some.inj hr
                      have hst := ((((((hst.pull 5).pull 5).pull 5).pull 4).pull 5).pull 5)
                      exact ⟨a23, c23, (kpX [(1, .slice a2 x2.length c2), (2, .slice a3 x3.length c3), (7, pt p6 0), (8, .map (some p7)), (11, I v28), (68, .bool (y26.1 != ((mget v29 x11).getD false)))] rfl hst)⟩
                  · refine O_run (v := .bool ((mget v29 x11).getD false)) (w' := w) (R_lookup M38 false (hst.pull 2) rfl rfl) rfl rfl ?_
                    refine A_all [3] (by kernel_rfl) ⟨⟨_, rfl, rfl, ?_⟩, trivial⟩
                    obtain ⟨q8, hc8, hst⟩ := dsl_cells hst hx7
                    have hst := hst.drop
                    refine O_run (v := I x10) (w' := w) (R_loadAt (off := ao a2 + v28.toNat * 1) (j := 0) hc8 rfl rfl) rfl rfl ?_
                    refine A_all [4] (by kernel_rfl) ⟨⟨_, rfl, rfl, ?_⟩, trivial⟩
                    obtain ⟨y26, hy26, hr⟩ := bnd hr
                    refine O_call (vs := #[pt p6 0, I x10]) Try.call17 (by kernel_rfl) (queue_Queue_Drop_ok k (T_queue_Queue.mk v30) x10 p6 a20 c20 y26 ((hst.pull 1).pull 3) hy26 fun a23 c23 w hst => ?_)
                    refine CK_ret rfl ?_
                    refine A_take (i := 11) (v := .bool (y26.1 != ((mget v29 x11).getD false))) rfl (by kernel_rfl) (fun _ _ _ h => h) rfl rfl rfl (fun _ => R_pure (by kernel_rfl)) ?_
                    refine wpG_done (by kernel_rfl) ?_ _
                    refine C_keepQ [(1, .slice a2 x2.length c2), (2, .slice a3 x3.length c3), (7, pt p6 0), (8, .map (some p7)), (11, I v28), (68, .bool (y26.1 != ((mget v29 x11).getD false)))] rfl fun b => ?_
                    refine th_n ?_
                    obtain rfl := Option.some.inj hr
                    have hst := ((((((hst.pull 5).pull 5).pull 5).pull 4).pull 5).pull 5)
                    exact ⟨a23, c23, (kpX [(1, .slice a2 x2.length c2), (2, .slice a3 x3.length c3), (7, pt p6 0), (8, .map (some p7)), (11, I v28), (68, .bool (y26.1 != ((mget v29 x11).getD false)))] rfl hst)⟩
            · have hr := (if_neg (by rw [h]; exact Bool.false_ne_true)).symm.trans hr
              refine wp_exit ?_
              refine th_x (th_x (ib_x (th_n ?_)))
              obtain rfl := Option.some.inj hr
              have hst := ((((((hst.pull 5).pull 5).pull 5).pull 5).pull 5).pull 5)
              exact ⟨(v29, v30), a20, c20, (kpXf [(2, .slice a3 x3.length c3), (7, pt p6 0), (8, .map (some p7))] rfl hst)⟩
          · have hr := hy24
            refine wp_reg ?_
            refine L_pure 5 [(1, .slice a2 x2.length c2), (2, .slice a3 x3.length c3), (7, pt p6 0), (8, .map (some p7)), (11, I v28), (51, .bool (decide (v28 < (x2.length : Int))))] (by kernel_rfl) fun b => ?_
            by_cases h : (decide (v28 < (x2.length : Int))) = true
            · have hr := (if_pos h).symm.trans hr
              refine L_keep ((51, .bool (decide (v28 < (x2.length : Int)))) :: [(1, .slice a2 x2.length c2), (2, .slice a3 x3.length c3), (7, pt p6 0), (8, .map (some p7)), (11, I v28)]) rfl fun b => ?_
              refine L_bool h ?_
              refine L_pure 3 [(1, .slice a2 x2.length c2), (2, .slice a3 x3.length c3), (7, pt p6 0), (8, .map (some p7)), (11, I v28), (54, .bool (decide (v28 < 10)))] (by kernel_rfl) fun b => ?_
              refine wpL_nil ?_
              refine th_n ?_
              obtain rfl := Option.some.inj hr
              have hst := ((((((hst.pull 5).pull 5).pull 5).pull 5).pull 5).pull 5)
              exact (kpX [(1, .slice a2 x2.length c2), (2, .slice a3 x3.length c3), (7, pt p6 0), (8, .map (some p7)), (11, I v28), (54, .bool (decide (v28 < 10)))] rfl hst)
            · have hr := (if_neg h).symm.trans hr
              refine L_keep ((51, .bool (decide (v28 < (x2.length : Int)))) :: [(1, .slice a2 x2.length c2), (2, .slice a3 x3.length c3), (7, pt p6 0), (8, .map (some p7)), (11, I v28)]) rfl fun b => ?_
              refine L_bool (eq_false_of_ne_true h) ?_
              refine L_pure 3 [(1, .slice a2 x2.length c2), (2, .slice a3 x3.length c3), (7, pt p6 0), (8, .map (some p7)), (11, I v28), (54, .bool false)] (by kernel_rfl) fun b => ?_
              refine wpL_nil ?_
              refine th_n ?_
              obtain rfl := Option.some.inj hr
              have hst := ((((((hst.pull 5).pull 5).pull 5).pull 5).pull 5).pull 5)
              exact (kpX [(1, .slice a2 x2.length c2), (2, .slice a3 x3.length c3), (7, pt p6 0), (8, .map (some p7)), (11, I v28), (54, .bool false)] rfl hst)
    · have hst := osl_nil r_T_queue_waiting 70 hst
      have hst := ((((((hst.pull 5).pull 5).pull 5).pull 5).pull 5).pull 5)
      refine wp_block ?_
      refine wp_loop_fuel (fun j a w => ∃ (v22 : Int) (v23 : (List (Int × Bool))) (v24 : (List T_queue_waiting)) (a16 : Option Addr) (c16 : Nat) (b : Nat → Value), a = mkF 120 b [(0, .slice a1 x1.length c1), (1, .slice a2 x2.length c2), (2, .slice a3 x3.length c3), (7, pt p6 0), (8, .map (some p7)), (9, I v22)] ∧ St G w (osl r_T_queue_waiting 70 a16 c16 v24 :: mpo (fun n => .int .i64 n) (fun b => .bool b) p7 v23 :: blk p6 (cl [.slice a16 v24.length c16] 30) :: dsl r_T_queue_Req a1 c1 x1 :: dsl (rI .i64) a2 c2 x2 :: dsl (rI .i64) a3 c3 x3 :: F) ∧ glacierlaw16_QueueAll_l1 k x1 j v22 v23 v24 = some y18) (k := k) ⟨(0 : Int), ([] : (List (Int × Bool))), [], none, 0, (kpX [(0, .slice a1 x1.length c1), (1, .slice a2 x2.length c2), (2, .slice a3 x3.length c3), (7, pt p6 0), (8, .map (some p7)), (9, I 0)] rfl ⟨hst, hy18⟩)⟩ ?_ ?_
      · rintro _ _ ⟨_, _, _, _, _, _, _, _, h⟩
        rw [glacierlaw16_QueueAll_l1] at h
        cases h
      · rintro j _ w ⟨v22, v23, v24, a16, c16, b, rfl, hst, hr⟩
        rw [glacierlaw16_QueueAll_l1] at hr
        refine wp_seq ?_
        obtain ⟨y19, hy19, hk12⟩ := bnd hr
        clear hr
        refine wp_seq_cut (fun a w => ∃ (b : Nat → Value), a = mkF 120 b [(0, .slice a1 x1.length c1), (1, .slice a2 x2.length c2), (2, .slice a3 x3.length c3), (7, pt p6 0), (8, .map (some p7)), (9, I v22), (29, .bool y19)] ∧ St G w (osl r_T_queue_waiting 70 a16 c16 v24 :: mpo (fun n => .int .i64 n) (fun b => .bool b) p7 v23 :: blk p6 (cl [.slice a16 v24.length c16] 30) :: dsl r_T_queue_Req a1 c1 x1 :: dsl (rI .i64) a2 c2 x2 :: dsl (rI .i64) a3 c3 x3 :: F)) ?_ ?_
        · rintro _ w ⟨b, rfl, hst⟩
          have hr := hk12
          refine wp_cond_mkF (t := y19) rfl (fun h => ?_) (fun h => ?_)
          · have hr := (if_pos h).symm.trans hr
            refine wp_skip ?_
            refine th_n ?_
            refine wp_seq ?_
            refine wp_block ?_
            refine wp_seq ?_
            refine wp_reg ?_
            refine L_pure 2 [(0, .slice a1 x1.length c1), (1, .slice a2 x2.length c2), (2, .slice a3 x3.length c3), (7, pt p6 0), (8, .map (some p7)), (9, I v22), (32, .slice a1 x1.length c1), (33, I v22)] (by kernel_rfl) fun b => ?_
            obtain ⟨x9, hx6, hr⟩ := bnd hr
            refine L_op rfl (O_run (v := pt (ab a1) (ao a1 + v22.toNat * 4)) (w' := w) (R_ia L22 rfl rfl (dsl_addr (hst.pull 3) hx6) (gt_some hx6).1 (gt_some hx6).2.1) rfl rfl ?_)
            obtain ⟨q6, hc6, hst⟩ := dsl_cells (hst.pull 3) hx6
            have hst := hst.drop
            refine L_op rfl (O_run (v := .agg #[I x9.ID, .int .u64 x9.Blob, I x9.Vol, I x9.At]) (w' := w) (R_loadAt (off := ao a1 + v22.toNat * 4) (j := 0) hc6 rfl rfl) rfl rfl ?_)
            obtain ⟨y20, hy20, hr⟩ := bnd hr
            refine L_op rfl (O_call (vs := #[.agg #[I x9.ID, .int .u64 x9.Blob, I x9.Vol, I x9.At]]) Try.call13 (by kernel_rfl) (glacierlaw16_small_ok k x9 y20 hst hy20 fun w hst => ?_))
            refine CK_ret rfl ?_
            refine L_op rfl (O_alloc (i := Try.t25) (z := .agg #[I 0, .int .u64 0, I 0, I 0]) [I 0, .int .u64 0, I 0, I 0] hst rfl rfl rfl rfl fun p8 w hst => ?_)
            refine L_op rfl (O_store [I y20.ID, .int .u64 y20.Blob, I y20.Vol, I y20.At] hst rfl rfl (by kernel_rfl) fun w hst => ?_)
            refine wpL_nil ?_
            refine th_n ?_
            refine wp_seq ?_
            obtain ⟨y21, hy21, hk13⟩ := bnd hr
            clear hr
            refine wp_seq_cut (fun a w => ∃ (a18 : Option Addr) (c18 : Nat)(b : Nat → Value), a = mkF 120 b [(0, .slice a1 x1.length c1), (1, .slice a2 x2.length c2), (2, .slice a3 x3.length c3), (7, pt p6 0), (8, .map (some p7)), (9, I v22), (10, pt p8 0), (43, .bool y21.1)] ∧ St G w (osl r_T_queue_waiting 70 a18 c18 y21.2 :: blk p6 (cl [.slice a18 y21.2.length c18] 30) :: blk p8 (cl [I y20.ID, .int .u64 y20.Blob, I y20.Vol, I y20.At] 25) :: dsl r_T_queue_Req a1 c1 x1 :: mpo (fun n => .int .i64 n) (fun b => .bool b) p7 v23 :: dsl (rI .i64) a2 c2 x2 :: dsl (rI .i64) a3 c3 x3 :: F)) ?_ ?_
            · rintro _ w ⟨a18, c18, b, rfl, hst⟩
              have hr := hk13
              refine wp_cond_mkF (t := y21.1) rfl (fun h => ?_) (fun h => ?_)
              · have hr := (if_pos h).symm.trans hr
                refine wp_seq ?_
                refine wp_reg ?_
                refine L_pure 1 [(6, .bool false)] (by kernel_rfl) fun b => ?_
                refine wpL_nil ?_
                refine th_n ?_
                refine wp_ret ?_
                refine th_r (ib_r (th_r (th_r (ib_r (th_r (th_r ?_))))))
                refine ret1 rfl rfl ?_
                obtain rfl := Option.some.inj hr
                obtain rfl := Option.some.inj hk11
                have hst := ((((hst.pull 6).pull 6).pull 5).cut 3 4)
                exact hR _ hst
              · have hr := (if_neg (by rw [h]; exact Bool.false_ne_true)).symm.trans hr
                refine wp_skip ?_
                refine th_n ?_
                refine wp_reg ?_
                refine L_pure 2 [(0, .slice a1 x1.length c1), (1, .slice a2 x2.length c2), (2, .slice a3 x3.length c3), (7, pt p6 0), (8, .map (some p7)), (9, I v22), (44, .map (some p7)), (45, pt p8 0)] (by kernel_rfl) fun b => ?_
                refine L_op rfl (O_run (v := I y20.ID) (w' := w) (R_load (hst.pull 2) rfl rfl) rfl rfl ?_)
                refine L_op rfl (O_mapUpdate M38 (k := y20.ID) (v := true) (hst.pull 4) rfl rfl rfl fun w hst => ?_)
                refine wpL_nil ?_
                refine ib_n (th_n ?_)
                refine wp_reg ?_
                refine L_pure 3 [(0, .slice a1 x1.length c1), (1, .slice a2 x2.length c2), (2, .slice a3 x3.length c3), (7, pt p6 0), (8, .map (some p7)), (9, I (IntKind.i64.wrap (v22 + 1)))] (by kernel_rfl) fun b => ?_
                refine wpL_nil ?_
                refine th_n ?_
                have hst := (((((((hst.pull 6).pull 6).pull 6).pull 5).pull 4).pull 5).cut 6 1)
                exact ⟨(IntKind.i64.wrap (v22 + 1)), (mput v23 y20.ID true), y21.2, a18, c18, (kpX [(0, .slice a1 x1.length c1), (1, .slice a2 x2.length c2), (2, .slice a3 x3.length c3), (7, pt p6 0), (8, .map (some p7)), (9, I (IntKind.i64.wrap (v22 + 1)))] rfl ⟨hst, hr⟩)⟩
            · have hr := hy21
              refine wp_regG SA rfl ?_
              have hst := hst.draw (n := w.drawn + 1)
              generalize { w with drawn := w.drawn + 1 } = w at hst ⊢
              refine A_take (i := 2) (v := .map (some p7)) rfl (by kernel_rfl) (fun _ _ _ h => h) rfl rfl rfl (fun _ => R_pure (by kernel_rfl)) ?_
              refine A_take (i := 3) (v := pt p8 0) rfl (by kernel_rfl) (fun _ _ _ h => h) rfl rfl rfl (fun _ => R_pure (by kernel_rfl)) ?_
              refine A_all [0, 4] (by kernel_rfl) ⟨⟨_, rfl, rfl, ?_⟩, ⟨_, rfl, rfl, ?_⟩, trivial⟩
              · refine O_run (v := .agg #[I y20.ID, .int .u64 y20.Blob, I y20.Vol, I y20.At]) (w' := w) (R_load hst rfl rfl) rfl rfl ?_
                refine A_all [1, 4] (by kernel_rfl) ⟨⟨_, rfl, rfl, ?_⟩, ⟨_, rfl, rfl, ?_⟩, trivial⟩
                · obtain ⟨y22, hy22, hr⟩ := bnd hr
                  refine O_call (vs := #[pt p6 0, .agg #[I y20.ID, .int .u64 y20.Blob, I y20.Vol, I y20.At]]) Try.call14 (by kernel_rfl) (queue_Queue_Add_ok k (T_queue_Queue.mk v24) y20 p6 a16 c16 y22 ((hst.pull 2).pull 4) hy22 fun a19 c19 w hst => ?_)
                  refine CK_ret rfl ?_
                  refine A_all [4] (by kernel_rfl) ⟨⟨_, rfl, rfl, ?_⟩, trivial⟩
                  refine O_run (v := I y20.ID) (w' := w) (R_load (hst.pull 2) rfl rfl) rfl rfl ?_
                  refine A_all [5] (by kernel_rfl) ⟨⟨_, rfl, rfl, ?_⟩, trivial⟩
                  refine O_run (v := .bool ((mget v23 y20.ID).getD false)) (w' := w) (R_lookup M38 false (hst.pull 4) rfl rfl) rfl rfl ?_
                  refine A_take (i := 6) (v := .bool (y22.1 == ((mget v23 y20.ID).getD false))) rfl (by kernel_rfl) (fun _ _ _ h => h) rfl rfl rfl (fun _ => R_pure (by kernel_rfl)) ?_
                  refine wpG_done (by kernel_rfl) ?_ _
                  refine C_keepQ [(0, .slice a1 x1.length c1), (1, .slice a2 x2.length c2), (2, .slice a3 x3.length c3), (7, pt p6 0), (8, .map (some p7)), (9, I v22), (10, pt p8 0), (43, .bool (y22.1 == ((mget v23 y20.ID).getD false)))] rfl fun b => ?_
                  refine th_n ?_
                  obtain rfl := Option.some.inj hr
                  have hst := (((((((hst.pull 6).pull 6).pull 6).pull 6).pull 6).pull 6).pull 6)
                  exact ⟨a19, c19, (kpX [(0, .slice a1 x1.length c1), (1, .slice a2 x2.length c2), (2, .slice a3 x3.length c3), (7, pt p6 0), (8, .map (some p7)), (9, I v22), (10, pt p8 0), (43, .bool (y22.1 == ((mget v23 y20.ID).getD false)))] rfl hst)⟩
                · refine O_run (v := I y20.ID) (w' := w) (R_load hst rfl rfl) rfl rfl ?_
                  refine A_all [1, 5] (by kernel_rfl) ⟨⟨_, rfl, rfl, ?_⟩, ⟨_, rfl, rfl, ?_⟩, trivial⟩
                  · obtain ⟨y22, hy22, hr⟩ := bnd hr
                    refine O_call (vs := #[pt p6 0, .agg #[I y20.ID, .int .u64 y20.Blob, I y20.Vol, I y20.At]]) Try.call14 (by kernel_rfl) (queue_Queue_Add_ok k (T_queue_Queue.mk v24) y20 p6 a16 c16 y22 ((hst.pull 2).pull 4) hy22 fun a19 c19 w hst => ?_)
                    refine CK_ret rfl ?_
                    refine A_all [5] (by kernel_rfl) ⟨⟨_, rfl, rfl, ?_⟩, trivial⟩
                    refine O_run (v := .bool ((mget v23 y20.ID).getD false)) (w' := w) (R_lookup M38 false (hst.pull 4) rfl rfl) rfl rfl ?_
                    refine A_take (i := 6) (v := .bool (y22.1 == ((mget v23 y20.ID).getD false))) rfl (by kernel_rfl) (fun _ _ _ h => h) rfl rfl rfl (fun _ => R_pure (by kernel_rfl)) ?_
                    refine wpG_done (by kernel_rfl) ?_ _
                    refine C_keepQ [(0, .slice a1 x1.length c1), (1, .slice a2 x2.length c2), (2, .slice a3 x3.length c3), (7, pt p6 0), (8, .map (some p7)), (9, I v22), (10, pt p8 0), (43, .bool (y22.1 == ((mget v23 y20.ID).getD false)))] rfl fun b => ?_
                    refine th_n ?_
                    obtain rfl := Option.some.inj hr
                    have hst := (((((((hst.pull 6).pull 6).pull 6).pull 6).pull 6).pull 6).pull 6)
                    exact ⟨a19, c19, (kpX [(0, .slice a1 x1.length c1), (1, .slice a2 x2.length c2), (2, .slice a3 x3.length c3), (7, pt p6 0), (8, .map (some p7)), (9, I v22), (10, pt p8 0), (43, .bool (y22.1 == ((mget v23 y20.ID).getD false)))] rfl hst)⟩
                  · refine O_run (v := .bool ((mget v23 y20.ID).getD false)) (w' := w) (R_lookup M38 false (hst.pull 3) rfl rfl) rfl rfl ?_
                    refine A_all [1] (by kernel_rfl) ⟨⟨_, rfl, rfl, ?_⟩, trivial⟩
                    obtain ⟨y22, hy22, hr⟩ := bnd hr
                    refine O_call (vs := #[pt p6 0, .agg #[I y20.ID, .int .u64 y20.Blob, I y20.Vol, I y20.At]]) Try.call14 (by kernel_rfl) (queue_Queue_Add_ok k (T_queue_Queue.mk v24) y20 p6 a16 c16 y22 ((hst.pull 2).pull 4) hy22 fun a19 c19 w hst => ?_)
                    refine CK_ret rfl ?_
                    refine A_take (i := 6) (v := .bool (y22.1 == ((mget v23 y20.ID).getD false))) rfl (by kernel_rfl) (fun _ _ _ h => h) rfl rfl rfl (fun _ => R_pure (by kernel_rfl)) ?_
                    refine wpG_done (by kernel_rfl) ?_ _
                    refine C_keepQ [(0, .slice a1 x1.length c1), (1, .slice a2 x2.length c2), (2, .slice a3 x3.length c3), (7, pt p6 0), (8, .map (some p7)), (9, I v22), (10, pt p8 0), (43, .bool (y22.1 == ((mget v23 y20.ID).getD false)))] rfl fun b => ?_
                    refine th_n ?_
                    obtain rfl := Option.some.inj hr
                    have hst := (((((((hst.pull 6).pull 6).pull 6).pull 6).pull 6).pull 6).pull 6)
                    exact ⟨a19, c19, (kpX [(0, .slice a1 x1.length c1), (1, .slice a2 x2.length c2), (2, .slice a3 x3.length c3), (7, pt p6 0), (8, .map (some p7)), (9, I v22), (10, pt p8 0), (43, .bool (y22.1 == ((mget v23 y20.ID).getD false)))] rfl hst)⟩
              · refine O_run (v := I y20.ID) (w' := w) (R_load hst rfl rfl) rfl rfl ?_
                refine A_all [0, 5] (by kernel_rfl) ⟨⟨_, rfl, rfl, ?_⟩, ⟨_, rfl, rfl, ?_⟩, trivial⟩
                · refine O_run (v := .agg #[I y20.ID, .int .u64 y20.Blob, I y20.Vol, I y20.At]) (w' := w) (R_load hst rfl rfl) rfl rfl ?_
                  refine A_all [1, 5] (by kernel_rfl) ⟨⟨_, rfl, rfl, ?_⟩, ⟨_, rfl, rfl, ?_⟩, trivial⟩
                  · obtain ⟨y22, hy22, hr⟩ := bnd hr
                    refine O_call (vs := #[pt p6 0, .agg #[I y20.ID, .int .u64 y20.Blob, I y20.Vol, I y20.At]]) Try.call14 (by kernel_rfl) (queue_Queue_Add_ok k (T_queue_Queue.mk v24) y20 p6 a16 c16 y22 ((hst.pull 2).pull 4) hy22 fun a19 c19 w hst => ?_)
                    refine CK_ret rfl ?_
                    refine A_all [5] (by kernel_rfl) ⟨⟨_, rfl, rfl, ?_⟩, trivial⟩
                    refine O_run (v := .bool ((mget v23 y20.ID).getD false)) (w' := w) (R_lookup M38 false (hst.pull 4) rfl rfl) rfl rfl ?_
                    refine A_take (i := 6) (v := .bool (y22.1 == ((mget v23 y20.ID).getD false))) rfl (by kernel_rfl) (fun _ _ _ h => h) rfl rfl rfl (fun _ => R_pure (by kernel_rfl)) ?_
                    refine wpG_done (by kernel_rfl) ?_ _
                    refine C_keepQ [(0, .slice a1 x1.length c1), (1, .slice a2 x2.length c2), (2, .slice a3 x3.length c3), (7, pt p6 0), (8, .map (some p7)), (9, I v22), (10, pt p8 0), (43, .bool (y22.1 == ((mget v23 y20.ID).getD false)))] rfl fun b => ?_
                    refine th_n ?_
                    obtain rfl := Option.some.inj hr
                    have hst := (((((((hst.pull 6).pull 6).pull 6).pull 6).pull 6).pull 6).pull 6)
                    exact ⟨a19, c19, (kpX [(0, .slice a1 x1.length c1), (1, .slice a2 x2.length c2), (2, .slice a3 x3.length c3), (7, pt p6 0), (8, .map (some p7)), (9, I v22), (10, pt p8 0), (43, .bool (y22.1 == ((mget v23 y20.ID).getD false)))] rfl hst)⟩
                  · refine O_run (v := .bool ((mget v23 y20.ID).getD false)) (w' := w) (R_lookup M38 false (hst.pull 3) rfl rfl) rfl rfl ?_
                    refine A_all [1] (by kernel_rfl) ⟨⟨_, rfl, rfl, ?_⟩, trivial⟩
                    obtain ⟨y22, hy22, hr⟩ := bnd hr
                    refine O_call (vs := #[pt p6 0, .agg #[I y20.ID, .int .u64 y20.Blob, I y20.Vol, I y20.At]]) Try.call14 (by kernel_rfl) (queue_Queue_Add_ok k (T_queue_Queue.mk v24) y20 p6 a16 c16 y22 ((hst.pull 2).pull 4) hy22 fun a19 c19 w hst => ?_)
                    refine CK_ret rfl ?_
                    refine A_take (i := 6) (v := .bool (y22.1 == ((mget v23 y20.ID).getD false))) rfl (by kernel_rfl) (fun _ _ _ h => h) rfl rfl rfl (fun _ => R_pure (by kernel_rfl)) ?_
                    refine wpG_done (by kernel_rfl) ?_ _
                    refine C_keepQ [(0, .slice a1 x1.length c1), (1, .slice a2 x2.length c2), (2, .slice a3 x3.length c3), (7, pt p6 0), (8, .map (some p7)), (9, I v22), (10, pt p8 0), (43, .bool (y22.1 == ((mget v23 y20.ID).getD false)))] rfl fun b => ?_
                    refine th_n ?_
                    obtain rfl := Option.some.inj hr
                    have hst := (((((((hst.pull 6).pull 6).pull 6).pull 6).pull 6).pull 6).pull 6)
                    exact ⟨a19, c19, (kpX [(0, .slice a1 x1.length c1), (1, .slice a2 x2.length c2), (2, .slice a3 x3.length c3), (7, pt p6 0), (8, .map (some p7)), (9, I v22), (10, pt p8 0), (43, .bool (y22.1 == ((mget v23 y20.ID).getD false)))] rfl hst)⟩
                · refine O_run (v := .bool ((mget v23 y20.ID).getD false)) (w' := w) (R_lookup M38 false (hst.pull 3) rfl rfl) rfl rfl ?_
                  refine A_all [0] (by kernel_rfl) ⟨⟨_, rfl, rfl, ?_⟩, trivial⟩
                  refine O_run (v := .agg #[I y20.ID, .int .u64 y20.Blob, I y20.Vol, I y20.At]) (w' := w) (R_load hst rfl rfl) rfl rfl ?_
                  refine A_all [1] (by kernel_rfl) ⟨⟨_, rfl, rfl, ?_⟩, trivial⟩
                  obtain ⟨y22, hy22, hr⟩ := bnd hr
                  refine O_call (vs := #[pt p6 0, .agg #[I y20.ID, .int .u64 y20.Blob, I y20.Vol, I y20.At]]) Try.call14 (by kernel_rfl) (queue_Queue_Add_ok k (T_queue_Queue.mk v24) y20 p6 a16 c16 y22 ((hst.pull 2).pull 4) hy22 fun a19 c19 w hst => ?_)
                  refine CK_ret rfl ?_
                  refine A_take (i := 6) (v := .bool (y22.1 == ((mget v23 y20.ID).getD false))) rfl (by kernel_rfl) (fun _ _ _ h => h) rfl rfl rfl (fun _ => R_pure (by kernel_rfl)) ?_
                  refine wpG_done (by kernel_rfl) ?_ _
                  refine C_keepQ [(0, .slice a1 x1.length c1), (1, .slice a2 x2.length c2), (2, .slice a3 x3.length c3), (7, pt p6 0), (8, .map (some p7)), (9, I v22), (10, pt p8 0), (43, .bool (y22.1 == ((mget v23 y20.ID).getD false)))] rfl fun b => ?_
                  refine th_n ?_
                  obtain rfl := Option.some.inj hr
                  have hst := (((((((hst.pull 6).pull 6).pull 6).pull 6).pull 6).pull 6).pull 6)
                  exact ⟨a19, c19, (kpX [(0, .slice a1 x1.length c1), (1, .slice a2 x2.length c2), (2, .slice a3 x3.length c3), (7, pt p6 0), (8, .map (some p7)), (9, I v22), (10, pt p8 0), (43, .bool (y22.1 == ((mget v23 y20.ID).getD false)))] rfl hst)⟩
          · have hr := (if_neg (by rw [h]; exact Bool.false_ne_true)).symm.trans hr
            refine wp_exit ?_
            refine th_x (th_x (ib_x (th_n ?_)))
            obtain rfl := Option.some.inj hr
            have hst := ((((((hst.pull 5).pull 5).pull 5).pull 5).pull 5).pull 5)
            exact ⟨(v23, v24), a16, c16, (kpXf [(1, .slice a2 x2.length c2), (2, .slice a3 x3.length c3), (7, pt p6 0), (8, .map (some p7))] rfl hst)⟩
        · have hr := hy19
          refine wp_reg ?_
          refine L_pure 5 [(0, .slice a1 x1.length c1), (1, .slice a2 x2.length c2), (2, .slice a3 x3.length c3), (7, pt p6 0), (8, .map (some p7)), (9, I v22), (26, .bool (decide (v22 < (x1.length : Int))))] (by kernel_rfl) fun b => ?_
          by_cases h : (decide (v22 < (x1.length : Int))) = true
          · have hr := (if_pos h).symm.trans hr
            refine L_keep ((26, .bool (decide (v22 < (x1.length : Int)))) :: [(0, .slice a1 x1.length c1), (1, .slice a2 x2.length c2), (2, .slice a3 x3.length c3), (7, pt p6 0), (8, .map (some p7)), (9, I v22)]) rfl fun b => ?_
            refine L_bool h ?_
            refine L_pure 3 [(0, .slice a1 x1.length c1), (1, .slice a2 x2.length c2), (2, .slice a3 x3.length c3), (7, pt p6 0), (8, .map (some p7)), (9, I v22), (29, .bool (decide (v22 < 20)))] (by kernel_rfl) fun b => ?_
            refine wpL_nil ?_
            refine th_n ?_
            obtain rfl := Option.some.inj hr
            have hst := ((((((hst.pull 5).pull 5).pull 5).pull 5).pull 5).pull 5)
            exact (kpX [(0, .slice a1 x1.length c1), (1, .slice a2 x2.length c2), (2, .slice a3 x3.length c3), (7, pt p6 0), (8, .map (some p7)), (9, I v22), (29, .bool (decide (v22 < 20)))] rfl hst)
          · have hr := (if_neg h).symm.trans hr
            refine L_keep ((26, .bool (decide (v22 < (x1.length : Int)))) :: [(0, .slice a1 x1.length c1), (1, .slice a2 x2.length c2), (2, .slice a3 x3.length c3), (7, pt p6 0), (8, .map (some p7)), (9, I v22)]) rfl fun b => ?_
            refine L_bool (eq_false_of_ne_true h) ?_
            refine L_pure 3 [(0, .slice a1 x1.length c1), (1, .slice a2 x2.length c2), (2, .slice a3 x3.length c3), (7, pt p6 0), (8, .map (some p7)), (9, I v22), (29, .bool false)] (by kernel_rfl) fun b => ?_
            refine wpL_nil ?_
            refine th_n ?_
            obtain rfl := Option.some.inj hr
            have hst := ((((((hst.pull 5).pull 5).pull 5).pull 5).pull 5).pull 5)
            exact (kpX [(0, .slice a1 x1.length c1), (1, .slice a2 x2.length c2), (2, .slice a3 x3.length c3), (7, pt p6 0), (8, .map (some p7)), (9, I v22), (29, .bool false)] rfl hst)
end Go.Proofs.Ytpmbfngmdhkpaaa
