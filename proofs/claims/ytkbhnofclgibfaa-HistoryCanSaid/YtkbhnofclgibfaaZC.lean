/- ZC, one part more. -/
import Derived.Test.YtkbhnofclgibfaaZCa
namespace Go.Proofs.Ytkbhnofclgibfaa
open Go.Hx Go.RowKit
def slices_Insert (_k : Nat) (x1 : (List T_history_entry)) (x2 : Int) (x3 : (List T_history_entry)) : Option (List T_history_entry) := ins x1 x2 x3 24
set_option maxRecDepth 100000 in
set_option maxHeartbeats 4000000 in
theorem slices_Insert_ok {G w : World} {F : List HP} {R : Ending → World → Prop} (k : Nat) (x1 : (List T_history_entry)) (x2 : Int) (x3 : (List T_history_entry)) (a1 : Option Addr) (c1 : Nat) (a2 : Option Addr) (c2 : Nat) (r : (List T_history_entry)) (hst : St G w (osl r_T_history_entry 68 a1 c1 x1 :: osl r_T_history_entry 68 a2 c2 x3 :: F)) (hr : slices_Insert k x1 x2 x3 = some r)
    (hR : ∀ (a3 : Option Addr) (c3 : Nat) w', St G w' (osl r_T_history_entry 68 a3 c3 r :: F) → R (.returned (.slice a3 r.length c3)) w') :
    Calls Try.prog 30 #[.slice a1 x1.length c1, I x2, .slice a2 x3.length c2] w R := by
  unfold slices_Insert ins at hr
  obtain ⟨⟨⟨hm, h0, h2⟩, hb⟩, hr⟩ := chk hr
  obtain rfl := Option.some.inj hr
  obtain ⟨hle, hmx⟩ := osl_len hst
  obtain ⟨hb1, hb2⟩ := room_spec hb
  rw [hm] at hb1 hb2
  have hb3 : x1.length + 1 ≤ 9223372036854775807 := by unfold maxLen at hb2; omega
  refine enter Try.func30 rfl [(0, .slice a1 x1.length c1), (1, I x2), (2, .slice a2 x3.length c2)] rfl rfl fun b => ?_
  refine wp_seq (wp_reg ?_)
  refine L_pure 1 [(0, .slice a1 x1.length c1), (1, I x2), (2, .slice a2 x3.length c2)] (by kernel_rfl) fun b => wpL_nil (th_n ?_)
  refine wp_seq (wp_reg ?_)
  refine L_pure 2 [(0, .slice a1 x1.length c1), (1, I x2), (2, .slice a2 x3.length c2), (10, .slice a1 x1.length c1), (11, I x2)] (by kernel_rfl) fun b => ?_
  refine L_op rfl (O_run (w' := w) (R_cut L58 (len := x1.length) (cap := c1) (zl := x2) (zh := x1.length) rfl rfl rfl h0 h2 (by omega)) rfl rfl ?_)
  refine L_keep [(0, .slice a1 x1.length c1), (1, I x2), (2, .slice a2 x3.length c2)] rfl fun b => wpL_nil (th_n ?_)
  refine wp_seq (wp_reg ?_)
  refine L_pure 3 [(0, .slice a1 x1.length c1), (1, I x2), (2, .slice a2 x3.length c2), (7, I (x3.length : Int))] (by kernel_rfl) fun b => wpL_nil (th_n ?_)
  refine wp_seq (wp_seq (wp_reg ?_))
  refine L_pure 2 [(0, .slice a1 x1.length c1), (1, I x2), (2, .slice a2 x3.length c2), (7, I (x3.length : Int)), (16, .bool ((x3.length : Int) == 0))] (by kernel_rfl) fun b => wpL_nil (th_n ?_)
  refine wp_cond_mkF (t := ((x3.length : Int) == 0)) rfl (fun h => ?_) (fun _ => ?_)
  · have h := eq_of_beq h
    omega
  refine wp_skip (th_n ?_)
  refine wp_seq (wp_reg ?_)
  refine L_pure 3 [(0, .slice a1 x1.length c1), (1, I x2), (2, .slice a2 x3.length c2), (7, I (x3.length : Int)), (8, I (x1.length : Int))] (by kernel_rfl) fun b => wpL_nil (th_n ?_)
  refine wp_seq (wp_seq (wp_reg ?_))
  refine L_pure 3 [(0, .slice a1 x1.length c1), (1, I x2), (2, .slice a2 x3.length c2), (7, I (x3.length : Int)), (8, I (x1.length : Int)), (22, .bool (x2 == (x1.length : Int)))] (by kernel_rfl) fun b => wpL_nil (th_n ?_)
  refine wp_cond_mkF (t := (x2 == (x1.length : Int))) rfl (fun h => ?_) (fun h => ?_)
  · have he : x2 = (x1.length : Int) := eq_of_beq h
    refine wp_seq (wp_reg ?_)
    refine L_pure 2 [(23, .slice a1 x1.length c1), (24, .slice a2 x3.length c2)] (by kernel_rfl) fun b => ?_
    refine L_op rfl (O_app_o2 L58 ⟨_, (L57).ht⟩ hst rfl rfl hb rfl fun a3 c3 w hst => ?_)
    refine L_pure 1 [(6, .slice a3 (x1 ++ x3).length c3)] (by kernel_rfl) fun b => wpL_nil (th_n (wp_ret (th_r (ret1 rfl rfl ?_))))
    have hx : x1.take x2.toNat ++ x3 ++ x1.drop x2.toNat = x1 ++ x3 := by
      rw [he, Int.toNat_natCast, List.take_length, List.drop_length, List.append_nil]
    have h9 := hR a3 c3 w
    rw [hx] at h9
    exact h9 ((hst.pull 1).drop)
  have hne : x2 ≠ (x1.length : Int) := fun e => by rw [e] at h; simp at h
  obtain ⟨i, rfl⟩ : ∃ i : Nat, x2 = (i : Int) := ⟨x2.toNat, by omega⟩
  have hil : i < x1.length := by omega
  simp only [Int.toNat_natCast] at hR ⊢
  refine wp_skip (th_n ?_)
  rcases osl_open hst with ⟨rfl, rfl, rfl, _⟩ | ⟨g, cur, ecs, rfl, q3, q4, q5, q7, hst1⟩
  · simp at hil
  rcases osl_open (hst1.pull 2) with ⟨rfl, rfl, rfl, _⟩ | ⟨g2, cur2, ecs2, rfl, p3, p4, p5, p7, hst2⟩
  · simp at hm
  have hst := (hst2.pull 1).pull 3
  clear hst1 hst2
  have hal := al_len (hst.drop.pull 2)
  have hal2 := al_len (hst.drop.pull 1)
  have hsz : (r_T_history_entry : Rp _).sz = 2 := rfl
  simp only [hsz] at hal hal2 q5 q7 p5 p7
  obtain ⟨u1, u2, u3⟩ := hal
  obtain ⟨v1, v2, v3⟩ := hal2
  have hall := (hst.drop.pull 2).pure (φ := (ecs.take i).flatten = ecs.flatten.take (i * 2) ∧ (ecs.drop i).flatten = ecs.flatten.drop (i * 2))
    (fun m f (hA : All2 ((r_T_history_entry : Rp _).rep m) ecs x1) => ⟨flat_take hA i, flat_drop hA i⟩)
  obtain ⟨t1, t2⟩ := hall
  rw [hm] at v1 p7
  have hfin : ∀ cur9 : List Value, cur9 = (ecs.take i).flatten ++ ecs2.flatten ++ (ecs.drop i).flatten → cur9 = (ecs.take i ++ ecs2 ++ ecs.drop i).flatten := fun c h => by rw [h, List.flatten_append, List.flatten_append]
  have hlr : (x1.take i ++ x3 ++ x1.drop i).length = x1.length + 1 := by simp; omega
  have hone : (ecs.drop i).flatten.all Value.oneCell' = true := by
    rw [t2, List.all_eq_true]
    intro v hv
    exact List.all_eq_true.1 u2 v (List.mem_of_mem_drop hv)
  have hdl : (ecs.drop i).flatten.length = (x1.length - i) * 2 := by rw [t2, List.length_drop, u1, Nat.sub_mul]
  have htl : (ecs.take i).flatten.length = i * 2 := by rw [t1, List.length_take, u1]; exact Nat.min_eq_left (Nat.mul_le_mul_right _ (by omega))
  have hcm : i * 2 + (x1.length - i) * 2 = x1.length * 2 := by rw [← Nat.add_mul]; congr 1; omega
  have hw1 : IntKind.i64.wrap ((x1.length : Int) + (x3.length : Int)) = ((x1.length + 1 : Nat) : Int) := by rw [hm, IntKind.wrap_i64]; omega
  have hw2 : IntKind.i64.wrap ((i : Int) + (x3.length : Int)) = ((i + 1 : Nat) : Int) := by rw [hm, IntKind.wrap_i64]; omega
  have hw3 : IntKind.i64.wrap ((x1.length + 1 : Nat) - (i : Int)) = ((x1.length + 1 - i : Nat) : Int) := by rw [IntKind.wrap_i64]; omega
  have hwq : (x1.length + 1 - i) + i = x1.length + 1 := by omega
  refine wp_seq (wp_seq (wp_reg ?_))
  refine L_pure 6 [(0, .slice (some ⟨g, 0, none⟩) x1.length c1), (1, I (i : Int)), (2, .slice (some ⟨g2, 0, none⟩) x3.length c2), (7, I (x3.length : Int)), (8, I (x1.length : Int)), (31, .bool (decide (IntKind.i64.wrap ((x1.length : Int) + (x3.length : Int)) > (c1 : Int))))] (by kernel_rfl) fun b => wpL_nil (th_n ?_)
  refine wp_cond_mkF (t := (decide (IntKind.i64.wrap ((x1.length : Int) + (x3.length : Int)) > (c1 : Int)))) rfl (fun h => ?_) (fun h => ?_)
  · rw [decide_eq_true_eq, hw1] at h
    have hgr : c1 < i + (x1.length + 1 - i) := by omega
    refine wp_seq (wp_reg ?_)
    refine L_pure 2 [(0, .slice (some ⟨g, 0, none⟩) x1.length c1), (1, I (i : Int)), (2, .slice (some ⟨g2, 0, none⟩) x3.length c2), (7, I (x3.length : Int)), (8, I (x1.length : Int)), (32, .slice (some ⟨g, 0, none⟩) x1.length c1), (33, I (i : Int))] (by kernel_rfl) fun b => ?_
    refine L_op rfl (O_run (w' := w) (R_cut L58 (len := x1.length) (cap := c1) (zl := 0) (zh := (i : Int)) rfl rfl rfl (Int.le_refl _) (by omega) (by omega)) rfl rfl ?_)
    have hc0 : cutAt (some ⟨g, 0, none⟩) c1 (0 : Int).toNat 2 = some ⟨g, 0, none⟩ := by
      rw [show (0 : Int).toNat = 0 from rfl, cutAt_some (by omega), Nat.zero_mul]
    rw [hc0]
    refine L_pure 5 [(0, .slice (some ⟨g, 0, none⟩) x1.length c1), (1, I (i : Int)), (2, .slice (some ⟨g2, 0, none⟩) x3.length c2), (7, I (x3.length : Int)), (34, .slice (some ⟨g, 0, none⟩) ((i : Int).toNat - (0 : Int).toNat) (c1 - (0 : Int).toNat)), (39, I (IntKind.i64.wrap (IntKind.i64.wrap ((x1.length : Int) + (x3.length : Int)) - (i : Int))))] (by kernel_rfl) fun b => ?_
    rw [hw1, hw3]
    refine L_op rfl (O_app_make (g := g) (i := i) (c := c1) (k := x1.length + 1 - i) (cur := cur) (olds := (ecs.take i).flatten) L58 Try.underlying3 hst rfl rfl rfl htl ?_ ?_ (by omega) (by decide) hgr ?_ ?_ rfl fun g3 G3 cur3 w r1 r2 r3 r4 hst => ?_)
    · rw [t1, ← q7, List.take_take, Nat.min_eq_left (Nat.mul_le_mul_right _ (by omega))]
    · rw [q5]; exact Nat.mul_le_mul_right _ (by omega)
    · rw [Nat.add_comm, hwq]; exact hb1
    · rw [Nat.add_comm, hwq]; exact hb2
    have e1 : i + (x1.length + 1 - i) = x1.length + 1 := by omega
    rw [e1] at r1 ⊢
    refine L_pure 1 [(0, .slice (some ⟨g, 0, none⟩) x1.length c1), (1, I (i : Int)), (2, .slice (some ⟨g2, 0, none⟩) x3.length c2), (7, I (x3.length : Int)), (9, .slice (some ⟨g3, 0, none⟩) (x1.length + 1) G3)] (by kernel_rfl) fun b => wpL_nil (th_n ?_)
    refine wp_seq (wp_reg ?_)
    refine L_pure 2 [(0, .slice (some ⟨g, 0, none⟩) x1.length c1), (1, I (i : Int)), (2, .slice (some ⟨g2, 0, none⟩) x3.length c2), (7, I (x3.length : Int)), (9, .slice (some ⟨g3, 0, none⟩) (x1.length + 1) G3), (41, .slice (some ⟨g3, 0, none⟩) (x1.length + 1) G3), (42, I (i : Int))] (by kernel_rfl) fun b => ?_
    refine L_op rfl (O_run (w' := w) (R_cut L58 (len := x1.length + 1) (cap := G3) (zl := (i : Int)) (zh := ((x1.length + 1 : Nat) : Int)) rfl rfl rfl (by omega) (by omega) (by omega)) rfl rfl ?_)
    simp only [Int.toNat_natCast]
    rw [cutAt_some (g := g3) (i := i) (cap := G3) (by omega)]
    refine L_pure 1 [(0, .slice (some ⟨g, 0, none⟩) x1.length c1), (1, I (i : Int)), (2, .slice (some ⟨g2, 0, none⟩) x3.length c2), (7, I (x3.length : Int)), (9, .slice (some ⟨g3, 0, none⟩) (x1.length + 1) G3), (43, .slice (some ⟨g3, i * 2, none⟩) (x1.length + 1 - i) (G3 - i)), (44, .slice (some ⟨g2, 0, none⟩) x3.length c2)] (by kernel_rfl) fun b => ?_
    have hg2w : w.heap[g2]? = some (.cells cur2 68 (0, 0)) := (hst.pull 2).get
    refine L_op rfl (O_copy (g := g3) (o := i * 2) (k := 1) (cs := ecs2.flatten) L58 hst rfl rfl (by rw [hm]; show _ = min _ _; omega) (cells_part hg2w (by rw [v1]) (fun j v hj => ?_)) (by rw [v1, r3, ← Nat.add_mul]; exact Nat.mul_le_mul_right _ (by omega)) v2 rfl fun w hst => ?_)
    · rw [← p7] at hj
      have hlt := (List.getElem?_eq_some_iff.1 hj).1
      simp only [List.length_take] at hlt
      rw [List.getElem?_take_of_lt (by omega)] at hj
      simpa using hj
    refine L_keep [(0, .slice (some ⟨g, 0, none⟩) x1.length c1), (1, I (i : Int)), (7, I (x3.length : Int)), (9, .slice (some ⟨g3, 0, none⟩) (x1.length + 1) G3)] rfl fun b => wpL_nil (th_n ?_)
    obtain ⟨cur4, hc4⟩ : ∃ cur4 : Array Value, cur4 = (cur3.toList.take (i * 2) ++ ecs2.flatten ++ cur3.toList.drop (i * 2 + ecs2.flatten.length)).toArray := ⟨_, rfl⟩
    rw [← hc4] at hst
    have hs4 : cur4.size = G3 * 2 := by
      rw [hc4]
      simp only [List.size_toArray, List.length_append, List.length_take, List.length_drop, Array.length_toList, r3, v1]
      have : i * 2 + 1 * 2 ≤ G3 * 2 := by rw [← Nat.add_mul]; exact Nat.mul_le_mul_right _ (by omega)
      omega
    have hk4 : cur4.toList.take ((i + 1) * 2) = (ecs.take i).flatten ++ ecs2.flatten := by
      rw [hc4, r4]
      simp only
      rw [List.take_append_of_le_length (by simp only [List.length_append, htl, v1, Nat.add_mul]; omega), List.take_of_length_le (by simp only [List.length_append, htl, v1, Nat.add_mul]; omega)]
    refine wp_seq (wp_regG (SP 8 (fun _ => True)) rfl ?_)
    have hst := hst.draw (n := w.drawn + 1)
    generalize { w with drawn := w.drawn + 1 } = w at hst ⊢
    refine P_pure (i := 0) (v := .slice (some ⟨g3, 0, none⟩) (x1.length + 1) G3) 8 rfl rfl (by kernel_rfl) (fun _ _ _ h => h) rfl rfl rfl (by kernel_rfl) (.inr trivial) ?_
    refine P_pure (i := 1) (v := I (i : Int)) 8 rfl rfl (by kernel_rfl) (fun _ _ _ h => h) rfl rfl rfl (by kernel_rfl) (.inr trivial) ?_
    refine P_pure (i := 2) (v := I (x3.length : Int)) 8 rfl rfl (by kernel_rfl) (fun _ _ _ h => h) rfl rfl rfl (by kernel_rfl) (.inr trivial) ?_
    refine P_pure (i := 3) (v := I (IntKind.i64.wrap ((i : Int) + (x3.length : Int)))) 8 rfl rfl (by kernel_rfl) (fun _ _ _ h => h) rfl rfl rfl (by kernel_rfl) (.inr trivial) ?_
    rw [hw2]
    refine P_any (i := 4) 8 rfl rfl (by kernel_rfl) (fun _ _ _ h => h) rfl rfl rfl (fun w => R_cut L58 (len := x1.length + 1) (cap := G3) (zl := ((i + 1 : Nat) : Int)) (zh := ((x1.length + 1 : Nat) : Int)) rfl rfl rfl (by omega) (by omega) (by omega)) (.inr trivial) ?_
    refine P_pure (i := 5) (v := .slice (some ⟨g, 0, none⟩) x1.length c1) 8 rfl rfl (by kernel_rfl) (fun _ _ _ h => h) rfl rfl rfl (by kernel_rfl) (.inr trivial) ?_
    refine P_pure (i := 6) (v := I (i : Int)) 8 rfl rfl (by kernel_rfl) (fun _ _ _ h => h) rfl rfl rfl (by kernel_rfl) (.inr trivial) ?_
    refine P_any (i := 7) 8 rfl rfl (by kernel_rfl) (fun _ _ _ h => h) rfl rfl rfl (fun w => R_cut L58 (len := x1.length) (cap := c1) (zl := (i : Int)) (zh := (x1.length : Int)) rfl rfl rfl (by omega) (by omega) (by omega)) (.inr trivial) ?_
    simp only [Int.toNat_natCast]
    rw [cutAt_some (g := g3) (i := i + 1) (cap := G3) (by omega), cutAt_some (g := g) (i := i) (cap := c1) (by omega)]
    have hgw : w.heap[g]? = some (.cells cur 68 (0, 0)) := (hst.pull 1).get
    refine P_act (i := 8) 8 (by kernel_rfl) rfl rfl (by kernel_rfl) ?_
    refine O_copy (g := g3) (o := (i + 1) * 2) (k := x1.length - i) (cs := (ecs.drop i).flatten) L58 hst rfl rfl (by show _ = min _ _; omega) (cells_part hgw hdl (fun j v hj => ?_)) (by rw [hdl, hs4, ← Nat.add_mul]; exact Nat.mul_le_mul_right _ (by omega)) hone rfl fun w hst => ?_
    · rw [t2, ← q7, List.getElem?_drop] at hj
      have hlt := (List.getElem?_eq_some_iff.1 hj).1
      simp only [List.length_take] at hlt
      rw [List.getElem?_take_of_lt (by omega)] at hj
      simpa using hj
    refine wpG_done (by kernel_rfl) ?_ _
    refine C_keepQ [(9, .slice (some ⟨g3, 0, none⟩) (x1.length + 1) G3)] rfl fun b => th_n ?_
    refine wp_seq (wp_reg ?_)
    refine L_pure 2 [(6, .slice (some ⟨g3, 0, none⟩) (x1.length + 1) G3)] (by kernel_rfl) fun b => wpL_nil (th_n (wp_ret (th_r (ret1 rfl rfl ?_))))
    have h9 := hR (some ⟨g3, 0, none⟩) G3
    rw [hlr] at h9
    have hst := ((((hst.pull 4).pull 4).and.conv (B := al r_T_history_entry (ecs.take i ++ ecs2 ++ ecs.drop i) (x1.take i ++ x3 ++ x1.drop i)) (fun m f (hA : All2 ((r_T_history_entry : Rp _).rep m) ecs2 x3 ∧ All2 ((r_T_history_entry : Rp _).rep m) ecs x1) => All2.app (All2.app (All2.take hA.2 i) hA.1) (All2.drop hA.2 i))).cut 2 2)
    refine h9 _ (osl_shut (by rw [hlr]; omega) r2 ?_ ?_ hst)
    · show _ = G3 * 2
      simp only [List.size_toArray, List.length_append, List.length_take, List.length_drop, Array.length_toList, hs4, hdl]
      have : (i + 1) * 2 + (x1.length - i) * 2 ≤ G3 * 2 := by rw [← Nat.add_mul]; exact Nat.mul_le_mul_right _ (by omega)
      omega
    · show List.take (_ * 2) _ = _
      rw [hlr, hk4, List.flatten_append, List.flatten_append]
      simp only
      rw [List.take_append_of_le_length (by simp only [List.length_append, htl, v1, hdl, Nat.add_mul]; omega), List.take_of_length_le (by simp only [List.length_append, htl, v1, hdl, Nat.add_mul]; omega)]
  · have h : ¬ (IntKind.i64.wrap ((x1.length : Int) + (x3.length : Int)) > (c1 : Int)) := of_decide_eq_false h
    rw [hw1] at h
    refine wp_skip (th_n ?_)
    refine wp_seq (wp_reg ?_)
    refine L_pure 4 [(1, I (i : Int)), (2, .slice (some ⟨g2, 0, none⟩) x3.length c2), (7, I (x3.length : Int)), (56, .slice (some ⟨g, 0, none⟩) x1.length c1), (59, I (IntKind.i64.wrap ((x1.length : Int) + (x3.length : Int))))] (by kernel_rfl) fun b => ?_
    rw [hw1]
    refine L_op rfl (O_run (w' := w) (R_cut L58 (len := x1.length) (cap := c1) (zl := 0) (zh := ((x1.length + 1 : Nat) : Int)) rfl rfl rfl (Int.le_refl _) (by omega) (by omega)) rfl rfl ?_)
    have hc0 : cutAt (some ⟨g, 0, none⟩) c1 (0 : Int).toNat 2 = some ⟨g, 0, none⟩ := by
      rw [show (0 : Int).toNat = 0 from rfl, cutAt_some (by omega), Nat.zero_mul]
    rw [hc0]
    simp only [Int.toNat_natCast, Int.toNat_zero, Nat.sub_zero]
    refine L_pure 1 [(0, .slice (some ⟨g, 0, none⟩) (x1.length + 1) c1), (1, I (i : Int)), (2, .slice (some ⟨g2, 0, none⟩) x3.length c2), (7, I (x3.length : Int))] (by kernel_rfl) fun b => wpL_nil (th_n ?_)
    refine wp_seq (wp_seq (wp_reg ?_))
    refine L_pure 5 [(0, .slice (some ⟨g, 0, none⟩) (x1.length + 1) c1), (1, I (i : Int)), (2, .slice (some ⟨g2, 0, none⟩) x3.length c2), (7, I (x3.length : Int)), (61, .slice (some ⟨g2, 0, none⟩) x3.length c2), (62, .slice (some ⟨g, 0, none⟩) (x1.length + 1) c1), (65, I (IntKind.i64.wrap ((i : Int) + (x3.length : Int))))] (by kernel_rfl) fun b => ?_
    rw [hw2]
    refine L_op rfl (O_run (w' := w) (R_cut L58 (len := x1.length + 1) (cap := c1) (zl := ((i + 1 : Nat) : Int)) (zh := ((x1.length + 1 : Nat) : Int)) rfl rfl rfl (by omega) (by omega) (by omega)) rfl rfl ?_)
    simp only [Int.toNat_natCast]
    rw [cutAt_some (g := g) (i := i + 1) (cap := c1) (by omega)]
    have hgw := hst.get
    have hg2w : w.heap[g2]? = some (.cells cur2 68 (0, 0)) := (hst.pull 1).get
    have hap : g2 ≠ g := fun e => (St.apart hst) e.symm
    have hov : (callFunc 32 #[.slice (some ⟨g2, 0, none⟩) x3.length c2, .slice (some ⟨g, (i + 1) * 2, none⟩) (x1.length + 1 - (i + 1)) (c1 - (i + 1))]).run Try.prog w = .ok (.value (.bool false)) w := by
      obtain ⟨inf, z, hi, _, hsz9, _⟩ := (L58).hi
      rw [run_callFunc_extern Try.func32 (by kernel_rfl) (by kernel_rfl) (by kernel_rfl) (e := Extern.SlicesOverlaps.overlaps #[57, 57] #[4]) (by kernel_rfl),
        Lib.run_overlaps_apart w 57 4 68 (L57).ht 2 (fun w => by simp [sizeOf, typeInfo, hi, hsz9]) ⟨g2, 0, none⟩ ⟨g, (i + 1) * 2, none⟩ x3.length c2 _ _ hap 68 68 cur2.size cur.size (shape_blk hg2w) (shape_blk hgw) (by rw [q5]; exact Nat.mul_ne_zero (by omega) (by decide)) (frozen_blk hg2w _) (frozen_blk hg2w _)]
      rfl
    refine L_op rfl (O_run (w' := w) (R_ext (vs := #[.slice (some ⟨g2, 0, none⟩) x3.length c2, .slice (some ⟨g, (i + 1) * 2, none⟩) (x1.length + 1 - (i + 1)) (c1 - (i + 1))]) hov (by kernel_rfl)) rfl rfl ?_)
    refine L_pure 1 [(0, .slice (some ⟨g, 0, none⟩) (x1.length + 1) c1), (1, I (i : Int)), (2, .slice (some ⟨g2, 0, none⟩) x3.length c2), (7, I (x3.length : Int)), (68, .bool true)] (by kernel_rfl) fun b => wpL_nil (th_n ?_)
    refine wp_cond_mkF (t := true) rfl (fun _ => ?_) (fun h => by cases h)
    refine wp_seq (wp_regG (SP 8 (fun _ => True)) rfl ?_)
    have hst := hst.draw (n := w.drawn + 1)
    generalize { w with drawn := w.drawn + 1 } = w at hst ⊢
    refine P_pure (i := 0) (v := .slice (some ⟨g, 0, none⟩) (x1.length + 1) c1) 8 rfl rfl (by kernel_rfl) (fun _ _ _ h => h) rfl rfl rfl (by kernel_rfl) (.inr trivial) ?_
    refine P_pure (i := 1) (v := I (i : Int)) 8 rfl rfl (by kernel_rfl) (fun _ _ _ h => h) rfl rfl rfl (by kernel_rfl) (.inr trivial) ?_
    refine P_pure (i := 2) (v := I (x3.length : Int)) 8 rfl rfl (by kernel_rfl) (fun _ _ _ h => h) rfl rfl rfl (by kernel_rfl) (.inr trivial) ?_
    refine P_pure (i := 3) (v := I (IntKind.i64.wrap ((i : Int) + (x3.length : Int)))) 8 rfl rfl (by kernel_rfl) (fun _ _ _ h => h) rfl rfl rfl (by kernel_rfl) (.inr trivial) ?_
    rw [hw2]
    refine P_any (i := 4) 8 rfl rfl (by kernel_rfl) (fun _ _ _ h => h) rfl rfl rfl (fun w => R_cut L58 (len := x1.length + 1) (cap := c1) (zl := ((i + 1 : Nat) : Int)) (zh := ((x1.length + 1 : Nat) : Int)) rfl rfl rfl (by omega) (by omega) (by omega)) (.inr trivial) ?_
    refine P_pure (i := 5) (v := .slice (some ⟨g, 0, none⟩) (x1.length + 1) c1) 8 rfl rfl (by kernel_rfl) (fun _ _ _ h => h) rfl rfl rfl (by kernel_rfl) (.inr trivial) ?_
    refine P_pure (i := 6) (v := I (i : Int)) 8 rfl rfl (by kernel_rfl) (fun _ _ _ h => h) rfl rfl rfl (by kernel_rfl) (.inr trivial) ?_
    refine P_any (i := 7) 8 rfl rfl (by kernel_rfl) (fun _ _ _ h => h) rfl rfl rfl (fun w => R_cut L58 (len := x1.length + 1) (cap := c1) (zl := (i : Int)) (zh := ((x1.length + 1 : Nat) : Int)) rfl rfl rfl (by omega) (by omega) (by omega)) (.inr trivial) ?_
    simp only [Int.toNat_natCast]
    rw [cutAt_some (g := g) (i := i + 1) (cap := c1) (by omega), cutAt_some (g := g) (i := i) (cap := c1) (by omega)]
    have hgw := hst.get
    refine P_act (i := 8) 8 (by kernel_rfl) rfl rfl (by kernel_rfl) ?_
    refine O_copy (g := g) (o := (i + 1) * 2) (k := x1.length - i) (cs := (ecs.drop i).flatten) L58 hst rfl rfl (by show _ = min _ _; omega) (cells_part hgw hdl (fun j v hj => ?_)) (by rw [hdl, q5, ← Nat.add_mul]; exact Nat.mul_le_mul_right _ (by omega)) hone rfl fun w hst => ?_
    · rw [t2, ← q7, List.getElem?_drop] at hj
      have hlt := (List.getElem?_eq_some_iff.1 hj).1
      simp only [List.length_take] at hlt
      rw [List.getElem?_take_of_lt (by omega)] at hj
      simpa using hj
    refine wpG_done (by kernel_rfl) ?_ _
    refine C_keepQ [(0, .slice (some ⟨g, 0, none⟩) (x1.length + 1) c1), (1, I (i : Int)), (2, .slice (some ⟨g2, 0, none⟩) x3.length c2)] rfl fun b => th_n ?_
    obtain ⟨cur4, hc4⟩ : ∃ cur4 : Array Value, cur4 = (cur.toList.take ((i + 1) * 2) ++ (ecs.drop i).flatten ++ cur.toList.drop ((i + 1) * 2 + (ecs.drop i).flatten.length)).toArray := ⟨_, rfl⟩
    rw [← hc4] at hst
    have hsum : (i + 1) * 2 + (x1.length - i) * 2 = (x1.length + 1) * 2 := by rw [← Nat.add_mul]; congr 1; omega
    have hsum2 : (x1.length + 1) * 2 ≤ c1 * 2 := Nat.mul_le_mul_right _ (by omega)
    have hs4 : cur4.size = c1 * 2 := by
      rw [hc4]
      simp only [List.size_toArray, List.length_append, List.length_take, List.length_drop, Array.length_toList, q5, hdl]
      omega
    have hk4 : cur4.toList.take (i * 2) = (ecs.take i).flatten := by
      rw [hc4, t1, ← q7, List.take_take]
      simp only [List.append_assoc]
      rw [List.take_append_of_le_length (by simp only [List.length_take, Array.length_toList, q5, Nat.add_mul] at *; omega), List.take_take]
      congr 1
      simp only [Nat.add_mul] at *
      omega
    have hk5 : (cur4.toList.drop ((i + 1) * 2)).take ((x1.length - i) * 2) = (ecs.drop i).flatten := by
      rw [hc4]
      simp only [List.append_assoc]
      have hl9 : (List.take ((i + 1) * 2) cur.toList).length = (i + 1) * 2 := by
        rw [List.length_take, Array.length_toList, q5]
        omega
      rw [List.drop_append, List.drop_of_length_le (by omega), hl9, Nat.sub_self, List.drop_zero, List.nil_append, List.take_append_of_le_length (by omega), List.take_of_length_le (by omega)]
    refine wp_seq (wp_reg ?_)
    refine L_pure 2 [(0, .slice (some ⟨g, 0, none⟩) (x1.length + 1) c1), (2, .slice (some ⟨g2, 0, none⟩) x3.length c2), (78, .slice (some ⟨g, 0, none⟩) (x1.length + 1) c1), (79, I (i : Int))] (by kernel_rfl) fun b => ?_
    refine L_op rfl (O_run (w' := w) (R_cut L58 (len := x1.length + 1) (cap := c1) (zl := (i : Int)) (zh := ((x1.length + 1 : Nat) : Int)) rfl rfl rfl (by omega) (by omega) (by omega)) rfl rfl ?_)
    simp only [Int.toNat_natCast]
    rw [cutAt_some (g := g) (i := i) (cap := c1) (by omega)]
    refine L_pure 1 [(0, .slice (some ⟨g, 0, none⟩) (x1.length + 1) c1), (80, .slice (some ⟨g, i * 2, none⟩) (x1.length + 1 - i) (c1 - i)), (81, .slice (some ⟨g2, 0, none⟩) x3.length c2)] (by kernel_rfl) fun b => ?_
    have hg2w : w.heap[g2]? = some (.cells cur2 68 (0, 0)) := (hst.pull 1).get
    refine L_op rfl (O_copy (g := g) (o := i * 2) (k := 1) (cs := ecs2.flatten) L58 hst rfl rfl (by rw [hm]; show _ = min _ _; omega) (cells_part hg2w (by rw [v1]) (fun j v hj => ?_)) (by rw [v1, hs4, ← Nat.add_mul]; exact Nat.mul_le_mul_right _ (by omega)) v2 rfl fun w hst => ?_)
    · rw [← p7] at hj
      have hlt := (List.getElem?_eq_some_iff.1 hj).1
      simp only [List.length_take] at hlt
      rw [List.getElem?_take_of_lt (by omega)] at hj
      simpa using hj
    refine L_keep [(0, .slice (some ⟨g, 0, none⟩) (x1.length + 1) c1)] rfl fun b => wpL_nil (th_n ?_)
    refine wp_seq (wp_reg ?_)
    refine L_pure 2 [(6, .slice (some ⟨g, 0, none⟩) (x1.length + 1) c1)] (by kernel_rfl) fun b => wpL_nil (th_n (wp_ret (th_r (ret1 rfl rfl ?_))))
    have h9 := hR (some ⟨g, 0, none⟩) c1
    rw [hlr] at h9
    have hst := ((((hst.pull 3).pull 3).and.conv (B := al r_T_history_entry (ecs.take i ++ ecs2 ++ ecs.drop i) (x1.take i ++ x3 ++ x1.drop i)) (fun m f (hA : All2 ((r_T_history_entry : Rp _).rep m) ecs2 x3 ∧ All2 ((r_T_history_entry : Rp _).rep m) ecs x1) => All2.app (All2.app (All2.take hA.2 i) hA.1) (All2.drop hA.2 i))).cut 2 1)
    refine h9 _ (osl_shut (by rw [hlr]; omega) hmx ?_ ?_ hst)
    · show _ = c1 * 2
      simp only [List.size_toArray, List.length_append, List.length_take, List.length_drop, Array.length_toList, hs4, v1]
      simp only [Nat.add_mul] at *
      omega
    · show List.take (_ * 2) _ = _
      rw [hlr, hk4, List.flatten_append, List.flatten_append]
      simp only [v1]
      have e2 : i * 2 + 1 * 2 = (i + 1) * 2 := by rw [← Nat.add_mul]
      have e3 : (x1.length + 1) * 2 = (i + 1) * 2 + (x1.length - i) * 2 := hsum.symm
      rw [e2, e3, List.take_append, List.take_of_length_le (by simp only [List.length_append, htl, v1, Nat.add_mul]; omega), ← hk5]
      congr 2
      simp only [List.length_append, htl, v1, Nat.add_mul]
      omega
def history_world_with (k : Nat) (x1 : (List T_history_entry)) (x2 : (List UInt8)) (x3 : Int) : Option ((List T_history_entry)) := (Option.bind (history_world_find k x1 x2) fun y4 => (Option.bind (slices_Clone k x1) fun y5 => (if y4.2 = true then (Option.bind (gt y5 y4.1) fun x5 => some ((y5.set y4.1.toNat (T_history_entry.mk x5.name x3)))) else (Option.bind (slices_Insert k y5 y4.1 ([(T_history_entry.mk x2 x3)])) fun y6 => some (y6)))))
set_option maxRecDepth 100000 in
set_option maxHeartbeats 4000000 in
theorem history_world_with_ok {G w : World} {F : List HP} {R : Ending → World → Prop} (k : Nat) (x1 : (List T_history_entry)) (x2 : (List UInt8)) (x3 : Int) (a1 : Option Addr) (c1 : Nat) (r : ((List T_history_entry))) (hst : St G w (dsl r_T_history_entry a1 c1 x1 :: F)) (hr : history_world_with k x1 x2 x3 = some r)
    (hR : ∀ (a4 : Option Addr) (c4 : Nat) w', St G w' (osl r_T_history_entry 68 a4 c4 r :: dsl r_T_history_entry a1 c1 x1 :: F) → R (.returned (.slice a4 r.length c4)) w') :
    Calls Try.prog 23 #[.slice a1 x1.length c1, S x2, .int .u64 x3] w R := by
  unfold history_world_with at hr
  refine enter Try.func23 rfl [(0, .slice a1 x1.length c1), (1, S x2), (2, .int .u64 x3)] rfl rfl fun b => ?_
  refine wp_seq ?_
  refine wp_reg ?_
  refine L_pure 1 [(0, .slice a1 x1.length c1), (1, S x2), (2, .int .u64 x3)] (by kernel_rfl) fun b => ?_
  refine wpL_nil ?_
  refine th_n ?_
  refine wp_seq ?_
  refine wp_reg ?_
  refine L_pure 2 [(0, .slice a1 x1.length c1), (1, S x2), (2, .int .u64 x3), (11, .slice a1 x1.length c1), (12, S x2)] (by kernel_rfl) fun b => ?_
  obtain ⟨y4, hy4, hr⟩ := bnd hr
  refine L_op rfl (O_call (vs := #[.slice a1 x1.length c1, S x2]) Try.call22 (by kernel_rfl) (history_world_find_ok k x1 x2 a1 c1 y4 hst hy4 fun w hst => ?_))
  refine CK_ret rfl ?_
  refine L_pure 5 [(0, .slice a1 x1.length c1), (1, S x2), (2, .int .u64 x3), (7, I y4.1), (8, .bool y4.2)] (by kernel_rfl) fun b => ?_
  refine wpL_nil ?_
  refine th_n ?_
  refine wp_seq ?_
  refine wp_reg ?_
  refine L_pure 1 [(1, S x2), (2, .int .u64 x3), (7, I y4.1), (8, .bool y4.2), (16, .slice a1 x1.length c1)] (by kernel_rfl) fun b => ?_
  obtain ⟨y5, hy5, hr⟩ := bnd hr
  refine L_op rfl (O_call (vs := #[.slice a1 x1.length c1]) Try.call29 (by kernel_rfl) (slices_Clone_ok k x1 a1 c1 y5 hst hy5 fun a5 c5 w hst => ?_))
  refine CK_ret rfl ?_
  refine L_pure 1 [(1, S x2), (2, .int .u64 x3), (7, I y4.1), (8, .bool y4.2), (9, .slice a5 y5.length c5)] (by kernel_rfl) fun b => ?_
  refine wpL_nil ?_
  refine th_n ?_
  refine wp_seq ?_
  refine wp_seq ?_
  refine wp_reg ?_
  refine L_pure 1 [(1, S x2), (2, .int .u64 x3), (7, I y4.1), (9, .slice a5 y5.length c5), (18, .bool y4.2)] (by kernel_rfl) fun b => ?_
  refine wpL_nil ?_
  refine th_n ?_
  refine wp_cond_mkF (t := y4.2) rfl (fun h => ?_) (fun h => ?_)
  · have hr := (if_pos h).symm.trans hr
    refine wp_seq ?_
    refine wp_reg ?_
    refine L_pure 3 [(9, .slice a5 y5.length c5), (19, .slice a5 y5.length c5), (20, I y4.1), (21, .int .u64 x3)] (by kernel_rfl) fun b => ?_
    obtain ⟨x5, hx2, hr⟩ := bnd hr
    refine L_op rfl (O_run (v := pt (ab a5) (ao a5 + y4.1.toNat * 2)) (w' := w) (R_ia L58 rfl rfl (osl_addr hst hx2) (gt_some hx2).1 (gt_some hx2).2.1) rfl rfl ?_)
    refine L_pure 1 [(9, .slice a5 y5.length c5), (21, .int .u64 x3), (23, pt (ab a5) (ao a5 + y4.1.toNat * 2 + 1))] (by kernel_rfl) fun b => ?_
    refine L_op rfl (O_store_osl (φ := fun _ => True) (hφ := fun _ _ _ h => h) (y := (T_history_entry.mk x5.name x3)) (j := 1) (hst := (St.triv (fun _ => trivial) hst)) hx2 rfl rfl (by rintro m cs - ⟨y, rfl, hy⟩; exact ⟨_, rfl, ⟨y, rfl, hy⟩⟩) fun w hst => ?_)
    refine wpL_nil ?_
    refine th_n ?_
    refine wp_seq ?_
    refine wp_reg ?_
    refine L_pure 2 [(6, .slice a5 y5.length c5)] (by kernel_rfl) fun b => ?_
    refine wpL_nil ?_
    refine th_n ?_
    refine wp_ret ?_
    refine th_r ?_
    refine ret1 rfl rfl ?_
    obtain rfl := Option.some.inj hr
    have hst := ((hst.pull 1).pull 1)
    have h9 := hR a5 c5 _ hst
    simp only [List.length_set] at h9
    exact h9
  · have hr := (if_neg (by rw [h]; exact Bool.false_ne_true)).symm.trans hr
    refine wp_skip ?_
    refine th_n ?_
    refine wp_seq ?_
    refine wp_reg ?_
    refine L_pure 5 [(25, .slice a5 y5.length c5), (26, I y4.1), (29, .agg #[S x2, .int .u64 x3])] (by kernel_rfl) fun b => ?_
    refine L_op rfl (O_bs (T := 68) [S x2, .int .u64 x3] #[(0, .agg #[S x2, .int .u64 x3])] hst (by kernel_rfl) (by kernel_rfl) rfl fun p2 w hst => ?_)
    have hst := osl_of_blk0 (ecs := [[S x2, .int .u64 x3]]) r_T_history_entry [(T_history_entry.mk x2 x3)] rfl (fun m => ⟨⟨(), rfl, trivial⟩, trivial⟩) rfl hst
    obtain ⟨y6, hy6, hr⟩ := bnd hr
    refine L_op rfl (O_call (vs := #[.slice a5 y5.length c5, I y4.1, .slice (some ⟨p2, 0, none⟩) ([(T_history_entry.mk x2 x3)]).length 1]) Try.call30 (by kernel_rfl) (slices_Insert_ok k y5 y4.1 ([(T_history_entry.mk x2 x3)]) a5 c5 (some ⟨p2, 0, none⟩) 1 y6 (hst.pull 1) hy6 fun a6 c6 w hst => ?_))
    refine CK_ret rfl ?_
    refine L_pure 1 [(6, .slice a6 y6.length c6)] (by kernel_rfl) fun b => ?_
    refine wpL_nil ?_
    refine th_n ?_
    refine wp_ret ?_
    refine ret1 rfl rfl ?_
    obtain rfl := Option.some.inj hr
    have hst := ((hst.pull 1).pull 1)
    exact hR a6 c6 _ hst
def slices_Delete (_k : Nat) (x1 : (List T_history_entry)) (x2 x3 : Int) : Option (List T_history_entry) := del x1 x2 x3
set_option maxRecDepth 100000 in
set_option maxHeartbeats 4000000 in
theorem slices_Delete_ok {G w : World} {F : List HP} {R : Ending → World → Prop} (k : Nat) (x1 : (List T_history_entry)) (x2 x3 : Int) (a1 : Option Addr) (c1 : Nat) (r : (List T_history_entry)) (hst : St G w (osl r_T_history_entry 68 a1 c1 x1 :: F)) (hr : slices_Delete k x1 x2 x3 = some r)
    (hR : ∀ (a2 : Option Addr) (c2 : Nat) w', St G w' (osl r_T_history_entry 68 a2 c2 r :: F) → R (.returned (.slice a2 r.length c2)) w') :
    Calls Try.prog 31 #[.slice a1 x1.length c1, I x2, I x3] w R := by
  unfold slices_Delete del at hr
  obtain ⟨⟨h0, h1, h2⟩, hr⟩ := chk hr
  obtain rfl := Option.some.inj hr
  obtain ⟨hle, hmx⟩ := osl_len hst
  refine enter Try.func31 rfl [(0, .slice a1 x1.length c1), (1, I x2), (2, I x3)] rfl rfl fun b => ?_
  refine wp_seq (wp_reg ?_)
  refine L_pure 1 [(0, .slice a1 x1.length c1), (1, I x2), (2, I x3)] (by kernel_rfl) fun b => wpL_nil (th_n ?_)
  refine wp_seq (wp_reg ?_)
  refine L_pure 5 [(0, .slice a1 x1.length c1), (1, I x2), (2, I x3), (8, .slice a1 x1.length c1), (9, I x2), (10, I x3), (12, I (x1.length : Int))] (by kernel_rfl) fun b => ?_
  refine L_op rfl (O_run (w' := w) (R_cut3 L58 (len := x1.length) rfl rfl rfl rfl h0 h1 h2 (by omega)) rfl rfl ?_)
  refine wpL_nil (th_n ?_)
  refine wp_seq (wp_seq (wp_reg ?_))
  refine L_pure 3 [(0, .slice a1 x1.length c1), (1, I x2), (2, I x3), (16, .bool (x2 == x3))] (by kernel_rfl) fun b => wpL_nil (th_n ?_)
  refine wp_cond_mkF (t := (x2 == x3)) rfl (fun h => ?_) (fun h => ?_)
  · have e : x2 = x3 := eq_of_beq h
    subst e
    refine wp_seq (wp_reg ?_)
    refine L_pure 2 [(6, .slice a1 x1.length c1)] (by kernel_rfl) fun b => wpL_nil (th_n (wp_ret (th_r (ret1 rfl rfl ?_))))
    have hx : x1.take x2.toNat ++ x1.drop x2.toNat = x1 := List.take_append_drop _ _
    have h9 := hR a1 c1 _ (by rw [hx]; exact hst)
    rw [hx] at h9
    exact h9
  · have hne : x2 ≠ x3 := fun e => by rw [e] at h; simp at h
    refine wp_skip (th_n ?_)
    refine wp_seq (wp_reg ?_)
    refine L_pure 3 [(0, .slice a1 x1.length c1), (1, I x2), (2, I x3), (7, I (x1.length : Int))] (by kernel_rfl) fun b => wpL_nil (th_n ?_)
    rcases osl_open hst with ⟨rfl, rfl, rfl, _⟩ | ⟨g, cur, ecs, rfl, q3, q4, q5, q7, hst1⟩
    · simp at h2; omega
    · refine wp_seq (wp_regG (SP 6 (fun _ => True)) rfl ?_)
      have hst := hst1.draw (n := w.drawn + 1)
      generalize { w with drawn := w.drawn + 1 } = w at hst ⊢
      refine P_pure (i := 0) (v := .slice (some ⟨g, 0, none⟩) x1.length c1) 6 rfl rfl (by kernel_rfl) (fun _ _ _ h => h) rfl rfl rfl (by kernel_rfl) (.inr trivial) ?_
      refine P_pure (i := 1) (v := I x2) 6 rfl rfl (by kernel_rfl) (fun _ _ _ h => h) rfl rfl rfl (by kernel_rfl) (.inr trivial) ?_
      refine P_any (i := 2) 6 rfl rfl (by kernel_rfl) (fun _ _ _ h => h) rfl rfl rfl (fun w => R_cut L58 (len := x1.length) (zl := 0) rfl rfl rfl (by omega) h0 (by omega)) (.inr trivial) ?_
      refine P_pure (i := 3) (v := .slice (some ⟨g, 0, none⟩) x1.length c1) 6 rfl rfl (by kernel_rfl) (fun _ _ _ h => h) rfl rfl rfl (by kernel_rfl) (.inr trivial) ?_
      refine P_pure (i := 4) (v := I x3) 6 rfl rfl (by kernel_rfl) (fun _ _ _ h => h) rfl rfl rfl (by kernel_rfl) (.inr trivial) ?_
      refine P_any (i := 5) 6 rfl rfl (by kernel_rfl) (fun _ _ _ h => h) rfl rfl rfl (fun w => R_cut L58 (len := x1.length) (zh := x1.length) rfl rfl rfl (by omega) h2 (by omega)) (.inr trivial) ?_
      have hc0 : cutAt (some ⟨g, 0, none⟩) c1 (0 : Int).toNat 2 = some ⟨g, 0, none⟩ := by
        unfold cutAt
        by_cases hc : c1 = (0 : Int).toNat
        · rw [if_pos hc]
        · rw [if_neg hc]; rfl
      refine P_act (i := 6) 6 (by kernel_rfl) rfl rfl (by kernel_rfl) ?_
      refine O_app_self (g := g) (i := x2.toNat) (j := x3.toNat) (len := ((x1.length : Int).toNat - x3.toNat)) (cap := c1) (q := cutAt (some ⟨g, 0, none⟩) c1 x3.toNat 2) (c := c1 - x3.toNat) L58 hst q5 q7 (by rw [Int.toNat_natCast]) (by omega) (by omega) q3 ?_ rfl ?_ rfl (fun w cur' hs1 hs2 hst => ?_)
      · show Value.slice (cutAt (some ⟨g, 0, none⟩) c1 (0 : Int).toNat 2) (x2.toNat - (0 : Int).toNat) (c1 - (0 : Int).toNat) = _
        rw [hc0]; rfl
      · intro hl
        unfold cutAt
        rw [if_neg (by rw [Int.toNat_natCast] at hl; omega)]
        simp only [Option.map_some, add_pt, Nat.zero_add]; rfl
      have hlr : (x1.take x2.toNat ++ x1.drop x3.toNat).length = x2.toNat + (x1.length - x3.toNat) := by simp; omega
      refine P_pure (i := 7) (v := .slice (some ⟨g, 0, none⟩) (x1.take x2.toNat ++ x1.drop x3.toNat).length c1) 6 rfl rfl (by kernel_rfl) (fun _ _ _ h => h) rfl rfl rfl (by kernel_rfl) (.inl (by kernel_rfl)) ?_
      refine wpG_done (by kernel_rfl) ?_ _
      refine C_keepQ [(0, .slice (some ⟨g, 0, none⟩) (x1.take x2.toNat ++ x1.drop x3.toNat).length c1), (7, I (x1.length : Int))] rfl fun b => th_n ?_
      refine wp_seq (wp_reg ?_)
      refine L_pure 4 [(0, .slice (some ⟨g, 0, none⟩) (x1.take x2.toNat ++ x1.drop x3.toNat).length c1), (27, .slice (some ⟨g, 0, none⟩) (x1.take x2.toNat ++ x1.drop x3.toNat).length c1), (29, I ((x1.take x2.toNat ++ x1.drop x3.toNat).length : Int)), (30, I (x1.length : Int))] (by kernel_rfl) fun b => ?_
      refine L_op rfl (O_run (w' := w) (R_cut L58 (len := (x1.take x2.toNat ++ x1.drop x3.toNat).length) (cap := c1) rfl rfl rfl (by omega) (by rw [hlr]; omega) (by omega)) rfl rfl ?_)
      refine L_op rfl (O_clear (g := g) (off := (x1.take x2.toNat ++ x1.drop x3.toNat).length * 2) (k := (x1.length : Int).toNat - ((x1.take x2.toNat ++ x1.drop x3.toNat).length : Int).toNat) (c := c1 - ((x1.take x2.toNat ++ x1.drop x3.toNat).length : Int).toNat) L58.ht (inf := Try.t68) (by kernel_rfl) rfl rfl (hst.pull 1) ?_ ?_ (fun w cur2 hz1 hz2 hst => ?_))
      · show Value.slice (cutAt (some ⟨g, 0, none⟩) c1 ((x1.take x2.toNat ++ x1.drop x3.toNat).length : Int).toNat 2) _ _ = _
        unfold cutAt
        rw [if_neg (by rw [Int.toNat_natCast, hlr]; omega)]
        simp only [Option.map_some, add_pt, Nat.zero_add, Int.toNat_natCast]
      · rw [hs1, q5]
        simp only [Int.toNat_natCast]
        show (x1.take x2.toNat ++ x1.drop x3.toNat).length * 2 + (x1.length - (x1.take x2.toNat ++ x1.drop x3.toNat).length) * 2 ≤ c1 * 2
        rw [← Nat.add_mul]
        exact Nat.mul_le_mul_right _ (by rw [hlr]; omega)
      refine wpL_nil (th_n ?_)
      refine wp_seq (wp_reg ?_)
      refine L_pure 2 [(6, .slice (some ⟨g, 0, none⟩) (x1.take x2.toNat ++ x1.drop x3.toNat).length c1)] (by kernel_rfl) fun b => wpL_nil (th_n (wp_ret (ret1 rfl rfl ?_)))
      refine hR _ _ _ (osl_shut (by rw [hlr]; omega) q4 (by rw [hz1, hs1]; exact q5) ?_ (hst.pull 1))
      show cur2.toList.take ((x1.take x2.toNat ++ x1.drop x3.toNat).length * 2) = _
      rw [hz2]
      exact hs2
def history_world_without (k : Nat) (x1 : (List T_history_entry)) (x2 : (List UInt8)) : Option ((List T_history_entry)) := (Option.bind (history_world_find k x1 x2) fun y4 => (if (!y4.2) = true then some (x1) else (Option.bind (slices_Clone k x1) fun y5 => (Option.bind (slices_Delete k y5 y4.1 (IntKind.i64.wrap (y4.1 + 1))) fun y6 => some (y6)))))
set_option maxRecDepth 100000 in
set_option maxHeartbeats 4000000 in
theorem history_world_without_ok {G w : World} {F : List HP} {R : Ending → World → Prop} (k : Nat) (x1 : (List T_history_entry)) (x2 : (List UInt8)) (a1 : Option Addr) (c1 : Nat) (r : ((List T_history_entry))) (hst : St G w (dsl r_T_history_entry a1 c1 x1 :: F)) (hr : history_world_without k x1 x2 = some r)
    (hR : ∀ (a4 : Option Addr) (c4 : Nat) w', St G w' (dsl r_T_history_entry a4 c4 r :: dsl r_T_history_entry a1 c1 x1 :: F) → R (.returned (.slice a4 r.length c4)) w') :
    Calls Try.prog 24 #[.slice a1 x1.length c1, S x2] w R := by
  unfold history_world_without at hr
  refine enter Try.func24 rfl [(0, .slice a1 x1.length c1), (1, S x2)] rfl rfl fun b => ?_
  refine wp_seq ?_
  refine wp_reg ?_
  refine L_pure 1 [(0, .slice a1 x1.length c1), (1, S x2)] (by kernel_rfl) fun b => ?_
  refine wpL_nil ?_
  refine th_n ?_
  refine wp_seq ?_
  refine wp_reg ?_
  refine L_pure 2 [(0, .slice a1 x1.length c1), (8, .slice a1 x1.length c1), (9, S x2)] (by kernel_rfl) fun b => ?_
  obtain ⟨y4, hy4, hr⟩ := bnd hr
  refine L_op rfl (O_call (vs := #[.slice a1 x1.length c1, S x2]) Try.call22 (by kernel_rfl) (history_world_find_ok k x1 x2 a1 c1 y4 hst hy4 fun w hst => ?_))
  refine CK_ret rfl ?_
  refine L_pure 5 [(0, .slice a1 x1.length c1), (5, I y4.1), (6, .bool y4.2)] (by kernel_rfl) fun b => ?_
  refine wpL_nil ?_
  refine th_n ?_
  refine wp_seq ?_
  refine wp_seq ?_
  refine wp_reg ?_
  refine L_pure 2 [(0, .slice a1 x1.length c1), (5, I y4.1), (14, .bool (!y4.2))] (by kernel_rfl) fun b => ?_
  refine wpL_nil ?_
  refine th_n ?_
  refine wp_cond_mkF (t := (!y4.2)) rfl (fun h => ?_) (fun h => ?_)
  · have hr := (if_pos h).symm.trans hr
    refine wp_seq ?_
    refine wp_reg ?_
    refine L_pure 2 [(4, .slice a1 x1.length c1)] (by kernel_rfl) fun b => ?_
    refine wpL_nil ?_
    refine th_n ?_
    refine wp_ret ?_
    refine th_r ?_
    refine ret1 rfl rfl ?_
    obtain rfl := Option.some.inj hr
    have hst := hst.dup
    have hst := (hst.pull 1)
    exact hR a1 c1 _ hst
  · have hr := (if_neg (by rw [h]; exact Bool.false_ne_true)).symm.trans hr
    refine wp_skip ?_
    refine th_n ?_
    refine wp_seq ?_
    refine wp_reg ?_
    refine L_pure 1 [(5, I y4.1), (16, .slice a1 x1.length c1)] (by kernel_rfl) fun b => ?_
    obtain ⟨y5, hy5, hr⟩ := bnd hr
    refine L_op rfl (O_call (vs := #[.slice a1 x1.length c1]) Try.call29 (by kernel_rfl) (slices_Clone_ok k x1 a1 c1 y5 hst hy5 fun a5 c5 w hst => ?_))
    refine CK_ret rfl ?_
    refine L_pure 3 [(17, .slice a5 y5.length c5), (18, I y4.1), (20, I (IntKind.i64.wrap (y4.1 + 1)))] (by kernel_rfl) fun b => ?_
    obtain ⟨y6, hy6, hr⟩ := bnd hr
    refine L_op rfl (O_call (vs := #[.slice a5 y5.length c5, I y4.1, I (IntKind.i64.wrap (y4.1 + 1))]) Try.call31 (by kernel_rfl) (slices_Delete_ok k y5 y4.1 (IntKind.i64.wrap (y4.1 + 1)) a5 c5 y6 hst hy6 fun a6 c6 w hst => ?_))
    refine CK_ret rfl ?_
    refine L_pure 1 [(4, .slice a6 y6.length c6)] (by kernel_rfl) fun b => ?_
    refine wpL_nil ?_
    refine th_n ?_
    refine wp_ret ?_
    refine ret1 rfl rfl ?_
    obtain rfl := Option.some.inj hr
    have hst := osl_freeze hst
    have hst := ((hst.pull 1).pull 1)
    exact hR a6 c6 _ hst
def history_world_names_l1 (k : Nat) (x1 : (List T_history_entry)) : Nat → (List (List UInt8)) → Int → Option ((List (List UInt8)))
  | 0, _, _ => none
  | j + 1, v7, v8 => (if decide (v8 < (x1.length : Int)) = true then (Option.bind (gt x1 v8) fun x3 => (if room (v7.length + ([x3.name]).length) 16 = true then (history_world_names_l1 k x1 j (v7 ++ ([x3.name])) (IntKind.i64.wrap (v8 + 1))) else none)) else some (v7))
def history_world_names (k : Nat) (x1 : (List T_history_entry)) : Option ((List (List UInt8))) := (Option.bind (history_world_names_l1 k x1 k ([]) (0 : Int)) fun y2 => some (y2))
set_option maxRecDepth 100000 in
set_option maxHeartbeats 4000000 in
theorem history_world_names_ok {G w : World} {F : List HP} {R : Ending → World → Prop} (k : Nat) (x1 : (List T_history_entry)) (a1 : Option Addr) (c1 : Nat) (r : ((List (List UInt8)))) (hst : St G w (dsl r_T_history_entry a1 c1 x1 :: F)) (hr : history_world_names k x1 = some r)
    (hR : ∀ (a6 : Option Addr) (c6 : Nat) w', St G w' (osl rS 9 a6 c6 r :: dsl r_T_history_entry a1 c1 x1 :: F) → R (.returned (.slice a6 r.length c6)) w') :
    Calls Try.prog 26 #[.slice a1 x1.length c1] w R := by
  unfold history_world_names at hr
  refine enter Try.func26 rfl [(0, .slice a1 x1.length c1)] rfl rfl fun b => ?_
  refine wp_seq ?_
  refine wp_reg ?_
  refine L_pure 1 [(0, .slice a1 x1.length c1)] (by kernel_rfl) fun b => ?_
  refine wpL_nil ?_
  refine th_n ?_
  refine wp_seq ?_
  refine wp_reg ?_
  refine L_pure 1 [(0, .slice a1 x1.length c1), (3, .slice none 0 0)] (by kernel_rfl) fun b => ?_
  refine wpL_nil ?_
  refine th_n ?_
  refine wp_seq ?_
  refine wp_seq ?_
  refine wp_reg ?_
  refine L_pure 3 [(3, .slice none 0 0), (6, .slice a1 x1.length c1), (7, I (x1.length : Int)), (8, I 0)] (by kernel_rfl) fun b => ?_
  refine wpL_nil ?_
  refine th_n ?_
  obtain ⟨y2, hy2, hk2⟩ := bnd hr
  clear hr
  refine Go.Hx.wp_cut (fun a w => ∃ (a9 : Option Addr) (c9 : Nat)(b : Nat → Value), a = mkF 19 b [(3, .slice a9 y2.length c9)] ∧ St G w (osl rS 9 a9 c9 y2 :: dsl r_T_history_entry a1 c1 x1 :: F)) ?_ ?_
  · rintro _ w ⟨a9, c9, b, rfl, hst⟩
    have hr := hk2
    refine th_n ?_
    refine wp_seq ?_
    refine wp_reg ?_
    refine L_pure 2 [(2, .slice a9 y2.length c9)] (by kernel_rfl) fun b => ?_
    refine wpL_nil ?_
    refine th_n ?_
    refine wp_ret ?_
    refine ret1 rfl rfl ?_
    obtain rfl := Option.some.inj hr
    have hst := ((hst.pull 1).pull 1)
    exact hR a9 c9 _ hst
  · have hst := osl_nil rS 9 hst
    have hst := ((hst.pull 1).pull 1)
    refine wp_block ?_
    refine wp_loop_fuel (fun j a w => ∃ (v7 : (List (List UInt8))) (v8 : Int) (a7 : Option Addr) (c7 : Nat) (b : Nat → Value), a = mkF 19 b [(3, .slice a7 v7.length c7), (6, .slice a1 x1.length c1), (7, I (x1.length : Int)), (8, I v8)] ∧ St G w (osl rS 9 a7 c7 v7 :: dsl r_T_history_entry a1 c1 x1 :: F) ∧ history_world_names_l1 k x1 j v7 v8 = some y2) (k := k) ⟨[], (0 : Int), none, 0, (kpX [(3, .slice none 0 0), (6, .slice a1 x1.length c1), (7, I (x1.length : Int)), (8, I 0)] rfl ⟨hst, hy2⟩)⟩ ?_ ?_
    · rintro _ _ ⟨_, _, _, _, _, _, _, h⟩
      rw [history_world_names_l1] at h
      cases h
    · rintro j _ w ⟨v7, v8, a7, c7, b, rfl, hst, hr⟩
      rw [history_world_names_l1] at hr
      refine wp_seq ?_
      refine wp_reg ?_
      refine L_pure 1 [(3, .slice a7 v7.length c7), (6, .slice a1 x1.length c1), (7, I (x1.length : Int)), (8, I v8), (9, .bool (decide (v8 < (x1.length : Int))))] (by kernel_rfl) fun b => ?_
      refine wpL_nil ?_
      refine th_n ?_
      refine wp_seq ?_
      refine wp_cond_mkF (t := decide (v8 < (x1.length : Int))) rfl (fun h => ?_) (fun h => ?_)
      · have hr := (if_pos h).symm.trans hr
        refine wp_skip ?_
        refine th_n ?_
        refine wp_seq ?_
        refine wp_block ?_
        refine wp_seq ?_
        refine wp_reg ?_
        obtain ⟨x3, hx2, hr⟩ := bnd hr
        refine L_op rfl (O_run (v := pt (ab a1) (ao a1 + v8.toNat * 2)) (w' := w) (R_ia L58 rfl rfl (dsl_addr (hst.pull 1) hx2) (gt_some hx2).1 (gt_some hx2).2.1) rfl rfl ?_)
        obtain ⟨q2, hc2, hst⟩ := dsl_cells (hst.pull 1) hx2
        have hst := hst.drop
        refine L_op rfl (O_run (v := .agg #[S x3.name, .int .u64 x3.v]) (w' := w) (R_loadAt (off := ao a1 + v8.toNat * 2) (j := 0) hc2 rfl rfl) rfl rfl ?_)
        refine L_op rfl (O_alloc (i := Try.t68) (z := .agg #[S ([]), .int .u64 0]) [S ([]), .int .u64 0] hst rfl rfl rfl rfl fun p3 w hst => ?_)
        refine L_op rfl (O_store [S x3.name, .int .u64 x3.v] hst rfl rfl (by kernel_rfl) fun w hst => ?_)
        refine wpL_nil ?_
        refine th_n ?_
        refine wp_reg ?_
        refine L_pure 2 [(6, .slice a1 x1.length c1), (7, I (x1.length : Int)), (8, I v8), (12, .slice a7 v7.length c7), (13, pt p3 0)] (by kernel_rfl) fun b => ?_
        refine L_op rfl (O_run (v := S x3.name) (w' := w) (R_load hst rfl rfl) rfl rfl ?_)
        refine L_op rfl (O_bs (T := 9) [S x3.name] #[(0, S x3.name)] hst (by kernel_rfl) (by kernel_rfl) rfl fun p4 w hst => ?_)
        have hst := osl_of_blk0 (ecs := [[S x3.name]]) rS [x3.name] rfl (fun m => ⟨⟨(), rfl, trivial⟩, trivial⟩) rfl hst
        obtain ⟨hb2, hr⟩ := chk hr
        refine L_op rfl (O_app_o L30 (hst.pull 3) rfl rfl hb2 rfl fun a10 c10 w hst => ?_)
        refine L_pure 1 [(3, .slice a10 (v7 ++ ([x3.name])).length c10), (6, .slice a1 x1.length c1), (7, I (x1.length : Int)), (8, I v8)] (by kernel_rfl) fun b => ?_
        refine wpL_nil ?_
        refine ib_n (th_n ?_)
        refine wp_reg ?_
        refine L_pure 2 [(3, .slice a10 (v7 ++ ([x3.name])).length c10), (6, .slice a1 x1.length c1), (7, I (x1.length : Int)), (8, I (IntKind.i64.wrap (v8 + 1)))] (by kernel_rfl) fun b => ?_
        refine wpL_nil ?_
        refine th_n ?_
        have hst := (((hst.pull 3).pull 1).cut 2 2)
        exact ⟨(v7 ++ ([x3.name])), (IntKind.i64.wrap (v8 + 1)), a10, c10, (kpX [(3, .slice a10 (v7 ++ ([x3.name])).length c10), (6, .slice a1 x1.length c1), (7, I (x1.length : Int)), (8, I (IntKind.i64.wrap (v8 + 1)))] rfl ⟨hst, hr⟩)⟩
      · have hr := (if_neg (by rw [h]; exact Bool.false_ne_true)).symm.trans hr
        refine wp_exit ?_
        refine th_x (th_x (ib_x (th_n ?_)))
        obtain rfl := Option.some.inj hr
        have hst := ((hst.pull 1).pull 1)
        exact ⟨a7, c7, (kpX [(3, .slice a7 v7.length c7)] rfl hst)⟩
def slices_Equal_l1 (k : Nat) (x1 : (List (List UInt8))) (x2 : (List (List UInt8))) : Nat → Int → Option (Flow (Bool) (Unit))
  | 0, _ => none
  | j + 1, v4 => (if decide (v4 < (x1.length : Int)) = true then (Option.bind (gt x1 v4) fun x5 => (Option.bind (gt x2 v4) fun x6 => (if (!sEq x5 x6) = true then some (Flow.ret (false)) else (slices_Equal_l1 k x1 x2 j (IntKind.i64.wrap (v4 + 1)))))) else some (Flow.go ()))
def slices_Equal (k : Nat) (x1 : (List (List UInt8))) (x2 : (List (List UInt8))) : Option (Bool) := (if ((x1.length : Int) != (x2.length : Int)) = true then some (false) else (Option.bind (slices_Equal_l1 k x1 x2 k (0 : Int)) fun y2 => (match y2 with | Flow.ret r => some r | Flow.go _ => some (true))))
set_option maxRecDepth 100000 in
set_option maxHeartbeats 4000000 in
theorem slices_Equal_ok {G w : World} {F : List HP} {R : Ending → World → Prop} (k : Nat) (x1 : (List (List UInt8))) (x2 : (List (List UInt8))) (a1 : Option Addr) (c1 : Nat) (a2 : Option Addr) (c2 : Nat) (r : (Bool)) (hst : St G w (dsl rS a1 c1 x1 :: osl rS 9 a2 c2 x2 :: F)) (hr : slices_Equal k x1 x2 = some r)
    (hR : ∀ w', St G w' (dsl rS a1 c1 x1 :: osl rS 9 a2 c2 x2 :: F) → R (.returned (.bool r)) w') :
    Calls Try.prog 25 #[.slice a1 x1.length c1, .slice a2 x2.length c2] w R := by
  unfold slices_Equal at hr
  refine enter Try.func25 rfl [(0, .slice a1 x1.length c1), (1, .slice a2 x2.length c2)] rfl rfl fun b => ?_
  refine wp_seq ?_
  refine wp_reg ?_
  refine L_pure 1 [(0, .slice a1 x1.length c1), (1, .slice a2 x2.length c2)] (by kernel_rfl) fun b => ?_
  refine wpL_nil ?_
  refine th_n ?_
  refine wp_seq ?_
  refine wp_seq ?_
  refine wp_reg ?_
  refine L_pure 5 [(0, .slice a1 x1.length c1), (1, .slice a2 x2.length c2), (10, .bool ((x1.length : Int) != (x2.length : Int)))] (by kernel_rfl) fun b => ?_
  refine wpL_nil ?_
  refine th_n ?_
  refine wp_cond_mkF (t := ((x1.length : Int) != (x2.length : Int))) rfl (fun h => ?_) (fun h => ?_)
  · have hr := (if_pos h).symm.trans hr
    refine wp_seq ?_
    refine wp_reg ?_
    refine L_pure 1 [(4, .bool false)] (by kernel_rfl) fun b => ?_
    refine wpL_nil ?_
    refine th_n ?_
    refine wp_ret ?_
    refine th_r ?_
    refine ret1 rfl rfl ?_
    obtain rfl := Option.some.inj hr
    have hst := ((hst.pull 1).pull 1)
    exact hR _ hst
  · have hr := (if_neg (by rw [h]; exact Bool.false_ne_true)).symm.trans hr
    refine wp_skip ?_
    refine th_n ?_
    refine wp_seq ?_
    refine wp_seq ?_
    refine wp_reg ?_
    refine L_pure 3 [(0, .slice a1 x1.length c1), (1, .slice a2 x2.length c2), (12, I (x1.length : Int)), (13, I 0)] (by kernel_rfl) fun b => ?_
    refine wpL_nil ?_
    refine th_n ?_
    obtain ⟨y2, hy2, hk2⟩ := bnd hr
    clear hr
    refine Go.Hx.wp_cut (fun a w => ∃ (z2 : Unit) (b : Nat → Value), y2 = .go z2 ∧ a = mkF 26 b [] ∧ St G w (dsl rS a1 c1 x1 :: osl rS 9 a2 c2 x2 :: F)) ?_ ?_
    · rintro _ w ⟨z2, b, rfl, rfl, hst⟩
      have hr := hk2
      refine th_n ?_
      refine wp_seq ?_
      refine wp_reg ?_
      refine L_pure 1 [(4, .bool true)] (by kernel_rfl) fun b => ?_
      refine wpL_nil ?_
      refine th_n ?_
      refine wp_ret ?_
      refine ret1 rfl rfl ?_
      obtain rfl := Option.some.inj hr
      have hst := ((hst.pull 1).pull 1)
      exact hR _ hst
    · have hst := ((hst.pull 1).pull 1)
      refine wp_block ?_
      refine wp_loop_fuel (fun j a w => ∃ (v4 : Int) (b : Nat → Value), a = mkF 26 b [(0, .slice a1 x1.length c1), (1, .slice a2 x2.length c2), (12, I (x1.length : Int)), (13, I v4)] ∧ St G w (dsl rS a1 c1 x1 :: osl rS 9 a2 c2 x2 :: F) ∧ slices_Equal_l1 k x1 x2 j v4 = some y2) (k := k) ⟨(0 : Int), (kpX [(0, .slice a1 x1.length c1), (1, .slice a2 x2.length c2), (12, I (x1.length : Int)), (13, I 0)] rfl ⟨hst, hy2⟩)⟩ ?_ ?_
      · rintro _ _ ⟨_, _, _, _, h⟩
        rw [slices_Equal_l1] at h
        cases h
      · rintro j _ w ⟨v4, b, rfl, hst, hr⟩
        rw [slices_Equal_l1] at hr
        refine wp_seq ?_
        refine wp_reg ?_
        refine L_pure 1 [(0, .slice a1 x1.length c1), (1, .slice a2 x2.length c2), (12, I (x1.length : Int)), (13, I v4), (14, .bool (decide (v4 < (x1.length : Int))))] (by kernel_rfl) fun b => ?_
        refine wpL_nil ?_
        refine th_n ?_
        refine wp_seq ?_
        refine wp_cond_mkF (t := decide (v4 < (x1.length : Int))) rfl (fun h => ?_) (fun h => ?_)
        · have hr := (if_pos h).symm.trans hr
          refine wp_skip ?_
          refine th_n ?_
          refine wp_seq ?_
          refine wp_block ?_
          refine wp_seq ?_
          refine wp_reg ?_
          refine L_pure 2 [(0, .slice a1 x1.length c1), (1, .slice a2 x2.length c2), (5, I v4), (12, I (x1.length : Int)), (13, I v4)] (by kernel_rfl) fun b => ?_
          refine wpL_nil ?_
          refine th_n ?_
          refine wp_seq ?_
          refine wp_regG (SN { w with drawn := w.drawn + 1 }) rfl ?_
          have hst := hst.draw (n := w.drawn + 1)
          generalize { w with drawn := w.drawn + 1 } = w at hst ⊢
          refine C_take (i := 0) (v := .slice a1 x1.length c1) rfl (by kernel_rfl) (fun _ _ _ h => h) rfl rfl rfl (R_pure (by kernel_rfl)) ?_
          refine C_take (i := 1) (v := I v4) rfl (by kernel_rfl) (fun _ _ _ h => h) rfl rfl rfl (R_pure (by kernel_rfl)) ?_
          obtain ⟨x5, hx3, hr⟩ := bnd hr
          refine C_take (i := 2) (v := pt (ab a1) (ao a1 + v4.toNat * 1)) rfl (by kernel_rfl) (fun _ _ _ h => h) rfl rfl rfl (R_ia L30 rfl rfl (dsl_addr hst hx3) (gt_some hx3).1 (gt_some hx3).2.1) ?_
          obtain ⟨q3, hc3, hst⟩ := dsl_cells hst hx3
          have hst := hst.drop
          refine C_take (i := 3) (v := S x5) rfl (by kernel_rfl) (fun _ _ _ h => h) rfl rfl rfl (R_loadAt (off := ao a1 + v4.toNat * 1) (j := 0) hc3 rfl rfl) ?_
          refine C_take (i := 4) (v := .slice a2 x2.length c2) rfl (by kernel_rfl) (fun _ _ _ h => h) rfl rfl rfl (R_pure (by kernel_rfl)) ?_
          refine C_take (i := 5) (v := I v4) rfl (by kernel_rfl) (fun _ _ _ h => h) rfl rfl rfl (R_pure (by kernel_rfl)) ?_
          obtain ⟨x6, hx4, hr⟩ := bnd hr
          refine C_take (i := 6) (v := pt (ab a2) (ao a2 + v4.toNat * 1)) rfl (by kernel_rfl) (fun _ _ _ h => h) rfl rfl rfl (R_ia L30 rfl rfl (osl_addr (hst.pull 1) hx4) (gt_some hx4).1 (gt_some hx4).2.1) ?_
          obtain ⟨q4, hc4, hst⟩ := osl_cells (hst.pull 1) hx4
          have hst := hst.drop
          refine C_take (i := 7) (v := S x6) rfl (by kernel_rfl) (fun _ _ _ h => h) rfl rfl rfl (R_loadAt (off := ao a2 + v4.toNat * 1) (j := 0) hc4 rfl rfl) ?_
          refine C_take (i := 8) (v := .bool (!sEq x5 x6)) rfl (by kernel_rfl) (fun _ _ _ h => h) rfl rfl rfl (R_pure (by kernel_rfl)) ?_
          refine wpG_done (by kernel_rfl) ?_ _
          refine C_keepQ [(0, .slice a1 x1.length c1), (1, .slice a2 x2.length c2), (12, I (x1.length : Int)), (13, I v4), (24, .bool (!sEq x5 x6))] rfl fun b => ?_
          refine th_n ?_
          refine wp_cond_mkF (t := (!sEq x5 x6)) rfl (fun h => ?_) (fun h => ?_)
          · have hr := (if_pos h).symm.trans hr
            refine wp_seq ?_
            refine wp_reg ?_
            refine L_pure 1 [(4, .bool false)] (by kernel_rfl) fun b => ?_
            refine wpL_nil ?_
            refine th_n ?_
            refine wp_ret ?_
            refine ib_r (th_r (th_r (ib_r (th_r (th_r ?_)))))
            refine ret1 rfl rfl ?_
            obtain rfl := Option.some.inj hr
            obtain rfl := Option.some.inj hk2
            have hst := (hst.pull 1)
            exact hR _ hst
          · have hr := (if_neg (by rw [h]; exact Bool.false_ne_true)).symm.trans hr
            refine wp_skip ?_
            refine ib_n (th_n ?_)
            refine wp_reg ?_
            refine L_pure 2 [(0, .slice a1 x1.length c1), (1, .slice a2 x2.length c2), (12, I (x1.length : Int)), (13, I (IntKind.i64.wrap (v4 + 1)))] (by kernel_rfl) fun b => ?_
            refine wpL_nil ?_
            refine th_n ?_
            have hst := (hst.pull 1)
            exact ⟨(IntKind.i64.wrap (v4 + 1)), (kpX [(0, .slice a1 x1.length c1), (1, .slice a2 x2.length c2), (12, I (x1.length : Int)), (13, I (IntKind.i64.wrap (v4 + 1)))] rfl ⟨hst, hr⟩)⟩
        · have hr := (if_neg (by rw [h]; exact Bool.false_ne_true)).symm.trans hr
          refine wp_exit ?_
          refine th_x (th_x (ib_x (th_n ?_)))
          obtain rfl := Option.some.inj hr
          have hst := ((hst.pull 1).pull 1)
          exact ⟨(), (kpXf [] rfl hst)⟩
def history_Op_do (k : Nat) (x1 : T_history_Op) (x2 : (List T_history_entry)) : Option ((List T_history_entry) × Bool) := (Option.bind (history_world_find k x2 x1.Name) fun y12 => (if (x1.Kind == 1) = true then (Option.bind (Option.bind (history_world_with k x2 x1.Name x1.Value) fun y14 => (if decide (x1.End < 0) = true then some (y14, true) else some (y14, (x1.Err == 0)))) fun y13 => some (y13.1, y13.2)) else (if (x1.Kind == 3) = true then (Option.bind (if (!y12.2) = true then some ((5 : Int)) else some ((0 : Int))) fun y15 => (Option.bind (Option.bind (history_world_without k x2 x1.Name) fun y17 => (if decide (x1.End < 0) = true then some (y17, true) else some (y17, (x1.Err == y15)))) fun y16 => some (y16.1, y16.2))) else (if (x1.Kind == 4) = true then (Option.bind (if decide (x1.End < 0) = true then some (true) else (if (x1.Err == 0) = true then (Option.bind (history_world_names k x2) fun y19 => (Option.bind (slices_Equal k x1.Names y19) fun y20 => some (y20))) else some (false))) fun y18 => some (x2, y18)) else (if (!y12.2) = true then (Option.bind (if decide (x1.End < 0) = true then some (true) else some ((x1.Err == 5))) fun y21 => some (x2, y21)) else (Option.bind (if decide (x1.End < 0) = true then some (true) else (if (x1.Err == 0) = true then (Option.bind (gt x2 y12.1) fun x4 => some ((x1.Got == x4.v))) else some (false))) fun y22 => some (x2, y22)))))))
set_option maxRecDepth 100000 in
set_option maxHeartbeats 4000000 in
theorem history_Op_do_ok {G w : World} {F : List HP} {R : Ending → World → Prop} (k : Nat) (x1 : T_history_Op) (x2 : (List T_history_entry)) (a1 : Option Addr) (c1 : Nat) (a2 : Option Addr) (c2 : Nat) (r : ((List T_history_entry) × Bool)) (hst : St G w (dsl rS a1 c1 x1.Names :: dsl r_T_history_entry a2 c2 x2 :: F)) (hr : history_Op_do k x1 x2 = some r)
    (hR : ∀ (a8 : Option Addr) (c8 : Nat) w', St G w' (dsl r_T_history_entry a8 c8 r.1 :: dsl rS a1 c1 x1.Names :: dsl r_T_history_entry a2 c2 x2 :: F) → R (.returned (.tuple #[.slice a8 r.1.length c8, .bool r.2])) w') :
    Calls Try.prog 21 #[.agg #[I x1.Kind, S x1.Name, .int .u64 x1.Value, I x1.Start, I x1.End, I x1.Err, .int .u64 x1.Got, .slice a1 x1.Names.length c1], .slice a2 x2.length c2] w R := by
  unfold history_Op_do at hr
  refine enter Try.func21 rfl [(0, .agg #[I x1.Kind, S x1.Name, .int .u64 x1.Value, I x1.Start, I x1.End, I x1.Err, .int .u64 x1.Got, .slice a1 x1.Names.length c1]), (1, .slice a2 x2.length c2)] rfl rfl fun b => ?_
  refine wp_seq ?_
  refine wp_reg ?_
  refine L_op rfl (O_box [I x1.Kind, S x1.Name, .int .u64 x1.Value, I x1.Start, I x1.End, I x1.Err, .int .u64 x1.Got, .slice a1 x1.Names.length c1] hst rfl rfl fun p2 w hst => ?_)
  refine L_pure 2 [(1, .slice a2 x2.length c2), (2, pt p2 0)] (by kernel_rfl) fun b => ?_
  refine wpL_nil ?_
  refine th_n ?_
  refine wp_seq ?_
  refine wp_reg ?_
  refine L_pure 1 [(1, .slice a2 x2.length c2), (2, pt p2 0), (10, pt p2 4)] (by kernel_rfl) fun b => ?_
  refine L_op rfl (O_run (v := I x1.End) (w' := w) (R_load hst rfl rfl) rfl rfl ?_)
  refine L_pure 2 [(1, .slice a2 x2.length c2), (2, pt p2 0), (6, .bool (decide (x1.End < 0)))] (by kernel_rfl) fun b => ?_
  refine wpL_nil ?_
  refine th_n ?_
  refine wp_seq ?_
  refine wp_reg ?_
  refine L_pure 2 [(1, .slice a2 x2.length c2), (2, pt p2 0), (6, .bool (decide (x1.End < 0))), (14, .slice a2 x2.length c2), (15, pt p2 1)] (by kernel_rfl) fun b => ?_
  refine L_op rfl (O_run (v := S x1.Name) (w' := w) (R_load hst rfl rfl) rfl rfl ?_)
  obtain ⟨y12, hy12, hr⟩ := bnd hr
  refine L_op rfl (O_call (vs := #[.slice a2 x2.length c2, S x1.Name]) Try.call22 (by kernel_rfl) (history_world_find_ok k x2 x1.Name a2 c2 y12 (hst.pull 2) hy12 fun w hst => ?_))
  refine CK_ret rfl ?_
  refine L_pure 5 [(1, .slice a2 x2.length c2), (2, pt p2 0), (6, .bool (decide (x1.End < 0))), (7, I y12.1), (8, .bool y12.2)] (by kernel_rfl) fun b => ?_
  refine wpL_nil ?_
  refine th_n ?_
  refine wp_seq ?_
  refine wp_seq ?_
  refine wp_reg ?_
  refine L_pure 1 [(1, .slice a2 x2.length c2), (2, pt p2 0), (6, .bool (decide (x1.End < 0))), (7, I y12.1), (8, .bool y12.2), (20, pt p2 0)] (by kernel_rfl) fun b => ?_
  refine L_op rfl (O_run (v := I x1.Kind) (w' := w) (R_load (hst.pull 1) rfl rfl) rfl rfl ?_)
  refine wpL_nil ?_
  refine th_n ?_
  refine wp_block ?_
  refine wp_seq ?_
  refine wp_reg ?_
  refine L_pure 2 [(1, .slice a2 x2.length c2), (2, pt p2 0), (6, .bool (decide (x1.End < 0))), (7, I y12.1), (8, .bool y12.2), (21, I x1.Kind), (22, .bool (x1.Kind == 1))] (by kernel_rfl) fun b => ?_
  refine wpL_nil ?_
  refine th_n ?_
  refine wp_cond_mkF (t := (x1.Kind == 1)) rfl (fun h => ?_) (fun h => ?_)
  · have hr := (if_pos h).symm.trans hr
    obtain ⟨y13, hy13, hk7⟩ := bnd hr
    clear hr
    refine wp_seq_cut (fun a w => ∃ (a9 : Option Addr) (c9 : Nat)(b : Nat → Value), a = mkF 93 b [(4, .slice a9 y13.1.length c9), (5, .bool y13.2)] ∧ St G w (osl r_T_history_entry 68 a9 c9 y13.1 :: dsl r_T_history_entry a2 c2 x2 :: blk p2 (cl [I x1.Kind, S x1.Name, .int .u64 x1.Value, I x1.Start, I x1.End, I x1.Err, .int .u64 x1.Got, .slice a1 x1.Names.length c1] 32) :: dsl rS a1 c1 x1.Names :: F)) ?_ ?_
    · rintro _ w ⟨a9, c9, b, rfl, hst⟩
      have hr := hk7
      refine wp_ret ?_
      refine ib_r (th_r ?_)
      refine ret2 rfl rfl rfl ?_
      obtain rfl := Option.some.inj hr
      have hst := osl_freeze hst
      have hst := ((((hst.pull 1).pull 3).pull 2).cut 3 1)
      exact hR a9 c9 _ hst
    · have hr := hy13
      refine wp_regG (SQ (fun w => St G w (dsl r_T_history_entry a2 c2 x2 :: blk p2 (cl [I x1.Kind, S x1.Name, .int .u64 x1.Value, I x1.Start, I x1.End, I x1.Err, .int .u64 x1.Got, .slice a1 x1.Names.length c1] 32) :: dsl rS a1 c1 x1.Names :: F))) rfl ?_
      have hst := hst.draw (n := w.drawn + 1)
      generalize { w with drawn := w.drawn + 1 } = w at hst ⊢
      refine Q_take (i := 0) (v := .slice a2 x2.length c2) rfl (by kernel_rfl) (fun _ _ _ h => h) rfl rfl rfl (fun _ _ => R_pure (by kernel_rfl)) (((hst.pull 2).pull 2).pull 2) ?_
      refine Q_take (i := 1) (v := pt p2 1) rfl (by kernel_rfl) (fun _ _ _ h => h) rfl rfl rfl (fun _ _ => R_pure (by kernel_rfl)) (((hst.pull 2).pull 2).pull 2) ?_
      refine Q_take (i := 2) (v := S x1.Name) rfl (by kernel_rfl) (fun _ _ _ h => h) rfl rfl rfl (fun w hst => R_load (hst.pull 1) rfl rfl) (((hst.pull 2).pull 2).pull 2) ?_
      refine Q_take (i := 3) (v := pt p2 2) rfl (by kernel_rfl) (fun _ _ _ h => h) rfl rfl rfl (fun _ _ => R_pure (by kernel_rfl)) (((hst.pull 2).pull 2).pull 2) ?_
      refine Q_take (i := 4) (v := .int .u64 x1.Value) rfl (by kernel_rfl) (fun _ _ _ h => h) rfl rfl rfl (fun w hst => R_load (hst.pull 1) rfl rfl) (((hst.pull 2).pull 2).pull 2) ?_
      refine Q_take (i := 6) (v := .bool (decide (x1.End < 0))) rfl (by kernel_rfl) (fun _ _ _ h => h) rfl rfl rfl (fun _ _ => R_pure (by kernel_rfl)) (((hst.pull 2).pull 2).pull 2) ?_
      obtain ⟨y14, hy14, hr⟩ := bnd hr
      refine Q_one (i := 5) (by kernel_rfl) rfl rfl (O_call (vs := #[.slice a2 x2.length c2, S x1.Name, .int .u64 x1.Value]) Try.call23 (by kernel_rfl) (history_world_with_ok k x2 x1.Name x1.Value a2 c2 y14 hst hy14 fun a10 c10 w hst => ?_))
      refine CK_ret rfl ?_
      refine ⟨((((hst.pull 3).pull 3).pull 3).cut 3 1), ?_⟩
      refine Q_take (i := 7) (v := .bool (decide (x1.End < 0))) rfl (by kernel_rfl) (fun _ _ _ h => h) rfl rfl rfl (fun _ _ => R_pure (by kernel_rfl)) ((((hst.pull 3).pull 3).pull 3).cut 3 1) ?_
      by_cases h : (decide (x1.End < 0)) = true
      · have hr := (if_pos h).symm.trans hr
        refine C_keep ((31, .bool (decide (x1.End < 0))) :: [(1, .slice a2 x2.length c2), (2, pt p2 0), (6, .bool (decide (x1.End < 0))), (7, I y12.1), (8, .bool y12.2), (21, I x1.Kind), (22, .bool (x1.Kind == 1)), (24, .slice a2 x2.length c2), (25, pt p2 1), (26, S x1.Name), (27, pt p2 2), (28, .int .u64 x1.Value), (29, .slice a10 y14.length c10), (30, .bool (decide (x1.End < 0)))]) rfl fun b => ?_
        refine C_bool h ?_
        refine Q_skip (i := 8) rfl (by kernel_rfl) (fun _ _ _ h => h) rfl rfl rfl ((((hst.pull 3).pull 3).pull 3).cut 3 1) ?_
        refine Q_skip (i := 9) rfl (by kernel_rfl) (fun _ _ _ h => h) rfl rfl rfl ((((hst.pull 3).pull 3).pull 3).cut 3 1) ?_
        refine Q_skip (i := 10) rfl (by kernel_rfl) (fun _ _ _ h => h) rfl rfl rfl ((((hst.pull 3).pull 3).pull 3).cut 3 1) ?_
        refine Q_take (i := 11) (v := .bool true) rfl (by kernel_rfl) (fun _ _ _ h => h) rfl rfl rfl (fun _ _ => R_pure (by kernel_rfl)) ((((hst.pull 3).pull 3).pull 3).cut 3 1) ?_
        refine Q_take (i := 12) (v := .slice a10 y14.length c10) rfl (by kernel_rfl) (fun _ _ _ h => h) rfl rfl rfl (fun _ _ => R_pure (by kernel_rfl)) ((((hst.pull 3).pull 3).pull 3).cut 3 1) ?_
        refine Q_take (i := 13) (v := .bool true) rfl (by kernel_rfl) (fun _ _ _ h => h) rfl rfl rfl (fun _ _ => R_pure (by kernel_rfl)) ((((hst.pull 3).pull 3).pull 3).cut 3 1) ?_
        refine wpG_done (by kernel_rfl) ?_ _
        refine C_keepQ [(4, .slice a10 y14.length c10), (5, .bool true)] rfl fun b => ?_
        refine th_n ?_
        obtain rfl := Option.some.inj hr
        have hst := ((((hst.pull 3).pull 3).pull 3).pull 3)
        exact ⟨a10, c10, (kpX [(4, .slice a10 y14.length c10), (5, .bool true)] rfl hst)⟩
      · have hr := (if_neg h).symm.trans hr
        refine C_keep ((31, .bool (decide (x1.End < 0))) :: [(1, .slice a2 x2.length c2), (2, pt p2 0), (6, .bool (decide (x1.End < 0))), (7, I y12.1), (8, .bool y12.2), (21, I x1.Kind), (22, .bool (x1.Kind == 1)), (24, .slice a2 x2.length c2), (25, pt p2 1), (26, S x1.Name), (27, pt p2 2), (28, .int .u64 x1.Value), (29, .slice a10 y14.length c10), (30, .bool (decide (x1.End < 0)))]) rfl fun b => ?_
        refine C_bool (eq_false_of_ne_true h) ?_
        refine Q_take (i := 8) (v := pt p2 5) rfl (by kernel_rfl) (fun _ _ _ h => h) rfl rfl rfl (fun _ _ => R_pure (by kernel_rfl)) ((((hst.pull 3).pull 3).pull 3).cut 3 1) ?_
        refine Q_take (i := 9) (v := I x1.Err) rfl (by kernel_rfl) (fun _ _ _ h => h) rfl rfl rfl (fun w hst => R_load (hst.pull 1) rfl rfl) ((((hst.pull 3).pull 3).pull 3).cut 3 1) ?_
        refine Q_take (i := 10) (v := .bool (x1.Err == 0)) rfl (by kernel_rfl) (fun _ _ _ h => h) rfl rfl rfl (fun _ _ => R_pure (by kernel_rfl)) ((((hst.pull 3).pull 3).pull 3).cut 3 1) ?_
        refine Q_take (i := 11) (v := .bool (x1.Err == 0)) rfl (by kernel_rfl) (fun _ _ _ h => h) rfl rfl rfl (fun _ _ => R_pure (by kernel_rfl)) ((((hst.pull 3).pull 3).pull 3).cut 3 1) ?_
        refine Q_take (i := 12) (v := .slice a10 y14.length c10) rfl (by kernel_rfl) (fun _ _ _ h => h) rfl rfl rfl (fun _ _ => R_pure (by kernel_rfl)) ((((hst.pull 3).pull 3).pull 3).cut 3 1) ?_
        refine Q_take (i := 13) (v := .bool (x1.Err == 0)) rfl (by kernel_rfl) (fun _ _ _ h => h) rfl rfl rfl (fun _ _ => R_pure (by kernel_rfl)) ((((hst.pull 3).pull 3).pull 3).cut 3 1) ?_
        refine wpG_done (by kernel_rfl) ?_ _
        refine C_keepQ [(4, .slice a10 y14.length c10), (5, .bool (x1.Err == 0))] rfl fun b => ?_
        refine th_n ?_
        obtain rfl := Option.some.inj hr
        have hst := ((((hst.pull 3).pull 3).pull 3).pull 3)
        exact ⟨a10, c10, (kpX [(4, .slice a10 y14.length c10), (5, .bool (x1.Err == 0))] rfl hst)⟩
  · have hr := (if_neg (by rw [h]; exact Bool.false_ne_true)).symm.trans hr
    refine wp_seq ?_
    refine wp_reg ?_
    refine L_pure 2 [(1, .slice a2 x2.length c2), (2, pt p2 0), (6, .bool (decide (x1.End < 0))), (7, I y12.1), (8, .bool y12.2), (21, I x1.Kind), (36, .bool (x1.Kind == 3))] (by kernel_rfl) fun b => ?_
    refine wpL_nil ?_
    refine th_n ?_
    refine wp_cond_mkF (t := (x1.Kind == 3)) rfl (fun h => ?_) (fun h => ?_)
    · have hr := (if_pos h).symm.trans hr
      refine wp_seq ?_
      refine wp_reg ?_
      refine L_pure 1 [(1, .slice a2 x2.length c2), (2, pt p2 0), (6, .bool (decide (x1.End < 0))), (8, .bool y12.2), (9, I 0)] (by kernel_rfl) fun b => ?_
      refine wpL_nil ?_
      refine th_n ?_
      obtain ⟨y15, hy15, hk8⟩ := bnd hr
      clear hr
      refine wp_seq_cut (fun a w => ∃ (b : Nat → Value), a = mkF 93 b [(1, .slice a2 x2.length c2), (2, pt p2 0), (6, .bool (decide (x1.End < 0))), (9, I y15)] ∧ St G w (dsl r_T_history_entry a2 c2 x2 :: blk p2 (cl [I x1.Kind, S x1.Name, .int .u64 x1.Value, I x1.Start, I x1.End, I x1.Err, .int .u64 x1.Got, .slice a1 x1.Names.length c1] 32) :: dsl rS a1 c1 x1.Names :: F)) ?_ ?_
      · rintro _ w ⟨b, rfl, hst⟩
        have hr := hk8
        obtain ⟨y16, hy16, hk9⟩ := bnd hr
        clear hr
        refine wp_seq_cut (fun a w => ∃ (a11 : Option Addr) (c11 : Nat)(b : Nat → Value), a = mkF 93 b [(4, .slice a11 y16.1.length c11), (5, .bool y16.2)] ∧ St G w (dsl r_T_history_entry a11 c11 y16.1 :: dsl r_T_history_entry a2 c2 x2 :: blk p2 (cl [I x1.Kind, S x1.Name, .int .u64 x1.Value, I x1.Start, I x1.End, I x1.Err, .int .u64 x1.Got, .slice a1 x1.Names.length c1] 32) :: dsl rS a1 c1 x1.Names :: F)) ?_ ?_
        · rintro _ w ⟨a11, c11, b, rfl, hst⟩
          have hr := hk9
          refine wp_ret ?_
          refine ib_r (th_r ?_)
          refine ret2 rfl rfl rfl ?_
          obtain rfl := Option.some.inj hr
          have hst := ((((hst.pull 1).pull 3).pull 2).cut 3 1)
          exact hR a11 c11 _ hst
        · have hr := hy16
          refine wp_regG (SQ (fun w => St G w (dsl r_T_history_entry a2 c2 x2 :: blk p2 (cl [I x1.Kind, S x1.Name, .int .u64 x1.Value, I x1.Start, I x1.End, I x1.Err, .int .u64 x1.Got, .slice a1 x1.Names.length c1] 32) :: dsl rS a1 c1 x1.Names :: F))) rfl ?_
          have hst := hst.draw (n := w.drawn + 1)
          generalize { w with drawn := w.drawn + 1 } = w at hst ⊢
          refine Q_take (i := 0) (v := .slice a2 x2.length c2) rfl (by kernel_rfl) (fun _ _ _ h => h) rfl rfl rfl (fun _ _ => R_pure (by kernel_rfl)) (((hst.pull 2).pull 2).pull 2) ?_
          refine Q_take (i := 1) (v := pt p2 1) rfl (by kernel_rfl) (fun _ _ _ h => h) rfl rfl rfl (fun _ _ => R_pure (by kernel_rfl)) (((hst.pull 2).pull 2).pull 2) ?_
          refine Q_take (i := 2) (v := S x1.Name) rfl (by kernel_rfl) (fun _ _ _ h => h) rfl rfl rfl (fun w hst => R_load (hst.pull 1) rfl rfl) (((hst.pull 2).pull 2).pull 2) ?_
          refine Q_take (i := 4) (v := .bool (decide (x1.End < 0))) rfl (by kernel_rfl) (fun _ _ _ h => h) rfl rfl rfl (fun _ _ => R_pure (by kernel_rfl)) (((hst.pull 2).pull 2).pull 2) ?_
          obtain ⟨y17, hy17, hr⟩ := bnd hr
          refine Q_one (i := 3) (by kernel_rfl) rfl rfl (O_call (vs := #[.slice a2 x2.length c2, S x1.Name]) Try.call24 (by kernel_rfl) (history_world_without_ok k x2 x1.Name a2 c2 y17 hst hy17 fun a12 c12 w hst => ?_))
          refine CK_ret rfl ?_
          refine ⟨((((hst.pull 3).pull 3).pull 3).cut 3 1), ?_⟩
          refine Q_take (i := 5) (v := .bool (decide (x1.End < 0))) rfl (by kernel_rfl) (fun _ _ _ h => h) rfl rfl rfl (fun _ _ => R_pure (by kernel_rfl)) ((((hst.pull 3).pull 3).pull 3).cut 3 1) ?_
          by_cases h : (decide (x1.End < 0)) = true
          · have hr := (if_pos h).symm.trans hr
            refine C_keep ((45, .bool (decide (x1.End < 0))) :: [(1, .slice a2 x2.length c2), (2, pt p2 0), (6, .bool (decide (x1.End < 0))), (9, I y15), (40, .slice a2 x2.length c2), (41, pt p2 1), (42, S x1.Name), (43, .slice a12 y17.length c12), (44, .bool (decide (x1.End < 0)))]) rfl fun b => ?_
            refine C_bool h ?_
            refine Q_skip (i := 6) rfl (by kernel_rfl) (fun _ _ _ h => h) rfl rfl rfl ((((hst.pull 3).pull 3).pull 3).cut 3 1) ?_
            refine Q_skip (i := 7) rfl (by kernel_rfl) (fun _ _ _ h => h) rfl rfl rfl ((((hst.pull 3).pull 3).pull 3).cut 3 1) ?_
            refine Q_skip (i := 8) rfl (by kernel_rfl) (fun _ _ _ h => h) rfl rfl rfl ((((hst.pull 3).pull 3).pull 3).cut 3 1) ?_
            refine Q_skip (i := 9) rfl (by kernel_rfl) (fun _ _ _ h => h) rfl rfl rfl ((((hst.pull 3).pull 3).pull 3).cut 3 1) ?_
            refine Q_take (i := 10) (v := .bool true) rfl (by kernel_rfl) (fun _ _ _ h => h) rfl rfl rfl (fun _ _ => R_pure (by kernel_rfl)) ((((hst.pull 3).pull 3).pull 3).cut 3 1) ?_
            refine Q_take (i := 11) (v := .slice a12 y17.length c12) rfl (by kernel_rfl) (fun _ _ _ h => h) rfl rfl rfl (fun _ _ => R_pure (by kernel_rfl)) ((((hst.pull 3).pull 3).pull 3).cut 3 1) ?_
            refine Q_take (i := 12) (v := .bool true) rfl (by kernel_rfl) (fun _ _ _ h => h) rfl rfl rfl (fun _ _ => R_pure (by kernel_rfl)) ((((hst.pull 3).pull 3).pull 3).cut 3 1) ?_
            refine wpG_done (by kernel_rfl) ?_ _
            refine C_keepQ [(4, .slice a12 y17.length c12), (5, .bool true)] rfl fun b => ?_
            refine th_n ?_
            obtain rfl := Option.some.inj hr
            have hst := ((((hst.pull 3).pull 3).pull 3).pull 3)
            exact ⟨a12, c12, (kpX [(4, .slice a12 y17.length c12), (5, .bool true)] rfl hst)⟩
          · have hr := (if_neg h).symm.trans hr
            refine C_keep ((45, .bool (decide (x1.End < 0))) :: [(1, .slice a2 x2.length c2), (2, pt p2 0), (6, .bool (decide (x1.End < 0))), (9, I y15), (40, .slice a2 x2.length c2), (41, pt p2 1), (42, S x1.Name), (43, .slice a12 y17.length c12), (44, .bool (decide (x1.End < 0)))]) rfl fun b => ?_
            refine C_bool (eq_false_of_ne_true h) ?_
            refine Q_take (i := 6) (v := pt p2 5) rfl (by kernel_rfl) (fun _ _ _ h => h) rfl rfl rfl (fun _ _ => R_pure (by kernel_rfl)) ((((hst.pull 3).pull 3).pull 3).cut 3 1) ?_
            refine Q_take (i := 7) (v := I x1.Err) rfl (by kernel_rfl) (fun _ _ _ h => h) rfl rfl rfl (fun w hst => R_load (hst.pull 1) rfl rfl) ((((hst.pull 3).pull 3).pull 3).cut 3 1) ?_
            refine Q_take (i := 8) (v := I y15) rfl (by kernel_rfl) (fun _ _ _ h => h) rfl rfl rfl (fun _ _ => R_pure (by kernel_rfl)) ((((hst.pull 3).pull 3).pull 3).cut 3 1) ?_
            refine Q_take (i := 9) (v := .bool (x1.Err == y15)) rfl (by kernel_rfl) (fun _ _ _ h => h) rfl rfl rfl (fun _ _ => R_pure (by kernel_rfl)) ((((hst.pull 3).pull 3).pull 3).cut 3 1) ?_
            refine Q_take (i := 10) (v := .bool (x1.Err == y15)) rfl (by kernel_rfl) (fun _ _ _ h => h) rfl rfl rfl (fun _ _ => R_pure (by kernel_rfl)) ((((hst.pull 3).pull 3).pull 3).cut 3 1) ?_
            refine Q_take (i := 11) (v := .slice a12 y17.length c12) rfl (by kernel_rfl) (fun _ _ _ h => h) rfl rfl rfl (fun _ _ => R_pure (by kernel_rfl)) ((((hst.pull 3).pull 3).pull 3).cut 3 1) ?_
            refine Q_take (i := 12) (v := .bool (x1.Err == y15)) rfl (by kernel_rfl) (fun _ _ _ h => h) rfl rfl rfl (fun _ _ => R_pure (by kernel_rfl)) ((((hst.pull 3).pull 3).pull 3).cut 3 1) ?_
            refine wpG_done (by kernel_rfl) ?_ _
            refine C_keepQ [(4, .slice a12 y17.length c12), (5, .bool (x1.Err == y15))] rfl fun b => ?_
            refine th_n ?_
            obtain rfl := Option.some.inj hr
            have hst := ((((hst.pull 3).pull 3).pull 3).pull 3)
            exact ⟨a12, c12, (kpX [(4, .slice a12 y17.length c12), (5, .bool (x1.Err == y15))] rfl hst)⟩
      · have hr := hy15
        refine wp_seq ?_
        refine wp_reg ?_
        refine L_pure 2 [(1, .slice a2 x2.length c2), (2, pt p2 0), (6, .bool (decide (x1.End < 0))), (9, I 0), (39, .bool (!y12.2))] (by kernel_rfl) fun b => ?_
        refine wpL_nil ?_
        refine th_n ?_
        refine wp_cond_mkF (t := (!y12.2)) rfl (fun h => ?_) (fun h => ?_)
        · have hr := (if_pos h).symm.trans hr
          refine wp_reg ?_
          refine L_pure 1 [(1, .slice a2 x2.length c2), (2, pt p2 0), (6, .bool (decide (x1.End < 0))), (9, I 5)] (by kernel_rfl) fun b => ?_
          refine wpL_nil ?_
          refine th_n ?_
          obtain rfl := Option.some.inj hr
          have hst := (((hst.pull 2).pull 2).pull 2)
          exact (kpX [(1, .slice a2 x2.length c2), (2, pt p2 0), (6, .bool (decide (x1.End < 0))), (9, I 5)] rfl hst)
        · have hr := (if_neg (by rw [h]; exact Bool.false_ne_true)).symm.trans hr
          refine wp_skip ?_
          refine th_n ?_
          obtain rfl := Option.some.inj hr
          have hst := (((hst.pull 2).pull 2).pull 2)
          exact (kpX [(1, .slice a2 x2.length c2), (2, pt p2 0), (6, .bool (decide (x1.End < 0))), (9, I 0)] rfl hst)
    · have hr := (if_neg (by rw [h]; exact Bool.false_ne_true)).symm.trans hr
      refine wp_seq ?_
      refine wp_reg ?_
      refine L_pure 2 [(1, .slice a2 x2.length c2), (2, pt p2 0), (6, .bool (decide (x1.End < 0))), (7, I y12.1), (8, .bool y12.2), (51, .bool (x1.Kind == 4))] (by kernel_rfl) fun b => ?_
      refine wpL_nil ?_
      refine th_n ?_
      refine wp_cond_mkF (t := (x1.Kind == 4)) rfl (fun h => ?_) (fun h => ?_)
      · have hr := (if_pos h).symm.trans hr
        obtain ⟨y18, hy18, hk10⟩ := bnd hr
        clear hr
        refine wp_seq_cut (fun a w => ∃ (b : Nat → Value), a = mkF 93 b [(4, .slice a2 x2.length c2), (5, .bool y18)] ∧ St G w (dsl r_T_history_entry a2 c2 x2 :: blk p2 (cl [I x1.Kind, S x1.Name, .int .u64 x1.Value, I x1.Start, I x1.End, I x1.Err, .int .u64 x1.Got, .slice a1 x1.Names.length c1] 32) :: dsl rS a1 c1 x1.Names :: F)) ?_ ?_
        · rintro _ w ⟨b, rfl, hst⟩
          have hr := hk10
          refine wp_ret ?_
          refine ib_r (th_r ?_)
          refine ret2 rfl rfl rfl ?_
          obtain rfl := Option.some.inj hr
          have hst := hst.dup
          have hst := (((hst.pull 3).pull 2).cut 3 1)
          exact hR a2 c2 _ hst
        · have hr := hy18
          refine wp_regG (SQ (fun w => St G w (dsl r_T_history_entry a2 c2 x2 :: blk p2 (cl [I x1.Kind, S x1.Name, .int .u64 x1.Value, I x1.Start, I x1.End, I x1.Err, .int .u64 x1.Got, .slice a1 x1.Names.length c1] 32) :: dsl rS a1 c1 x1.Names :: F))) rfl ?_
          have hst := hst.draw (n := w.drawn + 1)
          generalize { w with drawn := w.drawn + 1 } = w at hst ⊢
          refine Q_take (i := 0) (v := .slice a2 x2.length c2) rfl (by kernel_rfl) (fun _ _ _ h => h) rfl rfl rfl (fun _ _ => R_pure (by kernel_rfl)) (((hst.pull 2).pull 2).pull 2) ?_
          refine Q_take (i := 1) (v := .bool (decide (x1.End < 0))) rfl (by kernel_rfl) (fun _ _ _ h => h) rfl rfl rfl (fun _ _ => R_pure (by kernel_rfl)) (((hst.pull 2).pull 2).pull 2) ?_
          refine Q_take (i := 2) (v := .bool (decide (x1.End < 0))) rfl (by kernel_rfl) (fun _ _ _ h => h) rfl rfl rfl (fun _ _ => R_pure (by kernel_rfl)) (((hst.pull 2).pull 2).pull 2) ?_
          by_cases h : (decide (x1.End < 0)) = true
          · have hr := (if_pos h).symm.trans hr
            refine C_keep ((55, .bool (decide (x1.End < 0))) :: [(1, .slice a2 x2.length c2), (2, pt p2 0), (6, .bool (decide (x1.End < 0))), (7, I y12.1), (8, .bool y12.2), (51, .bool (x1.Kind == 4)), (53, .slice a2 x2.length c2), (54, .bool (decide (x1.End < 0)))]) rfl fun b => ?_
            refine C_bool h ?_
            refine Q_skip (i := 3) rfl (by kernel_rfl) (fun _ _ _ h => h) rfl rfl rfl (((hst.pull 2).pull 2).pull 2) ?_
            refine Q_skip (i := 4) rfl (by kernel_rfl) (fun _ _ _ h => h) rfl rfl rfl (((hst.pull 2).pull 2).pull 2) ?_
            refine Q_skip (i := 5) rfl (by kernel_rfl) (fun _ _ _ h => h) rfl rfl rfl (((hst.pull 2).pull 2).pull 2) ?_
            refine Q_skip (i := 6) rfl (by kernel_rfl) (fun _ _ _ h => h) rfl rfl rfl (((hst.pull 2).pull 2).pull 2) ?_
            refine Q_skip (i := 7) rfl (by kernel_rfl) (fun _ _ _ h => h) rfl rfl rfl (((hst.pull 2).pull 2).pull 2) ?_
            refine Q_skip (i := 8) rfl (by kernel_rfl) (fun _ _ _ h => h) rfl rfl rfl (((hst.pull 2).pull 2).pull 2) ?_
            refine Q_skip (i := 9) rfl (by kernel_rfl) (fun _ _ _ h => h) rfl rfl rfl (((hst.pull 2).pull 2).pull 2) ?_
            refine Q_skip (i := 10) rfl (by kernel_rfl) (fun _ _ _ h => h) rfl rfl rfl (((hst.pull 2).pull 2).pull 2) ?_
            refine Q_skip (i := 11) rfl (by kernel_rfl) (fun _ _ _ h => h) rfl rfl rfl (((hst.pull 2).pull 2).pull 2) ?_
            refine Q_skip (i := 12) rfl (by kernel_rfl) (fun _ _ _ h => h) rfl rfl rfl (((hst.pull 2).pull 2).pull 2) ?_
            refine Q_take (i := 13) (v := .bool true) rfl (by kernel_rfl) (fun _ _ _ h => h) rfl rfl rfl (fun _ _ => R_pure (by kernel_rfl)) (((hst.pull 2).pull 2).pull 2) ?_
            refine Q_take (i := 14) (v := .slice a2 x2.length c2) rfl (by kernel_rfl) (fun _ _ _ h => h) rfl rfl rfl (fun _ _ => R_pure (by kernel_rfl)) (((hst.pull 2).pull 2).pull 2) ?_
            refine Q_take (i := 15) (v := .bool true) rfl (by kernel_rfl) (fun _ _ _ h => h) rfl rfl rfl (fun _ _ => R_pure (by kernel_rfl)) (((hst.pull 2).pull 2).pull 2) ?_
            refine wpG_done (by kernel_rfl) ?_ _
            refine C_keepQ [(4, .slice a2 x2.length c2), (5, .bool true)] rfl fun b => ?_
            refine th_n ?_
            obtain rfl := Option.some.inj hr
            have hst := (((hst.pull 2).pull 2).pull 2)
            exact (kpX [(4, .slice a2 x2.length c2), (5, .bool true)] rfl hst)
          · have hr := (if_neg h).symm.trans hr
            refine C_keep ((55, .bool (decide (x1.End < 0))) :: [(1, .slice a2 x2.length c2), (2, pt p2 0), (6, .bool (decide (x1.End < 0))), (7, I y12.1), (8, .bool y12.2), (51, .bool (x1.Kind == 4)), (53, .slice a2 x2.length c2), (54, .bool (decide (x1.End < 0)))]) rfl fun b => ?_
            refine C_bool (eq_false_of_ne_true h) ?_
            refine Q_take (i := 3) (v := pt p2 5) rfl (by kernel_rfl) (fun _ _ _ h => h) rfl rfl rfl (fun _ _ => R_pure (by kernel_rfl)) (((hst.pull 2).pull 2).pull 2) ?_
            refine Q_take (i := 4) (v := I x1.Err) rfl (by kernel_rfl) (fun _ _ _ h => h) rfl rfl rfl (fun w hst => R_load (hst.pull 1) rfl rfl) (((hst.pull 2).pull 2).pull 2) ?_
            refine Q_take (i := 5) (v := .bool (x1.Err == 0)) rfl (by kernel_rfl) (fun _ _ _ h => h) rfl rfl rfl (fun _ _ => R_pure (by kernel_rfl)) (((hst.pull 2).pull 2).pull 2) ?_
            refine Q_take (i := 6) (v := .bool (x1.Err == 0)) rfl (by kernel_rfl) (fun _ _ _ h => h) rfl rfl rfl (fun _ _ => R_pure (by kernel_rfl)) (((hst.pull 2).pull 2).pull 2) ?_
            by_cases h : (x1.Err == 0) = true
            · have hr := (if_pos h).symm.trans hr
              refine C_keep ((59, .bool (x1.Err == 0)) :: [(1, .slice a2 x2.length c2), (2, pt p2 0), (6, .bool (decide (x1.End < 0))), (7, I y12.1), (8, .bool y12.2), (51, .bool (x1.Kind == 4)), (53, .slice a2 x2.length c2), (54, .bool (decide (x1.End < 0))), (55, .bool false), (56, pt p2 5), (57, I x1.Err), (58, .bool (x1.Err == 0))]) rfl fun b => ?_
              refine C_bool h ?_
              refine Q_take (i := 7) (v := pt p2 7) rfl (by kernel_rfl) (fun _ _ _ h => h) rfl rfl rfl (fun _ _ => R_pure (by kernel_rfl)) (((hst.pull 2).pull 2).pull 2) ?_
              refine Q_take (i := 8) (v := .slice a1 x1.Names.length c1) rfl (by kernel_rfl) (fun _ _ _ h => h) rfl rfl rfl (fun w hst => R_load (hst.pull 1) rfl rfl) (((hst.pull 2).pull 2).pull 2) ?_
              refine Q_take (i := 9) (v := .slice a2 x2.length c2) rfl (by kernel_rfl) (fun _ _ _ h => h) rfl rfl rfl (fun _ _ => R_pure (by kernel_rfl)) (((hst.pull 2).pull 2).pull 2) ?_
              obtain ⟨y19, hy19, hr⟩ := bnd hr
              refine Q_one (i := 10) (by kernel_rfl) rfl rfl (O_call (vs := #[.slice a2 x2.length c2]) Try.call26 (by kernel_rfl) (history_world_names_ok k x2 a2 c2 y19 hst hy19 fun a13 c13 w hst => ?_))
              refine CK_ret rfl ?_
              refine ⟨((((hst.pull 3).pull 3).pull 3).cut 3 1), ?_⟩
              obtain ⟨y20, hy20, hr⟩ := bnd hr
              refine Q_one (i := 11) (by kernel_rfl) rfl rfl (O_call (vs := #[.slice a1 x1.Names.length c1, .slice a13 y19.length c13]) Try.call25 (by kernel_rfl) (slices_Equal_ok k x1.Names y19 a1 c1 a13 c13 y20 (hst.pull 3) hy20 fun w hst => ?_))
              refine CK_ret rfl ?_
              refine ⟨(((hst.pull 3).pull 3).cut 3 1), ?_⟩
              refine Q_take (i := 12) (v := .bool y20) rfl (by kernel_rfl) (fun _ _ _ h => h) rfl rfl rfl (fun _ _ => R_pure (by kernel_rfl)) (((hst.pull 3).pull 3).cut 3 1) ?_
              refine Q_take (i := 13) (v := .bool y20) rfl (by kernel_rfl) (fun _ _ _ h => h) rfl rfl rfl (fun _ _ => R_pure (by kernel_rfl)) (((hst.pull 3).pull 3).cut 3 1) ?_
              refine Q_take (i := 14) (v := .slice a2 x2.length c2) rfl (by kernel_rfl) (fun _ _ _ h => h) rfl rfl rfl (fun _ _ => R_pure (by kernel_rfl)) (((hst.pull 3).pull 3).cut 3 1) ?_
              refine Q_take (i := 15) (v := .bool y20) rfl (by kernel_rfl) (fun _ _ _ h => h) rfl rfl rfl (fun _ _ => R_pure (by kernel_rfl)) (((hst.pull 3).pull 3).cut 3 1) ?_
              refine wpG_done (by kernel_rfl) ?_ _
              refine C_keepQ [(4, .slice a2 x2.length c2), (5, .bool y20)] rfl fun b => ?_
              refine th_n ?_
              obtain rfl := Option.some.inj hr
              have hst := (((hst.pull 3).pull 3).cut 3 1)
              exact (kpX [(4, .slice a2 x2.length c2), (5, .bool y20)] rfl hst)
            · have hr := (if_neg h).symm.trans hr
              refine C_keep ((59, .bool (x1.Err == 0)) :: [(1, .slice a2 x2.length c2), (2, pt p2 0), (6, .bool (decide (x1.End < 0))), (7, I y12.1), (8, .bool y12.2), (51, .bool (x1.Kind == 4)), (53, .slice a2 x2.length c2), (54, .bool (decide (x1.End < 0))), (55, .bool false), (56, pt p2 5), (57, I x1.Err), (58, .bool (x1.Err == 0))]) rfl fun b => ?_
              refine C_bool (eq_false_of_ne_true h) ?_
              refine Q_skip (i := 7) rfl (by kernel_rfl) (fun _ _ _ h => h) rfl rfl rfl (((hst.pull 2).pull 2).pull 2) ?_
              refine Q_skip (i := 8) rfl (by kernel_rfl) (fun _ _ _ h => h) rfl rfl rfl (((hst.pull 2).pull 2).pull 2) ?_
              refine Q_skip (i := 9) rfl (by kernel_rfl) (fun _ _ _ h => h) rfl rfl rfl (((hst.pull 2).pull 2).pull 2) ?_
              refine Q_skip (i := 10) rfl (by kernel_rfl) (fun _ _ _ h => h) rfl rfl rfl (((hst.pull 2).pull 2).pull 2) ?_
              refine Q_skip (i := 11) rfl (by kernel_rfl) (fun _ _ _ h => h) rfl rfl rfl (((hst.pull 2).pull 2).pull 2) ?_
              refine Q_take (i := 12) (v := .bool false) rfl (by kernel_rfl) (fun _ _ _ h => h) rfl rfl rfl (fun _ _ => R_pure (by kernel_rfl)) (((hst.pull 2).pull 2).pull 2) ?_
              refine Q_take (i := 13) (v := .bool false) rfl (by kernel_rfl) (fun _ _ _ h => h) rfl rfl rfl (fun _ _ => R_pure (by kernel_rfl)) (((hst.pull 2).pull 2).pull 2) ?_
              refine Q_take (i := 14) (v := .slice a2 x2.length c2) rfl (by kernel_rfl) (fun _ _ _ h => h) rfl rfl rfl (fun _ _ => R_pure (by kernel_rfl)) (((hst.pull 2).pull 2).pull 2) ?_
              refine Q_take (i := 15) (v := .bool false) rfl (by kernel_rfl) (fun _ _ _ h => h) rfl rfl rfl (fun _ _ => R_pure (by kernel_rfl)) (((hst.pull 2).pull 2).pull 2) ?_
              refine wpG_done (by kernel_rfl) ?_ _
              refine C_keepQ [(4, .slice a2 x2.length c2), (5, .bool false)] rfl fun b => ?_
              refine th_n ?_
              obtain rfl := Option.some.inj hr
              have hst := (((hst.pull 2).pull 2).pull 2)
              exact (kpX [(4, .slice a2 x2.length c2), (5, .bool false)] rfl hst)
      · have hr := (if_neg (by rw [h]; exact Bool.false_ne_true)).symm.trans hr
        refine wp_skip ?_
        refine ib_n (th_n ?_)
        refine wp_seq ?_
        refine wp_seq ?_
        refine wp_reg ?_
        refine L_pure 2 [(1, .slice a2 x2.length c2), (2, pt p2 0), (6, .bool (decide (x1.End < 0))), (7, I y12.1), (68, .bool (!y12.2))] (by kernel_rfl) fun b => ?_
        refine wpL_nil ?_
        refine th_n ?_
        refine wp_cond_mkF (t := (!y12.2)) rfl (fun h => ?_) (fun h => ?_)
        · have hr := (if_pos h).symm.trans hr
          obtain ⟨y21, hy21, hk11⟩ := bnd hr
          clear hr
          refine wp_seq_cut (fun a w => ∃ (b : Nat → Value), a = mkF 93 b [(4, .slice a2 x2.length c2), (5, .bool y21)] ∧ St G w (dsl r_T_history_entry a2 c2 x2 :: blk p2 (cl [I x1.Kind, S x1.Name, .int .u64 x1.Value, I x1.Start, I x1.End, I x1.Err, .int .u64 x1.Got, .slice a1 x1.Names.length c1] 32) :: dsl rS a1 c1 x1.Names :: F)) ?_ ?_
          · rintro _ w ⟨b, rfl, hst⟩
            have hr := hk11
            refine wp_ret ?_
            refine th_r ?_
            refine ret2 rfl rfl rfl ?_
            obtain rfl := Option.some.inj hr
            have hst := hst.dup
            have hst := (((hst.pull 3).pull 2).cut 3 1)
            exact hR a2 c2 _ hst
          · have hr := hy21
            refine wp_regG (SN { w with drawn := w.drawn + 1 }) rfl ?_
            have hst := hst.draw (n := w.drawn + 1)
            generalize { w with drawn := w.drawn + 1 } = w at hst ⊢
            refine C_take (i := 0) (v := .slice a2 x2.length c2) rfl (by kernel_rfl) (fun _ _ _ h => h) rfl rfl rfl (R_pure (by kernel_rfl)) ?_
            refine C_take (i := 1) (v := .bool (decide (x1.End < 0))) rfl (by kernel_rfl) (fun _ _ _ h => h) rfl rfl rfl (R_pure (by kernel_rfl)) ?_
            refine C_take (i := 2) (v := .bool (decide (x1.End < 0))) rfl (by kernel_rfl) (fun _ _ _ h => h) rfl rfl rfl (R_pure (by kernel_rfl)) ?_
            by_cases h : (decide (x1.End < 0)) = true
            · have hr := (if_pos h).symm.trans hr
              refine C_keep ((71, .bool (decide (x1.End < 0))) :: [(1, .slice a2 x2.length c2), (2, pt p2 0), (6, .bool (decide (x1.End < 0))), (7, I y12.1), (68, .bool (!y12.2)), (69, .slice a2 x2.length c2), (70, .bool (decide (x1.End < 0)))]) rfl fun b => ?_
              refine C_bool h ?_
              refine C_skip (i := 3) rfl (by kernel_rfl) (fun _ _ _ h => h) rfl rfl rfl ?_
              refine C_skip (i := 4) rfl (by kernel_rfl) (fun _ _ _ h => h) rfl rfl rfl ?_
              refine C_skip (i := 5) rfl (by kernel_rfl) (fun _ _ _ h => h) rfl rfl rfl ?_
              refine C_take (i := 6) (v := .bool true) rfl (by kernel_rfl) (fun _ _ _ h => h) rfl rfl rfl (R_pure (by kernel_rfl)) ?_
              refine C_take (i := 7) (v := .slice a2 x2.length c2) rfl (by kernel_rfl) (fun _ _ _ h => h) rfl rfl rfl (R_pure (by kernel_rfl)) ?_
              refine C_take (i := 8) (v := .bool true) rfl (by kernel_rfl) (fun _ _ _ h => h) rfl rfl rfl (R_pure (by kernel_rfl)) ?_
              refine wpG_done (by kernel_rfl) ?_ _
              refine C_keepQ [(4, .slice a2 x2.length c2), (5, .bool true)] rfl fun b => ?_
              refine th_n ?_
              obtain rfl := Option.some.inj hr
              have hst := (((hst.pull 2).pull 2).pull 2)
              exact (kpX [(4, .slice a2 x2.length c2), (5, .bool true)] rfl hst)
            · have hr := (if_neg h).symm.trans hr
              refine C_keep ((71, .bool (decide (x1.End < 0))) :: [(1, .slice a2 x2.length c2), (2, pt p2 0), (6, .bool (decide (x1.End < 0))), (7, I y12.1), (68, .bool (!y12.2)), (69, .slice a2 x2.length c2), (70, .bool (decide (x1.End < 0)))]) rfl fun b => ?_
              refine C_bool (eq_false_of_ne_true h) ?_
              refine C_take (i := 3) (v := pt p2 5) rfl (by kernel_rfl) (fun _ _ _ h => h) rfl rfl rfl (R_pure (by kernel_rfl)) ?_
              refine C_take (i := 4) (v := I x1.Err) rfl (by kernel_rfl) (fun _ _ _ h => h) rfl rfl rfl (R_load (hst.pull 1) rfl rfl) ?_
              refine C_take (i := 5) (v := .bool (x1.Err == 5)) rfl (by kernel_rfl) (fun _ _ _ h => h) rfl rfl rfl (R_pure (by kernel_rfl)) ?_
              refine C_take (i := 6) (v := .bool (x1.Err == 5)) rfl (by kernel_rfl) (fun _ _ _ h => h) rfl rfl rfl (R_pure (by kernel_rfl)) ?_
              refine C_take (i := 7) (v := .slice a2 x2.length c2) rfl (by kernel_rfl) (fun _ _ _ h => h) rfl rfl rfl (R_pure (by kernel_rfl)) ?_
              refine C_take (i := 8) (v := .bool (x1.Err == 5)) rfl (by kernel_rfl) (fun _ _ _ h => h) rfl rfl rfl (R_pure (by kernel_rfl)) ?_
              refine wpG_done (by kernel_rfl) ?_ _
              refine C_keepQ [(4, .slice a2 x2.length c2), (5, .bool (x1.Err == 5))] rfl fun b => ?_
              refine th_n ?_
              obtain rfl := Option.some.inj hr
              have hst := (((hst.pull 2).pull 2).pull 2)
              exact (kpX [(4, .slice a2 x2.length c2), (5, .bool (x1.Err == 5))] rfl hst)
        · have hr := (if_neg (by rw [h]; exact Bool.false_ne_true)).symm.trans hr
          refine wp_skip ?_
          refine th_n ?_
          obtain ⟨y22, hy22, hk12⟩ := bnd hr
          clear hr
          refine wp_seq_cut (fun a w => ∃ (b : Nat → Value), a = mkF 93 b [(4, .slice a2 x2.length c2), (5, .bool y22)] ∧ St G w (dsl r_T_history_entry a2 c2 x2 :: blk p2 (cl [I x1.Kind, S x1.Name, .int .u64 x1.Value, I x1.Start, I x1.End, I x1.Err, .int .u64 x1.Got, .slice a1 x1.Names.length c1] 32) :: dsl rS a1 c1 x1.Names :: F)) ?_ ?_
          · rintro _ w ⟨b, rfl, hst⟩
            have hr := hk12
            refine wp_ret ?_
            refine ret2 rfl rfl rfl ?_
            obtain rfl := Option.some.inj hr
            have hst := hst.dup
            have hst := (((hst.pull 3).pull 2).cut 3 1)
            exact hR a2 c2 _ hst
          · have hr := hy22
            refine wp_regG (SN { w with drawn := w.drawn + 1 }) rfl ?_
            have hst := hst.draw (n := w.drawn + 1)
            generalize { w with drawn := w.drawn + 1 } = w at hst ⊢
            refine C_take (i := 0) (v := .slice a2 x2.length c2) rfl (by kernel_rfl) (fun _ _ _ h => h) rfl rfl rfl (R_pure (by kernel_rfl)) ?_
            refine C_take (i := 1) (v := .bool (decide (x1.End < 0))) rfl (by kernel_rfl) (fun _ _ _ h => h) rfl rfl rfl (R_pure (by kernel_rfl)) ?_
            refine C_take (i := 2) (v := .bool (decide (x1.End < 0))) rfl (by kernel_rfl) (fun _ _ _ h => h) rfl rfl rfl (R_pure (by kernel_rfl)) ?_
            by_cases h : (decide (x1.End < 0)) = true
            · have hr := (if_pos h).symm.trans hr
              refine C_keep ((78, .bool (decide (x1.End < 0))) :: [(1, .slice a2 x2.length c2), (2, pt p2 0), (6, .bool (decide (x1.End < 0))), (7, I y12.1), (68, .bool (!y12.2)), (76, .slice a2 x2.length c2), (77, .bool (decide (x1.End < 0)))]) rfl fun b => ?_
              refine C_bool h ?_
              refine C_skip (i := 3) rfl (by kernel_rfl) (fun _ _ _ h => h) rfl rfl rfl ?_
              refine C_skip (i := 4) rfl (by kernel_rfl) (fun _ _ _ h => h) rfl rfl rfl ?_
              refine C_skip (i := 5) rfl (by kernel_rfl) (fun _ _ _ h => h) rfl rfl rfl ?_
              refine C_skip (i := 6) rfl (by kernel_rfl) (fun _ _ _ h => h) rfl rfl rfl ?_
              refine C_skip (i := 7) rfl (by kernel_rfl) (fun _ _ _ h => h) rfl rfl rfl ?_
              refine C_skip (i := 8) rfl (by kernel_rfl) (fun _ _ _ h => h) rfl rfl rfl ?_
              refine C_skip (i := 9) rfl (by kernel_rfl) (fun _ _ _ h => h) rfl rfl rfl ?_
              refine C_skip (i := 10) rfl (by kernel_rfl) (fun _ _ _ h => h) rfl rfl rfl ?_
              refine C_skip (i := 11) rfl (by kernel_rfl) (fun _ _ _ h => h) rfl rfl rfl ?_
              refine C_skip (i := 12) rfl (by kernel_rfl) (fun _ _ _ h => h) rfl rfl rfl ?_
              refine C_skip (i := 13) rfl (by kernel_rfl) (fun _ _ _ h => h) rfl rfl rfl ?_
              refine C_skip (i := 14) rfl (by kernel_rfl) (fun _ _ _ h => h) rfl rfl rfl ?_
              refine C_skip (i := 15) rfl (by kernel_rfl) (fun _ _ _ h => h) rfl rfl rfl ?_
              refine C_take (i := 16) (v := .bool true) rfl (by kernel_rfl) (fun _ _ _ h => h) rfl rfl rfl (R_pure (by kernel_rfl)) ?_
              refine C_take (i := 17) (v := .slice a2 x2.length c2) rfl (by kernel_rfl) (fun _ _ _ h => h) rfl rfl rfl (R_pure (by kernel_rfl)) ?_
              refine C_take (i := 18) (v := .bool true) rfl (by kernel_rfl) (fun _ _ _ h => h) rfl rfl rfl (R_pure (by kernel_rfl)) ?_
              refine wpG_done (by kernel_rfl) ?_ _
              refine C_keepQ [(4, .slice a2 x2.length c2), (5, .bool true)] rfl fun b => ?_
              refine th_n ?_
              obtain rfl := Option.some.inj hr
              have hst := (((hst.pull 2).pull 2).pull 2)
              exact (kpX [(4, .slice a2 x2.length c2), (5, .bool true)] rfl hst)
            · have hr := (if_neg h).symm.trans hr
              refine C_keep ((78, .bool (decide (x1.End < 0))) :: [(1, .slice a2 x2.length c2), (2, pt p2 0), (6, .bool (decide (x1.End < 0))), (7, I y12.1), (68, .bool (!y12.2)), (76, .slice a2 x2.length c2), (77, .bool (decide (x1.End < 0)))]) rfl fun b => ?_
              refine C_bool (eq_false_of_ne_true h) ?_
              refine C_take (i := 3) (v := pt p2 5) rfl (by kernel_rfl) (fun _ _ _ h => h) rfl rfl rfl (R_pure (by kernel_rfl)) ?_
              refine C_take (i := 4) (v := I x1.Err) rfl (by kernel_rfl) (fun _ _ _ h => h) rfl rfl rfl (R_load (hst.pull 1) rfl rfl) ?_
              refine C_take (i := 5) (v := .bool (x1.Err == 0)) rfl (by kernel_rfl) (fun _ _ _ h => h) rfl rfl rfl (R_pure (by kernel_rfl)) ?_
              refine C_take (i := 6) (v := .bool (x1.Err == 0)) rfl (by kernel_rfl) (fun _ _ _ h => h) rfl rfl rfl (R_pure (by kernel_rfl)) ?_
              by_cases h : (x1.Err == 0) = true
              · have hr := (if_pos h).symm.trans hr
                refine C_keep ((82, .bool (x1.Err == 0)) :: [(1, .slice a2 x2.length c2), (2, pt p2 0), (6, .bool (decide (x1.End < 0))), (7, I y12.1), (68, .bool (!y12.2)), (76, .slice a2 x2.length c2), (77, .bool (decide (x1.End < 0))), (78, .bool false), (79, pt p2 5), (80, I x1.Err), (81, .bool (x1.Err == 0))]) rfl fun b => ?_
                refine C_bool h ?_
                refine C_take (i := 7) (v := pt p2 6) rfl (by kernel_rfl) (fun _ _ _ h => h) rfl rfl rfl (R_pure (by kernel_rfl)) ?_
                refine C_take (i := 8) (v := .int .u64 x1.Got) rfl (by kernel_rfl) (fun _ _ _ h => h) rfl rfl rfl (R_load (hst.pull 1) rfl rfl) ?_
                refine C_take (i := 9) (v := .slice a2 x2.length c2) rfl (by kernel_rfl) (fun _ _ _ h => h) rfl rfl rfl (R_pure (by kernel_rfl)) ?_
                refine C_take (i := 10) (v := I y12.1) rfl (by kernel_rfl) (fun _ _ _ h => h) rfl rfl rfl (R_pure (by kernel_rfl)) ?_
                obtain ⟨x4, hx2, hr⟩ := bnd hr
                refine C_take (i := 11) (v := pt (ab a2) (ao a2 + y12.1.toNat * 2)) rfl (by kernel_rfl) (fun _ _ _ h => h) rfl rfl rfl (R_ia L58 rfl rfl (dsl_addr hst hx2) (gt_some hx2).1 (gt_some hx2).2.1) ?_
                refine C_take (i := 12) (v := pt (ab a2) (ao a2 + y12.1.toNat * 2 + 1)) rfl (by kernel_rfl) (fun _ _ _ h => h) rfl rfl rfl (R_pure (by kernel_rfl)) ?_
                obtain ⟨q2, hc2, hst⟩ := dsl_cells hst hx2
                have hst := hst.drop
                refine C_take (i := 13) (v := .int .u64 x4.v) rfl (by kernel_rfl) (fun _ _ _ h => h) rfl rfl rfl (R_loadAt (off := ao a2 + y12.1.toNat * 2) (j := 1) hc2 rfl rfl) ?_
                refine C_take (i := 14) (v := .bool (x1.Got == x4.v)) rfl (by kernel_rfl) (fun _ _ _ h => h) rfl rfl rfl (R_pure (by kernel_rfl)) ?_
                refine C_take (i := 15) (v := .bool (x1.Got == x4.v)) rfl (by kernel_rfl) (fun _ _ _ h => h) rfl rfl rfl (R_pure (by kernel_rfl)) ?_
                refine C_take (i := 16) (v := .bool (x1.Got == x4.v)) rfl (by kernel_rfl) (fun _ _ _ h => h) rfl rfl rfl (R_pure (by kernel_rfl)) ?_
                refine C_take (i := 17) (v := .slice a2 x2.length c2) rfl (by kernel_rfl) (fun _ _ _ h => h) rfl rfl rfl (R_pure (by kernel_rfl)) ?_
                refine C_take (i := 18) (v := .bool (x1.Got == x4.v)) rfl (by kernel_rfl) (fun _ _ _ h => h) rfl rfl rfl (R_pure (by kernel_rfl)) ?_
                refine wpG_done (by kernel_rfl) ?_ _
                refine C_keepQ [(4, .slice a2 x2.length c2), (5, .bool (x1.Got == x4.v))] rfl fun b => ?_
                refine th_n ?_
                obtain rfl := Option.some.inj hr
                have hst := (((hst.pull 2).pull 2).pull 2)
                exact (kpX [(4, .slice a2 x2.length c2), (5, .bool (x1.Got == x4.v))] rfl hst)
              · have hr := (if_neg h).symm.trans hr
                refine C_keep ((82, .bool (x1.Err == 0)) :: [(1, .slice a2 x2.length c2), (2, pt p2 0), (6, .bool (decide (x1.End < 0))), (7, I y12.1), (68, .bool (!y12.2)), (76, .slice a2 x2.length c2), (77, .bool (decide (x1.End < 0))), (78, .bool false), (79, pt p2 5), (80, I x1.Err), (81, .bool (x1.Err == 0))]) rfl fun b => ?_
                refine C_bool (eq_false_of_ne_true h) ?_
                refine C_skip (i := 7) rfl (by kernel_rfl) (fun _ _ _ h => h) rfl rfl rfl ?_
                refine C_skip (i := 8) rfl (by kernel_rfl) (fun _ _ _ h => h) rfl rfl rfl ?_
                refine C_skip (i := 9) rfl (by kernel_rfl) (fun _ _ _ h => h) rfl rfl rfl ?_
                refine C_skip (i := 10) rfl (by kernel_rfl) (fun _ _ _ h => h) rfl rfl rfl ?_
                refine C_skip (i := 11) rfl (by kernel_rfl) (fun _ _ _ h => h) rfl rfl rfl ?_
                refine C_skip (i := 12) rfl (by kernel_rfl) (fun _ _ _ h => h) rfl rfl rfl ?_
                refine C_skip (i := 13) rfl (by kernel_rfl) (fun _ _ _ h => h) rfl rfl rfl ?_
                refine C_skip (i := 14) rfl (by kernel_rfl) (fun _ _ _ h => h) rfl rfl rfl ?_
                refine C_take (i := 15) (v := .bool false) rfl (by kernel_rfl) (fun _ _ _ h => h) rfl rfl rfl (R_pure (by kernel_rfl)) ?_
                refine C_take (i := 16) (v := .bool false) rfl (by kernel_rfl) (fun _ _ _ h => h) rfl rfl rfl (R_pure (by kernel_rfl)) ?_
                refine C_take (i := 17) (v := .slice a2 x2.length c2) rfl (by kernel_rfl) (fun _ _ _ h => h) rfl rfl rfl (R_pure (by kernel_rfl)) ?_
                refine C_take (i := 18) (v := .bool false) rfl (by kernel_rfl) (fun _ _ _ h => h) rfl rfl rfl (R_pure (by kernel_rfl)) ?_
                refine wpG_done (by kernel_rfl) ?_ _
                refine C_keepQ [(4, .slice a2 x2.length c2), (5, .bool false)] rfl fun b => ?_
                refine th_n ?_
                obtain rfl := Option.some.inj hr
                have hst := (((hst.pull 2).pull 2).pull 2)
                exact (kpX [(4, .slice a2 x2.length c2), (5, .bool false)] rfl hst)
def history_search_try_l1 (k : Nat) (rc1 : ((List T_history_Op) → (List (T_history_key × Int)) → Int → (List T_history_entry) → Option (Bool × (List (T_history_key × Int))))) (x1 : (List T_history_Op)) (x3 : Int) (x4 : (List T_history_entry)) : Nat → Int → (List (T_history_key × Int)) → Option (Flow (Bool × (List (T_history_key × Int))) ((List (T_history_key × Int))))
  | 0, _, _ => none
  | j + 1, v9, v10 => (if decide (v9 < (x1.length : Int)) = true then (Option.bind (Option.bind (gt x1 v9) fun x7 => (Option.bind (if 0 ≤ v9 then (if ((bAnd .u32 (shR .u32 x3 v9) 1) == 1) = true then some (true) else (Option.bind (history_search_may k x1 v10 v9 x3) fun y22 => some ((!y22)))) else none) fun y21 => (if y21 = true then some (Flow.go (v10)) else (Option.bind (history_Op_do k x7 x4) fun y23 => (Option.bind (if y23.2 = true then (if 0 ≤ v9 then (Option.bind (rc1 x1 v10 (bOr .u32 x3 (shL .u32 1 v9)) y23.1) fun y25 => some (y25.1, y25.2)) else none) else some (false, v10)) fun y24 => (if y24.1 = true then some (Flow.ret (true, y24.2)) else some (Flow.go (y24.2)))))))) fun y20 => (match y20 with | Flow.ret r => some (Flow.ret r) | Flow.go z4 => (history_search_try_l1 k rc1 x1 x3 x4 j (IntKind.i64.wrap (v9 + 1)) z4))) else some (Flow.go (v10)))
def history_search_try_b (k : Nat) (rc1 : ((List T_history_Op) → (List (T_history_key × Int)) → Int → (List T_history_entry) → Option (Bool × (List (T_history_key × Int))))) (x1 : (List T_history_Op)) (x2 : (List (T_history_key × Int))) (x3 : Int) (x4 : (List T_history_entry)) : Option (Bool × (List (T_history_key × Int))) := (Option.bind (history_search_over k x1 x2 x3) fun y17 => (if y17 = true then some (true, x2) else (Option.bind (history_world_text k x4) fun y18 => (if decide (((mget x2 (T_history_key.mk x3 y18)).getD (0 : Int)) > 0) = true then some (false, x2) else (Option.bind (history_search_try_l1 k rc1 x1 x3 x4 k (0 : Int) (mput x2 (T_history_key.mk x3 y18) 1)) fun y19 => (match y19 with | Flow.ret r => some r | Flow.go z3 => some (false, z3)))))))
def history_search_try_r (k : Nat) : Nat → (List T_history_Op) → (List (T_history_key × Int)) → Int → (List T_history_entry) → Option (Bool × (List (T_history_key × Int)))
  | 0, _, _, _, _ => none
  | d + 1, x1, x2, x3, x4 => history_search_try_b k (history_search_try_r k d) x1 x2 x3 x4
def history_search_try (k : Nat) (x1 : (List T_history_Op)) (x2 : (List (T_history_key × Int))) (x3 : Int) (x4 : (List T_history_entry)) : Option (Bool × (List (T_history_key × Int))) := history_search_try_r k k x1 x2 x3 x4
set_option maxRecDepth 100000 in
set_option maxHeartbeats 4000000 in
theorem history_search_try_b_ok {G : World} (k : Nat) (rc1 : ((List T_history_Op) → (List (T_history_key × Int)) → Int → (List T_history_entry) → Option (Bool × (List (T_history_key × Int))))) (ih : ∀ {w : World} {F : List HP} {R : Ending → World → Prop} (x1 : (List T_history_Op)) (x2 : (List (T_history_key × Int))) (x3 : Int) (x4 : (List T_history_entry)) (p1 : Nat) (a1 : Option Addr) (c1 : Nat) (p2 : Nat) (a2 : Option Addr) (c2 : Nat) (r : (Bool × (List (T_history_key × Int)))), St G w (blk p1 (cl [.slice a1 x1.length c1, .map (some p2)] 52) :: osl r_T_history_Op 32 a1 c1 x1 :: mpo (fun x : T_history_key => .agg #[.int .u32 x.done, S x.world]) (fun n => .int .i64 n) p2 x2 :: dsl r_T_history_entry a2 c2 x4 :: F) → rc1 x1 x2 x3 x4 = some r → (∀ w', St G w' (blk p1 (cl [.slice a1 x1.length c1, .map (some p2)] 52) :: osl r_T_history_Op 32 a1 c1 x1 :: mpo (fun x : T_history_key => .agg #[.int .u32 x.done, S x.world]) (fun n => .int .i64 n) p2 r.2 :: dsl r_T_history_entry a2 c2 x4 :: F) → R (.returned (.bool r.1)) w') → Calls Try.prog 15 #[pt p1 0, .int .u32 x3, .slice a2 x4.length c2] w R) {w : World} {F : List HP} {R : Ending → World → Prop} (x1 : (List T_history_Op)) (x2 : (List (T_history_key × Int))) (x3 : Int) (x4 : (List T_history_entry)) (p1 : Nat) (a1 : Option Addr) (c1 : Nat) (p2 : Nat) (a2 : Option Addr) (c2 : Nat) (r : (Bool × (List (T_history_key × Int)))) (hst : St G w (blk p1 (cl [.slice a1 x1.length c1, .map (some p2)] 52) :: osl r_T_history_Op 32 a1 c1 x1 :: mpo (fun x : T_history_key => .agg #[.int .u32 x.done, S x.world]) (fun n => .int .i64 n) p2 x2 :: dsl r_T_history_entry a2 c2 x4 :: F)) (hr : history_search_try_b k rc1 x1 x2 x3 x4 = some r) (hR : ∀ w', St G w' (blk p1 (cl [.slice a1 x1.length c1, .map (some p2)] 52) :: osl r_T_history_Op 32 a1 c1 x1 :: mpo (fun x : T_history_key => .agg #[.int .u32 x.done, S x.world]) (fun n => .int .i64 n) p2 r.2 :: dsl r_T_history_entry a2 c2 x4 :: F) → R (.returned (.bool r.1)) w') :
    Calls Try.prog 15 #[pt p1 0, .int .u32 x3, .slice a2 x4.length c2] w R := by
  unfold history_search_try_b at hr
  refine enter Try.func15 rfl [(0, pt p1 0), (1, .int .u32 x3), (2, .slice a2 x4.length c2)] rfl rfl fun b => ?_
  refine wp_seq ?_
  refine wp_reg ?_
  refine L_pure 1 [(0, pt p1 0), (1, .int .u32 x3), (2, .slice a2 x4.length c2)] (by kernel_rfl) fun b => ?_
  refine wpL_nil ?_
  refine th_n ?_
  refine wp_seq ?_
  refine wp_seq ?_
  refine wp_reg ?_
  refine L_pure 2 [(0, pt p1 0), (1, .int .u32 x3), (2, .slice a2 x4.length c2), (12, pt p1 0), (13, .int .u32 x3)] (by kernel_rfl) fun b => ?_
  obtain ⟨y17, hy17, hr⟩ := bnd hr
  refine L_op rfl (O_call (vs := #[pt p1 0, .int .u32 x3]) Try.call18 (by kernel_rfl) (history_search_over_ok k x1 x2 x3 p1 a1 c1 p2 y17 (((hst.pull 2).pull 2).pull 2) hy17 fun w hst => ?_))
  refine CK_ret rfl ?_
  refine wpL_nil ?_
  refine th_n ?_
  refine wp_cond_mkF (t := y17) rfl (fun h => ?_) (fun h => ?_)
  · have hr := (if_pos h).symm.trans hr
    refine wp_seq ?_
    refine wp_reg ?_
    refine L_pure 1 [(6, .bool true)] (by kernel_rfl) fun b => ?_
    refine wpL_nil ?_
    refine th_n ?_
    refine wp_ret ?_
    refine th_r ?_
    refine ret1 rfl rfl ?_
    obtain rfl := Option.some.inj hr
    have hst := ((((hst.pull 3).pull 3).pull 3).pull 3)
    exact hR _ hst
  · have hr := (if_neg (by rw [h]; exact Bool.false_ne_true)).symm.trans hr
    refine wp_skip ?_
    refine th_n ?_
    refine wp_seq ?_
    refine wp_reg ?_
    refine L_pure 2 [(0, pt p1 0), (1, .int .u32 x3), (2, .slice a2 x4.length c2), (15, .int .u32 x3), (16, .slice a2 x4.length c2)] (by kernel_rfl) fun b => ?_
    obtain ⟨y18, hy18, hr⟩ := bnd hr
    refine L_op rfl (O_call (vs := #[.slice a2 x4.length c2]) Try.call19 (by kernel_rfl) (history_world_text_ok k x4 a2 c2 y18 (hst.pull 3) hy18 fun w hst => ?_))
    refine CK_ret rfl ?_
    refine L_pure 1 [(0, pt p1 0), (1, .int .u32 x3), (2, .slice a2 x4.length c2), (18, .agg #[.int .u32 x3, S y18])] (by kernel_rfl) fun b => ?_
    refine L_op rfl (O_alloc (i := Try.t62) (z := .agg #[.int .u32 0, S ([])]) [.int .u32 0, S ([])] hst rfl rfl rfl rfl fun p7 w hst => ?_)
    refine L_op rfl (O_store [.int .u32 x3, S y18] hst rfl rfl (by kernel_rfl) fun w hst => ?_)
    refine wpL_nil ?_
    refine th_n ?_
    refine wp_seq ?_
    refine wp_seq ?_
    refine wp_regG (SN { w with drawn := w.drawn + 1 }) rfl ?_
    have hst := hst.draw (n := w.drawn + 1)
    generalize { w with drawn := w.drawn + 1 } = w at hst ⊢
    refine C_take (i := 0) (v := pt p1 0) rfl (by kernel_rfl) (fun _ _ _ h => h) rfl rfl rfl (R_pure (by kernel_rfl)) ?_
    refine C_take (i := 1) (v := pt p1 0) rfl (by kernel_rfl) (fun _ _ _ h => h) rfl rfl rfl (R_pure (by kernel_rfl)) ?_
    refine C_take (i := 2) (v := pt p1 1) rfl (by kernel_rfl) (fun _ _ _ h => h) rfl rfl rfl (R_pure (by kernel_rfl)) ?_
    refine C_take (i := 3) (v := .map (some p2)) rfl (by kernel_rfl) (fun _ _ _ h => h) rfl rfl rfl (R_load (hst.pull 2) rfl rfl) ?_
    refine C_take (i := 4) (v := .agg #[.int .u32 x3, S y18]) rfl (by kernel_rfl) (fun _ _ _ h => h) rfl rfl rfl (R_load hst rfl rfl) ?_
    refine C_take (i := 5) (v := I ((mget x2 (T_history_key.mk x3 y18)).getD (0 : Int))) rfl (by kernel_rfl) (fun _ _ _ h => h) rfl rfl rfl (R_lookupG M50 (k := (T_history_key.mk x3 y18)) false (hst.pull 4) rfl rfl) ?_
    refine C_take (i := 6) (v := .bool (decide (((mget x2 (T_history_key.mk x3 y18)).getD (0 : Int)) > 0))) rfl (by kernel_rfl) (fun _ _ _ h => h) rfl rfl rfl (R_pure (by kernel_rfl)) ?_
    refine wpG_done (by kernel_rfl) ?_ _
    refine C_keepQ [(0, pt p1 0), (1, .int .u32 x3), (2, .slice a2 x4.length c2), (7, pt p7 0), (25, .bool (decide (((mget x2 (T_history_key.mk x3 y18)).getD (0 : Int)) > 0)))] rfl fun b => ?_
    refine th_n ?_
    refine wp_cond_mkF (t := decide (((mget x2 (T_history_key.mk x3 y18)).getD (0 : Int)) > 0)) rfl (fun h => ?_) (fun h => ?_)
    · have hr := (if_pos h).symm.trans hr
      refine wp_seq ?_
      refine wp_reg ?_
      refine L_pure 1 [(6, .bool false)] (by kernel_rfl) fun b => ?_
      refine wpL_nil ?_
      refine th_n ?_
      refine wp_ret ?_
      refine th_r ?_
      refine ret1 rfl rfl ?_
      obtain rfl := Option.some.inj hr
      have hst := (((((hst.pull 1).pull 4).pull 4).pull 4).cut 4 1)
      exact hR _ hst
    · have hr := (if_neg (by rw [h]; exact Bool.false_ne_true)).symm.trans hr
      refine wp_skip ?_
      refine th_n ?_
      refine wp_seq ?_
      refine wp_regG (SP 5 (fun w => St G w (blk p7 (cl [.int .u32 x3, S y18] 62) :: dsl r_T_history_entry a2 c2 x4 :: blk p1 (cl [.slice a1 x1.length c1, .map (some p2)] 52) :: osl r_T_history_Op 32 a1 c1 x1 :: mpo (fun x : T_history_key => .agg #[.int .u32 x.done, S x.world]) (fun n => .int .i64 n) p2 x2 :: F))) rfl ?_
      have hst := hst.draw (n := w.drawn + 1)
      generalize { w with drawn := w.drawn + 1 } = w at hst ⊢
      refine P_pure (i := 0) (v := pt p1 0) 5 rfl rfl (by kernel_rfl) (fun _ _ _ h => h) rfl rfl rfl (by kernel_rfl) (.inr (((((hst.pull 4).pull 4).pull 4).pull 4).pull 4)) ?_
      refine P_pure (i := 1) (v := pt p1 0) 5 rfl rfl (by kernel_rfl) (fun _ _ _ h => h) rfl rfl rfl (by kernel_rfl) (.inr (((((hst.pull 4).pull 4).pull 4).pull 4).pull 4)) ?_
      refine P_pure (i := 2) (v := pt p1 1) 5 rfl rfl (by kernel_rfl) (fun _ _ _ h => h) rfl rfl rfl (by kernel_rfl) (.inr (((((hst.pull 4).pull 4).pull 4).pull 4).pull 4)) ?_
      refine P_take (i := 3) (v := .map (some p2)) 5 [3] (by kernel_rfl) rfl (by kernel_rfl) (fun _ _ _ h => h) rfl rfl rfl (fun w hst => R_load (hst.pull 2) rfl rfl) ((((((hst.pull 4).pull 4).pull 4).pull 4).pull 4)) ?_
      refine P_take (i := 4) (v := .agg #[.int .u32 x3, S y18]) 5 [4] (by kernel_rfl) rfl (by kernel_rfl) (fun _ _ _ h => h) rfl rfl rfl (fun w hst => R_load hst rfl rfl) ((((((hst.pull 4).pull 4).pull 4).pull 4).pull 4)) ?_
      refine P_act (i := 5) 5 (by kernel_rfl) rfl rfl (by kernel_rfl) (O_mapUpdateG M50 (k := (T_history_key.mk x3 y18)) (v := 1) (hst.pull 4) rfl rfl rfl fun w hst => ?_)
      refine wpG_done (by kernel_rfl) ?_ _
      refine C_keepQ [(0, pt p1 0), (1, .int .u32 x3), (2, .slice a2 x4.length c2)] rfl fun b => ?_
      refine th_n ?_
      refine wp_seq ?_
      refine wp_seq ?_
      refine wp_reg ?_
      refine L_pure 3 [(0, pt p1 0), (1, .int .u32 x3), (2, .slice a2 x4.length c2), (33, pt p1 0)] (by kernel_rfl) fun b => ?_
      refine L_op rfl (O_run (v := .slice a1 x1.length c1) (w' := w) (R_load (hst.pull 3) rfl rfl) rfl rfl ?_)
      refine L_pure 2 [(0, pt p1 0), (1, .int .u32 x3), (2, .slice a2 x4.length c2), (34, .slice a1 x1.length c1), (35, I (x1.length : Int)), (36, I 0)] (by kernel_rfl) fun b => ?_
      refine wpL_nil ?_
      refine th_n ?_
      obtain ⟨y19, hy19, hk8⟩ := bnd hr
      clear hr
      refine Go.Hx.wp_cut (fun a w => ∃ (z3 : (List (T_history_key × Int))) (b : Nat → Value), y19 = .go z3 ∧ a = mkF 70 b [] ∧ St G w (mpo (fun x : T_history_key => .agg #[.int .u32 x.done, S x.world]) (fun n => .int .i64 n) p2 z3 :: blk p7 (cl [.int .u32 x3, S y18] 62) :: dsl r_T_history_entry a2 c2 x4 :: blk p1 (cl [.slice a1 x1.length c1, .map (some p2)] 52) :: osl r_T_history_Op 32 a1 c1 x1 :: F)) ?_ ?_
      · rintro _ w ⟨z3, b, rfl, rfl, hst⟩
        have hr := hk8
        refine th_n ?_
        refine wp_seq ?_
        refine wp_reg ?_
        refine L_pure 1 [(6, .bool false)] (by kernel_rfl) fun b => ?_
        refine wpL_nil ?_
        refine th_n ?_
        refine wp_ret ?_
        refine ret1 rfl rfl ?_
        obtain rfl := Option.some.inj hr
        have hst := (((((hst.pull 2).pull 1).pull 4).pull 4).cut 4 1)
        exact hR _ hst
      · have hst := (((((hst.pull 4).pull 4).pull 4).pull 4).pull 4)
        refine wp_block ?_
        refine wp_loop_fuel (fun j a w => ∃ (v9 : Int) (v10 : (List (T_history_key × Int))) (b : Nat → Value), a = mkF 70 b [(0, pt p1 0), (1, .int .u32 x3), (2, .slice a2 x4.length c2), (34, .slice a1 x1.length c1), (35, I (x1.length : Int)), (36, I v9)] ∧ St G w (mpo (fun x : T_history_key => .agg #[.int .u32 x.done, S x.world]) (fun n => .int .i64 n) p2 v10 :: blk p7 (cl [.int .u32 x3, S y18] 62) :: dsl r_T_history_entry a2 c2 x4 :: blk p1 (cl [.slice a1 x1.length c1, .map (some p2)] 52) :: osl r_T_history_Op 32 a1 c1 x1 :: F) ∧ history_search_try_l1 k rc1 x1 x3 x4 j v9 v10 = some y19) (k := k) ⟨(0 : Int), (mput x2 (T_history_key.mk x3 y18) 1), (kpX [(0, pt p1 0), (1, .int .u32 x3), (2, .slice a2 x4.length c2), (34, .slice a1 x1.length c1), (35, I (x1.length : Int)), (36, I 0)] rfl ⟨hst, hy19⟩)⟩ ?_ ?_
        · rintro _ _ ⟨_, _, _, _, _, h⟩
          rw [history_search_try_l1] at h
          cases h
        · rintro j _ w ⟨v9, v10, b, rfl, hst, hr⟩
          rw [history_search_try_l1] at hr
          refine wp_seq ?_
          refine wp_reg ?_
          refine L_pure 1 [(0, pt p1 0), (1, .int .u32 x3), (2, .slice a2 x4.length c2), (34, .slice a1 x1.length c1), (35, I (x1.length : Int)), (36, I v9), (37, .bool (decide (v9 < (x1.length : Int))))] (by kernel_rfl) fun b => ?_
          refine wpL_nil ?_
          refine th_n ?_
          refine wp_seq ?_
          refine wp_cond_mkF (t := decide (v9 < (x1.length : Int))) rfl (fun h => ?_) (fun h => ?_)
          · have hr := (if_pos h).symm.trans hr
            refine wp_skip ?_
            refine th_n ?_
            obtain ⟨y20, hy20, hk9⟩ := bnd hr
            clear hr
            refine wp_seq_cut (fun a w => ∃ (z4 : (List (T_history_key × Int))) (b : Nat → Value), y20 = .go z4 ∧ a = mkF 70 b [(0, pt p1 0), (1, .int .u32 x3), (2, .slice a2 x4.length c2), (34, .slice a1 x1.length c1), (35, I (x1.length : Int)), (36, I v9)] ∧ St G w (osl r_T_history_Op 32 a1 c1 x1 :: mpo (fun x : T_history_key => .agg #[.int .u32 x.done, S x.world]) (fun n => .int .i64 n) p2 z4 :: blk p7 (cl [.int .u32 x3, S y18] 62) :: dsl r_T_history_entry a2 c2 x4 :: blk p1 (cl [.slice a1 x1.length c1, .map (some p2)] 52) :: F)) ?_ ?_
            · rintro _ w ⟨z4, b, rfl, rfl, hst⟩
              have hr := hk9
              refine wp_reg ?_
              refine L_pure 2 [(0, pt p1 0), (1, .int .u32 x3), (2, .slice a2 x4.length c2), (34, .slice a1 x1.length c1), (35, I (x1.length : Int)), (36, I (IntKind.i64.wrap (v9 + 1)))] (by kernel_rfl) fun b => ?_
              refine wpL_nil ?_
              refine th_n ?_
              have hst := ((((hst.pull 4).pull 4).pull 4).pull 4)
              exact ⟨(IntKind.i64.wrap (v9 + 1)), z4, (kpX [(0, pt p1 0), (1, .int .u32 x3), (2, .slice a2 x4.length c2), (34, .slice a1 x1.length c1), (35, I (x1.length : Int)), (36, I (IntKind.i64.wrap (v9 + 1)))] rfl ⟨hst, hr⟩)⟩
            · have hr := hy20
              refine wp_block ?_
              refine wp_seq ?_
              refine wp_reg ?_
              refine L_pure 1 [(0, pt p1 0), (1, .int .u32 x3), (2, .slice a2 x4.length c2), (34, .slice a1 x1.length c1), (35, I (x1.length : Int)), (36, I v9), (38, I v9)] (by kernel_rfl) fun b => ?_
              obtain ⟨x7, hx3, hr⟩ := bnd hr
              refine L_op rfl (O_run (v := pt (ab a1) (ao a1 + v9.toNat * 8)) (w' := w) (R_ia L22 rfl rfl (osl_addr (hst.pull 4) hx3) (gt_some hx3).1 (gt_some hx3).2.1) rfl rfl ?_)
              obtain ⟨q3, hc3, hst⟩ := osl_cells (hst.pull 4) hx3
              refine L_op rfl (O_run (v := .agg #[I x7.Kind, S x7.Name, .int .u64 x7.Value, I x7.Start, I x7.End, I x7.Err, .int .u64 x7.Got, .slice q3.1 x7.Names.length q3.2]) (w' := w) (R_loadAt (off := ao a1 + v9.toNat * 8) (j := 0) hc3 rfl rfl) rfl rfl ?_)
              refine L_op rfl (O_alloc (i := Try.t32) (z := .agg #[I 0, S ([]), .int .u64 0, I 0, I 0, I 0, .int .u64 0, .slice none 0 0]) [I 0, S ([]), .int .u64 0, I 0, I 0, I 0, .int .u64 0, .slice none 0 0] hst rfl rfl rfl rfl fun p8 w hst => ?_)
              refine L_pure 1 [(0, pt p1 0), (1, .int .u32 x3), (2, .slice a2 x4.length c2), (8, I v9), (9, pt p8 0), (34, .slice a1 x1.length c1), (35, I (x1.length : Int)), (36, I v9), (40, .agg #[I x7.Kind, S x7.Name, .int .u64 x7.Value, I x7.Start, I x7.End, I x7.Err, .int .u64 x7.Got, .slice q3.1 x7.Names.length q3.2])] (by kernel_rfl) fun b => ?_
              refine L_op rfl (O_store [I x7.Kind, S x7.Name, .int .u64 x7.Value, I x7.Start, I x7.End, I x7.Err, .int .u64 x7.Got, .slice q3.1 x7.Names.length q3.2] hst rfl rfl (by kernel_rfl) fun w hst => ?_)
              refine wpL_nil ?_
              refine th_n ?_
              refine wp_seq ?_
              obtain ⟨y21, hy21, hk10⟩ := bnd hr
              clear hr
              refine wp_seq_cut (fun a w => ∃ (b : Nat → Value), a = mkF 70 b [(0, pt p1 0), (1, .int .u32 x3), (2, .slice a2 x4.length c2), (8, I v9), (9, pt p8 0), (34, .slice a1 x1.length c1), (35, I (x1.length : Int)), (36, I v9), (52, .bool y21)] ∧ St G w (blk p8 (cl [I x7.Kind, S x7.Name, .int .u64 x7.Value, I x7.Start, I x7.End, I x7.Err, .int .u64 x7.Got, .slice q3.1 x7.Names.length q3.2] 32) :: dsl rS q3.1 q3.2 x7.Names :: osl r_T_history_Op 32 a1 c1 x1 :: mpo (fun x : T_history_key => .agg #[.int .u32 x.done, S x.world]) (fun n => .int .i64 n) p2 v10 :: blk p7 (cl [.int .u32 x3, S y18] 62) :: dsl r_T_history_entry a2 c2 x4 :: blk p1 (cl [.slice a1 x1.length c1, .map (some p2)] 52) :: F)) ?_ ?_
              · rintro _ w ⟨b, rfl, hst⟩
                have hr := hk10
                refine wp_cond_mkF (t := y21) rfl (fun h => ?_) (fun h => ?_)
                · have hr := (if_pos h).symm.trans hr
                  refine wp_exit ?_
                  refine th_x (ib_x (th_n ?_))
                  obtain rfl := Option.some.inj hr
                  have hst := ((((((hst.pull 6).pull 6).pull 6).pull 6).pull 6).cut 5 2)
                  exact ⟨(v10), (kpXf [(0, pt p1 0), (1, .int .u32 x3), (2, .slice a2 x4.length c2), (34, .slice a1 x1.length c1), (35, I (x1.length : Int)), (36, I v9)] rfl hst)⟩
                · have hr := (if_neg (by rw [h]; exact Bool.false_ne_true)).symm.trans hr
                  refine wp_skip ?_
                  refine th_n ?_
                  refine wp_seq ?_
                  refine wp_reg ?_
                  refine L_op rfl (O_run (v := .agg #[I x7.Kind, S x7.Name, .int .u64 x7.Value, I x7.Start, I x7.End, I x7.Err, .int .u64 x7.Got, .slice q3.1 x7.Names.length q3.2]) (w' := w) (R_load hst rfl rfl) rfl rfl ?_)
                  refine L_pure 1 [(0, pt p1 0), (1, .int .u32 x3), (2, .slice a2 x4.length c2), (8, I v9), (34, .slice a1 x1.length c1), (35, I (x1.length : Int)), (36, I v9), (54, .agg #[I x7.Kind, S x7.Name, .int .u64 x7.Value, I x7.Start, I x7.End, I x7.Err, .int .u64 x7.Got, .slice q3.1 x7.Names.length q3.2]), (55, .slice a2 x4.length c2)] (by kernel_rfl) fun b => ?_
                  obtain ⟨y23, hy23, hr⟩ := bnd hr
                  refine L_op rfl (O_call (vs := #[.agg #[I x7.Kind, S x7.Name, .int .u64 x7.Value, I x7.Start, I x7.End, I x7.Err, .int .u64 x7.Got, .slice q3.1 x7.Names.length q3.2], .slice a2 x4.length c2]) Try.call21 (by kernel_rfl) (history_Op_do_ok k x7 x4 q3.1 q3.2 a2 c2 y23 ((hst.pull 5).pull 2) hy23 fun a5 c5 w hst => ?_))
                  refine CK_ret rfl ?_
                  refine L_pure 5 [(0, pt p1 0), (1, .int .u32 x3), (2, .slice a2 x4.length c2), (8, I v9), (10, .slice a5 y23.1.length c5), (11, .bool y23.2), (34, .slice a1 x1.length c1), (35, I (x1.length : Int)), (36, I v9)] (by kernel_rfl) fun b => ?_
                  refine wpL_nil ?_
                  refine th_n ?_
                  obtain ⟨y24, hy24, hk11⟩ := bnd hr
                  clear hr
                  refine wp_seq_cut (fun a w => ∃ (b : Nat → Value), a = mkF 70 b [(0, pt p1 0), (1, .int .u32 x3), (2, .slice a2 x4.length c2), (34, .slice a1 x1.length c1), (35, I (x1.length : Int)), (36, I v9), (68, .bool y24.1)] ∧ St G w (blk p1 (cl [.slice a1 x1.length c1, .map (some p2)] 52) :: osl r_T_history_Op 32 a1 c1 x1 :: mpo (fun x : T_history_key => .agg #[.int .u32 x.done, S x.world]) (fun n => .int .i64 n) p2 y24.2 :: dsl r_T_history_entry a5 c5 y23.1 :: dsl rS q3.1 q3.2 x7.Names :: dsl r_T_history_entry a2 c2 x4 :: blk p8 (cl [I x7.Kind, S x7.Name, .int .u64 x7.Value, I x7.Start, I x7.End, I x7.Err, .int .u64 x7.Got, .slice q3.1 x7.Names.length q3.2] 32) :: blk p7 (cl [.int .u32 x3, S y18] 62) :: F)) ?_ ?_
                  · rintro _ w ⟨b, rfl, hst⟩
                    have hr := hk11
                    refine wp_cond_mkF (t := y24.1) rfl (fun h => ?_) (fun h => ?_)
                    · have hr := (if_pos h).symm.trans hr
                      refine wp_seq ?_
                      refine wp_reg ?_
                      refine L_pure 1 [(6, .bool true)] (by kernel_rfl) fun b => ?_
                      refine wpL_nil ?_
                      refine th_n ?_
                      refine wp_ret ?_
                      refine ib_r (th_r (th_r (ib_r (th_r (th_r ?_)))))
                      refine ret1 rfl rfl ?_
                      obtain rfl := Option.some.inj hr
                      obtain rfl := Option.some.inj hk9
                      obtain rfl := Option.some.inj hk8
                      have hst := (((((hst.pull 5).pull 3).pull 3).pull 3).cut 4 4)
                      exact hR _ hst
                    · have hr := (if_neg (by rw [h]; exact Bool.false_ne_true)).symm.trans hr
                      refine wp_skip ?_
                      refine ib_n (th_n ?_)
                      obtain rfl := Option.some.inj hr
                      have hst := (((((hst.pull 5).pull 7).pull 4).pull 4).cut 5 3)
                      exact ⟨(y24.2), (kpXf [(0, pt p1 0), (1, .int .u32 x3), (2, .slice a2 x4.length c2), (34, .slice a1 x1.length c1), (35, I (x1.length : Int)), (36, I v9)] rfl hst)⟩
                  · have hr := hy24
                    refine wp_reg ?_
                    refine L_pure 2 [(0, pt p1 0), (1, .int .u32 x3), (2, .slice a2 x4.length c2), (8, I v9), (10, .slice a5 y23.1.length c5), (34, .slice a1 x1.length c1), (35, I (x1.length : Int)), (36, I v9), (60, .bool y23.2)] (by kernel_rfl) fun b => ?_
                    by_cases h : y23.2 = true
                    · have hr := (if_pos h).symm.trans hr
                      refine L_keep ((60, .bool y23.2) :: [(0, pt p1 0), (1, .int .u32 x3), (2, .slice a2 x4.length c2), (8, I v9), (10, .slice a5 y23.1.length c5), (34, .slice a1 x1.length c1), (35, I (x1.length : Int)), (36, I v9)]) rfl fun b => ?_
                      refine L_bool h ?_
                      refine L_pure 3 [(0, pt p1 0), (1, .int .u32 x3), (2, .slice a2 x4.length c2), (10, .slice a5 y23.1.length c5), (34, .slice a1 x1.length c1), (35, I (x1.length : Int)), (36, I v9), (60, .bool true), (61, pt p1 0), (62, .int .u32 x3), (63, I v9)] (by kernel_rfl) fun b => ?_
                      obtain ⟨hy6, hr⟩ := chk hr
                      refine L_op rfl (O_run (v := .int .u32 (shL .u32 1 v9)) (w' := w) (R_shl rfl rfl hy6) rfl rfl ?_)
                      refine L_pure 2 [(0, pt p1 0), (1, .int .u32 x3), (2, .slice a2 x4.length c2), (34, .slice a1 x1.length c1), (35, I (x1.length : Int)), (36, I v9), (60, .bool true), (61, pt p1 0), (65, .int .u32 (bOr .u32 x3 (shL .u32 1 v9))), (66, .slice a5 y23.1.length c5)] (by kernel_rfl) fun b => ?_
                      obtain ⟨y25, hy25, hr⟩ := bnd hr
                      refine L_op rfl (O_call (vs := #[pt p1 0, .int .u32 (bOr .u32 x3 (shL .u32 1 v9)), .slice a5 y23.1.length c5]) Try.call15 (by kernel_rfl) (ih x1 v10 (bOr .u32 x3 (shL .u32 1 v9)) y23.1 p1 a1 c1 p2 a5 c5 y25 (((hst.pull 5).pull 5).pull 7) hy25 fun w hst => ?_))
                      refine CK_ret rfl ?_
                      refine L_pure 1 [(0, pt p1 0), (1, .int .u32 x3), (2, .slice a2 x4.length c2), (34, .slice a1 x1.length c1), (35, I (x1.length : Int)), (36, I v9), (68, .bool y25.1)] (by kernel_rfl) fun b => ?_
                      refine wpL_nil ?_
                      refine th_n ?_
                      obtain rfl := Option.some.inj hr
                      have hst := ((((((((hst.pull 7).pull 7).pull 7).pull 7).pull 7).pull 7).pull 7).pull 7)
                      exact (kpX [(0, pt p1 0), (1, .int .u32 x3), (2, .slice a2 x4.length c2), (34, .slice a1 x1.length c1), (35, I (x1.length : Int)), (36, I v9), (68, .bool y25.1)] rfl hst)
                    · have hr := (if_neg h).symm.trans hr
                      refine L_keep ((60, .bool y23.2) :: [(0, pt p1 0), (1, .int .u32 x3), (2, .slice a2 x4.length c2), (8, I v9), (10, .slice a5 y23.1.length c5), (34, .slice a1 x1.length c1), (35, I (x1.length : Int)), (36, I v9)]) rfl fun b => ?_
                      refine L_bool (eq_false_of_ne_true h) ?_
                      refine L_pure 8 [(0, pt p1 0), (1, .int .u32 x3), (2, .slice a2 x4.length c2), (34, .slice a1 x1.length c1), (35, I (x1.length : Int)), (36, I v9), (68, .bool false)] (by kernel_rfl) fun b => ?_
                      refine wpL_nil ?_
                      refine th_n ?_
                      obtain rfl := Option.some.inj hr
                      have hst := ((((((((hst.pull 6).pull 4).pull 4).pull 4).pull 4).pull 6).pull 6).pull 7)
                      exact (kpX [(0, pt p1 0), (1, .int .u32 x3), (2, .slice a2 x4.length c2), (34, .slice a1 x1.length c1), (35, I (x1.length : Int)), (36, I v9), (68, .bool false)] rfl hst)
              · have hr := hy21
                refine wp_reg ?_
                refine L_pure 2 [(0, pt p1 0), (1, .int .u32 x3), (2, .slice a2 x4.length c2), (8, I v9), (9, pt p8 0), (34, .slice a1 x1.length c1), (35, I (x1.length : Int)), (36, I v9), (41, .int .u32 x3), (42, I v9)] (by kernel_rfl) fun b => ?_
                obtain ⟨hy5, hr⟩ := chk hr
                refine L_op rfl (O_run (v := .int .u32 (shR .u32 x3 v9)) (w' := w) (R_shr rfl rfl hy5) rfl rfl ?_)
                refine L_pure 3 [(0, pt p1 0), (1, .int .u32 x3), (2, .slice a2 x4.length c2), (8, I v9), (9, pt p8 0), (34, .slice a1 x1.length c1), (35, I (x1.length : Int)), (36, I v9), (46, .bool ((bAnd .u32 (shR .u32 x3 v9) 1) == 1))] (by kernel_rfl) fun b => ?_
                by_cases h : ((bAnd .u32 (shR .u32 x3 v9) 1) == 1) = true
                · have hr := (if_pos h).symm.trans hr
                  refine L_keep ((46, .bool ((bAnd .u32 (shR .u32 x3 v9) 1) == 1)) :: [(0, pt p1 0), (1, .int .u32 x3), (2, .slice a2 x4.length c2), (8, I v9), (9, pt p8 0), (34, .slice a1 x1.length c1), (35, I (x1.length : Int)), (36, I v9)]) rfl fun b => ?_
                  refine L_bool h ?_
                  refine L_pure 6 [(0, pt p1 0), (1, .int .u32 x3), (2, .slice a2 x4.length c2), (8, I v9), (9, pt p8 0), (34, .slice a1 x1.length c1), (35, I (x1.length : Int)), (36, I v9), (52, .bool true)] (by kernel_rfl) fun b => ?_
                  refine wpL_nil ?_
                  refine th_n ?_
                  obtain rfl := Option.some.inj hr
                  have hst := (((((((hst.pull 6).pull 6).pull 6).pull 6).pull 6).pull 6).pull 6)
                  exact (kpX [(0, pt p1 0), (1, .int .u32 x3), (2, .slice a2 x4.length c2), (8, I v9), (9, pt p8 0), (34, .slice a1 x1.length c1), (35, I (x1.length : Int)), (36, I v9), (52, .bool true)] rfl hst)
                · have hr := (if_neg h).symm.trans hr
                  refine L_keep ((46, .bool ((bAnd .u32 (shR .u32 x3 v9) 1) == 1)) :: [(0, pt p1 0), (1, .int .u32 x3), (2, .slice a2 x4.length c2), (8, I v9), (9, pt p8 0), (34, .slice a1 x1.length c1), (35, I (x1.length : Int)), (36, I v9)]) rfl fun b => ?_
                  refine L_bool (eq_false_of_ne_true h) ?_
                  refine L_pure 3 [(0, pt p1 0), (1, .int .u32 x3), (2, .slice a2 x4.length c2), (8, I v9), (9, pt p8 0), (34, .slice a1 x1.length c1), (35, I (x1.length : Int)), (36, I v9), (46, .bool false), (47, pt p1 0), (48, I v9), (49, .int .u32 x3)] (by kernel_rfl) fun b => ?_
                  obtain ⟨y22, hy22, hr⟩ := bnd hr
                  refine L_op rfl (O_call (vs := #[pt p1 0, I v9, .int .u32 x3]) Try.call20 (by kernel_rfl) (history_search_may_ok k x1 v10 v9 x3 p1 a1 c1 p2 y22 (((hst.pull 3).pull 3).pull 6) hy22 fun w hst => ?_))
                  refine CK_ret rfl ?_
                  refine L_pure 2 [(0, pt p1 0), (1, .int .u32 x3), (2, .slice a2 x4.length c2), (8, I v9), (9, pt p8 0), (34, .slice a1 x1.length c1), (35, I (x1.length : Int)), (36, I v9), (52, .bool (!y22))] (by kernel_rfl) fun b => ?_
                  refine wpL_nil ?_
                  refine th_n ?_
                  obtain rfl := Option.some.inj hr
                  have hst := ((((((hst.pull 6).pull 6).pull 4).pull 4).pull 6).pull 6)
                  exact (kpX [(0, pt p1 0), (1, .int .u32 x3), (2, .slice a2 x4.length c2), (8, I v9), (9, pt p8 0), (34, .slice a1 x1.length c1), (35, I (x1.length : Int)), (36, I v9), (52, .bool (!y22))] rfl hst)
          · have hr := (if_neg (by rw [h]; exact Bool.false_ne_true)).symm.trans hr
            refine wp_exit ?_
            refine th_x (th_x (ib_x (th_n ?_)))
            obtain rfl := Option.some.inj hr
            have hst := (((((hst.pull 4).pull 4).pull 4).pull 4).pull 4)
            exact ⟨(v10), (kpXf [] rfl hst)⟩
theorem history_search_try_r_ok {G : World} (k : Nat) : ∀ (d : Nat) {w : World} {F : List HP} {R : Ending → World → Prop} (x1 : (List T_history_Op)) (x2 : (List (T_history_key × Int))) (x3 : Int) (x4 : (List T_history_entry)) (p1 : Nat) (a1 : Option Addr) (c1 : Nat) (p2 : Nat) (a2 : Option Addr) (c2 : Nat) (r : (Bool × (List (T_history_key × Int)))), St G w (blk p1 (cl [.slice a1 x1.length c1, .map (some p2)] 52) :: osl r_T_history_Op 32 a1 c1 x1 :: mpo (fun x : T_history_key => .agg #[.int .u32 x.done, S x.world]) (fun n => .int .i64 n) p2 x2 :: dsl r_T_history_entry a2 c2 x4 :: F) → history_search_try_r k d x1 x2 x3 x4 = some r → (∀ w', St G w' (blk p1 (cl [.slice a1 x1.length c1, .map (some p2)] 52) :: osl r_T_history_Op 32 a1 c1 x1 :: mpo (fun x : T_history_key => .agg #[.int .u32 x.done, S x.world]) (fun n => .int .i64 n) p2 r.2 :: dsl r_T_history_entry a2 c2 x4 :: F) → R (.returned (.bool r.1)) w') → Calls Try.prog 15 #[pt p1 0, .int .u32 x3, .slice a2 x4.length c2] w R := by
  intro d
  induction d with
  | zero => intro w F R x1 x2 x3 x4 p1 a1 c1 p2 a2 c2 r hst hr hR; rw [history_search_try_r] at hr; cases hr
  | succ d ih => intro w F R x1 x2 x3 x4 p1 a1 c1 p2 a2 c2 r hst hr hR; rw [history_search_try_r] at hr; exact history_search_try_b_ok k (history_search_try_r k d) (fun x1 x2 x3 x4 p1 a1 c1 p2 a2 c2 r hst hr hR => ih x1 x2 x3 x4 p1 a1 c1 p2 a2 c2 r hst hr hR) x1 x2 x3 x4 p1 a1 c1 p2 a2 c2 r hst hr hR
theorem history_search_try_ok {G : World} {w : World} {F : List HP} {R : Ending → World → Prop} (k : Nat) (x1 : (List T_history_Op)) (x2 : (List (T_history_key × Int))) (x3 : Int) (x4 : (List T_history_entry)) (p1 : Nat) (a1 : Option Addr) (c1 : Nat) (p2 : Nat) (a2 : Option Addr) (c2 : Nat) (r : (Bool × (List (T_history_key × Int)))) (hst : St G w (blk p1 (cl [.slice a1 x1.length c1, .map (some p2)] 52) :: osl r_T_history_Op 32 a1 c1 x1 :: mpo (fun x : T_history_key => .agg #[.int .u32 x.done, S x.world]) (fun n => .int .i64 n) p2 x2 :: dsl r_T_history_entry a2 c2 x4 :: F)) (hr : history_search_try k x1 x2 x3 x4 = some r) (hR : ∀ w', St G w' (blk p1 (cl [.slice a1 x1.length c1, .map (some p2)] 52) :: osl r_T_history_Op 32 a1 c1 x1 :: mpo (fun x : T_history_key => .agg #[.int .u32 x.done, S x.world]) (fun n => .int .i64 n) p2 r.2 :: dsl r_T_history_entry a2 c2 x4 :: F) → R (.returned (.bool r.1)) w') :
    Calls Try.prog 15 #[pt p1 0, .int .u32 x3, .slice a2 x4.length c2] w R := history_search_try_r_ok k k x1 x2 x3 x4 p1 a1 c1 p2 a2 c2 r hst hr hR
def history_Check_l1 (k : Nat) (x1 : (List T_history_Op)) : Nat → Int → Option (Flow (Bool × Int) (Unit))
  | 0, _ => none
  | j + 1, v4 => (if decide (v4 < (x1.length : Int)) = true then (Option.bind (gt x1 v4) fun x3 => (Option.bind (if decide (x3.Kind < 1) = true then some (true) else (if decide (x3.Kind > 5) = true then some (true) else (if decide ((x3.Name.length : Int) > 32) = true then some (true) else (if decide (x3.End ≥ 0) = true then some (decide (x3.End < x3.Start)) else some (false))))) fun y5 => (if y5 = true then some (Flow.ret (false, (1 : Int))) else (history_Check_l1 k x1 j (IntKind.i64.wrap (v4 + 1)))))) else some (Flow.go ()))
def history_Check (k : Nat) (x1 : (List T_history_Op)) : Option (Bool × Int) := (if decide ((x1.length : Int) > 20) = true then some (false, (11 : Int)) else (Option.bind (history_Check_l1 k x1 k (0 : Int)) fun y4 => (match y4 with | Flow.ret r => some r | Flow.go _ => (Option.bind (history_search_try k x1 ([] : (List (T_history_key × Int))) 0 ([])) fun y6 => some (y6.1, (0 : Int))))))
set_option maxRecDepth 100000 in
set_option maxHeartbeats 4000000 in
theorem history_Check_ok {G w : World} {F : List HP} {R : Ending → World → Prop} (k : Nat) (x1 : (List T_history_Op)) (a1 : Option Addr) (c1 : Nat) (r : (Bool × Int)) (hst : St G w (osl r_T_history_Op 32 a1 c1 x1 :: F)) (hr : history_Check k x1 = some r)
    (hR : ∀ w', St G w' (osl r_T_history_Op 32 a1 c1 x1 :: F) → R (.returned (.tuple #[.bool r.1, I r.2])) w') :
    Calls Try.prog 9 #[.slice a1 x1.length c1] w R := by
  unfold history_Check at hr
  refine enter Try.func9 rfl [(0, .slice a1 x1.length c1)] rfl rfl fun b => ?_
  refine wp_seq ?_
  refine wp_reg ?_
  refine L_pure 2 [(0, .slice a1 x1.length c1)] (by kernel_rfl) fun b => ?_
  refine wpL_nil ?_
  refine th_n ?_
  refine wp_seq ?_
  refine wp_seq ?_
  refine wp_reg ?_
  refine L_pure 3 [(0, .slice a1 x1.length c1), (9, .bool (decide ((x1.length : Int) > 20)))] (by kernel_rfl) fun b => ?_
  refine wpL_nil ?_
  refine th_n ?_
  refine wp_cond_mkF (t := decide ((x1.length : Int) > 20)) rfl (fun h => ?_) (fun h => ?_)
  · have hr := (if_pos h).symm.trans hr
    refine wp_seq ?_
    refine wp_reg ?_
    refine L_pure 2 [(2, .bool false), (3, I 11)] (by kernel_rfl) fun b => ?_
    refine wpL_nil ?_
    refine th_n ?_
    refine wp_ret ?_
    refine th_r ?_
    refine ret2 rfl rfl rfl ?_
    obtain rfl := Option.some.inj hr
    exact hR _ hst
  · have hr := (if_neg (by rw [h]; exact Bool.false_ne_true)).symm.trans hr
    refine wp_skip ?_
    refine th_n ?_
    refine wp_seq ?_
    refine wp_seq ?_
    refine wp_reg ?_
    refine L_pure 3 [(0, .slice a1 x1.length c1), (10, .slice a1 x1.length c1), (11, I (x1.length : Int)), (12, I 0)] (by kernel_rfl) fun b => ?_
    refine wpL_nil ?_
    refine th_n ?_
    obtain ⟨y4, hy4, hk3⟩ := bnd hr
    clear hr
    refine Go.Hx.wp_cut (fun a w => ∃ (z2 : Unit) (b : Nat → Value), y4 = .go z2 ∧ a = mkF 49 b [(0, .slice a1 x1.length c1)] ∧ St G w (osl r_T_history_Op 32 a1 c1 x1 :: F)) ?_ ?_
    · rintro _ w ⟨z2, b, rfl, rfl, hst⟩
      have hr := hk3
      refine th_n ?_
      refine wp_seq ?_
      refine wp_reg ?_
      refine L_pure 1 [(43, .slice a1 x1.length c1)] (by kernel_rfl) fun b => ?_
      refine L_op rfl (O_makeMap (fun x : T_history_key => .agg #[.int .u32 x.done, S x.world]) (fun n => .int .i64 n) hst rfl fun p5 w hst => ?_)
      refine L_pure 1 [(45, .agg #[.slice a1 x1.length c1, .map (some p5)])] (by kernel_rfl) fun b => ?_
      refine L_op rfl (O_box [.slice a1 x1.length c1, .map (some p5)] hst rfl rfl fun p6 w hst => ?_)
      refine L_pure 1 [(6, pt p6 0)] (by kernel_rfl) fun b => ?_
      refine wpL_nil ?_
      refine th_n ?_
      refine wp_seq ?_
      refine wp_reg ?_
      refine L_pure 1 [(47, pt p6 0)] (by kernel_rfl) fun b => ?_
      obtain ⟨y6, hy6, hr⟩ := bnd hr
      have hst := dsl_nil r_T_history_entry hst
      refine L_op rfl (O_call (vs := #[pt p6 0, .int .u32 0, .slice none 0 0]) Try.call15 (by kernel_rfl) (history_search_try_ok k x1 ([] : (List (T_history_key × Int))) 0 ([]) p6 a1 c1 p5 none 0 y6 (((hst.pull 2).pull 3).pull 3) hy6 fun w hst => ?_))
      refine CK_ret rfl ?_
      refine L_pure 2 [(2, .bool y6.1), (3, I 0)] (by kernel_rfl) fun b => ?_
      refine wpL_nil ?_
      refine th_n ?_
      refine wp_ret ?_
      refine ret2 rfl rfl rfl ?_
      obtain rfl := Option.some.inj hr
      have hst := ((hst.pull 1).cut 1 3)
      exact hR _ hst
    · refine wp_block ?_
      refine wp_loop_fuel (fun j a w => ∃ (v4 : Int) (b : Nat → Value), a = mkF 49 b [(0, .slice a1 x1.length c1), (10, .slice a1 x1.length c1), (11, I (x1.length : Int)), (12, I v4)] ∧ St G w (osl r_T_history_Op 32 a1 c1 x1 :: F) ∧ history_Check_l1 k x1 j v4 = some y4) (k := k) ⟨(0 : Int), (kpX [(0, .slice a1 x1.length c1), (10, .slice a1 x1.length c1), (11, I (x1.length : Int)), (12, I 0)] rfl ⟨hst, hy4⟩)⟩ ?_ ?_
      · rintro _ _ ⟨_, _, _, _, h⟩
        rw [history_Check_l1] at h
        cases h
      · rintro j _ w ⟨v4, b, rfl, hst, hr⟩
        rw [history_Check_l1] at hr
        refine wp_seq ?_
        refine wp_reg ?_
        refine L_pure 1 [(0, .slice a1 x1.length c1), (10, .slice a1 x1.length c1), (11, I (x1.length : Int)), (12, I v4), (13, .bool (decide (v4 < (x1.length : Int))))] (by kernel_rfl) fun b => ?_
        refine wpL_nil ?_
        refine th_n ?_
        refine wp_seq ?_
        refine wp_cond_mkF (t := decide (v4 < (x1.length : Int))) rfl (fun h => ?_) (fun h => ?_)
        · have hr := (if_pos h).symm.trans hr
          refine wp_skip ?_
          refine th_n ?_
          refine wp_seq ?_
          refine wp_block ?_
          refine wp_seq ?_
          refine wp_reg ?_
          obtain ⟨x3, hx2, hr⟩ := bnd hr
          refine L_op rfl (O_run (v := pt (ab a1) (ao a1 + v4.toNat * 8)) (w' := w) (R_ia L22 rfl rfl (osl_addr hst hx2) (gt_some hx2).1 (gt_some hx2).2.1) rfl rfl ?_)
          obtain ⟨q2, hc2, hst⟩ := osl_cells hst hx2
          refine L_op rfl (O_run (v := .agg #[I x3.Kind, S x3.Name, .int .u64 x3.Value, I x3.Start, I x3.End, I x3.Err, .int .u64 x3.Got, .slice q2.1 x3.Names.length q2.2]) (w' := w) (R_loadAt (off := ao a1 + v4.toNat * 8) (j := 0) hc2 rfl rfl) rfl rfl ?_)
          refine L_op rfl (O_alloc (i := Try.t32) (z := .agg #[I 0, S ([]), .int .u64 0, I 0, I 0, I 0, .int .u64 0, .slice none 0 0]) [I 0, S ([]), .int .u64 0, I 0, I 0, I 0, .int .u64 0, .slice none 0 0] hst rfl rfl rfl rfl fun p4 w hst => ?_)
          refine L_op rfl (O_store [I x3.Kind, S x3.Name, .int .u64 x3.Value, I x3.Start, I x3.End, I x3.Err, .int .u64 x3.Got, .slice q2.1 x3.Names.length q2.2] hst rfl rfl (by kernel_rfl) fun w hst => ?_)
          refine wpL_nil ?_
          refine th_n ?_
          obtain ⟨y5, hy5, hk4⟩ := bnd hr
          clear hr
          refine wp_seq_cut (fun a w => ∃ (b : Nat → Value), a = mkF 49 b [(0, .slice a1 x1.length c1), (10, .slice a1 x1.length c1), (11, I (x1.length : Int)), (12, I v4), (41, .bool y5)] ∧ St G w (blk p4 (cl [I x3.Kind, S x3.Name, .int .u64 x3.Value, I x3.Start, I x3.End, I x3.Err, .int .u64 x3.Got, .slice q2.1 x3.Names.length q2.2] 32) :: dsl rS q2.1 q2.2 x3.Names :: osl r_T_history_Op 32 a1 c1 x1 :: F)) ?_ ?_
          · rintro _ w ⟨b, rfl, hst⟩
            have hr := hk4
            refine wp_cond_mkF (t := y5) rfl (fun h => ?_) (fun h => ?_)
            · have hr := (if_pos h).symm.trans hr
              refine wp_seq ?_
              refine wp_reg ?_
              refine L_pure 2 [(2, .bool false), (3, I 1)] (by kernel_rfl) fun b => ?_
              refine wpL_nil ?_
              refine th_n ?_
              refine wp_ret ?_
              refine ib_r (th_r (th_r (ib_r (th_r (th_r ?_)))))
              refine ret2 rfl rfl rfl ?_
              obtain rfl := Option.some.inj hr
              obtain rfl := Option.some.inj hk3
              have hst := ((hst.pull 2).cut 1 2)
              exact hR _ hst
            · have hr := (if_neg (by rw [h]; exact Bool.false_ne_true)).symm.trans hr
              refine wp_skip ?_
              refine ib_n (th_n ?_)
              refine wp_reg ?_
              refine L_pure 2 [(0, .slice a1 x1.length c1), (10, .slice a1 x1.length c1), (11, I (x1.length : Int)), (12, I (IntKind.i64.wrap (v4 + 1)))] (by kernel_rfl) fun b => ?_
              refine wpL_nil ?_
              refine th_n ?_
              have hst := ((hst.pull 2).cut 1 2)
              exact ⟨(IntKind.i64.wrap (v4 + 1)), (kpX [(0, .slice a1 x1.length c1), (10, .slice a1 x1.length c1), (11, I (x1.length : Int)), (12, I (IntKind.i64.wrap (v4 + 1)))] rfl ⟨hst, hr⟩)⟩
          · have hr := hy5
            refine wp_reg ?_
            refine L_pure 1 [(0, .slice a1 x1.length c1), (5, pt p4 0), (10, .slice a1 x1.length c1), (11, I (x1.length : Int)), (12, I v4), (16, pt p4 0)] (by kernel_rfl) fun b => ?_
            refine L_op rfl (O_run (v := I x3.Kind) (w' := w) (R_load hst rfl rfl) rfl rfl ?_)
            refine L_pure 2 [(0, .slice a1 x1.length c1), (5, pt p4 0), (10, .slice a1 x1.length c1), (11, I (x1.length : Int)), (12, I v4), (19, .bool (decide (x3.Kind < 1)))] (by kernel_rfl) fun b => ?_
            by_cases h : (decide (x3.Kind < 1)) = true
            · have hr := (if_pos h).symm.trans hr
              refine L_keep ((19, .bool (decide (x3.Kind < 1))) :: [(0, .slice a1 x1.length c1), (5, pt p4 0), (10, .slice a1 x1.length c1), (11, I (x1.length : Int)), (12, I v4)]) rfl fun b => ?_
              refine L_bool h ?_
              refine L_pure 22 [(0, .slice a1 x1.length c1), (10, .slice a1 x1.length c1), (11, I (x1.length : Int)), (12, I v4), (41, .bool true)] (by kernel_rfl) fun b => ?_
              refine wpL_nil ?_
              refine th_n ?_
              obtain rfl := Option.some.inj hr
              have hst := (((hst.pull 2).pull 2).pull 2)
              exact (kpX [(0, .slice a1 x1.length c1), (10, .slice a1 x1.length c1), (11, I (x1.length : Int)), (12, I v4), (41, .bool true)] rfl hst)
            · have hr := (if_neg h).symm.trans hr
              refine L_keep ((19, .bool (decide (x3.Kind < 1))) :: [(0, .slice a1 x1.length c1), (5, pt p4 0), (10, .slice a1 x1.length c1), (11, I (x1.length : Int)), (12, I v4)]) rfl fun b => ?_
              refine L_bool (eq_false_of_ne_true h) ?_
              refine L_pure 1 [(0, .slice a1 x1.length c1), (5, pt p4 0), (10, .slice a1 x1.length c1), (11, I (x1.length : Int)), (12, I v4), (19, .bool false), (20, pt p4 0)] (by kernel_rfl) fun b => ?_
              refine L_op rfl (O_run (v := I x3.Kind) (w' := w) (R_load hst rfl rfl) rfl rfl ?_)
              refine L_pure 3 [(0, .slice a1 x1.length c1), (5, pt p4 0), (10, .slice a1 x1.length c1), (11, I (x1.length : Int)), (12, I v4), (24, .bool (decide (x3.Kind > 5)))] (by kernel_rfl) fun b => ?_
              by_cases h : (decide (x3.Kind > 5)) = true
              · have hr := (if_pos h).symm.trans hr
                refine L_keep ((24, .bool (decide (x3.Kind > 5))) :: [(0, .slice a1 x1.length c1), (5, pt p4 0), (10, .slice a1 x1.length c1), (11, I (x1.length : Int)), (12, I v4)]) rfl fun b => ?_
                refine L_bool h ?_
                refine L_pure 17 [(0, .slice a1 x1.length c1), (10, .slice a1 x1.length c1), (11, I (x1.length : Int)), (12, I v4), (41, .bool true)] (by kernel_rfl) fun b => ?_
                refine wpL_nil ?_
                refine th_n ?_
                obtain rfl := Option.some.inj hr
                have hst := (((hst.pull 2).pull 2).pull 2)
                exact (kpX [(0, .slice a1 x1.length c1), (10, .slice a1 x1.length c1), (11, I (x1.length : Int)), (12, I v4), (41, .bool true)] rfl hst)
              · have hr := (if_neg h).symm.trans hr
                refine L_keep ((24, .bool (decide (x3.Kind > 5))) :: [(0, .slice a1 x1.length c1), (5, pt p4 0), (10, .slice a1 x1.length c1), (11, I (x1.length : Int)), (12, I v4)]) rfl fun b => ?_
                refine L_bool (eq_false_of_ne_true h) ?_
                refine L_pure 1 [(0, .slice a1 x1.length c1), (5, pt p4 0), (10, .slice a1 x1.length c1), (11, I (x1.length : Int)), (12, I v4), (24, .bool false), (25, pt p4 1)] (by kernel_rfl) fun b => ?_
                refine L_op rfl (O_run (v := S x3.Name) (w' := w) (R_load hst rfl rfl) rfl rfl ?_)
                refine L_pure 4 [(0, .slice a1 x1.length c1), (5, pt p4 0), (10, .slice a1 x1.length c1), (11, I (x1.length : Int)), (12, I v4), (30, .bool (decide ((x3.Name.length : Int) > 32)))] (by kernel_rfl) fun b => ?_
                by_cases h : (decide ((x3.Name.length : Int) > 32)) = true
                · have hr := (if_pos h).symm.trans hr
                  refine L_keep ((30, .bool (decide ((x3.Name.length : Int) > 32))) :: [(0, .slice a1 x1.length c1), (5, pt p4 0), (10, .slice a1 x1.length c1), (11, I (x1.length : Int)), (12, I v4)]) rfl fun b => ?_
                  refine L_bool h ?_
                  refine L_pure 11 [(0, .slice a1 x1.length c1), (10, .slice a1 x1.length c1), (11, I (x1.length : Int)), (12, I v4), (41, .bool true)] (by kernel_rfl) fun b => ?_
                  refine wpL_nil ?_
                  refine th_n ?_
                  obtain rfl := Option.some.inj hr
                  have hst := (((hst.pull 2).pull 2).pull 2)
                  exact (kpX [(0, .slice a1 x1.length c1), (10, .slice a1 x1.length c1), (11, I (x1.length : Int)), (12, I v4), (41, .bool true)] rfl hst)
                · have hr := (if_neg h).symm.trans hr
                  refine L_keep ((30, .bool (decide ((x3.Name.length : Int) > 32))) :: [(0, .slice a1 x1.length c1), (5, pt p4 0), (10, .slice a1 x1.length c1), (11, I (x1.length : Int)), (12, I v4)]) rfl fun b => ?_
                  refine L_bool (eq_false_of_ne_true h) ?_
                  refine L_pure 1 [(0, .slice a1 x1.length c1), (5, pt p4 0), (10, .slice a1 x1.length c1), (11, I (x1.length : Int)), (12, I v4), (30, .bool false), (31, pt p4 4)] (by kernel_rfl) fun b => ?_
                  refine L_op rfl (O_run (v := I x3.End) (w' := w) (R_load hst rfl rfl) rfl rfl ?_)
                  refine L_pure 2 [(0, .slice a1 x1.length c1), (5, pt p4 0), (10, .slice a1 x1.length c1), (11, I (x1.length : Int)), (12, I v4), (30, .bool false), (34, .bool (decide (x3.End ≥ 0)))] (by kernel_rfl) fun b => ?_
                  by_cases h : (decide (x3.End ≥ 0)) = true
                  · have hr := (if_pos h).symm.trans hr
                    refine L_keep ((34, .bool (decide (x3.End ≥ 0))) :: [(0, .slice a1 x1.length c1), (5, pt p4 0), (10, .slice a1 x1.length c1), (11, I (x1.length : Int)), (12, I v4), (30, .bool false)]) rfl fun b => ?_
                    refine L_bool h ?_
                    refine L_pure 1 [(0, .slice a1 x1.length c1), (5, pt p4 0), (10, .slice a1 x1.length c1), (11, I (x1.length : Int)), (12, I v4), (30, .bool false), (34, .bool true), (35, pt p4 4)] (by kernel_rfl) fun b => ?_
                    refine L_op rfl (O_run (v := I x3.End) (w' := w) (R_load hst rfl rfl) rfl rfl ?_)
                    refine L_pure 1 [(0, .slice a1 x1.length c1), (10, .slice a1 x1.length c1), (11, I (x1.length : Int)), (12, I v4), (30, .bool false), (34, .bool true), (36, I x3.End), (37, pt p4 3)] (by kernel_rfl) fun b => ?_
                    refine L_op rfl (O_run (v := I x3.Start) (w' := w) (R_load hst rfl rfl) rfl rfl ?_)
                    refine L_pure 3 [(0, .slice a1 x1.length c1), (10, .slice a1 x1.length c1), (11, I (x1.length : Int)), (12, I v4), (41, .bool (decide (x3.End < x3.Start)))] (by kernel_rfl) fun b => ?_
                    refine wpL_nil ?_
                    refine th_n ?_
                    obtain rfl := Option.some.inj hr
                    have hst := (((hst.pull 2).pull 2).pull 2)
                    exact (kpX [(0, .slice a1 x1.length c1), (10, .slice a1 x1.length c1), (11, I (x1.length : Int)), (12, I v4), (41, .bool (decide (x3.End < x3.Start)))] rfl hst)
                  · have hr := (if_neg h).symm.trans hr
                    refine L_keep ((34, .bool (decide (x3.End ≥ 0))) :: [(0, .slice a1 x1.length c1), (5, pt p4 0), (10, .slice a1 x1.length c1), (11, I (x1.length : Int)), (12, I v4), (30, .bool false)]) rfl fun b => ?_
                    refine L_bool (eq_false_of_ne_true h) ?_
                    refine L_pure 7 [(0, .slice a1 x1.length c1), (10, .slice a1 x1.length c1), (11, I (x1.length : Int)), (12, I v4), (41, .bool false)] (by kernel_rfl) fun b => ?_
                    refine wpL_nil ?_
                    refine th_n ?_
                    obtain rfl := Option.some.inj hr
                    have hst := (((hst.pull 2).pull 2).pull 2)
                    exact (kpX [(0, .slice a1 x1.length c1), (10, .slice a1 x1.length c1), (11, I (x1.length : Int)), (12, I v4), (41, .bool false)] rfl hst)
        · have hr := (if_neg (by rw [h]; exact Bool.false_ne_true)).symm.trans hr
          refine wp_exit ?_
          refine th_x (th_x (ib_x (th_n ?_)))
          obtain rfl := Option.some.inj hr
          exact ⟨(), (kpXf [(0, .slice a1 x1.length c1)] rfl hst)⟩
def glacierlaw18_awake (k : Nat) : Option (Bool) := (Option.bind (history_Check k ([(T_history_Op.mk 1 ([97]) 1 0 3 0 0 ([])), (T_history_Op.mk 2 ([97]) 0 1 2 0 1 ([]))])) fun y5 => (Option.bind (history_Check k ([(T_history_Op.mk 1 ([97]) 1 0 3 0 0 ([])), (T_history_Op.mk 2 ([97]) 0 1 2 5 0 ([]))])) fun y6 => (Option.bind (history_Check k ([(T_history_Op.mk 1 ([97]) 1 0 3 0 0 ([])), (T_history_Op.mk 2 ([97]) 0 4 5 5 0 ([]))])) fun y7 => (Option.bind (if y5.1 = true then (if y6.1 = true then (if (!y7.1) = true then (if (y5.2 == 0) = true then (if (y6.2 == 0) = true then some ((y7.2 == 0)) else some (false)) else some (false)) else some (false)) else some (false)) else some (false)) fun y8 => some (y8)))))
set_option maxRecDepth 100000 in
set_option maxHeartbeats 4000000 in
theorem glacierlaw18_awake_ok {G w : World} {F : List HP} {R : Ending → World → Prop} (k : Nat) (r : (Bool)) (hst : St G w (F)) (hr : glacierlaw18_awake k = some r)
    (hR : ∀ w', St G w' (F) → R (.returned (.bool r)) w') :
    Calls Try.prog 10 #[] w R := by
  unfold glacierlaw18_awake at hr
  refine enter Try.func10 rfl [] rfl rfl fun b => ?_
  refine wp_seq ?_
  refine wp_reg ?_
  refine L_pure 1 [] (by kernel_rfl) fun b => ?_
  refine wpL_nil ?_
  refine th_n ?_
  refine wp_seq ?_
  refine wp_reg ?_
  refine L_pure 1 [(11, .agg #[I 1, S ([97]), .int .u64 1, I 0, I 3, I 0, .int .u64 0, .slice none 0 0])] (by kernel_rfl) fun b => ?_
  refine L_op rfl (O_alloc (i := Try.t32) (z := .agg #[I 0, S ([]), .int .u64 0, I 0, I 0, I 0, .int .u64 0, .slice none 0 0]) [I 0, S ([]), .int .u64 0, I 0, I 0, I 0, .int .u64 0, .slice none 0 0] hst rfl rfl rfl rfl fun p8 w hst => ?_)
  refine L_op rfl (O_store [I 1, S ([97]), .int .u64 1, I 0, I 3, I 0, .int .u64 0, .slice none 0 0] hst rfl rfl (by kernel_rfl) fun w hst => ?_)
  refine wpL_nil ?_
  refine th_n ?_
  refine wp_seq ?_
  refine wp_reg ?_
  refine L_pure 1 [(1, pt p8 0), (12, .agg #[I 2, S ([97]), .int .u64 0, I 1, I 2, I 0, .int .u64 1, .slice none 0 0])] (by kernel_rfl) fun b => ?_
  refine L_op rfl (O_alloc (i := Try.t32) (z := .agg #[I 0, S ([]), .int .u64 0, I 0, I 0, I 0, .int .u64 0, .slice none 0 0]) [I 0, S ([]), .int .u64 0, I 0, I 0, I 0, .int .u64 0, .slice none 0 0] hst rfl rfl rfl rfl fun p9 w hst => ?_)
  refine L_op rfl (O_store [I 2, S ([97]), .int .u64 0, I 1, I 2, I 0, .int .u64 1, .slice none 0 0] hst rfl rfl (by kernel_rfl) fun w hst => ?_)
  refine wpL_nil ?_
  refine th_n ?_
  refine wp_seq ?_
  refine wp_reg ?_
  refine L_pure 1 [(1, pt p8 0), (2, pt p9 0), (13, .agg #[I 2, S ([97]), .int .u64 0, I 1, I 2, I 5, .int .u64 0, .slice none 0 0])] (by kernel_rfl) fun b => ?_
  refine L_op rfl (O_alloc (i := Try.t32) (z := .agg #[I 0, S ([]), .int .u64 0, I 0, I 0, I 0, .int .u64 0, .slice none 0 0]) [I 0, S ([]), .int .u64 0, I 0, I 0, I 0, .int .u64 0, .slice none 0 0] hst rfl rfl rfl rfl fun p10 w hst => ?_)
  refine L_op rfl (O_store [I 2, S ([97]), .int .u64 0, I 1, I 2, I 5, .int .u64 0, .slice none 0 0] hst rfl rfl (by kernel_rfl) fun w hst => ?_)
  refine wpL_nil ?_
  refine th_n ?_
  refine wp_seq ?_
  refine wp_reg ?_
  refine L_pure 1 [(1, pt p8 0), (2, pt p9 0), (3, pt p10 0), (14, .agg #[I 2, S ([97]), .int .u64 0, I 4, I 5, I 5, .int .u64 0, .slice none 0 0])] (by kernel_rfl) fun b => ?_
  refine L_op rfl (O_alloc (i := Try.t32) (z := .agg #[I 0, S ([]), .int .u64 0, I 0, I 0, I 0, .int .u64 0, .slice none 0 0]) [I 0, S ([]), .int .u64 0, I 0, I 0, I 0, .int .u64 0, .slice none 0 0] hst rfl rfl rfl rfl fun p11 w hst => ?_)
  refine L_op rfl (O_store [I 2, S ([97]), .int .u64 0, I 4, I 5, I 5, .int .u64 0, .slice none 0 0] hst rfl rfl (by kernel_rfl) fun w hst => ?_)
  refine wpL_nil ?_
  refine th_n ?_
  refine wp_seq ?_
  refine wp_reg ?_
  refine L_op rfl (O_run (v := .agg #[I 1, S ([97]), .int .u64 1, I 0, I 3, I 0, .int .u64 0, .slice none 0 0]) (w' := w) (R_load (hst.pull 3) rfl rfl) rfl rfl ?_)
  refine L_op rfl (O_run (v := .agg #[I 2, S ([97]), .int .u64 0, I 1, I 2, I 0, .int .u64 1, .slice none 0 0]) (w' := w) (R_load (hst.pull 2) rfl rfl) rfl rfl ?_)
  have hst := dsl_nil rS hst
  have hst := dsl_nil rS hst
  refine L_op rfl (O_bs (T := 32) [I 1, S ([97]), .int .u64 1, I 0, I 3, I 0, .int .u64 0, .slice none 0 0, I 2, S ([97]), .int .u64 0, I 1, I 2, I 0, .int .u64 1, .slice none 0 0] #[(0, .agg #[I 1, S ([97]), .int .u64 1, I 0, I 3, I 0, .int .u64 0, .slice none 0 0]), (1, .agg #[I 2, S ([97]), .int .u64 0, I 1, I 2, I 0, .int .u64 1, .slice none 0 0])] hst (by kernel_rfl) (by kernel_rfl) rfl fun p12 w hst => ?_)
  have hst := (hst.pull 1).dup
  have hst := hst.dup
  have hst := (((hst.pull 3).pull 1).pull 2).and
  have hst := osl_of_blk (ecs := [[I 1, S ([97]), .int .u64 1, I 0, I 3, I 0, .int .u64 0, .slice none 0 0], [I 2, S ([97]), .int .u64 0, I 1, I 2, I 0, .int .u64 1, .slice none 0 0]]) r_T_history_Op [(T_history_Op.mk 1 ([97]) 1 0 3 0 0 ([])), (T_history_Op.mk 2 ([97]) 0 1 2 0 1 ([]))] rfl (fun m h => ⟨⟨((none, 0)), rfl, h.1⟩, ⟨((none, 0)), rfl, h.2⟩, trivial⟩) rfl hst
  obtain ⟨y5, hy5, hr⟩ := bnd hr
  refine L_op rfl (O_call (vs := #[.slice (some ⟨p12, 0, none⟩) ([(T_history_Op.mk 1 ([97]) 1 0 3 0 0 ([])), (T_history_Op.mk 2 ([97]) 0 1 2 0 1 ([]))]).length 2]) Try.call9 (by kernel_rfl) (history_Check_ok k ([(T_history_Op.mk 1 ([97]) 1 0 3 0 0 ([])), (T_history_Op.mk 2 ([97]) 0 1 2 0 1 ([]))]) (some ⟨p12, 0, none⟩) 2 y5 hst hy5 fun w hst => ?_))
  refine CK_ret rfl ?_
  refine L_pure 5 [(1, pt p8 0), (3, pt p10 0), (4, pt p11 0), (5, .bool y5.1), (6, I y5.2)] (by kernel_rfl) fun b => ?_
  refine wpL_nil ?_
  refine th_n ?_
  refine wp_seq ?_
  refine wp_reg ?_
  refine L_op rfl (O_run (v := .agg #[I 1, S ([97]), .int .u64 1, I 0, I 3, I 0, .int .u64 0, .slice none 0 0]) (w' := w) (R_load (hst.pull 6) rfl rfl) rfl rfl ?_)
  refine L_op rfl (O_run (v := .agg #[I 2, S ([97]), .int .u64 0, I 1, I 2, I 5, .int .u64 0, .slice none 0 0]) (w' := w) (R_load (hst.pull 4) rfl rfl) rfl rfl ?_)
  have hst := dsl_nil rS hst
  have hst := dsl_nil rS hst
  refine L_op rfl (O_bs (T := 32) [I 1, S ([97]), .int .u64 1, I 0, I 3, I 0, .int .u64 0, .slice none 0 0, I 2, S ([97]), .int .u64 0, I 1, I 2, I 5, .int .u64 0, .slice none 0 0] #[(0, .agg #[I 1, S ([97]), .int .u64 1, I 0, I 3, I 0, .int .u64 0, .slice none 0 0]), (1, .agg #[I 2, S ([97]), .int .u64 0, I 1, I 2, I 5, .int .u64 0, .slice none 0 0])] hst (by kernel_rfl) (by kernel_rfl) rfl fun p13 w hst => ?_)
  have hst := (hst.pull 1).dup
  have hst := hst.dup
  have hst := (((hst.pull 3).pull 1).pull 2).and
  have hst := osl_of_blk (ecs := [[I 1, S ([97]), .int .u64 1, I 0, I 3, I 0, .int .u64 0, .slice none 0 0], [I 2, S ([97]), .int .u64 0, I 1, I 2, I 5, .int .u64 0, .slice none 0 0]]) r_T_history_Op [(T_history_Op.mk 1 ([97]) 1 0 3 0 0 ([])), (T_history_Op.mk 2 ([97]) 0 1 2 5 0 ([]))] rfl (fun m h => ⟨⟨((none, 0)), rfl, h.1⟩, ⟨((none, 0)), rfl, h.2⟩, trivial⟩) rfl hst
  obtain ⟨y6, hy6, hr⟩ := bnd hr
  refine L_op rfl (O_call (vs := #[.slice (some ⟨p13, 0, none⟩) ([(T_history_Op.mk 1 ([97]) 1 0 3 0 0 ([])), (T_history_Op.mk 2 ([97]) 0 1 2 5 0 ([]))]).length 2]) Try.call9 (by kernel_rfl) (history_Check_ok k ([(T_history_Op.mk 1 ([97]) 1 0 3 0 0 ([])), (T_history_Op.mk 2 ([97]) 0 1 2 5 0 ([]))]) (some ⟨p13, 0, none⟩) 2 y6 hst hy6 fun w hst => ?_))
  refine CK_ret rfl ?_
  refine L_pure 5 [(1, pt p8 0), (4, pt p11 0), (5, .bool y5.1), (6, I y5.2), (7, .bool y6.1), (8, I y6.2)] (by kernel_rfl) fun b => ?_
  refine wpL_nil ?_
  refine th_n ?_
  refine wp_seq ?_
  refine wp_reg ?_
  refine L_op rfl (O_run (v := .agg #[I 1, S ([97]), .int .u64 1, I 0, I 3, I 0, .int .u64 0, .slice none 0 0]) (w' := w) (R_load (hst.pull 9) rfl rfl) rfl rfl ?_)
  refine L_op rfl (O_run (v := .agg #[I 2, S ([97]), .int .u64 0, I 4, I 5, I 5, .int .u64 0, .slice none 0 0]) (w' := w) (R_load (hst.pull 6) rfl rfl) rfl rfl ?_)
  have hst := dsl_nil rS hst
  have hst := dsl_nil rS hst
  refine L_op rfl (O_bs (T := 32) [I 1, S ([97]), .int .u64 1, I 0, I 3, I 0, .int .u64 0, .slice none 0 0, I 2, S ([97]), .int .u64 0, I 4, I 5, I 5, .int .u64 0, .slice none 0 0] #[(0, .agg #[I 1, S ([97]), .int .u64 1, I 0, I 3, I 0, .int .u64 0, .slice none 0 0]), (1, .agg #[I 2, S ([97]), .int .u64 0, I 4, I 5, I 5, .int .u64 0, .slice none 0 0])] hst (by kernel_rfl) (by kernel_rfl) rfl fun p14 w hst => ?_)
  have hst := (hst.pull 1).dup
  have hst := hst.dup
  have hst := (((hst.pull 3).pull 1).pull 2).and
  have hst := osl_of_blk (ecs := [[I 1, S ([97]), .int .u64 1, I 0, I 3, I 0, .int .u64 0, .slice none 0 0], [I 2, S ([97]), .int .u64 0, I 4, I 5, I 5, .int .u64 0, .slice none 0 0]]) r_T_history_Op [(T_history_Op.mk 1 ([97]) 1 0 3 0 0 ([])), (T_history_Op.mk 2 ([97]) 0 4 5 5 0 ([]))] rfl (fun m h => ⟨⟨((none, 0)), rfl, h.1⟩, ⟨((none, 0)), rfl, h.2⟩, trivial⟩) rfl hst
  obtain ⟨y7, hy7, hr⟩ := bnd hr
  refine L_op rfl (O_call (vs := #[.slice (some ⟨p14, 0, none⟩) ([(T_history_Op.mk 1 ([97]) 1 0 3 0 0 ([])), (T_history_Op.mk 2 ([97]) 0 4 5 5 0 ([]))]).length 2]) Try.call9 (by kernel_rfl) (history_Check_ok k ([(T_history_Op.mk 1 ([97]) 1 0 3 0 0 ([])), (T_history_Op.mk 2 ([97]) 0 4 5 5 0 ([]))]) (some ⟨p14, 0, none⟩) 2 y7 hst hy7 fun w hst => ?_))
  refine CK_ret rfl ?_
  refine L_pure 5 [(5, .bool y5.1), (6, I y5.2), (7, .bool y6.1), (8, I y6.2), (9, .bool y7.1), (10, I y7.2)] (by kernel_rfl) fun b => ?_
  refine wpL_nil ?_
  refine th_n ?_
  obtain ⟨y8, hy8, hk2⟩ := bnd hr
  clear hr
  refine wp_seq_cut (fun a w => ∃ (b : Nat → Value), a = mkF 56 b [(0, .bool y8)] ∧ St G w (osl r_T_history_Op 32 (some ⟨p14, 0, none⟩) 2 ([(T_history_Op.mk 1 ([97]) 1 0 3 0 0 ([])), (T_history_Op.mk 2 ([97]) 0 4 5 5 0 ([]))]) :: dsl rS none 0 ([]) :: dsl rS none 0 ([]) :: osl r_T_history_Op 32 (some ⟨p13, 0, none⟩) 2 ([(T_history_Op.mk 1 ([97]) 1 0 3 0 0 ([])), (T_history_Op.mk 2 ([97]) 0 1 2 5 0 ([]))]) :: dsl rS none 0 ([]) :: dsl rS none 0 ([]) :: osl r_T_history_Op 32 (some ⟨p12, 0, none⟩) 2 ([(T_history_Op.mk 1 ([97]) 1 0 3 0 0 ([])), (T_history_Op.mk 2 ([97]) 0 1 2 0 1 ([]))]) :: dsl rS none 0 ([]) :: dsl rS none 0 ([]) :: blk p11 (cl [I 2, S ([97]), .int .u64 0, I 4, I 5, I 5, .int .u64 0, .slice none 0 0] 32) :: blk p10 (cl [I 2, S ([97]), .int .u64 0, I 1, I 2, I 5, .int .u64 0, .slice none 0 0] 32) :: blk p9 (cl [I 2, S ([97]), .int .u64 0, I 1, I 2, I 0, .int .u64 1, .slice none 0 0] 32) :: blk p8 (cl [I 1, S ([97]), .int .u64 1, I 0, I 3, I 0, .int .u64 0, .slice none 0 0] 32) :: F)) ?_ ?_
  · rintro _ w ⟨b, rfl, hst⟩
    have hr := hk2
    refine wp_ret ?_
    refine ret1 rfl rfl ?_
    obtain rfl := Option.some.inj hr
    have hst := (hst.cut 0 13)
    exact hR _ hst
  · have hr := hy8
    refine wp_reg ?_
    refine L_pure 2 [(6, I y5.2), (7, .bool y6.1), (8, I y6.2), (9, .bool y7.1), (10, I y7.2), (37, .bool y5.1)] (by kernel_rfl) fun b => ?_
    by_cases h : y5.1 = true
    · have hr := (if_pos h).symm.trans hr
      refine L_keep ((37, .bool y5.1) :: [(6, I y5.2), (7, .bool y6.1), (8, I y6.2), (9, .bool y7.1), (10, I y7.2)]) rfl fun b => ?_
      refine L_bool h ?_
      refine L_pure 3 [(6, I y5.2), (8, I y6.2), (9, .bool y7.1), (10, I y7.2), (40, .bool y6.1)] (by kernel_rfl) fun b => ?_
      by_cases h : y6.1 = true
      · have hr := (if_pos h).symm.trans hr
        refine L_keep ((40, .bool y6.1) :: [(6, I y5.2), (8, I y6.2), (9, .bool y7.1), (10, I y7.2)]) rfl fun b => ?_
        refine L_bool h ?_
        refine L_pure 4 [(6, I y5.2), (8, I y6.2), (10, I y7.2), (44, .bool (!y7.1))] (by kernel_rfl) fun b => ?_
        by_cases h : (!y7.1) = true
        · have hr := (if_pos h).symm.trans hr
          refine L_keep ((44, .bool (!y7.1)) :: [(6, I y5.2), (8, I y6.2), (10, I y7.2)]) rfl fun b => ?_
          refine L_bool h ?_
          refine L_pure 4 [(8, I y6.2), (10, I y7.2), (48, .bool (y5.2 == 0))] (by kernel_rfl) fun b => ?_
          by_cases h : (y5.2 == 0) = true
          · have hr := (if_pos h).symm.trans hr
            refine L_keep ((48, .bool (y5.2 == 0)) :: [(8, I y6.2), (10, I y7.2)]) rfl fun b => ?_
            refine L_bool h ?_
            refine L_pure 4 [(10, I y7.2), (52, .bool (y6.2 == 0))] (by kernel_rfl) fun b => ?_
            by_cases h : (y6.2 == 0) = true
            · have hr := (if_pos h).symm.trans hr
              refine L_keep ((52, .bool (y6.2 == 0)) :: [(10, I y7.2)]) rfl fun b => ?_
              refine L_bool h ?_
              refine L_pure 4 [(0, .bool (y7.2 == 0))] (by kernel_rfl) fun b => ?_
              refine wpL_nil ?_
              refine th_n ?_
              obtain rfl := Option.some.inj hr
              have hst := (((((((((((((hst.pull 12).pull 12).pull 12).pull 12).pull 12).pull 12).pull 12).pull 12).pull 12).pull 12).pull 12).pull 12).pull 12)
              exact (kpX [(0, .bool (y7.2 == 0))] rfl hst)
            · have hr := (if_neg h).symm.trans hr
              refine L_keep ((52, .bool (y6.2 == 0)) :: [(10, I y7.2)]) rfl fun b => ?_
              refine L_bool (eq_false_of_ne_true h) ?_
              refine L_pure 4 [(0, .bool false)] (by kernel_rfl) fun b => ?_
              refine wpL_nil ?_
              refine th_n ?_
              obtain rfl := Option.some.inj hr
              have hst := (((((((((((((hst.pull 12).pull 12).pull 12).pull 12).pull 12).pull 12).pull 12).pull 12).pull 12).pull 12).pull 12).pull 12).pull 12)
              exact (kpX [(0, .bool false)] rfl hst)
          · have hr := (if_neg h).symm.trans hr
            refine L_keep ((48, .bool (y5.2 == 0)) :: [(8, I y6.2), (10, I y7.2)]) rfl fun b => ?_
            refine L_bool (eq_false_of_ne_true h) ?_
            refine L_pure 8 [(0, .bool false)] (by kernel_rfl) fun b => ?_
            refine wpL_nil ?_
            refine th_n ?_
            obtain rfl := Option.some.inj hr
            have hst := (((((((((((((hst.pull 12).pull 12).pull 12).pull 12).pull 12).pull 12).pull 12).pull 12).pull 12).pull 12).pull 12).pull 12).pull 12)
            exact (kpX [(0, .bool false)] rfl hst)
        · have hr := (if_neg h).symm.trans hr
          refine L_keep ((44, .bool (!y7.1)) :: [(6, I y5.2), (8, I y6.2), (10, I y7.2)]) rfl fun b => ?_
          refine L_bool (eq_false_of_ne_true h) ?_
          refine L_pure 12 [(0, .bool false)] (by kernel_rfl) fun b => ?_
          refine wpL_nil ?_
          refine th_n ?_
          obtain rfl := Option.some.inj hr
          have hst := (((((((((((((hst.pull 12).pull 12).pull 12).pull 12).pull 12).pull 12).pull 12).pull 12).pull 12).pull 12).pull 12).pull 12).pull 12)
          exact (kpX [(0, .bool false)] rfl hst)
      · have hr := (if_neg h).symm.trans hr
        refine L_keep ((40, .bool y6.1) :: [(6, I y5.2), (8, I y6.2), (9, .bool y7.1), (10, I y7.2)]) rfl fun b => ?_
        refine L_bool (eq_false_of_ne_true h) ?_
        refine L_pure 16 [(0, .bool false)] (by kernel_rfl) fun b => ?_
        refine wpL_nil ?_
        refine th_n ?_
        obtain rfl := Option.some.inj hr
        have hst := (((((((((((((hst.pull 12).pull 12).pull 12).pull 12).pull 12).pull 12).pull 12).pull 12).pull 12).pull 12).pull 12).pull 12).pull 12)
        exact (kpX [(0, .bool false)] rfl hst)
    · have hr := (if_neg h).symm.trans hr
      refine L_keep ((37, .bool y5.1) :: [(6, I y5.2), (7, .bool y6.1), (8, I y6.2), (9, .bool y7.1), (10, I y7.2)]) rfl fun b => ?_
      refine L_bool (eq_false_of_ne_true h) ?_
      refine L_pure 19 [(0, .bool false)] (by kernel_rfl) fun b => ?_
      refine wpL_nil ?_
      refine th_n ?_
      obtain rfl := Option.some.inj hr
      have hst := (((((((((((((hst.pull 12).pull 12).pull 12).pull 12).pull 12).pull 12).pull 12).pull 12).pull 12).pull 12).pull 12).pull 12).pull 12)
      exact (kpX [(0, .bool false)] rfl hst)
def glacierlaw18_HistoryCan_l1 (k : Nat) (x5 : (List Bool)) (y14 : ((List T_history_Op))) : Nat → (List T_history_Op) → Int → Option ((List T_history_Op))
  | 0, _, _ => none
  | j + 1, v7, v8 => (if decide (v8 < (y14.length : Int)) = true then (Option.bind (gt y14 v8) fun x9 => (Option.bind (Option.bind (if decide (v8 < (x5.length : Int)) = true then (Option.bind (gt x5 v8) fun x10 => some (x10)) else some (false)) fun y20 => (if y20 = true then some (((-1) : Int)) else some (x9.End))) fun y19 => (if room (v7.length + ([(T_history_Op.mk x9.Kind x9.Name x9.Value x9.Start y19 x9.Err x9.Got x9.Names)]).length) 88 = true then (glacierlaw18_HistoryCan_l1 k x5 y14 j (v7 ++ ([(T_history_Op.mk x9.Kind x9.Name x9.Value x9.Start y19 x9.Err x9.Got x9.Names)])) (IntKind.i64.wrap (v8 + 1))) else none))) else some (v7))
def glacierlaw18_HistoryCan (k : Nat) (x1 : (List T_history_Op)) (x2 : Int) (x3 : Int) (x4 : Int) (x5 : (List Bool)) : Option (Bool) := (Option.bind (glacierlaw18_done k x1 x2 x3) fun y14 => (Option.bind (history_Check k y14) fun y15 => (Option.bind (Option.bind (glacierlaw18_awake k) fun y17 => (if (!y17) = true then some (true) else (if (y15.2 != 0) = true then some (true) else some ((!y15.1))))) fun y16 => (if y16 = true then some (false) else (Option.bind (glacierlaw18_HistoryCan_l1 k x5 y14 k ([]) (0 : Int)) fun y18 => (Option.bind (history_Check k y18) fun y21 => (Option.bind (if (y21.2 != 0) = true then some (true) else (if (!y21.1) = true then some (true) else (if decide (x4 < 0) = true then some (true) else some (decide (x4 > (y14.length : Int)))))) fun y22 => (if y22 = true then (Option.bind (if (y21.2 == 0) = true then some (y21.1) else some (false)) fun y23 => some (y23)) else (Option.bind (sl x1 0 (mn2 x4 (x1.length : Int))) fun x11 => (Option.bind (glacierlaw18_done k x11 x2 x3) fun y24 => (Option.bind (history_Check k y24) fun y25 => (Option.bind (if (y25.2 == 0) = true then some (y25.1) else some (false)) fun y26 => some (y26)))))))))))))
set_option maxRecDepth 100000 in
set_option maxHeartbeats 4000000 in
theorem glacierlaw18_HistoryCan_ok {G w : World} {F : List HP} {R : Ending → World → Prop} (k : Nat) (x1 : (List T_history_Op)) (x2 : Int) (x3 : Int) (x4 : Int) (x5 : (List Bool)) (a1 : Option Addr) (c1 : Nat) (a2 : Option Addr) (c2 : Nat) (r : (Bool)) (hst : St G w (dsl r_T_history_Op a1 c1 x1 :: dsl rB a2 c2 x5 :: F)) (hr : glacierlaw18_HistoryCan k x1 x2 x3 x4 x5 = some r)
    (hR : ∀ w', St G w' (dsl r_T_history_Op a1 c1 x1 :: dsl rB a2 c2 x5 :: F) → R (.returned (.bool r)) w') :
    Calls Try.prog 3 #[.slice a1 x1.length c1, I x2, I x3, I x4, .slice a2 x5.length c2] w R := by
  unfold glacierlaw18_HistoryCan at hr
  refine enter Try.func3 rfl [(0, .slice a1 x1.length c1), (1, I x2), (2, I x3), (3, I x4), (4, .slice a2 x5.length c2)] rfl rfl fun b => ?_
  refine wp_seq ?_
  refine wp_reg ?_
  refine L_pure 1 [(0, .slice a1 x1.length c1), (1, I x2), (2, I x3), (3, I x4), (4, .slice a2 x5.length c2)] (by kernel_rfl) fun b => ?_
  refine wpL_nil ?_
  refine th_n ?_
  refine wp_seq ?_
  refine wp_reg ?_
  refine L_pure 3 [(0, .slice a1 x1.length c1), (1, I x2), (2, I x3), (3, I x4), (4, .slice a2 x5.length c2), (21, .slice a1 x1.length c1), (22, I x2), (23, I x3)] (by kernel_rfl) fun b => ?_
  obtain ⟨y14, hy14, hr⟩ := bnd hr
  refine L_op rfl (O_call (vs := #[.slice a1 x1.length c1, I x2, I x3]) Try.call8 (by kernel_rfl) (glacierlaw18_done_ok k x1 x2 x3 a1 c1 y14 hst hy14 fun a10 c10 w hst => ?_))
  refine CK_ret rfl ?_
  refine L_pure 1 [(0, .slice a1 x1.length c1), (1, I x2), (2, I x3), (3, I x4), (4, .slice a2 x5.length c2), (11, .slice a10 y14.length c10)] (by kernel_rfl) fun b => ?_
  refine wpL_nil ?_
  refine th_n ?_
  refine wp_seq ?_
  refine wp_reg ?_
  refine L_pure 1 [(0, .slice a1 x1.length c1), (1, I x2), (2, I x3), (3, I x4), (4, .slice a2 x5.length c2), (11, .slice a10 y14.length c10), (26, .slice a10 y14.length c10)] (by kernel_rfl) fun b => ?_
  obtain ⟨y15, hy15, hr⟩ := bnd hr
  refine L_op rfl (O_call (vs := #[.slice a10 y14.length c10]) Try.call9 (by kernel_rfl) (history_Check_ok k y14 a10 c10 y15 hst hy15 fun w hst => ?_))
  refine CK_ret rfl ?_
  refine L_pure 5 [(0, .slice a1 x1.length c1), (1, I x2), (2, I x3), (3, I x4), (4, .slice a2 x5.length c2), (11, .slice a10 y14.length c10), (12, .bool y15.1), (13, I y15.2)] (by kernel_rfl) fun b => ?_
  refine wpL_nil ?_
  refine th_n ?_
  refine wp_seq ?_
  obtain ⟨y16, hy16, hk8⟩ := bnd hr
  clear hr
  refine wp_seq_cut (fun a w => ∃ (b : Nat → Value), a = mkF 108 b [(0, .slice a1 x1.length c1), (1, I x2), (2, I x3), (3, I x4), (4, .slice a2 x5.length c2), (11, .slice a10 y14.length c10), (39, .bool y16)] ∧ St G w (osl r_T_history_Op 32 a10 c10 y14 :: dsl r_T_history_Op a1 c1 x1 :: dsl rB a2 c2 x5 :: F)) ?_ ?_
  · rintro _ w ⟨b, rfl, hst⟩
    have hr := hk8
    refine wp_cond_mkF (t := y16) rfl (fun h => ?_) (fun h => ?_)
    · have hr := (if_pos h).symm.trans hr
      refine wp_seq ?_
      refine wp_reg ?_
      refine L_pure 1 [(10, .bool false)] (by kernel_rfl) fun b => ?_
      refine wpL_nil ?_
      refine th_n ?_
      refine wp_ret ?_
      refine th_r ?_
      refine ret1 rfl rfl ?_
      obtain rfl := Option.some.inj hr
      have hst := (((hst.pull 2).pull 2).cut 2 1)
      exact hR _ hst
    · have hr := (if_neg (by rw [h]; exact Bool.false_ne_true)).symm.trans hr
      refine wp_skip ?_
      refine th_n ?_
      refine wp_seq ?_
      refine wp_reg ?_
      refine L_op rfl (O_bs (T := 32) [] #[] hst (by kernel_rfl) (by kernel_rfl) rfl fun p4 w hst => ?_)
      have hst := osl_of_blk0 (ecs := []) r_T_history_Op [] rfl (fun m => trivial) rfl hst
      refine L_pure 1 [(0, .slice a1 x1.length c1), (1, I x2), (2, I x3), (3, I x4), (4, .slice a2 x5.length c2), (11, .slice a10 y14.length c10), (14, .slice (some ⟨p4, 0, none⟩) 0 0)] (by kernel_rfl) fun b => ?_
      refine wpL_nil ?_
      refine th_n ?_
      refine wp_seq ?_
      refine wp_seq ?_
      refine wp_reg ?_
      refine L_pure 3 [(0, .slice a1 x1.length c1), (1, I x2), (2, I x3), (3, I x4), (4, .slice a2 x5.length c2), (11, .slice a10 y14.length c10), (14, .slice (some ⟨p4, 0, none⟩) 0 0), (41, .slice a10 y14.length c10), (42, I (y14.length : Int)), (43, I 0)] (by kernel_rfl) fun b => ?_
      refine wpL_nil ?_
      refine th_n ?_
      obtain ⟨y18, hy18, hk9⟩ := bnd hr
      clear hr
      refine Go.Hx.wp_cut (fun a w => ∃ (a13 : Option Addr) (c13 : Nat)(b : Nat → Value), a = mkF 108 b [(0, .slice a1 x1.length c1), (1, I x2), (2, I x3), (3, I x4), (11, .slice a10 y14.length c10), (14, .slice a13 y18.length c13)] ∧ St G w (osl r_T_history_Op 32 a13 c13 y18 :: osl r_T_history_Op 32 a10 c10 y14 :: dsl r_T_history_Op a1 c1 x1 :: dsl rB a2 c2 x5 :: F)) ?_ ?_
      · rintro _ w ⟨a13, c13, b, rfl, hst⟩
        have hr := hk9
        refine th_n ?_
        refine wp_seq ?_
        refine wp_reg ?_
        refine L_pure 1 [(0, .slice a1 x1.length c1), (1, I x2), (2, I x3), (3, I x4), (11, .slice a10 y14.length c10), (65, .slice a13 y18.length c13)] (by kernel_rfl) fun b => ?_
        obtain ⟨y21, hy21, hr⟩ := bnd hr
        refine L_op rfl (O_call (vs := #[.slice a13 y18.length c13]) Try.call9 (by kernel_rfl) (history_Check_ok k y18 a13 c13 y21 hst hy21 fun w hst => ?_))
        refine CK_ret rfl ?_
        refine L_pure 5 [(0, .slice a1 x1.length c1), (1, I x2), (2, I x3), (3, I x4), (11, .slice a10 y14.length c10), (17, .bool y21.1), (18, I y21.2)] (by kernel_rfl) fun b => ?_
        refine wpL_nil ?_
        refine th_n ?_
        refine wp_seq ?_
        obtain ⟨y22, hy22, hk12⟩ := bnd hr
        clear hr
        refine wp_seq_cut (fun a w => ∃ (b : Nat → Value), a = mkF 108 b [(0, .slice a1 x1.length c1), (1, I x2), (2, I x3), (3, I x4), (17, .bool y21.1), (18, I y21.2), (84, .bool y22)] ∧ St G w (osl r_T_history_Op 32 a13 c13 y18 :: osl r_T_history_Op 32 a10 c10 y14 :: dsl r_T_history_Op a1 c1 x1 :: dsl rB a2 c2 x5 :: F)) ?_ ?_
        · rintro _ w ⟨b, rfl, hst⟩
          have hr := hk12
          refine wp_cond_mkF (t := y22) rfl (fun h => ?_) (fun h => ?_)
          · have hr := (if_pos h).symm.trans hr
            obtain ⟨y23, hy23, hk13⟩ := bnd hr
            clear hr
            refine wp_seq_cut (fun a w => ∃ (b : Nat → Value), a = mkF 108 b [(10, .bool y23)] ∧ St G w (osl r_T_history_Op 32 a13 c13 y18 :: osl r_T_history_Op 32 a10 c10 y14 :: dsl r_T_history_Op a1 c1 x1 :: dsl rB a2 c2 x5 :: F)) ?_ ?_
            · rintro _ w ⟨b, rfl, hst⟩
              have hr := hk13
              refine wp_ret ?_
              refine th_r ?_
              refine ret1 rfl rfl ?_
              obtain rfl := Option.some.inj hr
              have hst := (((hst.pull 3).pull 3).cut 2 2)
              exact hR _ hst
            · have hr := hy23
              refine wp_reg ?_
              refine L_pure 3 [(17, .bool y21.1), (87, .bool (y21.2 == 0))] (by kernel_rfl) fun b => ?_
              by_cases h : (y21.2 == 0) = true
              · have hr := (if_pos h).symm.trans hr
                refine L_keep ((87, .bool (y21.2 == 0)) :: [(17, .bool y21.1)]) rfl fun b => ?_
                refine L_bool h ?_
                refine L_pure 3 [(10, .bool y21.1)] (by kernel_rfl) fun b => ?_
                refine wpL_nil ?_
                refine th_n ?_
                obtain rfl := Option.some.inj hr
                have hst := ((((hst.pull 3).pull 3).pull 3).pull 3)
                exact (kpX [(10, .bool y21.1)] rfl hst)
              · have hr := (if_neg h).symm.trans hr
                refine L_keep ((87, .bool (y21.2 == 0)) :: [(17, .bool y21.1)]) rfl fun b => ?_
                refine L_bool (eq_false_of_ne_true h) ?_
                refine L_pure 3 [(10, .bool false)] (by kernel_rfl) fun b => ?_
                refine wpL_nil ?_
                refine th_n ?_
                obtain rfl := Option.some.inj hr
                have hst := ((((hst.pull 3).pull 3).pull 3).pull 3)
                exact (kpX [(10, .bool false)] rfl hst)
          · have hr := (if_neg (by rw [h]; exact Bool.false_ne_true)).symm.trans hr
            refine wp_skip ?_
            refine th_n ?_
            refine wp_seq ?_
            refine wp_reg ?_
            refine L_pure 5 [(1, I x2), (2, I x3), (91, .slice a1 x1.length c1), (95, I (mn2 x4 (x1.length : Int)))] (by kernel_rfl) fun b => ?_
            obtain ⟨x11, hx6, hr⟩ := bnd hr
            refine L_op rfl (O_slice_d L22 (hst.pull 2) rfl rfl rfl hx6 rfl fun a15 c15 hst => ?_)
            refine L_pure 2 [(96, .slice a15 x11.length c15), (97, I x2), (98, I x3)] (by kernel_rfl) fun b => ?_
            obtain ⟨y24, hy24, hr⟩ := bnd hr
            refine L_op rfl (O_call (vs := #[.slice a15 x11.length c15, I x2, I x3]) Try.call8 (by kernel_rfl) (glacierlaw18_done_ok k x11 x2 x3 a15 c15 y24 hst hy24 fun a16 c16 w hst => ?_))
            refine CK_ret rfl ?_
            obtain ⟨y25, hy25, hr⟩ := bnd hr
            refine L_op rfl (O_call (vs := #[.slice a16 y24.length c16]) Try.call9 (by kernel_rfl) (history_Check_ok k y24 a16 c16 y25 hst hy25 fun w hst => ?_))
            refine CK_ret rfl ?_
            refine L_pure 5 [(19, .bool y25.1), (20, I y25.2)] (by kernel_rfl) fun b => ?_
            refine wpL_nil ?_
            refine th_n ?_
            obtain ⟨y26, hy26, hk14⟩ := bnd hr
            clear hr
            refine wp_seq_cut (fun a w => ∃ (b : Nat → Value), a = mkF 108 b [(10, .bool y26)] ∧ St G w (osl r_T_history_Op 32 a16 c16 y24 :: dsl r_T_history_Op a15 c15 x11 :: dsl r_T_history_Op a1 c1 x1 :: osl r_T_history_Op 32 a13 c13 y18 :: osl r_T_history_Op 32 a10 c10 y14 :: dsl rB a2 c2 x5 :: F)) ?_ ?_
            · rintro _ w ⟨b, rfl, hst⟩
              have hr := hk14
              refine wp_ret ?_
              refine ret1 rfl rfl ?_
              obtain rfl := Option.some.inj hr
              have hst := (((hst.pull 5).pull 3).cut 2 4)
              exact hR _ hst
            · have hr := hy26
              refine wp_reg ?_
              refine L_pure 3 [(19, .bool y25.1), (105, .bool (y25.2 == 0))] (by kernel_rfl) fun b => ?_
              by_cases h : (y25.2 == 0) = true
              · have hr := (if_pos h).symm.trans hr
                refine L_keep ((105, .bool (y25.2 == 0)) :: [(19, .bool y25.1)]) rfl fun b => ?_
                refine L_bool h ?_
                refine L_pure 3 [(10, .bool y25.1)] (by kernel_rfl) fun b => ?_
                refine wpL_nil ?_
                refine th_n ?_
                obtain rfl := Option.some.inj hr
                have hst := ((((((hst.pull 5).pull 5).pull 5).pull 5).pull 5).pull 5)
                exact (kpX [(10, .bool y25.1)] rfl hst)
              · have hr := (if_neg h).symm.trans hr
                refine L_keep ((105, .bool (y25.2 == 0)) :: [(19, .bool y25.1)]) rfl fun b => ?_
                refine L_bool (eq_false_of_ne_true h) ?_
                refine L_pure 3 [(10, .bool false)] (by kernel_rfl) fun b => ?_
                refine wpL_nil ?_
                refine th_n ?_
                obtain rfl := Option.some.inj hr
                have hst := ((((((hst.pull 5).pull 5).pull 5).pull 5).pull 5).pull 5)
                exact (kpX [(10, .bool false)] rfl hst)
        · have hr := hy22
          refine wp_reg ?_
          refine L_pure 3 [(0, .slice a1 x1.length c1), (1, I x2), (2, I x3), (3, I x4), (11, .slice a10 y14.length c10), (17, .bool y21.1), (18, I y21.2), (71, .bool (y21.2 != 0))] (by kernel_rfl) fun b => ?_
          by_cases h : (y21.2 != 0) = true
          · have hr := (if_pos h).symm.trans hr
            refine L_keep ((71, .bool (y21.2 != 0)) :: [(0, .slice a1 x1.length c1), (1, I x2), (2, I x3), (3, I x4), (11, .slice a10 y14.length c10), (17, .bool y21.1), (18, I y21.2)]) rfl fun b => ?_
            refine L_bool h ?_
            refine L_pure 13 [(0, .slice a1 x1.length c1), (1, I x2), (2, I x3), (3, I x4), (17, .bool y21.1), (18, I y21.2), (84, .bool true)] (by kernel_rfl) fun b => ?_
            refine wpL_nil ?_
            refine th_n ?_
            obtain rfl := Option.some.inj hr
            have hst := ((((hst.pull 3).pull 3).pull 3).pull 3)
            exact (kpX [(0, .slice a1 x1.length c1), (1, I x2), (2, I x3), (3, I x4), (17, .bool y21.1), (18, I y21.2), (84, .bool true)] rfl hst)
          · have hr := (if_neg h).symm.trans hr
            refine L_keep ((71, .bool (y21.2 != 0)) :: [(0, .slice a1 x1.length c1), (1, I x2), (2, I x3), (3, I x4), (11, .slice a10 y14.length c10), (17, .bool y21.1), (18, I y21.2)]) rfl fun b => ?_
            refine L_bool (eq_false_of_ne_true h) ?_
            refine L_pure 4 [(0, .slice a1 x1.length c1), (1, I x2), (2, I x3), (3, I x4), (11, .slice a10 y14.length c10), (17, .bool y21.1), (18, I y21.2), (75, .bool (!y21.1))] (by kernel_rfl) fun b => ?_
            by_cases h : (!y21.1) = true
            · have hr := (if_pos h).symm.trans hr
              refine L_keep ((75, .bool (!y21.1)) :: [(0, .slice a1 x1.length c1), (1, I x2), (2, I x3), (3, I x4), (11, .slice a10 y14.length c10), (17, .bool y21.1), (18, I y21.2)]) rfl fun b => ?_
              refine L_bool h ?_
              refine L_pure 9 [(0, .slice a1 x1.length c1), (1, I x2), (2, I x3), (3, I x4), (17, .bool y21.1), (18, I y21.2), (84, .bool true)] (by kernel_rfl) fun b => ?_
              refine wpL_nil ?_
              refine th_n ?_
              obtain rfl := Option.some.inj hr
              have hst := ((((hst.pull 3).pull 3).pull 3).pull 3)
              exact (kpX [(0, .slice a1 x1.length c1), (1, I x2), (2, I x3), (3, I x4), (17, .bool y21.1), (18, I y21.2), (84, .bool true)] rfl hst)
            · have hr := (if_neg h).symm.trans hr
              refine L_keep ((75, .bool (!y21.1)) :: [(0, .slice a1 x1.length c1), (1, I x2), (2, I x3), (3, I x4), (11, .slice a10 y14.length c10), (17, .bool y21.1), (18, I y21.2)]) rfl fun b => ?_
              refine L_bool (eq_false_of_ne_true h) ?_
              refine L_pure 4 [(0, .slice a1 x1.length c1), (1, I x2), (2, I x3), (3, I x4), (11, .slice a10 y14.length c10), (17, .bool y21.1), (18, I y21.2), (79, .bool (decide (x4 < 0)))] (by kernel_rfl) fun b => ?_
              by_cases h : (decide (x4 < 0)) = true
              · have hr := (if_pos h).symm.trans hr
                refine L_keep ((79, .bool (decide (x4 < 0))) :: [(0, .slice a1 x1.length c1), (1, I x2), (2, I x3), (3, I x4), (11, .slice a10 y14.length c10), (17, .bool y21.1), (18, I y21.2)]) rfl fun b => ?_
                refine L_bool h ?_
                refine L_pure 5 [(0, .slice a1 x1.length c1), (1, I x2), (2, I x3), (3, I x4), (17, .bool y21.1), (18, I y21.2), (84, .bool true)] (by kernel_rfl) fun b => ?_
                refine wpL_nil ?_
                refine th_n ?_
                obtain rfl := Option.some.inj hr
                have hst := ((((hst.pull 3).pull 3).pull 3).pull 3)
                exact (kpX [(0, .slice a1 x1.length c1), (1, I x2), (2, I x3), (3, I x4), (17, .bool y21.1), (18, I y21.2), (84, .bool true)] rfl hst)
              · have hr := (if_neg h).symm.trans hr
                refine L_keep ((79, .bool (decide (x4 < 0))) :: [(0, .slice a1 x1.length c1), (1, I x2), (2, I x3), (3, I x4), (11, .slice a10 y14.length c10), (17, .bool y21.1), (18, I y21.2)]) rfl fun b => ?_
                refine L_bool (eq_false_of_ne_true h) ?_
                refine L_pure 5 [(0, .slice a1 x1.length c1), (1, I x2), (2, I x3), (3, I x4), (17, .bool y21.1), (18, I y21.2), (84, .bool (decide (x4 > (y14.length : Int))))] (by kernel_rfl) fun b => ?_
                refine wpL_nil ?_
                refine th_n ?_
                obtain rfl := Option.some.inj hr
                have hst := ((((hst.pull 3).pull 3).pull 3).pull 3)
                exact (kpX [(0, .slice a1 x1.length c1), (1, I x2), (2, I x3), (3, I x4), (17, .bool y21.1), (18, I y21.2), (84, .bool (decide (x4 > (y14.length : Int))))] rfl hst)
      · have hst := ((((hst.pull 3).pull 3).pull 3).pull 3)
        refine wp_block ?_
        refine wp_loop_fuel (fun j a w => ∃ (v7 : (List T_history_Op)) (v8 : Int) (a11 : Option Addr) (c11 : Nat) (b : Nat → Value), a = mkF 108 b [(0, .slice a1 x1.length c1), (1, I x2), (2, I x3), (3, I x4), (4, .slice a2 x5.length c2), (11, .slice a10 y14.length c10), (14, .slice a11 v7.length c11), (41, .slice a10 y14.length c10), (42, I (y14.length : Int)), (43, I v8)] ∧ St G w (osl r_T_history_Op 32 a11 c11 v7 :: osl r_T_history_Op 32 a10 c10 y14 :: dsl r_T_history_Op a1 c1 x1 :: dsl rB a2 c2 x5 :: F) ∧ glacierlaw18_HistoryCan_l1 k x5 y14 j v7 v8 = some y18) (k := k) ⟨[], (0 : Int), (some ⟨p4, 0, none⟩), 0, (kpX [(0, .slice a1 x1.length c1), (1, I x2), (2, I x3), (3, I x4), (4, .slice a2 x5.length c2), (11, .slice a10 y14.length c10), (14, .slice (some ⟨p4, 0, none⟩) 0 0), (41, .slice a10 y14.length c10), (42, I (y14.length : Int)), (43, I 0)] rfl ⟨hst, hy18⟩)⟩ ?_ ?_
        · rintro _ _ ⟨_, _, _, _, _, _, _, h⟩
          rw [glacierlaw18_HistoryCan_l1] at h
          cases h
        · rintro j _ w ⟨v7, v8, a11, c11, b, rfl, hst, hr⟩
          rw [glacierlaw18_HistoryCan_l1] at hr
          refine wp_seq ?_
          refine wp_reg ?_
          refine L_pure 1 [(0, .slice a1 x1.length c1), (1, I x2), (2, I x3), (3, I x4), (4, .slice a2 x5.length c2), (11, .slice a10 y14.length c10), (14, .slice a11 v7.length c11), (41, .slice a10 y14.length c10), (42, I (y14.length : Int)), (43, I v8), (44, .bool (decide (v8 < (y14.length : Int))))] (by kernel_rfl) fun b => ?_
          refine wpL_nil ?_
          refine th_n ?_
          refine wp_seq ?_
          refine wp_cond_mkF (t := decide (v8 < (y14.length : Int))) rfl (fun h => ?_) (fun h => ?_)
          · have hr := (if_pos h).symm.trans hr
            refine wp_skip ?_
            refine th_n ?_
            refine wp_seq ?_
            refine wp_block ?_
            refine wp_seq ?_
            refine wp_reg ?_
            refine L_pure 1 [(0, .slice a1 x1.length c1), (1, I x2), (2, I x3), (3, I x4), (4, .slice a2 x5.length c2), (11, .slice a10 y14.length c10), (14, .slice a11 v7.length c11), (41, .slice a10 y14.length c10), (42, I (y14.length : Int)), (43, I v8), (45, I v8)] (by kernel_rfl) fun b => ?_
            obtain ⟨x9, hx4, hr⟩ := bnd hr
            refine L_op rfl (O_run (v := pt (ab a10) (ao a10 + v8.toNat * 8)) (w' := w) (R_ia L22 rfl rfl (osl_addr (hst.pull 1) hx4) (gt_some hx4).1 (gt_some hx4).2.1) rfl rfl ?_)
            obtain ⟨q3, hc3, hst⟩ := osl_cells (hst.pull 1) hx4
            refine L_op rfl (O_run (v := .agg #[I x9.Kind, S x9.Name, .int .u64 x9.Value, I x9.Start, I x9.End, I x9.Err, .int .u64 x9.Got, .slice q3.1 x9.Names.length q3.2]) (w' := w) (R_loadAt (off := ao a10 + v8.toNat * 8) (j := 0) hc3 rfl rfl) rfl rfl ?_)
            refine L_op rfl (O_alloc (i := Try.t32) (z := .agg #[I 0, S ([]), .int .u64 0, I 0, I 0, I 0, .int .u64 0, .slice none 0 0]) [I 0, S ([]), .int .u64 0, I 0, I 0, I 0, .int .u64 0, .slice none 0 0] hst rfl rfl rfl rfl fun p5 w hst => ?_)
            refine L_pure 1 [(0, .slice a1 x1.length c1), (1, I x2), (2, I x3), (3, I x4), (4, .slice a2 x5.length c2), (11, .slice a10 y14.length c10), (14, .slice a11 v7.length c11), (15, I v8), (16, pt p5 0), (41, .slice a10 y14.length c10), (42, I (y14.length : Int)), (43, I v8), (47, .agg #[I x9.Kind, S x9.Name, .int .u64 x9.Value, I x9.Start, I x9.End, I x9.Err, .int .u64 x9.Got, .slice q3.1 x9.Names.length q3.2])] (by kernel_rfl) fun b => ?_
            refine L_op rfl (O_store [I x9.Kind, S x9.Name, .int .u64 x9.Value, I x9.Start, I x9.End, I x9.Err, .int .u64 x9.Got, .slice q3.1 x9.Names.length q3.2] hst rfl rfl (by kernel_rfl) fun w hst => ?_)
            refine wpL_nil ?_
            refine th_n ?_
            obtain ⟨y19, hy19, hk10⟩ := bnd hr
            clear hr
            refine wp_seq_cut (fun a w => ∃ (b : Nat → Value), a = mkF 108 b [(0, .slice a1 x1.length c1), (1, I x2), (2, I x3), (3, I x4), (4, .slice a2 x5.length c2), (11, .slice a10 y14.length c10), (14, .slice a11 v7.length c11), (16, pt p5 0), (41, .slice a10 y14.length c10), (42, I (y14.length : Int)), (43, I v8)] ∧ St G w (blk p5 (cl [I x9.Kind, S x9.Name, .int .u64 x9.Value, I x9.Start, I y19, I x9.Err, .int .u64 x9.Got, .slice q3.1 x9.Names.length q3.2] 32) :: dsl rB a2 c2 x5 :: dsl rS q3.1 q3.2 x9.Names :: osl r_T_history_Op 32 a10 c10 y14 :: osl r_T_history_Op 32 a11 c11 v7 :: dsl r_T_history_Op a1 c1 x1 :: F)) ?_ ?_
            · rintro _ w ⟨b, rfl, hst⟩
              have hr := hk10
              refine wp_reg ?_
              refine L_pure 1 [(0, .slice a1 x1.length c1), (1, I x2), (2, I x3), (3, I x4), (4, .slice a2 x5.length c2), (11, .slice a10 y14.length c10), (16, pt p5 0), (41, .slice a10 y14.length c10), (42, I (y14.length : Int)), (43, I v8), (59, .slice a11 v7.length c11)] (by kernel_rfl) fun b => ?_
              refine L_op rfl (O_run (v := .agg #[I x9.Kind, S x9.Name, .int .u64 x9.Value, I x9.Start, I y19, I x9.Err, .int .u64 x9.Got, .slice q3.1 x9.Names.length q3.2]) (w' := w) (R_load hst rfl rfl) rfl rfl ?_)
              refine L_op rfl (O_bs (T := 32) [I x9.Kind, S x9.Name, .int .u64 x9.Value, I x9.Start, I y19, I x9.Err, .int .u64 x9.Got, .slice q3.1 x9.Names.length q3.2] #[(0, .agg #[I x9.Kind, S x9.Name, .int .u64 x9.Value, I x9.Start, I y19, I x9.Err, .int .u64 x9.Got, .slice q3.1 x9.Names.length q3.2])] hst (by kernel_rfl) (by kernel_rfl) rfl fun p6 w hst => ?_)
              have hst := (hst.pull 3).dup
              have hst := ((hst.pull 2).pull 1)
              have hst := osl_of_blk (ecs := [[I x9.Kind, S x9.Name, .int .u64 x9.Value, I x9.Start, I y19, I x9.Err, .int .u64 x9.Got, .slice q3.1 x9.Names.length q3.2]]) r_T_history_Op [(T_history_Op.mk x9.Kind x9.Name x9.Value x9.Start y19 x9.Err x9.Got x9.Names)] rfl (fun m h => ⟨⟨((q3.1, q3.2)), rfl, h⟩, trivial⟩) rfl hst
              obtain ⟨hb2, hr⟩ := chk hr
              refine L_op rfl (O_app_o L22 (hst.pull 5) rfl rfl hb2 rfl fun a14 c14 w hst => ?_)
              refine L_pure 1 [(0, .slice a1 x1.length c1), (1, I x2), (2, I x3), (3, I x4), (4, .slice a2 x5.length c2), (11, .slice a10 y14.length c10), (14, .slice a14 (v7 ++ ([(T_history_Op.mk x9.Kind x9.Name x9.Value x9.Start y19 x9.Err x9.Got x9.Names)])).length c14), (41, .slice a10 y14.length c10), (42, I (y14.length : Int)), (43, I v8)] (by kernel_rfl) fun b => ?_
              refine wpL_nil ?_
              refine ib_n (th_n ?_)
              refine wp_reg ?_
              refine L_pure 2 [(0, .slice a1 x1.length c1), (1, I x2), (2, I x3), (3, I x4), (4, .slice a2 x5.length c2), (11, .slice a10 y14.length c10), (14, .slice a14 (v7 ++ ([(T_history_Op.mk x9.Kind x9.Name x9.Value x9.Start y19 x9.Err x9.Got x9.Names)])).length c14), (41, .slice a10 y14.length c10), (42, I (y14.length : Int)), (43, I (IntKind.i64.wrap (v8 + 1)))] (by kernel_rfl) fun b => ?_
              refine wpL_nil ?_
              refine th_n ?_
              have hst := (((((hst.pull 4).pull 6).pull 6).pull 3).cut 4 3)
              exact ⟨(v7 ++ ([(T_history_Op.mk x9.Kind x9.Name x9.Value x9.Start y19 x9.Err x9.Got x9.Names)])), (IntKind.i64.wrap (v8 + 1)), a14, c14, (kpX [(0, .slice a1 x1.length c1), (1, I x2), (2, I x3), (3, I x4), (4, .slice a2 x5.length c2), (11, .slice a10 y14.length c10), (14, .slice a14 (v7 ++ ([(T_history_Op.mk x9.Kind x9.Name x9.Value x9.Start y19 x9.Err x9.Got x9.Names)])).length c14), (41, .slice a10 y14.length c10), (42, I (y14.length : Int)), (43, I (IntKind.i64.wrap (v8 + 1)))] rfl ⟨hst, hr⟩)⟩
            · have hr := hy19
              obtain ⟨y20, hy20, hk11⟩ := bnd hr
              clear hr
              refine wp_seq_cut (fun a w => ∃ (b : Nat → Value), a = mkF 108 b [(0, .slice a1 x1.length c1), (1, I x2), (2, I x3), (3, I x4), (4, .slice a2 x5.length c2), (11, .slice a10 y14.length c10), (14, .slice a11 v7.length c11), (16, pt p5 0), (41, .slice a10 y14.length c10), (42, I (y14.length : Int)), (43, I v8), (57, .bool y20)] ∧ St G w (dsl rB a2 c2 x5 :: blk p5 (cl [I x9.Kind, S x9.Name, .int .u64 x9.Value, I x9.Start, I x9.End, I x9.Err, .int .u64 x9.Got, .slice q3.1 x9.Names.length q3.2] 32) :: dsl rS q3.1 q3.2 x9.Names :: osl r_T_history_Op 32 a10 c10 y14 :: osl r_T_history_Op 32 a11 c11 v7 :: dsl r_T_history_Op a1 c1 x1 :: F)) ?_ ?_
              · rintro _ w ⟨b, rfl, hst⟩
                have hr := hk11
                refine wp_cond_mkF (t := y20) rfl (fun h => ?_) (fun h => ?_)
                · have hr := (if_pos h).symm.trans hr
                  refine wp_reg ?_
                  refine L_pure 1 [(0, .slice a1 x1.length c1), (1, I x2), (2, I x3), (3, I x4), (4, .slice a2 x5.length c2), (11, .slice a10 y14.length c10), (14, .slice a11 v7.length c11), (16, pt p5 0), (41, .slice a10 y14.length c10), (42, I (y14.length : Int)), (43, I v8), (58, pt p5 4)] (by kernel_rfl) fun b => ?_
                  refine L_op rfl (O_store [I x9.Kind, S x9.Name, .int .u64 x9.Value, I x9.Start, I (-1), I x9.Err, .int .u64 x9.Got, .slice q3.1 x9.Names.length q3.2] (hst.pull 1) rfl rfl (by kernel_rfl) fun w hst => ?_)
                  refine wpL_nil ?_
                  refine th_n ?_
                  obtain rfl := Option.some.inj hr
                  have hst := ((((((hst.pull 5).pull 5).pull 5).pull 5).pull 5).pull 5)
                  exact (kpX [(0, .slice a1 x1.length c1), (1, I x2), (2, I x3), (3, I x4), (4, .slice a2 x5.length c2), (11, .slice a10 y14.length c10), (14, .slice a11 v7.length c11), (16, pt p5 0), (41, .slice a10 y14.length c10), (42, I (y14.length : Int)), (43, I v8)] rfl hst)
                · have hr := (if_neg (by rw [h]; exact Bool.false_ne_true)).symm.trans hr
                  refine wp_skip ?_
                  refine th_n ?_
                  obtain rfl := Option.some.inj hr
                  have hst := ((((((hst.pull 5).pull 5).pull 5).pull 5).pull 4).pull 5)
                  exact (kpX [(0, .slice a1 x1.length c1), (1, I x2), (2, I x3), (3, I x4), (4, .slice a2 x5.length c2), (11, .slice a10 y14.length c10), (14, .slice a11 v7.length c11), (16, pt p5 0), (41, .slice a10 y14.length c10), (42, I (y14.length : Int)), (43, I v8)] rfl hst)
              · have hr := hy20
                refine wp_reg ?_
                refine L_pure 5 [(0, .slice a1 x1.length c1), (1, I x2), (2, I x3), (3, I x4), (4, .slice a2 x5.length c2), (11, .slice a10 y14.length c10), (14, .slice a11 v7.length c11), (15, I v8), (16, pt p5 0), (41, .slice a10 y14.length c10), (42, I (y14.length : Int)), (43, I v8), (52, .bool (decide (v8 < (x5.length : Int))))] (by kernel_rfl) fun b => ?_
                by_cases h : (decide (v8 < (x5.length : Int))) = true
                · have hr := (if_pos h).symm.trans hr
                  refine L_keep ((52, .bool (decide (v8 < (x5.length : Int)))) :: [(0, .slice a1 x1.length c1), (1, I x2), (2, I x3), (3, I x4), (4, .slice a2 x5.length c2), (11, .slice a10 y14.length c10), (14, .slice a11 v7.length c11), (15, I v8), (16, pt p5 0), (41, .slice a10 y14.length c10), (42, I (y14.length : Int)), (43, I v8)]) rfl fun b => ?_
                  refine L_bool h ?_
                  refine L_pure 2 [(0, .slice a1 x1.length c1), (1, I x2), (2, I x3), (3, I x4), (4, .slice a2 x5.length c2), (11, .slice a10 y14.length c10), (14, .slice a11 v7.length c11), (16, pt p5 0), (41, .slice a10 y14.length c10), (42, I (y14.length : Int)), (43, I v8), (52, .bool true), (53, .slice a2 x5.length c2), (54, I v8)] (by kernel_rfl) fun b => ?_
                  obtain ⟨x10, hx5, hr⟩ := bnd hr
                  refine L_op rfl (O_run (v := pt (ab a2) (ao a2 + v8.toNat * 1)) (w' := w) (R_ia L23 rfl rfl (dsl_addr (hst.pull 5) hx5) (gt_some hx5).1 (gt_some hx5).2.1) rfl rfl ?_)
                  obtain ⟨q4, hc4, hst⟩ := dsl_cells (hst.pull 5) hx5
                  have hst := hst.drop
                  refine L_op rfl (O_run (v := .bool x10) (w' := w) (R_loadAt (off := ao a2 + v8.toNat * 1) (j := 0) hc4 rfl rfl) rfl rfl ?_)
                  refine L_pure 1 [(0, .slice a1 x1.length c1), (1, I x2), (2, I x3), (3, I x4), (4, .slice a2 x5.length c2), (11, .slice a10 y14.length c10), (14, .slice a11 v7.length c11), (16, pt p5 0), (41, .slice a10 y14.length c10), (42, I (y14.length : Int)), (43, I v8), (57, .bool x10)] (by kernel_rfl) fun b => ?_
                  refine wpL_nil ?_
                  refine th_n ?_
                  obtain rfl := Option.some.inj hr
                  have hst := ((((((hst.pull 5).pull 5).pull 5).pull 5).pull 5).pull 5)
                  exact (kpX [(0, .slice a1 x1.length c1), (1, I x2), (2, I x3), (3, I x4), (4, .slice a2 x5.length c2), (11, .slice a10 y14.length c10), (14, .slice a11 v7.length c11), (16, pt p5 0), (41, .slice a10 y14.length c10), (42, I (y14.length : Int)), (43, I v8), (57, .bool x10)] rfl hst)
                · have hr := (if_neg h).symm.trans hr
                  refine L_keep ((52, .bool (decide (v8 < (x5.length : Int)))) :: [(0, .slice a1 x1.length c1), (1, I x2), (2, I x3), (3, I x4), (4, .slice a2 x5.length c2), (11, .slice a10 y14.length c10), (14, .slice a11 v7.length c11), (15, I v8), (16, pt p5 0), (41, .slice a10 y14.length c10), (42, I (y14.length : Int)), (43, I v8)]) rfl fun b => ?_
                  refine L_bool (eq_false_of_ne_true h) ?_
                  refine L_pure 5 [(0, .slice a1 x1.length c1), (1, I x2), (2, I x3), (3, I x4), (4, .slice a2 x5.length c2), (11, .slice a10 y14.length c10), (14, .slice a11 v7.length c11), (16, pt p5 0), (41, .slice a10 y14.length c10), (42, I (y14.length : Int)), (43, I v8), (57, .bool false)] (by kernel_rfl) fun b => ?_
                  refine wpL_nil ?_
                  refine th_n ?_
                  obtain rfl := Option.some.inj hr
                  have hst := ((((((hst.pull 4).pull 4).pull 4).pull 4).pull 4).pull 5)
                  exact (kpX [(0, .slice a1 x1.length c1), (1, I x2), (2, I x3), (3, I x4), (4, .slice a2 x5.length c2), (11, .slice a10 y14.length c10), (14, .slice a11 v7.length c11), (16, pt p5 0), (41, .slice a10 y14.length c10), (42, I (y14.length : Int)), (43, I v8), (57, .bool false)] rfl hst)
          · have hr := (if_neg (by rw [h]; exact Bool.false_ne_true)).symm.trans hr
            refine wp_exit ?_
            refine th_x (th_x (ib_x (th_n ?_)))
            obtain rfl := Option.some.inj hr
            have hst := ((((hst.pull 3).pull 3).pull 3).pull 3)
            exact ⟨a11, c11, (kpX [(0, .slice a1 x1.length c1), (1, I x2), (2, I x3), (3, I x4), (11, .slice a10 y14.length c10), (14, .slice a11 v7.length c11)] rfl hst)⟩
  · have hr := hy16
    refine wp_reg ?_
    obtain ⟨y17, hy17, hr⟩ := bnd hr
    refine L_op rfl (O_call (vs := #[]) Try.call10 (by kernel_rfl) (glacierlaw18_awake_ok k y17 hst hy17 fun w hst => ?_))
    refine CK_ret rfl ?_
    refine L_pure 2 [(0, .slice a1 x1.length c1), (1, I x2), (2, I x3), (3, I x4), (4, .slice a2 x5.length c2), (11, .slice a10 y14.length c10), (12, .bool y15.1), (13, I y15.2), (32, .bool (!y17))] (by kernel_rfl) fun b => ?_
    by_cases h : (!y17) = true
    · have hr := (if_pos h).symm.trans hr
      refine L_keep ((32, .bool (!y17)) :: [(0, .slice a1 x1.length c1), (1, I x2), (2, I x3), (3, I x4), (4, .slice a2 x5.length c2), (11, .slice a10 y14.length c10), (12, .bool y15.1), (13, I y15.2)]) rfl fun b => ?_
      refine L_bool h ?_
      refine L_pure 7 [(0, .slice a1 x1.length c1), (1, I x2), (2, I x3), (3, I x4), (4, .slice a2 x5.length c2), (11, .slice a10 y14.length c10), (39, .bool true)] (by kernel_rfl) fun b => ?_
      refine wpL_nil ?_
      refine th_n ?_
      obtain rfl := Option.some.inj hr
      have hst := (((hst.pull 2).pull 2).pull 2)
      exact (kpX [(0, .slice a1 x1.length c1), (1, I x2), (2, I x3), (3, I x4), (4, .slice a2 x5.length c2), (11, .slice a10 y14.length c10), (39, .bool true)] rfl hst)
    · have hr := (if_neg h).symm.trans hr
      refine L_keep ((32, .bool (!y17)) :: [(0, .slice a1 x1.length c1), (1, I x2), (2, I x3), (3, I x4), (4, .slice a2 x5.length c2), (11, .slice a10 y14.length c10), (12, .bool y15.1), (13, I y15.2)]) rfl fun b => ?_
      refine L_bool (eq_false_of_ne_true h) ?_
      refine L_pure 4 [(0, .slice a1 x1.length c1), (1, I x2), (2, I x3), (3, I x4), (4, .slice a2 x5.length c2), (11, .slice a10 y14.length c10), (12, .bool y15.1), (36, .bool (y15.2 != 0))] (by kernel_rfl) fun b => ?_
      by_cases h : (y15.2 != 0) = true
      · have hr := (if_pos h).symm.trans hr
        refine L_keep ((36, .bool (y15.2 != 0)) :: [(0, .slice a1 x1.length c1), (1, I x2), (2, I x3), (3, I x4), (4, .slice a2 x5.length c2), (11, .slice a10 y14.length c10), (12, .bool y15.1)]) rfl fun b => ?_
        refine L_bool h ?_
        refine L_pure 3 [(0, .slice a1 x1.length c1), (1, I x2), (2, I x3), (3, I x4), (4, .slice a2 x5.length c2), (11, .slice a10 y14.length c10), (39, .bool true)] (by kernel_rfl) fun b => ?_
        refine wpL_nil ?_
        refine th_n ?_
        obtain rfl := Option.some.inj hr
        have hst := (((hst.pull 2).pull 2).pull 2)
        exact (kpX [(0, .slice a1 x1.length c1), (1, I x2), (2, I x3), (3, I x4), (4, .slice a2 x5.length c2), (11, .slice a10 y14.length c10), (39, .bool true)] rfl hst)
      · have hr := (if_neg h).symm.trans hr
        refine L_keep ((36, .bool (y15.2 != 0)) :: [(0, .slice a1 x1.length c1), (1, I x2), (2, I x3), (3, I x4), (4, .slice a2 x5.length c2), (11, .slice a10 y14.length c10), (12, .bool y15.1)]) rfl fun b => ?_
        refine L_bool (eq_false_of_ne_true h) ?_
        refine L_pure 3 [(0, .slice a1 x1.length c1), (1, I x2), (2, I x3), (3, I x4), (4, .slice a2 x5.length c2), (11, .slice a10 y14.length c10), (39, .bool (!y15.1))] (by kernel_rfl) fun b => ?_
        refine wpL_nil ?_
        refine th_n ?_
        obtain rfl := Option.some.inj hr
        have hst := (((hst.pull 2).pull 2).pull 2)
        exact (kpX [(0, .slice a1 x1.length c1), (1, I x2), (2, I x3), (3, I x4), (4, .slice a2 x5.length c2), (11, .slice a10 y14.length c10), (39, .bool (!y15.1))] rfl hst)
end Go.Proofs.Ytkbhnofclgibfaa
