/- TAR: the rows out of their plain laws; printed by hx.py (own work). -/
import Derived.Test.YtpmbfngmdhkpaaaTA
import Derived.Test.YtpmbfngmdhkpaaaHxR
import Derived.Test.YtpmbfngmdhkpaaaRows
namespace Go.Proofs.Ytpmbfngmdhkpaaa
open Go.Hx Go.RowKit Go.ChangeShapes Go.WideShapes Go.ChangeAt
theorem Try_own : ownKnob Try.prog.godebug = none := by kernel_rfl
theorem Try_laidOut : laidOutB Try.prog = true := by kernel_rfl
theorem Q3 : Try.prog.cellsOf 3 = 1 := by kernel_rfl
theorem Q23 : Try.prog.cellsOf 23 = 1 := by kernel_rfl
def ok_T_queue_Req (x : T_queue_Req) : Prop := okI .i64 x.ID ∧ okI .u64 x.Blob ∧ okI .i64 x.Vol ∧ okI .i64 x.At
theorem rd_T_queue_Req : Rd Try.prog 25 r_T_queue_Req ok_T_queue_Req := by
  intro H enc W base spare held fuel cs d ps h
  obtain ⟨k, xs, rfl, hl, hm⟩ := rd_struct Try.underlying25 h
  obtain ⟨_, m0, h0, hm, _⟩ := mapM_cons_some hm
  obtain ⟨_, m1, h1, hm, _⟩ := mapM_cons_some hm
  obtain ⟨_, m2, h2, hm, _⟩ := mapM_cons_some hm
  obtain ⟨_, m3, h3, hm, _⟩ := mapM_cons_some hm
  have hl : cs.length = 4 := hl.trans (by kernel_rfl)
  obtain ⟨x0, y0, e0, p0, k0⟩ := (rd_I (k := .i64) Try.underlying3) enc W base spare held k _ _ _ h0
  simp only [Q3] at e0
  obtain ⟨x1, y1, e1, p1, k1⟩ := (rd_I (k := .u64) Try.underlying23) enc W base spare held k _ _ _ h1
  simp only [Q23] at e1
  obtain ⟨x2, y2, e2, p2, k2⟩ := (rd_I (k := .i64) Try.underlying3) enc W base spare held k _ _ _ h2
  simp only [Q3] at e2
  obtain ⟨x3, y3, e3, p3, k3⟩ := (rd_I (k := .i64) Try.underlying3) enc W base spare held k _ _ _ h3
  simp only [Q3] at e3
  have hc : cs = [(cs.drop 0).take 1, (cs.drop 1).take 1, (cs.drop 2).take 1, (cs.drop 3).take 1].flatten := cut_all [1, 1, 1, 1] cs hl
  rw [e0, e1, e2, e3] at hc
  exact ⟨⟨x0, x1, x2, x3⟩, (), hc, trivial, k0, k1, k2, k3⟩
set_option maxRecDepth 100000 in
set_option maxHeartbeats 4000000 in
theorem queueAll_row (plain : ∀ (x0 : (List T_queue_Req)) (x1 : (List Int)) (x2 : (List Int)), okSl (ok_T_queue_Req) x0 → okSl (okI .i64) x1 → okSl (okI .i64) x2 → ∃ k, glacierlaw16_QueueAll k x0 x1 x2 = some true) : Rows.QueueAllSaid := by
  have lifted : ∀ (os : Os) (_started : os.Started) (H : Type) (enc : TypeId × Value → H), ReturnsInHanded {} Try.checked os 5 .any (Rows.queueAllSpec.pre6 enc Try.prog Try.f5 Rows.queueAllRow.domain false) (Rows.queueAllSpec.post enc Try.prog Try.f5 false true false false) := by
    intro os started H enc
    refine returnsInHanded_of_change (C := Try.checked) Try_own started (by kernel_rfl) Try.func5 (ChangeSpec.witness6 (enc := enc) (C := Try.checked) false ⟨#[], #[.slice none 0 0, .slice none 0 0, .slice none 0 0], []⟩ 8 (by kernel_rfl) (by kernel_rfl) (by kernel_rfl) (by kernel_rfl)) ?_
    intro W base args ds gs before hval0 hW hcnd _
    have hval : ∀ (j : Nat) t v, Try.f5.params[j]? = some t → args[j]? = some v → Value.okWide Try.prog W .any base t v := hval0
    have hW' := hW
    obtain ⟨p, q, hA0, hV, hbf, hfz, hnd⟩ := hW
    have hA : DataW.TrodAll enc Try.prog W 0 (fun _ => true) true Try.f5.params.toList args.toList ds p := hA0
    rw [Try.params5] at hA hval
    obtain ⟨v0, _, d0, _, p0, _, ha, rfl, rfl, h0, hA⟩ := trodAll_cons hA
    obtain ⟨v1, _, d1, _, p1, _, rfl, rfl, rfl, h1, hA⟩ := trodAll_cons hA
    obtain ⟨v2, _, d2, _, p2, _, rfl, rfl, rfl, h2, hA⟩ := trodAll_cons hA
    obtain ⟨rfl, rfl, rfl⟩ := trodAll_nil hA
    obtain rfl : args = #[v0, v1, v2] := by cases args; simpa using ha
    obtain ⟨rfl, rfl⟩ := trodVars_none hV
    obtain ⟨_, g0⟩ := id h0
    obtain ⟨x0, y0, e0, f0, k0⟩ := (rd_Sl L22 rfl (by decide) rd_T_queue_Req) enc W _ _ _ _ _ _ _ g0
    rw [one_of_wide Try.underlying22 rfl (hval 0 22 v0 rfl rfl)] at e0
    obtain rfl : v0 = _ := (List.cons.inj e0).1
    obtain ⟨_, g1⟩ := id h1
    obtain ⟨x1, y1, e1, f1, k1⟩ := (rd_Sl L26 rfl (by decide) (rd_I (k := .i64) Try.underlying3)) enc W _ _ _ _ _ _ _ g1
    rw [one_of_wide Try.underlying26 rfl (hval 1 26 v1 rfl rfl)] at e1
    obtain rfl : v1 = _ := (List.cons.inj e1).1
    obtain ⟨_, g2⟩ := id h2
    obtain ⟨x2, y2, e2, f2, k2⟩ := (rd_Sl L26 rfl (by decide) (rd_I (k := .i64) Try.underlying3)) enc W _ _ _ _ _ _ _ g2
    rw [one_of_wide Try.underlying26 rfl (hval 2 26 v2 rfl rfl)] at e2
    obtain rfl : v2 = _ := (List.cons.inj e2).1
    obtain ⟨k, hk⟩ := plain x0 x1 x2 k0 k1 k2
    refine glacierlaw16_QueueAll_ok (G := W) (F := []) k x0 x1 x2 y0.1 y0.2 y1.1 y1.2 y2.1 y2.2 true (st_ground_fct f0 (st_ground_fct f1 (st_ground_fct f2 (st_ground W)))) hk ?_
    intro w' hst
    have hb := St.below hst
    have hlt := fun x hx => hW'.lt x hx
    refine ⟨_, rfl, post_under (pa := p0 ++ (p1 ++ (p2 ++ ([])))) (pv := []) hW' (fun b sp hd => trodAll_mk1 (shut_bool Try.underlying4 true)) (fun sp hsp => ?_) (fun _ _ => rfl) hbf hb (ok_one (by kernel_rfl) rfl (okWide_bool_mk Try.underlying4 true))⟩
    exact (tc_mk (WideElems.Trod_stays Try_laidOut (by kernel_rfl) (of_decide_eq_true (by kernel_rfl)) h0 (fun x hx => hb.same (hlt x (by rw [hbf]; simp [hx]))) (fun x hx => hsp x (by rw [hbf]; simp [hx]))) (tc_mk (WideElems.Trod_stays Try_laidOut (by kernel_rfl) (of_decide_eq_true (by kernel_rfl)) h1 (fun x hx => hb.same (hlt x (by rw [hbf]; simp [hx]))) (fun x hx => hsp x (by rw [hbf]; simp [hx]))) (tc_mk (WideElems.Trod_stays Try_laidOut (by kernel_rfl) (of_decide_eq_true (by kernel_rfl)) h2 (fun x hx => hb.same (hlt x (by rw [hbf]; simp [hx]))) (fun x hx => hsp x (by rw [hbf]; simp [hx]))) trodAll_mk0)))
  exact OpenClaim.holds_of_wide 5 Try.f5 rfl rfl rfl rfl rfl rfl rfl ⟨rfl, rfl, rfl, rfl, rfl⟩ rfl rfl rfl rfl rfl (by kernel_rfl) Try.func5 (by kernel_rfl) (of_decide_eq_true (by kernel_rfl)) (by unfold Func.isWrapper; rw [if_neg (by decide +kernel)]; exact ⟨rfl, rfl⟩) (fun os started H enc _ => lifted os started H enc)
end Go.Proofs.Ytpmbfngmdhkpaaa
