/- TPR: the rows out of their plain laws; printed by hx.py (own work). -/
import Derived.Test.YtpmbfngmdhkpaaaTP
import Derived.Test.YtpmbfngmdhkpaaaHxR
import Derived.Test.YtpmbfngmdhkpaaaRows
namespace Go.Proofs.Ytpmbfngmdhkpaaa
open Go.Hx Go.RowKit Go.ChangeShapes Go.WideShapes Go.ChangeAt
theorem Try_own : ownKnob Try.prog.godebug = none := by kernel_rfl
theorem Try_laidOut : laidOutB Try.prog = true := by kernel_rfl
theorem Q3 : Try.prog.cellsOf 3 = 1 := by kernel_rfl
theorem Q23 : Try.prog.cellsOf 23 = 1 := by kernel_rfl
def ok_T_queue_Req (x : T_queue_Req) : Prop := okI .i64 x.ID ∧ okI .u64 x.Blob ∧ okI .i64 x.Vol ∧ okI .i64 x.At
theorem rd_T_queue_Req : Rd Try.prog 25 r_T_queue_Req ok_T_queue_Req := by
  intro H enc W base spare held fuel cs d ps h
  obtain ⟨k, xs, rfl, hl, hm⟩ := rd_struct Try.underlying25 h
  obtain ⟨_, m0, h0, hm, _⟩ := mapM_cons_some hm
  obtain ⟨_, m1, h1, hm, _⟩ := mapM_cons_some hm
  obtain ⟨_, m2, h2, hm, _⟩ := mapM_cons_some hm
  obtain ⟨_, m3, h3, hm, _⟩ := mapM_cons_some hm
  have hl : cs.length = 4 := hl.trans (by kernel_rfl)
  obtain ⟨x0, y0, e0, p0, k0⟩ := (rd_I (k := .i64) Try.underlying3) enc W base spare held k _ _ _ h0
  simp only [Q3] at e0
  obtain ⟨x1, y1, e1, p1, k1⟩ := (rd_I (k := .u64) Try.underlying23) enc W base spare held k _ _ _ h1
  simp only [Q23] at e1
  obtain ⟨x2, y2, e2, p2, k2⟩ := (rd_I (k := .i64) Try.underlying3) enc W base spare held k _ _ _ h2
  simp only [Q3] at e2
  obtain ⟨x3, y3, e3, p3, k3⟩ := (rd_I (k := .i64) Try.underlying3) enc W base spare held k _ _ _ h3
  simp only [Q3] at e3
  have hc : cs = [(cs.drop 0).take 1, (cs.drop 1).take 1, (cs.drop 2).take 1, (cs.drop 3).take 1].flatten := cut_all [1, 1, 1, 1] cs hl
  rw [e0, e1, e2, e3] at hc
  exact ⟨⟨x0, x1, x2, x3⟩, (), hc, trivial, k0, k1, k2, k3⟩
theorem Q25 : Try.prog.cellsOf 25 = 4 := by kernel_rfl
def ok_T_glacierlaw16_Act (x : T_glacierlaw16_Act) : Prop := okI .i64 x.Kind ∧ okI .i64 x.N ∧ okI .i64 x.M ∧ ok_T_queue_Req x.R
theorem rd_T_glacierlaw16_Act : Rd Try.prog 44 r_T_glacierlaw16_Act ok_T_glacierlaw16_Act := by
  intro H enc W base spare held fuel cs d ps h
  obtain ⟨k, xs, rfl, hl, hm⟩ := rd_struct Try.underlying44 h
  obtain ⟨_, m0, h0, hm, _⟩ := mapM_cons_some hm
  obtain ⟨_, m1, h1, hm, _⟩ := mapM_cons_some hm
  obtain ⟨_, m2, h2, hm, _⟩ := mapM_cons_some hm
  obtain ⟨_, m3, h3, hm, _⟩ := mapM_cons_some hm
  have hl : cs.length = 7 := hl.trans (by kernel_rfl)
  obtain ⟨x0, y0, e0, p0, k0⟩ := (rd_I (k := .i64) Try.underlying3) enc W base spare held k _ _ _ h0
  simp only [Q3] at e0
  obtain ⟨x1, y1, e1, p1, k1⟩ := (rd_I (k := .i64) Try.underlying3) enc W base spare held k _ _ _ h1
  simp only [Q3] at e1
  obtain ⟨x2, y2, e2, p2, k2⟩ := (rd_I (k := .i64) Try.underlying3) enc W base spare held k _ _ _ h2
  simp only [Q3] at e2
  obtain ⟨x3, y3, e3, p3, k3⟩ := rd_T_queue_Req enc W base spare held k _ _ _ h3
  simp only [Q25] at e3
  have hc : cs = [(cs.drop 0).take 1, (cs.drop 1).take 1, (cs.drop 2).take 1, (cs.drop 3).take 4].flatten := cut_all [1, 1, 1, 4] cs hl
  rw [e0, e1, e2, e3] at hc
  exact ⟨⟨x0, x1, x2, x3⟩, (), hc, trivial, k0, k1, k2, k3⟩
set_option maxRecDepth 100000 in
set_option maxHeartbeats 4000000 in
theorem queuePlays_row (plain : ∀ (x0 : (List T_glacierlaw16_Act)), okSl (ok_T_glacierlaw16_Act) x0 → ∃ k, glacierlaw16_QueuePlays k x0 = some true) : Rows.QueuePlaysSaid := by
  have lifted : ∀ (os : Os) (_started : os.Started) (H : Type) (enc : TypeId × Value → H), ReturnsInHanded {} Try.checked os 6 .any (Rows.queuePlaysSpec.pre6 enc Try.prog Try.f6 Rows.queuePlaysRow.domain false) (Rows.queuePlaysSpec.post enc Try.prog Try.f6 false true false false) := by
    intro os started H enc
    refine returnsInHanded_of_change (C := Try.checked) Try_own started (by kernel_rfl) Try.func6 (ChangeSpec.witness6 (enc := enc) (C := Try.checked) false ⟨#[], #[.slice none 0 0], []⟩ 8 (by kernel_rfl) (by kernel_rfl) (by kernel_rfl) (by kernel_rfl)) ?_
    intro W base args ds gs before hval0 hW hcnd _
    have hval : ∀ (j : Nat) t v, Try.f6.params[j]? = some t → args[j]? = some v → Value.okWide Try.prog W .any base t v := hval0
    have hW' := hW
    obtain ⟨p, q, hA0, hV, hbf, hfz, hnd⟩ := hW
    have hA : DataW.TrodAll enc Try.prog W 0 (fun _ => true) true Try.f6.params.toList args.toList ds p := hA0
    rw [Try.params6] at hA hval
    obtain ⟨v0, _, d0, _, p0, _, ha, rfl, rfl, h0, hA⟩ := trodAll_cons hA
    obtain ⟨rfl, rfl, rfl⟩ := trodAll_nil hA
    obtain rfl : args = #[v0] := by cases args; simpa using ha
    obtain ⟨rfl, rfl⟩ := trodVars_none hV
    obtain ⟨_, g0⟩ := id h0
    obtain ⟨x0, y0, e0, f0, k0⟩ := (rd_Sl L41 rfl (by decide) rd_T_glacierlaw16_Act) enc W _ _ _ _ _ _ _ g0
    rw [one_of_wide Try.underlying41 rfl (hval 0 41 v0 rfl rfl)] at e0
    obtain rfl : v0 = _ := (List.cons.inj e0).1
    obtain ⟨k, hk⟩ := plain x0 k0
    refine glacierlaw16_QueuePlays_ok (G := W) (F := []) k x0 y0.1 y0.2 true (st_ground_fct f0 (st_ground W)) hk ?_
    intro w' hst
    have hb := St.below hst
    have hlt := fun x hx => hW'.lt x hx
    refine ⟨_, rfl, post_under (pa := p0 ++ ([])) (pv := []) hW' (fun b sp hd => trodAll_mk1 (shut_bool Try.underlying4 true)) (fun sp hsp => ?_) (fun _ _ => rfl) hbf hb (ok_one (by kernel_rfl) rfl (okWide_bool_mk Try.underlying4 true))⟩
    exact (tc_mk (WideElems.Trod_stays Try_laidOut (by kernel_rfl) (of_decide_eq_true (by kernel_rfl)) h0 (fun x hx => hb.same (hlt x (by rw [hbf]; simp [hx]))) (fun x hx => hsp x (by rw [hbf]; simp [hx]))) trodAll_mk0)
  exact OpenClaim.holds_of_wide 6 Try.f6 rfl rfl rfl rfl rfl rfl rfl ⟨rfl, rfl, rfl, rfl, rfl⟩ rfl rfl rfl rfl rfl (by kernel_rfl) Try.func6 (by kernel_rfl) (of_decide_eq_true (by kernel_rfl)) (by unfold Func.isWrapper; rw [if_neg (by decide +kernel)]; exact ⟨rfl, rfl⟩) (fun os started H enc _ => lifted os started H enc)
end Go.Proofs.Ytpmbfngmdhkpaaa
