/- ZCR: the rows out of their plain laws; printed by hx.py (own work). -/
import Derived.Test.YtkbhnofclgibfaaZC
import Derived.Test.YtkbhnofclgibfaaHxR
import Derived.Test.YtkbhnofclgibfaaRows
namespace Go.Proofs.Ytkbhnofclgibfaa
open Go.Hx Go.RowKit Go.ChangeShapes Go.WideShapes Go.ChangeAt
theorem Try_own : ownKnob Try.prog.godebug = none := by kernel_rfl
theorem Try_laidOut : laidOutB Try.prog = true := by kernel_rfl
theorem Q3 : Try.prog.cellsOf 3 = 1 := by kernel_rfl
theorem Q9 : Try.prog.cellsOf 9 = 1 := by kernel_rfl
theorem Q29 : Try.prog.cellsOf 29 = 1 := by kernel_rfl
theorem Q25 : Try.prog.cellsOf 25 = 1 := by kernel_rfl
theorem Q30 : Try.prog.cellsOf 30 = 1 := by kernel_rfl
def ok_T_history_Op (x : T_history_Op) : Prop := okI .i64 x.Kind ∧ okS x.Name ∧ okI .u64 x.Value ∧ okI .i64 x.Start ∧ okI .i64 x.End ∧ okI .i64 x.Err ∧ okI .u64 x.Got ∧ okSl (okS) x.Names
theorem rd_T_history_Op : Rd Try.prog 32 r_T_history_Op ok_T_history_Op := by
  intro H enc W base spare held fuel cs d ps h
  obtain ⟨k, xs, rfl, hl, hm⟩ := rd_struct Try.underlying32 h
  obtain ⟨_, m0, h0, hm, _⟩ := mapM_cons_some hm
  obtain ⟨_, m1, h1, hm, _⟩ := mapM_cons_some hm
  obtain ⟨_, m2, h2, hm, _⟩ := mapM_cons_some hm
  obtain ⟨_, m3, h3, hm, _⟩ := mapM_cons_some hm
  obtain ⟨_, m4, h4, hm, _⟩ := mapM_cons_some hm
  obtain ⟨_, m5, h5, hm, _⟩ := mapM_cons_some hm
  obtain ⟨_, m6, h6, hm, _⟩ := mapM_cons_some hm
  obtain ⟨_, m7, h7, hm, _⟩ := mapM_cons_some hm
  have hl : cs.length = 8 := hl.trans (by kernel_rfl)
  obtain ⟨x0, y0, e0, p0, k0⟩ := (rd_I (k := .i64) Try.underlying3) enc W base spare held k _ _ _ h0
  simp only [Q3] at e0
  obtain ⟨x1, y1, e1, p1, k1⟩ := (rd_S Try.underlying9) enc W base spare held k _ _ _ h1
  simp only [Q9] at e1
  obtain ⟨x2, y2, e2, p2, k2⟩ := (rd_I (k := .u64) Try.underlying29) enc W base spare held k _ _ _ h2
  simp only [Q29] at e2
  obtain ⟨x3, y3, e3, p3, k3⟩ := (rd_I (k := .i64) Try.underlying3) enc W base spare held k _ _ _ h3
  simp only [Q3] at e3
  obtain ⟨x4, y4, e4, p4, k4⟩ := (rd_I (k := .i64) Try.underlying3) enc W base spare held k _ _ _ h4
  simp only [Q3] at e4
  obtain ⟨x5, y5, e5, p5, k5⟩ := (rd_I (k := .i64) Try.underlying25) enc W base spare held k _ _ _ h5
  simp only [Q25] at e5
  obtain ⟨x6, y6, e6, p6, k6⟩ := (rd_I (k := .u64) Try.underlying29) enc W base spare held k _ _ _ h6
  simp only [Q29] at e6
  obtain ⟨x7, y7, e7, p7, k7⟩ := (rd_Sl L30 rfl (by decide) (rd_S Try.underlying9)) enc W base spare held k _ _ _ h7
  simp only [Q30] at e7
  have hc : cs = [(cs.drop 0).take 1, (cs.drop 1).take 1, (cs.drop 2).take 1, (cs.drop 3).take 1, (cs.drop 4).take 1, (cs.drop 5).take 1, (cs.drop 6).take 1, (cs.drop 7).take 1].flatten := cut_all [1, 1, 1, 1, 1, 1, 1, 1] cs hl
  rw [e0, e1, e2, e3, e4, e5, e6, e7] at hc
  exact ⟨⟨x0, x1, x2, x3, x4, x5, x6, x7⟩, (y7), hc, p7, k0, k1, k2, k3, k4, k5, k6, k7⟩
set_option maxRecDepth 100000 in
set_option maxHeartbeats 4000000 in
theorem historyCan_row (plain : ∀ (x0 : (List T_history_Op)) (x1 : Int) (x2 : Int) (x3 : Int) (x4 : (List Bool)), okSl (ok_T_history_Op) x0 → okI .i64 x1 → okI .i64 x2 → okI .i64 x3 → okSl (fun _ => True) x4 → ∃ k, glacierlaw18_HistoryCan k x0 x1 x2 x3 x4 = some true) : Rows.HistoryCanSaid := by
  have lifted : ∀ (os : Os) (_started : os.Started) (H : Type) (enc : TypeId × Value → H), ReturnsInHanded {} Try.checked os 3 .any (Rows.historyCanSpec.pre6 enc Try.prog Try.f3 Rows.historyCanRow.domain false) (Rows.historyCanSpec.post enc Try.prog Try.f3 false true false false) := by
    intro os started H enc
    refine returnsInHanded_of_change (C := Try.checked) Try_own started (by kernel_rfl) Try.func3 (ChangeSpec.witness6 (enc := enc) (C := Try.checked) false ⟨#[], #[.slice none 0 0, .int .i64 0, .int .i64 0, .int .i64 0, .slice none 0 0], []⟩ 8 (by kernel_rfl) (by kernel_rfl) (by kernel_rfl) (by kernel_rfl)) ?_
    intro W base args ds gs before hval0 hW hcnd _
    have hval : ∀ (j : Nat) t v, Try.f3.params[j]? = some t → args[j]? = some v → Value.okWide Try.prog W .any base t v := hval0
    have hW' := hW
    obtain ⟨p, q, hA0, hV, hbf, hfz, hnd⟩ := hW
    have hA : DataW.TrodAll enc Try.prog W 0 (fun _ => true) true Try.f3.params.toList args.toList ds p := hA0
    rw [Try.params3] at hA hval
    obtain ⟨v0, _, d0, _, p0, _, ha, rfl, rfl, h0, hA⟩ := trodAll_cons hA
    obtain ⟨v1, _, d1, _, p1, _, rfl, rfl, rfl, h1, hA⟩ := trodAll_cons hA
    obtain ⟨v2, _, d2, _, p2, _, rfl, rfl, rfl, h2, hA⟩ := trodAll_cons hA
    obtain ⟨v3, _, d3, _, p3, _, rfl, rfl, rfl, h3, hA⟩ := trodAll_cons hA
    obtain ⟨v4, _, d4, _, p4, _, rfl, rfl, rfl, h4, hA⟩ := trodAll_cons hA
    obtain ⟨rfl, rfl, rfl⟩ := trodAll_nil hA
    obtain rfl : args = #[v0, v1, v2, v3, v4] := by cases args; simpa using ha
    obtain ⟨rfl, rfl⟩ := trodVars_none hV
    obtain ⟨_, g0⟩ := id h0
    obtain ⟨x0, y0, e0, f0, k0⟩ := (rd_Sl L22 rfl (by decide) rd_T_history_Op) enc W _ _ _ _ _ _ _ g0
    rw [one_of_wide Try.underlying22 rfl (hval 0 22 v0 rfl rfl)] at e0
    obtain rfl : v0 = _ := (List.cons.inj e0).1
    obtain ⟨_, g1⟩ := id h1
    obtain ⟨x1, y1, e1, f1, k1⟩ := (rd_I (k := .i64) Try.underlying3) enc W _ _ _ _ _ _ _ g1
    rw [one_of_wide Try.underlying3 rfl (hval 1 3 v1 rfl rfl)] at e1
    obtain rfl : v1 = _ := (List.cons.inj e1).1
    obtain ⟨_, g2⟩ := id h2
    obtain ⟨x2, y2, e2, f2, k2⟩ := (rd_I (k := .i64) Try.underlying3) enc W _ _ _ _ _ _ _ g2
    rw [one_of_wide Try.underlying3 rfl (hval 2 3 v2 rfl rfl)] at e2
    obtain rfl : v2 = _ := (List.cons.inj e2).1
    obtain ⟨_, g3⟩ := id h3
    obtain ⟨x3, y3, e3, f3, k3⟩ := (rd_I (k := .i64) Try.underlying3) enc W _ _ _ _ _ _ _ g3
    rw [one_of_wide Try.underlying3 rfl (hval 3 3 v3 rfl rfl)] at e3
    obtain rfl : v3 = _ := (List.cons.inj e3).1
    obtain ⟨_, g4⟩ := id h4
    obtain ⟨x4, y4, e4, f4, k4⟩ := (rd_Sl L23 rfl (by decide) (rd_B Try.underlying4)) enc W _ _ _ _ _ _ _ g4
    rw [one_of_wide Try.underlying23 rfl (hval 4 23 v4 rfl rfl)] at e4
    obtain rfl : v4 = _ := (List.cons.inj e4).1
    obtain ⟨k, hk⟩ := plain x0 x1 x2 x3 x4 k0 k1 k2 k3 k4
    refine glacierlaw18_HistoryCan_ok (G := W) (F := []) k x0 x1 x2 x3 x4 y0.1 y0.2 y4.1 y4.2 true (st_ground_fct f0 (st_ground_fct f4 (st_ground W))) hk ?_
    intro w' hst
    have hb := St.below hst
    have hlt := fun x hx => hW'.lt x hx
    refine ⟨_, rfl, post_under (pa := p0 ++ (p1 ++ (p2 ++ (p3 ++ (p4 ++ ([])))))) (pv := []) hW' (fun b sp hd => trodAll_mk1 (shut_bool Try.underlying4 true)) (fun sp hsp => ?_) (fun _ _ => rfl) hbf hb (ok_one (by kernel_rfl) rfl (okWide_bool_mk Try.underlying4 true))⟩
    exact (tc_mk (WideElems.Trod_stays Try_laidOut (by kernel_rfl) (of_decide_eq_true (by kernel_rfl)) h0 (fun x hx => hb.same (hlt x (by rw [hbf]; simp [hx]))) (fun x hx => hsp x (by rw [hbf]; simp [hx]))) (tc_mk (WideElems.Trod_stays Try_laidOut (by kernel_rfl) (of_decide_eq_true (by kernel_rfl)) h1 (fun x hx => hb.same (hlt x (by rw [hbf]; simp [hx]))) (fun x hx => hsp x (by rw [hbf]; simp [hx]))) (tc_mk (WideElems.Trod_stays Try_laidOut (by kernel_rfl) (of_decide_eq_true (by kernel_rfl)) h2 (fun x hx => hb.same (hlt x (by rw [hbf]; simp [hx]))) (fun x hx => hsp x (by rw [hbf]; simp [hx]))) (tc_mk (WideElems.Trod_stays Try_laidOut (by kernel_rfl) (of_decide_eq_true (by kernel_rfl)) h3 (fun x hx => hb.same (hlt x (by rw [hbf]; simp [hx]))) (fun x hx => hsp x (by rw [hbf]; simp [hx]))) (tc_mk (WideElems.Trod_stays Try_laidOut (by kernel_rfl) (of_decide_eq_true (by kernel_rfl)) h4 (fun x hx => hb.same (hlt x (by rw [hbf]; simp [hx]))) (fun x hx => hsp x (by rw [hbf]; simp [hx]))) trodAll_mk0)))))
  exact OpenClaim.holds_of_wide 3 Try.f3 rfl rfl rfl rfl rfl rfl rfl ⟨rfl, rfl, rfl, rfl, rfl⟩ rfl rfl rfl rfl rfl (by kernel_rfl) Try.func3 (by kernel_rfl) (of_decide_eq_true (by kernel_rfl)) (by unfold Func.isWrapper; rw [if_neg (by decide +kernel)]; exact ⟨rfl, rfl⟩) (fun os started H enc _ => lifted os started H enc)
end Go.Proofs.Ytkbhnofclgibfaa
