/- RMR: the rows out of their plain laws; printed by hx.py (own work). -/
import Derived.Test.YtpldjopnhhbjpaaGreatRM
import Derived.Test.YtpldjopnhhbjpaaGreatHxR
import Derived.Test.YtpldjopnhhbjpaaGreatRows
namespace Go.Proofs.YtpldjopnhhbjpaaGreat
open Go.Hx Go.RowKit Go.ChangeShapes Go.WideShapes Go.ChangeAt
theorem Tryz_own : ownKnob Tryz.prog.godebug = none := by kernel_rfl
theorem Tryz_laidOut : laidOutB Tryz.prog = true := by kernel_rfl
theorem Q3 : Tryz.prog.cellsOf 3 = 1 := by kernel_rfl
theorem Q22 : Tryz.prog.cellsOf 22 = 1 := by kernel_rfl
def ok_T_glacierlaw10_Start (x : T_glacierlaw10_Start) : Prop := okI .i64 x.Term ∧ okI .i64 x.Vote ∧ okI .i64 x.Base ∧ okSl (okI .i64) x.Terms
theorem rd_T_glacierlaw10_Start : Rd Tryz.prog 24 r_T_glacierlaw10_Start ok_T_glacierlaw10_Start := by
  intro H enc W base spare held fuel cs d ps h
  obtain ⟨k, xs, rfl, hl, hm⟩ := rd_struct Tryz.underlying24 h
  obtain ⟨_, m0, h0, hm, _⟩ := mapM_cons_some hm
  obtain ⟨_, m1, h1, hm, _⟩ := mapM_cons_some hm
  obtain ⟨_, m2, h2, hm, _⟩ := mapM_cons_some hm
  obtain ⟨_, m3, h3, hm, _⟩ := mapM_cons_some hm
  have hl : cs.length = 4 := hl.trans (by kernel_rfl)
  obtain ⟨x0, y0, e0, p0, k0⟩ := (rd_I (k := .i64) Tryz.underlying3) enc W base spare held k _ _ _ h0
  simp only [Q3] at e0
  obtain ⟨x1, y1, e1, p1, k1⟩ := (rd_I (k := .i64) Tryz.underlying3) enc W base spare held k _ _ _ h1
  simp only [Q3] at e1
  obtain ⟨x2, y2, e2, p2, k2⟩ := (rd_I (k := .i64) Tryz.underlying3) enc W base spare held k _ _ _ h2
  simp only [Q3] at e2
  obtain ⟨x3, y3, e3, p3, k3⟩ := (rd_Sl L22 rfl (by decide) (rd_I (k := .i64) Tryz.underlying3)) enc W base spare held k _ _ _ h3
  simp only [Q22] at e3
  have hc : cs = [(cs.drop 0).take 1, (cs.drop 1).take 1, (cs.drop 2).take 1, (cs.drop 3).take 1].flatten := cut_all [1, 1, 1, 1] cs hl
  rw [e0, e1, e2, e3] at hc
  exact ⟨⟨x0, x1, x2, x3⟩, (y3), hc, p3, k0, k1, k2, k3⟩
set_option maxRecDepth 100000 in
set_option maxHeartbeats 4000000 in
theorem raftCommits_row (plain : ∀ (x0 : T_glacierlaw10_Start) (x1 : Int) (x2 : (List (List UInt8))) (x3 : (List Int)), ok_T_glacierlaw10_Start x0 → okI .i64 x1 → okSl (okS) x2 → okSl (okI .i64) x3 → ∃ k, glacierlaw10_RaftCommits k x0 x1 x2 x3 = some true) : Rows.RaftCommitsSaid := by
  have lifted : ∀ (os : Os) (_started : os.Started) (H : Type) (enc : TypeId × Value → H), ReturnsInHanded {} Tryz.checked os 3 .any (Rows.raftCommitsSpec.pre6 enc Tryz.prog Tryz.f3 Rows.raftCommitsRow.domain false) (Rows.raftCommitsSpec.post enc Tryz.prog Tryz.f3 false true false false) := by
    intro os started H enc
    refine returnsInHanded_of_change (C := Tryz.checked) Tryz_own started (by kernel_rfl) Tryz.func3 (ChangeSpec.witness6 (enc := enc) (C := Tryz.checked) false ⟨#[], #[.agg #[.int .i64 0, .int .i64 0, .int .i64 0, .slice none 0 0], .int .i64 0, .slice none 0 0, .slice none 0 0], []⟩ 8 (by kernel_rfl) (by kernel_rfl) (by kernel_rfl) (by kernel_rfl)) ?_
    intro W base args ds gs before hval0 hW hcnd _
    have hval : ∀ (j : Nat) t v, Tryz.f3.params[j]? = some t → args[j]? = some v → Value.okWide Tryz.prog W .any base t v := hval0
    have hW' := hW
    obtain ⟨p, q, hA0, hV, hbf, hfz, hnd⟩ := hW
    have hA : DataW.TrodAll enc Tryz.prog W 0 (fun _ => true) true Tryz.f3.params.toList args.toList ds p := hA0
    rw [Tryz.params3] at hA hval
    obtain ⟨v0, _, d0, _, p0, _, ha, rfl, rfl, h0, hA⟩ := trodAll_cons hA
    obtain ⟨v1, _, d1, _, p1, _, rfl, rfl, rfl, h1, hA⟩ := trodAll_cons hA
    obtain ⟨v2, _, d2, _, p2, _, rfl, rfl, rfl, h2, hA⟩ := trodAll_cons hA
    obtain ⟨v3, _, d3, _, p3, _, rfl, rfl, rfl, h3, hA⟩ := trodAll_cons hA
    obtain ⟨rfl, rfl, rfl⟩ := trodAll_nil hA
    obtain rfl : args = #[v0, v1, v2, v3] := by cases args; simpa using ha
    obtain ⟨rfl, rfl⟩ := trodVars_none hV
    obtain ⟨_, g0⟩ := id h0
    obtain ⟨x0, y0, e0, f0, k0⟩ := rd_T_glacierlaw10_Start enc W _ _ _ _ _ _ _ g0
    obtain ⟨cs0, rfl⟩ := agg_of_wide Tryz.underlying24 (hval 0 24 v0 rfl rfl)
    obtain rfl : cs0 = (r_T_glacierlaw10_Start.cells x0 y0).toArray := by rw [← e0]; rfl
    obtain ⟨_, g1⟩ := id h1
    obtain ⟨x1, y1, e1, f1, k1⟩ := (rd_I (k := .i64) Tryz.underlying3) enc W _ _ _ _ _ _ _ g1
    rw [one_of_wide Tryz.underlying3 rfl (hval 1 3 v1 rfl rfl)] at e1
    obtain rfl : v1 = _ := (List.cons.inj e1).1
    obtain ⟨_, g2⟩ := id h2
    obtain ⟨x2, y2, e2, f2, k2⟩ := (rd_Sl L25 rfl (by decide) (rd_S Tryz.underlying9)) enc W _ _ _ _ _ _ _ g2
    rw [one_of_wide Tryz.underlying25 rfl (hval 2 25 v2 rfl rfl)] at e2
    obtain rfl : v2 = _ := (List.cons.inj e2).1
    obtain ⟨_, g3⟩ := id h3
    obtain ⟨x3, y3, e3, f3, k3⟩ := (rd_Sl L22 rfl (by decide) (rd_I (k := .i64) Tryz.underlying3)) enc W _ _ _ _ _ _ _ g3
    rw [one_of_wide Tryz.underlying22 rfl (hval 3 22 v3 rfl rfl)] at e3
    obtain rfl : v3 = _ := (List.cons.inj e3).1
    obtain ⟨k, hk⟩ := plain x0 x1 x2 x3 k0 k1 k2 k3
    refine glacierlaw10_RaftCommits_ok (G := W) (F := []) k x0 x1 x2 x3 y0.1 y0.2 y2.1 y2.2 y3.1 y3.2 true (st_ground_fct f0 (st_ground_fct f2 (st_ground_fct f3 (st_ground W)))) hk ?_
    intro w' hst
    have hb := St.below hst
    have hlt := fun x hx => hW'.lt x hx
    refine ⟨_, rfl, post_under (pa := p0 ++ (p1 ++ (p2 ++ (p3 ++ ([]))))) (pv := []) hW' (fun b sp hd => trodAll_mk1 (shut_bool Tryz.underlying4 true)) (fun sp hsp => ?_) (fun _ _ => rfl) hbf hb (ok_one (by kernel_rfl) rfl (okWide_bool_mk Tryz.underlying4 true))⟩
    exact (tc_mk (WideElems.Trod_stays Tryz_laidOut (by kernel_rfl) (of_decide_eq_true (by kernel_rfl)) h0 (fun x hx => hb.same (hlt x (by rw [hbf]; simp [hx]))) (fun x hx => hsp x (by rw [hbf]; simp [hx]))) (tc_mk (WideElems.Trod_stays Tryz_laidOut (by kernel_rfl) (of_decide_eq_true (by kernel_rfl)) h1 (fun x hx => hb.same (hlt x (by rw [hbf]; simp [hx]))) (fun x hx => hsp x (by rw [hbf]; simp [hx]))) (tc_mk (WideElems.Trod_stays Tryz_laidOut (by kernel_rfl) (of_decide_eq_true (by kernel_rfl)) h2 (fun x hx => hb.same (hlt x (by rw [hbf]; simp [hx]))) (fun x hx => hsp x (by rw [hbf]; simp [hx]))) (tc_mk (WideElems.Trod_stays Tryz_laidOut (by kernel_rfl) (of_decide_eq_true (by kernel_rfl)) h3 (fun x hx => hb.same (hlt x (by rw [hbf]; simp [hx]))) (fun x hx => hsp x (by rw [hbf]; simp [hx]))) trodAll_mk0))))
  exact OpenClaim.holds_of_wide 3 Tryz.f3 rfl rfl rfl rfl rfl rfl rfl ⟨rfl, rfl, rfl, rfl, rfl⟩ rfl rfl rfl rfl rfl (by kernel_rfl) Tryz.func3 (by kernel_rfl) (of_decide_eq_true (by kernel_rfl)) (by unfold Func.isWrapper; rw [if_neg (by decide +kernel)]; exact ⟨rfl, rfl⟩) (fun os started H enc _ => lifted os started H enc)
end Go.Proofs.YtpldjopnhhbjpaaGreat
