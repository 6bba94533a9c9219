/- ZSR: the rows out of their plain laws; printed by hx.py (own work). -/
import Derived.Test.YtkbhnofclgibfaaZS
import Derived.Test.YtkbhnofclgibfaaHxR
import Derived.Test.YtkbhnofclgibfaaRows
namespace Go.Proofs.Ytkbhnofclgibfaa
open Go.Hx Go.RowKit Go.ChangeShapes Go.WideShapes Go.ChangeAt
theorem Try_own : ownKnob Try.prog.godebug = none := by kernel_rfl
theorem Try_laidOut : laidOutB Try.prog = true := by kernel_rfl
set_option maxRecDepth 100000 in
set_option maxHeartbeats 4000000 in
theorem historyStale_row (plain : ∀ (x0 : Int) (x1 : Int) (x2 : Int), okI .u64 x0 → okI .u64 x1 → okI .i64 x2 → ∃ k, glacierlaw18_HistoryStale k x0 x1 x2 = some true) : Rows.HistoryStaleSaid := by
  have lifted : ∀ (os : Os) (_started : os.Started) (H : Type) (enc : TypeId × Value → H), ReturnsInHanded {} Try.checked os 4 .any (Rows.historyStaleSpec.pre6 enc Try.prog Try.f4 Rows.historyStaleRow.domain false) (Rows.historyStaleSpec.post enc Try.prog Try.f4 false true false false) := by
    intro os started H enc
    refine returnsInHanded_of_change (C := Try.checked) Try_own started (by kernel_rfl) Try.func4 (ChangeSpec.witness6 (enc := enc) (C := Try.checked) false ⟨#[], #[.int .u64 0, .int .u64 0, .int .i64 0], []⟩ 8 (by kernel_rfl) (by kernel_rfl) (by kernel_rfl) (by kernel_rfl)) ?_
    intro W base args ds gs before hval0 hW hcnd _
    have hval : ∀ (j : Nat) t v, Try.f4.params[j]? = some t → args[j]? = some v → Value.okWide Try.prog W .any base t v := hval0
    have hW' := hW
    obtain ⟨p, q, hA0, hV, hbf, hfz, hnd⟩ := hW
    have hA : DataW.TrodAll enc Try.prog W 0 (fun _ => true) true Try.f4.params.toList args.toList ds p := hA0
    rw [Try.params4] at hA hval
    obtain ⟨v0, _, d0, _, p0, _, ha, rfl, rfl, h0, hA⟩ := trodAll_cons hA
    obtain ⟨v1, _, d1, _, p1, _, rfl, rfl, rfl, h1, hA⟩ := trodAll_cons hA
    obtain ⟨v2, _, d2, _, p2, _, rfl, rfl, rfl, h2, hA⟩ := trodAll_cons hA
    obtain ⟨rfl, rfl, rfl⟩ := trodAll_nil hA
    obtain rfl : args = #[v0, v1, v2] := by cases args; simpa using ha
    obtain ⟨rfl, rfl⟩ := trodVars_none hV
    obtain ⟨_, g0⟩ := id h0
    obtain ⟨x0, y0, e0, f0, k0⟩ := (rd_I (k := .u64) Try.underlying29) enc W _ _ _ _ _ _ _ g0
    rw [one_of_wide Try.underlying29 rfl (hval 0 29 v0 rfl rfl)] at e0
    obtain rfl : v0 = _ := (List.cons.inj e0).1
    obtain ⟨_, g1⟩ := id h1
    obtain ⟨x1, y1, e1, f1, k1⟩ := (rd_I (k := .u64) Try.underlying29) enc W _ _ _ _ _ _ _ g1
    rw [one_of_wide Try.underlying29 rfl (hval 1 29 v1 rfl rfl)] at e1
    obtain rfl : v1 = _ := (List.cons.inj e1).1
    obtain ⟨_, g2⟩ := id h2
    obtain ⟨x2, y2, e2, f2, k2⟩ := (rd_I (k := .i64) Try.underlying3) enc W _ _ _ _ _ _ _ g2
    rw [one_of_wide Try.underlying3 rfl (hval 2 3 v2 rfl rfl)] at e2
    obtain rfl : v2 = _ := (List.cons.inj e2).1
    obtain ⟨k, hk⟩ := plain x0 x1 x2 k0 k1 k2
    refine glacierlaw18_HistoryStale_ok (G := W) (F := []) k x0 x1 x2 true (st_ground W) hk ?_
    intro w' hst
    have hb := St.below hst
    have hlt := fun x hx => hW'.lt x hx
    refine ⟨_, rfl, post_under (pa := p0 ++ (p1 ++ (p2 ++ ([])))) (pv := []) hW' (fun b sp hd => trodAll_mk1 (shut_bool Try.underlying4 true)) (fun sp hsp => ?_) (fun _ _ => rfl) hbf hb (ok_one (by kernel_rfl) rfl (okWide_bool_mk Try.underlying4 true))⟩
    exact (tc_mk (WideElems.Trod_stays Try_laidOut (by kernel_rfl) (of_decide_eq_true (by kernel_rfl)) h0 (fun x hx => hb.same (hlt x (by rw [hbf]; simp [hx]))) (fun x hx => hsp x (by rw [hbf]; simp [hx]))) (tc_mk (WideElems.Trod_stays Try_laidOut (by kernel_rfl) (of_decide_eq_true (by kernel_rfl)) h1 (fun x hx => hb.same (hlt x (by rw [hbf]; simp [hx]))) (fun x hx => hsp x (by rw [hbf]; simp [hx]))) (tc_mk (WideElems.Trod_stays Try_laidOut (by kernel_rfl) (of_decide_eq_true (by kernel_rfl)) h2 (fun x hx => hb.same (hlt x (by rw [hbf]; simp [hx]))) (fun x hx => hsp x (by rw [hbf]; simp [hx]))) trodAll_mk0)))
  exact OpenClaim.holds_of_wide 4 Try.f4 rfl rfl rfl rfl rfl rfl rfl ⟨rfl, rfl, rfl, rfl, rfl⟩ rfl rfl rfl rfl rfl (by kernel_rfl) Try.func4 (by kernel_rfl) (of_decide_eq_true (by kernel_rfl)) (by unfold Func.isWrapper; rw [if_neg (by decide +kernel)]; exact ⟨rfl, rfl⟩) (fun os started H enc _ => lifted os started H enc)
end Go.Proofs.Ytkbhnofclgibfaa
