/- TBR: the rows out of their plain laws; printed by hx.py (own work). -/
import Derived.Test.YthmjdekmacoaaaaTB
import Derived.Test.YthmjdekmacoaaaaHxR
import Derived.Test.YthmjdekmacoaaaaRows
namespace Go.Proofs.Ythmjdekmacoaaaa
open Go.Hx Go.RowKit Go.ChangeShapes Go.WideShapes Go.ChangeAt
theorem Try_own : ownKnob Try.prog.godebug = none := by kernel_rfl
theorem Try_laidOut : laidOutB Try.prog = true := by kernel_rfl
set_option maxRecDepth 100000 in
set_option maxHeartbeats 4000000 in
theorem termBack_row (plain : ∀ (x0 : Int) (x1 : Int) (x2 : (List UInt8)) (x3 : (List (List UInt8))) (x4 : Int) (x5 : (List Int)), okI .i64 x0 → okI .i64 x1 → okS x2 → okSl (okS) x3 → okI .i64 x4 → okSl (okI .i64) x5 → ∃ k, glacierlaw09_TermBack k x0 x1 x2 x3 x4 x5 = some true) : Rows.TermBackSaid := by
  have lifted : ∀ (os : Os) (_started : os.Started) (H : Type) (enc : TypeId × Value → H), ReturnsInHanded {} Try.checked os 11 .any (Rows.termBackSpec.pre6 enc Try.prog Try.f11 Rows.termBackRow.domain false) (Rows.termBackSpec.post enc Try.prog Try.f11 false true false false) := by
    intro os started H enc
    refine returnsInHanded_of_change (C := Try.checked) Try_own started (by kernel_rfl) Try.func11 (ChangeSpec.witness6 (enc := enc) (C := Try.checked) false ⟨#[], #[.int .i64 0, .int .i64 0, .string ⟨#[]⟩, .slice none 0 0, .int .i64 0, .slice none 0 0], []⟩ 8 (by kernel_rfl) (by kernel_rfl) (by kernel_rfl) (by kernel_rfl)) ?_
    intro W base args ds gs before hval0 hW hcnd _
    have hval : ∀ (j : Nat) t v, Try.f11.params[j]? = some t → args[j]? = some v → Value.okWide Try.prog W .any base t v := hval0
    have hW' := hW
    obtain ⟨p, q, hA0, hV, hbf, hfz, hnd⟩ := hW
    have hA : DataW.TrodAll enc Try.prog W 0 (fun _ => true) true Try.f11.params.toList args.toList ds p := hA0
    rw [Try.params11] at hA hval
    obtain ⟨v0, _, d0, _, p0, _, ha, rfl, rfl, h0, hA⟩ := trodAll_cons hA
    obtain ⟨v1, _, d1, _, p1, _, rfl, rfl, rfl, h1, hA⟩ := trodAll_cons hA
    obtain ⟨v2, _, d2, _, p2, _, rfl, rfl, rfl, h2, hA⟩ := trodAll_cons hA
    obtain ⟨v3, _, d3, _, p3, _, rfl, rfl, rfl, h3, hA⟩ := trodAll_cons hA
    obtain ⟨v4, _, d4, _, p4, _, rfl, rfl, rfl, h4, hA⟩ := trodAll_cons hA
    obtain ⟨v5, _, d5, _, p5, _, rfl, rfl, rfl, h5, hA⟩ := trodAll_cons hA
    obtain ⟨rfl, rfl, rfl⟩ := trodAll_nil hA
    obtain rfl : args = #[v0, v1, v2, v3, v4, v5] := by cases args; simpa using ha
    obtain ⟨rfl, rfl⟩ := trodVars_none hV
    obtain ⟨_, g0⟩ := id h0
    obtain ⟨x0, y0, e0, f0, k0⟩ := (rd_I (k := .i64) Try.underlying3) enc W _ _ _ _ _ _ _ g0
    rw [one_of_wide Try.underlying3 rfl (hval 0 3 v0 rfl rfl)] at e0
    obtain rfl : v0 = _ := (List.cons.inj e0).1
    obtain ⟨_, g1⟩ := id h1
    obtain ⟨x1, y1, e1, f1, k1⟩ := (rd_I (k := .i64) Try.underlying3) enc W _ _ _ _ _ _ _ g1
    rw [one_of_wide Try.underlying3 rfl (hval 1 3 v1 rfl rfl)] at e1
    obtain rfl : v1 = _ := (List.cons.inj e1).1
    obtain ⟨_, g2⟩ := id h2
    obtain ⟨x2, y2, e2, f2, k2⟩ := (rd_S Try.underlying9) enc W _ _ _ _ _ _ _ g2
    rw [one_of_wide Try.underlying9 rfl (hval 2 9 v2 rfl rfl)] at e2
    obtain rfl : v2 = _ := (List.cons.inj e2).1
    obtain ⟨_, g3⟩ := id h3
    obtain ⟨x3, y3, e3, f3, k3⟩ := (rd_Sl L34 rfl (by decide) (rd_S Try.underlying9)) enc W _ _ _ _ _ _ _ g3
    rw [one_of_wide Try.underlying34 rfl (hval 3 34 v3 rfl rfl)] at e3
    obtain rfl : v3 = _ := (List.cons.inj e3).1
    obtain ⟨_, g4⟩ := id h4
    obtain ⟨x4, y4, e4, f4, k4⟩ := (rd_I (k := .i64) Try.underlying3) enc W _ _ _ _ _ _ _ g4
    rw [one_of_wide Try.underlying3 rfl (hval 4 3 v4 rfl rfl)] at e4
    obtain rfl : v4 = _ := (List.cons.inj e4).1
    obtain ⟨_, g5⟩ := id h5
    obtain ⟨x5, y5, e5, f5, k5⟩ := (rd_Sl L30 rfl (by decide) (rd_I (k := .i64) Try.underlying3)) enc W _ _ _ _ _ _ _ g5
    rw [one_of_wide Try.underlying30 rfl (hval 5 30 v5 rfl rfl)] at e5
    obtain rfl : v5 = _ := (List.cons.inj e5).1
    obtain ⟨k, hk⟩ := plain x0 x1 x2 x3 x4 x5 k0 k1 k2 k3 k4 k5
    refine glacierlaw09_TermBack_ok (G := W) (F := []) k x0 x1 x2 x3 x4 x5 y3.1 y3.2 y5.1 y5.2 true (st_ground_fct f3 (st_ground_fct f5 (st_ground W))) hk ?_
    intro w' hst
    have hb := St.below hst
    have hlt := fun x hx => hW'.lt x hx
    refine ⟨_, rfl, post_under (pa := p0 ++ (p1 ++ (p2 ++ (p3 ++ (p4 ++ (p5 ++ ([]))))))) (pv := []) hW' (fun b sp hd => trodAll_mk1 (shut_bool Try.underlying4 true)) (fun sp hsp => ?_) (fun _ _ => rfl) hbf hb (ok_one (by kernel_rfl) rfl (okWide_bool_mk Try.underlying4 true))⟩
    exact (tc_mk (WideElems.Trod_stays Try_laidOut (by kernel_rfl) (of_decide_eq_true (by kernel_rfl)) h0 (fun x hx => hb.same (hlt x (by rw [hbf]; simp [hx]))) (fun x hx => hsp x (by rw [hbf]; simp [hx]))) (tc_mk (WideElems.Trod_stays Try_laidOut (by kernel_rfl) (of_decide_eq_true (by kernel_rfl)) h1 (fun x hx => hb.same (hlt x (by rw [hbf]; simp [hx]))) (fun x hx => hsp x (by rw [hbf]; simp [hx]))) (tc_mk (WideElems.Trod_stays Try_laidOut (by kernel_rfl) (of_decide_eq_true (by kernel_rfl)) h2 (fun x hx => hb.same (hlt x (by rw [hbf]; simp [hx]))) (fun x hx => hsp x (by rw [hbf]; simp [hx]))) (tc_mk (WideElems.Trod_stays Try_laidOut (by kernel_rfl) (of_decide_eq_true (by kernel_rfl)) h3 (fun x hx => hb.same (hlt x (by rw [hbf]; simp [hx]))) (fun x hx => hsp x (by rw [hbf]; simp [hx]))) (tc_mk (WideElems.Trod_stays Try_laidOut (by kernel_rfl) (of_decide_eq_true (by kernel_rfl)) h4 (fun x hx => hb.same (hlt x (by rw [hbf]; simp [hx]))) (fun x hx => hsp x (by rw [hbf]; simp [hx]))) (tc_mk (WideElems.Trod_stays Try_laidOut (by kernel_rfl) (of_decide_eq_true (by kernel_rfl)) h5 (fun x hx => hb.same (hlt x (by rw [hbf]; simp [hx]))) (fun x hx => hsp x (by rw [hbf]; simp [hx]))) trodAll_mk0))))))
  exact OpenClaim.holds_of_wide 11 Try.f11 rfl rfl rfl rfl rfl rfl rfl ⟨rfl, rfl, rfl, rfl, rfl⟩ rfl rfl rfl rfl rfl (by kernel_rfl) Try.func11 (by kernel_rfl) (of_decide_eq_true (by kernel_rfl)) (by unfold Func.isWrapper; rw [if_neg (by decide +kernel)]; exact ⟨rfl, rfl⟩) (fun os started H enc _ => lifted os started H enc)
end Go.Proofs.Ythmjdekmacoaaaa
