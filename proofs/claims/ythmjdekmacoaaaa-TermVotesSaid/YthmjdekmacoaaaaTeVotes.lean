/- TermVotes: of two terms that are kept one behind the other the second one is, with its vote; entries stay. Conditions: none (every input). Own work. -/
import Derived.Test.YthmjdekmacoaaaaPlTeTV
import Derived.Test.YthmjdekmacoaaaaTVR
namespace Go.Proofs.Ythmjdekmacoaaaa
open Go.Hx

theorem votes_main (k : Nat) (hk : 2000 < k) (hak : glacierlaw09_awake k = some true) (x1 x2 x3 x4 : Int) (x5 : List UInt8) : glacierlaw09_TermVotes k x1 x2 x3 x4 x5 = some true := by
  unfold glacierlaw09_TermVotes
  obtain ⟨a, ha, ea⟩ := clamp x1 1000
  obtain ⟨b, hb, eb'⟩ := clamp x2 1000
  obtain ⟨v, hv, ev⟩ := clamp x3 5
  obtain ⟨w, hw, ew⟩ := clamp x4 5
  obtain ⟨c, hc, hcl⟩ := cut_at k x5 50
  rw [show (1000 : Int) = ((1000 : Nat) : Int) from rfl, show (5 : Int) = ((5 : Nat) : Int) from rfl, ea, eb', ev, ew, show (50 : Int) = ((50 : Nat) : Int) from rfl, hc, show (10000 : Int) = ((10000 : Nat) : Int) from rfl, newK]
  simp only [bind_some]
  rw [hak]
  simp only [bind_some]
  have hx : ∀ x ∈ [(⟨1, (a : Int), c⟩ : T_term_Entry)], EOk x := fun x hx => by
    obtain rfl := List.mem_singleton.1 hx
    exact ⟨by simp, by simp, by simp only []; omega, by simp only []; omega, by simp only []; omega⟩
  obtain ⟨m1, fs, e1, f1, w1, q1, g1⟩ := appended_ok k hk ((10000 : Nat) : Int) (WF.nil 900000) (l := [⟨1, (a : Int), c⟩]) (by simp) hx (by rw [fileAt_none rfl]; simp [F0]) (by omega) (by simp [W])
  rw [show ((W ([] : FM) : Nat) : Int) = 0 from rfl] at e1
  rw [show W ([] : FM) = 0 from rfl] at q1
  simp only [List.length_singleton] at q1
  rw [if_neg (by simp), e1]
  simp only [bind_some]
  obtain ⟨m2, f2, e2, _, l2, w2, q2, g2⟩ := saveTerm_ok k hk ((10000 : Nat) : Int) w1 a v (by omega) (by omega) (by omega) (by omega)
  rw [if_neg (by simp), e2]
  simp only [bind_some]
  obtain ⟨m3, f3, e3, fr3, l3, w3, q3, g3⟩ := saveTerm_ok k hk ((10000 : Nat) : Int) w2 b w (by omega) (by omega) (by omega) (by omega)
  rw [if_neg (by simp), e3]
  simp only [bind_some]
  rw [if_neg (by simp)]
  have hT : TermOf k m3 b w := .inr ⟨f3, fr3, by rw [g3, if_pos rfl], by omega, hw⟩
  have hS : SnapOf k m3 0 0 [] := .inl ⟨by rw [g3, if_neg (by decide), g2, if_neg (by decide), g1, if_neg (by decide)]; rfl, rfl, rfl, rfl⟩
  have hL : LogOf k m3 [⟨1, (a : Int), c⟩] := .inr ⟨fs, f1, by rw [g3, if_neg (by decide), g2, if_neg (by decide), g1, if_pos rfl, fileAt_none rfl]; rfl⟩
  rw [load_ok k hk _ _ w3.som hT hS hL (by simp) hx]
  simp only [bind_some]
  have hbe : beh ((0 : Nat) : Int) [(⟨1, (a : Int), c⟩ : T_term_Entry)] [] = [⟨1, (a : Int), c⟩] := by simp [beh]
  rw [hbe, if_pos (by simp), if_pos (by simp), if_pos (by simp), if_pos (by simp)]
  rw [show gt [(⟨1, (a : Int), c⟩ : T_term_Entry)] (0 : Int) = some ⟨1, (a : Int), c⟩ from rfl]
  simp

theorem votes_plain (x1 x2 x3 x4 : Int) (x5 : List UInt8) : ∃ k, glacierlaw09_TermVotes k x1 x2 x3 x4 x5 = some true := ⟨3000, votes_main 3000 (by omega) awake9 x1 x2 x3 x4 x5⟩
theorem termVotes_holds : Rows.TermVotesSaid := termVotes_row fun x0 x1 x2 x3 x4 _ _ _ _ _ => votes_plain x0 x1 x2 x3 x4
end Go.Proofs.Ythmjdekmacoaaaa
