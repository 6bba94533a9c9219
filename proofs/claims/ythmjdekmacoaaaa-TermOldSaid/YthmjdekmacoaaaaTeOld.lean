/- TermOld: entries that the snapshot has already, and are in the log yet, are none of the state's. Conditions: none (every input). Own work. -/
import Derived.Test.YthmjdekmacoaaaaPlTeTO
import Derived.Test.YthmjdekmacoaaaaTeCTO
import Derived.Test.YthmjdekmacoaaaaTOR
namespace Go.Proofs.Ythmjdekmacoaaaa
open Go.Hx

theorem old_loop (k : Nat) (x1 : List (List UInt8)) : ∀ (j i : Nat) (l : List T_term_Entry), l.length = i → i ≤ 10 → 10 - i < j → Num l → (∀ x ∈ l, EOk x) →
    ∃ l', glacierlaw09_TermOld_l1 k x1 j l (i : Int) = some l' ∧ l'.length ≤ 10 ∧ Num l' ∧ ∀ x ∈ l', EOk x
  | 0, _, _, _, _, hj, _, _ => by omega
  | j + 1, i, l, hl, hi, hj, hn, hx => by
    rw [glacierlaw09_TermOld_l1]
    by_cases h : i < x1.length ∧ i < 10
    · obtain ⟨h1, h2⟩ := h
      obtain ⟨c, hc, hcl⟩ := cut_at k x1[i] 30
      rw [if_pos (by simpa using h1)]
      simp only [bind_some]
      rw [if_pos (by simp; omega), gtL h1]
      simp only [bind_some]
      rw [show (30 : Int) = ((30 : Nat) : Int) from rfl, hc]
      simp only [bind_some]
      rw [if_pos (room_of (by simp; omega) (by omega)), wrN i (by omega)]
      refine old_loop k x1 j (i + 1) _ (by simp; omega) (by omega) (by omega) (hn.push (by rw [hl]; simp)) fun x hx' => ?_
      rcases List.mem_append.1 hx' with h | h
      · exact hx x h
      · obtain rfl := List.mem_singleton.1 h
        exact ⟨by simp only []; omega, by simp only []; omega, by simp, by simp, by simp only []; omega⟩
    · have : (if decide ((i : Int) < (x1.length : Int)) = true then some (decide ((i : Int) < 10)) else some (false)) = some false := by
        by_cases h1 : i < x1.length
        · rw [if_pos (by simpa using h1)]
          have : ¬ i < 10 := fun h3 => h ⟨h1, h3⟩
          congr 1; simp; omega
        · rw [if_neg (by simpa using h1)]
      rw [this]
      exact ⟨l, rfl, by omega, hn, hx⟩

theorem old_main (k : Nat) (hk : 2000 < k) (hak : glacierlaw09_awake k = some true) (x1 : List (List UInt8)) (x2 : Int) : glacierlaw09_TermOld k x1 x2 = some true := by
  unfold glacierlaw09_TermOld
  rw [show (100000 : Int) = ((100000 : Nat) : Int) from rfl, newK]
  simp only [bind_some]
  rw [hak]
  simp only [bind_some]
  rw [if_neg (by simp)]
  simp only [bind_some]
  rw [if_neg (by simp)]
  obtain ⟨l, e1, hl, hn, hx⟩ := old_loop k x1 k 0 [] rfl (by omega) (by omega) (fun i h => by simp at h) (by simp)
  rw [show (0 : Int) = ((0 : Nat) : Int) from rfl, e1]
  simp only [bind_some]
  obtain ⟨n, hnl, en⟩ := clamp x2 l.length
  rw [show ((0 : Nat) : Int) = 0 from rfl, en]
  obtain ⟨M, f, fs, e2, hf, hfs, hw, hq, hg⟩ := saveSnap_ok k hk ((100000 : Nat) : Int) (WF.nil 900000) n 1 (by omega) (by omega) (s := [115]) (by simp) (l := l) (by omega) hx (by omega) (by simp only [W, List.map_nil, List.sum_nil]; omega)
  rw [show ((W ([] : FM) : Nat) : Int) = 0 from rfl] at e2
  rw [show (1 : Int) = ((1 : Nat) : Int) from rfl, e2]
  simp only [bind_some]
  rw [if_neg (by simp)]
  have hT : TermOf k M 0 0 := .inl ⟨by rw [hg, if_neg (by decide), if_neg (by decide)]; rfl, rfl, rfl⟩
  have hS : SnapOf k M n 1 [115] := .inr ⟨f, hf, by rw [hg, if_neg (by decide), if_pos rfl], by omega, by omega, by simp⟩
  have hL : LogOf k M l := .inr ⟨fs, hfs, by rw [hg, if_pos rfl]⟩
  rw [load_ok k hk _ _ hw.som hT hS hL (by omega) hx, beh_drop hn n hnl]
  simp only [bind_some]
  have hlast : ∃ t, term_State_Last k ⟨((0 : Nat) : Int), ((0 : Nat) : Int), (n : Int), ((1 : Nat) : Int), [115], l.drop n⟩ = some ((l.length : Int), t) := by
    unfold term_State_Last
    by_cases h : n < l.length
    · have hlen : (l.drop n).length = l.length - n := List.length_drop
      have hlt : l.length - n - 1 < (l.drop n).length := by omega
      have hw1 : IntKind.i64.wrap (((l.drop n).length : Int) - 1) = ((l.length - n - 1 : Nat) : Int) := by rw [wr (by omega)]; omega
      rw [if_pos (by simp; omega), hw1, gtL hlt]
      simp only [bind_some]
      refine ⟨(l.drop n)[l.length - n - 1].Term, ?_⟩
      congr 2
      rw [List.getElem_drop, hn]
      omega
    · rw [if_neg (by simp; omega)]
      have he : n = l.length := by omega
      subst he
      exact ⟨_, rfl⟩
  obtain ⟨t, ht⟩ := hlast
  rw [ht]
  simp only [bind_some]
  rw [if_pos (by simp), if_pos (by simp), if_pos (by rw [beq_iff_eq, List.length_drop, wr (by omega)]; omega)]
  simp

theorem old_plain (x1 : List (List UInt8)) (x2 : Int) : ∃ k, glacierlaw09_TermOld k x1 x2 = some true := ⟨3000, old_main 3000 (by omega) awake9 x1 x2⟩
theorem termOld_holds : Rows.TermOldSaid := termOld_row fun x0 x1 _ _ => old_plain x0 x1
end Go.Proofs.Ythmjdekmacoaaaa
