/- TermParts: a log's entries in parts, one behind the other, are all of them, each with its term. Conditions: none (every input). Own work. -/
import Derived.Test.YthmjdekmacoaaaaPlTeTP
import Derived.Test.YthmjdekmacoaaaaTeCTP
import Derived.Test.YthmjdekmacoaaaaTPR
namespace Go.Proofs.Ythmjdekmacoaaaa
open Go.Hx

theorem All2_app {α β : Type} {R : α → β → Prop} : ∀ {a : List α} {b : List β} {c : List α} {d : List β}, All2 R a b → All2 R c d → All2 R (a ++ c) (b ++ d) := fun h1 h2 => All2.app h1 h2

theorem parts_l1 (k : Nat) (x1 : List (List UInt8)) (x2 : List Int) : ∀ (j i : Nat) (l : List T_term_Entry), l.length = i → i ≤ 10 → 10 - i < j → Num l → (∀ x ∈ l, EOk x) →
    ∃ l', glacierlaw09_TermParts_l1 k x1 x2 j l (i : Int) = some l' ∧ l'.length ≤ 10 ∧ Num l' ∧ ∀ x ∈ l', EOk x
  | 0, _, _, _, _, hj, _, _ => by omega
  | j + 1, i, l, hl, hi, hj, hn, hx => by
    rw [glacierlaw09_TermParts_l1]
    by_cases h : (i < x1.length ∧ i < x2.length) ∧ i < 10
    · obtain ⟨⟨h1, h1'⟩, h2⟩ := h
      obtain ⟨c, hc, hcl⟩ := cut_at k x1[i] 20
      obtain ⟨t, ht, et⟩ := clamp x2[i] 100
      rw [if_pos (by simpa using h1), if_pos (by simpa using h1')]
      simp only [bind_some]
      rw [if_pos (by simp; omega), gtL h1']
      simp only [bind_some]
      rw [gtL h1]
      simp only [bind_some]
      rw [show (20 : Int) = ((20 : Nat) : Int) from rfl, hc]
      simp only [bind_some]
      rw [show (100 : Int) = ((100 : Nat) : Int) from rfl, et, if_pos (room_of (by simp; omega) (by omega)), wrN i (by omega)]
      refine parts_l1 k x1 x2 j (i + 1) _ (by simp; omega) (by omega) (by omega) (hn.push (by rw [hl]; simp)) fun x hx' => ?_
      rcases List.mem_append.1 hx' with h | h
      · exact hx x h
      · obtain rfl := List.mem_singleton.1 h
        exact ⟨by simp only []; omega, by simp only []; omega, by simp, by simp only []; omega, by simp only []; omega⟩
    · have : (if decide ((i : Int) < (x1.length : Int)) = true then (if decide ((i : Int) < (x2.length : Int)) = true then some (decide ((i : Int) < 10)) else some (false)) else some (false)) = some false := by
        by_cases h1 : i < x1.length
        · rw [if_pos (by simpa using h1)]
          by_cases h2 : i < x2.length
          · rw [if_pos (by simpa using h2)]
            have : ¬ i < 10 := fun h3 => h ⟨⟨h1, h2⟩, h3⟩
            congr 1; simp; omega
          · rw [if_neg (by simpa using h2)]
        · rw [if_neg (by simpa using h1)]
      rw [this]
      exact ⟨l, rfl, by omega, hn, hx⟩

theorem from_at (k : Nat) (s : T_term_State) (hb : s.Base = 0) (hl : s.Log.length ≤ 10) (at' most : Nat) (h1 : 1 ≤ at') (h2 : at' ≤ s.Log.length + 1) (hm : most ≤ 20) : term_State_From k s (at' : Int) (most : Int) = some ((s.Log.drop (at' - 1)).take most) := by
  unfold term_State_From
  have e1 : IntKind.i64.wrap (IntKind.i64.wrap ((at' : Int) - s.Base) - 1) = ((at' - 1 : Nat) : Int) := by
    rw [hb, wr (n := (at' : Int) - 0) (by omega), wr (by omega)]; omega
  rw [e1, if_neg (by simp <;> omega)]
  simp only [bind_some]
  rw [if_neg (by simp <;> omega), show mx2 (most : Int) 0 = (most : Int) from by unfold mx2; rw [if_neg (by omega)], wr (n := (s.Log.length : Int) - ((at' - 1 : Nat) : Int)) (by omega)]
  have e2 : mn2 (most : Int) ((s.Log.length : Int) - ((at' - 1 : Nat) : Int)) = ((min most (s.Log.length - (at' - 1)) : Nat) : Int) := by
    unfold mn2; split <;> omega
  rw [e2, wr (by omega), show (((at' - 1 : Nat) : Int) + ((min most (s.Log.length - (at' - 1)) : Nat) : Int)) = ((at' - 1 + min most (s.Log.length - (at' - 1)) : Nat) : Int) by omega, sl_of _ (by omega) (by omega) (by omega)]
  simp only [bind_some]
  rw [Int.toNat_natCast, Int.toNat_natCast, if_pos (room_of (by simp <;> omega) (by omega))]
  simp only [bind_some, List.nil_append]
  congr 1
  rw [List.drop_take]
  rw [show at' - 1 + min most (s.Log.length - (at' - 1)) - (at' - 1) = min most (s.Log.length - (at' - 1)) by omega]
  by_cases h : most ≤ s.Log.length - (at' - 1)
  · rw [Nat.min_eq_left h]
  · rw [Nat.min_eq_right (by omega), List.take_of_length_le (by rw [List.length_drop]; omega), List.take_of_length_le (by rw [List.length_drop]; omega)]

theorem termAt_at (k : Nat) (s : T_term_State) (hb : s.Base = 0) (hl : s.Log.length ≤ 10) (i : Nat) (h1 : 1 ≤ i) (h2 : i ≤ s.Log.length) : term_State_TermAt k s (i : Int) = some ((s.Log[i - 1]'(by omega)).Term, true) := by
  unfold term_State_TermAt
  rw [hb, if_neg (by simp <;> omega), if_neg (by simp <;> omega)]
  simp only [bind_some]
  rw [wr (n := (0 : Int) + (s.Log.length : Int)) (by omega), if_neg (by simp; omega), wr (n := (i : Int) - 0) (by omega), wr (by omega), show ((i : Int) - 0 - 1) = ((i - 1 : Nat) : Int) by omega, gtL (by omega)]
  rfl

theorem parts_l3 (k : Nat) (l : List T_term_Entry) (hl : l.length ≤ 10) (at' : Nat) (h1 : 1 ≤ at') (part : List T_term_Entry) (hp : ∀ i (h : i < part.length), ∃ h' : at' + i - 1 < l.length, part[i] = l[at' + i - 1]) (hpl : at' + part.length ≤ l.length + 1)
    (y29 : List T_term_Entry × T_term_State × Int × Int × Int × FM) (hlog : y29.1 = l) (hb : y29.2.1.Base = 0) : ∀ (j i : Nat), i ≤ part.length → part.length - i < j →
    glacierlaw09_TermParts_l3 k (at' : Int) l y29 part j (i : Int) = some (Flow.go ())
  | 0, _, _, hj => by omega
  | j + 1, i, hi, hj => by
    rw [glacierlaw09_TermParts_l3]
    by_cases h : i < part.length
    · obtain ⟨h', e⟩ := hp i h
      rw [if_pos (by simpa using h), gtL h]
      simp only [bind_some]
      rw [wr (n := (at' : Int) + (i : Int)) (by omega), show ((at' : Int) + (i : Int)) = ((at' + i : Nat) : Int) by omega, termAt_at k ⟨y29.2.1.Term, y29.2.1.Vote, y29.2.1.Base, y29.2.1.BaseTerm, y29.2.1.Snap, y29.1⟩ hb (by show y29.1.length ≤ 10; rw [hlog]; exact hl) (at' + i) (by omega) (by show at' + i ≤ y29.1.length; rw [hlog]; omega)]
      simp only [bind_some]
      rw [wr (by omega), show (((at' + i : Nat) : Int) - 1) = ((at' + i - 1 : Nat) : Int) by omega, gtL h']
      simp only [bind_some]
      rw [e, if_neg (by simp), if_neg (by simp)]
      simp only [bind_some, hlog]
      rw [if_neg (by simp), wrN i (by omega)]
      exact parts_l3 k l hl at' h1 part hp hpl y29 hlog hb j (i + 1) (by omega) (by omega)
    · rw [if_neg (by simpa using h)]

theorem parts_l2 (k : Nat) (hk : 2000 < k) (x4 : Int) (most : Nat) (hm1 : 1 ≤ most) (hm2 : most ≤ 20) (hmo : mn2 (mx2 x4 1) 20 = (most : Int)) (l : List T_term_Entry) (hl : l.length ≤ 10)
    (y29 : List T_term_Entry × T_term_State × Int × Int × Int × FM) (hlog : y29.1 = l) (hb : y29.2.1.Base = 0) : ∀ (j at' turn : Nat), 1 ≤ at' → at' ≤ l.length + 1 → turn + 1 ≤ at' → l.length + 1 - at' < j →
    glacierlaw09_TermParts_l2 k x4 l y29 j (at' : Int) (turn : Int) = some (Flow.go ((l.length + 1 : Nat) : Int))
  | 0, _, _, _, _, _, hj => by omega
  | j + 1, at', turn, h1, h2, h3, hj => by
    rw [glacierlaw09_TermParts_l2, if_pos (by simp; omega)]
    simp only [bind_some]
    by_cases h : at' ≤ l.length
    · rw [if_pos (by simpa using h), hmo, from_at k ⟨y29.2.1.Term, y29.2.1.Vote, y29.2.1.Base, y29.2.1.BaseTerm, y29.2.1.Snap, y29.1⟩ hb (by show y29.1.length ≤ 10; rw [hlog]; exact hl) at' most h1 (by show at' ≤ y29.1.length + 1; rw [hlog]; omega) hm2]
      simp only [bind_some, hlog]
      have hlen : ((l.drop (at' - 1)).take most).length = min most (l.length - (at' - 1)) := by simp
      rw [if_neg (by rw [hlen]; simp; omega), show (0 : Int) = ((0 : Nat) : Int) from rfl, parts_l3 k l hl at' h1 _ (fun i hi => ?_) (by rw [hlen]; omega) y29 hlog hb k 0 (by omega) (by rw [hlen]; omega)]
      · simp only [bind_some]
        rw [hlen, wr (n := (at' : Int) + ((min most (l.length - (at' - 1)) : Nat) : Int)) (by omega), show ((at' : Int) + ((min most (l.length - (at' - 1)) : Nat) : Int)) = ((at' + min most (l.length - (at' - 1)) : Nat) : Int) by omega, wrN turn (by omega)]
        exact parts_l2 k hk x4 most hm1 hm2 hmo l hl y29 hlog hb j _ (turn + 1) (by omega) (by omega) (by omega) (by omega)
      · rw [hlen] at hi
        refine ⟨by omega, ?_⟩
        rw [List.getElem_take, List.getElem_drop]
        congr 1
        omega
    · rw [if_neg (by simpa using h)]
      have : at' = l.length + 1 := by omega
      rw [this]

theorem parts_main (k : Nat) (hk : 2000 < k) (hak : glacierlaw09_awake k = some true) (x1 : List (List UInt8)) (x2 : List Int) (x3 x4 : Int) : glacierlaw09_TermParts k x1 x2 x3 x4 = some true := by
  unfold glacierlaw09_TermParts
  rw [show (100000 : Int) = ((100000 : Nat) : Int) from rfl, newK]
  simp only [bind_some]
  rw [hak]
  simp only [bind_some]
  rw [if_neg (by simp)]
  simp only [bind_some]
  rw [if_neg (by simp)]
  obtain ⟨l, e1, hl, hn, hx⟩ := parts_l1 k x1 x2 k 0 [] rfl (by omega) (by omega) (fun i h => by simp at h) (by simp)
  rw [show ((0 : Nat) : Int) = 0 from rfl] at e1
  rw [e1]
  simp only [bind_some]
  obtain ⟨n, hnl, en⟩ := clamp x3 l.length
  rw [en, sl0 _ _ hnl]
  simp only [bind_some]
  have hx1 : ∀ x ∈ l.take n, EOk x := fun x h => hx x (List.mem_of_mem_take h)
  have hx2 : ∀ x ∈ l.drop n, EOk x := fun x h => hx x (List.mem_of_mem_drop h)
  have hl1 : (l.take n).length ≤ 10 := by simp; omega
  have hl2 : (l.drop n).length ≤ 10 := by simp; omega
  obtain ⟨m1, f1, e2, r1, w1, q1, g1⟩ := appended_ok k hk ((100000 : Nat) : Int) (WF.nil 900000) (l := l.take n) (by omega) hx1 (by rw [fileAt_none rfl]; simp [F0]) (by omega) (by simp only [W, List.map_nil, List.sum_nil]; omega)
  rw [show ((W ([] : FM) : Nat) : Int) = 0 from rfl] at e2
  rw [show W ([] : FM) = 0 from rfl] at q1
  have hf1 := frs_len k r1 hx1
  have g1L : mget m1 fL = some (some ⟨⟨true, f1.flatten⟩, ⟨true, f1.flatten⟩⟩) := by rw [g1, if_pos rfl, fileAt_none rfl]; rfl
  rw [e2]
  simp only [bind_some]
  rw [if_neg (by simp), sl_of _ (by omega) (by omega) (by omega), Int.toNat_natCast, Int.toNat_natCast, List.take_of_length_le (Nat.le_refl _)]
  simp only [bind_some]
  obtain ⟨m2, f2, e3, r2, w2, q2, g2⟩ := appended_ok k hk ((100000 : Nat) : Int) w1 (l := l.drop n) (by omega) hx2 (by rw [fileAt_some g1L]; simp only []; omega) (by omega) (by omega)
  rw [e3]
  simp only [bind_some]
  rw [if_neg (by simp)]
  have hT : TermOf k m2 0 0 := .inl ⟨by rw [g2, if_neg (by decide), g1, if_neg (by decide)]; rfl, rfl, rfl⟩
  have hS : SnapOf k m2 0 0 [] := .inl ⟨by rw [g2, if_neg (by decide), g1, if_neg (by decide)]; rfl, rfl, rfl, rfl⟩
  have hL : LogOf k m2 l := .inr ⟨f1 ++ f2, by
      have := All2.app r1 r2
      rw [List.take_append_drop] at this
      exact this, by rw [g2, if_pos rfl, fileAt_some g1L, List.flatten_append]⟩
  rw [load_ok k hk _ _ w2.som hT hS hL (by omega) hx, beh_drop hn 0 (by omega), List.drop_zero]
  simp only [bind_some]
  rw [if_neg (by simp)]
  simp only [bind_some]
  rw [if_neg (by simp)]
  obtain ⟨most, hmo, hm1, hm2⟩ : ∃ most : Nat, mn2 (mx2 x4 1) 20 = (most : Int) ∧ 1 ≤ most ∧ most ≤ 20 := by
    refine ⟨(mn2 (mx2 x4 1) 20).toNat, ?_, ?_, ?_⟩ <;> (unfold mn2 mx2; split <;> split <;> omega)
  have e4 := parts_l2 k hk x4 most hm1 hm2 hmo l hl (l, ⟨((0 : Nat) : Int), ((0 : Nat) : Int), ((0 : Nat) : Int), ((0 : Nat) : Int), [], l⟩, 0, (W m2 : Int), 0, m2) rfl rfl k 1 0 (by omega) (by omega) (by omega) (by omega)
  rw [show ((1 : Nat) : Int) = 1 from rfl, show ((0 : Nat) : Int) = 0 from rfl] at e4
  rw [show ((0 : Nat) : Int) = 0 from rfl, e4]
  simp only [bind_some]
  rw [wr (n := (l.length : Int) + 1) (by omega), if_pos (by simp), hmo, from_at k _ rfl (by exact hl) (l.length + 1) most (by omega) (by exact Nat.le_refl _) hm2]
  simp

theorem parts_plain (x1 : List (List UInt8)) (x2 : List Int) (x3 x4 : Int) : ∃ k, glacierlaw09_TermParts k x1 x2 x3 x4 = some true := ⟨3000, parts_main 3000 (by omega) awake9 x1 x2 x3 x4⟩
theorem termParts_holds : Rows.TermPartsSaid := termParts_row fun x0 x1 x2 x3 _ _ _ _ => parts_plain x0 x1 x2 x3
end Go.Proofs.Ythmjdekmacoaaaa
