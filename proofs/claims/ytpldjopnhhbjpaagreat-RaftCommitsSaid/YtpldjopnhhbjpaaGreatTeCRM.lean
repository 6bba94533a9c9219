/-
  TeC: snapshots, and which entries go on behind a number. Own work.
-/
import Derived.Test.YtpldjopnhhbjpaaGreatTeBRM
namespace Go.Proofs.YtpldjopnhhbjpaaGreat
open Go.Hx

theorem beh_all (base : Int) : ∀ (r acc : List T_term_Entry), (∀ i (h : i < r.length), r[i].Index = base + acc.length + i + 1) → beh base r acc = acc ++ r
  | [], acc, _ => by simp [beh]
  | x :: r, acc, h => by
    have h0 := h 0 (by simp)
    simp only [List.getElem_cons_zero] at h0
    rw [beh, if_pos (by rw [h0]; simp), beh_all base r (acc ++ [x]) fun i hi => ?_]
    · simp
    · have := h (i + 1) (by simpa using hi)
      simp only [List.getElem_cons_succ] at this
      rw [this]
      simp only [List.length_append, List.length_singleton]
      omega
theorem beh_skip (base : Int) : ∀ (l r : List T_term_Entry), (∀ x ∈ l, x.Index ≤ base) → beh base (l ++ r) [] = beh base r []
  | [], _, _ => rfl
  | x :: l, r, h => by
    have h0 := h x List.mem_cons_self
    rw [List.cons_append, beh, if_neg (by simp; omega)]
    exact beh_skip base l r fun y hy => h y (List.mem_cons_of_mem _ hy)

/-- entries that are numbered from 1 on -/
def Num (l : List T_term_Entry) : Prop := ∀ i (h : i < l.length), l[i].Index = (i : Int) + 1
theorem Num.push {l : List T_term_Entry} (h : Num l) {x : T_term_Entry} (hx : x.Index = (l.length : Int) + 1) : Num (l ++ [x]) := fun i hi => by
  by_cases hl : i < l.length
  · rw [List.getElem_append_left hl]; exact h i hl
  · have : i = l.length := by simp at hi; omega
    subst this
    simp [hx]
theorem beh_drop {l : List T_term_Entry} (h : Num l) (n : Nat) (hn : n ≤ l.length) : beh (n : Int) l [] = l.drop n := by
  conv => lhs; rw [← List.take_append_drop n l]
  rw [beh_skip (n : Int) (l.take n) (l.drop n) fun x hx => ?_, beh_all (n : Int) (l.drop n) [] fun i hi => ?_]
  · simp
  · rw [List.getElem_drop, h]
    simp
  · obtain ⟨i, hi, rfl⟩ := List.getElem_of_mem hx
    rw [List.getElem_take, h]
    simp at hi
    omega
theorem beh_rest {l : List T_term_Entry} (h : Num l) (n : Nat) : beh (n : Int) (l.drop n) [] = l.drop n := by
  rw [beh_all (n : Int) (l.drop n) [] fun i hi => ?_]
  · simp
  · rw [List.getElem_drop, h]
    simp

section
variable (k : Nat)

theorem rewrite_loop (hk : 2000 < k) (l : List T_term_Entry) (hl : l.length ≤ 100) (h : ∀ x ∈ l, EOk x) : ∀ (j i : Nat) (acc : List UInt8), i ≤ l.length → l.length - i < j → acc.length ≤ 1100 * i →
    ∃ fs, term_Rewrite_l1 k l j acc (i : Int) = some (acc ++ fs.flatten) ∧ Frs k (l.drop i) fs
  | 0, i, _, _, hj, _ => by omega
  | j + 1, i, acc, hi, hj, ha => by
    rw [term_Rewrite_l1]
    by_cases hlt : i < l.length
    · rw [if_pos (by simpa using hlt), gtL hlt]
      simp only [bind_some]
      have hx := h l[i] (List.getElem_mem hlt)
      obtain ⟨f, hf, hfr⟩ := spell_at k hk hx
      have h3 := Fr.len k hfr
      have h4 := eb_len hx
      rw [hf]
      simp only [bind_some]
      rw [cat_of (by omega)]
      simp only [bind_some]
      rw [wrN i (by omega)]
      obtain ⟨fs, e, hfs⟩ := rewrite_loop hk l hl h j (i + 1) (acc ++ f) (by omega) (by omega) (by simp only [List.length_append]; omega)
      refine ⟨f :: fs, by rw [e]; simp, ?_⟩
      rw [List.drop_eq_getElem_cons hlt]
      exact ⟨hfr, hfs⟩
    · rw [if_neg (by simpa using hlt)]
      refine ⟨[], by simp, ?_⟩
      rw [List.drop_eq_nil_of_le (by omega)]
      trivial

theorem saveSnap_ok (hk : 2000 < k) (room : Int) {B : Nat} {m : FM} (h : WF B 900000 m) (a b : Nat) (ha : a ≤ 1099511627776) (hb : b ≤ 1099511627776) {s : List UInt8} (hs : s.length ≤ 1000) {l : List T_term_Entry} (hl : l.length ≤ 100) (hx : ∀ x ∈ l, EOk x) (hr : room ≤ 1100000) (hW : (W m : Int) + 1100 * l.length + 1100 ≤ room) :
    ∃ M f fs, term_SaveSnap k room (W m : Int) false 0 m (a : Int) (b : Int) s l = some (0, (W M : Int), 0, M) ∧ Fr k (vb a ++ (vb b ++ (vb s.length ++ s))) f ∧ Frs k l fs ∧ WF (B + 2) 900000 M ∧ W M ≤ W m + 1100 * l.length + 1100 ∧
      ∀ n, mget M n = if n = fL then some (some ⟨⟨true, fs.flatten⟩, ⟨true, fs.flatten⟩⟩) else if n = fS then some (some ⟨⟨true, f⟩, ⟨true, f⟩⟩) else mget m n := by
  have l1 := vb_len a (by omega)
  have l2 := vb_len b (by omega)
  have l3 := vb_len s.length (by omega)
  have i1 := vi_len a (by omega)
  have i2 := vi_len b (by omega)
  obtain ⟨f, hf, hfr⟩ := frame_at k (by omega) (vb a ++ (vb b ++ (vb s.length ++ s))) (by simp only [List.length_append]; omega) (by simp only [List.length_append]; omega)
  have hfl := Fr.len k hfr
  simp only [List.length_append] at hfl
  obtain ⟨m1, e1, w1, q1, g1⟩ := keep_ok k (by omega) room h (name := fS) (s := f) (by simp) (by simp) (by omega) hr (by omega)
  obtain ⟨fs, e2, hfs⟩ := rewrite_loop k hk l hl hx k 0 [] (by omega) (by omega) (by simp)
  rw [List.drop_zero] at hfs
  rw [List.nil_append] at e2
  have hfl2 := frs_len k hfs hx
  obtain ⟨m2, e3, w3, q3, g3⟩ := keep_ok k (by omega) room w1 (name := fL) (s := fs.flatten) (by simp) (by simp) (by omega) hr (by omega)
  refine ⟨m2, f, fs, ?_, hfr, hfs, w3, by omega, fun n => ?_⟩
  · unfold term_SaveSnap wire_Enc_Bytes term_Rewrite
    rw [I_two k (by omega) [] a b (by omega) (by omega) (by simp)]
    simp only [bind_some]
    rw [S_one k (by omega) _ s (by omega) (by simp only [List.length_append, List.length_nil]; omega)]
    simp only [bind_some]
    rw [show bS ([] ++ vi a ++ vi b ++ vi s.length ++ sB s) = vb a ++ (vb b ++ (vb s.length ++ s)) from by simp [bS_app, bS_sB, vb, List.append_assoc], hf]
    simp only [bind_some]
    rw [e1]
    simp only [bind_some]
    rw [if_neg (by simp), show (0 : Int) = ((0 : Nat) : Int) from rfl, e2]
    simp only [bind_some]
    rw [show ((0 : Nat) : Int) = 0 from rfl, e3]
    rfl
  · rw [g3, g1]
end
end Go.Proofs.YtpldjopnhhbjpaaGreat
