/-
  TeF: saving under failures, and what a settled disk says. Own work.
-/
import Derived.Test.YthmjdekmacoaaaaTeETY
namespace Go.Proofs.Ythmjdekmacoaaaa
open Go.Hx

/-- what a step that keeps a file may come to -/
def Out (m : FM) (n c : List UInt8) (r : Option (Int × Int × Int × FM)) : Prop :=
  (∃ f', 0 ≤ f' ∧ f' ≤ 2000000000 ∧ r = some (0, (W (settled m n c) : Int), f', settled m n c)) ∨ r = some (8, (W m : Int), 0, m) ∨ r = some (8, (W (uns m n c) : Int), 0, uns m n c)

def flen (l : List T_term_Entry) : Nat := (l.map fun x => (eb x).length + 8).sum
theorem flen_le : ∀ {l : List T_term_Entry}, (∀ x ∈ l, EOk x) → flen l ≤ 1100 * l.length
  | [], _ => by simp [flen]
  | x :: l, h => by
    have := flen_le (l := l) fun y hy => h y (List.mem_cons_of_mem _ hy)
    have h2 := eb_len (h x List.mem_cons_self)
    simp only [flen, List.map_cons, List.sum_cons, List.length_cons] at this ⊢
    omega
theorem flen_app (a b : List T_term_Entry) : flen (a ++ b) = flen a + flen b := by simp [flen]
theorem flen_drop (l : List T_term_Entry) (n : Nat) : flen (l.drop n) ≤ flen l := by
  conv => rhs; rw [← List.take_append_drop n l, flen_app]
  omega
theorem flen_take (l : List T_term_Entry) (n : Nat) : flen (l.take n) ≤ flen l := by
  conv => rhs; rw [← List.take_append_drop n l, flen_app]
  omega

section
variable (k : Nat)

theorem frs_flen : ∀ {l : List T_term_Entry} {fs : List (List UInt8)}, Frs k l fs → fs.flatten.length = flen l
  | [], [], _ => rfl
  | x :: l, f :: fs, ⟨h1, h2⟩ => by
    have := frs_flen h2
    have h3 := Fr.len k h1
    simp only [List.flatten_cons, List.length_append, flen, List.map_cons, List.sum_cons] at this ⊢
    omega
  | [], _ :: _, h => h.elim
  | _ :: _, [], h => h.elim

theorem fr_prefix {t1 t2 f1 f2 : List UInt8} (h1 : Fr k t1 f1) (h2 : Fr k t2 f2) (l1 : t1.length < 900000) (l2 : t2.length < 900000) (hp : f2.take f1.length = f1) : f1.length = f2.length := by
  have e1 := h1.len
  have e2 := h2.len
  obtain ⟨σ1, _, _, q1⟩ := h1
  obtain ⟨σ2, _, _, q2⟩ := h2
  have t1' : f1.take 4 = fb t1.length := by rw [q1, List.append_assoc, List.take_append_of_le_length (by rw [fb_len]; omega), List.take_of_length_le (by rw [fb_len]; omega)]
  have t2' : f2.take 4 = fb t2.length := by rw [q2, List.append_assoc, List.take_append_of_le_length (by rw [fb_len]; omega), List.take_of_length_le (by rw [fb_len]; omega)]
  have h4 : f1.take 4 = f2.take 4 := by
    rw [← hp, List.take_take, Nat.min_eq_left (by omega)]
  rw [t1', t2'] at h4
  have n1 := number_at k t1.length (by omega) []
  have n2 := number_at k t2.length (by omega) []
  rw [h4, n2] at n1
  simp only [Option.some.injEq] at n1
  omega

theorem saveTerm_gen (hk : 2000 < k) (room f : Int) (hf : 0 ≤ f) (hf2 : f ≤ 2000000000) {m : FM} (h : Som m) (t v : Nat) (ht : t ≤ 1099511627776) (hv : v ≤ 1099511627776) (hr : room ≤ 1000000) (hW : (W m : Int) + 30 ≤ room) :
    ∃ c, Fr k (vb t ++ vb v) c ∧ c.length ≤ 30 ∧ Out m fT c (term_SaveTerm k room (W m : Int) false f m (t : Int) (v : Int)) := by
  have l1 := vb_len t (by omega)
  have l2 := vb_len v (by omega)
  obtain ⟨c, hc, hfr⟩ := frame_at k (by omega) (vb t ++ vb v) (by simp only [List.length_append]; omega) (by simp only [List.length_append]; omega)
  have hfl := Fr.len k hfr
  simp only [List.length_append] at hfl
  refine ⟨c, hfr, by omega, ?_⟩
  unfold term_SaveTerm wire_Enc_Bytes
  rw [I_two k (by omega) [] t v (by omega) (by omega) (by simp)]
  simp only [bind_some]
  rw [show bS ([] ++ vi t ++ vi v) = vb t ++ vb v from by simp [bS_app, vb], hc]
  simp only [bind_some]
  rcases keep_gen k (by omega) room f hf hf2 h (name := fT) (s := c) (by simp) hr (by omega) with ⟨f', q1, q2, e⟩ | e | e
  · exact .inl ⟨f', q1, q2, by rw [e]; rfl⟩
  · exact .inr (.inl (by rw [e]; rfl))
  · exact .inr (.inr (by rw [e]; rfl))

theorem appended_gen (hk : 2000 < k) (room f : Int) (hf : 0 ≤ f) (hf2 : f ≤ 2000000000) {m : FM} (h : Som m) (hset : Set m) {l : List T_term_Entry} (hl : l.length ≤ 100) (hx : ∀ x ∈ l, EOk x) (hs : (fileAt m fL).now.s.length ≤ 500000) (hr : room ≤ 1000000) (hW : (W m : Int) + 1100 * l.length ≤ room) :
    ∃ fs, Frs k l fs ∧ Out m fL ((fileAt m fL).now.s ++ fs.flatten) (term_Append k room (W m : Int) false f m l) := by
  obtain ⟨fs, e, hfs⟩ := append_loop k hk l hl hx k 0 [] (by omega) (by omega) (by simp)
  rw [List.drop_zero] at hfs
  rw [List.nil_append, show ((0 : Nat) : Int) = 0 from rfl] at e
  have hfl := frs_flen k hfs
  have hfl2 := flen_le hx
  have hsn : (fileAt m fL).safe.s = (fileAt m fL).now.s := by
    rcases Set.safe h hset fL with ⟨_, h2⟩ | ⟨c, _, h2⟩ <;> rw [h2] <;> rfl
  have hu := uns_W h fL ((fileAt m fL).now.s ++ fs.flatten)
  rw [hsn, List.length_append] at hu
  refine ⟨fs, hfs, ?_⟩
  unfold term_Append
  rw [e]
  simp only [bind_some]
  rcases append_gen k room f hf hf2 h (n := fL) (by simp) (s := fs.flatten) (by omega) hr (by omega) (by omega) with ⟨f1, h1, h2, e1⟩ | e1
  · rw [e1]
    simp only [bind_some]
    rw [if_neg (by simp)]
    rcases sync_gen k (by omega) room f1 h1 h2 (m := uns m fL ((fileAt m fL).now.s ++ fs.flatten)) (h.put fL _) (mget_self _ _ _) rfl (by omega) with ⟨f2, h3, h4, e2⟩ | e2
    · exact .inl ⟨f2, h3, h4, by rw [e2]; rfl⟩
    · exact .inr (.inr (by rw [e2]; rfl))
  · rw [e1]
    simp only [bind_some]
    rw [if_pos (by simp)]
    exact .inr (.inl rfl)

theorem rewrite_gen (hk : 2000 < k) (room f : Int) (hf : 0 ≤ f) (hf2 : f ≤ 2000000000) {m : FM} (h : Som m) {l : List T_term_Entry} (hl : l.length ≤ 100) (hx : ∀ x ∈ l, EOk x) (hs : flen l ≤ (fileAt m fL).safe.s.length) (hr : room ≤ 1000000) (hW : (W m : Int) ≤ room) :
    ∃ fs, Frs k l fs ∧ Out m fL fs.flatten (term_Rewrite k room (W m : Int) false f m l) := by
  obtain ⟨fs, e, hfs⟩ := rewrite_loop k hk l hl hx k 0 [] (by omega) (by omega) (by simp)
  rw [List.drop_zero] at hfs
  rw [List.nil_append, show ((0 : Nat) : Int) = 0 from rfl] at e
  have hfl := frs_flen k hfs
  refine ⟨fs, hfs, ?_⟩
  unfold term_Rewrite
  rw [e]
  simp only [bind_some]
  rcases keep_gen k (by omega) room f hf hf2 h (name := fL) (s := fs.flatten) (by simp) hr (by omega) with ⟨f', q1, q2, e⟩ | e | e
  · exact .inl ⟨f', q1, q2, by rw [e]; rfl⟩
  · exact .inr (.inl (by rw [e]; rfl))
  · exact .inr (.inr (by rw [e]; rfl))

theorem saveSnap_gen (hk : 2000 < k) (room f : Int) (hf : 0 ≤ f) (hf2 : f ≤ 2000000000) {B : Nat} {m : FM} (h : WF B 900000 m) (a b : Nat) (ha : a ≤ 1099511627776) (hb : b ≤ 1099511627776) {s : List UInt8} (hs : s.length ≤ 1000) {l : List T_term_Entry} (hl : l.length ≤ 100) (hx : ∀ x ∈ l, EOk x) (hsl : flen l ≤ (fileAt m fL).safe.s.length) (hr : room ≤ 1000000) (hW : (W m : Int) + 1100 ≤ room) :
    ∃ c fs, Fr k (vb a ++ (vb b ++ (vb s.length ++ s))) c ∧ c.length ≤ 1100 ∧ c.length ≤ s.length + 29 ∧ Frs k l fs ∧
      ((term_SaveSnap k room (W m : Int) false f m (a : Int) (b : Int) s l = some (8, (W m : Int), 0, m) ∨ term_SaveSnap k room (W m : Int) false f m (a : Int) (b : Int) s l = some (8, (W (uns m fS c) : Int), 0, uns m fS c)) ∨
        Out (settled m fS c) fL fs.flatten (term_SaveSnap k room (W m : Int) false f m (a : Int) (b : Int) s l)) := by
  have l1 := vb_len a (by omega)
  have l2 := vb_len b (by omega)
  have l3 := vb_len s.length (by omega)
  have i1 := vi_len a (by omega)
  have i2 := vi_len b (by omega)
  obtain ⟨c, hc, hfr⟩ := frame_at k (by omega) (vb a ++ (vb b ++ (vb s.length ++ s))) (by simp only [List.length_append]; omega) (by simp only [List.length_append]; omega)
  have hfl := Fr.len k hfr
  simp only [List.length_append] at hfl
  have hu := uns_W h.som fS c
  have hsw := settled_W h.som fS c
  have hm1 := settled_wf h (n := fS) (c := c) (by simp) (by omega)
  have hat : fileAt (settled m fS c) fL = fileAt m fL := by unfold fileAt; rw [settled_get, if_neg (by decide)]
  have e0 : term_SaveSnap k room (W m : Int) false f m (a : Int) (b : Int) s l = (Option.bind (term_keep k room (W m : Int) false f m fS c) fun y11 => (if (y11.1 != 0) = true then some (y11.1, y11.2.1, y11.2.2.1, y11.2.2.2) else (Option.bind (term_Rewrite k room y11.2.1 false y11.2.2.1 y11.2.2.2 l) fun y12 => some (y12.1, y12.2.1, y12.2.2.1, y12.2.2.2)))) := by
    unfold term_SaveSnap wire_Enc_Bytes
    rw [I_two k (by omega) [] a b (by omega) (by omega) (by simp)]
    simp only [bind_some]
    rw [S_one k (by omega) _ s (by omega) (by simp only [List.length_append, List.length_nil]; omega)]
    simp only [bind_some]
    rw [show bS ([] ++ vi a ++ vi b ++ vi s.length ++ sB s) = vb a ++ (vb b ++ (vb s.length ++ s)) from by simp [bS_app, bS_sB, vb, List.append_assoc], hc]
    rfl
  rcases keep_gen k (by omega) room f hf hf2 h.som (name := fS) (s := c) (by simp) hr (by omega) with ⟨f', q1, q2, e⟩ | e | e
  · obtain ⟨fs, hfs, ho⟩ := rewrite_gen k hk room f' q1 q2 hm1.som hl hx (by rw [hat]; exact hsl) hr (by omega)
    refine ⟨c, fs, hfr, by omega, by omega, hfs, .inr ?_⟩
    rw [e0, e]
    simp only [bind_some]
    rw [if_neg (by simp)]
    rcases ho with ⟨f2, p1, p2, ho⟩ | ho | ho
    · exact .inl ⟨f2, p1, p2, by rw [ho]; rfl⟩
    · exact .inr (.inl (by rw [ho]; rfl))
    · exact .inr (.inr (by rw [ho]; rfl))
  · obtain ⟨fs, _, hfs⟩ := rewrite_loop k hk l hl hx k 0 [] (by omega) (by omega) (by simp)
    rw [List.drop_zero] at hfs
    exact ⟨c, fs, hfr, by omega, by omega, hfs, .inl (.inl (by rw [e0, e]; rfl))⟩
  · obtain ⟨fs, _, hfs⟩ := rewrite_loop k hk l hl hx k 0 [] (by omega) (by omega) (by simp)
    rw [List.drop_zero] at hfs
    exact ⟨c, fs, hfr, by omega, by omega, hfs, .inl (.inr (by rw [e0, e]; rfl))⟩

/-! ### what a settled disk says -/
structure Says (Q : Nat) (m : FM) (t v a b : Nat) (s : List UInt8) (c0 : Nat) (L : List T_term_Entry) (p : List UInt8) : Prop where
  set : Set m
  ts : TS k m t v
  ss : SS k m a b s
  ls : LS k m L p
  ok : ∀ x ∈ L, EOk x
  num : ∀ i (h : i < L.length), L[i].Index = (c0 : Int) + i + 1
  lo : c0 ≤ a
  hi : a ≤ c0 + L.length
  q : c0 + L.length ≤ Q
  bt : t ≤ 1000
  bv : v ≤ 5
  bb : b ≤ 1099511627776
  bs : s.length ≤ 30

theorem beh_from {L : List T_term_Entry} {c0 a : Nat} (hn : ∀ i (h : i < L.length), L[i].Index = (c0 : Int) + i + 1) (h1 : c0 ≤ a) (h2 : a ≤ c0 + L.length) : beh (a : Int) L [] = L.drop (a - c0) := by
  conv => lhs; rw [← List.take_append_drop (a - c0) L]
  rw [beh_skip (a : Int) (L.take (a - c0)) (L.drop (a - c0)) fun x hx => ?_, beh_all (a : Int) (L.drop (a - c0)) [] fun i hi => ?_]
  · simp
  · rw [List.getElem_drop, hn]
    simp only [List.length_nil]
    omega
  · obtain ⟨i, hi, rfl⟩ := List.getElem_of_mem hx
    rw [List.getElem_take, hn]
    simp at hi
    omega
end
end Go.Proofs.Ythmjdekmacoaaaa
