/-
  TeG: what a crash leaves says what was, or what was to be. Own work.
-/
import Derived.Test.YthmjdekmacoaaaaTeFTY
namespace Go.Proofs.Ythmjdekmacoaaaa
open Go.Hx

section
variable (k : Nat)

theorem ts_of {m M : FM} (h : mget M fT = mget m fT) {t v : Nat} (h1 : TS k m t v) : TS k M t v := by unfold TS at *; rw [h]; exact h1
theorem ss_of {m M : FM} (h : mget M fS = mget m fS) {a b : Nat} {s : List UInt8} (h1 : SS k m a b s) : SS k M a b s := by unfold SS at *; rw [h]; exact h1
theorem ls_of {m M : FM} (h : mget M fL = mget m fL) {L : List T_term_Entry} {p : List UInt8} (h1 : LS k m L p) : LS k M L p := by unfold LS at *; rw [h]; exact h1
theorem safe_tt {m : FM} {n c : List UInt8} (h : mget m n = TT c) : (fileAt m n).safe.s = c ∧ (fileAt m n).now.s = c := by rw [fileAt_some h]; exact ⟨rfl, rfl⟩

theorem Says.mono {Q Q' : Nat} {m : FM} {t v a b : Nat} {s : List UInt8} {c0 : Nat} {L : List T_term_Entry} {p : List UInt8} (h : Says k Q m t v a b s c0 L p) (hq : Q ≤ Q') : Says k Q' m t v a b s c0 L p :=
  { h with q := Nat.le_trans h.q hq }

/-- the term's file -/
theorem says_term {Q : Nat} {m M : FM} {t v a b : Nat} {s : List UInt8} {c0 : Nat} {L : List T_term_Entry} (h : Says k Q m t v a b s c0 L []) {t' v' : Nat} (ht : t' ≤ 1000) (hv : v' ≤ 5) {c : List UInt8} (hc : Fr k (vb t' ++ vb v') c)
    (hset : Set M) (ho : ∀ n, n ≠ fT → mget M n = mget m n) (hl : Left m M fT c) : Says k Q M t v a b s c0 L [] ∨ Says k Q M t' v' a b s c0 L [] := by
  have l1 := vb_len t' (by omega)
  have l2 := vb_len v' (by omega)
  have l3 := vb_len t (by have := h.bt; omega)
  have l4 := vb_len v (by have := h.bv; omega)
  have rest : ∀ t v, TS k M t v → t ≤ 1000 → v ≤ 5 → Says k Q M t v a b s c0 L [] := fun t v h1 h2 h3 =>
    { h with set := hset, ts := h1, ss := ss_of k (ho fS (by decide)) h.ss, ls := ls_of k (ho fL (by decide)) h.ls, bt := h2, bv := h3 }
  rcases hl with hl | hl | ⟨j, hj, hl, q1, q2, q3⟩
  · exact .inl (rest t v (ts_of k hl h.ts) h.bt h.bv)
  · exact .inr (rest t' v' (.inr (.inr ⟨c, hc, hl, by omega, hv⟩)) ht hv)
  · left
    have hsh : Short k (c.take j) := open_short k hc (by simp only [List.length_append]; omega) hj
    have h0 : t = 0 ∧ v = 0 := by
      rcases h.ts with ⟨_, h1, h2⟩ | ⟨_, _, _, h1, h2⟩ | ⟨f, hf, h1, _, _⟩
      · exact ⟨h1, h2⟩
      · exact ⟨h1, h2⟩
      · rw [(safe_tt h1).1] at q1 q2
        have := fr_prefix k hf hc (by simp only [List.length_append]; omega) (by simp only [List.length_append]; omega) q2
        omega
    obtain ⟨rfl, rfl⟩ := h0
    exact rest 0 0 (.inr (.inl ⟨_, hsh, hl, rfl, rfl⟩)) (by omega) (by omega)

/-- the snapshot's file -/
theorem says_snap {Q : Nat} {m M : FM} {t v a b : Nat} {s : List UInt8} {c0 : Nat} {L : List T_term_Entry} (h : Says k Q m t v a b s c0 L []) {a' b' : Nat} {s' : List UInt8} (ha1 : a ≤ a') (ha2 : a' ≤ c0 + L.length) (hb : b' ≤ 1099511627776) (hs : s'.length ≤ 30) (hQ : Q ≤ 100000) {c : List UInt8} (hc : Fr k (vb a' ++ (vb b' ++ (vb s'.length ++ s'))) c)
    (hset : Set M) (ho : ∀ n, n ≠ fS → mget M n = mget m n) (hl : Left m M fS c) : Says k Q M t v a b s c0 L [] ∨ Says k Q M t v a' b' s' c0 L [] := by
  have hq := h.q
  have hlo := h.lo
  have l1 := vb_len a' (by omega)
  have l2 := vb_len b' (by omega)
  have l3 := vb_len s'.length (by omega)
  have rest : ∀ a b s, SS k M a b s → c0 ≤ a → a ≤ c0 + L.length → b ≤ 1099511627776 → s.length ≤ 30 → Says k Q M t v a b s c0 L [] := fun a b s h1 h2 h3 h4 h5 =>
    { h with set := hset, ss := h1, ts := ts_of k (ho fT (by decide)) h.ts, ls := ls_of k (ho fL (by decide)) h.ls, lo := h2, hi := h3, bb := h4, bs := h5 }
  rcases hl with hl | hl | ⟨j, hj, hl, q1, q2, q3⟩
  · exact .inl (rest a b s (ss_of k hl h.ss) h.lo h.hi h.bb h.bs)
  · exact .inr (rest a' b' s' (.inr (.inr ⟨c, hc, hl, by omega, by omega, by omega⟩)) (by omega) ha2 hb hs)
  · left
    have hsh : Short k (c.take j) := open_short k hc (by simp only [List.length_append]; omega) hj
    have h0 : a = 0 ∧ b = 0 ∧ s = [] := by
      rcases h.ss with ⟨_, h1⟩ | ⟨_, _, _, h1⟩ | ⟨f, hf, h1, z1, z2, z3⟩
      · exact h1
      · exact h1
      · have l4 := vb_len a (by omega)
        have l5 := vb_len b (by omega)
        have l6 := vb_len s.length (by omega)
        rw [(safe_tt h1).1] at q1 q2
        have := fr_prefix k hf hc (by simp only [List.length_append]; omega) (by simp only [List.length_append]; omega) q2
        omega
    obtain ⟨rfl, rfl, rfl⟩ := h0
    exact rest 0 0 [] (.inr (.inl ⟨_, hsh, hl, rfl, rfl, rfl⟩)) h.lo h.hi (by omega) (by simp)

/-- the log, written anew, no longer than it was -/
theorem says_rewrite {Q : Nat} {m M : FM} {t v a b : Nat} {s : List UInt8} {c0 : Nat} {L : List T_term_Entry} (h : Says k Q m t v a b s c0 L []) {N : Nat} {fs : List (List UInt8)} (hfs : Frs k ((L.drop (a - c0)).take N) fs)
    (hle : flen ((L.drop (a - c0)).take N) ≤ (fileAt m fL).safe.s.length) (hset : Set M) (ho : ∀ n, n ≠ fL → mget M n = mget m n) (hl : Left m M fL fs.flatten) : Says k Q M t v a b s c0 L [] ∨ Says k Q M t v a b s a ((L.drop (a - c0)).take N) [] := by
  rcases hl with hl | hl | ⟨j, hj, hl, q1, q2, q3⟩
  · exact .inl { h with set := hset, ts := ts_of k (ho fT (by decide)) h.ts, ss := ss_of k (ho fS (by decide)) h.ss, ls := ls_of k hl h.ls }
  · right
    have hq := h.q
    have hlo := h.lo
    have hhi := h.hi
    exact { h with
      set := hset, ts := ts_of k (ho fT (by decide)) h.ts, ss := ss_of k (ho fS (by decide)) h.ss, ls := .inr ⟨fs, hfs, by rw [hl, List.append_nil], short_nil k⟩,
      ok := fun x hx => h.ok x (List.mem_of_mem_drop (List.mem_of_mem_take hx)),
      num := fun i hi => by
        rw [List.getElem_take, List.getElem_drop, h.num]
        omega
      lo := Nat.le_refl _, hi := Nat.le_add_right _ _, q := by simp only [List.length_take, List.length_drop]; omega }
  · rw [frs_flen k hfs] at q1
    omega

theorem take_frames : ∀ {l : List T_term_Entry} {fs : List (List UInt8)}, Frs k l fs → (∀ x ∈ l, EOk x) → ∀ j, j < fs.flatten.length → ∃ i p, i < l.length ∧ fs.flatten.take j = (fs.take i).flatten ++ p ∧ Short k p ∧ p.length ≤ 1100
  | [], [], _, _, j, hj => by simp at hj
  | x :: l, f :: fs, ⟨h1, h2⟩, hx, j, hj => by
    have he := eb_len (hx x List.mem_cons_self)
    have hfl := h1.len
    by_cases h : j < f.length
    · refine ⟨0, f.take j, by simp, ?_, open_short k h1 (by omega) h, by rw [List.length_take]; omega⟩
      rw [List.flatten_cons, List.take_append_of_le_length (by omega)]
      simp
    · obtain ⟨i, p, hi, e, hs, hp⟩ := take_frames h2 (fun y hy => hx y (List.mem_cons_of_mem _ hy)) (j - f.length) (by simp only [List.flatten_cons, List.length_append] at hj; omega)
      refine ⟨i + 1, p, by simpa using hi, ?_, hs, hp⟩
      rw [List.flatten_cons, List.take_append, List.take_of_length_le (by omega), e]
      simp [List.append_assoc]
  | [], _ :: _, h, _, _, _ => h.elim
  | _ :: _, [], h, _, _, _ => h.elim

theorem frs_take : ∀ {l : List T_term_Entry} {fs : List (List UInt8)} (i : Nat), Frs k l fs → Frs k (l.take i) (fs.take i) := fun i h => All2.take h i

/-- the log's end -/
theorem says_append {Q : Nat} {m M : FM} {t v a b : Nat} {s : List UInt8} {c0 : Nat} {L : List T_term_Entry} (h : Says k Q m t v a b s c0 L []) {l : List T_term_Entry} {fs : List (List UInt8)} (hfs : Frs k l fs) (hx : ∀ x ∈ l, EOk x)
    (hn : ∀ i (h : i < l.length), l[i].Index = (c0 : Int) + L.length + i + 1) (hset : Set M) (ho : ∀ n, n ≠ fL → mget M n = mget m n) (hl : Left m M fL ((fileAt m fL).now.s ++ fs.flatten)) :
    Says k Q M t v a b s c0 L [] ∨ ∃ i p, i ≤ l.length ∧ (i = l.length → p = []) ∧ p.length ≤ 1100 ∧ Says k (Q + l.length) M t v a b s c0 (L ++ l.take i) p := by
  have hq := h.q
  have hhi := h.hi
  -- what is there
  have hold : ∃ fs0, Frs k L fs0 ∧ (fileAt m fL).now.s = fs0.flatten ∧ (fileAt m fL).safe.s = fs0.flatten := by
    rcases h.ls with ⟨h1, h2, _⟩ | ⟨fs0, h1, h2, _⟩
    · exact ⟨[], by rw [h2]; trivial, by rw [fileAt_none h1]; rfl, by rw [fileAt_none h1]; rfl⟩
    · rw [List.append_nil] at h2
      exact ⟨fs0, h1, (safe_tt h2).2, (safe_tt h2).1⟩
  obtain ⟨fs0, hf0, e1, e2⟩ := hold
  rw [e1] at hl
  have more : ∀ i p, i ≤ l.length → Short k p → mget M fL = TT ((fs0.flatten ++ (fs.take i).flatten) ++ p) → Says k (Q + l.length) M t v a b s c0 (L ++ l.take i) p := fun i p hi hp hg =>
    { h with
      set := hset, ts := ts_of k (ho fT (by decide)) h.ts, ss := ss_of k (ho fS (by decide)) h.ss
      ls := .inr ⟨fs0 ++ fs.take i, All2.app hf0 (frs_take k i hfs), by rw [hg, List.flatten_append], hp⟩
      ok := fun x hx' => by
        rcases List.mem_append.1 hx' with h' | h'
        · exact h.ok x h'
        · exact hx x (List.mem_of_mem_take h')
      num := fun j hj => by
        by_cases hjl : j < L.length
        · rw [List.getElem_append_left hjl]; exact h.num j hjl
        · rw [List.getElem_append_right (by omega), List.getElem_take, hn]
          omega
      hi := by simp only [List.length_append]; omega
      q := by simp only [List.length_append, List.length_take]; omega }
  rcases hl with hl | hl | ⟨j, hj, hl, q1, q2, q3⟩
  · exact .inl { h with set := hset, ts := ts_of k (ho fT (by decide)) h.ts, ss := ss_of k (ho fS (by decide)) h.ss, ls := ls_of k hl h.ls }
  · right
    refine ⟨l.length, [], Nat.le_refl _, fun _ => rfl, by simp, more l.length [] (Nat.le_refl _) (short_nil k) ?_⟩
    have hfl : fs.take l.length = fs := by rw [All2.length hfs]; exact List.take_length
    rw [hl, hfl, List.append_nil]
  · right
    rw [e2] at q3
    have hlen : (fs0.flatten ++ fs.flatten).length = fs0.flatten.length + fs.flatten.length := List.length_append
    obtain ⟨i, p, hi, e, hs, hp⟩ := take_frames k hfs hx (j - fs0.flatten.length) (by omega)
    refine ⟨i, p, by omega, fun hh => by omega, hp, more i p (by omega) hs ?_⟩
    rw [hl, List.take_append, List.take_of_length_le q3, e, List.append_assoc]
end
end Go.Proofs.Ythmjdekmacoaaaa
