/- TermPlays: of any calls, with crashes and failures, what was kept is loaded. Conditions: none (every input). Own work. -/
import Derived.Test.YthmjdekmacoaaaaTeBodyTY
import Derived.Test.YthmjdekmacoaaaaTYR
namespace Go.Proofs.Ythmjdekmacoaaaa
open Go.Hx

section
variable (k : Nat)

def SickOK (i : Nat) (m : FM) (all : List T_glacierref09_State) : Prop := ∀ ch, ∃ (M' : FM) (t v a b : Nat) (s : List UInt8) (c0 : Nat) (L : List T_term_Entry) (p : List UInt8) (B : Nat), platter_Disk_Crash k 100000 (W m : Int) false 0 m ch = some ((W M' : Int), M') ∧ WF B 900000 M' ∧ B ≤ 8 * i ∧ W M' ≤ 4500 * i ∧ p.length ≤ 1100 ∧ Says k (4 * i) M' t v a b s c0 L p ∧ mk9 t v a b s (L.drop (a - c0)) ∈ all
def CleanZ (i : Nat) (z : Z9) : Prop := ∃ (t v a b : Nat) (s : List UInt8) (c0 : Nat) (L : List T_term_Entry) (B : Nat) (f : Int) (m : FM), z = ([mk9 t v a b s (L.drop (a - c0))], false, (t : Int), (v : Int), (a : Int), (b : Int), s, (L.drop (a - c0)).map toR, (W m : Int), f, m) ∧ Says k (4 * i) m t v a b s c0 L [] ∧ WF B 900000 m ∧ B ≤ 8 * i ∧ W m ≤ 4500 * i ∧ 0 ≤ f ∧ f ≤ 2000000000
def SickZ (i : Nat) (z : Z9) : Prop := ∃ (all : List T_glacierref09_State) (t v a b : Nat) (s : List UInt8) (lg : List T_term_Entry) (m : FM), z = (all, true, (t : Int), (v : Int), (a : Int), (b : Int), s, lg.map toR, (W m : Int), 0, m) ∧ all.length ≤ 1000 ∧ (lg.length ≤ 500 ∧ a ≤ 100000 ∧ b ≤ 1099511627776 ∧ ∀ x ∈ lg, EOk x) ∧ SickOK k i m all

theorem CleanZ.next {i : Nat} {z : Z9} (h : CleanZ k i z) : CleanZ k (i + 1) z := by
  obtain ⟨t, v, a, b, s, c0, L, B, f, m, e, h1, h2, h3, h4, h5⟩ := h
  exact ⟨t, v, a, b, s, c0, L, B, f, m, e, h1.mono k (by omega), h2, by omega, by omega, h5⟩
theorem SickZ.next {i : Nat} {z : Z9} (h : SickZ k i z) : SickZ k (i + 1) z := by
  obtain ⟨all, t, v, a, b, s, lg, m, e, h1, h0, h2⟩ := h
  refine ⟨all, t, v, a, b, s, lg, m, e, h1, h0, fun ch => ?_⟩
  obtain ⟨M', t, v, a, b, s, c0, L, p, B, q1, q2, q3, q4, q5, q6, q7⟩ := h2 ch
  exact ⟨M', t, v, a, b, s, c0, L, p, B, q1, q2, by omega, by omega, q5, q6.mono k (by omega), q7⟩

theorem sick_of (hk : 2000 < k) {i : Nat} (hi : i < 20) {m : FM} {t v a b : Nat} {s : List UInt8} {c0 : Nat} {L : List T_term_Entry} (h : Says k (4 * (i + 1)) m t v a b s c0 L []) {B : Nat} (hw : WF B 900000 m) (hB : B + 1 ≤ 8 * (i + 1)) (hWm : W m ≤ 4500 * (i + 1)) {n c : List UInt8} (hn : n.length ≤ 10) (hc : c.length ≤ 900000) (hWu : W (uns m n c) ≤ 4500 * (i + 1))
    (all : List T_glacierref09_State) (hx : mk9 t v a b s (L.drop (a - c0)) ∈ all)
    (hl : ∀ M', Set M' → (∀ n', n' ≠ n → mget M' n' = mget m n') → Left m M' n c → ∃ (t v a b : Nat) (s : List UInt8) (c0 : Nat) (L : List T_term_Entry) (p : List UInt8), Says k (4 * (i + 1)) M' t v a b s c0 L p ∧ p.length ≤ 1100 ∧ mk9 t v a b s (L.drop (a - c0)) ∈ all) :
    SickOK k (i + 1) m all ∧ SickOK k (i + 1) (uns m n c) all := by
  refine ⟨fun ch => ?_, fun ch => ?_⟩
  · exact ⟨m, t, v, a, b, s, c0, L, [], B, crash_set k 100000 0 ch hw h.set (by omega) (by omega), hw, by omega, hWm, by simp, h, hx⟩
  · obtain ⟨M', e, w, st, q, ho, hl'⟩ := crash_uns k 100000 0 ch hw h.set (by omega) (by omega) hn hc (by omega)
    obtain ⟨t, v, a, b, s, c0, L, p, r1, r2, r3⟩ := hl M' st ho hl'
    exact ⟨M', t, v, a, b, s, c0, L, p, B + 1, e, w, hB, by omega, r2, r1, r3⟩

theorem says_x {Q : Nat} {m : FM} {t v a b : Nat} {s : List UInt8} {c0 : Nat} {L : List T_term_Entry} {p : List UInt8} (h : Says k Q m t v a b s c0 L p) (hQ : Q ≤ 100) : (L.drop (a - c0)).length ≤ 500 ∧ a ≤ 100000 ∧ b ≤ 1099511627776 ∧ ∀ x ∈ L.drop (a - c0), EOk x := by
  have h1 := h.q
  have h2 := h.hi
  have h3 := h.bb
  exact ⟨by rw [List.length_drop]; omega, by omega, h3, fun x hx => h.ok x (List.mem_of_mem_drop hx)⟩
theorem log_len {Q : Nat} {m : FM} {t v a b : Nat} {s : List UInt8} {c0 : Nat} {L : List T_term_Entry} (h : Says k Q m t v a b s c0 L []) : ∃ fs0, Frs k L fs0 ∧ (fileAt m fL).now.s = fs0.flatten ∧ (fileAt m fL).safe.s = fs0.flatten ∧ fs0.flatten.length = flen L := by
  rcases h.ls with ⟨h1, h2, _⟩ | ⟨fs0, h1, h2, _⟩
  · exact ⟨[], by rw [h2]; trivial, by rw [fileAt_none h1]; rfl, by rw [fileAt_none h1]; rfl, by rw [h2]; rfl⟩
  · rw [List.append_nil] at h2
    exact ⟨fs0, h1, (safe_tt h2).2, (safe_tt h2).1, frs_flen k h1⟩

abbrev y0 : Int × Int × Bool × Int × FM := (100000, 0, false, 0, [])

theorem step1 (hk : 2000 < k) {i : Nat} (hi : i < 20) {z : Z9} (h : CleanZ k i z) (act : T_glacierlaw09_Act) (hK : act.Kind = 1) :
    ∃ z', stepP k y0 act z.1 z.2.1 z.2.2.1 z.2.2.2.1 z.2.2.2.2.1 z.2.2.2.2.2.1 z.2.2.2.2.2.2.1 z.2.2.2.2.2.2.2.1 z.2.2.2.2.2.2.2.2.1 z.2.2.2.2.2.2.2.2.2.1 z.2.2.2.2.2.2.2.2.2.2 = some (Flow.go z') ∧ (CleanZ k (i + 1) z' ∨ SickZ k (i + 1) z') := by
  obtain ⟨t, v, a, b, s, c0, L, B, f, m, rfl, h1, h2, h3, h4, h5, h6⟩ := h
  obtain ⟨N, hN, eN⟩ := clamp act.N 1000
  obtain ⟨M, hM, eM⟩ := clamp act.M 5
  have eN' : mn2 (mx2 act.N 0) (1000 : Int) = (N : Int) := eN
  have eM' : mn2 (mx2 act.M 0) (5 : Int) = (M : Int) := eM
  dsimp only
  unfold stepP
  rw [if_neg (by simp)]
  simp only [bind_some]
  rw [if_neg (by simp), eN', eM', show (T_glacierref09_State.mk (t : Int) (v : Int) (a : Int) (b : Int) s ((L.drop (a - c0)).map toR)) = mk9 t v a b s (L.drop (a - c0)) from rfl, may1 k _ _ (by exact hK)]
  simp only [bind_some]
  rw [if_pos (by simpa using hK)]
  obtain ⟨c, hc, hcl, ho⟩ := saveTerm_gen k hk 100000 f h5 h6 h2.som N M (by omega) (by omega) (by omega) (by omega)
  have hu := uns_W h2.som fT c
  have hsw := settled_W h2.som fT c
  have hs1 := h1.mono k (Q' := 4 * (i + 1)) (by omega)
  have hxs := says_x k h1 (by omega)
  have hleft : ∀ M', Set M' → (∀ n', n' ≠ fT → mget M' n' = mget m n') → Left m M' fT c → Says k (4 * (i + 1)) M' t v a b s c0 L [] ∨ Says k (4 * (i + 1)) M' N M a b s c0 L [] := fun M' q1 q2 q3 => says_term k hs1 hN hM hc q1 q2 q3
  obtain ⟨k1, k2⟩ := sick_of k hk hi hs1 h2 (by omega) (by omega) (n := fT) (c := c) (by simp) (by omega) (by omega) [mk9 t v a b s (L.drop (a - c0)), mk9 N M a b s (L.drop (a - c0))] (by simp) (fun M' q1 q2 q3 => by
    rcases hleft M' q1 q2 q3 with r | r
    · exact ⟨_, _, _, _, _, _, _, _, r, by simp, by simp⟩
    · exact ⟨_, _, _, _, _, _, _, _, r, by simp, by simp⟩)
  rcases ho with ⟨f', p1, p2, e⟩ | e | e
  · rw [e]
    simp only [bind_some]
    rw [if_pos (by simp)]
    refine ⟨_, rfl, .inl ⟨N, M, a, b, s, c0, L, B + 1, f', settled m fT c, rfl, ?_, settled_wf h2 (by simp) (by omega), by omega, by omega, p1, p2⟩⟩
    exact { hs1 with set := settled_set h1.set fT c, ts := .inr (.inr ⟨c, hc, by rw [settled_get, if_pos rfl], by omega, hM⟩), ss := ss_of k (by rw [settled_get, if_neg (by decide)]) h1.ss, ls := ls_of k (by rw [settled_get, if_neg (by decide)]) h1.ls, bt := hN, bv := hM }
  · rw [e]
    simp only [bind_some]
    rw [if_neg (by simp), if_neg (by simp), if_pos (room_of (by simp) (by omega)), if_pos (room_of (by simp) (by omega))]
    exact ⟨_, rfl, .inr ⟨_, t, v, a, b, s, _, m, rfl, by simp, hxs, k1⟩⟩
  · rw [e]
    simp only [bind_some]
    rw [if_neg (by simp), if_neg (by simp), if_pos (room_of (by simp) (by omega)), if_pos (room_of (by simp) (by omega))]
    exact ⟨_, rfl, .inr ⟨_, t, v, a, b, s, _, uns m fT c, rfl, by simp, hxs, k2⟩⟩

theorem step2 (hk : 2000 < k) {i : Nat} (hi : i < 20) {z : Z9} (h : CleanZ k i z) (act : T_glacierlaw09_Act) (hK : act.Kind = 2) :
    ∃ z', stepP k y0 act z.1 z.2.1 z.2.2.1 z.2.2.2.1 z.2.2.2.2.1 z.2.2.2.2.2.1 z.2.2.2.2.2.2.1 z.2.2.2.2.2.2.2.1 z.2.2.2.2.2.2.2.2.1 z.2.2.2.2.2.2.2.2.2.1 z.2.2.2.2.2.2.2.2.2.2 = some (Flow.go z') ∧ (CleanZ k (i + 1) z' ∨ SickZ k (i + 1) z') := by
  obtain ⟨t, v, a, b, s, c0, L, B, f, m, rfl, h1, h2, h3, h4, h5, h6⟩ := h
  obtain ⟨N, hN, eN⟩ := clamp act.N 1000
  obtain ⟨M, hM, eM⟩ := clamp act.M 5
  have eN' : mn2 (mx2 act.N 0) (1000 : Int) = (N : Int) := eN
  have eM' : mn2 (mx2 act.M 0) (5 : Int) = (M : Int) := eM
  have hs1 := h1.mono k (Q' := 4 * (i + 1)) (by omega)
  have hxs := says_x k h1 (by omega)
  have hq := h1.q
  have hlo := h1.lo
  have hhi := h1.hi
  have hlen : (L.drop (a - c0)).length = c0 + L.length - a := by rw [List.length_drop]; omega
  dsimp only
  unfold stepP
  rw [if_neg (by simp)]
  simp only [bind_some]
  obtain ⟨btw, l, em, hl4, hb4, hbt, hnum, hxl⟩ := may2 k hk t v a b s (L.drop (a - c0)) hxs.1 hxs.2.1 ⟨act.Kind, (N : Int), (M : Int), act.S, act.Texts, act.Choice⟩ hK M rfl hM
  rw [if_neg (by simp), eN', eM', show (T_glacierref09_State.mk (t : Int) (v : Int) (a : Int) (b : Int) s ((L.drop (a - c0)).map toR)) = mk9 t v a b s (L.drop (a - c0)) from rfl, em]
  simp only [bind_some]
  rw [if_neg (by simp [hK]), if_pos (by simpa using hK), sl_of _ (by omega) (by simp; omega) (by omega), Int.toNat_natCast, Int.toNat_natCast, List.take_of_length_le (Nat.le_refl _),
    show ((L.drop (a - c0) ++ l).map toR).drop ((L.drop (a - c0)).map toR).length = l.map toR by rw [List.map_append, List.drop_left]]
  simp only [bind_some]
  rw [entries_eq k hk l (by omega)]
  simp only [bind_some]
  obtain ⟨fs0, g1, g2, g3, g4⟩ := log_len k h1
  have hfl0 := flen_le h1.ok
  have hnow : (fileAt m fL).now.s.length ≤ 500000 := by rw [g2, g4]; omega
  obtain ⟨fs, hfs, ho⟩ := appended_gen k hk 100000 f h5 h6 h2.som h1.set (l := l) (by omega) hxl hnow (by omega) (by omega)
  have hfl := frs_flen k hfs
  have hfl2 := flen_le hxl
  generalize hcc : (fileAt m fL).now.s ++ fs.flatten = c at ho
  have hcl : c.length = flen L + flen l := by rw [← hcc, List.length_append, g2, g4, hfl]
  have hu := uns_W h2.som fL c
  rw [g3, g4, hcl] at hu
  have hsw := settled_W h2.som fL c
  have hdr : ∀ j, (L ++ l.take j).drop (a - c0) = L.drop (a - c0) ++ l.take j := fun j => by rw [List.drop_append_of_le_length (by omega)]
  have hnum2 : ∀ q (h : q < l.length), l[q].Index = (c0 : Int) + L.length + q + 1 := fun q hq => by rw [hnum q hq, hlen]; omega
  obtain ⟨k1, k2⟩ := sick_of k hk hi hs1 h2 (by omega) (by omega) (n := fL) (c := c) (by simp) (by omega) (by omega) (([mk9 t v a b s (L.drop (a - c0))] ++ btw) ++ [mk9 t v a b s (L.drop (a - c0) ++ l)]) (by simp) (fun M' q1 q2 q3 => by
    rw [← hcc] at q3
    rcases says_append k h1 hfs hxl hnum2 q1 q2 q3 with r | ⟨j, p, hj, hp0, hp, r⟩
    · exact ⟨_, _, _, _, _, _, _, _, r.mono k (by omega), by simp, by simp⟩
    · refine ⟨_, _, _, _, _, _, _, _, r.mono k (by omega), hp, ?_⟩
      rw [hdr j]
      by_cases hj0 : j = 0
      · subst hj0; simp
      · have := hbt (j - 1) (by omega)
        rw [show j - 1 + 1 = j by omega] at this
        exact List.mem_append_left _ (List.mem_append_right _ this))
  rcases ho with ⟨f', p1, p2, e⟩ | e | e
  · rw [e]
    simp only [bind_some]
    rw [if_pos (by simp)]
    have hd := hdr l.length
    rw [List.take_length] at hd
    refine ⟨_, rfl, .inl ⟨t, v, a, b, s, c0, L ++ l, B + 1, f', settled m fL c, by rw [hd]; rfl, ?_, settled_wf h2 (by simp) (by omega), by omega, by omega, p1, p2⟩⟩
    exact { hs1 with
      set := settled_set h1.set fL c, ts := ts_of k (by rw [settled_get, if_neg (by decide)]) h1.ts, ss := ss_of k (by rw [settled_get, if_neg (by decide)]) h1.ss
      ls := .inr ⟨fs0 ++ fs, All2.app g1 hfs, by rw [settled_get, if_pos rfl, ← hcc, g2, List.flatten_append, List.append_nil], short_nil k⟩
      ok := fun x hx' => by
        rcases List.mem_append.1 hx' with h' | h'
        · exact h1.ok x h'
        · exact hxl x h'
      num := fun j hj => by
        by_cases hjl : j < L.length
        · rw [List.getElem_append_left hjl]; exact h1.num j hjl
        · rw [List.getElem_append_right (by omega), hnum2]
          omega
      hi := by simp only [List.length_append]; omega
      q := by simp only [List.length_append]; omega }
  · rw [e]
    simp only [bind_some]
    rw [if_neg (by simp), if_neg (by simp), if_pos (room_of (by simp; omega) (by omega)), if_pos (room_of (by simp; omega) (by omega))]
    exact ⟨_, rfl, .inr ⟨_, t, v, a, b, s, _, m, rfl, by simp; omega, hxs, k1⟩⟩
  · rw [e]
    simp only [bind_some]
    rw [if_neg (by simp), if_neg (by simp), if_pos (room_of (by simp; omega) (by omega)), if_pos (room_of (by simp; omega) (by omega))]
    exact ⟨_, rfl, .inr ⟨_, t, v, a, b, s, _, uns m fL c, rfl, by simp; omega, hxs, k2⟩⟩

theorem step3 (hk : 2000 < k) {i : Nat} (hi : i < 20) {z : Z9} (h : CleanZ k i z) (act : T_glacierlaw09_Act) (hK : act.Kind = 3) :
    ∃ z', stepP k y0 act z.1 z.2.1 z.2.2.1 z.2.2.2.1 z.2.2.2.2.1 z.2.2.2.2.2.1 z.2.2.2.2.2.2.1 z.2.2.2.2.2.2.2.1 z.2.2.2.2.2.2.2.2.1 z.2.2.2.2.2.2.2.2.2.1 z.2.2.2.2.2.2.2.2.2.2 = some (Flow.go z') ∧ (CleanZ k (i + 1) z' ∨ SickZ k (i + 1) z') := by
  obtain ⟨t, v, a, b, s, c0, L, B, f, m, rfl, h1, h2, h3, h4, h5, h6⟩ := h
  obtain ⟨N, hN, eN⟩ := clamp act.N 1000
  obtain ⟨M, hM, eM⟩ := clamp act.M 5
  have eN' : mn2 (mx2 act.N 0) (1000 : Int) = (N : Int) := eN
  have eM' : mn2 (mx2 act.M 0) (5 : Int) = (M : Int) := eM
  have hs1 := h1.mono k (Q' := 4 * (i + 1)) (by omega)
  have hxs := says_x k h1 (by omega)
  have hq := h1.q
  have hlo := h1.lo
  have hhi := h1.hi
  dsimp only
  unfold stepP
  rw [if_neg (by simp)]
  simp only [bind_some]
  obtain ⟨btw, em, hbl⟩ := may3 k hk t v a b s (L.drop (a - c0)) hxs.1 ⟨act.Kind, (N : Int), (M : Int), act.S, act.Texts, act.Choice⟩ hK N rfl
  rw [if_neg (by simp), eN', eM', show (T_glacierref09_State.mk (t : Int) (v : Int) (a : Int) (b : Int) s ((L.drop (a - c0)).map toR)) = mk9 t v a b s (L.drop (a - c0)) from rfl, em]
  simp only [bind_some]
  have hl2 : ((L.drop (a - c0)).take N).length ≤ 500 := by rw [List.length_take]; have := hxs.1; omega
  have hL80 : L.length ≤ 80 := by omega
  have hl3 : ((L.drop (a - c0)).take N).length ≤ 100 := by rw [List.length_take, List.length_drop]; omega
  rw [if_neg (by simp [hK]), if_neg (by simp [hK]), if_pos (by simpa using hK), entries_eq k hk _ (by omega)]
  simp only [bind_some]
  obtain ⟨fs0, g1, g2, g3, g4⟩ := log_len k h1
  have hx2 : ∀ x ∈ (L.drop (a - c0)).take N, EOk x := fun x hx => hxs.2.2.2 x (List.mem_of_mem_take hx)
  have hle : flen ((L.drop (a - c0)).take N) ≤ (fileAt m fL).safe.s.length := by
    rw [g3, g4]
    exact Nat.le_trans (flen_take _ _) (flen_drop _ _)
  obtain ⟨fs, hfs, ho⟩ := rewrite_gen k hk 100000 f h5 h6 h2.som hl3 hx2 hle (by omega) (by omega)
  have hfl := frs_flen k hfs
  have hfl2 := flen_le hx2
  have hu := uns_W h2.som fL fs.flatten
  have hsw := settled_W h2.som fL fs.flatten
  obtain ⟨k1, k2⟩ := sick_of k hk hi hs1 h2 (by omega) (by omega) (n := fL) (c := fs.flatten) (by simp) (by omega) (by omega) (([mk9 t v a b s (L.drop (a - c0))] ++ btw) ++ [mk9 t v a b s ((L.drop (a - c0)).take N)]) (by simp) (fun M' q1 q2 q3 => by
    rcases says_rewrite k hs1 hfs hle q1 q2 q3 with r | r
    · exact ⟨_, _, _, _, _, _, _, _, r, by simp, by simp⟩
    · exact ⟨_, _, _, _, _, _, _, _, r, by simp, by rw [Nat.sub_self, List.drop_zero]; simp⟩)
  rcases ho with ⟨f', p1, p2, e⟩ | e | e
  · rw [e]
    simp only [bind_some]
    rw [if_pos (by simp)]
    refine ⟨_, rfl, .inl ⟨t, v, a, b, s, a, (L.drop (a - c0)).take N, B + 1, f', settled m fL fs.flatten, by rw [Nat.sub_self, List.drop_zero]; rfl, ?_, settled_wf h2 (by simp) (by omega), by omega, by omega, p1, p2⟩⟩
    exact { hs1 with
      set := settled_set h1.set fL _, ts := ts_of k (by rw [settled_get, if_neg (by decide)]) h1.ts, ss := ss_of k (by rw [settled_get, if_neg (by decide)]) h1.ss
      ls := .inr ⟨fs, hfs, by rw [settled_get, if_pos rfl, List.append_nil], short_nil k⟩
      ok := hx2
      num := fun j hj => by
        rw [List.getElem_take, List.getElem_drop, h1.num]
        omega
      lo := Nat.le_refl _, hi := Nat.le_add_right _ _, q := by simp only [List.length_take, List.length_drop]; omega }
  · rw [e]
    simp only [bind_some]
    rw [if_neg (by simp), if_neg (by simp), if_pos (room_of (by simp; omega) (by omega)), if_pos (room_of (by simp; omega) (by omega))]
    exact ⟨_, rfl, .inr ⟨_, t, v, a, b, s, _, m, rfl, by simp; omega, hxs, k1⟩⟩
  · rw [e]
    simp only [bind_some]
    rw [if_neg (by simp), if_neg (by simp), if_pos (room_of (by simp; omega) (by omega)), if_pos (room_of (by simp; omega) (by omega))]
    exact ⟨_, rfl, .inr ⟨_, t, v, a, b, s, _, uns m fL fs.flatten, rfl, by simp; omega, hxs, k2⟩⟩

theorem step4 (hk : 2000 < k) {i : Nat} (hi : i < 20) {z : Z9} (h : CleanZ k i z) (act : T_glacierlaw09_Act) (hK : act.Kind = 4) :
    ∃ z', stepP k y0 act z.1 z.2.1 z.2.2.1 z.2.2.2.1 z.2.2.2.2.1 z.2.2.2.2.2.1 z.2.2.2.2.2.2.1 z.2.2.2.2.2.2.2.1 z.2.2.2.2.2.2.2.2.1 z.2.2.2.2.2.2.2.2.2.1 z.2.2.2.2.2.2.2.2.2.2 = some (Flow.go z') ∧ (CleanZ k (i + 1) z' ∨ SickZ k (i + 1) z') := by
  obtain ⟨t, v, a, b, s, c0, L, B, f, m, rfl, h1, h2, h3, h4, h5, h6⟩ := h
  obtain ⟨N, hN, eN⟩ := clamp act.N 1000
  obtain ⟨M, hM, eM⟩ := clamp act.M 5
  have eN' : mn2 (mx2 act.N 0) (1000 : Int) = (N : Int) := eN
  have eM' : mn2 (mx2 act.M 0) (5 : Int) = (M : Int) := eM
  have hs1 := h1.mono k (Q' := 4 * (i + 1)) (by omega)
  have hxs := says_x k h1 (by omega)
  have hq := h1.q
  have hlo := h1.lo
  have hhi := h1.hi
  have hlen : (L.drop (a - c0)).length = c0 + L.length - a := by rw [List.length_drop]; omega
  dsimp only
  unfold stepP
  rw [if_neg (by simp)]
  simp only [bind_some]
  obtain ⟨b', s', hb', hs', em⟩ := may4 k t v a b s (L.drop (a - c0)) hxs.1 hxs.2.1 hxs.2.2.1 hxs.2.2.2 ⟨act.Kind, (N : Int), (M : Int), act.S, act.Texts, act.Choice⟩ (by simp [hK]) (by simp [hK]) (by simp [hK]) N rfl
  generalize hn : min N (L.drop (a - c0)).length = n at em
  have hnl : n ≤ (L.drop (a - c0)).length := by omega
  have hdd : (L.drop (a - c0)).drop n = L.drop (a + n - c0) := by rw [List.drop_drop]; congr 1; omega
  rw [if_neg (by simp), eN', eM', show (T_glacierref09_State.mk (t : Int) (v : Int) (a : Int) (b : Int) s ((L.drop (a - c0)).map toR)) = mk9 t v a b s (L.drop (a - c0)) from rfl, em, hdd]
  simp only [bind_some]
  have hl3 : (L.drop (a + n - c0)).length ≤ 100 := by rw [List.length_drop]; omega
  rw [if_neg (by simp [hK]), if_neg (by simp [hK]), if_neg (by simp [hK]), if_pos (by simpa using hK), entries_eq k hk _ (by omega)]
  simp only [bind_some]
  obtain ⟨fs0, g1, g2, g3, g4⟩ := log_len k h1
  have hx2 : ∀ x ∈ L.drop (a + n - c0), EOk x := fun x hx => h1.ok x (List.mem_of_mem_drop hx)
  have hle : flen (L.drop (a + n - c0)) ≤ (fileAt m fL).safe.s.length := by rw [g3, g4]; exact flen_drop _ _
  obtain ⟨c, fs, hc, hcl, hcl2, hfs, ho⟩ := saveSnap_gen k hk 100000 f h5 h6 h2 (a + n) b' (by omega) hb' (s := s') (by omega) (l := L.drop (a + n - c0)) hl3 hx2 hle (by omega) (by omega)
  have hu := uns_W h2.som fS c
  have hsw := settled_W h2.som fS c
  have hm1 := settled_wf h2 (n := fS) (c := c) (by simp) (by omega)
  -- the disk with the new snapshot
  have hS1 : Says k (4 * (i + 1)) (settled m fS c) t v (a + n) b' s' c0 L [] :=
    { hs1 with
      set := settled_set h1.set fS c, ts := ts_of k (by rw [settled_get, if_neg (by decide)]) h1.ts, ls := ls_of k (by rw [settled_get, if_neg (by decide)]) h1.ls
      ss := .inr (.inr ⟨c, hc, by rw [settled_get, if_pos rfl], by omega, hb', by omega⟩), lo := by omega, hi := by omega, bb := hb', bs := hs' }
  have hat : fileAt (settled m fS c) fL = fileAt m fL := by unfold fileAt; rw [settled_get, if_neg (by decide)]
  have hfl := frs_flen k hfs
  have hfl2 := flen_le hx2
  rw [show ((mk9 t v (a + n) b' s' (L.drop (a + n - c0))).Base) = ((a + n : Nat) : Int) from rfl, show ((mk9 t v (a + n) b' s' (L.drop (a + n - c0))).BaseTerm) = (b' : Int) from rfl, show ((mk9 t v (a + n) b' s' (L.drop (a + n - c0))).Snap) = s' from rfl]
  obtain ⟨k1, k2⟩ := sick_of k hk hi hs1 h2 (by omega) (by omega) (n := fS) (c := c) (by simp) (by omega) (by omega) (([mk9 t v a b s (L.drop (a - c0))] ++ []) ++ [mk9 t v (a + n) b' s' (L.drop (a + n - c0))]) (by simp) (fun M' q1 q2 q3 => by
    rcases says_snap k hs1 (a' := a + n) (by omega) (by omega) hb' hs' (by omega) hc q1 q2 q3 with r | r
    · exact ⟨_, _, _, _, _, _, _, _, r, by simp, by simp⟩
    · exact ⟨_, _, _, _, _, _, _, _, r, by simp, by simp⟩)
  have hu2 := uns_W hm1.som fL fs.flatten
  have hsw2 := settled_W hm1.som fL fs.flatten
  rw [hat] at hu2
  have htk : (L.drop (a + n - c0)).take (L.drop (a + n - c0)).length = L.drop (a + n - c0) := List.take_length
  obtain ⟨k3, k4⟩ := sick_of k hk hi hS1 hm1 (by omega) (by omega) (n := fL) (c := fs.flatten) (by simp) (by omega) (by omega) (([mk9 t v a b s (L.drop (a - c0))] ++ []) ++ [mk9 t v (a + n) b' s' (L.drop (a + n - c0))]) (by simp) (fun M' q1 q2 q3 => by
    rcases says_rewrite k hS1 (N := (L.drop (a + n - c0)).length) (by rw [htk]; exact hfs) (by rw [htk, hat]; exact hle) q1 q2 q3 with r | r
    · exact ⟨_, _, _, _, _, _, _, _, r, by simp, by simp⟩
    · rw [htk] at r
      exact ⟨_, _, _, _, _, _, _, _, r, by simp, by rw [Nat.sub_self, List.drop_zero]; simp⟩)
  rcases ho with (e | e) | ⟨f', p1, p2, e⟩ | e | e
  · rw [e]
    simp only [bind_some]
    rw [if_neg (by simp), if_neg (by simp), if_pos (room_of (by simp) (by omega)), if_pos (room_of (by simp) (by omega))]
    exact ⟨_, rfl, .inr ⟨_, t, v, a, b, s, _, m, rfl, by simp, hxs, k1⟩⟩
  · rw [e]
    simp only [bind_some]
    rw [if_neg (by simp), if_neg (by simp), if_pos (room_of (by simp) (by omega)), if_pos (room_of (by simp) (by omega))]
    exact ⟨_, rfl, .inr ⟨_, t, v, a, b, s, _, uns m fS c, rfl, by simp, hxs, k2⟩⟩
  · rw [e]
    simp only [bind_some]
    rw [if_pos (by simp)]
    refine ⟨_, rfl, .inl ⟨t, v, a + n, b', s', a + n, L.drop (a + n - c0), B + 1 + 1, f', settled (settled m fS c) fL fs.flatten, by rw [Nat.sub_self, List.drop_zero]; rfl, ?_, settled_wf hm1 (by simp) (by omega), by omega, by omega, p1, p2⟩⟩
    exact { hS1 with
      set := settled_set hS1.set fL _, ts := ts_of k (by rw [settled_get, if_neg (by decide)]) hS1.ts, ss := ss_of k (by rw [settled_get, if_neg (by decide)]) hS1.ss
      ls := .inr ⟨fs, hfs, by rw [settled_get, if_pos rfl, List.append_nil], short_nil k⟩
      ok := hx2
      num := fun j hj => by
        rw [List.getElem_drop, h1.num]
        omega
      lo := Nat.le_refl _, hi := Nat.le_add_right _ _, q := by simp only [List.length_drop]; omega }
  · rw [e]
    simp only [bind_some]
    rw [if_neg (by simp), if_neg (by simp), if_pos (room_of (by simp) (by omega)), if_pos (room_of (by simp) (by omega))]
    exact ⟨_, rfl, .inr ⟨_, t, v, a, b, s, _, settled m fS c, rfl, by simp, hxs, k3⟩⟩
  · rw [e]
    simp only [bind_some]
    rw [if_neg (by simp), if_neg (by simp), if_pos (room_of (by simp) (by omega)), if_pos (room_of (by simp) (by omega))]
    exact ⟨_, rfl, .inr ⟨_, t, v, a, b, s, _, uns (settled m fS c) fL fs.flatten, rfl, by simp, hxs, k4⟩⟩

/-- behind the crash: Load finds one that may be -/
theorem after_crash (hk : 2000 < k) {i : Nat} (hi : i < 20) (all : List T_glacierref09_State) (hal : all.length ≤ 1000) (x6 : Int) {u0 : Int} {m0 : FM} {ch : List Int} {M' : FM} {t v a b : Nat} {s : List UInt8} {c0 : Nat} {L : List T_term_Entry} {p : List UInt8} {B : Nat}
    (hc : platter_Disk_Crash k 100000 u0 false x6 m0 ch = some ((W M' : Int), M')) (hw : WF B 900000 M') (hB : B ≤ 8 * i) (hW : W M' ≤ 4500 * i) (hp : p.length ≤ 1100) (hs : Says k (4 * i) M' t v a b s c0 L p) (hin : mk9 t v a b s (L.drop (a - c0)) ∈ all) :
    ∃ z' : Z9, (Option.bind (platter_Disk_Crash k y0.1 u0 y0.2.2.1 x6 m0 ch) fun y53 => (Option.bind (meter_Luck_Fail k y0.1 y53.1 y0.2.2.1 x6 y53.2 (-1)) fun y54 => (Option.bind (term_Load k y0.1 y53.1 y0.2.2.1 y54 y53.2) fun y55 => (if (y55.2.2.1 != 0) = true then some (Flow.ret (false)) else (Option.bind (glacierlaw09_TermPlays_l2 k all y55 k false (0 : Int)) fun y56 => (if (!y56) = true then some (Flow.ret (false)) else (Option.bind (glacierlaw09_Told k (T_term_State.mk y55.2.1.Term y55.2.1.Vote y55.2.1.Base y55.2.1.BaseTerm y55.2.1.Snap y55.1)) fun y60 => some (Flow.go (([(T_glacierref09_State.mk y60.2.Term y60.2.Vote y60.2.Base y60.2.BaseTerm y60.2.Snap y60.1)], false, y60.2.Term, y60.2.Vote, y60.2.Base, y60.2.BaseTerm, y60.2.Snap, y60.1, y55.2.2.2.1, y55.2.2.2.2.1, y55.2.2.2.2.2) : Z9))))))))) = some (Flow.go z') ∧ CleanZ k (i + 1) z' := by
  have hq := hs.q
  have hlo := hs.lo
  have hhi := hs.hi
  rw [show platter_Disk_Crash k y0.1 u0 y0.2.2.1 x6 m0 ch = some ((W M' : Int), M') from hc]
  simp only [bind_some]
  rw [show ∀ (u : Int), meter_Luck_Fail k y0.1 u y0.2.2.1 x6 M' (-1) = some 0 from fun u => by unfold meter_Luck_Fail; rfl]
  simp only [bind_some]
  obtain ⟨M2, e, w2, q2, g2, l2⟩ := load_gen k hk 100000 hw hs.ts hs.ss hs.ls (by omega) hs.ok (by omega) (by omega) (by omega)
  rw [beh_from hs.num hs.lo hs.hi] at e
  rw [show term_Load k y0.1 (W M' : Int) y0.2.2.1 0 M' = _ from e]
  simp only [bind_some]
  rw [if_neg (by simp)]
  have hl : (L.drop (a - c0)).length ≤ 1000 := by rw [List.length_drop]; omega
  have hf := found_l k hk all hal (L.drop (a - c0), ⟨(t : Int), (v : Int), (a : Int), (b : Int), s, L.drop (a - c0)⟩, 0, (W M2 : Int), 0, M2) (t := t) (v := v) (a := a) (b := b) (s := s) (lg := L.drop (a - c0)) hl rfl k 0 false (by omega) (by omega) (.inr (by rw [List.drop_zero]; exact hin))
  rw [show ((0 : Nat) : Int) = 0 from rfl] at hf
  rw [hf]
  simp only [bind_some]
  rw [if_neg (by simp), told_eq k hk t v a b s (L.drop (a - c0)) hl]
  simp only [bind_some]
  refine ⟨_, rfl, t, v, a, b, s, c0, L, B + 1, 0, M2, rfl, ?_, w2, by omega, by omega, by omega, by omega⟩
  have hset : Set M2 := fun n g hg => by
    by_cases hn : n = fL
    · subst hn
      rcases l2 with ⟨z1, _⟩ | ⟨fs, _, z1, _⟩
      · rw [z1] at hg; cases hg
      · rw [z1] at hg
        simp only [Option.some.injEq] at hg
        rw [← hg]
        exact ⟨rfl, rfl⟩
    · rw [g2 n hn] at hg
      exact hs.set n g hg
  exact { hs with set := hset, ts := ts_of k (g2 fT (by decide)) hs.ts, ss := ss_of k (g2 fS (by decide)) hs.ss, ls := l2, q := by omega }

theorem step_rest (hk : 2000 < k) {i : Nat} (hi : i < 20) {z : Z9} (h : CleanZ k i z) (act : T_glacierlaw09_Act) (n1 : act.Kind ≠ 1) (n2 : act.Kind ≠ 2) (n3 : act.Kind ≠ 3) (n4 : act.Kind ≠ 4) :
    ∃ z', stepP k y0 act z.1 z.2.1 z.2.2.1 z.2.2.2.1 z.2.2.2.2.1 z.2.2.2.2.2.1 z.2.2.2.2.2.2.1 z.2.2.2.2.2.2.2.1 z.2.2.2.2.2.2.2.2.1 z.2.2.2.2.2.2.2.2.2.1 z.2.2.2.2.2.2.2.2.2.2 = some (Flow.go z') ∧ (CleanZ k (i + 1) z' ∨ SickZ k (i + 1) z') := by
  have hnext := h.next
  obtain ⟨t, v, a, b, s, c0, L, B, f, m, rfl, h1, h2, h3, h4, h5, h6⟩ := h
  obtain ⟨N, hN, eN⟩ := clamp act.N 1000
  obtain ⟨M, hM, eM⟩ := clamp act.M 5
  have eN' : mn2 (mx2 act.N 0) (1000 : Int) = (N : Int) := eN
  have eM' : mn2 (mx2 act.M 0) (5 : Int) = (M : Int) := eM
  have hxs := says_x k h1 (by omega)
  obtain ⟨b', s', hb', hs', em⟩ := may4 k t v a b s (L.drop (a - c0)) hxs.1 hxs.2.1 hxs.2.2.1 hxs.2.2.2 ⟨act.Kind, (N : Int), (M : Int), act.S, act.Texts, act.Choice⟩ n1 n2 n3 N rfl
  dsimp only at hnext ⊢
  unfold stepP
  rw [if_neg (by simp)]
  simp only [bind_some]
  rw [if_neg (by simp), eN', eM', show (T_glacierref09_State.mk (t : Int) (v : Int) (a : Int) (b : Int) s ((L.drop (a - c0)).map toR)) = mk9 t v a b s (L.drop (a - c0)) from rfl, em]
  simp only [bind_some]
  rw [if_neg (by simpa using n1), if_neg (by simpa using n2), if_neg (by simpa using n3), if_neg (by simpa using n4)]
  by_cases n5 : act.Kind = 5
  · rw [if_pos (by simpa using n5)]
    obtain ⟨z', e, hz⟩ := after_crash k hk hi [mk9 t v a b s (L.drop (a - c0))] (by simp) f (crash_set k 100000 f act.Choice h2 h1.set (by omega) (by omega)) h2 h3 h4 (p := []) (by simp) h1 (by simp)
    exact ⟨z', e, .inl hz⟩
  · rw [if_neg (by simpa using n5)]
    by_cases n6 : act.Kind = 6
    · rw [if_pos (by simpa using n6)]
      have hf : ∃ f', 0 ≤ f' ∧ f' ≤ 2000000000 ∧ meter_Luck_Fail k y0.1 (W m : Int) y0.2.2.1 f m ((N : Int).tmod 6) = some f' := by
        have hm : (N : Int).tmod 6 = (N : Int) % 6 := Int.tmod_eq_emod_of_nonneg (by omega)
        unfold meter_Luck_Fail
        refine ⟨_, ?_, ?_, rfl⟩ <;> (rw [hm]; unfold mn2 mx2; split <;> split <;> (rw [wr (by omega)]; omega))
      obtain ⟨f', p1, p2, e⟩ := hf
      rw [e]
      exact ⟨_, rfl, .inl ⟨t, v, a, b, s, c0, L, B, f', m, rfl, h1.mono k (by omega), h2, by omega, by omega, p1, p2⟩⟩
    · rw [if_neg (by simpa using n6)]
      exact ⟨_, rfl, .inl hnext⟩

theorem step_sick (hk : 2000 < k) {i : Nat} (hi : i < 20) {z : Z9} (h : SickZ k i z) (act : T_glacierlaw09_Act) :
    ∃ z', stepP k y0 act z.1 z.2.1 z.2.2.1 z.2.2.2.1 z.2.2.2.2.1 z.2.2.2.2.2.1 z.2.2.2.2.2.2.1 z.2.2.2.2.2.2.2.1 z.2.2.2.2.2.2.2.2.1 z.2.2.2.2.2.2.2.2.2.1 z.2.2.2.2.2.2.2.2.2.2 = some (Flow.go z') ∧ (CleanZ k (i + 1) z' ∨ SickZ k (i + 1) z') := by
  have hnext := h.next
  obtain ⟨all, t, v, a, b, s, lg, m, rfl, h1, h2, h3⟩ := h
  dsimp only at hnext ⊢
  unfold stepP
  rw [if_pos rfl]
  simp only [bind_some]
  by_cases n5 : act.Kind = 5
  · obtain ⟨N, hN, eN⟩ := clamp act.N 1000
    obtain ⟨M, hM, eM⟩ := clamp act.M 5
    have eN' : mn2 (mx2 act.N 0) (1000 : Int) = (N : Int) := eN
    have eM' : mn2 (mx2 act.M 0) (5 : Int) = (M : Int) := eM
    obtain ⟨b', s', hb', hs', em⟩ := may4 k t v a b s lg h2.1 h2.2.1 h2.2.2.1 h2.2.2.2 ⟨act.Kind, (N : Int), (M : Int), act.S, act.Texts, act.Choice⟩ (by simp [n5]) (by simp [n5]) (by simp [n5]) N rfl
    rw [if_neg (by simp [n5]), eN', eM', show (T_glacierref09_State.mk (t : Int) (v : Int) (a : Int) (b : Int) s (lg.map toR)) = mk9 t v a b s lg from rfl, em]
    simp only [bind_some]
    rw [if_neg (by simp [n5]), if_neg (by simp [n5]), if_neg (by simp [n5]), if_neg (by simp [n5]), if_pos (by simpa using n5)]
    obtain ⟨M', t, v, a, b, s, c0, L, p, B, q1, q2, q3, q4, q5, q6, q7⟩ := h3 act.Choice
    obtain ⟨z', e, hz⟩ := after_crash k hk hi all h1 0 q1 q2 q3 q4 q5 q6 q7
    exact ⟨z', e, .inl hz⟩
  · rw [if_pos (by simpa using n5)]
    exact ⟨_, rfl, .inr hnext⟩

theorem step_any (hk : 2000 < k) {i : Nat} (hi : i < 20) {z : Z9} (h : CleanZ k i z ∨ SickZ k i z) (act : T_glacierlaw09_Act) :
    ∃ z', stepP k y0 act z.1 z.2.1 z.2.2.1 z.2.2.2.1 z.2.2.2.2.1 z.2.2.2.2.2.1 z.2.2.2.2.2.2.1 z.2.2.2.2.2.2.2.1 z.2.2.2.2.2.2.2.2.1 z.2.2.2.2.2.2.2.2.2.1 z.2.2.2.2.2.2.2.2.2.2 = some (Flow.go z') ∧ (CleanZ k (i + 1) z' ∨ SickZ k (i + 1) z') := by
  rcases h with h | h
  · by_cases n1 : act.Kind = 1
    · exact step1 k hk hi h act n1
    by_cases n2 : act.Kind = 2
    · exact step2 k hk hi h act n2
    by_cases n3 : act.Kind = 3
    · exact step3 k hk hi h act n3
    by_cases n4 : act.Kind = 4
    · exact step4 k hk hi h act n4
    exact step_rest k hk hi h act n1 n2 n3 n4
  · exact step_sick k hk hi h act

theorem plays_loop (hk : 2000 < k) (x1 : List T_glacierlaw09_Act) : ∀ (j i : Nat) (z : Z9), i ≤ 20 → 20 - i < j → (CleanZ k i z ∨ SickZ k i z) →
    ∃ r, glacierlaw09_TermPlays_l1 k x1 y0 j z.1 z.2.1 (i : Int) z.2.2.1 z.2.2.2.1 z.2.2.2.2.1 z.2.2.2.2.2.1 z.2.2.2.2.2.2.1 z.2.2.2.2.2.2.2.1 z.2.2.2.2.2.2.2.2.1 z.2.2.2.2.2.2.2.2.2.1 z.2.2.2.2.2.2.2.2.2.2 = some (Flow.go r)
  | 0, i, _, _, hj, _ => by omega
  | j + 1, i, z, hi, hj, h => by
    rw [l1_succ]
    by_cases hh : i < x1.length ∧ i < 20
    · obtain ⟨h1, h2⟩ := hh
      rw [if_pos (by simpa using h1)]
      simp only [bind_some]
      rw [if_pos (by simp; omega), gtL h1]
      simp only [bind_some]
      obtain ⟨z', e, hz⟩ := step_any k hk h2 h x1[i]
      rw [e]
      simp only [bind_some]
      rw [wrN i (by omega)]
      exact plays_loop hk x1 j (i + 1) z' (by omega) (by omega) hz
    · have : (if decide ((i : Int) < (x1.length : Int)) = true then some (decide ((i : Int) < 20)) else some (false)) = some false := by
        by_cases h1 : i < x1.length
        · rw [if_pos (by simpa using h1)]
          have : ¬ i < 20 := fun h3 => hh ⟨h1, h3⟩
          congr 1; simp; omega
        · rw [if_neg (by simpa using h1)]
      rw [this]
      exact ⟨_, rfl⟩

theorem plays_main (hk : 2000 < k) (hak : glacierlaw09_awake k = some true) (x1 : List T_glacierlaw09_Act) : glacierlaw09_TermPlays k x1 = some true := by
  unfold glacierlaw09_TermPlays
  rw [show platter_New k 100000 = some y0 from newK k 100000]
  simp only [bind_some]
  rw [hak]
  simp only [bind_some]
  rw [if_neg (by simp)]
  simp only [bind_some]
  rw [if_neg (by simp)]
  have hS : Says k (4 * 0) [] 0 0 0 0 [] 0 [] [] :=
    { set := (fun n f h => by cases h), ts := .inl ⟨rfl, rfl, rfl⟩, ss := .inl ⟨rfl, rfl, rfl, rfl⟩, ls := .inl ⟨rfl, rfl, rfl⟩, ok := (fun x h => by cases h), num := (fun i h => by simp at h), lo := Nat.le_refl _, hi := Nat.le_refl _, q := Nat.le_refl _, bt := by omega, bv := by omega, bb := by omega, bs := by simp }
  obtain ⟨r, e⟩ := plays_loop k hk x1 k 0 ([mk9 0 0 0 0 [] []], false, 0, 0, 0, 0, [], [], 0, 0, []) (by omega) (by omega) (.inl ⟨0, 0, 0, 0, [], 0, [], 0, 0, [], rfl, hS, WF.nil _, by omega, by simp [W], by omega, by omega⟩)
  have e' : glacierlaw09_TermPlays_l1 k x1 y0 k [(T_glacierref09_State.mk 0 0 0 0 ([]) ([]))] false (0 : Int) (0 : Int) (0 : Int) (0 : Int) (0 : Int) ([]) ([]) y0.2.1 y0.2.2.2.1 y0.2.2.2.2 = some (Flow.go r) := e
  rw [e']
  rfl
end

theorem plays_plain (x1 : List T_glacierlaw09_Act) : ∃ k, glacierlaw09_TermPlays k x1 = some true := ⟨3000, plays_main 3000 (by omega) awake9 x1⟩
theorem termPlays_holds : Rows.TermPlaysSaid := termPlays_row fun x0 _ => plays_plain x0
end Go.Proofs.Ythmjdekmacoaaaa
