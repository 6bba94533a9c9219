/-
  TeD: frames that are torn; Load behind a crash; a crash of a disk of which one file is not safe. Own work.
-/
import Derived.Test.YthmjdekmacoaaaaTeCTY
import Derived.Test.YthmjdekmacoaaaaPlXTY
namespace Go.Proofs.Ythmjdekmacoaaaa
open Go.Hx

section
variable (k : Nat)

def Short (c : List UInt8) : Prop := seal_Open k c = some ([], 0, 2)
theorem short_nil : Short k [] := open_nil k
theorem open_short {t f : List UInt8} (h : Fr k t f) (h2 : t.length < 900000) {j : Nat} (hj : j < f.length) : Short k (f.take j) := by
  have hl := h.len
  obtain ⟨σ, hσ, hs, rfl⟩ := h
  unfold Short seal_Open
  have hlen : ((fb t.length ++ fb σ ++ t).take j).length = j := by rw [List.length_take]; omega
  by_cases h8 : j < 8
  · rw [hlen, if_pos (by rw [decide_eq_true_eq]; omega)]
  · rw [hlen, if_neg (by rw [decide_eq_true_eq]; omega)]
    have e : (fb t.length ++ fb σ ++ t).take j = fb t.length ++ ((fb σ ++ t).take (j - 4)) := by
      rw [List.append_assoc, List.take_append]
      rw [List.take_of_length_le (by simp [fb_len]; omega), fb_len]
    rw [e, number_at k _ (by omega)]
    simp only [bind_some]
    rw [wr (n := (t.length : Int)) (by omega), if_neg (by simp; omega), wr (by omega), if_pos (by simp; omega)]

theorem scan_tail_loop (x p : List UInt8) (hx : x.length < 1000000) (hp : Short k p) : ∀ (ts fs : List (List UInt8)) (j at' : Nat) (acc : List (List UInt8)), ts.length < j → at' ≤ x.length → acc.length + ts.length ≤ 900000 → All2 (fun t f => Fr k t f ∧ t.length < 900000) ts fs → x.drop at' = fs.flatten ++ p →
    seal_Scan_l1 k x j acc (at' : Int) = some (Flow.ret (acc ++ ts, ((x.length - p.length : Nat) : Int)))
  | [], fs, 0, _, _, hj, _, _, _, _ => by simp at hj
  | [], fs, j + 1, at', acc, _, ha, _, hf, hd => by
    cases fs with
    | cons _ _ => exact hf.elim
    | nil =>
      have hl : x.length - at' = p.length := by
        have := congrArg List.length hd
        simpa using this
      rw [seal_Scan_l1, sl_of _ (by omega) (by omega) (by omega)]
      simp only [bind_some]
      rw [Int.toNat_natCast, Int.toNat_natCast, List.take_of_length_le (Nat.le_refl _), hd, show ([] : List (List UInt8)).flatten ++ p = p from rfl, hp]
      simp only [bind_some]
      rw [if_pos (by simp), List.append_nil, show at' = x.length - p.length by omega]
  | t :: ts, fs, 0, _, _, hj, _, _, _, _ => by simp at hj
  | t :: ts, fs, j + 1, at', acc, hj, ha, hl, hf, hd => by
    cases fs with
    | nil => exact hf.elim
    | cons f fs =>
      obtain ⟨⟨hf1, hf2⟩, hf3⟩ := hf
      have hlen : (x.drop at').length = f.length + (fs.flatten ++ p).length := by rw [hd]; simp
      rw [List.length_drop] at hlen
      have hfl := hf1.len
      rw [seal_Scan_l1, sl_of _ (by omega) (by omega) (by omega)]
      simp only [bind_some]
      rw [Int.toNat_natCast, Int.toNat_natCast, List.take_of_length_le (Nat.le_refl _), hd, List.flatten_cons, List.append_assoc, open_at k hf1 hf2 _ (by omega)]
      simp only [bind_some]
      rw [if_neg (by simp), if_pos (room_of (by simp at hl ⊢; omega) (by omega)), wr (by omega), show ((at' : Int) + (f.length : Int)) = ((at' + f.length : Nat) : Int) by omega]
      rw [scan_tail_loop x p hx hp ts fs j (at' + f.length) (acc ++ [t]) (by simpa using hj) (by omega) (by simp at hl ⊢; omega) hf3 (by rw [← List.drop_drop, hd, List.flatten_cons, List.append_assoc, List.drop_left])]
      simp

theorem frs_all : ∀ (l : List T_term_Entry) (fs : List (List UInt8)), Frs k l fs → (∀ x ∈ l, EOk x) → All2 (fun t f => Fr k t f ∧ t.length < 900000) (l.map eb) fs
  | [], [], _, _ => trivial
  | [], _ :: _, h, _ => h.elim
  | _ :: _, [], h, _ => h.elim
  | x :: l, f :: fs, h, hx => by
    have := eb_len (hx x List.mem_cons_self)
    exact ⟨⟨h.1, by omega⟩, frs_all l fs h.2 fun y hy => hx y (List.mem_cons_of_mem _ hy)⟩

abbrev TT (c : List UInt8) : Option (Option T_platter_file) := some (some ⟨⟨true, c⟩, ⟨true, c⟩⟩)

/-- a file has something, not for sure -/
def uns (m : FM) (n c : List UInt8) : FM := mput m n (some ⟨⟨true, c⟩, (fileAt m n).safe⟩)

/-- a step that keeps a file: done, or nothing, or not for sure -/
def settled (m : FM) (n c : List UInt8) : FM := mput (uns m n c) n (some ⟨⟨true, c⟩, ⟨true, c⟩⟩)
theorem settled_get (m : FM) (n c n' : List UInt8) : mget (settled m n c) n' = if n' = n then TT c else mget m n' := by
  unfold settled uns
  rw [mget_mput, mget_mput]
  split <;> rfl
theorem settled_wf {B : Nat} {m : FM} (h : WF B 900000 m) {n c : List UInt8} (hn : n.length ≤ 10) (hc : c.length ≤ 900000) : WF (B + 1) 900000 (settled m n c) :=
  (h.put hn (f := ⟨⟨true, c⟩, (fileAt m n).safe⟩) hc (h.at n).2).put_in (mget_self _ _ _) hc hc
theorem uns_W {m : FM} (h : Som m) (n c : List UInt8) : W (uns m n c) ≤ W m + (c.length - (fileAt m n).safe.s.length) := by
  have e1 := W_mput h n ⟨⟨true, c⟩, (fileAt m n).safe⟩
  have e2 : wt ⟨⟨true, c⟩, (fileAt m n).safe⟩ ≤ wt (fileAt m n) + (c.length - (fileAt m n).safe.s.length) := by simp only [wt]; omega
  unfold uns
  omega
theorem settled_W {m : FM} (h : Som m) (n c : List UInt8) : W (settled m n c) ≤ W (uns m n c) := by
  have hs : Som (uns m n c) := h.put n _
  have e := W_mput hs n ⟨⟨true, c⟩, ⟨true, c⟩⟩
  rw [show fileAt (uns m n c) n = ⟨⟨true, c⟩, (fileAt m n).safe⟩ from fileAt_some (mget_self _ _ _)] at e
  have e2 : wt ⟨⟨true, c⟩, ⟨true, c⟩⟩ ≤ wt ⟨⟨true, c⟩, (fileAt m n).safe⟩ := by simp only [wt]; omega
  unfold settled
  omega


theorem keep_exact (hk : 20 < k) (room : Int) {m : FM} (h : Som m) {name s : List UInt8} (hn0 : name ≠ []) (hr : room ≤ 1000000) (hW : (W m : Int) + ((s.length - (fileAt m name).safe.s.length : Nat) : Int) ≤ room) :
    term_keep k room (W m : Int) false 0 m name s = some (0, (W (settled m name s) : Int), 0, settled m name s) := by
  have hu := uns_W h name s
  unfold term_keep
  rw [write_ok k room (f := 0) (by omega) h hn0 s hr (by omega) (by show ((W (uns m name s) : Nat) : Int) ≤ room; omega)]
  simp only [bind_some]
  rw [if_neg (by simp), sync_name k hk room (h.put name _) (mget_self _ _ _) rfl (by show ((W (uns m name s) : Nat) : Int) ≤ 1000000; omega)]
  rfl


def TS (m : FM) (t v : Nat) : Prop := (mget m fT = none ∧ t = 0 ∧ v = 0) ∨ (∃ c, Short k c ∧ mget m fT = TT c ∧ t = 0 ∧ v = 0) ∨ ∃ f, Fr k (vb t ++ vb v) f ∧ mget m fT = TT f ∧ t ≤ 1099511627776 ∧ v ≤ 5
def SS (m : FM) (a b : Nat) (s : List UInt8) : Prop := (mget m fS = none ∧ a = 0 ∧ b = 0 ∧ s = []) ∨ (∃ c, Short k c ∧ mget m fS = TT c ∧ a = 0 ∧ b = 0 ∧ s = []) ∨ ∃ f, Fr k (vb a ++ (vb b ++ (vb s.length ++ s))) f ∧ mget m fS = TT f ∧ a ≤ 1099511627776 ∧ b ≤ 1099511627776 ∧ s.length ≤ 1000
def LS (m : FM) (l : List T_term_Entry) (p : List UInt8) : Prop := (mget m fL = none ∧ l = [] ∧ p = []) ∨ ∃ fs, Frs k l fs ∧ mget m fL = TT (fs.flatten ++ p) ∧ Short k p

theorem read_short (room u : Int) {m : FM} (h : Som m) {name c : List UInt8} (hc : Short k c) (hn : mget m name = TT c) : term_read k room u false 0 m name = some ([], 0, 5, 0) := by
  unfold term_read wire_From seal_Only
  rw [read_at k room u (f := 0) (by omega) h, fileAt_some hn]
  simp only [bind_some, if_true]
  rw [if_neg (by simp), hc]
  simp only [bind_some]
  rw [if_neg (by simp)]
  simp only [bind_some]
  rw [if_neg (by simp)]
  simp only [bind_some]
  rw [if_pos (by simp)]
  rfl

theorem load_term2 (hk : 2000 < k) (room u : Int) {m : FM} (h : Som m) {t v : Nat} (h1 : TS k m t v) : ∃ (y22 : List UInt8 × Int × Int × Int) (y23 : Int × List UInt8 × Int × Int × Int), term_read k room u false 0 m fT = some y22 ∧ y22.2.2.2 = 0 ∧
    (if (y22.2.2.1 == 0) = true then (Option.bind (wire_Dec_I k (T_wire_Dec.mk y22.1 y22.2.1) 1099511627776) fun y24 => (Option.bind (wire_Dec_I k (T_wire_Dec.mk y24.2.1 y24.2.2) 5) fun y25 => (Option.bind (wire_Dec_Done k (T_wire_Dec.mk y25.2.1 y25.2.2)) fun y26 => some (y26, y25.2.1, y26, y24.1, y25.1)))) else some (y22.2.2.1, y22.1, y22.2.1, (0 : Int), (0 : Int))) = some y23 ∧
    (if (y23.1 != 0) = true then some ((y23.1 != 5)) else some (false)) = some false ∧ y23.2.2.2.1 = (t : Int) ∧ y23.2.2.2.2 = (v : Int) := by
  rcases h1 with h1 | ⟨c, hc, h1, rfl, rfl⟩ | h1
  · exact load_term k hk room u h (.inl h1)
  · exact ⟨([], 0, 5, 0), (5, [], 0, 0, 0), read_short k room u h hc h1, rfl, by rw [if_neg (by simp)], by rw [if_pos (by simp)]; rfl, rfl, rfl⟩
  · exact load_term k hk room u h (.inr h1)
theorem load_snap2 (hk : 2000 < k) (room u : Int) {m : FM} (h : Som m) {a b : Nat} {s : List UInt8} (h1 : SS k m a b s) : ∃ (y28 : List UInt8 × Int × Int × Int) (y29 : Int × List UInt8 × Int × Int × Int × List UInt8), term_read k room u false 0 m fS = some y28 ∧ y28.2.2.2 = 0 ∧
    (if (y28.2.2.1 == 0) = true then (Option.bind (wire_Dec_I k (T_wire_Dec.mk y28.1 y28.2.1) 1099511627776) fun y30 => (Option.bind (wire_Dec_I k (T_wire_Dec.mk y30.2.1 y30.2.2) 1099511627776) fun y31 => (Option.bind (wire_Dec_S k (T_wire_Dec.mk y31.2.1 y31.2.2) 1000000) fun y32 => (Option.bind (wire_Dec_Done k (T_wire_Dec.mk y32.2.1 y32.2.2)) fun y33 => some (y33, y32.2.1, y33, y30.1, y31.1, y32.1))))) else some (y28.2.2.1, y28.1, y28.2.1, (0 : Int), (0 : Int), [])) = some y29 ∧
    (if (y29.1 != 0) = true then some ((y29.1 != 5)) else some (false)) = some false ∧ y29.2.2.2.1 = (a : Int) ∧ y29.2.2.2.2.1 = (b : Int) ∧ y29.2.2.2.2.2 = s ∧ a ≤ 1099511627776 := by
  rcases h1 with h1 | ⟨c, hc, h1, rfl, rfl, rfl⟩ | ⟨f, h1, h2, h3, h4, h5⟩
  · exact load_snap k hk room u h (.inl h1)
  · exact ⟨([], 0, 5, 0), (5, [], 0, 0, 0, []), read_short k room u h hc h1, rfl, by rw [if_neg (by simp)], by rw [if_pos (by simp)]; rfl, rfl, rfl, rfl, by omega⟩
  · exact load_snap k hk room u h (.inr ⟨f, h1, h2, h3, h4, by omega⟩)

/-- Load, of a disk whose log may have a torn end: the end goes -/
theorem load_gen (hk : 2000 < k) (room : Int) {B : Nat} {m : FM} (h : WF B 900000 m) {t v a b : Nat} {s p : List UInt8} {l : List T_term_Entry} (h1 : TS k m t v) (h2 : SS k m a b s) (h3 : LS k m l p) (hl : l.length ≤ 500) (hx : ∀ x ∈ l, EOk x) (hp : p.length ≤ 100000)
    (hr : room ≤ 1000000) (hW : (W m : Int) ≤ room) :
    ∃ M, term_Load k room (W m : Int) false 0 m = some (beh a l [], ⟨t, v, a, b, s, beh a l []⟩, 0, (W M : Int), 0, M) ∧ WF (B + 1) 900000 M ∧ W M ≤ W m ∧ (∀ n, n ≠ fL → mget M n = mget m n) ∧ LS k M l [] := by
  obtain ⟨y22, y23, a1, a2, a3, a4, a5, a6⟩ := load_term2 k hk room (W m : Int) h.som h1
  obtain ⟨y28, y29, b1, b2, b3, b4, b5, b6, b7, b8⟩ := load_snap2 k hk room (W m : Int) h.som h2
  have hrd := read_at k room (W m : Int) (f := 0) (by omega) h.som fL
  have hfin : ∀ (n : Int) (z4 : Int × Int × FM), term_Load_l1 k y29 (l.map eb, n) z4 k 0 [] = some (Flow.go (beh a l [])) := fun n z4 => by
    have e := load_loop k hk (l.map eb) l rfl (by omega) hx y29 (by rw [b5]; omega) n z4 k 0 [] (by omega) (by omega) (by simp)
    rw [b5] at e
    exact e
  rcases h3 with ⟨h3, rfl, rfl⟩ | ⟨fs, hfs, h3, hsp⟩
  · -- no log
    refine ⟨m, ?_, h.mono (by omega) (Nat.le_refl _), by omega, fun _ _ => rfl, .inl ⟨h3, rfl, rfl⟩⟩
    rw [fileAt_none h3] at hrd
    unfold term_Load
    rw [a1]
    simp only [bind_some]
    rw [a3]
    simp only [bind_some]
    rw [a4]
    simp only [bind_some]
    rw [if_neg (by simp), a2, b1]
    simp only [bind_some]
    rw [b3]
    simp only [bind_some]
    rw [b4]
    simp only [bind_some]
    rw [if_neg (by simp), b2, hrd]
    simp only [bind_some]
    rw [if_pos (by simp [F0])]
    simp only [bind_some]
    rw [if_neg (by simp [F0]), show (if F0.now.there = true then F0.now.s else []) = [] from rfl, show seal_Scan k [] = some ([], 0) from scan_at k (ts := []) (fs := []) trivial (by simp) (by simp only [List.length_nil]; omega) (by simp)]
    simp only [bind_some]
    rw [if_neg (by simp)]
    simp only [bind_some]
    have e := hfin 0 ((W m : Int), 0, m)
    rw [show ([] : List T_term_Entry).map eb = [] from rfl] at e
    rw [e]
    simp only [bind_some]
    rw [a5, a6, b5, b6, b7]
  · rw [fileAt_some h3] at hrd
    have hfl := frs_len k hfs hx
    have hsc : seal_Scan k (fs.flatten ++ p) = some (l.map eb, (fs.flatten.length : Int)) := by
      unfold seal_Scan
      have := scan_tail_loop k (fs.flatten ++ p) p (by simp only [List.length_append]; omega) hsp (l.map eb) fs k 0 [] (by rw [List.length_map]; omega) (by omega) (by rw [List.length_map]; simp; omega) (frs_all k l fs hfs hx) rfl
      rw [show (0 : Int) = ((0 : Nat) : Int) from rfl, this]
      simp only [bind_some, List.nil_append, List.length_append, Nat.add_sub_cancel]
    by_cases hp0 : p = []
    · subst hp0
      refine ⟨m, ?_, h.mono (by omega) (Nat.le_refl _), by omega, fun _ _ => rfl, .inr ⟨fs, hfs, h3, short_nil k⟩⟩
      rw [List.append_nil] at hsc hrd
      unfold term_Load
      rw [a1]
      simp only [bind_some]
      rw [a3]
      simp only [bind_some]
      rw [a4]
      simp only [bind_some]
      rw [if_neg (by simp), a2, b1]
      simp only [bind_some]
      rw [b3]
      simp only [bind_some]
      rw [b4]
      simp only [bind_some]
      rw [if_neg (by simp), b2, hrd]
      simp only [bind_some, if_true]
      rw [if_neg (by simp)]
      simp only [bind_some]
      rw [if_neg (by simp), hsc]
      simp only [bind_some]
      rw [if_neg (by simp)]
      simp only [bind_some]
      rw [hfin]
      simp only [bind_some]
      rw [a5, a6, b5, b6, b7]
    · have hpl : 0 < p.length := List.length_pos_iff.2 hp0
      have hsl : (fileAt m fL).safe.s = fs.flatten ++ p := by rw [fileAt_some h3]
      have hu := uns_W h.som fL fs.flatten
      rw [hsl, List.length_append, show fs.flatten.length - (fs.flatten.length + p.length) = 0 by omega] at hu
      have hsw := settled_W h.som fL fs.flatten
      have e1 := keep_exact k (by omega) room h.som (name := fL) (s := fs.flatten) (by simp) hr (by rw [hsl, List.length_append, show fs.flatten.length - (fs.flatten.length + p.length) = 0 by omega]; omega)
      refine ⟨settled m fL fs.flatten, ?_, settled_wf h (by simp) (by omega), by omega, fun n hn => by rw [settled_get, if_neg hn], .inr ⟨fs, hfs, by rw [settled_get, if_pos rfl, List.append_nil], short_nil k⟩⟩
      unfold term_Load
      rw [a1]
      simp only [bind_some]
      rw [a3]
      simp only [bind_some]
      rw [a4]
      simp only [bind_some]
      rw [if_neg (by simp), a2, b1]
      simp only [bind_some]
      rw [b3]
      simp only [bind_some]
      rw [b4]
      simp only [bind_some]
      rw [if_neg (by simp), b2, hrd]
      simp only [bind_some, if_true]
      rw [if_neg (by simp)]
      simp only [bind_some]
      rw [if_neg (by simp), hsc]
      simp only [bind_some]
      rw [if_pos (by simp only [List.length_append, decide_eq_true_eq]; omega), sl0 _ _ (by simp), List.take_left]
      simp only [bind_some]
      rw [e1]
      simp only [bind_some]
      rw [if_neg (by simp)]
      simp only [bind_some]
      rw [hfin]
      simp only [bind_some]
      rw [a5, a6, b5, b6, b7]
end
end Go.Proofs.Ythmjdekmacoaaaa
