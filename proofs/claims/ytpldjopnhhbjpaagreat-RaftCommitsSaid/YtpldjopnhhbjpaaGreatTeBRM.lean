/-
  TeB: what a node keeps: entries, terms and snapshots as files; Load. Own work.
-/
import Derived.Test.YtpldjopnhhbjpaaGreatPlCRM
import Derived.Test.YtpldjopnhhbjpaaGreatWiBRM
namespace Go.Proofs.YtpldjopnhhbjpaaGreat
open Go.Hx

abbrev fT : List UInt8 := [116, 101, 114, 109]
abbrev fL : List UInt8 := [108, 111, 103]
abbrev fS : List UInt8 := [115, 110, 97, 112]

/-- an entry that fits -/
def EOk (x : T_term_Entry) : Prop := 0 ≤ x.Index ∧ x.Index ≤ 1099511627776 ∧ 0 ≤ x.Term ∧ x.Term ≤ 1099511627776 ∧ x.Cmd.length ≤ 1000
def eb (x : T_term_Entry) : List UInt8 := vb x.Index.toNat ++ (vb x.Term.toNat ++ (vb x.Cmd.length ++ x.Cmd))
theorem eb_len {x : T_term_Entry} (h : EOk x) : (eb x).length ≤ 1021 := by
  obtain ⟨h1, h2, h3, h4, h5⟩ := h
  have a := vb_len x.Index.toNat (by omega)
  have b := vb_len x.Term.toNat (by omega)
  have c := vb_len x.Cmd.length (by omega)
  simp only [eb, List.length_append]; omega

section
variable (k : Nat)

theorem S_one (hk : 20 < k) (acc : List Int) (s : List UInt8) (hs : s.length ≤ 10000) (hl : acc.length ≤ 700000) : wire_Enc_S k ⟨acc⟩ [s] = some (acc ++ vi s.length ++ sB s) := by
  unfold wire_Enc_S
  have l1 := vi_len s.length (by omega)
  have e : ∀ j, wire_Enc_S_l1 k [s] (j + 1 + 1) 0 acc = some (acc ++ vi s.length ++ sB s) := fun j => by
    rw [wire_Enc_S_l1, if_pos (by simp), show gt [s] (0 : Int) = some s from rfl]
    simp only [bind_some]
    rw [show IntKind.u64.wrap (s.length : Int) = (s.length : Int) by rw [u64w]; omega, U_one k hk acc s.length (by omega) (by omega)]
    simp only [bind_some]
    rw [if_pos (room_of (by simp only [List.length_append, sB_len]; omega) (by omega)), wire_Enc_S_l1, if_neg (by rw [wr (by omega)]; simp)]
  obtain ⟨j, hj⟩ : ∃ j, k = j + 1 + 1 := ⟨k - 2, by omega⟩
  have e2 := e j
  rw [← hj] at e2
  rw [e2]
  rfl

theorem spell_at (hk : 2000 < k) {x : T_term_Entry} (h : EOk x) : ∃ f, term_spell k x = some f ∧ Fr k (eb x) f := by
  have hl := eb_len h
  obtain ⟨h1, h2, h3, h4, h5⟩ := h
  obtain ⟨f, hf, hfr⟩ := frame_at k (by omega) (eb x) (by omega) (by omega)
  refine ⟨f, ?_, hfr⟩
  unfold term_spell wire_Enc_Bytes
  have i1 := vi_len x.Index.toNat (by omega)
  have i2 := vi_len x.Term.toNat (by omega)
  have e := I_two k (by omega) [] x.Index.toNat x.Term.toNat (by omega) (by omega) (by simp)
  rw [Int.toNat_of_nonneg h1, Int.toNat_of_nonneg h3] at e
  rw [e]
  simp only [bind_some]
  rw [S_one k (by omega) _ x.Cmd (by omega) (by simp only [List.length_append, List.length_nil]; omega)]
  simp only [bind_some]
  rw [show bS ([] ++ vi x.Index.toNat ++ vi x.Term.toNat ++ vi x.Cmd.length ++ sB x.Cmd) = eb x from by simp [bS_app, bS_sB, eb, vb, List.append_assoc], hf]
  rfl

theorem parse_at (hk : 2000 < k) {x : T_term_Entry} (h : EOk x) : term_parse k (eb x) = some (x, true) := by
  have hl := eb_len h
  obtain ⟨h1, h2, h3, h4, h5⟩ := h
  simp only [eb, List.length_append] at hl
  unfold term_parse wire_From
  simp only [bind_some]
  rw [eb, show (1099511627776 : Int) = ((1099511627776 : Nat) : Int) from rfl, decI_at k (by omega) x.Index.toNat (by omega) 1099511627776 (by omega) (by omega) _ (by simp only [List.length_append]; omega)]
  simp only [bind_some]
  rw [decI_at k (by omega) x.Term.toNat (by omega) 1099511627776 (by omega) (by omega) _ (by simp only [List.length_append]; omega)]
  simp only [bind_some]
  have e := decS_at k (by omega) x.Cmd 100000 (by omega) (by omega) [] (by simp)
  rw [List.append_nil] at e
  rw [show (100000 : Int) = ((100000 : Nat) : Int) from rfl, e]
  simp only [bind_some]
  rw [done_at]
  simp only [bind_some]
  rw [Int.toNat_of_nonneg h1, Int.toNat_of_nonneg h3]
  rfl

def Frs (l : List T_term_Entry) (fs : List (List UInt8)) : Prop := All2 (fun x f => Fr k (eb x) f) l fs

theorem frs_len : ∀ {l : List T_term_Entry} {fs : List (List UInt8)}, Frs k l fs → (∀ x ∈ l, EOk x) → fs.flatten.length ≤ 1100 * l.length
  | [], [], _, _ => by simp
  | x :: l, f :: fs, ⟨h1, h2⟩, h => by
    have := frs_len h2 fun y hy => h y (List.mem_cons_of_mem _ hy)
    have h3 := Fr.len k h1
    have h4 := eb_len (h x List.mem_cons_self)
    simp only [List.flatten_cons, List.length_append, List.length_cons]
    omega
  | [], _ :: _, h, _ => h.elim
  | _ :: _, [], h, _ => h.elim

theorem append_loop (hk : 2000 < k) (l : List T_term_Entry) (hl : l.length ≤ 100) (h : ∀ x ∈ l, EOk x) : ∀ (j i : Nat) (acc : List UInt8), i ≤ l.length → l.length - i < j → acc.length ≤ 1100 * i →
    ∃ fs, term_Append_l1 k l j acc (i : Int) = some (acc ++ fs.flatten) ∧ Frs k (l.drop i) fs
  | 0, i, _, _, hj, _ => by omega
  | j + 1, i, acc, hi, hj, ha => by
    rw [term_Append_l1]
    by_cases hlt : i < l.length
    · rw [if_pos (by simpa using hlt), gtL hlt]
      simp only [bind_some]
      have hx := h l[i] (List.getElem_mem hlt)
      obtain ⟨f, hf, hfr⟩ := spell_at k hk hx
      have h3 := Fr.len k hfr
      have h4 := eb_len hx
      rw [hf]
      simp only [bind_some]
      rw [cat_of (by omega)]
      simp only [bind_some]
      rw [wrN i (by omega)]
      obtain ⟨fs, e, hfs⟩ := append_loop hk l hl h j (i + 1) (acc ++ f) (by omega) (by omega) (by simp only [List.length_append]; omega)
      refine ⟨f :: fs, by rw [e]; simp, ?_⟩
      rw [List.drop_eq_getElem_cons hlt]
      exact ⟨hfr, hfs⟩
    · rw [if_neg (by simpa using hlt)]
      refine ⟨[], by simp, ?_⟩
      rw [List.drop_eq_nil_of_le (by omega)]
      trivial

theorem sync_name (hk : 20 < k) (room : Int) {m : FM} (h : Som m) {name : List UInt8} {f : T_platter_file} (hm : mget m name = some (some f)) (ht : f.now.there = true) (hW : (W m : Int) ≤ 1100000) :
    platter_Disk_Sync k room (W m : Int) false 0 m [name] = some (0, (W (mput m name (some ⟨f.now, f.now⟩)) : Int), 0, mput m name (some ⟨f.now, f.now⟩)) := by
  unfold platter_Disk_Sync
  rw [try0 k room _ (by omega)]
  simp only [bind_some]
  rw [if_neg (by simp), if_neg (by simp)]
  have e1 := W_mput h name ⟨f.now, f.now⟩
  have e2 : wt ⟨f.now, f.now⟩ = f.now.s.length := by unfold wt; simp
  rw [fileAt_some hm] at e1
  have e3 : f.now.s.length ≤ wt f := by unfold wt; omega
  have e4 := wt_le h name
  rw [fileAt_some hm] at e4
  have hl : platter_Disk_Sync_l1 k room false [name] (0, 0) k 0 (W m : Int) m = some ((W (mput m name (some ⟨f.now, f.now⟩)) : Int), mput m name (some ⟨f.now, f.now⟩)) := by
    have e : ∀ j, platter_Disk_Sync_l1 k room false [name] (0, 0) (j + 1 + 1) 0 (W m : Int) m = some ((W (mput m name (some ⟨f.now, f.now⟩)) : Int), mput m name (some ⟨f.now, f.now⟩)) := fun j => by
      rw [platter_Disk_Sync_l1, if_pos (by simp), show gt [name] (0 : Int) = some name from rfl]
      simp only [bind_some]
      rw [get_at k room _ false 0 h, fileAt_some hm]
      simp only [bind_some]
      rw [settle_ok k room _ false 0 hm f.now e3 (by omega) hW, if_pos ht]
      simp only [bind_some]
      rw [platter_Disk_Sync_l1, if_neg (by rw [wr (by omega)]; simp)]
      congr 2
      omega
    obtain ⟨j, hj⟩ : ∃ j, k = j + 1 + 1 := ⟨k - 2, by omega⟩
    have e2 := e j
    rw [← hj] at e2
    exact e2
  rw [hl]
  rfl

/-- what a step that keeps a file leaves -/
def Kept (B : Nat) (m M : FM) (name s : List UInt8) : Prop := WF (B + 1) 900000 M ∧ W M ≤ W m + s.length ∧ ∀ n, mget M n = if n = name then some (some ⟨⟨true, s⟩, ⟨true, s⟩⟩) else mget m n

theorem kept_of {B : Nat} {m : FM} (h : WF B 900000 m) {name s : List UInt8} (hn : name.length ≤ 10) {g : T_platter_text} (hs : s.length ≤ 900000) (hg : g.s.length ≤ 900000) (hw : W (mput m name (some ⟨⟨true, s⟩, g⟩)) ≤ W m + s.length) :
    Kept B m (mput (mput m name (some ⟨⟨true, s⟩, g⟩)) name (some ⟨⟨true, s⟩, ⟨true, s⟩⟩)) name s := by
  have h1 := h.put hn (f := ⟨⟨true, s⟩, g⟩) hs hg
  refine ⟨h1.put_in (mget_self _ _ _) hs hs, ?_, fun n => ?_⟩
  · have e := W_mput h1.som name ⟨⟨true, s⟩, ⟨true, s⟩⟩
    rw [fileAt_some (mget_self _ _ _)] at e
    have e2 : wt ⟨⟨true, s⟩, ⟨true, s⟩⟩ ≤ wt ⟨⟨true, s⟩, g⟩ := by simp only [wt]; omega
    omega
  · rw [mget_mput, mget_mput]
    split <;> rfl

theorem keep_ok (hk : 20 < k) (room : Int) {B : Nat} {m : FM} (h : WF B 900000 m) {name s : List UInt8} (hn : name.length ≤ 10) (hn0 : name ≠ []) (hs : s.length ≤ 900000) (hr : room ≤ 1100000) (hW : (W m : Int) + s.length ≤ room) :
    ∃ M, term_keep k room (W m : Int) false 0 m name s = some (0, (W M : Int), 0, M) ∧ Kept B m M name s := by
  have e1 := W_mput h.som name ⟨⟨true, s⟩, (fileAt m name).safe⟩
  have e2 : wt ⟨⟨true, s⟩, (fileAt m name).safe⟩ ≤ wt (fileAt m name) + s.length := by simp only [wt]; omega
  have hat := h.at name
  have hw : W (mput m name (some ⟨⟨true, s⟩, (fileAt m name).safe⟩)) ≤ W m + s.length := by omega
  refine ⟨_, ?_, kept_of h hn hs hat.2 hw⟩
  unfold term_keep
  rw [write_ok k room (f := 0) (by omega) h.som hn0 s hr (by omega) (by omega)]
  simp only [bind_some]
  rw [if_neg (by simp), sync_name k hk room (h.som.put name _) (mget_self _ _ _) rfl (by omega)]
  rfl

theorem appended_ok (hk : 2000 < k) (room : Int) {B : Nat} {m : FM} (h : WF B 900000 m) {l : List T_term_Entry} (hl : l.length ≤ 100) (hx : ∀ x ∈ l, EOk x) (hs : (fileAt m fL).now.s.length ≤ 500000) (hr : room ≤ 1100000) (hW : (W m : Int) + 1100 * l.length ≤ room) :
    ∃ M fs, term_Append k room (W m : Int) false 0 m l = some (0, (W M : Int), 0, M) ∧ Frs k l fs ∧ WF (B + 1) 900000 M ∧ W M ≤ W m + 1100 * l.length ∧ ∀ n, mget M n = if n = fL then some (some ⟨⟨true, (fileAt m fL).now.s ++ fs.flatten⟩, ⟨true, (fileAt m fL).now.s ++ fs.flatten⟩⟩) else mget m n := by
  obtain ⟨fs, e, hfs⟩ := append_loop k hk l hl hx k 0 [] (by omega) (by omega) (by simp)
  rw [List.drop_zero] at hfs
  have hfl := frs_len k hfs hx
  rw [List.nil_append] at e
  have hat := h.at fL
  have e1 := W_mput h.som fL ⟨⟨true, (fileAt m fL).now.s ++ fs.flatten⟩, (fileAt m fL).safe⟩
  have e2 : wt ⟨⟨true, (fileAt m fL).now.s ++ fs.flatten⟩, (fileAt m fL).safe⟩ ≤ wt (fileAt m fL) + fs.flatten.length := by simp only [wt, List.length_append]; omega
  have hw : W (mput m fL (some ⟨⟨true, (fileAt m fL).now.s ++ fs.flatten⟩, (fileAt m fL).safe⟩)) ≤ W m + fs.flatten.length := by omega
  have h1 := h.put (n := fL) (by simp) (f := ⟨⟨true, (fileAt m fL).now.s ++ fs.flatten⟩, (fileAt m fL).safe⟩) (by simp only [List.length_append]; omega) hat.2
  have e3 := W_mput h1.som fL ⟨⟨true, (fileAt m fL).now.s ++ fs.flatten⟩, ⟨true, (fileAt m fL).now.s ++ fs.flatten⟩⟩
  rw [fileAt_some (mget_self _ _ _)] at e3
  have e4 : wt ⟨⟨true, (fileAt m fL).now.s ++ fs.flatten⟩, ⟨true, (fileAt m fL).now.s ++ fs.flatten⟩⟩ ≤ wt ⟨⟨true, (fileAt m fL).now.s ++ fs.flatten⟩, (fileAt m fL).safe⟩ := by simp only [wt]; omega
  have hgl : ((fileAt m fL).now.s ++ fs.flatten).length ≤ 900000 := by simp only [List.length_append]; omega
  refine ⟨mput (mput m fL (some ⟨⟨true, (fileAt m fL).now.s ++ fs.flatten⟩, (fileAt m fL).safe⟩)) fL (some ⟨⟨true, (fileAt m fL).now.s ++ fs.flatten⟩, ⟨true, (fileAt m fL).now.s ++ fs.flatten⟩⟩), fs, ?_, hfs, h1.put_in (mget_self _ _ _) hgl hgl, by omega, fun n => ?_⟩
  · unfold term_Append
    rw [show (0 : Int) = ((0 : Nat) : Int) from rfl, e]
    simp only [bind_some]
    rw [show ((0 : Nat) : Int) = 0 from rfl, append_ok k room (f := 0) (by omega) h.som (n := fL) (by simp) (by omega) hr (by omega) (by omega)]
    simp only [bind_some]
    rw [if_neg (by simp), sync_name k (by omega) room h1.som (mget_self _ _ _) rfl (by omega)]
    rfl
  · rw [mget_mput, mget_mput]
    split <;> rfl

theorem saveTerm_ok (hk : 2000 < k) (room : Int) {B : Nat} {m : FM} (h : WF B 900000 m) (t v : Nat) (ht : t ≤ 1099511627776) (hv : v ≤ 1099511627776) (hr : room ≤ 1100000) (hW : (W m : Int) + 30 ≤ room) :
    ∃ M f, term_SaveTerm k room (W m : Int) false 0 m (t : Int) (v : Int) = some (0, (W M : Int), 0, M) ∧ Fr k (vb t ++ vb v) f ∧ f.length ≤ 30 ∧ Kept B m M fT f := by
  have l1 := vb_len t (by omega)
  have l2 := vb_len v (by omega)
  obtain ⟨f, hf, hfr⟩ := frame_at k (by omega) (vb t ++ vb v) (by simp only [List.length_append]; omega) (by simp only [List.length_append]; omega)
  have hfl := Fr.len k hfr
  simp only [List.length_append] at hfl
  obtain ⟨M, e, hM⟩ := keep_ok k (by omega) room h (name := fT) (s := f) (by simp) (by simp) (by omega) hr (by omega)
  refine ⟨M, f, ?_, hfr, by omega, hM⟩
  unfold term_SaveTerm wire_Enc_Bytes
  rw [I_two k (by omega) [] t v (by omega) (by omega) (by simp)]
  simp only [bind_some]
  rw [show bS ([] ++ vi t ++ vi v) = vb t ++ vb v from by simp [bS_app, vb], hf]
  simp only [bind_some]
  rw [e]
  rfl

/-! ### what files say -/
def TermOf (m : FM) (t v : Nat) : Prop := (mget m fT = none ∧ t = 0 ∧ v = 0) ∨ ∃ f, Fr k (vb t ++ vb v) f ∧ mget m fT = some (some ⟨⟨true, f⟩, ⟨true, f⟩⟩) ∧ t ≤ 1099511627776 ∧ v ≤ 5
def SnapOf (m : FM) (a b : Nat) (s : List UInt8) : Prop := (mget m fS = none ∧ a = 0 ∧ b = 0 ∧ s = []) ∨ ∃ f, Fr k (vb a ++ (vb b ++ (vb s.length ++ s))) f ∧ mget m fS = some (some ⟨⟨true, f⟩, ⟨true, f⟩⟩) ∧ a ≤ 1099511627776 ∧ b ≤ 1099511627776 ∧ s.length ≤ 10000
def LogOf (m : FM) (l : List T_term_Entry) : Prop := (mget m fL = none ∧ l = []) ∨ ∃ fs, Frs k l fs ∧ mget m fL = some (some ⟨⟨true, fs.flatten⟩, ⟨true, fs.flatten⟩⟩)

/-- the entries that go on behind a number -/
def beh (base : Int) (l acc : List T_term_Entry) : List T_term_Entry := match l with
  | [] => acc
  | x :: l => beh base l (if x.Index = base + acc.length + 1 then acc ++ [x] else acc)

theorem read_none (room u : Int) {m : FM} (h : Som m) {name : List UInt8} (hn : mget m name = none) : term_read k room u false 0 m name = some ([], 0, 5, 0) := by
  unfold term_read
  rw [read_at k room u (f := 0) (by omega) h, fileAt_none hn]
  rfl
theorem read_some (room u : Int) {m : FM} (h : Som m) {name : List UInt8} {t f : List UInt8} (hf : Fr k t f) (ht : t.length < 900000) (hn : mget m name = some (some ⟨⟨true, f⟩, ⟨true, f⟩⟩)) : term_read k room u false 0 m name = some (t, 0, 0, 0) := by
  unfold term_read wire_From
  rw [read_at k room u (f := 0) (by omega) h, fileAt_some hn]
  simp only [bind_some, if_true]
  rw [if_neg (by simp), only_at k hf ht]
  simp only [bind_some]
  rw [if_neg (by simp)]
  rfl

theorem load_loop (hk : 2000 < k) (ts : List (List UInt8)) (l : List T_term_Entry) (hts : ts = l.map eb) (hl : l.length ≤ 1000) (hx : ∀ x ∈ l, EOk x) (y29 : Int × (List UInt8) × Int × Int × Int × (List UInt8)) (hb : 0 ≤ y29.2.2.2.1 ∧ y29.2.2.2.1 ≤ 1099511627776) (n : Int) (z4 : Int × Int × FM) :
    ∀ (j i : Nat) (acc : List T_term_Entry), i ≤ l.length → l.length - i < j → acc.length ≤ i → term_Load_l1 k y29 (ts, n) z4 j (i : Int) acc = some (Flow.go (beh y29.2.2.2.1 (l.drop i) acc))
  | 0, i, _, _, hj, _ => by omega
  | j + 1, i, acc, hi, hj, ha => by
    have hlen : ts.length = l.length := by rw [hts, List.length_map]
    rw [term_Load_l1]
    by_cases hlt : i < l.length
    · have hg : gt ts (i : Int) = some (eb l[i]) := by
        rw [gtL (by omega)]
        congr 1
        subst hts
        rw [List.getElem_map]
      rw [if_pos (by show decide ((i : Int) < (ts.length : Int)) = true; simp; omega)]
      dsimp only
      rw [hg]
      simp only [bind_some]
      rw [parse_at k hk (hx l[i] (List.getElem_mem hlt))]
      simp only [bind_some]
      rw [if_neg (by simp), List.drop_eq_getElem_cons hlt, wr (n := y29.2.2.2.1 + (acc.length : Int)) (by omega), wr (by omega), wrN i (by omega)]
      by_cases hc : l[i].Index = y29.2.2.2.1 + acc.length + 1
      · rw [if_pos (by simpa using hc), if_pos (room_of (by simp; omega) (by omega))]
        simp only [bind_some]
        rw [load_loop hk ts l hts hl hx y29 hb n z4 j (i + 1) (acc ++ [l[i]]) (by omega) (by omega) (by simp; omega), beh, if_pos hc]
      · rw [if_neg (by simpa using hc)]
        simp only [bind_some]
        rw [load_loop hk ts l hts hl hx y29 hb n z4 j (i + 1) acc (by omega) (by omega) (by omega), beh, if_neg hc]
    · rw [if_neg (by show ¬ decide ((i : Int) < (ts.length : Int)) = true; simp; omega), List.drop_eq_nil_of_le (by omega)]
      rfl

theorem load_term (hk : 2000 < k) (room u : Int) {m : FM} (h : Som m) {t v : Nat} (h1 : TermOf k m t v) : ∃ (y22 : List UInt8 × Int × Int × Int) (y23 : Int × List UInt8 × Int × Int × Int), term_read k room u false 0 m fT = some y22 ∧ y22.2.2.2 = 0 ∧
    (if (y22.2.2.1 == 0) = true then (Option.bind (wire_Dec_I k (T_wire_Dec.mk y22.1 y22.2.1) 1099511627776) fun y24 => (Option.bind (wire_Dec_I k (T_wire_Dec.mk y24.2.1 y24.2.2) 5) fun y25 => (Option.bind (wire_Dec_Done k (T_wire_Dec.mk y25.2.1 y25.2.2)) fun y26 => some (y26, y25.2.1, y26, y24.1, y25.1)))) else some (y22.2.2.1, y22.1, y22.2.1, (0 : Int), (0 : Int))) = some y23 ∧
    (if (y23.1 != 0) = true then some ((y23.1 != 5)) else some (false)) = some false ∧ y23.2.2.2.1 = (t : Int) ∧ y23.2.2.2.2 = (v : Int) := by
  rcases h1 with ⟨h1, rfl, rfl⟩ | ⟨f, hf, h1, h2, h3⟩
  · exact ⟨([], 0, 5, 0), (5, [], 0, 0, 0), read_none k room u h h1, rfl, by rw [if_neg (by simp)], by rw [if_pos (by simp)]; rfl, rfl, rfl⟩
  · have l1 := vb_len t (by omega)
    have l2 := vb_len v (by omega)
    refine ⟨(vb t ++ vb v, 0, 0, 0), (0, [], 0, t, v), read_some k room u h hf (by simp only [List.length_append]; omega) h1, rfl, ?_, by rw [if_neg (by simp)], rfl, rfl⟩
    rw [if_pos (by simp), show (1099511627776 : Int) = ((1099511627776 : Nat) : Int) from rfl, decI_at k (by omega) t (by omega) _ h2 (by omega) _ (by omega)]
    simp only [bind_some]
    have e := decI_at k (by omega) v (by omega) 5 h3 (by omega) [] (by simp)
    rw [List.append_nil] at e
    rw [show (5 : Int) = ((5 : Nat) : Int) from rfl, e]
    simp only [bind_some]
    rw [done_at]
    rfl

theorem load_snap (hk : 2000 < k) (room u : Int) {m : FM} (h : Som m) {a b : Nat} {s : List UInt8} (h1 : SnapOf k m a b s) : ∃ (y28 : List UInt8 × Int × Int × Int) (y29 : Int × List UInt8 × Int × Int × Int × List UInt8), term_read k room u false 0 m fS = some y28 ∧ y28.2.2.2 = 0 ∧
    (if (y28.2.2.1 == 0) = true then (Option.bind (wire_Dec_I k (T_wire_Dec.mk y28.1 y28.2.1) 1099511627776) fun y30 => (Option.bind (wire_Dec_I k (T_wire_Dec.mk y30.2.1 y30.2.2) 1099511627776) fun y31 => (Option.bind (wire_Dec_S k (T_wire_Dec.mk y31.2.1 y31.2.2) 1000000) fun y32 => (Option.bind (wire_Dec_Done k (T_wire_Dec.mk y32.2.1 y32.2.2)) fun y33 => some (y33, y32.2.1, y33, y30.1, y31.1, y32.1))))) else some (y28.2.2.1, y28.1, y28.2.1, (0 : Int), (0 : Int), [])) = some y29 ∧
    (if (y29.1 != 0) = true then some ((y29.1 != 5)) else some (false)) = some false ∧ y29.2.2.2.1 = (a : Int) ∧ y29.2.2.2.2.1 = (b : Int) ∧ y29.2.2.2.2.2 = s ∧ a ≤ 1099511627776 := by
  rcases h1 with ⟨h1, rfl, rfl, rfl⟩ | ⟨f, hf, h1, h2, h3, h4⟩
  · exact ⟨([], 0, 5, 0), (5, [], 0, 0, 0, []), read_none k room u h h1, rfl, by rw [if_neg (by simp)], by rw [if_pos (by simp)]; rfl, rfl, rfl, rfl, by omega⟩
  · have l1 := vb_len a (by omega)
    have l2 := vb_len b (by omega)
    have l3 := vb_len s.length (by omega)
    refine ⟨(vb a ++ (vb b ++ (vb s.length ++ s)), 0, 0, 0), (0, [], 0, a, b, s), read_some k room u h hf (by simp only [List.length_append]; omega) h1, rfl, ?_, by rw [if_neg (by simp)], rfl, rfl, rfl, h2⟩
    rw [if_pos (by simp), show (1099511627776 : Int) = ((1099511627776 : Nat) : Int) from rfl, decI_at k (by omega) a (by omega) _ h2 (by omega) _ (by simp only [List.length_append]; omega)]
    simp only [bind_some]
    rw [decI_at k (by omega) b (by omega) _ h3 (by omega) _ (by simp only [List.length_append]; omega)]
    simp only [bind_some]
    have e := decS_at k (by omega) s 1000000 (by omega) (by omega) [] (by simp)
    rw [List.append_nil] at e
    rw [show (1000000 : Int) = ((1000000 : Nat) : Int) from rfl, e]
    simp only [bind_some]
    rw [done_at]
    rfl

theorem load_log (hk : 2000 < k) (room u : Int) {m : FM} (h : Som m) {l : List T_term_Entry} (h1 : LogOf k m l) (hl : l.length ≤ 100) (hx : ∀ x ∈ l, EOk x) : ∃ (y35 : List UInt8 × Int × Int), platter_Disk_Read k room u false 0 m fL = some y35 ∧ y35.2.2 = 0 ∧
    (if (y35.2.1 != 0) = true then some ((y35.2.1 != 5)) else some (false)) = some false ∧ seal_Scan k y35.1 = some (l.map eb, (y35.1.length : Int)) := by
  have hr := read_at k room u (f := 0) (by omega) h fL
  rcases h1 with ⟨h1, rfl⟩ | ⟨fs, hfs, h1⟩
  · rw [fileAt_none h1] at hr
    refine ⟨_, hr, rfl, by rw [if_pos (by simp [F0])]; simp [F0], ?_⟩
    exact scan_at k (ts := []) (fs := []) trivial (by simp) (by simp only [List.length_nil]; omega) (by simp)
  · rw [fileAt_some h1] at hr
    refine ⟨_, hr, rfl, by rw [if_neg (by simp)], ?_⟩
    have hfl := frs_len k hfs hx
    have hall : ∀ (l : List T_term_Entry) (fs : List (List UInt8)), Frs k l fs → (∀ x ∈ l, EOk x) → All2 (fun t f => Fr k t f ∧ t.length < 900000) (l.map eb) fs := fun l => by
      induction l with
      | nil => intro fs h _; cases fs with | nil => trivial | cons _ _ => exact h.elim
      | cons x l ih =>
        intro fs h hx
        cases fs with
        | nil => exact h.elim
        | cons f fs =>
          have := eb_len (hx x List.mem_cons_self)
          exact ⟨⟨h.1, by omega⟩, ih fs h.2 fun y hy => hx y (List.mem_cons_of_mem _ hy)⟩
    exact scan_at k (hall l fs hfs hx) (by omega) (by rw [List.length_map]; omega) (by rw [List.length_map]; omega)

theorem load_ok (hk : 2000 < k) (room u : Int) {m : FM} (h : Som m) {t v a b : Nat} {s : List UInt8} {l : List T_term_Entry} (h1 : TermOf k m t v) (h2 : SnapOf k m a b s) (h3 : LogOf k m l) (hl : l.length ≤ 100) (hx : ∀ x ∈ l, EOk x) :
    term_Load k room u false 0 m = some (beh a l [], ⟨t, v, a, b, s, beh a l []⟩, 0, u, 0, m) := by
  obtain ⟨y22, y23, a1, a2, a3, a4, a5, a6⟩ := load_term k hk room u h h1
  obtain ⟨y28, y29, b1, b2, b3, b4, b5, b6, b7, b8⟩ := load_snap k hk room u h h2
  obtain ⟨y35, c1, c2, c3, c4⟩ := load_log k hk room u h h3 hl hx
  unfold term_Load
  rw [a1]
  simp only [bind_some]
  rw [a3]
  simp only [bind_some]
  rw [a4]
  simp only [bind_some]
  rw [if_neg (by simp), a2, b1]
  simp only [bind_some]
  rw [b3]
  simp only [bind_some]
  rw [b4]
  simp only [bind_some]
  rw [if_neg (by simp), b2, c1]
  simp only [bind_some]
  rw [c3]
  simp only [bind_some]
  rw [if_neg (by simp), c4]
  simp only [bind_some]
  rw [if_neg (by simp)]
  simp only [bind_some]
  have e := load_loop k hk (l.map eb) l rfl (by omega) hx y29 (by rw [b5]; omega) (y35.1.length : Int) (u, y35.2.2, m) k 0 [] (by omega) (by omega) (by simp)
  rw [show (0 : Int) = ((0 : Nat) : Int) from rfl] at *
  rw [e]
  simp only [bind_some, List.drop_zero]
  rw [a5, a6, b5, b6, b7, c2]
end
end Go.Proofs.YtpldjopnhhbjpaaGreat
