/-
  TeE: calls that may fail; a crash of a disk of which one file is not safe. Own work.
-/
import Derived.Test.YthmjdekmacoaaaaTeDTY
namespace Go.Proofs.Ythmjdekmacoaaaa
open Go.Hx

/-- all files are safe, and there -/
def Set (m : FM) : Prop := ∀ n f, mget m n = some (some f) → f.now = f.safe ∧ f.now.there = true
theorem Set.safe {m : FM} (hs : Som m) (h : Set m) (n : List UInt8) : (mget m n = none ∧ fileAt m n = F0) ∨ ∃ c, mget m n = TT c ∧ fileAt m n = ⟨⟨true, c⟩, ⟨true, c⟩⟩ := by
  cases hg : mget m n with
  | none => exact .inl ⟨rfl, fileAt_none hg⟩
  | some v =>
    obtain ⟨f, rfl⟩ := hs n v hg
    obtain ⟨h1, h2⟩ := h n f hg
    refine .inr ⟨f.now.s, ?_, ?_⟩
    · obtain ⟨⟨a, b⟩, c⟩ := f
      simp only at h1 h2 ⊢
      rw [← h1, h2]
    · rw [fileAt_some hg]
      obtain ⟨⟨a, b⟩, c⟩ := f
      simp only at h1 h2 ⊢
      rw [← h1, h2]

section
variable (k : Nat)

theorem try_gen (room u f : Int) (m : FM) (hf : 0 ≤ f) (hf2 : f ≤ 2000000000) : (∃ f', 0 ≤ f' ∧ f' ≤ 2000000000 ∧ meter_Luck_Try k room u false f m = some (0, f')) ∨ meter_Luck_Try k room u false f m = some (8, 0) := by
  unfold meter_Luck_Try
  rw [if_neg (by simp)]
  by_cases h : f > 0
  · rw [if_pos (by simpa using h), wr (by omega)]
    by_cases h1 : f - 1 = 0
    · rw [if_pos (by simpa using h1), h1]; exact .inr rfl
    · rw [if_neg (by simpa using h1)]; exact .inl ⟨f - 1, by omega, by omega, rfl⟩
  · rw [if_neg (by simpa using h)]
    exact .inl ⟨f, hf, hf2, rfl⟩

theorem write_gen (room f : Int) (hf : 0 ≤ f) (hf2 : f ≤ 2000000000) {m : FM} (h : Som m) {n : List UInt8} (hn : n ≠ []) (s : List UInt8) (hr : room ≤ 1000000) (hm : (W m : Int) ≤ room) (hW : (W (uns m n s) : Int) ≤ room) :
    (∃ f', 0 ≤ f' ∧ f' ≤ 2000000000 ∧ platter_Disk_Write k room (W m : Int) false f m n s = some (0, (W (uns m n s) : Int), f', uns m n s)) ∨ platter_Disk_Write k room (W m : Int) false f m n s = some (8, (W m : Int), 0, m) := by
  unfold platter_Disk_Write
  rcases try_gen k room (W m : Int) f m hf hf2 with ⟨f', h1, h2, e⟩ | e
  · left
    refine ⟨f', h1, h2, ?_⟩
    rw [e]
    simp only [bind_some]
    rw [if_neg (by simp), sEq_ne hn, if_neg (by simp), put_ok k room false f' h n ⟨true, s⟩ hr hm hW]
    rfl
  · right
    rw [e]
    simp only [bind_some]
    rw [if_pos (by simp)]

theorem append_gen (room f : Int) (hf : 0 ≤ f) (hf2 : f ≤ 2000000000) {m : FM} (h : Som m) {n : List UInt8} (hn : n ≠ []) {s : List UInt8} (hs : (fileAt m n).now.s.length + s.length ≤ 1000000) (hr : room ≤ 1000000) (hm : (W m : Int) ≤ room) (hW : (W (uns m n ((fileAt m n).now.s ++ s)) : Int) ≤ room) :
    (∃ f', 0 ≤ f' ∧ f' ≤ 2000000000 ∧ platter_Disk_Append k room (W m : Int) false f m n s = some (0, (W (uns m n ((fileAt m n).now.s ++ s)) : Int), f', uns m n ((fileAt m n).now.s ++ s))) ∨ platter_Disk_Append k room (W m : Int) false f m n s = some (8, (W m : Int), 0, m) := by
  unfold platter_Disk_Append
  rcases try_gen k room (W m : Int) f m hf hf2 with ⟨f', h1, h2, e⟩ | e
  · left
    refine ⟨f', h1, h2, ?_⟩
    rw [e]
    simp only [bind_some]
    rw [if_neg (by simp), sEq_ne hn, if_neg (by simp), get_at k room _ false f' h n]
    simp only [bind_some]
    rw [cat_of (by omega)]
    simp only [bind_some]
    rw [put_ok k room false f' h n ⟨true, _⟩ hr hm hW]
    rfl
  · right
    rw [e]
    simp only [bind_some]
    rw [if_pos (by simp)]

theorem sync_gen (hk : 20 < k) (room f : Int) (hf : 0 ≤ f) (hf2 : f ≤ 2000000000) {m : FM} (h : Som m) {name : List UInt8} {g : T_platter_file} (hm : mget m name = some (some g)) (ht : g.now.there = true) (hW : (W m : Int) ≤ 1000000) :
    (∃ f', 0 ≤ f' ∧ f' ≤ 2000000000 ∧ platter_Disk_Sync k room (W m : Int) false f m [name] = some (0, (W (mput m name (some ⟨g.now, g.now⟩)) : Int), f', mput m name (some ⟨g.now, g.now⟩))) ∨ platter_Disk_Sync k room (W m : Int) false f m [name] = some (8, (W m : Int), 0, m) := by
  unfold platter_Disk_Sync
  rcases try_gen k room (W m : Int) f m hf hf2 with ⟨f', h1, h2, e0⟩ | e0
  · left
    refine ⟨f', h1, h2, ?_⟩
    rw [e0]
    simp only [bind_some]
    rw [if_neg (by simp), if_neg (by simp)]
    simp only [bind_some]
    have e1 := W_mput h name ⟨g.now, g.now⟩
    have e2 : wt ⟨g.now, g.now⟩ = g.now.s.length := by unfold wt; simp
    rw [fileAt_some hm] at e1
    have e3 : g.now.s.length ≤ wt g := by unfold wt; omega
    have e4 := wt_le h name
    rw [fileAt_some hm] at e4
    have hl : platter_Disk_Sync_l1 k room false (0, f') [name] k 0 m (W m : Int) = some (mput m name (some ⟨g.now, g.now⟩), (W (mput m name (some ⟨g.now, g.now⟩)) : Int)) := by
      have e : ∀ j, platter_Disk_Sync_l1 k room false (0, f') [name] (j + 1 + 1) 0 m (W m : Int) = some (mput m name (some ⟨g.now, g.now⟩), (W (mput m name (some ⟨g.now, g.now⟩)) : Int)) := fun j => by
        rw [platter_Disk_Sync_l1, if_pos (by simp), show gt [name] (0 : Int) = some name from rfl]
        simp only [bind_some]
        rw [get_at k room _ false f' h, fileAt_some hm]
        simp only [bind_some]
        rw [settle_ok k room _ false f' hm g.now e3 (by omega) hW, if_pos ht]
        simp only [bind_some]
        rw [platter_Disk_Sync_l1, if_neg (by rw [wr (by omega)]; simp)]
        congr 2
        omega
      obtain ⟨j, hj⟩ : ∃ j, k = j + 1 + 1 := ⟨k - 2, by omega⟩
      have e2 := e j
      rw [← hj] at e2
      exact e2
    rw [hl]
    rfl
  · right
    rw [e0]
    simp only [bind_some]
    rw [if_pos (by simp)]

theorem settled_set {m : FM} (h : Set m) (n c : List UInt8) : Set (settled m n c) := fun n' f hf => by
  rw [settled_get] at hf
  split at hf
  · simp only [Option.some.injEq] at hf
    rw [← hf]
    exact ⟨rfl, rfl⟩
  · exact h n' f hf
theorem keep_gen (hk : 20 < k) (room f : Int) (hf : 0 ≤ f) (hf2 : f ≤ 2000000000) {m : FM} (h : Som m) {name s : List UInt8} (hn0 : name ≠ []) (hr : room ≤ 1000000) (hW : (W m : Int) + ((s.length - (fileAt m name).safe.s.length : Nat) : Int) ≤ room) :
    (∃ f', 0 ≤ f' ∧ f' ≤ 2000000000 ∧ term_keep k room (W m : Int) false f m name s = some (0, (W (settled m name s) : Int), f', settled m name s)) ∨
    term_keep k room (W m : Int) false f m name s = some (8, (W m : Int), 0, m) ∨ term_keep k room (W m : Int) false f m name s = some (8, (W (uns m name s) : Int), 0, uns m name s) := by
  have hu := uns_W h name s
  unfold term_keep
  rcases write_gen k room f hf hf2 h hn0 s hr (by omega) (by omega) with ⟨f1, h1, h2, e⟩ | e
  · rw [e]
    simp only [bind_some]
    rw [if_neg (by simp)]
    rcases sync_gen k hk room f1 h1 h2 (m := uns m name s) (h.put name _) (mget_self _ _ _) rfl (by omega) with ⟨f2, h3, h4, e2⟩ | e2
    · exact .inl ⟨f2, h3, h4, by rw [e2]; rfl⟩
    · exact .inr (.inr (by rw [e2]; rfl))
  · rw [e]
    simp only [bind_some]
    rw [if_pos (by simp)]
    exact .inr (.inl rfl)

/-! ### the crash -/
theorem crash_rest (room : Int) (x4 : Int) (ch : List Int) (ys : List (List UInt8)) (hy : ys.length < 1000000) : ∀ (j i : Nat) (v : Int) (m : FM) (u : Int), i ≤ ys.length → ys.length - i < j → (∀ n ∈ ys.drop i, ∃ g, mget m n = some (some g) ∧ g.now = g.safe) →
    platter_Disk_Crash_l1 k room false x4 ch ys j v (i : Int) m u = some (m, u)
  | 0, i, _, _, _, _, hj, _ => by omega
  | j + 1, i, v, m, u, hi, hj, h => by
    rw [platter_Disk_Crash_l1]
    by_cases hlt : i < ys.length
    · have hd := List.drop_eq_getElem_cons hlt
      obtain ⟨g, hg, hs⟩ := h ys[i] (by rw [hd]; exact List.mem_cons_self)
      rw [if_pos (by simpa using hlt), gtL hlt]
      simp only [bind_some, hg, Option.getD_some]
      rw [if_neg (by simpa using hs)]
      simp only [bind_some]
      rw [wrN i (by omega)]
      exact crash_rest room x4 ch ys hy j (i + 1) v m u (by omega) (by omega) fun n hn => h n (by rw [hd]; exact List.mem_cons_of_mem _ hn)
    · rw [if_neg (by simpa using hlt)]

theorem crash_loop1 (room : Int) (x4 : Int) (ch : List Int) (ys : List (List UInt8)) (hy : ys.length < 1000000) (hnd : ys.Nodup) {M M' : FM} {u u' : Int} {name : List UInt8} {f : T_platter_file} {t : T_platter_text} (hM : mget M name = some (some f)) (hf : f.now ≠ f.safe)
    (ht : platter_file_left k (some f) ((ch[0]?).getD 0) = some t) (ho : ∀ n ∈ ys, n ≠ name → ∃ g, mget M n = some (some g) ∧ g.now = g.safe) (hs : platter_Disk_settle k room u false x4 M name t = some (u', M')) (hM' : ∀ n, n ≠ name → mget M' n = mget M n) :
    ∀ (j i : Nat), i ≤ ys.length → ys.length - i < j → name ∈ ys.drop i → platter_Disk_Crash_l1 k room false x4 ch ys j 0 (i : Int) M u = some (M', u')
  | 0, i, _, hj, _ => by omega
  | j + 1, i, hi, hj, hin => by
    have hlt : i < ys.length := by
      rcases Nat.lt_or_ge i ys.length with h | h
      · exact h
      · rw [List.drop_eq_nil_of_le h] at hin; cases hin
    have hd := List.drop_eq_getElem_cons hlt
    have hnd2 : ys[i] ∉ ys.drop (i + 1) := by
      have : (ys.drop i).Nodup := hnd.sublist (List.drop_sublist i ys)
      rw [hd] at this
      exact (List.nodup_cons.1 this).1
    rw [platter_Disk_Crash_l1, if_pos (by simpa using hlt), gtL hlt]
    simp only [bind_some]
    by_cases hn : ys[i] = name
    · rw [hn, hM]
      simp only [Option.getD_some, bind_some]
      rw [if_pos (by simpa using hf)]
      have hcc : (if decide ((0 : Int) < (ch.length : Int)) = true then (Option.bind (gt ch (0 : Int)) fun x12 => some (x12)) else some ((0 : Int))) = some ((ch[0]?).getD 0) := by
        cases ch with
        | nil => rw [if_neg (by simp)]; rfl
        | cons x ch => rw [if_pos (by simp)]; rfl
      rw [hcc]
      simp only [bind_some, ht, hs]
      rw [wrN i (by omega)]
      refine crash_rest k room x4 ch ys hy j (i + 1) _ M' u' (by omega) (by omega) fun n hn2 => ?_
      have hne : n ≠ name := fun e => hnd2 (by rw [hn, ← e]; exact hn2)
      rw [hM' n hne]
      exact ho n (List.mem_of_mem_drop hn2) hne
    · obtain ⟨g, hg, hgs⟩ := ho ys[i] (List.getElem_mem hlt) hn
      rw [hg]
      simp only [Option.getD_some, bind_some]
      rw [if_neg (by simpa using hgs)]
      simp only [bind_some]
      rw [wrN i (by omega)]
      refine crash_loop1 room x4 ch ys hy hnd hM hf ht ho hs hM' j (i + 1) (by omega) (by omega) ?_
      rw [hd] at hin
      rcases List.mem_cons.1 hin with h | h
      · exact absurd h.symm hn
      · exact h

/-- what a crash may leave of a file that is not safe -/
def Left (m M' : FM) (name c : List UInt8) : Prop := mget M' name = mget m name ∨ mget M' name = TT c ∨ ∃ j, j < c.length ∧ mget M' name = TT (c.take j) ∧ (fileAt m name).safe.s.length < c.length ∧ c.take (fileAt m name).safe.s.length = (fileAt m name).safe.s ∧ (fileAt m name).safe.s.length ≤ j

theorem crash_set (room : Int) (x4 : Int) (ch : List Int) {B : Nat} {m : FM} (h : WF B 900000 m) (hs : Set m) (hB : B < k) (hB2 : B < 1000000) : platter_Disk_Crash k room (W m : Int) false x4 m ch = some ((W m : Int), m) := by
  obtain ⟨u', M, e1, _, _, _, e5⟩ := crash_at k room (W m : Int) x4 ch (by omega) h hB hB2
  obtain ⟨h1, h2⟩ := e5 fun n f hf => (hs n f hf).1
  rw [e1, h1, h2]

theorem crash_uns (room : Int) (x4 : Int) (ch : List Int) {B : Nat} {m : FM} (h : WF B 900000 m) (hs : Set m) (hB : B + 1 < k) (hB2 : B < 900000) {name c : List UInt8} (hn : name.length ≤ 10) (hc : c.length ≤ 900000) (hW : (W (uns m name c) : Int) ≤ 1000000) :
    ∃ M', platter_Disk_Crash k room (W (uns m name c) : Int) false x4 (uns m name c) ch = some ((W M' : Int), M') ∧ WF (B + 1) 900000 M' ∧ Set M' ∧ W M' ≤ W (uns m name c) ∧ (∀ n, n ≠ name → mget M' n = mget m n) ∧ Left m M' name c := by
  have hat := h.at name
  have hu : WF (B + 1) 900000 (uns m name c) := h.put hn (f := ⟨⟨true, c⟩, (fileAt m name).safe⟩) hc hat.2
  have hg : mget (uns m name c) name = some (some ⟨⟨true, c⟩, (fileAt m name).safe⟩) := mget_self _ _ _
  have hoth : ∀ n, n ≠ name → mget (uns m name c) n = mget m n := fun n hne => by unfold uns; rw [mget_mput, if_neg hne]
  by_cases heq : (⟨true, c⟩ : T_platter_text) = (fileAt m name).safe
  · -- it is safe by chance
    have hset : Set (uns m name c) := fun n f hf => by
      by_cases hne : n = name
      · rw [hne, hg] at hf
        simp only [Option.some.injEq] at hf
        rw [← hf]
        exact ⟨heq, rfl⟩
      · rw [hoth n hne] at hf
        exact hs n f hf
    refine ⟨_, crash_set k room x4 ch hu hset hB (by omega), hu, hset, Nat.le_refl _, hoth, .inr (.inl ?_)⟩
    rw [hg, ← heq]
  · obtain ⟨t, ht, htl⟩ := left_total k (f := ⟨⟨true, c⟩, (fileAt m name).safe⟩) (L := 900000) hc hat.2 (by omega) ((ch[0]?).getD 0)
    -- what t is
    have htc : t = (fileAt m name).safe ∨ t = ⟨true, c⟩ ∨ ∃ j, j < c.length ∧ t = ⟨true, c.take j⟩ ∧ (fileAt m name).safe.s.length < c.length ∧ c.take (fileAt m name).safe.s.length = (fileAt m name).safe.s ∧ (fileAt m name).safe.s.length ≤ j := by
      by_cases hb : begins ⟨⟨true, c⟩, (fileAt m name).safe⟩
      · have hleft := left_begins k heq hb (by simp only []; omega) ((ch[0]?).getD 0)
        rw [ht] at hleft
        obtain ⟨_, b2, b3⟩ := hb
        simp only at b2 b3
        have p1 := Int.emod_nonneg ((ch[0]?).getD 0) (show (c.length : Int) - (fileAt m name).safe.s.length + 1 ≠ 0 by omega)
        have p2 := Int.emod_lt_of_pos ((ch[0]?).getD 0) (show 0 < (c.length : Int) - (fileAt m name).safe.s.length + 1 by omega)
        simp only [Option.some.injEq] at hleft
        by_cases h0 : (ch[0]?).getD 0 % ((c.length : Int) - (fileAt m name).safe.s.length + 1) = 0
        · rw [if_pos h0] at hleft; exact .inl hleft
        · rw [if_neg h0] at hleft
          right
          by_cases hj : (fileAt m name).safe.s.length + ((ch[0]?).getD 0 % ((c.length : Int) - (fileAt m name).safe.s.length + 1)).toNat < c.length
          · exact .inr ⟨_, hj, hleft, b2, b3, by omega⟩
          · rw [List.take_of_length_le (by omega)] at hleft
            exact .inl hleft
      · have hleft := left_other k heq hb ((ch[0]?).getD 0)
        rw [ht] at hleft
        simp only [Option.some.injEq] at hleft
        split at hleft
        · exact .inl hleft
        · exact .inr (.inl hleft)
    have hsafe := Set.safe h.som hs name
    have htt : t.there = true ∨ (t.there = false ∧ t.s = [] ∧ mget m name = none) := by
      rcases htc with rfl | rfl | ⟨j, _, rfl, _⟩
      · rcases hsafe with ⟨h1, h2⟩ | ⟨p, h1, h2⟩
        · rw [h2]; exact .inr ⟨rfl, rfl, h1⟩
        · rw [h2]; exact .inl rfl
      · exact .inl rfl
      · exact .inl rfl
    have htw : t.s.length ≤ wt ⟨⟨true, c⟩, (fileAt m name).safe⟩ := by
      rcases htc with rfl | rfl | ⟨j, hj, rfl, _⟩
      · simp only [wt]; omega
      · simp only [wt]; omega
      · simp only [wt, List.length_take]; omega
    have hwl := wt_le hu.som name
    rw [show fileAt (uns m name c) name = ⟨⟨true, c⟩, (fileAt m name).safe⟩ from fileAt_some hg] at hwl
    have hset := settle_ok k room (W (uns m name c) : Int) false x4 hg t htw (by omega) hW
    -- the map behind
    obtain ⟨M', hM', hWM, hwf, hget⟩ : ∃ M', (if t.there = true then mput (uns m name c) name (some ⟨t, t⟩) else mdel (uns m name c) name) = M' ∧ (W M' : Int) = (W (uns m name c) : Int) - (((wt ⟨⟨true, c⟩, (fileAt m name).safe⟩ : Nat) : Int) - (t.s.length : Int)) ∧ WF (B + 1) 900000 M' ∧ ∀ n, mget M' n = if n = name then (if t.there = true then some (some ⟨t, t⟩) else none) else mget (uns m name c) n := by
      rcases htt with h1 | ⟨h1, h2, h3⟩
      · rw [if_pos h1]
        refine ⟨_, rfl, ?_, hu.put_in hg htl htl, fun n => by rw [mget_mput, if_pos h1]⟩
        have e := W_mput hu.som name ⟨t, t⟩
        rw [show fileAt (uns m name c) name = ⟨⟨true, c⟩, (fileAt m name).safe⟩ from fileAt_some hg] at e
        have e2 : wt ⟨t, t⟩ = t.s.length := by simp [wt]
        omega
      · rw [if_neg (by rw [h1]; simp)]
        refine ⟨_, rfl, ?_, hu.del name, fun n => by rw [mget_mdel hu.nd]; simp [h1]⟩
        have e := W_mdel hu.som name
        rw [show fileAt (uns m name c) name = ⟨⟨true, c⟩, (fileAt m name).safe⟩ from fileAt_some hg] at e
        rw [h2]
        simp only [List.length_nil]
        omega
    rw [hM', ← hWM] at hset
    refine ⟨M', ?_, hwf, fun n f hf => ?_, by omega, fun n hne => by rw [hget, if_neg hne, hoth n hne], ?_⟩
    · have hl : (skeys (uns m name c)).length < 1000000 := by rw [length_skeys]; have := hu.len; omega
      have e := crash_loop1 k room x4 ch (skeys (uns m name c)) hl (((List.mergeSort_perm _ _).nodup_iff).2 hu.nd) hg heq ht (fun n hn2 hne => by
        obtain ⟨v, hv⟩ := Option.isSome_iff_exists.1 (mget_isSome.2 (mem_skeys.1 hn2))
        obtain ⟨g, rfl⟩ := hu.som n v hv
        exact ⟨g, hv, (hs n g (by rw [← hoth n hne]; exact hv)).1⟩) hset (fun n hne => by rw [hget, if_neg hne]) k 0 (by omega) (by rw [length_skeys]; have := hu.len; omega) (by
          rw [List.drop_zero]
          exact mem_skeys.2 (mget_isSome.1 (by rw [hg]; rfl)))
      unfold platter_Disk_Crash maps_Keys slices_Sorted
      simp only [bind_some]
      rw [if_pos (hu.skok (by omega))]
      simp only [bind_some]
      rw [show ((0 : Nat) : Int) = 0 from rfl] at e
      rw [e]
      rfl
    · rw [hget] at hf
      split at hf
      · split at hf
        · rename_i h1
          simp only [Option.some.injEq] at hf
          rw [← hf]
          exact ⟨rfl, h1⟩
        · cases hf
      · rename_i hne
        rw [hoth n hne] at hf
        exact hs n f hf
    · unfold Left
      rw [hget, if_pos rfl]
      rcases htc with rfl | rfl | ⟨j, hj, rfl, q⟩
      · left
        rcases hsafe with ⟨h1, h2⟩ | ⟨p, h1, h2⟩
        · rw [h1, h2]; rfl
        · rw [h1, h2]; rfl
      · exact .inr (.inl rfl)
      · exact .inr (.inr ⟨j, hj, rfl, q⟩)
end
end Go.Proofs.Ythmjdekmacoaaaa
