/-
  PlC: Write, Append, Sync, left and Crash over maps of any size. Own work.
-/
import Derived.Test.YthmjdekmacoaaaaPlBTY
namespace Go.Proofs.Ythmjdekmacoaaaa
open Go.Hx

structure WF (B L : Nat) (m : FM) : Prop where
  nd : (m.map (·.1)).Nodup
  el : ∀ n v, mget m n = some v → n.length ≤ 10 ∧ ∃ f, v = some f ∧ f.now.s.length ≤ L ∧ f.safe.s.length ≤ L
  len : m.length ≤ B

theorem WF.nil (L : Nat) : WF 0 L [] := ⟨by simp, (fun _ _ h => by cases h), Nat.le_refl _⟩
theorem WF.som {B L : Nat} {m : FM} (h : WF B L m) : Som m := fun n v hv => by obtain ⟨_, f, hf, _⟩ := h.el n v hv; exact ⟨f, hf⟩
theorem WF.mono {B L B' L' : Nat} {m : FM} (h : WF B L m) (hB : B ≤ B') (hL : L ≤ L') : WF B' L' m :=
  ⟨h.nd, fun n v hv => by obtain ⟨h1, f, h2, h3, h4⟩ := h.el n v hv; exact ⟨h1, f, h2, by omega, by omega⟩, Nat.le_trans h.len hB⟩
theorem WF.skok {B L : Nat} {m : FM} (h : WF B L m) (hB : B ≤ 1000000000) : skOK m = true :=
  skOK_of (Nat.le_trans h.len hB) fun p hp => Nat.le_trans (h.el p.1 p.2 (mem_mget h.nd hp)).1 (by decide)
theorem el_put {L : Nat} {m : FM} (h : ∀ n v, mget m n = some v → n.length ≤ 10 ∧ ∃ f, v = some f ∧ f.now.s.length ≤ L ∧ f.safe.s.length ≤ L) {n : List UInt8} (hn : n.length ≤ 10) {f : T_platter_file} (h1 : f.now.s.length ≤ L) (h2 : f.safe.s.length ≤ L) :
    ∀ n' v, mget (mput m n (some f)) n' = some v → n'.length ≤ 10 ∧ ∃ f, v = some f ∧ f.now.s.length ≤ L ∧ f.safe.s.length ≤ L := fun n' v hv => by
  rw [mget_mput] at hv
  split at hv
  · rename_i he
    subst he
    exact ⟨hn, f, (Option.some.inj hv).symm, h1, h2⟩
  · exact h n' v hv
theorem WF.put {B L : Nat} {m : FM} (h : WF B L m) {n : List UInt8} (hn : n.length ≤ 10) {f : T_platter_file} (h1 : f.now.s.length ≤ L) (h2 : f.safe.s.length ≤ L) : WF (B + 1) L (mput m n (some f)) :=
  ⟨nodup_mput h.nd _ _, el_put h.el hn h1 h2, by rw [length_mput]; have := h.len; split <;> omega⟩
theorem WF.put_in {B L : Nat} {m : FM} (h : WF B L m) {n : List UInt8} {v : Option T_platter_file} (hn : mget m n = some v) {f : T_platter_file} (h1 : f.now.s.length ≤ L) (h2 : f.safe.s.length ≤ L) : WF B L (mput m n (some f)) :=
  ⟨nodup_mput h.nd _ _, el_put h.el (h.el n v hn).1 h1 h2, by
    rw [length_mput, if_pos (mget_isSome.1 (by rw [hn]; rfl))]; exact h.len⟩
theorem WF.del {B L : Nat} {m : FM} (h : WF B L m) (n : List UInt8) : WF B L (mdel m n) :=
  ⟨nodup_mdel h.nd n, fun n' v hv => by
    rw [mget_mdel h.nd] at hv
    split at hv
    · cases hv
    · exact h.el n' v hv, Nat.le_trans (length_mdel m n) h.len⟩
theorem WF.at {B L : Nat} {m : FM} (h : WF B L m) (n : List UInt8) : (fileAt m n).now.s.length ≤ L ∧ (fileAt m n).safe.s.length ≤ L := by
  cases hg : mget m n with
  | none => rw [fileAt_none hg]; exact ⟨Nat.zero_le _, Nat.zero_le _⟩
  | some v => obtain ⟨_, f, rfl, h1, h2⟩ := h.el n v hg; rw [fileAt_some hg]; exact ⟨h1, h2⟩

section
variable (k : Nat) (room u : Int)

theorem write_total (f : Int) {m : FM} (h : Som m) {n : List UInt8} (hn : n ≠ []) (s : List UInt8) : ∃ e u' f' M, platter_Disk_Write k room u false f m n s = some (e, u', f', M) ∧
    (M = m ∨ M = mput m n (some ⟨⟨true, s⟩, (fileAt m n).safe⟩)) := by
  unfold platter_Disk_Write
  obtain ⟨e, f', he⟩ := try_total k room u f m
  rw [he]
  simp only [bind_some]
  split
  · exact ⟨_, _, _, _, rfl, .inl rfl⟩
  · rw [sEq_ne hn, if_neg (by simp)]
    obtain ⟨e2, u', M, h1, h2⟩ := put_total k room u false f' h n ⟨true, s⟩
    rw [h1]
    exact ⟨_, _, _, _, rfl, h2.elim (fun h => .inr h.2) (fun h => .inl h.2)⟩

theorem append_total (f : Int) {m : FM} (h : Som m) {n : List UInt8} (hn : n ≠ []) {s : List UInt8} (hs : (fileAt m n).now.s.length + s.length ≤ 1000000) :
    ∃ e u' f' M, platter_Disk_Append k room u false f m n s = some (e, u', f', M) ∧ (M = m ∨ M = mput m n (some ⟨⟨true, (fileAt m n).now.s ++ s⟩, (fileAt m n).safe⟩)) := by
  unfold platter_Disk_Append
  obtain ⟨e, f', he⟩ := try_total k room u f m
  rw [he]
  simp only [bind_some]
  split
  · exact ⟨_, _, _, _, rfl, .inl rfl⟩
  · rw [sEq_ne hn, if_neg (by simp), get_at k room u false f' h n]
    simp only [bind_some]
    rw [cat_of (by omega)]
    simp only [bind_some]
    obtain ⟨e2, u', M, h1, h2⟩ := put_total k room u false f' h n ⟨true, (fileAt m n).now.s ++ s⟩
    rw [h1]
    exact ⟨_, _, _, _, rfl, h2.elim (fun h => .inr h.2) (fun h => .inl h.2)⟩

theorem write_ok {f : Int} (hf : f ≤ 0) {m : FM} (h : Som m) {n : List UInt8} (hn : n ≠ []) (s : List UInt8) (hr : room ≤ 1000000) (hm : (W m : Int) ≤ room)
    (hW : (W (mput m n (some ⟨⟨true, s⟩, (fileAt m n).safe⟩)) : Int) ≤ room) :
    platter_Disk_Write k room (W m) false f m n s = some (0, (W (mput m n (some ⟨⟨true, s⟩, (fileAt m n).safe⟩)) : Int), f, mput m n (some ⟨⟨true, s⟩, (fileAt m n).safe⟩)) := by
  unfold platter_Disk_Write
  rw [try0 k room _ hf m]
  simp only [bind_some]
  rw [if_neg (by simp), sEq_ne hn, if_neg (by simp), put_ok k room false f h n ⟨true, s⟩ hr hm hW]
  rfl

theorem append_ok {f : Int} (hf : f ≤ 0) {m : FM} (h : Som m) {n : List UInt8} (hn : n ≠ []) {s : List UInt8} (hs : (fileAt m n).now.s.length + s.length ≤ 1000000) (hr : room ≤ 1000000) (hm : (W m : Int) ≤ room)
    (hW : (W (mput m n (some ⟨⟨true, (fileAt m n).now.s ++ s⟩, (fileAt m n).safe⟩)) : Int) ≤ room) :
    platter_Disk_Append k room (W m) false f m n s = some (0, (W (mput m n (some ⟨⟨true, (fileAt m n).now.s ++ s⟩, (fileAt m n).safe⟩)) : Int), f, mput m n (some ⟨⟨true, (fileAt m n).now.s ++ s⟩, (fileAt m n).safe⟩)) := by
  unfold platter_Disk_Append
  rw [try0 k room _ hf m]
  simp only [bind_some]
  rw [if_neg (by simp), sEq_ne hn, if_neg (by simp), get_at k room _ false f h n]
  simp only [bind_some]
  rw [cat_of (by omega)]
  simp only [bind_some]
  rw [put_ok k room false f h n ⟨true, _⟩ hr hm hW]
  rfl

/-! ### Sync -/
def sync1 : Option (Option T_platter_file) → Option (Option T_platter_file)
  | some (some f) => if f.now.there = true then some (some ⟨f.now, f.now⟩) else none
  | x => x
theorem sync1_sync1 (x : Option (Option T_platter_file)) : sync1 (sync1 x) = sync1 x := by
  rcases x with _ | _ | f
  · rfl
  · rfl
  · simp only [sync1]
    by_cases h : f.now.there = true
    · simp [h]
    · simp [h]
def Calm (m : FM) : Prop := ∀ n f, mget m n = some (some f) → f.now.there = true ∧ f.safe.s.length ≤ f.now.s.length

theorem sync_step (x4 : Int) {B L : Nat} {m : FM} (h : WF B L m) (n : List UInt8) : ∃ u' M, platter_Disk_settle k room u false x4 m n (fileAt m n).now = some (u', M) ∧ WF B L M ∧
    (∀ n', mget M n' = if n' = n then sync1 (mget m n) else mget m n') ∧ (Calm m → 0 ≤ u → u ≤ 1000000 → u' = u ∧ Calm M) := by
  cases hg : mget m n with
  | none =>
    refine ⟨u, m, settle_none k room u false x4 hg _, h, fun n' => ?_, fun hc _ _ => ⟨rfl, hc⟩⟩
    split
    · rename_i he; rw [he, hg]; rfl
    · rfl
  | some v =>
    obtain ⟨hn, f, rfl, h1, h2⟩ := h.el n v hg
    obtain ⟨u', hu⟩ := settle_total k room u false x4 hg (fileAt m n).now
    have hw : (fileAt m n).now = f.now := by rw [fileAt_some hg]
    rw [hw] at hu ⊢
    refine ⟨u', _, hu, ?_, fun n' => ?_, fun hc hu0 hu1 => ?_⟩
    · split
      · exact h.put_in hg h1 h1
      · exact h.del n
    · by_cases ht : f.now.there = true
      · rw [if_pos ht, mget_mput]
        simp only [sync1, ht, if_true]
      · rw [if_neg ht, mget_mdel h.nd]
        simp only [sync1, ht]
        rfl
    · obtain ⟨c1, c2⟩ := hc n f hg
      have hwt : wt f = f.now.s.length := by unfold wt; omega
      have := settle_ok k room u false x4 hg f.now (by omega) (by omega) hu1
      rw [this] at hu
      have hu := congrArg (fun o : Option (Int × FM) => (o.getD (0, [])).1) hu
      simp only [Option.getD_some] at hu
      refine ⟨by omega, fun n' f' hf' => ?_⟩
      rw [if_pos c1, mget_mput] at hf'
      split at hf'
      · simp only [Option.some.injEq] at hf'
        subst hf'
        exact ⟨c1, Nat.le_refl _⟩
      · exact hc n' f' hf'

theorem sync_loop (x4 : Int × Int) {B L : Nat} (ys : List (List UInt8)) (hy : ys.length < 1000000) : ∀ (j i : Nat) (m : FM) (u : Int), i ≤ ys.length → ys.length - i < j → WF B L m →
    ∃ M u', platter_Disk_Sync_l1 k room false x4 ys j (i : Int) m u = some (M, u') ∧ WF B L M ∧ (∀ n, mget M n = if n ∈ ys.drop i then sync1 (mget m n) else mget m n) ∧ (Calm m → 0 ≤ u → u ≤ 1000000 → u' = u ∧ Calm M)
  | 0, i, _, _, _, hj, _ => by omega
  | j + 1, i, m, u, hi, hj, h => by
    by_cases hlt : i < ys.length
    · obtain ⟨u1, M1, e1, w1, c1, q1⟩ := sync_step k room u x4.2 h ys[i]
      obtain ⟨M, u', e2, w2, c2, q2⟩ := sync_loop x4 ys hy j (i + 1) M1 u1 (by omega) (by omega) w1
      refine ⟨M, u', ?_, w2, fun n => ?_, fun a b c => ?_⟩
      · rw [platter_Disk_Sync_l1, if_pos (by simpa using hlt), gtL hlt]
        simp only [bind_some]
        rw [get_at k room u false x4.2 h.som]
        simp only [bind_some]
        rw [e1]
        simp only [bind_some]
        rw [wrN i (by omega)]
        exact e2
      · rw [c2 n, List.drop_eq_getElem_cons hlt, c1 n]
        by_cases hn : n = ys[i]
        · subst hn
          simp only [if_true, List.mem_cons, true_or, sync1_sync1, ite_self]
        · simp only [hn, if_false, List.mem_cons, false_or]
      · obtain ⟨a1, a2⟩ := q1 a b c
        subst a1
        obtain ⟨a3, a4⟩ := q2 a2 b c
        exact ⟨a3, a4⟩
    · refine ⟨m, u, by rw [platter_Disk_Sync_l1, if_neg (by simpa using hlt)], h, fun n => ?_, fun a _ _ => ⟨rfl, a⟩⟩
      rw [List.drop_eq_nil_of_le (by omega), if_neg (by simp)]

def ysOf (m : FM) (names : List (List UInt8)) : List (List UInt8) := if names = [] then skeys m else names

theorem sync_at (f : Int) {B L : Nat} {m : FM} (h : WF B L m) (hk : B < k) (hB : B < 1000000) {names : List (List UInt8)} (hn : names.length < k) (hn2 : names.length < 1000000) :
    ∃ e u' f' M, platter_Disk_Sync k room u false f m names = some (e, u', f', M) ∧ (f ≤ 0 → e = 0 ∧ f' = f) ∧
      ((e ≠ 0 ∧ M = m) ∨ (e = 0 ∧ WF B L M ∧ (∀ n, mget M n = if n ∈ ysOf m names then sync1 (mget m n) else mget m n) ∧ (Calm m → 0 ≤ u → u ≤ 1000000 → u' = u ∧ Calm M))) := by
  unfold platter_Disk_Sync
  obtain ⟨e, f', he⟩ := try_total k room u f m
  have h0 : f ≤ 0 → e = 0 ∧ f' = f := fun hf => by rw [try0 k room u hf m] at he; cases he; exact ⟨rfl, rfl⟩
  rw [he]
  simp only [bind_some]
  by_cases hz : e = 0
  · rw [if_neg (by simp [hz])]
    have hl : (ysOf m names).length < k ∧ (ysOf m names).length < 1000000 := by
      unfold ysOf
      split
      · rw [length_skeys]; have := h.len; omega
      · omega
    have hys : (if (((names.length : Int) == 0)) = true then (Option.bind (maps_Keys k m) fun _ => (Option.bind (slices_Sorted k m) fun y11 => some (y11))) else some (names)) = some (ysOf m names) := by
      unfold ysOf
      by_cases hne : names = []
      · subst hne
        rw [if_pos (by simp), if_pos rfl]
        unfold maps_Keys slices_Sorted
        simp only [bind_some]
        rw [if_pos (h.skok (by omega))]
        rfl
      · rw [if_neg (by simpa using hne), if_neg hne]
    rw [hys]
    simp only [bind_some]
    obtain ⟨M, u', e2, w2, c2, q2⟩ := sync_loop k room (e, f') (ysOf m names) hl.2 k 0 m u (by omega) (by omega) h
    rw [show (0 : Int) = ((0 : Nat) : Int) from rfl, e2]
    exact ⟨0, _, _, _, rfl, fun hf => ⟨rfl, (h0 hf).2⟩, .inr ⟨rfl, w2, c2, q2⟩⟩
  · rw [if_pos (by simp [hz])]
    exact ⟨e, _, _, _, rfl, fun hf => h0 hf, .inl ⟨hz, rfl⟩⟩

end
end Go.Proofs.Ythmjdekmacoaaaa
