/-
  PlC0: as PlC, without Sync of all files (for texts in which that is told as none). Own work.
-/
import Derived.Test.YtpldjopnhhbjpaaGreatPlBRM
namespace Go.Proofs.YtpldjopnhhbjpaaGreat
open Go.Hx

structure WF (B L : Nat) (m : FM) : Prop where
  nd : (m.map (·.1)).Nodup
  el : ∀ n v, mget m n = some v → n.length ≤ 10 ∧ ∃ f, v = some f ∧ f.now.s.length ≤ L ∧ f.safe.s.length ≤ L
  len : m.length ≤ B

theorem WF.nil (L : Nat) : WF 0 L [] := ⟨by simp, (fun _ _ h => by cases h), Nat.le_refl _⟩
theorem WF.som {B L : Nat} {m : FM} (h : WF B L m) : Som m := fun n v hv => by obtain ⟨_, f, hf, _⟩ := h.el n v hv; exact ⟨f, hf⟩
theorem WF.mono {B L B' L' : Nat} {m : FM} (h : WF B L m) (hB : B ≤ B') (hL : L ≤ L') : WF B' L' m :=
  ⟨h.nd, fun n v hv => by obtain ⟨h1, f, h2, h3, h4⟩ := h.el n v hv; exact ⟨h1, f, h2, by omega, by omega⟩, Nat.le_trans h.len hB⟩
theorem WF.skok {B L : Nat} {m : FM} (h : WF B L m) (hB : B ≤ 1000000000) : skOK m = true :=
  skOK_of (Nat.le_trans h.len hB) fun p hp => Nat.le_trans (h.el p.1 p.2 (mem_mget h.nd hp)).1 (by decide)
theorem el_put {L : Nat} {m : FM} (h : ∀ n v, mget m n = some v → n.length ≤ 10 ∧ ∃ f, v = some f ∧ f.now.s.length ≤ L ∧ f.safe.s.length ≤ L) {n : List UInt8} (hn : n.length ≤ 10) {f : T_platter_file} (h1 : f.now.s.length ≤ L) (h2 : f.safe.s.length ≤ L) :
    ∀ n' v, mget (mput m n (some f)) n' = some v → n'.length ≤ 10 ∧ ∃ f, v = some f ∧ f.now.s.length ≤ L ∧ f.safe.s.length ≤ L := fun n' v hv => by
  rw [mget_mput] at hv
  split at hv
  · rename_i he
    subst he
    exact ⟨hn, f, (Option.some.inj hv).symm, h1, h2⟩
  · exact h n' v hv
theorem WF.put {B L : Nat} {m : FM} (h : WF B L m) {n : List UInt8} (hn : n.length ≤ 10) {f : T_platter_file} (h1 : f.now.s.length ≤ L) (h2 : f.safe.s.length ≤ L) : WF (B + 1) L (mput m n (some f)) :=
  ⟨nodup_mput h.nd _ _, el_put h.el hn h1 h2, by rw [length_mput]; have := h.len; split <;> omega⟩
theorem WF.put_in {B L : Nat} {m : FM} (h : WF B L m) {n : List UInt8} {v : Option T_platter_file} (hn : mget m n = some v) {f : T_platter_file} (h1 : f.now.s.length ≤ L) (h2 : f.safe.s.length ≤ L) : WF B L (mput m n (some f)) :=
  ⟨nodup_mput h.nd _ _, el_put h.el (h.el n v hn).1 h1 h2, by
    rw [length_mput, if_pos (mget_isSome.1 (by rw [hn]; rfl))]; exact h.len⟩
theorem WF.del {B L : Nat} {m : FM} (h : WF B L m) (n : List UInt8) : WF B L (mdel m n) :=
  ⟨nodup_mdel h.nd n, fun n' v hv => by
    rw [mget_mdel h.nd] at hv
    split at hv
    · cases hv
    · exact h.el n' v hv, Nat.le_trans (length_mdel m n) h.len⟩
theorem WF.at {B L : Nat} {m : FM} (h : WF B L m) (n : List UInt8) : (fileAt m n).now.s.length ≤ L ∧ (fileAt m n).safe.s.length ≤ L := by
  cases hg : mget m n with
  | none => rw [fileAt_none hg]; exact ⟨Nat.zero_le _, Nat.zero_le _⟩
  | some v => obtain ⟨_, f, rfl, h1, h2⟩ := h.el n v hg; rw [fileAt_some hg]; exact ⟨h1, h2⟩

section
variable (k : Nat) (room u : Int)

theorem write_total (f : Int) {m : FM} (h : Som m) {n : List UInt8} (hn : n ≠ []) (s : List UInt8) : ∃ e u' f' M, platter_Disk_Write k room u false f m n s = some (e, u', f', M) ∧
    (M = m ∨ M = mput m n (some ⟨⟨true, s⟩, (fileAt m n).safe⟩)) := by
  unfold platter_Disk_Write
  obtain ⟨e, f', he⟩ := try_total k room u f m
  rw [he]
  simp only [bind_some]
  split
  · exact ⟨_, _, _, _, rfl, .inl rfl⟩
  · rw [sEq_ne hn, if_neg (by simp)]
    obtain ⟨e2, u', M, h1, h2⟩ := put_total k room u false f' h n ⟨true, s⟩
    rw [h1]
    exact ⟨_, _, _, _, rfl, h2.elim (fun h => .inr h.2) (fun h => .inl h.2)⟩

theorem append_total (f : Int) {m : FM} (h : Som m) {n : List UInt8} (hn : n ≠ []) {s : List UInt8} (hs : (fileAt m n).now.s.length + s.length ≤ 1000000) :
    ∃ e u' f' M, platter_Disk_Append k room u false f m n s = some (e, u', f', M) ∧ (M = m ∨ M = mput m n (some ⟨⟨true, (fileAt m n).now.s ++ s⟩, (fileAt m n).safe⟩)) := by
  unfold platter_Disk_Append
  obtain ⟨e, f', he⟩ := try_total k room u f m
  rw [he]
  simp only [bind_some]
  split
  · exact ⟨_, _, _, _, rfl, .inl rfl⟩
  · rw [sEq_ne hn, if_neg (by simp), get_at k room u false f' h n]
    simp only [bind_some]
    rw [cat_of (by omega)]
    simp only [bind_some]
    obtain ⟨e2, u', M, h1, h2⟩ := put_total k room u false f' h n ⟨true, (fileAt m n).now.s ++ s⟩
    rw [h1]
    exact ⟨_, _, _, _, rfl, h2.elim (fun h => .inr h.2) (fun h => .inl h.2)⟩

theorem write_ok {f : Int} (hf : f ≤ 0) {m : FM} (h : Som m) {n : List UInt8} (hn : n ≠ []) (s : List UInt8) (hr : room ≤ 1100000) (hm : (W m : Int) ≤ room)
    (hW : (W (mput m n (some ⟨⟨true, s⟩, (fileAt m n).safe⟩)) : Int) ≤ room) :
    platter_Disk_Write k room (W m) false f m n s = some (0, (W (mput m n (some ⟨⟨true, s⟩, (fileAt m n).safe⟩)) : Int), f, mput m n (some ⟨⟨true, s⟩, (fileAt m n).safe⟩)) := by
  unfold platter_Disk_Write
  rw [try0 k room _ hf m]
  simp only [bind_some]
  rw [if_neg (by simp), sEq_ne hn, if_neg (by simp), put_ok k room false f h n ⟨true, s⟩ hr hm hW]
  rfl

theorem append_ok {f : Int} (hf : f ≤ 0) {m : FM} (h : Som m) {n : List UInt8} (hn : n ≠ []) {s : List UInt8} (hs : (fileAt m n).now.s.length + s.length ≤ 1000000) (hr : room ≤ 1100000) (hm : (W m : Int) ≤ room)
    (hW : (W (mput m n (some ⟨⟨true, (fileAt m n).now.s ++ s⟩, (fileAt m n).safe⟩)) : Int) ≤ room) :
    platter_Disk_Append k room (W m) false f m n s = some (0, (W (mput m n (some ⟨⟨true, (fileAt m n).now.s ++ s⟩, (fileAt m n).safe⟩)) : Int), f, mput m n (some ⟨⟨true, (fileAt m n).now.s ++ s⟩, (fileAt m n).safe⟩)) := by
  unfold platter_Disk_Append
  rw [try0 k room _ hf m]
  simp only [bind_some]
  rw [if_neg (by simp), sEq_ne hn, if_neg (by simp), get_at k room _ false f h n]
  simp only [bind_some]
  rw [cat_of (by omega)]
  simp only [bind_some]
  rw [put_ok k room false f h n ⟨true, _⟩ hr hm hW]
  rfl

end
end Go.Proofs.YtpldjopnhhbjpaaGreat
