/-
  PlD: a disk of one file: Sync, Remove and Crash, exactly. Own work.
-/
import Derived.Test.YthmjdekmacoaaaaPlCPW
namespace Go.Proofs.Ythmjdekmacoaaaa
open Go.Hx

theorem awake_ok : glacierlaw04_awake 100 = some true := by decide +kernel
theorem cut_at (k : Nat) (s : List UInt8) (n : Nat) : ∃ t, glacierlaw01_Cut k s (n : Int) = some t ∧ t.length ≤ n := by
  unfold glacierlaw01_Cut
  by_cases h : n < s.length
  · rw [if_pos (by simpa using h), sl0 _ _ (by omega)]
    exact ⟨_, rfl, by simp only [List.length_take]; omega⟩
  · rw [if_neg (by simpa using h)]
    exact ⟨_, rfl, by omega⟩

section
variable (k : Nat) (room u : Int) {a : List UInt8} {f : T_platter_file}

theorem som1 (a : List UInt8) (f : T_platter_file) : Som [(a, some f)] := fun n v h => by
  simp only [mget] at h
  split at h
  · exact ⟨f, (Option.some.inj h).symm⟩
  · cases h
theorem mget1 (a : List UInt8) (f : T_platter_file) : mget [(a, some f)] a = some (some f) := by simp [mget]
theorem at1 (a : List UInt8) (f : T_platter_file) : fileAt [(a, some f)] a = f := fileAt_some (mget1 a f)
theorem W1 (a : List UInt8) (f : T_platter_file) : W [(a, some f)] = wt f := by simp [W, wo]
theorem put1 (a : List UInt8) (f : T_platter_file) (v : Option T_platter_file) : mput [(a, some f)] a v = [(a, v)] := by simp [mput]
theorem del1 (a : List UInt8) (f : T_platter_file) : mdel [(a, some f)] a = [] := by simp [mdel]

theorem write0 (ha : a ≠ []) {s : List UInt8} (hs : (s.length : Int) ≤ room) (hr : room ≤ 1000000) :
    platter_Disk_Write k room 0 false 0 [] a s = some (0, (s.length : Int), 0, [(a, some ⟨⟨true, s⟩, ⟨false, []⟩⟩)]) := by
  have h := write_ok k room (f := 0) (by omega) Som.nil ha s hr (by rw [show W ([] : FM) = 0 from rfl]; omega) (by
    rw [fileAt_none rfl]; show ((W [(a, some ⟨⟨true, s⟩, F0.safe⟩)] : Nat) : Int) ≤ room; rw [W1]; simp only [wt, F0, List.length_nil]; omega)
  rw [fileAt_none rfl] at h
  have hw : W (mput ([] : FM) a (some ⟨⟨true, s⟩, F0.safe⟩)) = s.length := by
    show W [(a, some ⟨⟨true, s⟩, F0.safe⟩)] = s.length
    rw [W1]; simp only [wt, F0, List.length_nil]; omega
  rw [hw] at h
  exact h

theorem put_one (x4 : Int) {t : T_platter_text} (hr : room ≤ 1000000) (h1 : (wt f : Int) ≤ room) (h2 : (wt ⟨t, f.safe⟩ : Int) ≤ room) :
    platter_Disk_put k room (wt f : Int) false x4 [(a, some f)] a t = some (0, (wt ⟨t, f.safe⟩ : Int), [(a, some ⟨t, f.safe⟩)]) := by
  have h := put_ok k room false x4 (som1 a f) a t hr (by rw [W1]; exact h1) (by rw [at1, put1, W1]; exact h2)
  rw [at1, put1, W1, W1] at h
  exact h

theorem write_one (ha : a ≠ []) {s : List UInt8} (hr : room ≤ 1000000) (h1 : (wt f : Int) ≤ room) (h2 : (wt ⟨⟨true, s⟩, f.safe⟩ : Int) ≤ room) :
    platter_Disk_Write k room (wt f : Int) false 0 [(a, some f)] a s = some (0, (wt ⟨⟨true, s⟩, f.safe⟩ : Int), 0, [(a, some ⟨⟨true, s⟩, f.safe⟩)]) := by
  unfold platter_Disk_Write
  rw [try0 k room _ (by omega)]
  simp only [bind_some]
  rw [if_neg (by simp), sEq_ne ha, if_neg (by simp), put_one k room 0 hr h1 h2]
  rfl

theorem append_one (ha : a ≠ []) {s : List UInt8} (hs : f.now.s.length + s.length ≤ 1000000) (hr : room ≤ 1000000) (h1 : (wt f : Int) ≤ room) (h2 : (wt ⟨⟨true, f.now.s ++ s⟩, f.safe⟩ : Int) ≤ room) :
    platter_Disk_Append k room (wt f : Int) false 0 [(a, some f)] a s = some (0, (wt ⟨⟨true, f.now.s ++ s⟩, f.safe⟩ : Int), 0, [(a, some ⟨⟨true, f.now.s ++ s⟩, f.safe⟩)]) := by
  unfold platter_Disk_Append
  rw [try0 k room _ (by omega)]
  simp only [bind_some]
  rw [if_neg (by simp), sEq_ne ha, if_neg (by simp), get_at k room _ false 0 (som1 a f), at1]
  simp only [bind_some]
  rw [cat_of (by omega)]
  simp only [bind_some]
  rw [put_one k room 0 hr h1 h2]
  rfl

def lone (a : List UInt8) (t : T_platter_text) : FM := if t.there = true then [(a, some ⟨t, t⟩)] else []

theorem settle_one (x4 : Int) (t : T_platter_text) (h0 : t.s.length ≤ wt f) (h1 : (wt f : Int) - t.s.length ≤ u) (hu : u ≤ 1000000) :
    platter_Disk_settle k room u false x4 [(a, some f)] a t = some (u - ((wt f : Int) - t.s.length), lone a t) := by
  rw [settle_ok k room u false x4 (mget1 a f) t h0 h1 hu, put1, del1]
  rfl

theorem sync_one (hk : 2 < k) {names : List (List UInt8)} (hn : names = [] ∨ names = [a]) (hal : a.length ≤ 10) (h1 : (wt f : Int) - f.now.s.length ≤ u) (hu : u ≤ 1000000) :
    platter_Disk_Sync k room u false 0 [(a, some f)] names = some (0, u - ((wt f : Int) - f.now.s.length), 0, lone a f.now) := by
  unfold platter_Disk_Sync
  rw [try0 k room u (by omega)]
  simp only [bind_some]
  rw [if_neg (by simp)]
  have hys : (if (((names.length : Int) == 0)) = true then (Option.bind (maps_Keys k [(a, some f)]) fun _ => (Option.bind (slices_Sorted k [(a, some f)]) fun y11 => some (y11))) else some (names)) = some [a] := by
    rcases hn with rfl | rfl
    · rw [if_pos (by simp)]
      unfold maps_Keys slices_Sorted
      simp only [bind_some]
      rw [if_pos (skOK_of (by simp) (by simp; omega)), skeys_one]
      rfl
    · rw [if_neg (by simp)]
  rw [hys]
  simp only [bind_some]
  have hl : platter_Disk_Sync_l1 k room false (0, 0) [a] k 0 [(a, some f)] u = some (lone a f.now, u - ((wt f : Int) - f.now.s.length)) := by
    obtain ⟨j, hj⟩ : ∃ j, k = j + 1 + 1 := ⟨k - 2, by omega⟩
    generalize hkk : k = kk
    rw [hj] at hkk
    subst hkk
    rw [platter_Disk_Sync_l1, if_pos (by simp), show gt [a] (0 : Int) = some a from rfl]
    simp only [bind_some]
    rw [get_at _ room u false 0 (som1 a f), at1]
    simp only [bind_some]
    rw [settle_one _ room u 0 f.now (by unfold wt; omega) h1 hu]
    simp only [bind_some]
    rw [platter_Disk_Sync_l1, if_neg (by simp [wr])]
  rw [hl]
  rfl

theorem crash_one (hk : 2 < k) (x4 : Int) (ch : List Int) (hal : a.length ≤ 10) (hne : f.now ≠ f.safe) {c : Int} (hc : c = (ch[0]?).getD 0) {t : T_platter_text} (ht : platter_file_left k (some f) c = some t) (h0 : t.s.length ≤ wt f) (h1 : (wt f : Int) - t.s.length ≤ u) (hu : u ≤ 1000000) :
    platter_Disk_Crash k room u false x4 [(a, some f)] ch = some (u - ((wt f : Int) - t.s.length), lone a t) := by
  unfold platter_Disk_Crash maps_Keys slices_Sorted
  simp only [bind_some]
  rw [if_pos (skOK_of (by simp) (by simp; omega)), skeys_one]
  simp only [bind_some]
  have hcc : (if decide ((0 : Int) < (ch.length : Int)) = true then (Option.bind (gt ch (0 : Int)) fun x12 => some (x12)) else some ((0 : Int))) = some c := by
    cases ch with
    | nil => rw [if_neg (by simp)]; simp at hc; rw [hc]
    | cons x ch => rw [if_pos (by simp)]; simp at hc; rw [hc]; rfl
  have hl : platter_Disk_Crash_l1 k room false x4 ch [a] k 0 0 [(a, some f)] u = some (lone a t, u - ((wt f : Int) - t.s.length)) := by
    obtain ⟨j, hj⟩ : ∃ j, k = j + 1 + 1 := ⟨k - 2, by omega⟩
    have e2 : ∀ (i : Int) (m : FM) (u : Int), platter_Disk_Crash_l1 k room false x4 ch [a] (j + 1) i 1 m u = some (m, u) := fun i m u => by
      rw [platter_Disk_Crash_l1, if_neg (by simp)]
    have e1 : platter_Disk_Crash_l1 k room false x4 ch [a] (j + 1 + 1) 0 0 [(a, some f)] u = some (lone a t, u - ((wt f : Int) - t.s.length)) := by
      rw [platter_Disk_Crash_l1, if_pos (by simp), show gt [a] (0 : Int) = some a from rfl]
      simp only [bind_some, mget1, Option.getD_some]
      rw [if_pos (by simpa using hne), hcc]
      simp only [bind_some, ht]
      rw [settle_one k room u x4 t h0 h1 hu]
      simp only [bind_some]
      rw [show IntKind.i64.wrap ((0 : Int) + 1) = 1 from by rw [wr (by omega)]; rfl]
      exact e2 _ _ _
    rw [← hj] at e1
    exact e1
  rw [hl]
  rfl
theorem crash_same (hk : 2 < k) (x4 : Int) (ch : List Int) (hal : a.length ≤ 10) (hs : f.now = f.safe) (hl : wt f ≤ 999999) :
    platter_Disk_Crash k room u false x4 [(a, some f)] ch = some (u, [(a, some f)]) := by
  have hel : ∀ n v, mget ([(a, some f)] : FM) n = some v → n.length ≤ 10 ∧ ∃ f, v = some f ∧ f.now.s.length ≤ 999999 ∧ f.safe.s.length ≤ 999999 := fun n v hv => by
    simp only [mget] at hv
    split at hv
    · rename_i he
      subst he
      refine ⟨hal, f, (Option.some.inj hv).symm, ?_, ?_⟩ <;> (unfold wt at hl; omega)
    · cases hv
  have hw : WF 1 999999 [(a, some f)] := ⟨by simp, hel, by simp⟩
  obtain ⟨u', M, e1, _, _, _, e5⟩ := crash_at k room u x4 ch (Nat.le_refl _) hw (by omega) (by omega)
  obtain ⟨h1, h2⟩ := e5 fun n f' hf' => by
    simp only [mget] at hf'
    split at hf'
    · simp only [Option.some.injEq] at hf'; rw [← hf']; exact hs
    · cases hf'
  rw [e1, h1, h2]
end
end Go.Proofs.Ythmjdekmacoaaaa
