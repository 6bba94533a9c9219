/-
  PlB: the disk's functions over plain data: what get, put, Write, Append, settle, Sync, left, Crash and Read come to. Own work.
-/
import Derived.Test.YtpldjopnhhbjpaaGreatRM
import Derived.Test.YtpldjopnhhbjpaaGreatHxQ
namespace Go.Proofs.YtpldjopnhhbjpaaGreat
open Go.Hx

abbrev FM := List (List UInt8 × Option T_platter_file)
def F0 : T_platter_file := ⟨⟨false, []⟩, ⟨false, []⟩⟩
def fileAt (m : FM) (n : List UInt8) : T_platter_file := ((mget m n).getD (some F0)).getD F0
def wt (f : T_platter_file) : Nat := max f.now.s.length f.safe.s.length
def wo : Option T_platter_file → Nat | some f => wt f | none => 0
def W (m : FM) : Nat := (m.map fun p => wo p.2).sum
def Som (m : FM) : Prop := ∀ n v, mget m n = some v → ∃ f, v = some f

theorem Som.nil : Som [] := fun n v h => by cases h
theorem Som.put {m : FM} (h : Som m) (n : List UInt8) (f : T_platter_file) : Som (mput m n (some f)) := fun n' v hv => by
  rw [mget_mput] at hv
  split at hv
  · exact ⟨f, (Option.some.inj hv).symm⟩
  · exact h n' v hv
theorem fileAt_none {m : FM} {n : List UInt8} (h : mget m n = none) : fileAt m n = F0 := by simp [fileAt, h]
theorem fileAt_some {m : FM} {n : List UInt8} {f : T_platter_file} (h : mget m n = some (some f)) : fileAt m n = f := by simp [fileAt, h]
theorem wo_at {m : FM} (h : Som m) (n : List UInt8) : gO wo (mget m n) = wt (fileAt m n) := by
  cases hg : mget m n with
  | none => rw [fileAt_none hg]; rfl
  | some v => obtain ⟨f, rfl⟩ := h n v hg; rw [fileAt_some hg]; rfl
theorem W_mput {m : FM} (h : Som m) (n : List UInt8) (f : T_platter_file) : W (mput m n (some f)) + wt (fileAt m n) = W m + wt f := by
  have := sum_mput wo m n (some f)
  rw [wo_at h] at this
  exact this
theorem W_mdel {m : FM} (h : Som m) (n : List UInt8) : W (mdel m n) + wt (fileAt m n) = W m := by
  have := sum_mdel wo m n
  rw [wo_at h] at this
  exact this
theorem wt_le {m : FM} (h : Som m) (n : List UInt8) : wt (fileAt m n) ≤ W m := by have := W_mdel h n; omega

theorem mx2_nat (a b : Nat) : mx2 (a : Int) (b : Int) = ((max a b : Nat) : Int) := by unfold mx2; split <;> omega

section
variable (k : Nat) (room u : Int) (x3 : Bool) (x4 : Int)

theorem get_at {m : FM} (h : Som m) (n : List UInt8) : platter_Disk_get k room u x3 x4 m n = some (some (fileAt m n)) := by
  unfold platter_Disk_get
  cases hg : mget m n with
  | none => rw [fileAt_none hg]; rfl
  | some v => obtain ⟨f, rfl⟩ := h n v hg; rw [fileAt_some hg]; rfl

theorem weight_at (f : T_platter_file) : platter_file_weight k f = some ((wt f : Nat) : Int) := by
  unfold platter_file_weight wt; rw [mx2_nat]
theorem weight2_at (f : T_platter_file) : platter_file_weight_2 k (some f) = some ((wt f : Nat) : Int) := by
  unfold platter_file_weight_2 wt; simp only [bind_some]; rw [mx2_nat]

theorem try_total (f : Int) (m : FM) : ∃ e f', meter_Luck_Try k room u false f m = some (e, f') := by
  unfold meter_Luck_Try
  rw [if_neg (by simp)]
  by_cases h : f > 0
  · rw [if_pos (by simpa using h)]
    split
    · exact ⟨_, _, rfl⟩
    · exact ⟨_, _, rfl⟩
  · rw [if_neg (by simpa using h)]
    exact ⟨_, _, rfl⟩
theorem try0 {f : Int} (hf : f ≤ 0) (m : FM) : meter_Luck_Try k room u false f m = some (0, f) := by
  unfold meter_Luck_Try
  rw [if_neg (by simp), if_neg (by simp; omega)]
  rfl

theorem give_ok {x : Int} (h0 : 0 ≤ x) (h1 : x ≤ u) (hu : u ≤ 1100000) (m : FM) : meter_Meter_Give k room u x3 x4 m x = some (0, u - x) := by
  unfold meter_Meter_Give
  rw [if_neg (by simp; omega)]
  simp only [bind_some]
  rw [if_neg (by simp; omega), wr (by omega)]
theorem give_total (x : Int) (m : FM) : ∃ e u', meter_Meter_Give k room u x3 x4 m x = some (e, u') := by
  unfold meter_Meter_Give
  split
  · exact ⟨_, _, rfl⟩
  · simp only [bind_some]; split <;> exact ⟨_, _, rfl⟩

/-- there is room -/
theorem put_ok {m : FM} (h : Som m) (n : List UInt8) (t : T_platter_text) (hr : room ≤ 1100000) (hm : (W m : Int) ≤ room)
    (hW : (W (mput m n (some ⟨t, (fileAt m n).safe⟩)) : Int) ≤ room) :
    platter_Disk_put k room (W m) x3 x4 m n t = some (0, (W (mput m n (some ⟨t, (fileAt m n).safe⟩)) : Int), mput m n (some ⟨t, (fileAt m n).safe⟩)) := by
  have e1 := W_mput h n ⟨t, (fileAt m n).safe⟩
  have e2 := wt_le h n
  generalize hf : (⟨t, (fileAt m n).safe⟩ : T_platter_file) = f' at e1 hW
  unfold platter_Disk_put
  rw [get_at k room _ x3 x4 h n]
  simp only [bind_some]
  rw [show (T_platter_file.mk t (T_platter_text.mk (fileAt m n).safe.there (fileAt m n).safe.s)) = f' from hf, weight_at, weight2_at]
  simp only [bind_some]
  generalize W (mput m n (some f')) = W' at e1 hW
  rw [wr (n := ((wt f' : Nat) : Int) - ((wt (fileAt m n) : Nat) : Int)) (by omega)]
  by_cases hd : wt (fileAt m n) < wt f'
  · rw [if_pos (by simp; omega)]
    have e3 : meter_Meter_Take k room (W m) x3 x4 m ((wt f' : Int) - (wt (fileAt m n) : Int)) = some (0, (W' : Int)) := by
      unfold meter_Meter_Take
      rw [if_neg (by simp; omega)]
      unfold meter_Meter_Fits
      simp only [bind_some]
      rw [wr (by omega), wr (by omega), if_neg (by simp; omega)]
      congr 2
      omega
    rw [e3]
    simp only [bind_some]
    rw [if_neg (by simp)]
    rfl
  · rw [if_neg (by simp; omega), wr (by omega), give_ok k room _ x3 x4 (by omega) (by omega) (by omega)]
    simp only [bind_some]
    rw [if_neg (by simp)]
    simp only [bind_some]
    congr 3
    omega

/-- whether there is room or not -/
theorem put_total {m : FM} (h : Som m) (n : List UInt8) (t : T_platter_text) : ∃ e u' M, platter_Disk_put k room u x3 x4 m n t = some (e, u', M) ∧
    ((e = 0 ∧ M = mput m n (some ⟨t, (fileAt m n).safe⟩)) ∨ (e ≠ 0 ∧ M = m)) := by
  unfold platter_Disk_put
  rw [get_at k room u x3 x4 h n]
  simp only [bind_some]
  rw [show (T_platter_file.mk t (T_platter_text.mk (fileAt m n).safe.there (fileAt m n).safe.s)) = ⟨t, (fileAt m n).safe⟩ from rfl, weight_at, weight2_at]
  simp only [bind_some]
  split
  · have : ∃ e u', meter_Meter_Take k room u x3 x4 m (IntKind.i64.wrap (((wt ⟨t, (fileAt m n).safe⟩ : Nat) : Int) - ((wt (fileAt m n) : Nat) : Int))) = some (e, u') := by
      unfold meter_Meter_Take meter_Meter_Fits
      split
      · exact ⟨_, _, rfl⟩
      · simp only [bind_some]; split <;> exact ⟨_, _, rfl⟩
    obtain ⟨e, u', he⟩ := this
    rw [he]
    simp only [bind_some]
    by_cases h0 : e = 0
    · rw [if_neg (by simp [h0])]; exact ⟨_, _, _, rfl, .inl ⟨rfl, rfl⟩⟩
    · rw [if_pos (by simp [h0])]; exact ⟨_, _, _, rfl, .inr ⟨h0, rfl⟩⟩
  · obtain ⟨e, u', he⟩ := give_total k room u x3 x4 (IntKind.i64.wrap (0 - (IntKind.i64.wrap (((wt ⟨t, (fileAt m n).safe⟩ : Nat) : Int) - ((wt (fileAt m n) : Nat) : Int))))) m
    rw [he]
    simp only [bind_some]
    by_cases h0 : e = 0
    · rw [if_neg (by simp [h0])]; exact ⟨_, _, _, rfl, .inl ⟨rfl, rfl⟩⟩
    · rw [if_pos (by simp [h0])]; exact ⟨_, _, _, rfl, .inr ⟨h0, rfl⟩⟩

theorem read_at {f : Int} (hf : f ≤ 0) {m : FM} (h : Som m) (n : List UInt8) :
    platter_Disk_Read k room u false f m n = some (if (fileAt m n).now.there = true then (fileAt m n).now.s else [], if (fileAt m n).now.there = true then 0 else 5, f) := by
  unfold platter_Disk_Read
  rw [try0 k room u hf m]
  simp only [bind_some]
  rw [if_neg (by simp), get_at k room u false f h n]
  simp only [bind_some]
  cases (fileAt m n).now.there <;> simp

/-- a file that is there is settled -/
theorem settle_total {m : FM} {n : List UInt8} {f : T_platter_file} (hm : mget m n = some (some f)) (t : T_platter_text) :
    ∃ u', platter_Disk_settle k room u x3 x4 m n t = some (u', if t.there = true then mput m n (some ⟨t, t⟩) else mdel m n) := by
  unfold platter_Disk_settle
  rw [hm, if_neg (by simp)]
  simp only [Option.getD_some, weight2_at, bind_some]
  obtain ⟨e, u', he⟩ := give_total k room u x3 x4 (IntKind.i64.wrap (((wt f : Nat) : Int) - (t.s.length : Int))) m
  rw [he]
  simp only [bind_some]
  refine ⟨u', ?_⟩
  cases t.there <;> simp
theorem settle_ok {m : FM} {n : List UInt8} {f : T_platter_file} (hm : mget m n = some (some f)) (t : T_platter_text) (h0 : t.s.length ≤ wt f) (h1 : ((wt f : Nat) : Int) - (t.s.length : Int) ≤ u) (hu : u ≤ 1100000) :
    platter_Disk_settle k room u x3 x4 m n t = some (u - (((wt f : Nat) : Int) - (t.s.length : Int)), if t.there = true then mput m n (some ⟨t, t⟩) else mdel m n) := by
  unfold platter_Disk_settle
  rw [hm, if_neg (by simp)]
  simp only [Option.getD_some, weight2_at, bind_some]
  rw [wr (by omega), give_ok k room u x3 x4 (by omega) (by omega) hu]
  simp only [bind_some]
  cases t.there <;> simp
theorem settle_none {m : FM} {n : List UInt8} (hm : mget m n = none) (t : T_platter_text) : platter_Disk_settle k room u x3 x4 m n t = some (u, m) := by
  unfold platter_Disk_settle
  rw [hm, if_pos (by simp)]

end
end Go.Proofs.YtpldjopnhhbjpaaGreat
