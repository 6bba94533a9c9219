/-
  PlS: Safe, of a disk whose files are settled. Own work.
-/
import Derived.Test.YthmjdekmacoaaaaPlCPK
namespace Go.Proofs.Ythmjdekmacoaaaa
open Go.Hx
section
variable (k : Nat) (room u : Int)
theorem safe_at (x4 : Int) {B L : Nat} {m : FM} (h : WF B L m) (hs : ∀ n f, mget m n = some (some f) → f.now = f.safe) : platter_Disk_Safe k room u false x4 m = some true := by
  unfold platter_Disk_Safe allM
  rw [if_pos]
  · congr 1
    rw [List.all_eq_true]
    intro p hp
    obtain ⟨_, f, hf, _⟩ := h.el p.1 p.2 (mem_mget h.nd hp)
    have := hs p.1 f (by rw [mem_mget h.nd hp, hf])
    simp [okM, hf, this]
  · rw [List.all_eq_true]
    intro p hp
    obtain ⟨_, f, hf, _⟩ := h.el p.1 p.2 (mem_mget h.nd hp)
    rw [hf]; rfl
end
end Go.Proofs.Ythmjdekmacoaaaa
