/- The reference's disk is small where the program's is. -/
import Derived.Test.YtcfcfpphhaknnaaRkP
import Derived.Test.YtcfcfpphhaknnaaCstD
namespace Go.Proofs.Ytcfcfpphhaknnaa
open Go.RowKit

theorem sim_fit {D : DiskD} {R : RDisk} {n : Nat} (h : Sim D R) (hf : FitN D n) : RFit R := by
  have h1 := hf.files; have h2 := hf.used; have h3 := hf.steps
  refine ⟨?_, ?_, ?_, by rw [h.done]; exact hf.steps0, by rw [h.done]; omega, by rw [h.left]; exact hf.left, by rw [h.left]; exact hf.left1⟩
  · rw [h.files]
    unfold seenL
    rw [List.length_map]; omega
  · rw [h.safe]
    unfold safeL
    rw [List.length_map]
    have := List.length_filter_le (fun f : FileD => decide (f.safe ≠ -1)) D.files
    omega
  · rw [h.files, longP_seen]
    unfold DiskD.used at h2
    omega
theorem sim_new (q : Int) : Sim ⟨[], max 0 q, 0, -1, false⟩ ⟨[], [], max 0 q, 0, -1, false⟩ :=
  ⟨List.Pairwise.nil, (fun _ h => by cases h), rfl, rfl, rfl, rfl, rfl, rfl, by show (-1 : Int) ≤ -1; decide, (fun _ h => by cases h)⟩
end Go.Proofs.Ytcfcfpphhaknnaa
