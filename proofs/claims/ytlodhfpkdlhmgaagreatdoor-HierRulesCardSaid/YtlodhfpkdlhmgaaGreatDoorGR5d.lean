/- A part of the proof by a deterministic interpreter of the loaded code (no condition of its own). -/
import Derived.Test.YtlodhfpkdlhmgaaGreatDoorGR5c
namespace Go.GS.R5
theorem K0 (kind : Int) : resT (finF [.tmp 2] (execF C39 39 164 R (al kind 0) emptyHeap)) = true := by kernel_rfl
theorem K1 (kind : Int) : resT (finF [.tmp 2] (execF C39 39 164 R (al kind 1) emptyHeap)) = true := by kernel_rfl
theorem K2 (kind : Int) : resT (finF [.tmp 2] (execF C39 39 164 R (al kind 2) emptyHeap)) = true := by kernel_rfl
theorem K3 (kind : Int) : resT (finF [.tmp 2] (execF C39 39 164 R (al kind 3) emptyHeap)) = true := by kernel_rfl
theorem K4 (kind : Int) : resT (finF [.tmp 2] (execF C39 39 164 R (al kind 4) emptyHeap)) = true := by kernel_rfl
end Go.GS.R5
