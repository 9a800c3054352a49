/- A part of the proof by a deterministic interpreter of the loaded code (no condition of its own). -/
import Derived.Test.YtlodhfpkdlhmgaaGreatDoorGR5c
namespace Go.GS.R5
theorem K5 (kind : Int) : resT (finF [.tmp 2] (execF C39 39 164 R (al kind 5) emptyHeap)) = true := by kernel_rfl
theorem K6 (kind : Int) : resT (finF [.tmp 2] (execF C39 39 164 R (al kind 6) emptyHeap)) = true := by kernel_rfl
theorem K7 (kind : Int) : resT (finF [.tmp 2] (execF C39 39 164 R (al kind 7) emptyHeap)) = true := by kernel_rfl
theorem K8 (kind : Int) : resT (finF [.tmp 2] (execF C39 39 164 R (al kind 8) emptyHeap)) = true := by kernel_rfl
end Go.GS.R5
