/- A part of the proof by a deterministic interpreter of the loaded code (no condition of its own). -/
import Derived.Test.YtlodhfpkdlhmgaaGreatDoorCards
import Derived.ProofKit
import Derived.SevenTiedAt
namespace Go.Proofs.YtlodhfpkdlhmgaaGreatDoor.F5b
set_option maxRecDepth 100000
theorem wf : Rows.hierRulesRow.wfByText (OpenSpec.ofChange Rows.hierRulesSpec) = true := by kernel_rfl
theorem mainIs : Tryz.pinned.checked.prog.mainIs = some (Rows.hierRulesCard.stood.harness.1, Rows.hierRulesCard.stood.harness.2.toList) := by kernel_rfl
theorem goes : false = Rows.hierRulesRow.goesBy Tryz.pinned.checked.prog := by kernel_rfl
end Go.Proofs.YtlodhfpkdlhmgaaGreatDoor.F5b
