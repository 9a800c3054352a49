/- A part of the proof by a deterministic interpreter of the loaded code (no condition of its own). -/
import Derived.Test.YtlodhfpkdlhmgaaGreatDoorGR5a
import Derived.ProofKit
namespace Go.GS.R5
def _root_.Go.GS.GCode.fst : GCode → GCode
  | .seq a _ => a
  | c => c
def _root_.Go.GS.GCode.snd : GCode → GCode
  | .seq _ b => b
  | c => c
def _root_.Go.GS.resT : Option (Value × Heap) → Bool
  | some (.bool true, _) => true
  | _ => false
theorem _root_.Go.GS.resT_iff {x : Option (Value × Heap)} (h : resT x = true) : ∃ h', x = some (.bool true, h') := by
  unfold resT at h
  split at h
  · exact ⟨_, rfl⟩
  · cases h
noncomputable abbrev C39 : Caller := callF TL 39
theorem w40key (kind m : Int) (hm : kind.tmod 9 = m) : callF TL 39 40 [.int .i64 kind, .int .i64 9] emptyHeap =
    trimF emptyHeap (finF [.tmp 4] (execF (callF TL 38) 38 15 g40.body.snd.snd [(5, .int .i64 m), (8, .int .i64 m), (7, .int .i64 9), (6, .int .i64 kind), (4, .int .i64 0), (0, .int .i64 kind), (1, .int .i64 9)] emptyHeap)) := by
  subst hm
  kernel_rfl
theorem w40 (kind m r : Int) (hm : kind.tmod 9 = m) (hr : trimF emptyHeap (finF [.tmp 4] (execF (callF TL 38) 38 15 g40.body.snd.snd [(5, .int .i64 m), (8, .int .i64 m), (7, .int .i64 9), (6, .int .i64 kind), (4, .int .i64 0), (0, .int .i64 kind), (1, .int .i64 9)] emptyHeap)) = some (.int .i64 r, emptyHeap)) :
    callF TL 39 40 [.int .i64 kind, .int .i64 9] emptyHeap = some (.int .i64 r, emptyHeap) := (w40key kind m hm).trans hr
theorem w40all (kind : Int) : ∃ r : Int, 0 ≤ r ∧ r < 9 ∧ callF TL 39 40 [.int .i64 kind, .int .i64 9] emptyHeap = some (.int .i64 r, emptyHeap) := by
  have h1 : (kind.tmod 9).natAbs < 9 := by
    have := Int.natAbs_tmod kind 9
    rw [this]; exact Nat.mod_lt _ (by decide)
  have h2 : kind.tmod 9 = -8 ∨ kind.tmod 9 = -7 ∨ kind.tmod 9 = -6 ∨ kind.tmod 9 = -5 ∨ kind.tmod 9 = -4 ∨ kind.tmod 9 = -3 ∨ kind.tmod 9 = -2 ∨ kind.tmod 9 = -1 ∨ kind.tmod 9 = 0 ∨ kind.tmod 9 = 1 ∨ kind.tmod 9 = 2 ∨ kind.tmod 9 = 3 ∨ kind.tmod 9 = 4 ∨ kind.tmod 9 = 5 ∨ kind.tmod 9 = 6 ∨ kind.tmod 9 = 7 ∨ kind.tmod 9 = 8 := by omega
  rcases h2 with h | h | h | h | h | h | h | h | h | h | h | h | h | h | h | h | h
  · exact ⟨1, by decide, by decide, w40 kind _ _ h (by kernel_rfl)⟩
  · exact ⟨2, by decide, by decide, w40 kind _ _ h (by kernel_rfl)⟩
  · exact ⟨3, by decide, by decide, w40 kind _ _ h (by kernel_rfl)⟩
  · exact ⟨4, by decide, by decide, w40 kind _ _ h (by kernel_rfl)⟩
  · exact ⟨5, by decide, by decide, w40 kind _ _ h (by kernel_rfl)⟩
  · exact ⟨6, by decide, by decide, w40 kind _ _ h (by kernel_rfl)⟩
  · exact ⟨7, by decide, by decide, w40 kind _ _ h (by kernel_rfl)⟩
  · exact ⟨8, by decide, by decide, w40 kind _ _ h (by kernel_rfl)⟩
  · exact ⟨0, by decide, by decide, w40 kind _ _ h (by kernel_rfl)⟩
  · exact ⟨1, by decide, by decide, w40 kind _ _ h (by kernel_rfl)⟩
  · exact ⟨2, by decide, by decide, w40 kind _ _ h (by kernel_rfl)⟩
  · exact ⟨3, by decide, by decide, w40 kind _ _ h (by kernel_rfl)⟩
  · exact ⟨4, by decide, by decide, w40 kind _ _ h (by kernel_rfl)⟩
  · exact ⟨5, by decide, by decide, w40 kind _ _ h (by kernel_rfl)⟩
  · exact ⟨6, by decide, by decide, w40 kind _ _ h (by kernel_rfl)⟩
  · exact ⟨7, by decide, by decide, w40 kind _ _ h (by kernel_rfl)⟩
  · exact ⟨8, by decide, by decide, w40 kind _ _ h (by kernel_rfl)⟩

def R : GCode := g5.body.snd.snd.snd
abbrev al (kind r : Int) : AL := [(0, .int .i64 r), (19, .int .i64 r), (18, .int .i64 kind), (0, .int .i64 kind)]
theorem A01 (kind : Int) : execF C39 39 164 (.seq g5.body.fst (.seq g5.body.snd.fst .skip)) [(0, .int .i64 kind)] emptyHeap = some (.nrm, [(0, .int .i64 kind)], emptyHeap) := by kernel_rfl
theorem Bstep (kind : Int) : execF C39 39 164 g5.body.snd.snd.fst [(0, .int .i64 kind)] emptyHeap =
    opsF (nextK 164 (some 19) (execOpsF C39 164 [⟨some 0, .mv (.tmp 19), none, false⟩]) [(18, .int .i64 kind), (0, .int .i64 kind)] (C39 40 [.int .i64 kind, .int .i64 9] emptyHeap)) := by kernel_rfl
end Go.GS.R5
