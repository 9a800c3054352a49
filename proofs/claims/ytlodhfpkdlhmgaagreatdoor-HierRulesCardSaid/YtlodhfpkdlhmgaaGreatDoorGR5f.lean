/- A part of the proof by a deterministic interpreter of the loaded code (no condition of its own). -/
import Derived.Test.YtlodhfpkdlhmgaaGreatDoorGR5d
import Derived.Test.YtlodhfpkdlhmgaaGreatDoorGR5e
import Derived.Test.YtlodhfpkdlhmgaaGreatDoorGR5b
namespace Go.GS.R5
theorem execF_seq (C : Caller) (k N : Nat) (a b : GCode) (al : AL) (h : Heap) : execF C k N (.seq a b) al h = seqF (execF C k N b) (execF C k N a al h) := rfl
theorem seqF_eq {F G : AL → Heap → FRes} {x : FRes} {al : AL} {h : Heap} (hx : seqF F x = some (.nrm, al, h)) : ∃ al1 h1, x = some (.nrm, al1, h1) ∧ F al1 h1 = some (.nrm, al, h) ∧ seqF G x = G al1 h1 := by
  cases x with
  | none => cases hx
  | some p =>
    obtain ⟨g1, al1, h1⟩ := p
    cases g1 with
    | nrm => exact ⟨al1, h1, rfl, hx, rfl⟩
    | ex i => cases hx
    | goto l => cases hx
    | ret v => cases hx
theorem seqSkip {C : Caller} {k N : Nat} {A B : GCode} {al al' : AL} {h h' : Heap} (hx : execF C k N (.seq A (.seq B .skip)) al h = some (.nrm, al', h')) (X : GCode) :
    execF C k N (.seq A (.seq B X)) al h = execF C k N X al' h' := by
  rw [execF_seq] at hx ⊢
  obtain ⟨al1, h1, _, h3, h4⟩ := seqF_eq (G := execF C k N (.seq B X)) hx
  rw [h4, execF_seq]
  rw [execF_seq] at h3
  obtain ⟨al2, h2, _, h6, h7⟩ := seqF_eq (G := execF C k N X) h3
  rw [h7]
  have h6 : (some (GX.nrm, al2, h2) : FRes) = some (.nrm, al', h') := h6
  cases h6
  rfl
theorem Bnext (F : AL → Heap → FRes) (kind r : Int) : seqF F (opsF (nextK 164 (some 19) (execOpsF C39 164 [⟨some 0, .mv (.tmp 19), none, false⟩]) [(18, .int .i64 kind), (0, .int .i64 kind)] (some (.int .i64 r, emptyHeap)))) = F (al kind r) emptyHeap := by kernel_rfl
theorem e1 (kind : Int) : callF TL 40 5 [.int .i64 kind] emptyHeap = finF [.tmp 2] (execF C39 39 164 (.seq g5.body.fst (.seq g5.body.snd.fst (.seq g5.body.snd.snd.fst R))) [(0, .int .i64 kind)] emptyHeap) := by kernel_rfl
theorem run (kind : Int) : ∃ h', callF TL 40 5 [.int .i64 kind] emptyHeap = some (.bool true, h') := by
  obtain ⟨r, h0, h9, hw⟩ := w40all kind
  rw [e1 kind, seqSkip (A01 kind), execF_seq, Bstep, show C39 40 [.int .i64 kind, .int .i64 9] emptyHeap = some (.int .i64 r, emptyHeap) from hw, Bnext]
  have hr : r = 0 ∨ r = 1 ∨ r = 2 ∨ r = 3 ∨ r = 4 ∨ r = 5 ∨ r = 6 ∨ r = 7 ∨ r = 8 := by omega
  rcases hr with rfl | rfl | rfl | rfl | rfl | rfl | rfl | rfl | rfl
  · exact resT_iff (K0 kind)
  · exact resT_iff (K1 kind)
  · exact resT_iff (K2 kind)
  · exact resT_iff (K3 kind)
  · exact resT_iff (K4 kind)
  · exact resT_iff (K5 kind)
  · exact resT_iff (K6 kind)
  · exact resT_iff (K7 kind)
  · exact resT_iff (K8 kind)
/-- What the model's runs do. -/
theorem calls {W : World} (hm : PG.follows .mixedOrders = true) (kind : Int) :
    Calls PG 5 #[.int .i64 kind] W fun e w' => e = .returned (.bool true) ∧ (w'.os = W.os ∧ w'.output = W.output) ∧ W.heap.size ≤ w'.heap.size ∧ ∀ c, c < W.heap.size → w'.heap[c]? = W.heap[c]? := by
  obtain ⟨h', hc⟩ := run kind
  have := law_sound hm tableOK (callF_le TL 40 _ _ _ _ hc) (emptySim W) (args' := [.int .i64 kind]) (.cons (.int _ _) .nil)
  exact this.mono fun e w' ⟨ρ', v', h1, h2, h5, h3, h4⟩ => ⟨by cases h2; exact h1, h5, h3, h4⟩
end Go.GS.R5
