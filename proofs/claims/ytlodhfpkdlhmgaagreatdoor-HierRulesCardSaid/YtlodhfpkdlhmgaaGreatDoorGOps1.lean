/- Each operation of G against the machine's: those that read and make. -/
import Derived.Test.YtlodhfpkdlhmgaaGreatDoorGMoves
import Derived.Laws.Cells
import Derived.Laws.IdiomCopy
namespace Go.GS
variable {P : Program} {B : Nat} {ρ : Ren} {h : Heap} {w : World}

theorem r_underlying {t : TypeId} {d : TypeDesc} (hu : P.underlying t = some d) (w : World) : (underlying t).run P w = .ok d w := by simp [underlying, hu]
theorem r_info {t : TypeId} {i : TypeInfo} (hi : P.info? t = some i) (w : World) : (typeInfo t).run P w = .ok i w := by simp [typeInfo, hi]
theorem r_size {t : TypeId} {n : Nat} (hs : sizeP P t = some n) (w : World) : (sizeOf t).run P w = .ok n w := by
  unfold sizeP at hs
  cases hi : P.info? t with
  | none => simp [hi] at hs
  | some i => simp [hi] at hs; simp [sizeOf, r_info hi, hs]
theorem r_agg {t : TypeId} {b : Bool} (ha : aggP P t = some b) (w : World) : (isAgg t).run P w = .ok b w := by
  unfold aggP at ha
  cases hu : P.underlying t with
  | none => simp [hu] at ha
  | some d => cases d <;> simp [hu] at ha <;> simp [isAgg, r_underlying hu, ← ha]
theorem zeroL_spec {t : TypeId} {z : List Value} (hz : zeroL P t = some z) : ∃ v, (∀ w : World, (zeroValue t).run P w = .ok v w) ∧ v.cells.toList = z ∧ simpleV v = true ∧ sizeP P t = some z.length := by
  unfold zeroL at hz
  cases hi : P.info? t with
  | none => simp [hi] at hz
  | some i =>
    simp only [hi] at hz
    cases hv : i.zero with
    | none => simp [hv] at hz
    | some v =>
      simp only [hv] at hz
      split at hz
      · rename_i hc
        cases hz
        exact ⟨v, fun w => by simp [zeroValue, r_info hi, hv], cells_toList v, hc.1, by simp [sizeP, hi, hc.2]⟩
      · cases hz
theorem zeroV_spec {t : TypeId} {v : Value} (hz : zeroV P t = some v) : (∀ w : World, (zeroValue t).run P w = .ok v w) ∧ simpleV v = true := by
  unfold zeroV at hz
  cases hi : P.info? t with
  | none => simp [hi] at hz
  | some i =>
    simp only [hi] at hz
    cases hv : i.zero with
    | none => simp [hv] at hz
    | some u =>
      simp only [hv] at hz
      split at hz
      · rename_i hc
        cases hz
        exact ⟨fun w => by simp [zeroValue, r_info hi, hv], hc⟩
      · cases hz

/-- What an operation of G comes to, on the machine. -/
def OpOK (P : Program) (o : Oper) (a : Act) (B : Nat) (ρ : Ren) (h : Heap) (w : World) (v : Value) (h' : Heap) : Prop :=
  ∃ v' w' ρ', (∃ nx, (execOp a.eval o).run P w = .ok nx w' ∧ (nx = .value v' ∨ nx = .skip ∧ v' = undef)) ∧ VR ρ' v v' ∧ Sim B ρ' h' w' ∧ Step B ρ h w ρ' h' w'

theorem OpOK.same {o : Oper} {a : Act} {v v' : Value} (s : Sim B ρ h w) (hr : (execOp a.eval o).run P w = .ok (.value v') w) (hv : VR ρ v v') : OpOK P o a B ρ h w v h :=
  ⟨v', w, ρ, ⟨_, hr, .inl rfl⟩, hv, s, Step.refl _ _ _ _⟩

theorem VRs.of_array {ρ : Ren} {c : List Value} {c' : Array Value} (hlen : c.length = c'.size) (hg : ∀ (j : Nat) (v : Value), c[j]? = some v → ∃ v', c'[j]? = some v' ∧ VR ρ v v') : VRs ρ c c'.toList :=
  VRs.of_get (by simpa using hlen) fun j v v' h1 h2 => by
    obtain ⟨x, hx, hr⟩ := hg j v h1
    rw [Array.getElem?_toList] at h2
    rw [hx] at h2; cases h2; exact hr

/-- A new block of cells. -/
theorem OpOK.box {o : Oper} {a : Act} (s : Sim B ρ h w) {c : List Value} {c' : Array Value} (sz : Nat) (t : TypeId) (hc : VRs ρ c c'.toList) (v v' : Value)
    (hr : (execOp a.eval o).run P w = .ok (.value v') { w with heap := w.heap.push (.cells c' t) })
    (hv : VR (ρ.add h.size ⟨w.heap.size, 0, c'.size, sz⟩) v v') : OpOK P o a B ρ h w v (h.push (.arr false sz c)) := by
  have hlen : c.length = c'.size := by simpa using hc.length
  obtain ⟨s', t'⟩ := push_sound (w' := { w with heap := w.heap.push (.cells c' t) }) s (.arr false sz c) (.cells c' t) ⟨w.heap.size, 0, c'.size, sz⟩ rfl rfl
    ⟨c', t, (0, 0), rfl, rfl, rfl, by simp [hlen], fun j x hj => by
      obtain ⟨x', h1, h2⟩ := hc.get j x hj
      exact ⟨x', by simpa using h1, h2⟩, fun _ hlt => absurd hlt (by simp)⟩
  exact ⟨v', _, _, ⟨_, hr, .inl rfl⟩, hv, s', t'⟩

/-- Cells that G reads. -/
theorem Sim.cell {b off : Nat} {i : BI} {v : Value} (s : Sim B ρ h w) (hb : ρ b = some i) (hc : h.cell b off = some v) :
    ∃ v', w.cell? ⟨i.blk, i.d + off, none⟩ = some v' ∧ VR ρ v v' := by
  obtain ⟨x, o, h1, h2, h3⟩ := s.blk b i hb
  unfold Heap.cell at hc
  rw [h1] at hc
  cases x with
  | arr ro sz c =>
    obtain ⟨c', e, fr, rfl, _, _, _, h5, _⟩ := h3
    obtain ⟨v', hv, hr⟩ := h5 off v hc
    exact ⟨v', by simp [World.cell?, h2, hv], hr⟩
  | map es => cases hc
  | dead => cases hc
theorem Sim.cells {b off n : Nat} {i : BI} {c : List Value} (s : Sim B ρ h w) (hb : ρ b = some i) (hc : h.cells b off n = some c) :
    ∃ c' : List Value, VRs ρ c c' ∧ c.length = n ∧ ∀ j v, c'[j]? = some v → w.cell? ⟨i.blk, i.d + off + j, none⟩ = some v := by
  obtain ⟨x, o, h1, h2, h3⟩ := s.blk b i hb
  unfold Heap.cells at hc
  rw [h1] at hc
  cases x with
  | arr ro sz l =>
    obtain ⟨c', e, fr, rfl, _, _, h4, h5, _⟩ := h3
    simp only at hc
    split at hc
    · rename_i hle
      cases hc
      refine ⟨(c'.toList.drop (i.d + off)).take n, ?_, by simp; omega, ?_⟩
      · refine VRs.of_get (by simp; omega) fun j v v' hj hj' => ?_
        rw [List.getElem?_take] at hj hj'
        split at hj
        · rename_i hjn
          rw [if_pos hjn] at hj'
          rw [List.getElem?_drop] at hj hj'
          obtain ⟨x, hx, hr⟩ := h5 (off + j) v hj
          rw [Array.getElem?_toList, Nat.add_assoc, hx] at hj'
          cases hj'; exact hr
        · cases hj
      · intro j v hj
        rw [List.getElem?_take] at hj
        split at hj
        · rw [List.getElem?_drop, Array.getElem?_toList] at hj
          simp [World.cell?, h2, hj]
        · cases hj
    · cases hc
  | map es => cases hc
  | dead => cases hc

theorem add_mk (b off n : Nat) : (⟨b, off, none⟩ : Addr).add n = ⟨b, off + n, none⟩ := by
  unfold Addr.add; split <;> simp_all

theorem loadCells_sound {b off n : Nat} {i : BI} {c : List Value} (s : Sim B ρ h w) (hb : ρ b = some i) (hc : h.cells b off n = some c) :
    ∃ c' : List Value, VRs ρ c c' ∧ c'.length = n ∧ (loadCells ⟨i.blk, i.d + off, none⟩ n).run P w = .ok c'.toArray w := by
  obtain ⟨c', h1, h2, h3⟩ := s.cells hb hc
  have hl : c'.length = n := by rw [← h1.length]; exact h2
  refine ⟨c', h1, hl, ?_⟩
  rw [← hl]
  exact run_loadCells_list w _ c' fun j v hj => by rw [add_mk]; exact h3 j v hj

section ops
variable {o : Oper} {a : Act} {env : List Value} (s : Sim B ρ h w) (E : EnvR ρ env a.tmps)
include s E

theorem ok_move {x : Operand} (hop : o.op = .move x ∨ o.op = .assign x) (hx : okOpd x = true) : OpOK P o a B ρ h w (ev env x) h :=
  OpOK.same s (v' := a.eval x) (by rcases hop with hop | hop <;> simp [execOp, hop]) (E.ev hx)

theorem ok_pick {c x y : Operand} {t : Bool} (hop : o.op = .pick c x y) (hx : okAll [c, x, y] = true) (hc : ev env c = .bool t) :
    OpOK P o a B ρ h w (if t then ev env x else ev env y) h := by
  simp [okAll] at hx
  have h1 := E.ev hx.1
  rw [hc] at h1
  generalize hv : a.eval c = cv at h1
  cases h1
  refine OpOK.same s (v' := if t then a.eval x else a.eval y) (by simp [execOp, hop, hv, asBool]) ?_
  cases t
  · exact E.ev hx.2.2
  · exact E.ev hx.2.1

omit E in
theorem ok_alloc {e : TypeId} {z : List Value} (hop : o.op = .alloc e) (hz : zeroL P e = some z) :
    OpOK P o a B ρ h w (.pointer (some ⟨h.size, 0, none⟩)) (h.push (.arr false 0 z)) := by
  obtain ⟨v, hr, hcs, hsv, _⟩ := zeroL_spec hz
  have hc : VRs ρ z v.cells.toList := by
    rw [hcs, ← hcs, cells_toList]; exact simpleV_cells hsv
  refine OpOK.box s 0 e hc _ (.pointer (some ⟨w.heap.size, 0, none⟩)) ?_ (.ptr (i := ⟨w.heap.size, 0, v.cells.size, 0⟩) (Ren.add_self _ _ _) rfl)
  simp [execOp, hop, Instr.alloc, hr, newVar, newRow]

theorem ok_box {e : TypeId} {x : Operand} (hop : o.op = .box e x) (hx : okOpd x = true) (hb : ev env x ≠ .tuple #[]) :
    OpOK P o a B ρ h w (.pointer (some ⟨h.size, 0, none⟩)) (h.push (.arr false 0 (cellsL (ev env x)))) := by
  have hc : VRs ρ (cellsL (ev env x)) (a.eval x).cells.toList := by rw [cells_toList]; exact (E.ev hx).cellsL hb
  refine OpOK.box s 0 e hc _ (.pointer (some ⟨w.heap.size, 0, none⟩)) ?_ (.ptr (i := ⟨w.heap.size, 0, _, 0⟩) (Ren.add_self _ _ _) rfl)
  simp [execOp, hop, Instr.box, newVar, newRow]

theorem ok_load1 {t : TypeId} {x : Operand} {p : Addr} {v : Value} (hop : o.op = .load t x) (hx : okOpd x = true) (ha : aggP P t = some false)
    (hp : ev env x = .pointer (some p)) (hv : h.cell p.block p.off = some v) : OpOK P o a B ρ h w v h := by
  have h1 := E.ev hx
  rw [hp] at h1
  generalize hq : a.eval x = q at h1
  cases h1 with
  | ptr hb hs =>
    obtain ⟨v', hc, hr⟩ := s.cell hb hv
    refine OpOK.same s (v' := v') ?_ hr
    simp [execOp, hop, hq, Instr.loadAt, Instr.sureAddr, loadVar, r_agg ha, hc]

theorem ok_loadn {t : TypeId} {x : Operand} {p : Addr} {n : Nat} {c : List Value} (hop : o.op = .load t x) (hx : okOpd x = true) (ha : aggP P t = some true) (hn : sizeP P t = some n)
    (hp : ev env x = .pointer (some p)) (hv : h.cells p.block p.off n = some c) : OpOK P o a B ρ h w (.agg c.toArray) h := by
  have h1 := E.ev hx
  rw [hp] at h1
  generalize hq : a.eval x = q at h1
  cases h1 with
  | ptr hb hs =>
    obtain ⟨c', hr, _, hl⟩ := loadCells_sound (P := P) s hb hv
    refine OpOK.same s (v' := .agg c'.toArray) ?_ (.agg (by simpa using hr))
    simp [execOp, hop, hq, Instr.loadAt, Instr.sureAddr, loadVar, r_agg ha, r_size hn, hl]

theorem ok_nilc {x : Operand} {v : Value} (hop : o.op = .nilCheck x) (hx : okOpd x = true) (hv : ev env x = v)
    (hc : (∃ p, v = .pointer (some p)) ∨ (∃ f c d, v = .func (.func f) c d)) : OpOK P o a B ρ h w v h := by
  have h1 := E.ev hx
  rw [hv] at h1
  refine OpOK.same s (v' := a.eval x) ?_ h1
  generalize hq : a.eval x = q at h1
  rcases hc with ⟨p, rfl⟩ | ⟨f, c, d, rfl⟩
  · cases h1 with
    | ptr hb hs => simp [execOp, hop, hq]
  · cases h1 with
    | func h1 h2 => simp [execOp, hop, hq]
end ops
end Go.GS
