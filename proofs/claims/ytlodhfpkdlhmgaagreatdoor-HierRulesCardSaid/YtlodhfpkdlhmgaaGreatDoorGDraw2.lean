/- A region whose order is drawn: whatever order, it comes to G's answer. -/
import Derived.Test.YtlodhfpkdlhmgaaGreatDoorGDraw1
namespace Go.GS
variable {P : Program} {B : Nat}

/-- What is looked at once, of a region that draws. -/
structure Looked (P : Program) (ops : Array Oper) (gs : List GI) : Prop where
  len : gs.length = ops.size
  el : ∀ (i : Nat) (o : Oper), ops[i]? = some o → ∃ g, gs[i]? = some g ∧ Elabed P ops o g
  edges : ∀ (i : Nat) (o : Oper) (e : Edge), ops[i]? = some o → e ∈ edg o → e.on < i
  slots : ∀ (i j : Nat) (gi gj : GI) (t : Nat), gs[i]? = some gi → gs[j]? = some gj → gi.dst = some t → t ∈ gj.names ∨ gj.dst = some t → i ≠ j → (i < j ∧ Bef ops i j) ∨ (j < i ∧ Bef ops j i)
  bars : ∀ (i j : Nat) (gi gj : GI), gs[i]? = some gi → gs[j]? = some gj → gi.q = false → gi.op.hp = true ∧ (gj.op.hp = true → i ≠ j → (i < j ∧ Bef ops i j) ∨ (j < i ∧ Bef ops j i))

theorem looked_of {ops : Array Oper} {gs : List GI} (h : elabOps P ops.toList true = some gs) : Looked P ops gs := by
  unfold elabOps at h
  split at h
  · cases h
  · rename_i gs0 hraw
    simp only [if_true] at h
    split at h
    · rename_i hc
      simp only [Bool.and_eq_true] at hc
      simp only [Option.some.injEq] at h
      subst h
      obtain ⟨h1, h2⟩ := elabRaw_spec hraw
      have hlen : (markQ gs0 (befAll ops.toList [])).length = gs0.length := by simp [markQ]
      have hget : ∀ (i : Nat) (g : GI), (markQ gs0 (befAll ops.toList []))[i]? = some g → ∃ g0, gs0[i]? = some g0 ∧ g = { g0 with q := !(g0.op.hp && barrier gs0 (befAll ops.toList []) i) } := by
        intro i g hg
        simp only [markQ, List.getElem?_map, List.getElem?_zipIdx, Nat.zero_add] at hg
        cases hi : gs0[i]? with
        | none => simp [hi] at hg
        | some g0 => simp [hi] at hg; exact ⟨g0, rfl, by rw [← hg]; simp⟩
      have hget2 : ∀ (i : Nat) (g0 : GI), gs0[i]? = some g0 → (markQ gs0 (befAll ops.toList []))[i]? = some { g0 with q := !(g0.op.hp && barrier gs0 (befAll ops.toList []) i) } := by
        intro i g0 hg
        simp [markQ, List.getElem?_map, List.getElem?_zipIdx, hg]
      refine ⟨by rw [hlen, h1], fun i o ho => ?_, fun i o e ho he => ?_, fun i j gi gj t hi hj hd ht hij => ?_, fun i j gi gj hi hj hq => ?_⟩
      · obtain ⟨g, k1, k2, _⟩ := h2 i o ho
        exact ⟨_, hget2 i g k1, k2.1, k2.2.1, k2.2.2⟩
      · have := hc.1
        simp only [edgesOk, List.all_eq_true] at this
        have hm := this (o, i) (by
          rw [List.mem_iff_getElem?]
          exact ⟨i, by simp [List.getElem?_zipIdx, ho]⟩)
        have h3 := hm e he
        simpa using h3
      · obtain ⟨gi0, ki, rfl⟩ := hget i gi hi
        obtain ⟨gj0, kj, rfl⟩ := hget j gj hj
        have := hc.2
        simp only [slotsOk, List.all_eq_true] at this
        have hm := this (gj0, j) (by rw [List.mem_iff_getElem?]; exact ⟨j, by simp [List.getElem?_zipIdx, kj]⟩) (gi0, i) (by rw [List.mem_iff_getElem?]; exact ⟨i, by simp [List.getElem?_zipIdx, ki]⟩)
        simp only at hd ht hm
        rw [hd] at hm
        simp only [Bool.or_eq_true, beq_iff_eq, Bool.not_eq_true', Bool.or_eq_false_iff] at hm
        rcases hm with hm | ⟨hm1, hm2⟩ | hm
        · exact absurd hm hij
        · exfalso
          rcases ht with ht | ht
          · have : gj0.names.contains t = true := by simpa [GI.names] using ht
            rw [hm1] at this; cases this
          · rw [ht] at hm2; simp at hm2
        · exact comp_Bef hm hij
      · obtain ⟨gi0, ki, rfl⟩ := hget i gi hi
        obtain ⟨gj0, kj, rfl⟩ := hget j gj hj
        simp only [Bool.not_eq_false', Bool.and_eq_true] at hq
        refine ⟨hq.1, fun hhp hij => ?_⟩
        have := hq.2
        simp only [barrier, List.all_eq_true] at this
        have hm := this (gj0, j) (by rw [List.mem_iff_getElem?]; exact ⟨j, by simp [List.getElem?_zipIdx, kj]⟩)
        simp only [Bool.or_eq_true, beq_iff_eq, Bool.not_eq_true'] at hm
        rcases hm with (hm | hm) | hm
        · exact absurd hm hij
        · simp only at hhp; rw [hm] at hhp; cases hhp
        · exact comp_Bef hm hij
    · cases h

section
variable {C : Caller} {ops : Array Oper} {gs : List GI} {E : Nat → List Value} {H : Nat → Heap} {V : Nat → Value}

/-- Operations that may write: done up to m, and none from m on. -/
def Good (gs : List GI) (S : Nat → Bool) (m : Nat) : Prop := ∀ i g, gs[i]? = some g → g.q = false → (S i = true ↔ i < m)

/-- What holds when the operations of S have run. -/
structure Inv (B : Nat) (ops : Array Oper) (gs : List GI) (E : Nat → List Value) (H : Nat → Heap) (ρ0 : Ren) (w0 : World) (S : Nat → Bool) (ρ : Ren) (a : Act) (w : World) : Prop where
  dc : ∀ i j, S j = true → Bef ops i j → S i = true
  lt : ∀ i, S i = true → i < gs.length
  env : ∀ t m, m ≤ gs.length → (∀ i g, gs[i]? = some g → g.dst = some t → (S i = true ↔ i < m)) → VR (restr ρ (H m).size) ((E m).getD t undef) (a.tmps.getD t undef)
  len : (E 0).length = a.tmps.size
  dfr : a.defers = []
  ext : ρ0.le ρ
  dom : ∀ b i, ρ b = some i → ρ0 b = some i ∨ ∃ j, S j = true ∧ (H j).size ≤ b ∧ b < (H (j + 1)).size
  sim : ∀ m, m ≤ gs.length → Good gs S m → Sim B (restr ρ (H m).size) (H m) w
  wsz : w0.heap.size ≤ w.heap.size
  frame : ∀ c, c < w0.heap.size → (c < B ∨ ∀ b i, ρ0 b = some i → i.blk = c → (H 0).ownAt b → b < (H gs.length).low) → w.heap[c]? = w0.heap[c]?
  fresh : ∀ b i, ρ b = some i → ρ0 b = none → w0.heap.size ≤ i.blk ∨ ∃ c j, ρ0 c = some j ∧ (H 0).ownAt c ∧ (H gs.length).low ≤ c ∧ j.blk = i.blk
  io : w.os = w0.os ∧ w.output = w0.output

variable (hCH : CHeap C) (r : Run C gs E H V) (L : Looked P ops gs)
include hCH r

theorem Inv.start {ρ0 : Ren} {w0 : World} {a : Act} (s : Sim B ρ0 (H 0) w0) (En : EnvR ρ0 (E 0) a.tmps) (hd : a.defers = []) : Inv B ops gs E H ρ0 w0 (fun _ => false) ρ0 a w0 := by
  have hr : ∀ m, m ≤ gs.length → restr ρ0 (H m).size = ρ0 := fun m hm => restr_eq fun b i hb => by
    have := s.dom hb
    have := (r.hstep hCH (Nat.zero_le m) hm).size
    omega
  refine ⟨fun i j h => (by cases h), fun i h => (by cases h), fun t m hm hw => ?_, En.1, hd, Ren.le_refl _, fun b i hb => .inl hb, fun m hm hg => ?_, Nat.le_refl _, fun _ _ _ => rfl, fun b i h1 h2 => (by rw [h2] at h1; cases h1), ⟨rfl, rfl⟩⟩
  · rw [hr m hm, r.env_same (Nat.zero_le m) hm (fun k g hk _ hkm hdst => by have := (hw k g hk hdst).2 hkm; cases this)]
    exact En.2 t
  · rw [hr m hm]
    refine s.ext fun b i hb => r.keep hCH (Nat.zero_le m) hm (fun k g hk _ hkm => ?_) b (s.dom hb)
    cases hq : g.q with
    | true => rfl
    | false => have := (hg k g hk hq).2 hkm; cases this

include L
/-- All that ρ knows lies below the first operation that may write and has not run. -/
theorem Inv.full {ρ0 ρ : Ren} {w0 w : World} {S : Nat → Bool} {a : Act} (s0 : Sim B ρ0 (H 0) w0) (I : Inv B ops gs E H ρ0 w0 S ρ a w) : ∃ m, m ≤ gs.length ∧ Good gs S m ∧ restr ρ (H m).size = ρ := by
  have key : ∀ k, k ≤ gs.length → (∀ i g, gs[i]? = some g → g.q = false → i < k → S i = true) ∨ ∃ m g, m < k ∧ gs[m]? = some g ∧ g.q = false ∧ S m = false ∧ ∀ i g, gs[i]? = some g → g.q = false → i < m → S i = true := by
    intro k
    induction k with
    | zero => intro _; exact .inl fun i g _ _ h => by omega
    | succ k ih =>
      intro hk
      rcases ih (by omega) with h | ⟨m, g, h1, h2⟩
      · obtain ⟨g, hg⟩ : ∃ g, gs[k]? = some g := ⟨gs[k], List.getElem?_eq_getElem (by omega)⟩
        by_cases hb : g.q = false ∧ S k = false
        · exact .inr ⟨k, g, by omega, hg, hb.1, hb.2, h⟩
        · refine .inl fun i g' hi hq hik => ?_
          by_cases hik' : i = k
          · subst hik'
            rw [hg] at hi; cases hi
            cases hs : S i with
            | true => rfl
            | false => exact absurd ⟨hq, hs⟩ hb
          · exact h i g' hi hq (by omega)
      · exact .inr ⟨m, g, by omega, h2⟩
  rcases key gs.length (Nat.le_refl _) with h | ⟨m, g, h1, hg, hq, hs, h2⟩
  · refine ⟨gs.length, Nat.le_refl _, fun i g hi hq => ⟨fun hs => I.lt i hs, fun hi' => h i g hi hq hi'⟩, restr_eq fun b i hb => ?_⟩
    rcases I.dom b i hb with h0 | ⟨j, hj, _, hb2⟩
    · have := s0.dom h0
      have := (r.hstep hCH (Nat.zero_le gs.length) (Nat.le_refl _)).size
      omega
    · have hjl := I.lt j hj
      have := (r.hstep hCH (show j + 1 ≤ gs.length by omega) (Nat.le_refl _)).size
      omega
  · refine ⟨m, by omega, fun i g' hi hq' => ⟨fun hsi => ?_, fun him => h2 i g' hi hq' him⟩, restr_eq fun b i hb => ?_⟩
    · rcases Nat.lt_or_ge i m with h3 | h3
      · exact h3
      · exfalso
        by_cases him : i = m
        · subst him; rw [hs] at hsi; cases hsi
        · have hhp := (L.bars i i g' g' hi hi hq').1
          rcases (L.bars m i g g' hg hi hq).2 hhp (fun e => him e.symm) with ⟨_, hb⟩ | ⟨h4, _⟩
          · have := I.dc m i hsi hb; rw [hs] at this; cases this
          · omega
    · rcases I.dom b i hb with h0 | ⟨j, hj, hb1, hb2⟩
      · have := s0.dom h0
        have := (r.hstep hCH (Nat.zero_le m) (by omega)).size
        omega
      · have hjl := I.lt j hj
        obtain ⟨gj, hgj⟩ : ∃ g, gs[j]? = some g := ⟨gs[j], List.getElem?_eq_getElem hjl⟩
        rcases Nat.lt_or_ge j m with h3 | h3
        · have := (r.hstep hCH (show j + 1 ≤ m by omega) (by omega)).size
          omega
        · exfalso
          by_cases hjm : j = m
          · subst hjm; rw [hs] at hj; cases hj
          · cases hhp : gj.op.hp with
            | true =>
              rcases (L.bars m j g gj hg hgj hq).2 hhp (fun e => hjm e.symm) with ⟨_, hb⟩ | ⟨h4, _⟩
              · have := I.dc m j hj hb; rw [hs] at this; cases this
              · omega
            | false =>
              have : H (j + 1) = H j := by
                rcases (r.step j gj hgj).2 with ⟨_, _, h4⟩ | ⟨_, h4⟩
                · exact h4
                · unfold quiet at h4
                  split at h4
                  · split at h4
                    · rename_i v h5 ho
                      split at h4
                      · simp only [Option.some.injEq, Prod.mk.injEq] at h4
                        rw [(opE_nonhp hhp ho).1] at h4
                        exact h4.2.symm
                      · cases h4
                    · cases h4
                  · exact (opE_nonhp hhp h4).1
              rw [this] at hb2
              omega
end
end Go.GS
