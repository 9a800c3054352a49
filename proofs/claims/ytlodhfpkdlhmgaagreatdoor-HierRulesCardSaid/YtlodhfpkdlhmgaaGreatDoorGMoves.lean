/- What G does to its heap, beside what the machine does: a block more; a block written; a block grown in place. -/
import Derived.Test.YtlodhfpkdlhmgaaGreatDoorGRel
namespace Go.GS
variable {B : Nat} {ρ : Ren} {h : Heap} {w w' : World}

theorem Heap.ownAt_push {h : Heap} {x : Blk} {b : Nat} : (h.push x).ownAt b ↔ if b = h.size then x.own = true else h.ownAt b := by
  unfold Heap.ownAt
  rw [Heap.get_push]
  by_cases hb : b = h.size
  · subst hb; simp
  · simp [hb]
theorem Heap.ownAt_put {h : Heap} {x : Blk} {b c : Nat} (h1 : h.nb ≤ b) (h2 : b < h.size) : (h.put b x).ownAt c ↔ if c = b then x.own = true else h.ownAt c := by
  unfold Heap.ownAt
  rw [Heap.get_put _ _ _ _ h1 h2]
  by_cases hb : c = b
  · subst hb; simp
  · simp [hb]

def Ren.add (ρ : Ren) (b : Nat) (i : BI) : Ren := fun c => if c = b then some i else ρ c
theorem Ren.add_self (ρ : Ren) (b : Nat) (i : BI) : ρ.add b i b = some i := by simp [Ren.add]
theorem Sim.none_size (s : Sim B ρ h w) : ρ h.size = none := by
  cases hx : ρ h.size with
  | none => rfl
  | some i => have := s.dom hx; omega
theorem Sim.le_add (s : Sim B ρ h w) (i : BI) : ρ.le (ρ.add h.size i) := fun b j hb => by
  have : b ≠ h.size := by have := s.dom hb; omega
  simp [Ren.add, this, hb]

/-- Only the heap matters. -/
theorem Sim.congr (s : Sim B ρ h w) (he : w'.heap = w.heap) : Sim B ρ h w' :=
  ⟨fun b i hb => by rw [he]; exact s.blk b i hb, s.inj, s.above, by rw [he]; exact s.bound⟩
theorem Step.congr {ρ' : Ren} {h' : Heap} {w1 w2 : World} (s : Step B ρ h w ρ' h' w1) (he : w2.heap = w1.heap) (hio : w2.os = w1.os ∧ w2.output = w1.output) : Step B ρ h w ρ' h' w2 :=
  ⟨s.ext, s.new, s.size, by rw [he]; exact s.wsize, s.low, s.nb, s.same, s.revive, fun c hc k => by rw [he]; exact s.frame c hc k, s.fresh, ⟨hio.1.trans s.io.1, hio.2.trans s.io.2⟩⟩
theorem Step.idle (he : w'.heap = w.heap) (hio : w'.os = w.os ∧ w'.output = w.output) : Step B ρ h w ρ h w' := (Step.refl B ρ h w).congr he hio

/-- A block more on both sides. -/
theorem push_sound (s : Sim B ρ h w) (x : Blk) (o : Obj) (i : BI) (hi : i.blk = w.heap.size) (hw : w'.heap = w.heap.push o)
    (hx : BlkR ρ x i o) (hio : w'.os = w.os ∧ w'.output = w.output := by exact ⟨rfl, rfl⟩) : Sim B (ρ.add h.size i) (h.push x) w' ∧ Step B ρ h w (ρ.add h.size i) (h.push x) w' := by
  have hle := s.le_add i
  refine ⟨⟨?_, ?_, ?_, ?_⟩, ⟨hle, ?_, ?_, ?_, ?_, rfl, ?_, ?_, ?_, ?_, hio⟩⟩
  · intro b j hb
    by_cases hbs : b = h.size
    · subst hbs
      rw [Ren.add_self] at hb; cases hb
      exact ⟨x, o, by rw [Heap.get_push]; simp, by rw [hw, hi]; simp, hx.mono hle⟩
    · have hb' : ρ b = some j := by simpa [Ren.add, hbs] using hb
      obtain ⟨y, p, h1, h2, h3⟩ := s.blk b j hb'
      refine ⟨y, p, by rw [Heap.get_push]; simp [hbs, h1], ?_, h3.mono hle⟩
      have := s.rng hb'
      rw [hw, Array.getElem?_push]
      have hne : j.blk ≠ w.heap.size := by omega
      simp [hne, h2]
  · intro b c j k hb hc ho hjk
    rw [Heap.ownAt_push] at ho
    by_cases hbs : b = h.size
    · subst hbs
      rw [Ren.add_self] at hb; cases hb
      by_cases hcs : c = h.size
      · exact .inl hcs.symm
      · have hc' : ρ c = some k := by simpa [Ren.add, hcs] using hc
        have := s.rng hc'
        omega
    · have hb' : ρ b = some j := by simpa [Ren.add, hbs] using hb
      by_cases hcs : c = h.size
      · subst hcs
        rw [Ren.add_self] at hc; cases hc
        have := s.rng hb'
        omega
      · have hc' : ρ c = some k := by simpa [Ren.add, hcs] using hc
        rw [if_neg hbs] at ho
        rcases s.inj b c j k hb' hc' ho hjk with h1 | h1
        · exact .inl h1
        · exact .inr (by rw [Heap.get_push]; simp [hcs, h1])
  · intro b j hb ho
    rw [Heap.ownAt_push] at ho
    by_cases hbs : b = h.size
    · subst hbs
      rw [Ren.add_self] at hb; cases hb
      rw [hi]; exact s.bound
    · rw [if_neg hbs] at ho
      exact s.above b j (by simpa [Ren.add, hbs] using hb) ho
  · rw [hw]; simp; have := s.bound; omega
  · intro b j hb hn
    by_cases hbs : b = h.size
    · omega
    · rw [show ρ.add h.size i b = ρ b by simp [Ren.add, hbs], hn] at hb; cases hb
  · rw [Heap.size_push]; omega
  · rw [hw]; simp
  · rw [Heap.low_push]; exact Nat.le_refl _
  · intro b hb _
    rw [Heap.get_push]; simp [Nat.ne_of_lt hb]
  · intro b hb ho
    rw [Heap.ownAt_push, if_neg (Nat.ne_of_lt hb)] at ho; exact ho
  · intro c hc _
    rw [hw, Array.getElem?_push]; simp [Nat.ne_of_lt hc]
  · intro b j hb hn
    by_cases hbs : b = h.size
    · subst hbs; rw [Ren.add_self] at hb; cases hb; exact .inl (by omega)
    · rw [show ρ.add h.size i b = ρ b by simp [Ren.add, hbs], hn] at hb; cases hb

/-- An own block written on both sides. -/
theorem put_sound (s : Sim B ρ h w) {b : Nat} {i : BI} (hb : ρ b = some i) (hn : h.nb ≤ b) (ho : h.ownAt b) (x : Blk) (o : Obj)
    (hsz : w'.heap.size = w.heap.size) (hw : ∀ c : Nat, w'.heap[c]? = if c = i.blk then some o else w.heap[c]?) (hx : BlkR ρ x i o) (hio : w'.os = w.os ∧ w'.output = w.output := by exact ⟨rfl, rfl⟩) :
    Sim B ρ (h.put b x) w' ∧ Step B ρ h w ρ (h.put b x) w' := by
  have hlt := s.dom hb
  refine ⟨⟨?_, ?_, ?_, ?_⟩, ⟨Ren.le_refl _, ?_, ?_, ?_, ?_, rfl, ?_, ?_, ?_, ?_, hio⟩⟩
  · intro c j hc
    rw [Heap.get_put _ _ _ _ hn hlt]
    by_cases hcb : c = b
    · subst hcb
      rw [hb] at hc; cases hc
      exact ⟨x, o, by simp, by rw [hw]; simp, hx⟩
    · obtain ⟨y, p, h1, h2, h3⟩ := s.blk c j hc
      by_cases hjb : j.blk = i.blk
      · rcases s.inj b c i j hb hc ho hjb.symm with he | he
        · exact absurd he.symm hcb
        · exact ⟨.dead, o, by simp [hcb, he], by rw [hw]; simp [hjb], trivial⟩
      · exact ⟨y, p, by simp [hcb, h1], by rw [hw]; simp [hjb, h2], h3⟩
  · intro c d j k hc hd hoc hjk
    rw [Heap.ownAt_put hn hlt] at hoc
    rw [Heap.get_put _ _ _ _ hn hlt]
    by_cases hdb : d = b
    · by_cases hcb : c = b
      · exact .inl (hcb.trans hdb.symm)
      · rw [if_neg hcb] at hoc
        rcases s.inj c d j k hc hd hoc hjk with h1 | h1
        · exact .inl h1
        · subst hdb
          obtain ⟨y, hy, hyo⟩ := ho
          rw [h1] at hy; cases hy; cases hyo
    · by_cases hcb : c = b
      · subst hcb
        rcases s.inj c d j k hc hd ho hjk with h1 | h1
        · exact .inl h1
        · exact .inr (by simp [hdb, h1])
      · rw [if_neg hcb] at hoc
        rcases s.inj c d j k hc hd hoc hjk with h1 | h1
        · exact .inl h1
        · exact .inr (by simp [hdb, h1])
  · intro c j hc hoc
    rw [Heap.ownAt_put hn hlt] at hoc
    by_cases hcb : c = b
    · subst hcb; exact s.above c j hc ho
    · rw [if_neg hcb] at hoc; exact s.above c j hc hoc
  · rw [hsz]; exact s.bound
  · intro c j h1 h2; rw [h2] at h1; cases h1
  · exact Nat.le_refl _
  · omega
  · rw [Heap.low_put]; omega
  · intro c hc hl
    rw [Heap.low_put] at hl
    rw [Heap.get_put _ _ _ _ hn hlt]
    have : c ≠ b := by omega
    simp [this]
  · intro c hc hoc
    rw [Heap.ownAt_put hn hlt] at hoc
    by_cases hcb : c = b
    · subst hcb; exact ho
    · rw [if_neg hcb] at hoc; exact hoc
  · intro c hc hcond
    rw [hw]
    have : c ≠ i.blk := by
      intro e
      subst e
      rcases hcond with h1 | h1
      · have := s.above b i hb ho; omega
      · have := h1 b i hb rfl ho
        rw [Heap.low_put] at this; omega
    simp [this]
  · intro c j h1 h2; rw [h2] at h1; cases h1

/-- A block given up. -/
theorem kill_sound (s : Sim B ρ h w) {b : Nat} {i : BI} (hb : ρ b = some i) (hn : h.nb ≤ b) (ho : h.ownAt b) :
    Sim B ρ (h.put b .dead) w ∧ Step B ρ h w ρ (h.put b .dead) w := by
  obtain ⟨x, o, h1, h2, h3⟩ := s.blk b i hb
  exact put_sound s hb hn ho .dead o rfl (fun c => by
    by_cases hc : c = i.blk
    · subst hc; simp [h2]
    · simp [hc]) trivial

/-- A block given up, and the machine's block written and taken by a new one. -/
theorem regrow_sound (s : Sim B ρ h w) {b : Nat} {i : BI} (hb : ρ b = some i) (hn : h.nb ≤ b) (ho : h.ownAt b) (x : Blk) (o : Obj) (k : BI) (hk : k.blk = i.blk)
    (hsz : w'.heap.size = w.heap.size) (hw : ∀ c : Nat, w'.heap[c]? = if c = i.blk then some o else w.heap[c]?) (hx : BlkR ρ x k o) (hio : w'.os = w.os ∧ w'.output = w.output := by exact ⟨rfl, rfl⟩) :
    Sim B (ρ.add h.size k) ((h.put b .dead).push x) w' ∧ Step B ρ h w (ρ.add h.size k) ((h.put b .dead).push x) w' := by
  have hlt := s.dom hb
  obtain ⟨s1, t1⟩ := put_sound (x := .dead) s hb hn ho o hsz hw trivial hio
  have hsize : (h.put b .dead).size = h.size := Heap.size_put _ _ _
  have hdead : ∀ c j, ρ c = some j → j.blk = i.blk → (h.put b .dead).get c = some .dead := by
    intro c j hc hj
    rw [Heap.get_put _ _ _ _ hn hlt]
    by_cases hcb : c = b
    · simp [hcb]
    · rcases s.inj b c i j hb hc ho hj.symm with he | he
      · exact absurd he.symm hcb
      · simp [hcb, he]
  have hle : ρ.le (ρ.add h.size k) := s.le_add k
  generalize hg : h.put b .dead = g at *
  refine ⟨⟨?_, ?_, ?_, ?_⟩, ⟨hle, ?_, ?_, t1.wsize, ?_, t1.nb, ?_, ?_, ?_, ?_, hio⟩⟩
  · intro c j hc
    rw [Heap.get_push, hsize]
    by_cases hcs : c = h.size
    · subst hcs
      rw [Ren.add_self] at hc; cases hc
      exact ⟨x, o, by simp, by rw [hw, hk]; simp, hx.mono hle⟩
    · have hc' : ρ c = some j := by simpa [Ren.add, hcs] using hc
      obtain ⟨y, p, h1, h2, h3⟩ := s1.blk c j hc'
      exact ⟨y, p, by simp [hcs, h1], h2, h3.mono hle⟩
  · intro c d j l hc hd hoc hjl
    rw [Heap.ownAt_push, hsize] at hoc
    rw [Heap.get_push, hsize]
    by_cases hcs : c = h.size
    · by_cases hds : d = h.size
      · exact .inl (hcs.trans hds.symm)
      · subst hcs
        rw [Ren.add_self] at hc; cases hc
        have hd' : ρ d = some l := by simpa [Ren.add, hds] using hd
        exact .inr (by rw [if_neg hds]; exact hdead d l hd' (by rw [← hjl, hk]))
    · rw [if_neg hcs] at hoc
      have hc' : ρ c = some j := by simpa [Ren.add, hcs] using hc
      by_cases hds : d = h.size
      · subst hds
        rw [Ren.add_self] at hd; cases hd
        obtain ⟨y, hy, hyo⟩ := hoc
        rw [hdead c j hc' (by rw [hjl, hk])] at hy; cases hy; cases hyo
      · have hd' : ρ d = some l := by simpa [Ren.add, hds] using hd
        rcases s1.inj c d j l hc' hd' hoc hjl with h1 | h1
        · exact .inl h1
        · exact .inr (by rw [if_neg hds]; exact h1)
  · intro c j hc hoc
    rw [Heap.ownAt_push, hsize] at hoc
    by_cases hcs : c = h.size
    · subst hcs
      rw [Ren.add_self] at hc; cases hc
      rw [hk]; exact s.above b i hb ho
    · rw [if_neg hcs] at hoc
      exact s1.above c j (by simpa [Ren.add, hcs] using hc) hoc
  · exact s1.bound
  · intro c j hc hn'
    by_cases hcs : c = h.size
    · omega
    · rw [show ρ.add h.size k c = ρ c by simp [Ren.add, hcs], hn'] at hc; cases hc
  · rw [Heap.size_push, hsize]; omega
  · rw [Heap.low_push]; exact t1.low
  · intro c hc hl
    rw [Heap.get_push, hsize, if_neg (Nat.ne_of_lt hc)]
    exact t1.same c hc (by rwa [Heap.low_push] at hl)
  · intro c hc hoc
    rw [Heap.ownAt_push, hsize, if_neg (Nat.ne_of_lt hc)] at hoc
    exact t1.revive c hc hoc
  · intro c hc hcond
    exact t1.frame c hc (by rw [Heap.low_push] at hcond; exact hcond)
  · intro c j hc hn'
    by_cases hcs : c = h.size
    · subst hcs
      rw [Ren.add_self] at hc; cases hc
      refine .inr ⟨b, i, hb, ho, ?_, hk.symm⟩
      rw [Heap.low_push, ← hg, Heap.low_put]; omega
    · rw [show ρ.add h.size k c = ρ c by simp [Ren.add, hcs], hn'] at hc; cases hc
end Go.GS
