/- A region whose order is drawn: one operation more; and the whole. -/
import Derived.Test.YtlodhfpkdlhmgaaGreatDoorGDraw2
namespace Go.GS
variable {P : Program} {B : Nat}

theorem Sim.still {ρ : Ren} {h : Heap} {w w' : World} (s : Sim B ρ h w) (hw : ∀ c, c < w.heap.size → w'.heap[c]? = w.heap[c]?) (hs : w.heap.size ≤ w'.heap.size) : Sim B ρ h w' where
  blk := fun b i hb => by
    obtain ⟨x, o, h1, h2, h3⟩ := s.blk b i hb
    exact ⟨x, o, h1, by rw [hw _ (s.rng hb)]; exact h2, h3⟩
  inj := s.inj
  above := s.above
  bound := Nat.le_trans s.bound hs

def deadHeap (n : Nat) : Heap := { nb := n, base := fun _ => some .dead, n := 0, own := .leaf, low := 0 }
theorem deadHeap_get {n b : Nat} (h : b < n) : (deadHeap n).get b = some .dead := by simp [deadHeap, Heap.get, h]
theorem deadHeap_size (n : Nat) : (deadHeap n).size = n := by simp [deadHeap, Heap.size]
theorem deadSim {ρ : Ren} {n : Nat} {w : World} (hd : ∀ b i, ρ b = some i → b < n ∧ i.blk < w.heap.size) (hb : B ≤ w.heap.size) : Sim B ρ (deadHeap n) w where
  blk := fun b i h => ⟨.dead, w.heap[i.blk]'(hd b i h).2, deadHeap_get (hd b i h).1, by simp [(hd b i h).2], trivial⟩
  inj := fun b c i j h1 h2 _ _ => .inr (deadHeap_get (hd c j h2).1)
  above := fun b i h ho => by
    obtain ⟨x, hx, hxo⟩ := ho
    rw [deadHeap_get (hd b i h).1] at hx; cases hx; cases hxo
  bound := hb

section
variable {C : Caller} {ops : Array Oper} {gs : List GI} {E : Nat → List Value} {H : Nat → Heap} {V : Nat → Value}

def addS (S : Nat → Bool) (j : Nat) : Nat → Bool := fun i => if i = j then true else S i
theorem addS_self (S : Nat → Bool) (j : Nat) : addS S j j = true := by simp [addS]
theorem addS_ne {S : Nat → Bool} {i j : Nat} (h : i ≠ j) : addS S j i = S i := by simp [addS, h]

variable (hCH : CHeap C) (r : Run C gs E H V) (L : Looked P ops gs)
include r in
theorem nonhp_same {j : Nat} {g : GI} (hg : gs[j]? = some g) (hhp : g.op.hp = false) : H (j + 1) = H j := by
  rcases (r.step j g hg).2 with ⟨_, _, h4⟩ | ⟨_, h4⟩
  · exact h4
  · unfold quiet at h4
    split at h4
    · split at h4
      · rename_i v h5 ho
        split at h4
        · simp only [Option.some.injEq, Prod.mk.injEq] at h4
          rw [(opE_nonhp hhp ho).1] at h4
          exact h4.2.symm
        · cases h4
      · cases h4
    · exact (opE_nonhp hhp h4).1

include hCH r L
/-- One more has run. -/
theorem Inv.next {ρ0 ρ ρ' : Ren} {w0 w w' : World} {S : Nat → Bool} {a : Act} {j : Nat} {g : GI} {v' : Value} (I : Inv B ops gs E H ρ0 w0 S ρ a w) (hg : gs[j]? = some g) (hj : S j = false) (hpre : ∀ i, Bef ops i j → S i = true)
    (hle : ρ.le ρ') (hv : VR (restr ρ' (H (j + 1)).size) (V j) v') (hnew : ∀ b i, ρ' b = some i → ρ b = none → (H j).size ≤ b ∧ b < (H (j + 1)).size)
    (hsim : ∀ m, m ≤ gs.length → Good gs (addS S j) m → Sim B (restr ρ' (H m).size) (H m) w') (hwsz : w.heap.size ≤ w'.heap.size)
    (hframe : ∀ c, c < w0.heap.size → (c < B ∨ ∀ b i, ρ0 b = some i → i.blk = c → (H 0).ownAt b → b < (H gs.length).low) → w'.heap[c]? = w.heap[c]?)
    (hfresh : ∀ b i, ρ' b = some i → ρ b = none → w0.heap.size ≤ i.blk ∨ ∃ c j, ρ0 c = some j ∧ (H 0).ownAt c ∧ (H gs.length).low ≤ c ∧ j.blk = i.blk) (hio : w'.os = w.os ∧ w'.output = w.output) :
    Inv B ops gs E H ρ0 w0 (addS S j) ρ' (a.put g.dst v') w' := by
  have hjl : j < gs.length := (List.getElem?_eq_some_iff.1 hg).1
  refine ⟨fun i k hk hb => ?_, fun i hi => ?_, fun t m hm hw => ?_, ?_, by rw [put_defers]; exact I.dfr, Ren.le_trans I.ext hle, fun b i hb => ?_, hsim, Nat.le_trans I.wsz hwsz, fun c hc hcond => by rw [hframe c hc hcond]; exact I.frame c hc hcond, fun b i hb h0 => ?_, ⟨hio.1.trans I.io.1, hio.2.trans I.io.2⟩⟩
  · by_cases hij : i = j
    · subst hij; exact addS_self _ _
    · rw [addS_ne hij]
      by_cases hkj : k = j
      · subst hkj; exact hpre i hb
      · rw [addS_ne hkj] at hk; exact I.dc i k hk hb
  · by_cases hij : i = j
    · omega
    · rw [addS_ne hij] at hi; exact I.lt i hi
  · have hlen : (E m).length = a.tmps.size := by rw [r.env_len hm, I.len]
    by_cases ht : g.dst = some t
    · have hjm : j < m := (hw j g hg ht).1 (addS_self _ _)
      have hno : ∀ k g', gs[k]? = some g' → j + 1 ≤ k → k < m → g'.dst ≠ some t := fun k g' hk h1 h2 hd => by
        have hkj : k ≠ j := by omega
        have := (hw k g' hk hd).2 h2
        rw [addS_ne hkj] at this
        rcases L.slots j k g g' t hg hk ht (.inr hd) (fun e => hkj e.symm) with ⟨_, hb⟩ | ⟨h3, _⟩
        · have := I.dc j k this hb; rw [hj] at this; cases this
        · omega
      rw [r.env_same (show j + 1 ≤ m by omega) hm hno, (r.step j g hg).1, ht]
      have hlj : (E j).length = a.tmps.size := by rw [r.env_len (by omega), I.len]
      simp only [putE, Act.put]
      by_cases htl : t < a.tmps.size
      · have e1 : ((E j).set t (V j)).getD t undef = V j := by simp [List.getD, hlj, htl]
        have e2 : (a.tmps.setIfInBounds t v').getD t undef = v' := by simp [Array.getD, htl]
        rw [e1, e2]
        exact hv.mono (restr_mono (Ren.le_refl _) ((r.hstep hCH (show j + 1 ≤ m by omega) hm).size))
      · have e1 : ((E j).set t (V j)).getD t undef = undef := by simp [List.getD, hlj, htl]
        rw [e1]; exact .bot _
    · have e2 : (a.put g.dst v').tmps.getD t undef = a.tmps.getD t undef := by
        cases hd : g.dst with
        | none => rfl
        | some d =>
          have hne : d ≠ t := fun e => ht (by rw [hd, e])
          simp only [Act.put, Array.getD_eq_getD_getElem?]
          rw [Array.getElem?_setIfInBounds_ne hne]
      rw [e2]
      refine (I.env t m hm fun i g' hi hd => ?_).mono (restr_mono hle (Nat.le_refl _))
      have hij : i ≠ j := by rintro rfl; rw [hg] at hi; cases hi; exact ht hd
      rw [← addS_ne (S := S) hij]
      exact hw i g' hi hd
  · rw [I.len]; cases g.dst <;> simp [Act.put]
  · cases hb0 : ρ b with
    | some k =>
      have := hle b k hb0
      rw [hb] at this; cases this
      rcases I.dom b i hb0 with h | ⟨k, h1, h2⟩
      · exact .inl h
      · refine .inr ⟨k, ?_, h2⟩
        have : k ≠ j := by rintro rfl; rw [hj] at h1; cases h1
        rw [addS_ne this]; exact h1
    | none => exact .inr ⟨j, addS_self _ _, hnew b i hb hb0⟩
  · cases hb0 : ρ b with
    | some k =>
      have := hle b k hb0
      rw [hb] at this; cases this
      exact I.fresh b i hb0 h0
    | none => exact hfresh b i hb hb0

theorem Inv.run {Q : Exit → Act → World → Prop} {K : Act → World → Prop} (hC : CSound P B C) {ρ0 ρ : Ren} {w0 w : World} {S : Nat → Bool} {a : Act} {j : Nat} {o : Oper} (s0 : Sim B ρ0 (H 0) w0) (I : Inv B ops gs E H ρ0 w0 S ρ a w)
    (ho : ops[j]? = some o) (hj : S j = false) (hready : ∀ e ∈ edg o, S e.on = true)
    (hK : ∀ ρ' a' w', Inv B ops gs E H ρ0 w0 (addS S j) ρ' a' w' → K a' w') : wpOp P ops Q j K a w := by
  obtain ⟨g, hg, hdst, hop, hgd⟩ := L.el j o ho
  have hjl : j < gs.length := (List.getElem?_eq_some_iff.1 hg).1
  have hpre : ∀ i, Bef ops i j → S i = true := fun i hb => by
    obtain ⟨e, he, hh⟩ := hb.edge ho
    rcases hh with rfl | hh
    · exact hready e he
    · exact I.dc i e.on (hready e he) hh
  have hpost : ∀ i, S i = true → Bef ops j i → False := fun i hi hb => by
    have := I.dc j i hi hb; rw [hj] at this; cases this
  -- what the operation reads
  have hnm : ∀ t, t ∈ g.names → VR (restr ρ (H j).size) ((E j).getD t undef) (a.tmps.getD t undef) := fun t ht => by
    refine I.env t j (by omega) fun i gi hi hd => ?_
    by_cases hij : i = j
    · subst hij; exact ⟨fun h => (by rw [hj] at h; cases h), fun h => (by omega)⟩
    · rcases L.slots i j gi g t hi hg hd (.inl ht) hij with ⟨h1, hb⟩ | ⟨h1, hb⟩
      · exact ⟨fun _ => h1, fun _ => hpre i hb⟩
      · exact ⟨fun h => (hpost i h hb).elim, fun h => (by omega)⟩
  have hgood : g.op.hp = true → Good gs S j := fun hhp i gi hi hq => by
    by_cases hij : i = j
    · subst hij; exact ⟨fun h => (by rw [hj] at h; cases h), fun h => (by omega)⟩
    · rcases (L.bars i j gi g hi hg hq).2 hhp hij with ⟨h1, hb⟩ | ⟨h1, hb⟩
      · exact ⟨fun _ => h1, fun _ => hpre i hb⟩
      · exact ⟨fun h => (hpost i h hb).elim, fun h => (by omega)⟩
  -- behind it, up to the next that may write, all stays
  have hkeep : ∀ S' m, (∀ i, i ≠ j → S' i = S i) → (g.op.hp = true) → m ≤ gs.length → Good gs S' m → j < m → ∀ b, b < (H (j + 1)).size → (H m).get b = (H (j + 1)).get b := fun S' m hS hhp hm hgm hjm => by
    refine r.keep hCH (by omega) hm fun k gk hk h1 h2 => ?_
    cases hq : gk.q with
    | true => rfl
    | false =>
      have hkj : k ≠ j := by omega
      have h3 := (hgm k gk hk hq).2 h2
      rw [hS k hkj] at h3
      rcases (L.bars k j gk g hk hg hq).2 hhp hkj with ⟨h4, _⟩ | ⟨_, hb⟩
      · omega
      · exact (hpost k h3 hb).elim
  -- where it may write: all that ρ knows lies below
  have hbar : g.q = false → restr ρ (H j).size = ρ := fun hq => restr_eq fun b i hb => by
    rcases I.dom b i hb with h0 | ⟨k, hk, hb1, hb2⟩
    · have := s0.dom h0
      have := (r.hstep hCH (Nat.zero_le j) (by omega)).size
      omega
    · have hkl := I.lt k hk
      obtain ⟨gk, hgk⟩ : ∃ g, gs[k]? = some g := ⟨gs[k], List.getElem?_eq_getElem hkl⟩
      rcases Nat.lt_or_ge k j with h3 | h3
      · have := (r.hstep hCH (show k + 1 ≤ j by omega) (by omega)).size
        omega
      · exfalso
        by_cases hkj : k = j
        · subst hkj; rw [hj] at hk; cases hk
        · cases hhp : gk.op.hp with
          | true =>
            rcases (L.bars j k g gk hg hgk hq).2 hhp (fun e => hkj e.symm) with ⟨_, hb⟩ | ⟨h4, _⟩
            · exact hpost k hk hb
            · omega
          | false =>
            rw [nonhp_same r hgk hhp] at hb2
            omega
  have hgoodq : g.q = true → ∀ m, Good gs (addS S j) m → Good gs S m := fun hq m hgm i gi hi hqi => by
    have hij : i ≠ j := by rintro rfl; rw [hg] at hi; cases hi; rw [hq] at hqi; cases hqi
    rw [← addS_ne (S := S) hij]; exact hgm i gi hi hqi
  have hSne : ∀ i, i ≠ j → addS S j i = S i := fun i h => addS_ne h
  unfold wpOp
  rw [ho]
  simp only
  rcases (r.step j g hg).2 with ⟨hgf, hV, hH⟩ | ⟨hgt, hq⟩
  · -- skipped
    rw [guard_sound hgd hgf (fun t c hc => hnm t (by simp [GI.names, hc]))]
    simp only [Bool.false_eq_true, if_false]
    rw [← hdst]
    refine hK ρ _ _ (I.next hCH r L hg hj hpre (Ren.le_refl _) (by rw [hV]; exact VR_SK _) (fun b i h1 h2 => (by rw [h2] at h1; cases h1)) (fun m hm hgm => ?_) (Nat.le_refl _) (fun _ _ _ => rfl) (fun b i h1 h2 => (by rw [h2] at h1; cases h1)) ⟨rfl, rfl⟩)
    cases hqq : g.q with
    | true => exact I.sim m hm (hgoodq hqq m hgm)
    | false =>
      have hhp := (L.bars j j g g hg hg hqq).1
      have hjm : j < m := (hgm j g hg hqq).1 (addS_self _ _)
      have hs := I.sim j (by omega) (hgood hhp)
      rw [hbar hqq] at hs
      have hrm : restr ρ (H m).size = ρ := restr_eq fun b i hb => by
        have h1 := hs.dom hb
        have := (r.hstep hCH (show j ≤ m by omega) hm).size
        omega
      rw [hrm]
      refine hs.ext fun b i hb => ?_
      rw [hkeep (addS S j) m hSne hhp hm hgm hjm b (by rw [hH]; exact hs.dom hb), hH]
  · -- run
    rw [guard_sound hgd hgt (fun t c hc => hnm t (by simp [GI.names, hc]))]
    simp only [if_true]
    refine .inl ?_
    -- a frame of what is known
    obtain ⟨env', hEn, hagree⟩ : ∃ env', EnvR (restr ρ (H j).size) env' a.tmps ∧ ∀ x ∈ g.op.opds, ev (E j) x = ev env' x := by
      classical
      refine ⟨(List.range (E j).length).map fun t => if VR (restr ρ (H j).size) ((E j).getD t undef) (a.tmps.getD t undef) then (E j).getD t undef else undef, ⟨?_, fun t => ?_⟩, fun x hx => ?_⟩
      · simp [r.env_len (show j ≤ gs.length by omega), I.len]
      · by_cases ht : t < (E j).length
        · rw [List.getD, List.getElem?_map, List.getElem?_range ht]
          simp only [Option.map_some, Option.getD_some]
          split
          · assumption
          · exact .bot _
        · rw [List.getD, List.getElem?_eq_none (by simpa using ht)]; exact .bot _
      · cases x with
        | tmp t =>
          simp only [ev]
          have hin : t ∈ g.names := by
            simp only [GI.names, List.mem_append]
            left
            have : ∀ (l : List Operand), Operand.tmp t ∈ l → t ∈ opdSlots l := by
              intro l
              induction l with
              | nil => intro h; cases h
              | cons y l ih =>
                intro h
                cases h with
                | head => simp [opdSlots]
                | tail _ h => cases y <;> simp [opdSlots, ih h]
            exact this _ hx
          by_cases ht : t < (E j).length
          · rw [List.getD, List.getD, List.getElem?_map, List.getElem?_range ht]
            simp only [Option.map_some, Option.getD_some]
            rw [if_pos (hnm t hin)]
            simp [List.getD]
          · have e1 : (E j)[t]? = none := List.getElem?_eq_none (Nat.le_of_not_lt ht)
            rw [List.getD, List.getD, e1, List.getElem?_eq_none (by simpa using ht)]
        | _ => rfl
    have hcong : ∀ h2, opE C (E j) h2 g.op = opE C env' h2 g.op := fun h2 => opE_congr hagree
    have hq' : quiet g.q (fun h => opE C env' h g.op) (H j) = some (V j, H (j + 1)) := by
      rw [← hq]; congr 1; funext h2; exact (hcong h2).symm
    cases hhp : g.op.hp with
    | true =>
      have hsj := I.sim j (by omega) (hgood hhp)
      refine quiet_wp hC hop hq' hsj hEn fun v' w' ρn k1 k2 k3 k4 => ?_
      rw [← hdst]
      have hdn : ∀ b i, ρn b = some i → b < (H (j + 1)).size := fun b i hb => k2.dom hb
      cases hqq : g.q with
      | false =>
        have hrj := hbar hqq
        rw [hrj] at k3
        have hrn : ∀ m, j + 1 ≤ m → m ≤ gs.length → restr ρn (H m).size = ρn := fun m h1 h2 => restr_eq fun b i hb => by
          have := hdn b i hb
          have := (r.hstep hCH h1 h2).size
          omega
        refine hK ρn _ _ (I.next hCH r L hg hj hpre k3.ext (by rw [hrn (j + 1) (Nat.le_refl _) (by omega)]; exact k1) (fun b i h1 h2 => ⟨k3.new b i h1 h2, hdn b i h1⟩) (fun m hm hgm => ?_) k3.wsize (fun c hc hcond => ?_) (fun b i h1 h2 => ?_) k3.io)
        · have hjm : j < m := (hgm j g hg hqq).1 (addS_self _ _)
          rw [hrn m (by omega) hm]
          exact k2.ext fun b i hb => hkeep (addS S j) m hSne hhp hm hgm hjm b (hdn b i hb)
        · refine k3.frame c (Nat.lt_of_lt_of_le hc I.wsz) ?_
          rcases hcond with h | h
          · exact .inl h
          · refine .inr fun b i hb hi ho => ?_
            have hlow := (r.hstep hCH (show j + 1 ≤ gs.length by omega) (Nat.le_refl _)).low
            cases hb0 : ρ0 b with
            | some i0 =>
              have := I.ext b i0 hb0
              rw [hb] at this; cases this
              have := h b i hb0 hi ((r.hstep hCH (Nat.zero_le j) (by omega)).revive b (s0.dom hb0) ho)
              omega
            | none =>
              exfalso
              rcases I.fresh b i hb hb0 with hf | ⟨c0, i0, h1, h2, h3, h4⟩
              · omega
              · have := h c0 i0 h1 (by rw [h4]; exact hi) h2
                omega
        · rcases k3.fresh b i h1 h2 with hf | ⟨c0, i0, g1, g2, g3, g4⟩
          · exact .inl (Nat.le_trans I.wsz hf)
          · have hlow := (r.hstep hCH (show j + 1 ≤ gs.length by omega) (Nat.le_refl _)).low
            cases hb0 : ρ0 c0 with
            | some i1 =>
              have := I.ext c0 i1 hb0
              rw [g1] at this; cases this
              exact .inr ⟨c0, i0, hb0, (r.hstep hCH (Nat.zero_le j) (by omega)).revive c0 (s0.dom hb0) g2, by omega, g4⟩
            | none =>
              rcases I.fresh c0 i0 g1 hb0 with hf | ⟨c1, i1, e1, e2, e3, e4⟩
              · exact .inl (by rw [← g4]; exact hf)
              · exact .inr ⟨c1, i1, e1, e2, e3, e4.trans g4⟩
      | true =>
        obtain ⟨st1, st2⟩ := k4 hqq
        -- what is new
        have hnone : ∀ b i, ρn b = some i → restr ρ (H j).size b = none → ρ b = none := fun b i hb hx => by
          have hb1 := k3.new b i hb hx
          have hb2 := hdn b i hb
          cases hb0 : ρ b with
          | none => rfl
          | some i0 =>
            exfalso
            rcases I.dom b i0 hb0 with h0 | ⟨k, hk, c1, c2⟩
            · have := s0.dom h0
              have := (r.hstep hCH (Nat.zero_le j) (by omega)).size
              omega
            · have hkl := I.lt k hk
              rcases Nat.lt_trichotomy k j with h3 | h3 | h3
              · have := (r.hstep hCH (show k + 1 ≤ j by omega) (by omega)).size
                omega
              · subst h3; rw [hj] at hk; cases hk
              · have := (r.hstep hCH (show j + 1 ≤ k by omega) (by omega)).size
                omega
        let ρ' : Ren := fun b => match ρ b with | some i => some i | none => ρn b
        have hle : ρ.le ρ' := fun b i hb => by simp only [ρ', hb]
        have hnle : ρn.le ρ' := fun b i hb => by
          cases hx : restr ρ (H j).size b with
          | some i0 =>
            have h1 := k3.ext b i0 hx
            rw [hb] at h1; cases h1
            exact hle b i (restr_some hx).2
          | none => simp only [ρ', hnone b i hb hx]; exact hb
        have hnewof : ∀ b i, ρ' b = some i → ρ b = none → ρn b = some i ∧ restr ρ (H j).size b = none := fun b i h1 h2 => by
          simp only [ρ', h2] at h1
          refine ⟨h1, ?_⟩
          cases hx : restr ρ (H j).size b with
          | none => rfl
          | some i0 => have := (restr_some hx).2; rw [h2] at this; cases this
        refine hK ρ' _ _ (I.next hCH r L hg hj hpre hle (k1.mono fun b i hb => restr_mk (hnle b i hb) (hdn b i hb)) (fun b i h1 h2 => ?_) (fun m hm hgm => ?_) k3.wsize (fun c hc _ => st1 c (Nat.lt_of_lt_of_le hc I.wsz)) (fun b i h1 h2 => ?_) k3.io)
        · obtain ⟨h3, h4⟩ := hnewof b i h1 h2
          exact ⟨k3.new b i h3 h4, hdn b i h3⟩
        · have hs := I.sim m hm (hgoodq hqq m hgm)
          have hjm : ∀ b i, ρn b = some i → restr ρ (H j).size b = none → b < (H m).size → j < m := fun b i hb hx hbm => by
            rcases Nat.lt_or_ge j m with h1 | h1
            · exact h1
            · have := k3.new b i hb hx
              have := (r.hstep hCH h1 (by omega)).size
              omega
          have hget : ∀ b i, ρn b = some i → restr ρ (H j).size b = none → b < (H m).size → (H m).get b = (H (j + 1)).get b := fun b i hb hx hbm =>
            hkeep (addS S j) m hSne hhp hm hgm (hjm b i hb hx hbm) b (hdn b i hb)
          have hnle' : j < m → ρn.le (restr ρ' (H m).size) := fun h1 b i hb => restr_mk (hnle b i hb) (by
            have := hdn b i hb
            have := (r.hstep hCH (show j + 1 ≤ m by omega) hm).size
            omega)
          have hown : ∀ b i, ρn b = some i → restr ρ (H j).size b = none → b < (H m).size → ((H m).ownAt b ↔ (H (j + 1)).ownAt b) := fun b i hb hx hbm => by
            unfold Heap.ownAt; rw [hget b i hb hx hbm]
          refine ⟨fun b i hb => ?_, fun b c i k hb hc hob hik => ?_, fun b i hb hob => ?_, Nat.le_trans hs.bound k3.wsize⟩
          · obtain ⟨hbm, hb'⟩ := restr_some hb
            cases hb0 : ρ b with
            | some i0 =>
              have := hle b i0 hb0
              rw [hb'] at this; cases this
              obtain ⟨x, ob, e1, e2, e3⟩ := hs.blk b i (restr_mk hb0 hbm)
              exact ⟨x, ob, e1, by rw [st1 _ (hs.rng (restr_mk hb0 hbm))]; exact e2, e3.mono (restr_mono hle (Nat.le_refl _))⟩
            | none =>
              obtain ⟨h3, h4⟩ := hnewof b i hb' hb0
              obtain ⟨x, ob, e1, e2, e3⟩ := k2.blk b i h3
              exact ⟨x, ob, by rw [hget b i h3 h4 hbm]; exact e1, e2, e3.mono (hnle' (hjm b i h3 h4 hbm))⟩
          · obtain ⟨hbm, hb'⟩ := restr_some hb
            obtain ⟨hcm, hc'⟩ := restr_some hc
            cases hb0 : ρ b with
            | some i0 =>
              have := hle b i0 hb0
              rw [hb'] at this; cases this
              cases hc0 : ρ c with
              | some k0 =>
                have := hle c k0 hc0
                rw [hc'] at this; cases this
                exact hs.inj b c i k (restr_mk hb0 hbm) (restr_mk hc0 hcm) hob hik
              | none =>
                obtain ⟨h3, h4⟩ := hnewof c k hc' hc0
                have h5 := st2 c k h3 h4
                have h6 := hs.rng (restr_mk hb0 hbm)
                omega
            | none =>
              obtain ⟨h3, h4⟩ := hnewof b i hb' hb0
              cases hc0 : ρ c with
              | some k0 =>
                have := hle c k0 hc0
                rw [hc'] at this; cases this
                have h5 := st2 b i h3 h4
                have h6 := hs.rng (restr_mk hc0 hcm)
                omega
              | none =>
                obtain ⟨h5, h6⟩ := hnewof c k hc' hc0
                rw [hget c k h5 h6 hcm]
                exact k2.inj b c i k h3 h5 ((hown b i h3 h4 hbm).1 hob) hik
          · obtain ⟨hbm, hb'⟩ := restr_some hb
            cases hb0 : ρ b with
            | some i0 =>
              have := hle b i0 hb0
              rw [hb'] at this; cases this
              exact hs.above b i (restr_mk hb0 hbm) hob
            | none =>
              obtain ⟨h3, h4⟩ := hnewof b i hb' hb0
              exact k2.above b i h3 ((hown b i h3 h4 hbm).1 hob)
        · obtain ⟨h3, h4⟩ := hnewof b i h1 h2
          exact .inl (Nat.le_trans I.wsz (st2 b i h3 h4))
    | false =>
      -- it does not look at memory
      have hqq : g.q = true := by
        cases hqq : g.q with
        | true => rfl
        | false => have := (L.bars j j g g hg hg hqq).1; rw [hhp] at this; cases this
      obtain ⟨m, hm, hgm, hrm⟩ := I.full hCH r L s0
      have hsm := I.sim m hm hgm
      rw [hrm] at hsm
      have hall : ∀ h2, opE C env' h2 g.op = some (V j, h2) := by
        rw [hqq] at hq'
        unfold quiet at hq'
        simp only [if_true] at hq'
        split at hq'
        · rename_i u h1 ho1
          split at hq'
          · simp only [Option.some.injEq, Prod.mk.injEq] at hq'
            obtain ⟨rfl, _⟩ := hq'
            exact (opE_nonhp hhp ho1).2
          · cases hq'
        · cases hq'
      have hds : Sim B (restr ρ (H j).size) (deadHeap (H j).size) w := deadSim (fun b i hb => ⟨(restr_some hb).1, hsm.rng (restr_some hb).2⟩) hsm.bound
      refine quiet_wp (q := true) (v := V j) (h' := deadHeap (H j).size) hC hop ?_ hds hEn fun v' w' ρn k1 k2 k3 k4 => ?_
      · unfold quiet
        simp only [if_true, hall]
        simp [Heap.low_setLow, Heap.setLow_setLow]
        rfl
      · obtain ⟨st1, _⟩ := k4 rfl
        rw [← hdst]
        have hH := nonhp_same r hg hhp
        have hnle : ρn.le (restr ρ (H j).size) := fun b i hb => by
          cases hx : restr ρ (H j).size b with
          | some i0 => have := k3.ext b i0 hx; rw [hb] at this; rw [this]
          | none =>
            exfalso
            have h1 := k3.new b i hb hx
            have h2 := k2.dom hb
            omega
        exact hK ρ _ _ (I.next hCH r L hg hj hpre (Ren.le_refl _) (by rw [hH]; exact k1.mono hnle) (fun b i h1 h2 => (by rw [h2] at h1; cases h1)) (fun m' hm' hgm' => (I.sim m' hm' (hgoodq hqq m' hgm')).still st1 k3.wsize) k3.wsize
          (fun c hc _ => st1 c (Nat.lt_of_lt_of_le hc I.wsz)) (fun b i h1 h2 => (by rw [h2] at h1; cases h1)) k3.io)

omit hCH r L in
/-- How many have not run. -/
theorem filter_set : ∀ (l : List Bool) (j : Nat), l[j]? = some false → ((l.set j true).filter (!·)).length + 1 = (l.filter (!·)).length
  | [], j, h => by simp at h
  | x :: l, 0, h => by simp at h; subst h; simp
  | x :: l, j + 1, h => by
    have := filter_set l j (by simpa using h)
    cases x <;> simp at this ⊢ <;> omega

theorem draw_any {Q : Exit → Act → World → Prop} (hC : CSound P B C) {ρ0 : Ren} {w0 : World} (s0 : Sim B ρ0 (H 0) w0) (hQ : ∀ a' w', Onward B ρ0 (H 0) w0 (E gs.length) (H gs.length) a' w' → Q .normal a' w') :
    ∀ (fuel : Nat) (listed : Array Bool) (ρ : Ren) (a : Act) (w : World), listed.size = ops.size → (listed.toList.filter (!·)).length ≤ fuel → Inv B ops gs E H ρ0 w0 (fun i => listed.getD i false) ρ a w →
      wpAny P .any ops Q fuel listed a w := by
  -- none is ready: all have run
  have done : ∀ (listed : Array Bool) (ρ : Ren) (a : Act) (w : World), listed.size = ops.size → Inv B ops gs E H ρ0 w0 (fun i => listed.getD i false) ρ a w → Region.ready .any ops listed = [] → Q .normal a w := fun listed ρ a w hsz I hr => by
    have hall : ∀ k i, i < k → i < ops.size → listed.getD i false = true := by
      intro k
      induction k with
      | zero => intro i h; omega
      | succ k ih =>
        intro i hik hi
        cases hl : listed.getD i false with
        | true => rfl
        | false =>
          exfalso
          have hmem : i ∈ Region.ready .any ops listed := by
            unfold Region.ready
            rw [List.mem_filter]
            refine ⟨List.mem_range.2 hi, ?_⟩
            have hio : ops[i]? = some ops[i] := by simp
            have h1 : listed.getD i true = false := by
              have : i < listed.size := by omega
              simp [Array.getD, this] at hl ⊢; exact hl
            rw [h1, hio]
            simp only [Bool.not_false, Option.map_some, Option.getD_some, Bool.true_and, Array.all_eq_true']
            intro e he
            cases hbd : Region.binds .any e with
            | false => simp
            | true =>
              have h2 := L.edges i ops[i] e hio (List.mem_filter.2 ⟨by simpa using he, hbd⟩)
              rw [ih e.on (by omega) (by omega)]
              simp
          rw [hr] at hmem; cases hmem
    have hlen := L.len
    have hS : ∀ i, i < gs.length → listed.getD i false = true := fun i hi => hall (i + 1) i (by omega) (by omega)
    have hgood : Good gs (fun i => listed.getD i false) gs.length := fun i g hg _ => ⟨fun _ => (List.getElem?_eq_some_iff.1 hg).1, fun h => hS i h⟩
    have hs := I.sim gs.length (Nat.le_refl _) hgood
    have hrr : restr ρ (H gs.length).size = ρ := restr_eq fun b i hb => by
      rcases I.dom b i hb with h0 | ⟨j, hj, _, hb2⟩
      · have := s0.dom h0
        have := (r.hstep hCH (Nat.zero_le gs.length) (Nat.le_refl _)).size
        omega
      · have hjl := I.lt j hj
        have := (r.hstep hCH (show j + 1 ≤ gs.length by omega) (Nat.le_refl _)).size
        omega
    rw [hrr] at hs
    have hst := r.hstep hCH (Nat.zero_le gs.length) (Nat.le_refl _)
    refine hQ a w ⟨ρ, hs, ⟨I.ext, fun b i hb h0 => ?_, hst.size, I.wsz, hst.low, hst.nb, hst.same, hst.revive, I.frame, I.fresh, I.io⟩, ⟨?_, fun t => ?_⟩, I.dfr⟩
    · rcases I.dom b i hb with h1 | ⟨j, hj, hb1, _⟩
      · rw [h0] at h1; cases h1
      · have hjl := I.lt j hj
        have := (r.hstep hCH (Nat.zero_le j) (by omega)).size
        omega
    · rw [r.env_len (Nat.le_refl _)]; exact I.len
    · have := I.env t gs.length (Nat.le_refl _) (fun i g hg _ => ⟨fun _ => (List.getElem?_eq_some_iff.1 hg).1, fun h => hS i h⟩)
      rw [hrr] at this; exact this
  have hrun : ∀ (listed : Array Bool) (ρ : Ren) (a : Act) (w : World), listed.size = ops.size → Inv B ops gs E H ρ0 w0 (fun i => listed.getD i false) ρ a w → ∀ f, (listed.toList.filter (!·)).length ≤ f + 1 → (∀ (listed : Array Bool) (ρ : Ren) (a : Act) (w : World), listed.size = ops.size → (listed.toList.filter (!·)).length ≤ f → Inv B ops gs E H ρ0 w0 (fun i => listed.getD i false) ρ a w → wpAny P .any ops Q f listed a w) →
      ∀ i ∈ Region.ready .any ops listed, wpOp P ops Q i (wpAny P .any ops Q f (listed.setIfInBounds i true)) a w := fun listed ρ a w hsz I f hle ih i hi => by
    unfold Region.ready at hi
    rw [List.mem_filter] at hi
    obtain ⟨h1, h2⟩ := hi
    have hio : i < ops.size := List.mem_range.1 h1
    have ho : ops[i]? = some ops[i] := by simp
    rw [ho] at h2
    simp only [Option.map_some, Option.getD_some, Bool.and_eq_true, Bool.not_eq_true', Array.all_eq_true'] at h2
    obtain ⟨h3, h4⟩ := h2
    have hil : i < listed.size := by omega
    have hif : listed.getD i false = false := by simp [Array.getD, hil] at h3 ⊢; exact h3
    have hget : listed.toList[i]? = some false := by simp [Array.getD, hil] at hif; simp [hil, hif]
    refine Inv.run hCH r L hC s0 I ho hif (fun e he => ?_) fun ρ' a' w' I' => ?_
    · have h8 := List.mem_filter.1 he
      have h5 := h4 e (by simpa using h8.1)
      rw [h8.2] at h5
      simpa using h5
    · refine ih _ ρ' a' w' (by simpa using hsz) ?_ ?_
      · have h7 := filter_set listed.toList i hget
        rw [Array.toList_setIfInBounds]
        omega
      · have hSe : (fun k => (listed.setIfInBounds i true).getD k false) = addS (fun k => listed.getD k false) i := by
          funext k
          unfold addS
          by_cases hk : k = i
          · subst hk; simp [Array.getD, hil]
          · rw [if_neg hk]
            simp only [Array.getD_eq_getD_getElem?]
            rw [Array.getElem?_setIfInBounds_ne (fun e => hk e.symm)]
        rw [hSe]; exact I'
  intro fuel
  induction fuel with
  | zero =>
    intro listed ρ a w hsz hf I
    have hnil : Region.ready .any ops listed = [] := by
      apply List.eq_nil_iff_forall_not_mem.2
      intro i hi
      unfold Region.ready at hi
      rw [List.mem_filter] at hi
      obtain ⟨h1, h2⟩ := hi
      have hio : i < ops.size := List.mem_range.1 h1
      simp only [Bool.and_eq_true, Bool.not_eq_true'] at h2
      have hil : i < listed.size := by omega
      have h3 := h2.1
      have hm : false ∈ listed.toList := by
        simp [Array.getD, hil] at h3
        rw [← h3]; simp
      have : false ∈ listed.toList.filter (!·) := List.mem_filter.2 ⟨hm, rfl⟩
      have h5 : (listed.toList.filter (!·)) = [] := List.length_eq_zero_iff.1 (by omega)
      rw [h5] at this; cases this
    exact ⟨hnil, done listed ρ a w hsz I hnil⟩
  | succ f ih =>
    intro listed ρ a w hsz hf I
    exact ⟨done listed ρ a w hsz I, hrun listed ρ a w hsz I f hf ih⟩
end

theorem region_draw {C : Caller} (hCH : CHeap C) (hC : CSound P B C) (hm : P.follows .mixedOrders = true) {id : Nat} {ops : Array Oper} {gs : List GI} {Q : Exit → Act → World → Prop} {env env' : List Value} {h h' : Heap} {ρ : Ren} {w : World} {a : Act}
    (hel : elabOps P ops.toList true = some gs) (he : execOps C gs env h = some (env', h')) (s : Sim B ρ h w) (En : EnvR ρ env a.tmps) (hd : a.defers = [])
    (hQ : ∀ a' w', Onward B ρ h w env' h' a' w' → Q .normal a' w') : (Code.region id ops true).wp P Q a w := by
  have L := looked_of hel
  obtain ⟨E, H, V, r, rfl, rfl, rfl, rfl⟩ := run_of gs env h env' h' he
  refine wp_region_any hm ?_
  refine draw_any hCH r L hC (ρ0 := ρ) (w0 := { w with drawn := w.drawn + 1 }) (s.congr rfl) (fun a' w' ho => ?_) ops.size _ ρ a _ (by simp) (by simp) ?_
  · obtain ⟨ρ', k1, k2, k3, k4⟩ := ho
    refine hQ a' w' ⟨ρ', k1, ⟨k2.ext, k2.new, k2.size, k2.wsize, k2.low, k2.nb, k2.same, k2.revive, k2.frame, k2.fresh, k2.io⟩, k3, k4⟩
  · have := Inv.start (ops := ops) hCH r (w0 := { w with drawn := w.drawn + 1 }) (s.congr rfl) En hd
    have hS : (fun i => (Array.replicate ops.size false).getD i false) = fun _ : Nat => false := by
      funext i
      simp [Array.getD]
    rw [hS]; exact this
end Go.GS
