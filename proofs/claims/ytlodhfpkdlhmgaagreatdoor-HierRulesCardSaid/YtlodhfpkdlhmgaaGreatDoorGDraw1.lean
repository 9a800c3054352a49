/- A region whose order is drawn: what stands before what; G's own run; what holds when some of its operations have run. -/
import Derived.Test.YtlodhfpkdlhmgaaGreatDoorGRegion
namespace Go.GS
variable {P : Program} {B : Nat}

theorem fold_bits {acc : List Nat} {i : Nat} : ∀ (l : List Edge) (s : Nat), (l.foldl (fun s e => s ||| (1 <<< e.on) ||| acc.getD e.on 0) s).testBit i = true →
    s.testBit i = true ∨ ∃ e ∈ l, i = e.on ∨ (acc.getD e.on 0).testBit i = true
  | [], s, h => .inl h
  | e :: l, s, h => by
    rcases fold_bits l _ h with h1 | ⟨e', he, h1⟩
    · rw [Nat.testBit_or, Nat.testBit_or, Bool.or_eq_true, Bool.or_eq_true] at h1
      rcases h1 with (h1 | h1) | h1
      · exact .inl h1
      · refine .inr ⟨e, by simp, .inl ?_⟩
        rw [Nat.one_shiftLeft, Nat.testBit_two_pow] at h1
        simpa using (of_decide_eq_true h1).symm
      · exact .inr ⟨e, by simp, .inr h1⟩
    · exact .inr ⟨e', by simp [he], h1⟩
theorem befAll_prefix : ∀ (l : List Oper) (acc : List Nat), ∃ r, befAll l acc = acc ++ r
  | [], acc => ⟨[], by simp [befAll]⟩
  | o :: l, acc => by
    obtain ⟨r, hr⟩ := befAll_prefix l (acc ++ [(edg o).foldl (fun s e => s ||| (1 <<< e.on) ||| acc.getD e.on 0) 0])
    exact ⟨_, by rw [befAll, hr, List.append_assoc]⟩
theorem befAll_at : ∀ (l : List Oper) (acc : List Nat) (k : Nat) (o : Oper), l[k]? = some o →
    ∃ acc' r, befAll l acc = acc' ++ r ∧ acc'.length = acc.length + k ∧ (befAll l acc).getD (acc.length + k) 0 = (edg o).foldl (fun s e => s ||| (1 <<< e.on) ||| acc'.getD e.on 0) 0
  | [], acc, k, o, h => by simp at h
  | x :: l, acc, 0, o, h => by
    simp at h; subst h
    obtain ⟨r, hr⟩ := befAll_prefix l (acc ++ [(edg x).foldl (fun s e => s ||| (1 <<< e.on) ||| acc.getD e.on 0) 0])
    refine ⟨acc, ((edg x).foldl (fun s e => s ||| (1 <<< e.on) ||| acc.getD e.on 0) 0) :: r, by rw [befAll, hr, List.append_assoc]; rfl, by simp, ?_⟩
    rw [befAll, hr]
    generalize (edg x).foldl (fun s e => s ||| (1 <<< e.on) ||| acc.getD e.on 0) 0 = y
    simp [List.getD]
  | x :: l, acc, k + 1, o, h => by
    obtain ⟨acc', r, h1, h2, h3⟩ := befAll_at l (acc ++ [(edg x).foldl (fun s e => s ||| (1 <<< e.on) ||| acc.getD e.on 0) 0]) k o (by simpa using h)
    refine ⟨acc', r, by rw [befAll]; exact h1, by rw [h2]; simp; omega, ?_⟩
    rw [befAll, ← h3]
    congr 1
    simp; omega

def Bef (ops : Array Oper) (i j : Nat) : Prop := ((befAll ops.toList []).getD j 0).testBit i = true
theorem Bef.edge {ops : Array Oper} {i j : Nat} {o : Oper} (ho : ops[j]? = some o) (h : Bef ops i j) : ∃ e ∈ (edg o), i = e.on ∨ Bef ops i e.on := by
  unfold Bef at h
  obtain ⟨acc, r, h1, h2, h3⟩ := befAll_at ops.toList [] j o (by simpa using ho)
  simp only [List.length_nil, Nat.zero_add] at h2 h3
  rw [h3] at h
  rcases fold_bits _ _ h with h4 | ⟨e, he, h4 | h4⟩
  · simp at h4
  · exact ⟨e, he, .inl h4⟩
  · refine ⟨e, he, .inr ?_⟩
    unfold Bef
    have hlt : e.on < acc.length := by
      rcases Nat.lt_or_ge e.on acc.length with h5 | h5
      · exact h5
      · rw [List.getD, List.getElem?_eq_none h5] at h4; simp at h4
    rw [h1, List.getD, List.getElem?_append_left hlt]
    exact h4
theorem Bef.none {ops : Array Oper} {i j : Nat} (ho : ops[j]? = none) (h : Bef ops i j) : False := by
  unfold Bef at h
  have hlen : (befAll ops.toList []).length = ops.size := by
    have : ∀ (l : List Oper) (acc : List Nat), (befAll l acc).length = acc.length + l.length := by
      intro l
      induction l with
      | nil => intro acc; simp [befAll]
      | cons o l ih => intro acc; rw [befAll, ih]; simp; omega
    rw [this]; simp
  have hj : ops.size ≤ j := by simpa using ho
  rw [List.getD, List.getElem?_eq_none (by omega)] at h
  simp at h
theorem comp_Bef {ops : Array Oper} {i j : Nat} (h : comp (befAll ops.toList []) i j = true) (hij : i ≠ j) : (i < j ∧ Bef ops i j) ∨ (j < i ∧ Bef ops j i) := by
  unfold comp at h
  rcases Nat.lt_or_ge i j with h1 | h1
  · left
    refine ⟨h1, ?_⟩
    rw [Nat.max_eq_right (by omega), Nat.min_eq_left (by omega)] at h
    exact h
  · right
    refine ⟨by omega, ?_⟩
    rw [Nat.max_eq_left (by omega), Nat.min_eq_right (by omega)] at h
    exact h

/-- G's own run of a region. -/
structure Run (C : Caller) (gs : List GI) (E : Nat → List Value) (H : Nat → Heap) (V : Nat → Value) : Prop where
  step : ∀ i g, gs[i]? = some g → E (i + 1) = putE (E i) g.dst (V i) ∧ ((guardE (E i) g.guard = some false ∧ V i = SK ∧ H (i + 1) = H i) ∨
    (guardE (E i) g.guard = some true ∧ quiet g.q (fun h => opE C (E i) h g.op) (H i) = some (V i, H (i + 1))))

theorem run_of {C : Caller} : ∀ (gs : List GI) (env : List Value) (h : Heap) (env' : List Value) (h' : Heap), execOps C gs env h = some (env', h') →
    ∃ E H V, Run C gs E H V ∧ E 0 = env ∧ H 0 = h ∧ E gs.length = env' ∧ H gs.length = h'
  | [], env, h, env', h', he => by
    simp only [execOps, Option.some.injEq, Prod.mk.injEq] at he
    exact ⟨fun _ => env, fun _ => h, fun _ => SK, ⟨fun i g hg => by simp at hg⟩, rfl, rfl, he.1, he.2⟩
  | g :: gs, env, h, env', h', he => by
    simp only [execOps] at he
    have mk : ∀ (v : Value) (h1 : Heap), execOps C gs (putE env g.dst v) h1 = some (env', h') → ((guardE env g.guard = some false ∧ v = SK ∧ h1 = h) ∨ (guardE env g.guard = some true ∧ quiet g.q (fun h => opE C env h g.op) h = some (v, h1))) →
        ∃ E H V, Run C (g :: gs) E H V ∧ E 0 = env ∧ H 0 = h ∧ E (g :: gs).length = env' ∧ H (g :: gs).length = h' := by
      intro v h1 hex hst
      obtain ⟨E, H, V, hr, e0, h0, e1, h2⟩ := run_of gs _ h1 env' h' hex
      refine ⟨fun i => match i with | 0 => env | i + 1 => E i, fun i => match i with | 0 => h | i + 1 => H i, fun i => match i with | 0 => v | i + 1 => V i, ⟨fun i g' hg => ?_⟩, rfl, rfl, e1, h2⟩
      cases i with
      | zero =>
        simp at hg; subst hg
        exact ⟨e0, by rw [← h0] at hst; exact hst⟩
      | succ i => exact hr.step i g' (by simpa using hg)
    split at he
    · cases he
    · rename_i hgd; exact mk SK h he (.inl ⟨hgd, rfl, rfl⟩)
    · rename_i hgd
      split at he
      · rename_i v h1 hq; exact mk v h1 he (.inr ⟨hgd, hq⟩)
      · cases he

section run
variable {C : Caller} {gs : List GI} {E : Nat → List Value} {H : Nat → Heap} {V : Nat → Value} (hCH : CHeap C) (r : Run C gs E H V)
include hCH r

theorem Run.hstep1 {i : Nat} (hi : i < gs.length) : HStep (H i) (H (i + 1)) := by
  obtain ⟨g, hg⟩ : ∃ g, gs[i]? = some g := ⟨gs[i], by simp [hi]⟩
  rcases (r.step i g hg).2 with ⟨_, _, h3⟩ | ⟨_, h3⟩
  · rw [h3]; exact HStep.refl _
  · exact (HStep.quiet hCH h3).1
theorem Run.hstep {i j : Nat} (hij : i ≤ j) (hj : j ≤ gs.length) : HStep (H i) (H j) := by
  induction j with
  | zero => have : i = 0 := by omega
            subst this; exact HStep.refl _
  | succ j ih =>
    by_cases h : i = j + 1
    · subst h; exact HStep.refl _
    · exact (ih (by omega) (by omega)).trans (r.hstep1 hCH (by omega))
theorem Run.keep1 {i : Nat} {g : GI} (hg : gs[i]? = some g) (hq : g.q = true) : ∀ b, b < (H i).size → (H (i + 1)).get b = (H i).get b := by
  rcases (r.step i g hg).2 with ⟨_, _, h3⟩ | ⟨_, h3⟩
  · intro b _; rw [h3]
  · exact ((HStep.quiet hCH h3).2 hq).2
/-- Where no operation may write, what was there stays. -/
theorem Run.keep {i j : Nat} (hij : i ≤ j) (hj : j ≤ gs.length) (hq : ∀ k g, gs[k]? = some g → i ≤ k → k < j → g.q = true) : ∀ b, b < (H i).size → (H j).get b = (H i).get b := by
  induction j with
  | zero => have : i = 0 := by omega
            subst this; intro b _; rfl
  | succ j ih =>
    by_cases h : i = j + 1
    · subst h; intro b _; rfl
    · intro b hb
      obtain ⟨g, hg⟩ : ∃ g, gs[j]? = some g := ⟨gs[j], List.getElem?_eq_getElem (by omega)⟩
      have h1 := (r.hstep hCH (show i ≤ j by omega) (by omega)).size
      rw [r.keep1 hCH hg (hq j g hg (by omega) (by omega)) b (by omega)]
      exact ih (by omega) (by omega) (fun k g hk h1 h2 => hq k g hk h1 (by omega)) b hb
omit hCH in
theorem Run.env_len {i : Nat} (hi : i ≤ gs.length) : (E i).length = (E 0).length := by
  induction i with
  | zero => rfl
  | succ i ih =>
    obtain ⟨g, hg⟩ : ∃ g, gs[i]? = some g := ⟨gs[i], List.getElem?_eq_getElem (by omega)⟩
    rw [(r.step i g hg).1, ← ih (by omega)]
    cases g.dst <;> simp [putE]
omit hCH in
theorem Run.env_same {i j t : Nat} (hij : i ≤ j) (hj : j ≤ gs.length) (hn : ∀ k g, gs[k]? = some g → i ≤ k → k < j → g.dst ≠ some t) : (E j).getD t undef = (E i).getD t undef := by
  induction j with
  | zero => have : i = 0 := by omega
            subst this; rfl
  | succ j ih =>
    by_cases h : i = j + 1
    · subst h; rfl
    · obtain ⟨g, hg⟩ : ∃ g, gs[j]? = some g := ⟨gs[j], List.getElem?_eq_getElem (by omega)⟩
      rw [(r.step j g hg).1, ← ih (by omega) (by omega) (fun k g hk h1 h2 => hn k g hk h1 (by omega))]
      have := hn j g hg (by omega) (by omega)
      cases hd : g.dst with
      | none => rfl
      | some d =>
        have hne : d ≠ t := fun e => this (by rw [hd, e])
        simp [putE, List.getD, hne]
end run

def restr (ρ : Ren) (s : Nat) : Ren := fun b => if b < s then ρ b else none
theorem restr_le (ρ : Ren) (s : Nat) : (restr ρ s).le ρ := fun b i h => by
  unfold restr at h; split at h
  · exact h
  · cases h
theorem restr_some {ρ : Ren} {s b : Nat} {i : BI} (h : restr ρ s b = some i) : b < s ∧ ρ b = some i := by
  unfold restr at h; split at h
  · exact ⟨by assumption, h⟩
  · cases h
theorem restr_mk {ρ : Ren} {s b : Nat} {i : BI} (h : ρ b = some i) (hb : b < s) : restr ρ s b = some i := by simp [restr, hb, h]
theorem restr_mono {ρ ρ' : Ren} {s t : Nat} (h : ρ.le ρ') (hs : s ≤ t) : (restr ρ s).le (restr ρ' t) := fun b i hb => by
  obtain ⟨h1, h2⟩ := restr_some hb
  exact restr_mk (h b i h2) (by omega)
theorem restr_eq {ρ : Ren} {s : Nat} (h : ∀ b i, ρ b = some i → b < s) : restr ρ s = ρ := by
  funext b
  unfold restr
  split
  · rfl
  · rename_i hb
    cases hr : ρ b with
    | none => rfl
    | some i => exact absurd (h b i hr) hb

theorem Sim.ext {ρ : Ren} {h h2 : Heap} {w : World} (s : Sim B ρ h w) (hg : ∀ b i, ρ b = some i → h2.get b = h.get b) : Sim B ρ h2 w where
  blk := fun b i hb => by rw [hg b i hb]; exact s.blk b i hb
  inj := fun b c i j hb hc ho hij => by
    rw [hg c j hc]
    refine s.inj b c i j hb hc ?_ hij
    obtain ⟨x, hx, hxo⟩ := ho
    rw [hg b i hb] at hx
    exact ⟨x, hx, hxo⟩
  above := fun b i hb ho => by
    refine s.above b i hb ?_
    obtain ⟨x, hx, hxo⟩ := ho
    rw [hg b i hb] at hx
    exact ⟨x, hx, hxo⟩
  bound := s.bound
end Go.GS
