/- G's code against the machine's; calls. -/
import Derived.Test.YtlodhfpkdlhmgaaGreatDoorGDraw3
namespace Go.GS
variable {P : Program} {B : Nat}

theorem expa_length : ∀ (n i : Nat) (ks : List Nat) (vs : List Value), (expa n i ks vs).length = n
  | 0, _, _, _ => rfl
  | n + 1, i, [], vs => by simp [expa, expa_length n]
  | n + 1, i, k :: ks, vs => by
    unfold expa
    split <;> simp [expa_length n]
theorem expa_get : ∀ (n i : Nat) (ks : List Nat) (vs : List Value) (j : Nat), (expa n i ks vs).getD j undef = undef ∨ ∃ q, ks[q]? = some (i + j) ∧ (expa n i ks vs).getD j undef = vs.getD q undef
  | 0, _, _, _, j => .inl (by simp [expa])
  | n + 1, i, [], vs, 0 => .inl (by simp [expa])
  | n + 1, i, [], vs, j + 1 => by
    rcases expa_get n (i + 1) [] vs j with h | ⟨q, h, _⟩
    · exact .inl (by simpa [expa] using h)
    · simp at h
  | n + 1, i, k :: ks, vs, 0 => by
    unfold expa
    split
    · rename_i h
      exact .inr ⟨0, by simp [h], by cases vs <;> simp⟩
    · exact .inl (by simp)
  | n + 1, i, k :: ks, vs, j + 1 => by
    unfold expa
    split
    · rename_i h
      rcases expa_get n (i + 1) ks vs.tail j with h1 | ⟨q, h1, h2⟩
      · exact .inl (by simpa using h1)
      · refine .inr ⟨q + 1, by simp [h1]; omega, ?_⟩
        rw [List.getD_cons_succ, h2]
        cases vs <;> simp [List.getD]
    · rcases expa_get n (i + 1) (k :: ks) vs j with h1 | ⟨q, h1, h2⟩
      · exact .inl (by simpa using h1)
      · refine .inr ⟨q, by rw [h1]; congr 1; omega, ?_⟩
        rw [List.getD_cons_succ, h2]

theorem EnvR.keep {ρ : Ren} {env : List Value} {tmps : Array Value} {n : Nat} (E : EnvR ρ env tmps) (hn : n = tmps.size) (keep : List Nat) : EnvR ρ (expa n 0 keep (proj keep env)) tmps := by
  refine ⟨by rw [expa_length, hn], fun i => ?_⟩
  rcases expa_get n 0 keep (proj keep env) i with h | ⟨q, h1, h2⟩
  · rw [h]; exact .bot _
  · rw [h2]
    have : (proj keep env).getD q undef = env.getD i undef := by
      unfold proj
      rw [List.getD, List.getElem?_map, h1]
      simp [List.getD]
    rw [this]; exact E.2 i

/-- Results. -/
def ResOK (P : Program) (fn : Func) (ρ : Ren) (v : Value) (tmps : Array Value) (w : World) : Prop := ∃ v', (results fn tmps).run P w = .ok v' w ∧ VR ρ v v'

def resF (tmps : Array Value) : ResultVar → Sem Value
  | .tmp t => pure (tmps.getD t undef)
  | .cell a t => do loadVar t (← asAddr (tmps.getD a undef))
theorem results_eq (fn : Func) (tmps : Array Value) : results fn tmps = (do let vs ← fn.results.mapM (resF tmps); pure (if h : vs.size = 1 then vs[0] else .tuple vs)) := by
  unfold results
  congr 1
theorem res_sound {fn : Func} {rs : List GR} (hrs : elabRes P fn.results.toList = some rs) {ρ : Ren} {env : List Value} {tmps : Array Value} {h : Heap} {w : World} {v : Value} (s : Sim B ρ h w) (E : EnvR ρ env tmps)
    (hv : resV env h rs = some v) : ResOK P fn ρ v tmps w := by
  have key : ∀ (l : List ResultVar) (rs : List GR) (vs : List Value), mapO (fun
      | .tmp t => some (GR.tmp t)
      | .cell a t => match aggP P t, sizeP P t with
        | some true, some n => some (.cell a false n)
        | some false, some _ => some (.cell a true 1)
        | _, _ => none) l = some rs → resAll env h rs = some vs →
      ∃ vs', (l.mapM (resF tmps)).run P w = .ok vs' w ∧ VRs ρ vs vs' := by
    intro l
    induction l with
    | nil => intro rs vs h1 h2; simp [mapO] at h1; subst h1; simp [resAll] at h2; subst h2; exact ⟨[], by simp, .nil⟩
    | cons x l ih =>
      intro rs vs h1 h2
      simp only [mapO] at h1
      split at h1
      · rename_i r rs' hr hrs'
        simp only [Option.some.injEq] at h1
        subst h1
        simp only [resAll] at h2
        split at h2
        · rename_i u us hu hus
          simp only [Option.some.injEq] at h2
          subst h2
          obtain ⟨vs', k1, k2⟩ := ih rs' us hrs' hus
          have hx : ∃ u', (resF tmps x).run P w = .ok u' w ∧ VR ρ u u' := by
            cases x with
            | tmp t =>
              simp only [Option.some.injEq] at hr
              subst hr
              simp only [resE, Option.some.injEq] at hu
              subst hu
              exact ⟨_, rfl, E.2 t⟩
            | cell a t =>
              simp only at hr
              have hp := E.2 a
              generalize hq : tmps.getD a undef = q at hp
              split at hr
              · rename_i n ha hn
                simp only [Option.some.injEq] at hr
                subst hr
                simp only [resE] at hu
                split at hu
                · rename_i p hpe
                  rw [hpe] at hp
                  simp only [Bool.false_eq_true, if_false] at hu
                  cases hc : h.cells p.block p.off n with
                  | none => simp [hc] at hu
                  | some c =>
                    simp [hc] at hu; subst hu
                    cases hp with
                    | ptr hb hs =>
                      obtain ⟨c', e1, _, e2⟩ := loadCells_sound (P := P) s hb hc
                      exact ⟨.agg c'.toArray, by simp [resF, hq, asAddr, loadVar, r_agg ha, r_size hn, e2], .agg (by simpa using e1)⟩
                · cases hu
              · rename_i n ha hn
                simp only [Option.some.injEq] at hr
                subst hr
                simp only [resE] at hu
                split at hu
                · rename_i p hpe
                  rw [hpe] at hp
                  simp only [if_true] at hu
                  cases hp with
                  | ptr hb hs =>
                    obtain ⟨v', e1, e2⟩ := s.cell hb hu
                    exact ⟨v', by simp [resF, hq, asAddr, loadVar, r_agg ha, e1], e2⟩
                · cases hu
              · cases hr
          obtain ⟨u', k3, k4⟩ := hx
          refine ⟨u' :: vs', ?_, .cons k4 k2⟩
          rw [List.mapM_cons, Sem.run_bind, k3]
          simp only [Result.andThen_ok, Sem.run_bind, k1, Sem.run_pure]
        · cases h2
      · cases h1
  unfold resV at hv
  cases hr : resAll env h rs with
  | none => simp [hr] at hv
  | some vs =>
    obtain ⟨vs', k1, k2⟩ := key _ rs vs hrs hr
    have k3 : (fn.results.mapM (resF tmps)).run P w = .ok vs'.toArray w := by
      have h1 := k1
      rw [← Array.toList_mapM, Sem.run_map] at h1
      generalize fn.results.mapM (resF tmps) = m at h1 ⊢
      cases hm : m.run P w with
      | ok r w' =>
        rw [hm] at h1
        simp only [Result.andThen_ok, Result.ok.injEq] at h1
        obtain ⟨h2, rfl⟩ := h1
        congr 1
        apply Array.ext'
        simpa using h2
      | halt x w' => rw [hm] at h1; simp at h1
    unfold ResOK
    rw [results_eq]
    simp only [Sem.run_bind, k3, Result.andThen_ok, Sem.run_pure]
    refine ⟨_, rfl, ?_⟩
    rw [hr] at hv
    have hlen := k2.length
    cases vs with
    | nil =>
      simp only [Option.some.injEq] at hv
      subst hv
      exact .bot _
    | cons u us =>
      cases us with
      | nil =>
        simp only [Option.some.injEq] at hv
        subst hv
        cases k2 with
        | cons e1 e2 =>
          cases e2
          simpa using e1
      | cons u2 us =>
        simp only [Option.some.injEq] at hv
        subst hv
        have hs : ¬ vs'.toArray.size = 1 := by simp at hlen ⊢; omega
        rw [dif_neg hs]
        exact .tup (by simp) (by simpa using k2)

def XR (P : Program) (fn : Func) (ρ : Ren) (x : GX) (e : Exit) (a : Act) (w : World) : Prop :=
  match x with
  | .nrm => e = .normal
  | .ex id => e = .exit id
  | .goto l => e = .goto l
  | .ret v => e = .ret ∧ ResOK P fn ρ v a.tmps w

/-- What G's answer says of the machine. -/
def XPost (P : Program) (B : Nat) (fn : Func) (ρ : Ren) (h : Heap) (w : World) (x : GX) (env' : List Value) (h' : Heap) (e : Exit) (a' : Act) (w' : World) : Prop :=
  ∃ ρ', Sim B ρ' h' w' ∧ Step B ρ h w ρ' h' w' ∧ EnvR ρ' env' a'.tmps ∧ a'.tmps.size = fn.ntmps ∧ a'.defers = [] ∧ XR P fn ρ' x e a' w'

theorem XPost.after {fn : Func} {ρ ρ1 : Ren} {h h1 h2 : Heap} {w w1 w2 : World} {x : GX} {env' : List Value} {e : Exit} {a' : Act} (s : Sim B ρ h w) (t : Step B ρ h w ρ1 h1 w1) (p : XPost P B fn ρ1 h1 w1 x env' h2 e a' w2) : XPost P B fn ρ h w x env' h2 e a' w2 := by
  obtain ⟨ρ', k1, k2, k3⟩ := p
  exact ⟨ρ', k1, t.trans s k2, k3⟩
theorem XPost.keep {fn : Func} {ρ : Ren} {h h' : Heap} {w w' : World} {x : GX} {env' : List Value} {e : Exit} {a' : Act} {n : Nat} (hn : n = fn.ntmps) (keep : List Nat) (p : XPost P B fn ρ h w x env' h' e a' w') : XPost P B fn ρ h w x (expa n 0 keep (proj keep env')) h' e a' w' := by
  obtain ⟨ρ', k1, k2, k3, k4, k5⟩ := p
  exact ⟨ρ', k1, k2, k3.keep (by rw [hn, k4]) keep, k4, k5⟩

/-- A piece of code is as G says. -/
def CodeOK (P : Program) (B : Nat) (fn : Func) (C : Caller) (k : Nat) (c : Code) (g : GCode) : Prop :=
  ∀ env h x env' h', exec C k fn.ntmps g env h = some (x, env', h') → ∀ ρ w a Q, Sim B ρ h w → EnvR ρ env a.tmps → a.tmps.size = fn.ntmps → a.defers = [] →
    (∀ e a' w', XPost P B fn ρ h w x env' h' e a' w' → Q e a' w') → c.wp P Q a w

variable {fn : Func} {C : Caller} {k : Nat}

theorem codeOK_seq {c d : Code} {g1 g2 : GCode} (h1 : CodeOK P B fn C k c g1) (h2 : CodeOK P B fn C k d g2) : CodeOK P B fn C k (.seq c d) (.seq g1 g2) := by
  intro env h x env' h' he ρ w a Q s E hn hd hQ
  refine wp_seq ?_
  simp only [exec] at he
  split at he
  · rename_i env1 hp1 he1
    refine h1 _ _ _ _ _ he1 ρ w a _ s E hn hd fun e a1 w1 hp => ?_
    obtain ⟨ρ1, k1, k2, k3, k4, k5, k6⟩ := hp
    simp only [XR] at k6
    subst k6
    exact h2 _ _ _ _ _ he ρ1 w1 a1 Q k1 k3 k4 k5 fun e a2 w2 hp2 => hQ _ _ _ (hp2.after s k2)
  · rename_i hne
    cases hr : exec C k fn.ntmps g1 env h with
    | none => rw [hr] at he; cases he
    | some r =>
      obtain ⟨x1, env1, hp1⟩ := r
      rw [hr] at he
      have hx1 : x1 ≠ .nrm := by rintro rfl; exact hne _ _ hr
      simp only [Option.some.injEq, Prod.mk.injEq] at he
      obtain ⟨rfl, rfl, rfl⟩ := he
      refine h1 _ _ _ _ _ hr ρ w a _ s E hn hd fun e a1 w1 hp => ?_
      have hp0 := hp
      obtain ⟨ρ1, k1, k2, k3, k4, k5, k6⟩ := hp
      cases x1 with
      | nrm => exact absurd rfl hx1
      | ex id => simp only [XR] at k6; subst k6; exact hQ _ _ _ hp0
      | goto l => simp only [XR] at k6; subst k6; exact hQ _ _ _ hp0
      | ret v => simp only [XR] at k6; obtain ⟨rfl, _⟩ := k6; exact hQ _ _ _ hp0

theorem projR_some {keep : List Nat} {r : GRes} {x : GX} {vs : List Value} {h : Heap} (hp : projR keep r = some (x, vs, h)) : ∃ env, r = some (x, env, h) ∧ vs = proj keep env := by
  cases r with
  | none => cases hp
  | some r => obtain ⟨y, env, h1⟩ := r; simp [projR] at hp; obtain ⟨rfl, rfl, rfl⟩ := hp; exact ⟨env, rfl, rfl⟩
theorem expaR_some {n : Nat} {keep : List Nat} {r : GRes} {x : GX} {env : List Value} {h : Heap} (hp : expaR n keep r = some (x, env, h)) : ∃ vs, r = some (x, vs, h) ∧ env = expa n 0 keep vs := by
  cases r with
  | none => cases hp
  | some r => obtain ⟨y, vs, h1⟩ := r; simp [expaR] at hp; obtain ⟨rfl, rfl, rfl⟩ := hp; exact ⟨vs, rfl, rfl⟩

theorem codeOK_cond {c d : Code} {g1 g2 : GCode} {cd : Operand} {keep : List Nat} (hc : okOpd cd = true) (h1 : CodeOK P B fn C k c g1) (h2 : CodeOK P B fn C k d g2) : CodeOK P B fn C k (.cond cd c d) (.cond keep cd g1 g2) := by
  intro env h x env' h' he ρ w a Q s E hn hd hQ
  simp only [exec] at he
  split at he
  · rename_i t ht
    have hv := E.ev hc
    rw [ht] at hv
    generalize hq : a.eval cd = q at hv
    cases hv
    obtain ⟨vs, he1, rfl⟩ := expaR_some he
    obtain ⟨env1, he2, rfl⟩ := projR_some he1
    refine wp_cond hq ?_
    cases t with
    | true => exact h1 _ _ _ _ _ he2 ρ w a Q s E hn hd fun e a1 w1 hp => hQ _ _ _ (hp.keep rfl keep)
    | false => exact h2 _ _ _ _ _ he2 ρ w a Q s E hn hd fun e a1 w1 hp => hQ _ _ _ (hp.keep rfl keep)
  · cases he

theorem codeOK_block {c : Code} {g : GCode} {id : Nat} {keep : List Nat} (h1 : CodeOK P B fn C k c g) : CodeOK P B fn C k (.block id c) (.block keep id g) := by
  intro env h x env' h' he ρ w a Q s E hn hd hQ
  simp only [exec] at he
  obtain ⟨vs, he1, rfl⟩ := expaR_some he
  refine wp_block ?_
  cases hr : projR keep (exec C k fn.ntmps g env h) with
  | none => rw [hr] at he1; cases he1
  | some r =>
    obtain ⟨x1, vs1, hp1⟩ := r
    obtain ⟨env1, he2, rfl⟩ := projR_some hr
    rw [hr] at he1
    refine h1 _ _ _ _ _ he2 ρ w a _ s E hn hd fun e a1 w1 hp => ?_
    have hp2 := hp.keep (n := fn.ntmps) rfl keep
    cases x1 with
    | nrm =>
      simp only [outBlock, Option.some.injEq, Prod.mk.injEq] at he1
      obtain ⟨rfl, rfl, rfl⟩ := he1
      have hp0 := hp2
      obtain ⟨_, _, _, _, _, _, k6⟩ := hp
      simp only [XR] at k6; subst k6; exact hQ _ _ _ hp0
    | ex i =>
      obtain ⟨ρ1, k1, k2, k3, k4, k5, k6⟩ := hp2
      simp only [XR] at k6
      subst k6
      simp only [outBlock] at he1
      simp only [Exit.inBlock]
      split at he1
      · rename_i hid
        simp only [Option.some.injEq, Prod.mk.injEq] at he1
        obtain ⟨rfl, rfl, rfl⟩ := he1
        rw [if_pos hid]
        exact hQ _ _ _ ⟨ρ1, k1, k2, k3, k4, k5, rfl⟩
      · rename_i hid
        simp only [Option.some.injEq, Prod.mk.injEq] at he1
        obtain ⟨rfl, rfl, rfl⟩ := he1
        rw [if_neg hid]
        exact hQ _ _ _ ⟨ρ1, k1, k2, k3, k4, k5, rfl⟩
    | goto l =>
      simp only [outBlock, Option.some.injEq, Prod.mk.injEq] at he1
      obtain ⟨rfl, rfl, rfl⟩ := he1
      have hp0 := hp2
      obtain ⟨_, _, _, _, _, _, k6⟩ := hp
      simp only [XR] at k6; subst k6; exact hQ _ _ _ hp0
    | ret v =>
      simp only [outBlock, Option.some.injEq, Prod.mk.injEq] at he1
      obtain ⟨rfl, rfl, rfl⟩ := he1
      have hp0 := hp2
      obtain ⟨_, _, _, _, _, _, k6⟩ := hp
      simp only [XR] at k6; obtain ⟨rfl, _⟩ := k6; exact hQ _ _ _ hp0

theorem codeOK_loop {c : Code} {g : GCode} {keep : List Nat} (h1 : CodeOK P B fn C k c g) : CodeOK P B fn C k (.loop c) (.loop keep g) := by
  intro env h x env' h' he ρ w a Q s E hn hd hQ
  simp only [exec] at he
  obtain ⟨vs, he1, rfl⟩ := expaR_some he
  have key : ∀ (j : Nat) (vs0 : List Value) (h0 : Heap) (ρ0 : Ren) (w0 : World) (a0 : Act), loopN j (fun vs h => projR keep (exec C k fn.ntmps g (expa fn.ntmps 0 keep vs) h)) vs0 h0 = some (x, vs, h') →
      Sim B ρ0 h0 w0 → Step B ρ h w ρ0 h0 w0 → EnvR ρ0 (expa fn.ntmps 0 keep vs0) a0.tmps → a0.tmps.size = fn.ntmps → a0.defers = [] → Code.rounds P c Q j a0 w0 := by
    intro j
    induction j with
    | zero => intro vs0 h0 ρ0 w0 a0 hl; cases hl
    | succ j ih =>
      intro vs0 h0 ρ0 w0 a0 hl s0 t0 E0 hn0 hd0
      rw [rounds_succ]
      simp only [loopN] at hl
      cases hr : projR keep (exec C k fn.ntmps g (expa fn.ntmps 0 keep vs0) h0) with
      | none => rw [hr] at hl; cases hl
      | some r =>
        obtain ⟨x1, vs1, hp1⟩ := r
        obtain ⟨env1, he2, rfl⟩ := projR_some hr
        rw [hr] at hl
        refine h1 _ _ _ _ _ he2 ρ0 w0 a0 _ s0 E0 hn0 hd0 fun e a1 w1 hp => ?_
        have hp2 := hp.keep (n := fn.ntmps) rfl keep
        have hp3 := hp2.after s t0
        obtain ⟨ρ1, k1, k2, k3, k4, k5, k6⟩ := hp2
        cases x1 with
        | nrm =>
          simp only [XR] at k6; subst k6
          exact ih _ hp1 ρ1 w1 a1 hl k1 (t0.trans s k2) k3 k4 k5
        | ex i =>
          simp only [XR] at k6; subst k6
          simp only [Option.some.injEq, Prod.mk.injEq] at hl
          obtain ⟨rfl, rfl, rfl⟩ := hl
          exact hQ _ _ _ hp3
        | goto l =>
          simp only [XR] at k6; subst k6
          simp only [Option.some.injEq, Prod.mk.injEq] at hl
          obtain ⟨rfl, rfl, rfl⟩ := hl
          exact hQ _ _ _ hp3
        | ret v =>
          simp only [XR] at k6; obtain ⟨rfl, _⟩ := k6
          simp only [Option.some.injEq, Prod.mk.injEq] at hl
          obtain ⟨rfl, rfl, rfl⟩ := hl
          exact hQ _ _ _ hp3
  exact wp_loop_rounds k (key k _ h ρ w a he1 s (Step.refl _ _ _ _) (E.keep hn.symm keep) hn hd)

theorem elabC_sound (hCH : CHeap C) (hC : CSound P B C) (hm : P.follows .mixedOrders = true) {rs : List GR} (hrs : elabRes P fn.results.toList = some rs) : ∀ (c : Code) (an an' : Ann) (g : GCode), elabC P rs c an = some (g, an') → CodeOK P B fn C k c g
  | .skip, an, an', g, he => by
    simp [elabC] at he; obtain ⟨rfl, rfl⟩ := he
    intro env h x env' h' he ρ w a Q s E hn hd hQ
    simp only [exec, Option.some.injEq, Prod.mk.injEq] at he
    obtain ⟨rfl, rfl, rfl⟩ := he
    exact wp_skip (hQ _ _ _ ⟨ρ, s, Step.refl _ _ _ _, E, hn, hd, rfl⟩)
  | .label l, an, an', g, he => by
    simp [elabC] at he; obtain ⟨rfl, rfl⟩ := he
    intro env h x env' h' he ρ w a Q s E hn hd hQ
    simp only [exec, Option.some.injEq, Prod.mk.injEq] at he
    obtain ⟨rfl, rfl, rfl⟩ := he
    exact wp_label (hQ _ _ _ ⟨ρ, s, Step.refl _ _ _ _, E, hn, hd, rfl⟩)
  | .region id ops draw, an, an', g, he => by
    simp only [elabC] at he
    split at he
    · rename_i l hl
      simp only [Option.some.injEq, Prod.mk.injEq] at he
      obtain ⟨rfl, rfl⟩ := he
      intro env h x env' h' he ρ w a Q s E hn hd hQ
      simp only [exec] at he
      split at he
      · rename_i env1 h1 hex
        simp only [Option.some.injEq, Prod.mk.injEq] at he
        obtain ⟨rfl, rfl, rfl⟩ := he
        have fin : ∀ a' w', Onward B ρ h w env1 h1 a' w' → Q .normal a' w' := fun a' w' ⟨ρ', k1, k2, k3, k4⟩ => by
          refine hQ _ _ _ ⟨ρ', k1, k2, k3, ?_, k4, rfl⟩
          have hlen : ∀ (l : List GI) (env : List Value) (h : Heap) (env' : List Value) (h' : Heap), execOps C l env h = some (env', h') → env'.length = env.length := by
            intro l
            induction l with
            | nil => intro env h env' h' he; simp [execOps] at he; rw [he.1]
            | cons g l ih =>
              intro env h env' h' he
              have hput : ∀ v, (putE env g.dst v).length = env.length := fun v => by cases g.dst <;> simp [putE]
              simp only [execOps] at he
              split at he
              · cases he
              · rw [ih _ _ _ _ he, hput]
              · split at he
                · rw [ih _ _ _ _ he, hput]
                · cases he
          rw [← k3.1, hlen _ _ _ _ _ hex, E.1, hn]
        cases draw with
        | true => exact region_draw hCH hC hm hl hex s E hd fin
        | false =>
          have hraw : elabRaw P ops.toList = some l := by
            unfold elabOps at hl
            split at hl
            · cases hl
            · rename_i gs hgs; simp at hl; subst hl; exact hgs
          exact region_seq hC hraw hex s E hd fin
      · cases he
    · cases he
  | .seq c d, an, an', g, he => by
    simp only [elabC] at he
    split at he
    · rename_i ga an1 ha
      split at he
      · rename_i gb an2 hb
        simp only [Option.some.injEq, Prod.mk.injEq] at he
        obtain ⟨rfl, rfl⟩ := he
        exact codeOK_seq (elabC_sound hCH hC hm hrs c _ _ _ ha) (elabC_sound hCH hC hm hrs d _ _ _ hb)
      · cases he
    · cases he
  | .cond cd c d, an, an', g, he => by
    cases an with
    | nil => simp [elabC] at he
    | cons keep an =>
      simp only [elabC] at he
      split at he
      · rename_i hc
        split at he
        · rename_i ga an1 ha
          split at he
          · rename_i gb an2 hb
            simp only [Option.some.injEq, Prod.mk.injEq] at he
            obtain ⟨rfl, rfl⟩ := he
            exact codeOK_cond hc (elabC_sound hCH hC hm hrs c _ _ _ ha) (elabC_sound hCH hC hm hrs d _ _ _ hb)
          · cases he
        · cases he
      · cases he
  | .block id c, an, an', g, he => by
    cases an with
    | nil => simp [elabC] at he
    | cons keep an =>
      simp only [elabC] at he
      split at he
      · rename_i ga an1 ha
        simp only [Option.some.injEq, Prod.mk.injEq] at he
        obtain ⟨rfl, rfl⟩ := he
        exact codeOK_block (elabC_sound hCH hC hm hrs c _ _ _ ha)
      · cases he
  | .loop c, an, an', g, he => by
    cases an with
    | nil => simp [elabC] at he
    | cons keep an =>
      simp only [elabC] at he
      split at he
      · rename_i ga an1 ha
        simp only [Option.some.injEq, Prod.mk.injEq] at he
        obtain ⟨rfl, rfl⟩ := he
        exact codeOK_loop (elabC_sound hCH hC hm hrs c _ _ _ ha)
      · cases he
  | .exit id, an, an', g, he => by
    simp [elabC] at he; obtain ⟨rfl, rfl⟩ := he
    intro env h x env' h' he ρ w a Q s E hn hd hQ
    simp only [exec, Option.some.injEq, Prod.mk.injEq] at he
    obtain ⟨rfl, rfl, rfl⟩ := he
    exact wp_exit (hQ _ _ _ ⟨ρ, s, Step.refl _ _ _ _, E, hn, hd, rfl⟩)
  | .goto l, an, an', g, he => by
    simp [elabC] at he; obtain ⟨rfl, rfl⟩ := he
    intro env h x env' h' he ρ w a Q s E hn hd hQ
    simp only [exec, Option.some.injEq, Prod.mk.injEq] at he
    obtain ⟨rfl, rfl, rfl⟩ := he
    exact wp_goto (hQ _ _ _ ⟨ρ, s, Step.refl _ _ _ _, E, hn, hd, rfl⟩)
  | .ret, an, an', g, he => by
    simp [elabC] at he; obtain ⟨rfl, rfl⟩ := he
    intro env h x env' h' he ρ w a Q s E hn hd hQ
    simp only [exec] at he
    split at he
    · rename_i v hv
      simp only [Option.some.injEq, Prod.mk.injEq] at he
      obtain ⟨rfl, rfl, rfl⟩ := he
      exact wp_ret (hQ _ _ _ ⟨ρ, s, Step.refl _ _ _ _, E, hn, hd, rfl, res_sound hrs s E hv⟩)
    · cases he
  | .rangeFunc .., an, an', g, he => by cases an <;> simp [elabC] at he
  | .scope _, an, an', g, he => by cases an <;> simp [elabC] at he
  | .refuse _, an, an', g, he => by cases an <;> simp [elabC] at he
end Go.GS
