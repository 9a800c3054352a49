/- G is sound: what G answers, the machine answers. -/
import Derived.Test.YtlodhfpkdlhmgaaGreatDoorGCode
namespace Go.GS
variable {P : Program} {B : Nat}

/-! ### Scopes: jumps to labels -/

def jumpsTo (P : Program) (c : Code) (Q : Exit → Act → World → Prop) : Nat → Nat → Act → World → Prop
  | 0, _, _, _ => False
  | k + 1, l, a, w => ∃ rest, findLabel c l = some rest ∧ rest.wp P (fun e a w => match e with | .goto l' => jumpsTo P c Q k l' a w | e => Q e a w) a w

theorem wp_scope_gen {c : Code} {Q : Exit → Act → World → Prop} {a : Act} {w : World} (k : Nat)
    (h : c.wp P (fun e a w => match e with | .goto l => jumpsTo P c Q k l a w | e => Q e a w) a w) : (Code.scope c).wp P Q a w := by
  intro b kk cs
  have key : ∀ k l a w, jumpsTo P c Q k l a w → ∃ rest, findLabel c l = some rest ∧ ∃ e a' w', Q e a' w' ∧ Arrives P (lone (b.at a (.code rest :: .inScope c :: kk)) cs w) b kk cs e a' w' := by
    intro k
    induction k with
    | zero => intro l a w h; exact h.elim
    | succ k ih =>
      intro l a w h
      obtain ⟨rest, hf, hw⟩ := h
      refine ⟨rest, hf, ?_⟩
      obtain ⟨e, a₁, w₁, hq, harr⟩ := hw b (.inScope c :: kk) cs
      cases e with
      | normal => exact ⟨.normal, a₁, w₁, hq, Steps.trans harr (.one step_inScope)⟩
      | exit id => exact ⟨.exit id, a₁, w₁, hq, fun k' hk => harr k' (by simp [exitTo, hk])⟩
      | goto l' =>
        obtain ⟨rest', hf', e₂, a₂, w₂, hq₂, harr₂⟩ := ih l' a₁ w₁ hq
        have hg : gotoIn l' (.inScope c :: kk) = some (.code rest' :: .inScope c :: kk) := by simp [gotoIn, hf']
        exact ⟨e₂, a₂, w₂, hq₂, .of_steps (harr _ hg) harr₂⟩
      | ret => exact ⟨_, a₁, w₁, hq, harr⟩
      | panic ch => exact ⟨_, a₁, w₁, hq, harr⟩
      | outgrown => exact ⟨_, a₁, w₁, hq, harr⟩
  obtain ⟨e, a₁, w₁, hq, harr⟩ := h b (.inScope c :: kk) cs
  cases e with
  | normal => exact ⟨.normal, a₁, w₁, hq, .head step_scope (Steps.trans harr (.one step_inScope))⟩
  | exit id => exact ⟨.exit id, a₁, w₁, hq, fun k' hk => .head step_scope (harr k' (by simp [exitTo, hk]))⟩
  | goto l' =>
    obtain ⟨rest', hf', e₂, a₂, w₂, hq₂, harr₂⟩ := key k l' a₁ w₁ hq
    have hg : gotoIn l' (.inScope c :: kk) = some (.code rest' :: .inScope c :: kk) := by simp [gotoIn, hf']
    exact ⟨e₂, a₂, w₂, hq₂, .of_steps (.head step_scope (harr _ hg)) harr₂⟩
  | ret => exact ⟨_, a₁, w₁, hq, .of_steps (.one step_scope) harr⟩
  | panic ch => exact ⟨_, a₁, w₁, hq, .of_steps (.one step_scope) harr⟩
  | outgrown => exact ⟨_, a₁, w₁, hq, .of_steps (.one step_scope) harr⟩

theorem codeOK_scope {fn : Func} {C : Caller} {k : Nat} {c ra rb : Code} {g ga gb : GCode} {la lb : Nat} {keep : List Nat} (hla : findLabel c la = some ra) (hlb : findLabel c lb = some rb)
    (h1 : CodeOK P B fn C k c g) (h2 : CodeOK P B fn C k ra ga) (h3 : CodeOK P B fn C k rb gb) : CodeOK P B fn C k (.scope c) (.scope keep g la ga lb gb) := by
  intro env h x env' h' he ρ w a Q s E hn hd hQ
  simp only [exec] at he
  refine wp_scope_gen k ?_
  -- behind a jump
  have key : ∀ (j : Nat) (l : Nat) (vs0 : List Value) (h0 : Heap) (ρ0 : Ren) (w0 : World) (a0 : Act) (vs : List Value), jumpN j (fun l vs h =>
        if l = la then some (projR keep (exec C k fn.ntmps ga (expa fn.ntmps 0 keep vs) h)) else if l = lb then some (projR keep (exec C k fn.ntmps gb (expa fn.ntmps 0 keep vs) h)) else none) l vs0 h0 = some (x, vs, h') →
      env' = expa fn.ntmps 0 keep vs → Sim B ρ0 h0 w0 → Step B ρ h w ρ0 h0 w0 → EnvR ρ0 (expa fn.ntmps 0 keep vs0) a0.tmps → a0.tmps.size = fn.ntmps → a0.defers = [] → jumpsTo P c Q j l a0 w0 := by
    intro j
    induction j with
    | zero => intro l vs0 h0 ρ0 w0 a0 vs hl; cases hl
    | succ j ih =>
      intro l vs0 h0 ρ0 w0 a0 vs hl henv s0 t0 E0 hn0 hd0
      have body : ∀ (rest : Code) (gr : GCode), findLabel c l = some rest → CodeOK P B fn C k rest gr →
          (match (some (projR keep (exec C k fn.ntmps gr (expa fn.ntmps 0 keep vs0) h0)) : Option GRes) with
            | none => none | some none => none
            | some (some (.goto l, vs, h)) => jumpN j (fun l vs h =>
              if l = la then some (projR keep (exec C k fn.ntmps ga (expa fn.ntmps 0 keep vs) h)) else if l = lb then some (projR keep (exec C k fn.ntmps gb (expa fn.ntmps 0 keep vs) h)) else none) l vs h
            | some (some r) => some r) = some (x, vs, h') → jumpsTo P c Q (j + 1) l a0 w0 := by
        intro rest gr hf hok hl
        refine ⟨rest, hf, ?_⟩
        cases hr : projR keep (exec C k fn.ntmps gr (expa fn.ntmps 0 keep vs0) h0) with
        | none => rw [hr] at hl; cases hl
        | some r =>
          obtain ⟨x1, vs1, hp1⟩ := r
          obtain ⟨env1, he2, rfl⟩ := projR_some hr
          rw [hr] at hl
          refine hok _ _ _ _ _ he2 ρ0 w0 a0 _ s0 E0 hn0 hd0 fun e a1 w1 hp => ?_
          have hp2 := hp.keep (n := fn.ntmps) rfl keep
          have hp3 := hp2.after s t0
          obtain ⟨ρ1, k1, k2, k3, k4, k5, k6⟩ := hp2
          cases x1 with
          | nrm =>
            simp only [XR] at k6; subst k6
            simp only [Option.some.injEq, Prod.mk.injEq] at hl
            obtain ⟨rfl, rfl, rfl⟩ := hl
            exact hQ _ _ _ (by rw [henv]; exact hp3)
          | ex i =>
            simp only [XR] at k6; subst k6
            simp only [Option.some.injEq, Prod.mk.injEq] at hl
            obtain ⟨rfl, rfl, rfl⟩ := hl
            exact hQ _ _ _ (by rw [henv]; exact hp3)
          | goto l' =>
            simp only [XR] at k6; subst k6
            exact ih l' _ hp1 ρ1 w1 a1 vs hl henv k1 (t0.trans s k2) k3 k4 k5
          | ret v =>
            simp only [XR] at k6; obtain ⟨rfl, _⟩ := k6
            simp only [Option.some.injEq, Prod.mk.injEq] at hl
            obtain ⟨rfl, rfl, rfl⟩ := hl
            exact hQ _ _ _ (by rw [henv]; exact hp3)
      simp only [jumpN] at hl
      by_cases hA : l = la
      · subst hA
        simp only [if_true] at hl
        exact body ra ga hla h2 hl
      · by_cases hB : l = lb
        · subst hB
          simp only [hA, if_false, if_true] at hl
          exact body rb gb hlb h3 hl
        · simp only [hA, hB, if_false] at hl; cases hl
  cases hr : projR keep (exec C k fn.ntmps g env h) with
  | none => rw [hr] at he; cases he
  | some r =>
    obtain ⟨x1, vs1, hp1⟩ := r
    obtain ⟨env1, he2, rfl⟩ := projR_some hr
    rw [hr] at he
    refine h1 _ _ _ _ _ he2 ρ w a _ s E hn hd fun e a1 w1 hp => ?_
    have hp2 := hp.keep (n := fn.ntmps) rfl keep
    have hp0 := hp2
    obtain ⟨ρ1, k1, k2, k3, k4, k5, k6⟩ := hp2
    cases x1 with
    | nrm =>
      simp only [XR] at k6; subst k6
      simp only [expaR, Option.some.injEq, Prod.mk.injEq] at he
      obtain ⟨rfl, rfl, rfl⟩ := he
      exact hQ _ _ _ hp0
    | ex i =>
      simp only [XR] at k6; subst k6
      simp only [expaR, Option.some.injEq, Prod.mk.injEq] at he
      obtain ⟨rfl, rfl, rfl⟩ := he
      exact hQ _ _ _ hp0
    | goto l =>
      simp only [XR] at k6; subst k6
      simp only at he
      obtain ⟨vs, he3, henv⟩ := expaR_some he
      exact key k l _ hp1 ρ1 w1 a1 vs he3 henv k1 k2 k3 k4 k5
    | ret v =>
      simp only [XR] at k6; obtain ⟨rfl, _⟩ := k6
      simp only [expaR, Option.some.injEq, Prod.mk.injEq] at he
      obtain ⟨rfl, rfl, rfl⟩ := he
      exact hQ _ _ _ hp0

theorem elabTop_sound {fn : Func} {C : Caller} {k : Nat} (hCH : CHeap C) (hC : CSound P B C) (hm : P.follows .mixedOrders = true) {rs : List GR} (hrs : elabRes P fn.results.toList = some rs) : ∀ (c : Code) (an an' : Ann) (g : GCode), elabTop P rs c an = some (g, an') → CodeOK P B fn C k c g
  | .scope b, an, an', g, he => by
    cases an with
    | nil => simp [elabTop, elabC] at he
    | cons keep an =>
      simp only [elabTop] at he
      split at he
      · split at he
        · rename_i ra rb hra hrb
          split at he
          · rename_i g0 an1 h0
            split at he
            · rename_i ga an2 ha
              split at he
              · rename_i gb an3 hb
                simp only [Option.some.injEq, Prod.mk.injEq] at he
                obtain ⟨rfl, rfl⟩ := he
                exact codeOK_scope hra hrb (elabC_sound hCH hC hm hrs _ _ _ _ h0) (elabC_sound hCH hC hm hrs _ _ _ _ ha) (elabC_sound hCH hC hm hrs _ _ _ _ hb)
              · cases he
            · cases he
          · cases he
        · cases he
      · cases he
  | .seq c d, an, an', g, he => by
    simp only [elabTop] at he
    split at he
    · rename_i ga an1 ha
      split at he
      · rename_i gb an2 hb
        simp only [Option.some.injEq, Prod.mk.injEq] at he
        obtain ⟨rfl, rfl⟩ := he
        exact codeOK_seq (elabTop_sound hCH hC hm hrs c _ _ _ ha) (elabTop_sound hCH hC hm hrs d _ _ _ hb)
      · cases he
    · cases he
  | .skip, an, an', g, he => elabC_sound hCH hC hm hrs _ _ _ _ (by simpa [elabTop] using he)
  | .label l, an, an', g, he => elabC_sound hCH hC hm hrs _ _ _ _ (by simpa [elabTop] using he)
  | .region id ops draw, an, an', g, he => elabC_sound hCH hC hm hrs _ _ _ _ (by simpa [elabTop] using he)
  | .cond cd c d, an, an', g, he => elabC_sound hCH hC hm hrs _ _ _ _ (by simpa [elabTop] using he)
  | .block id c, an, an', g, he => elabC_sound hCH hC hm hrs _ _ _ _ (by simpa [elabTop] using he)
  | .loop c, an, an', g, he => elabC_sound hCH hC hm hrs _ _ _ _ (by simpa [elabTop] using he)
  | .exit id, an, an', g, he => elabC_sound hCH hC hm hrs _ _ _ _ (by simpa [elabTop] using he)
  | .goto l, an, an', g, he => elabC_sound hCH hC hm hrs _ _ _ _ (by simpa [elabTop] using he)
  | .ret, an, an', g, he => elabC_sound hCH hC hm hrs _ _ _ _ (by simpa [elabTop] using he)
  | .rangeFunc .., an, an', g, he => elabC_sound hCH hC hm hrs _ _ _ _ (by simpa [elabTop] using he)
  | .refuse _, an, an', g, he => elabC_sound hCH hC hm hrs _ _ _ _ (by simpa [elabTop] using he)

/-! ### Heaps go on -/

theorem execOps_heap {C : Caller} (hC : CHeap C) : ∀ (l : List GI) (env : List Value) (h : Heap) (env' : List Value) (h' : Heap), execOps C l env h = some (env', h') → HStep h h'
  | [], env, h, env', h', he => by simp [execOps] at he; rw [he.2]; exact HStep.refl _
  | g :: l, env, h, env', h', he => by
    simp only [execOps] at he
    split at he
    · cases he
    · exact execOps_heap hC l _ _ _ _ he
    · split at he
      · rename_i v h1 hq
        exact (HStep.quiet hC hq).1.trans (execOps_heap hC l _ _ _ _ he)
      · cases he

theorem loopN_heap {F : List Value → Heap → GRes} (hF : ∀ vs h x vs' h', F vs h = some (x, vs', h') → HStep h h') : ∀ (j : Nat) (vs : List Value) (h : Heap) (x : GX) (vs' : List Value) (h' : Heap), loopN j F vs h = some (x, vs', h') → HStep h h'
  | 0, vs, h, x, vs', h', he => by cases he
  | j + 1, vs, h, x, vs', h', he => by
    simp only [loopN] at he
    cases hr : F vs h with
    | none => rw [hr] at he; cases he
    | some r =>
      obtain ⟨x1, vs1, h1⟩ := r
      rw [hr] at he
      have h2 := hF _ _ _ _ _ hr
      cases x1 with
      | nrm => exact h2.trans (loopN_heap hF j _ _ _ _ _ he)
      | _ => simp only [Option.some.injEq, Prod.mk.injEq] at he; obtain ⟨_, _, rfl⟩ := he; exact h2

theorem jumpN_heap {G : Nat → List Value → Heap → Option GRes} (hG : ∀ l vs h x vs' h', G l vs h = some (some (x, vs', h')) → HStep h h') : ∀ (j l : Nat) (vs : List Value) (h : Heap) (x : GX) (vs' : List Value) (h' : Heap), jumpN j G l vs h = some (x, vs', h') → HStep h h'
  | 0, l, vs, h, x, vs', h', he => by cases he
  | j + 1, l, vs, h, x, vs', h', he => by
    simp only [jumpN] at he
    cases hr : G l vs h with
    | none => rw [hr] at he; cases he
    | some r =>
      cases r with
      | none => rw [hr] at he; cases he
      | some r =>
        obtain ⟨x1, vs1, h1⟩ := r
        rw [hr] at he
        have h2 := hG _ _ _ _ _ _ hr
        cases x1 with
        | goto l' => exact h2.trans (jumpN_heap hG j _ _ _ _ _ _ he)
        | _ => simp only [Option.some.injEq, Prod.mk.injEq] at he; obtain ⟨_, _, rfl⟩ := he; exact h2

theorem exec_heap {C : Caller} (hC : CHeap C) {k n : Nat} : ∀ (g : GCode) (env : List Value) (h : Heap) (x : GX) (env' : List Value) (h' : Heap), exec C k n g env h = some (x, env', h') → HStep h h'
  | .skip, env, h, x, env', h', he => by simp [exec] at he; rw [he.2.2]; exact HStep.refl _
  | .label, env, h, x, env', h', he => by simp [exec] at he; rw [he.2.2]; exact HStep.refl _
  | .exit _, env, h, x, env', h', he => by simp [exec] at he; rw [he.2.2]; exact HStep.refl _
  | .goto _, env, h, x, env', h', he => by simp [exec] at he; rw [he.2.2]; exact HStep.refl _
  | .ret rs, env, h, x, env', h', he => by
    simp only [exec] at he
    split at he
    · simp only [Option.some.injEq, Prod.mk.injEq] at he; rw [he.2.2]; exact HStep.refl _
    · cases he
  | .ops l, env, h, x, env', h', he => by
    simp only [exec] at he
    split at he
    · rename_i h1
      simp only [Option.some.injEq, Prod.mk.injEq] at he
      obtain ⟨_, _, rfl⟩ := he
      exact execOps_heap hC _ _ _ _ _ h1
    · cases he
  | .seq a b, env, h, x, env', h', he => by
    simp only [exec] at he
    split at he
    · rename_i h1
      exact (exec_heap hC a _ _ _ _ _ h1).trans (exec_heap hC b _ _ _ _ _ he)
    · exact exec_heap hC a _ _ _ _ _ he
  | .cond keep c a b, env, h, x, env', h', he => by
    simp only [exec] at he
    split at he
    · rename_i t _
      obtain ⟨vs, he1, _⟩ := expaR_some he
      obtain ⟨env1, he2, _⟩ := projR_some he1
      cases t with
      | true => exact exec_heap hC a _ _ _ _ _ he2
      | false => exact exec_heap hC b _ _ _ _ _ he2
    · cases he
  | .block keep id b, env, h, x, env', h', he => by
    simp only [exec] at he
    obtain ⟨vs, he1, _⟩ := expaR_some he
    cases hr : projR keep (exec C k n b env h) with
    | none => rw [hr] at he1; cases he1
    | some r =>
      obtain ⟨x1, vs1, h1⟩ := r
      obtain ⟨env1, he2, _⟩ := projR_some hr
      rw [hr] at he1
      have h2 := exec_heap hC b _ _ _ _ _ he2
      have : h1 = h' := by
        unfold outBlock at he1
        split at he1
        · rename_i heq
          simp only [Option.some.injEq, Prod.mk.injEq] at heq
          obtain ⟨_, _, rfl⟩ := heq
          split at he1 <;> (simp only [Option.some.injEq, Prod.mk.injEq] at he1; exact he1.2.2)
        · simp only [Option.some.injEq, Prod.mk.injEq] at he1; exact he1.2.2
      rw [← this]; exact h2
  | .loop keep b, env, h, x, env', h', he => by
    simp only [exec] at he
    obtain ⟨vs, he1, _⟩ := expaR_some he
    refine loopN_heap (fun vs h x vs' h' hf => ?_) k _ _ _ _ _ he1
    obtain ⟨env1, he2, _⟩ := projR_some hf
    exact exec_heap hC b _ _ _ _ _ he2
  | .scope keep b la ra lb rb, env, h, x, env', h', he => by
    simp only [exec] at he
    cases hr : projR keep (exec C k n b env h) with
    | none => rw [hr] at he; cases he
    | some r =>
      obtain ⟨x1, vs1, h1⟩ := r
      obtain ⟨env1, he2, _⟩ := projR_some hr
      rw [hr] at he
      have h2 := exec_heap hC b _ _ _ _ _ he2
      cases x1 with
      | goto l =>
        simp only at he
        obtain ⟨vs, he3, _⟩ := expaR_some he
        refine h2.trans (jumpN_heap (fun l vs h x vs' h' hf => ?_) k _ _ _ _ _ _ he3)
        by_cases hA : l = la
        · subst hA
          simp only [if_true, Option.some.injEq] at hf
          obtain ⟨env1, he2, _⟩ := projR_some hf
          exact exec_heap hC ra _ _ _ _ _ he2
        · by_cases hB : l = lb
          · subst hB
            simp only [hA, if_false, if_true, Option.some.injEq] at hf
            obtain ⟨env1, he2, _⟩ := projR_some hf
            exact exec_heap hC rb _ _ _ _ _ he2
          · simp only [hA, hB, if_false] at hf; cases hf
      | _ => simp only [expaR, Option.some.injEq, Prod.mk.injEq] at he; obtain ⟨_, _, rfl⟩ := he; exact h2

theorem finish_some {rs : List GR} {r : GRes} {v : Value} {h : Heap} (hf : finish rs r = some (v, h)) : (∃ env, r = some (.ret v, env, h)) ∨ ∃ env, r = some (.nrm, env, h) ∧ resV env h rs = some v := by
  cases r with
  | none => cases hf
  | some r =>
    obtain ⟨x, env, h1⟩ := r
    cases x with
    | ret u => simp [finish] at hf; obtain ⟨rfl, rfl⟩ := hf; exact .inl ⟨env, rfl⟩
    | nrm =>
      simp only [finish] at hf
      split at hf
      · rename_i u hu
        simp only [Option.some.injEq, Prod.mk.injEq] at hf
        obtain ⟨rfl, rfl⟩ := hf
        exact .inr ⟨env, rfl, hu⟩
      · cases hf
    | ex i => simp [finish] at hf
    | goto l => simp [finish] at hf

/-! ### What leads to no new block -/

theorem below1_VR {ρ ρ' : Ren} {n : Nat} (hr : ∀ b i, b < n → ρ' b = some i → ρ b = some i) {v v' : Value} (hb : below1 n v = true) (h : VR ρ' v v') : VR ρ v v' := by
  cases h with
  | bot => simp [below1, scal1] at hb
  | skp => simp [below1, scal1] at hb
  | bool b => exact .bool b
  | int k n => exact .int k n
  | string s => exact .string s
  | nilIface => exact .nilIface
  | nilFunc => exact .nilFunc
  | ptrN => exact .ptrN
  | ptr h hs => exact .ptr (hr _ _ (by simpa [below1] using hb) h) hs
  | slN => exact .slN
  | sl h hs h1 h3 => exact .sl (hr _ _ (by simpa [below1] using hb) h) hs h1 h3
  | slU h hs h3 h4 => exact .slU (hr _ _ (by simpa [below1] using hb) h) hs h3 h4
  | slE a a' c => exact .slE a a' c
  | mapN => exact .mapN
  | map h => exact .map (hr _ _ (by simpa [below1] using hb) h)
  | func => simp [below1, scal1] at hb
  | iface => simp [below1, scal1] at hb
  | agg => simp [below1, scal1] at hb
  | tup => simp [below1, scal1] at hb
theorem below1_VRs {ρ ρ' : Ren} {n : Nat} (hr : ∀ b i, b < n → ρ' b = some i → ρ b = some i) : ∀ {l l' : List Value}, l.all (below1 n) = true → VRs ρ' l l' → VRs ρ l l'
  | [], _, _, .nil => .nil
  | v :: l, _, hb, .cons h t => by
    simp only [List.all_cons, Bool.and_eq_true] at hb
    exact .cons (below1_VR hr hb.1 h) (below1_VRs hr hb.2 t)
theorem below_VR {ρ ρ' : Ren} {n : Nat} (hr : ∀ b i, b < n → ρ' b = some i → ρ b = some i) {v v' : Value} (hb : below n v = true) (h : VR ρ' v v') : VR ρ v v' := by
  unfold below at hb
  split at hb
  · cases h with
    | bot => exact .bot _
    | skp => exact .skp
    | tup h2 h => exact .tup h2 (below1_VRs hr hb h)
  · cases h with
    | agg h => exact .agg (below1_VRs hr hb h)
  · exact below1_VR hr hb h

/-! ### Calls -/

/-- What a function that is not walked must be known to do. -/
def PrimOK (P : Program) (B : Nat) (f : FuncId) (p : List Value → Heap → Option (Value × Heap)) : Prop :=
  (∃ fn, P.funcs[f]? = some fn ∧ fn.name ≠ "runtime.NumGoroutine" ∧ fn.body.isSome = true) ∧
  ∀ args h v h', p args h = some (v, h') → HStep h h' ∧ ∀ ρ w args', Sim B ρ h w → VRs ρ args args' →
    Calls P f args'.toArray w fun e w' => ∃ ρ' v', e = .returned v' ∧ VR ρ' v v' ∧ Sim B ρ' h' w' ∧ Step B ρ h w ρ' h' w'

/-- The table is the program's. -/
def TableOK (P : Program) (B : Nat) (T : FuncId → Option Entry) : Prop :=
  ∀ f e, T f = some e → match e with
    | .code g => ∃ fn an, P.funcs[f]? = some fn ∧ elabF P fn an g.trim = some g
    | .prim p => PrimOK P B f p

theorem Step.unlow {ρ ρ' : Ren} {h h' : Heap} {w w' : World} (s : Sim B ρ h w) (t : Step B ρ (h.setLow h.size) w ρ' h' w') (hl : h.size ≤ h'.low) : Step B ρ h w ρ h w' where
  ext := Ren.le_refl _
  new := fun b i h1 h2 => by rw [h2] at h1; cases h1
  size := Nat.le_refl _
  wsize := t.wsize
  low := Nat.le_refl _
  nb := rfl
  io := t.io
  same := fun _ _ _ => rfl
  revive := fun _ _ h => h
  frame := fun c hc _ => t.frame c hc (.inr fun b i hb _ _ => Nat.lt_of_lt_of_le (s.dom hb) hl)
  fresh := fun b i h1 h2 => by rw [h2] at h1; cases h1

theorem runF_sound {C : Caller} {k : Nat} (hCH : CHeap C) (hC : CSound P B C) (hm : P.follows .mixedOrders = true) {f : FuncId} {fn : Func} {an : Ann} {g : GFunc} (hf : P.funcs[f]? = some fn) (hel : elabF P fn an g.trim = some g)
    {args : List Value} {h h' : Heap} {v : Value} (hr : runF C k g args h = some (v, h')) :
    (∃ fn, P.funcs[f]? = some fn ∧ fn.name ≠ "runtime.NumGoroutine" ∧ fn.body.isSome = true) ∧ HStep h h' ∧
    ∀ ρ w args', Sim B ρ h w → VRs ρ args args' → Calls P f args'.toArray w fun e w' => ∃ ρ' v', e = .returned v' ∧ VR ρ' v v' ∧ Sim B ρ' h' w' ∧ Step B ρ h w ρ' h' w' := by
  unfold elabF at hel
  split at hel
  · rename_i rs c hrs hbody
    split at hel
    · cases hel
    · rename_i hname
      split at hel
      · rename_i gc an' htop
        simp only [Option.some.injEq] at hel
        have hgn : g.n = fn.ntmps := by rw [← hel]
        have hgr : g.rs = rs := by rw [← hel]
        have hgb : g.body = gc := by rw [← hel]
        refine ⟨⟨fn, hf, hname, by simp [hbody]⟩, ?_⟩
        have hok : CodeOK P B fn C k c gc := elabTop_sound hCH hC hm hrs c an an' gc htop
        unfold runF at hr
        split at hr
        · rename_i hlen
          rw [hgn] at hlen
          -- the body
          have body : ∀ (h0 h1 : Heap) (u : Value), finish g.rs (exec C k g.n g.body (args ++ List.replicate (g.n - args.length) undef) h0) = some (u, h1) → HStep h0 h1 ∧
              ∀ ρ w args', Sim B ρ h0 w → VRs ρ args args' → Calls P f args'.toArray w fun e w' => ∃ ρ' v', e = .returned v' ∧ VR ρ' u v' ∧ Sim B ρ' h1 w' ∧ Step B ρ h0 w ρ' h1 w' := by
            intro h0 h1 u hfin
            rw [hgn, hgr, hgb] at hfin
            refine ⟨?_, fun ρ w args' s hargs => ?_⟩
            · rcases finish_some hfin with ⟨env, he⟩ | ⟨env, he, _⟩
              · exact exec_heap hCH _ _ _ _ _ _ he
              · exact exec_heap hCH _ _ _ _ _ _ he
            · have hal := hargs.length
              have hsz : (args'.toArray ++ Array.replicate (fn.ntmps - args'.toArray.size) undef).size = fn.ntmps := by simp; omega
              have hE : EnvR ρ (args ++ List.replicate (fn.ntmps - args.length) undef) (args'.toArray ++ Array.replicate (fn.ntmps - args'.toArray.size) undef) := by
                refine ⟨by rw [hsz]; simp; omega, fun i => ?_⟩
                by_cases hi : i < args.length
                · have e1 : (args ++ List.replicate (fn.ntmps - args.length) undef).getD i undef = args[i] := by
                    rw [List.getD, List.getElem?_append_left hi]; simp [hi]
                  obtain ⟨v', hv', hvr⟩ := hargs.get i args[i] (by simp [hi])
                  have e2 : (args'.toArray ++ Array.replicate (fn.ntmps - args'.toArray.size) undef).getD i undef = v' := by
                    rw [Array.getD_eq_getD_getElem?, Array.getElem?_append_left (by simp; omega)]
                    simp [hv']
                  rw [e1, e2]; exact hvr
                · have e1 : (args ++ List.replicate (fn.ntmps - args.length) undef).getD i undef = undef := by
                    rw [List.getD, List.getElem?_append_right (by omega)]
                    by_cases h2 : i - args.length < fn.ntmps - args.length
                    · simp [h2]
                    · rw [List.getElem?_eq_none (by simp; omega)]; rfl
                  rw [e1]; exact .bot _
              refine calls_of_wp hf hbody ?_
              rcases finish_some hfin with ⟨env, he⟩ | ⟨env, he, hv⟩
              · refine hok _ _ _ _ _ he ρ w _ _ s hE hsz rfl fun e a' w' hp => ?_
                obtain ⟨ρ', k1, k2, k3, k4, k5, k6⟩ := hp
                simp only [XR] at k6
                obtain ⟨rfl, v', h6, h7⟩ := k6
                exact ⟨k5, v', h6, ρ', v', rfl, h7, k1, k2⟩
              · refine hok _ _ _ _ _ he ρ w _ _ s hE hsz rfl fun e a' w' hp => ?_
                obtain ⟨ρ', k1, k2, k3, k4, k5, k6⟩ := hp
                simp only [XR] at k6
                subst k6
                obtain ⟨v', h6, h7⟩ := res_sound hrs k1 k3 hv
                exact ⟨k5, v', h6, ρ', v', rfl, h7, k1, k2⟩
          split at hr
          · split at hr
            · rename_i u h1 hfin
              split at hr
              · rename_i hcond
                simp only [Option.some.injEq, Prod.mk.injEq] at hr
                obtain ⟨rfl, rfl⟩ := hr
                refine ⟨HStep.refl _, fun ρ w args' s hargs => ?_⟩
                refine ((body _ _ _ hfin).2 ρ w args' (s.setLow _) hargs).mono fun e w' hh => ?_
                obtain ⟨ρ', v', rfl, k1, k2, k3⟩ := hh
                have hst := k3.unlow s hcond.1
                refine ⟨ρ, v', rfl, below_VR (fun b i hb hi => ?_) hcond.2 k1, s.still (fun c hc => k3.frame c hc (.inr fun b i hb _ _ => Nat.lt_of_lt_of_le (s.dom hb) hcond.1)) k3.wsize, hst⟩
                cases hb0 : ρ b with
                | some j => have := k3.ext b j hb0; rw [hi] at this; exact this.symm
                | none => have := k3.new b i hi hb0; simp only [Heap.size_setLow] at this; omega
              · cases hr
            · cases hr
          · exact body _ _ _ hr
        · cases hr
      · cases hel
  · cases hel

theorem call_sound {T : FuncId → Option Entry} (hT : TableOK P B T) (hm : P.follows .mixedOrders = true) : ∀ k, CHeap (call T k) ∧ CSound P B (call T k)
  | 0 => ⟨fun f args h v h' hc => (by cases hc), fun f args h v h' hc => (by cases hc)⟩
  | k + 1 => by
    obtain ⟨ih1, ih2⟩ := call_sound hT hm k
    have key : ∀ f args h v h', call T (k + 1) f args h = some (v, h') → (∃ fn, P.funcs[f]? = some fn ∧ fn.name ≠ "runtime.NumGoroutine" ∧ fn.body.isSome = true) ∧ HStep h h' ∧
        ∀ ρ w args', Sim B ρ h w → VRs ρ args args' → Calls P f args'.toArray w fun e w' => ∃ ρ' v', e = .returned v' ∧ VR ρ' v v' ∧ Sim B ρ' h' w' ∧ Step B ρ h w ρ' h' w' := by
      intro f args h v h' hc
      simp only [call] at hc
      split at hc
      · rename_i g hg
        obtain ⟨fn, an, h1, h2⟩ := hT f _ hg
        exact runF_sound ih1 ih2 hm h1 h2 hc
      · rename_i p hp
        obtain ⟨h1, h2⟩ := hT f _ hp
        obtain ⟨h3, h4⟩ := h2 args h v h' hc
        exact ⟨h1, h3, h4⟩
      · cases hc
    exact ⟨fun f args h v h' hc => (key f args h v h' hc).2.1, fun f args h v h' hc => ⟨(key f args h v h' hc).1, (key f args h v h' hc).2.2⟩⟩

def emptyHeap : Heap := { nb := 0, base := fun _ => none, n := 0, own := .leaf, low := 0 }

/-- A law of plain arguments. -/
theorem law_sound {T : FuncId → Option Entry} (hm : P.follows .mixedOrders = true) {W : World} (hT : TableOK P W.heap.size T) {k : Nat} {f : FuncId} {args args' : List Value} {h0 h' : Heap} {v : Value} {ρ : Ren} (hc : call T k f args h0 = some (v, h'))
    (s : Sim W.heap.size ρ h0 W) (hargs : VRs ρ args args') :
    Calls P f args'.toArray W fun e w' => ∃ ρ' v', e = .returned v' ∧ VR ρ' v v' ∧ (w'.os = W.os ∧ w'.output = W.output) ∧ W.heap.size ≤ w'.heap.size ∧ ∀ c, c < W.heap.size → w'.heap[c]? = W.heap[c]? :=
  ((((call_sound hT hm k).2 f args h0 v h' hc).2) ρ W args' s hargs).mono fun _ _ ⟨ρ', v', h1, h2, _, h4⟩ => ⟨ρ', v', h1, h2, h4.io, h4.wsize, fun c hc => h4.frame c hc (.inl hc)⟩
theorem emptySim (W : World) : Sim W.heap.size (fun _ => none) emptyHeap W :=
  ⟨fun b i h => (by cases h), fun b c i j h => (by cases h), fun b i h => (by cases h), Nat.le_refl _⟩
end Go.GS
