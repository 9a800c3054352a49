/- A part of the proof by a deterministic interpreter of the loaded code (no condition of its own). -/
import Derived.Test.YtlodhfpkdlhmgaaGreatDoorGFast2
namespace Go.GS
theorem execF_le {C D : Caller} (hCD : CLe C D) {k N : Nat} : ∀ (g : GCode) (al : AL) (env : List Value) (h : Heap), RA N al env → FLe N (execF C k N g al h) (exec D k N g env h)
  | .skip, al, env, h, r => fun _ _ _ hx => by
    have hx : some (GX.nrm, al, h) = some _ := hx
    cases hx; exact ⟨env, rfl, r⟩
  | .label, al, env, h, r => fun _ _ _ hx => by
    have hx : some (GX.nrm, al, h) = some _ := hx
    cases hx; exact ⟨env, rfl, r⟩
  | .ops l, al, env, h, r => fun g al' h' hx => by
    have hx : opsF (execOpsF C N l al h) = some (g, al', h') := hx
    cases ho : execOpsF C N l al h with
    | none => rw [ho] at hx; cases hx
    | some p =>
      obtain ⟨al1, h1⟩ := p
      rw [ho] at hx
      cases hx
      obtain ⟨env', e1, e2⟩ := execOpsF_le hCD l al env h _ _ r ho
      exact ⟨env', by simp only [exec, e1], e2⟩
  | .seq a b, al, env, h, r => fun g al' h' hx => by
    have hx : seqF (execF C k N b) (execF C k N a al h) = some (g, al', h') := hx
    cases ha : execF C k N a al h with
    | none => rw [ha] at hx; cases hx
    | some p =>
      obtain ⟨g1, al1, h1⟩ := p
      obtain ⟨env1, e1, e2⟩ := execF_le hCD a al env h r _ _ _ ha
      rw [ha] at hx
      simp only [exec, e1]
      cases g1 with
      | nrm => exact execF_le hCD b al1 env1 h1 e2 _ _ _ hx
      | ex i => cases hx; exact ⟨env1, rfl, e2⟩
      | goto l => cases hx; exact ⟨env1, rfl, e2⟩
      | ret v => cases hx; exact ⟨env1, rfl, e2⟩
  | .cond keep c a b, al, env, h, r => fun g al' h' hx => by
    have hx : condF keep (execF C k N a) (execF C k N b) al h (evA al c) = some (g, al', h') := hx
    rw [r.ev] at hx
    unfold exec
    cases hc : ev env c with
    | bool t =>
      rw [hc] at hx
      have hx : Bool.rec (motive := fun _ => FRes) none (keepF keep (Bool.rec (motive := fun _ => FRes) (execF C k N b al h) (execF C k N a al h) t)) (sortB keep 0) = some (g, al', h') := hx
      cases hs : sortB keep 0 with
      | false => rw [hs] at hx; cases hx
      | true =>
        rw [hs] at hx
        cases t with
        | true => exact ((execF_le hCD a al env h r).keepF hs).expa _ _ _ hx
        | false => exact ((execF_le hCD b al env h r).keepF hs).expa _ _ _ hx
    | _ => rw [hc] at hx; cases hx
  | .block keep id b, al, env, h, r => fun g al' h' hx => by
    have hx : Bool.rec (motive := fun _ => FRes) none (outF id (keepF keep (execF C k N b al h))) (sortB keep 0) = some (g, al', h') := hx
    unfold exec
    cases hs : sortB keep 0 with
    | false => rw [hs] at hx; cases hx
    | true =>
      rw [hs] at hx
      exact (((execF_le hCD b al env h r).keepF hs).out id).expa _ _ _ hx
  | .loop keep b, al, env, h, r => fun g al' h' hx => by
    have hx : Bool.rec (motive := fun _ => FRes) none (loopF (fun al h => keepF keep (execF C k N b al h)) k (keepA keep al) h) (sortB keep 0) = some (g, al', h') := hx
    unfold exec
    cases hs : sortB keep 0 with
    | false => rw [hs] at hx; cases hx
    | true =>
      rw [hs] at hx
      exact (loopF_le (fun al vs h r => (execF_le hCD b al _ h r).keepF hs) k _ _ h (r.keep hs)).expa _ _ _ hx
  | .exit id, al, env, h, r => fun _ _ _ hx => by
    have hx : some (GX.ex id, al, h) = some _ := hx
    cases hx; exact ⟨env, rfl, r⟩
  | .goto l, al, env, h, r => fun _ _ _ hx => by
    have hx : some (GX.goto l, al, h) = some _ := hx
    cases hx; exact ⟨env, rfl, r⟩
  | .ret rs, al, env, h, r => fun g al' h' hx => by
    have hx : retF al h (resVX (lookA al) h rs) = some (g, al', h') := hx
    rw [r.fn, resVX_eq] at hx
    unfold exec
    cases hv : resV env h rs with
    | none => rw [hv] at hx; cases hx
    | some v => rw [hv] at hx; cases hx; exact ⟨env, rfl, r⟩
  | .scope keep b la ra lb rb, al, env, h, r => fun g al' h' hx => by
    have hx : Bool.rec (motive := fun _ => FRes) none (scopeF k keep la (execF C k N ra) lb (execF C k N rb) (keepF keep (execF C k N b al h))) (sortB keep 0) = some (g, al', h') := hx
    unfold exec
    cases hs : sortB keep 0 with
    | false => rw [hs] at hx; cases hx
    | true =>
      rw [hs] at hx
      have hb := (execF_le (k := k) hCD b al env h r).keepF hs
      cases hf : keepF keep (execF C k N b al h) with
      | none => rw [hf] at hx; cases hx
      | some p =>
        obtain ⟨g1, al1, h1⟩ := p
        obtain ⟨vs, e1, e2⟩ := hb _ _ _ hf
        rw [hf] at hx
        rw [e1]
        cases g1 with
        | nrm => cases hx; exact ⟨_, rfl, e2⟩
        | ex i => cases hx; exact ⟨_, rfl, e2⟩
        | ret v => cases hx; exact ⟨_, rfl, e2⟩
        | goto l =>
          have hx : jumpF keep la (execF C k N ra) lb (execF C k N rb) k l al1 h1 = some (g, al', h') := hx
          have jump : ∀ (j l : Nat) (al : AL) (vs : List Value) (h : Heap), RA N al (expa N 0 keep vs) → FLeK N keep (jumpF keep la (execF C k N ra) lb (execF C k N rb) j l al h)
              (jumpN j (fun l vs h => if l = la then some (projR keep (exec D k N ra (expa N 0 keep vs) h)) else if l = lb then some (projR keep (exec D k N rb (expa N 0 keep vs) h)) else none) l vs h) := by
            intro j
            induction j with
            | zero => intro l al vs h r g al' h' hx; cases hx
            | succ j ih =>
              intro l al vs h r g al' h' hx
              have hx : jumpS (jumpF keep la (execF C k N ra) lb (execF C k N rb) j) (if l = la then keepF keep (execF C k N ra al h) else if l = lb then keepF keep (execF C k N rb al h) else none) = some (g, al', h') := hx
              have fin : ∀ (x : FRes) (y : GRes), FLeK N keep x y → jumpS (jumpF keep la (execF C k N ra) lb (execF C k N rb) j) x = some (g, al', h') →
                  ∃ vs, (match some y with
                    | none => none
                    | some none => none
                    | some (some (.goto l, vs, h)) => jumpN j (fun l vs h => if l = la then some (projR keep (exec D k N ra (expa N 0 keep vs) h)) else if l = lb then some (projR keep (exec D k N rb (expa N 0 keep vs) h)) else none) l vs h
                    | some (some r) => some r : GRes) = some (g, vs, h') ∧ RA N al' (expa N 0 keep vs) := by
                intro x y hxy hx
                cases x with
                | none => cases hx
                | some p =>
                  obtain ⟨g1, al1, h1⟩ := p
                  obtain ⟨vs1, e1, e2⟩ := hxy _ _ _ rfl
                  subst e1
                  cases g1 with
                  | goto l => exact ih l al1 vs1 h1 e2 _ _ _ hx
                  | nrm => cases hx; exact ⟨vs1, rfl, e2⟩
                  | ex i => cases hx; exact ⟨vs1, rfl, e2⟩
                  | ret v => cases hx; exact ⟨vs1, rfl, e2⟩
              unfold jumpN
              by_cases h1 : l = la
              · simp only [h1, if_true] at hx ⊢
                exact fin _ _ ((execF_le hCD ra al _ h r).keepF hs) hx
              · by_cases h2 : l = lb
                · simp only [h1, h2, if_true, if_false] at hx ⊢
                  by_cases h3 : lb = la
                  · exact absurd (h2.trans h3) h1
                  · simp only [h3, if_false] at hx ⊢
                    exact fin _ _ ((execF_le hCD rb al _ h r).keepF hs) hx
                · simp only [h1, h2, if_false] at hx
                  cases hx
          exact (jump k l al1 vs h1 e2).expa _ _ _ hx

noncomputable def argsA (i : Nat) (args : List Value) : AL := List.rec (motive := fun _ => Nat → AL) (fun _ => []) (fun v _ ih i => (i, v) :: ih (i + 1)) args i
theorem lookA_args : ∀ (args : List Value) (i t : Nat), lookA (argsA i args) t = if i ≤ t then args.getD (t - i) undef else undef
  | [], i, t => by show undef = _; simp
  | v :: args, i, t => by
    show lookA ((i, v) :: argsA (i + 1) args) t = _
    rw [lookA_cons, lookA_args args]
    by_cases h : i = t
    · subst h; simp
    · by_cases h2 : i ≤ t
      · have h3 : i + 1 ≤ t := by omega
        have h4 : t - i = (t - (i + 1)) + 1 := by omega
        rw [h4]; simp [h, h2, h3]
      · have h3 : ¬ i + 1 ≤ t := by omega
        simp [h, h2, h3]
theorem RA.args (args : List Value) (n : Nat) (h : args.length ≤ n) : RA n (argsA 0 args) (args ++ List.replicate (n - args.length) undef) := by
  refine ⟨by simp; omega, fun t => ?_⟩
  rw [lookA_args]
  simp only [Nat.zero_le, if_true, Nat.sub_zero, List.getD_eq_getElem?_getD]
  by_cases ht : t < args.length
  · rw [List.getElem?_append_left ht]
  · rw [List.getElem?_append_right (by omega), List.getElem?_eq_none (by omega), List.getElem?_replicate]
    split <;> rfl
noncomputable def finF (rs : List GR) : FRes → Option (Value × Heap)
  | some (.ret v, _, h) => some (v, h)
  | some (.nrm, al, h) => (resVX (lookA al) h rs).map fun v => (v, h)
  | _ => none
theorem finF_le {N : Nat} {x : FRes} {y : GRes} (hl : FLe N x y) {rs : List GR} {r : Value × Heap} (hx : finF rs x = some r) : finish rs y = some r := by
  cases x with
  | none => cases hx
  | some p =>
    obtain ⟨g1, al1, h1⟩ := p
    obtain ⟨env, e1, e2⟩ := hl _ _ _ rfl
    rw [e1]
    cases g1 with
    | ret v => exact hx
    | nrm =>
      have hx : (resVX (lookA al1) h1 rs).map (fun v => (v, h1)) = some r := hx
      rw [e2.fn, resVX_eq] at hx
      unfold finish
      cases hv : resV env h1 rs with
      | none => rw [hv] at hx; cases hx
      | some v => rw [hv] at hx; simp only [hv]; exact hx
    | ex i => cases hx
    | goto l => cases hx
noncomputable def trimF (h : Heap) : Option (Value × Heap) → Option (Value × Heap)
  | some (v, h') => if h.size ≤ h'.low ∧ below h.size v = true then some (v, h) else none
  | none => none
noncomputable def runFF (C : Caller) (k : Nat) (g : GFunc) (args : List Value) (h : Heap) : Option (Value × Heap) :=
  if args.length ≤ g.n then
    Bool.rec (motive := fun _ => Option (Value × Heap)) (finF g.rs (execF C k g.n g.body (argsA 0 args) h))
      (trimF h (finF g.rs (execF C k g.n g.body (argsA 0 args) (h.setLow h.size)))) g.trim
  else none
theorem runFF_le {C D : Caller} (hCD : CLe C D) {k : Nat} {g : GFunc} {args : List Value} {h : Heap} {r : Value × Heap} (hx : runFF C k g args h = some r) : runF D k g args h = some r := by
  unfold runFF at hx
  unfold runF
  by_cases hn : args.length ≤ g.n
  · rw [if_pos hn] at hx ⊢
    have ra := RA.args args g.n hn
    cases ht : g.trim with
    | false =>
      rw [ht] at hx
      exact finF_le (execF_le hCD g.body _ _ _ ra) hx
    | true =>
      rw [ht] at hx
      have hx : trimF h (finF g.rs (execF C k g.n g.body (argsA 0 args) (h.setLow h.size))) = some r := hx
      cases hf : finF g.rs (execF C k g.n g.body (argsA 0 args) (h.setLow h.size)) with
      | none => rw [hf] at hx; cases hx
      | some p =>
        rw [hf] at hx
        rw [finF_le (execF_le hCD g.body _ _ _ ra) hf]
        exact hx
  · rw [if_neg hn] at hx; cases hx
noncomputable def entF (C : Caller) (k : Nat) (args : List Value) (h : Heap) : Option Entry → Option (Value × Heap)
  | some (.code g) => runFF C k g args h
  | some (.prim p) => p args h
  | none => none
noncomputable def callF (T : FuncId → Option Entry) (k : Nat) : Caller :=
  Nat.rec (motive := fun _ => Caller) (fun _ _ _ => none) (fun k ih f args h => entF ih k args h (T f)) k
theorem callF_le (T : FuncId → Option Entry) : ∀ k, CLe (callF T k) (call T k)
  | 0 => fun _ _ _ _ hx => by cases hx
  | k + 1 => fun f args h r hx => by
    have hx : entF (callF T k) k args h (T f) = some r := hx
    unfold call
    cases ht : T f with
    | none => rw [ht] at hx; cases hx
    | some e =>
      rw [ht] at hx
      cases e with
      | code g => exact runFF_le (callF_le T k) hx
      | prim p => exact hx
end Go.GS
