/- Regions: in the order of the text; in whatever order is drawn. -/
import Derived.Test.YtlodhfpkdlhmgaaGreatDoorGHeaps
namespace Go.GS
variable {P : Program} {B : Nat} {ρ : Ren} {h h' : Heap} {w : World}

theorem ownAt_setLow (h : Heap) (l b : Nat) : (h.setLow l).ownAt b ↔ h.ownAt b := Iff.rfl
theorem Sim.setLow (s : Sim B ρ h w) (l : Nat) : Sim B ρ (h.setLow l) w :=
  ⟨fun b i hb => s.blk b i hb, fun b c i j hb hc ho => s.inj b c i j hb hc ho, fun b i hb ho => s.above b i hb ho, s.bound⟩

/-- Nothing that was there is written on the machine. -/
def Still (ρ : Ren) (w : World) (ρ' : Ren) (w' : World) : Prop :=
  (∀ c, c < w.heap.size → w'.heap[c]? = w.heap[c]?) ∧ ∀ b i, ρ' b = some i → ρ b = none → w.heap.size ≤ i.blk

theorem quiet_wp {C : Caller} {o : Oper} {g : GOp} {a : Act} {env : List Value} {v : Value} {q : Bool} {K : Act → World → Prop} {Q : Exit → Act → World → Prop} (hC : CSound P B C) (he : elabOp P o = some g)
    (hr : quiet q (fun h => opE C env h g) h = some (v, h')) (s : Sim B ρ h w) (E : EnvR ρ env a.tmps)
    (hK : ∀ v' w' ρ', VR ρ' v v' → Sim B ρ' h' w' → Step B ρ h w ρ' h' w' → (q = true → Still ρ w ρ' w') → K (a.put o.dst v') w') : o.wp P a w K Q := by
  unfold quiet at hr
  cases q with
  | false =>
    simp only [Bool.false_eq_true, if_false] at hr
    exact op_wp hC he hr s E fun v' w' ρ' k1 k2 k3 => hK v' w' ρ' k1 k2 k3 (fun e => by cases e)
  | true =>
    simp only [if_true] at hr
    split at hr
    · rename_i u h1 ho
      split at hr
      · rename_i hl
        simp only [Option.some.injEq, Prod.mk.injEq] at hr
        obtain ⟨rfl, rfl⟩ := hr
        refine op_wp hC he ho (s.setLow h.size) E fun v' w' ρ' k1 k2 k3 => ?_
        have hget : ∀ b, b < h.size → (h1.setLow h.low).get b = h.get b := fun b hb => by
          rw [Heap.get_setLow, k3.same b hb (Nat.lt_of_lt_of_le hb hl), Heap.get_setLow]
        have hstill : Still ρ w ρ' w' := ⟨fun c hc => k3.frame c hc (.inr fun b i hb _ _ => Nat.lt_of_lt_of_le (s.dom hb) hl), fun b i hb hn => by
          rcases k3.fresh b i hb hn with hf | ⟨c, j, hc, _, hcl, _⟩
          · exact hf
          · have := s.dom hc; omega⟩
        refine hK v' w' ρ' k1 (k2.setLow _) ⟨k3.ext, k3.new, k3.size, k3.wsize, Nat.le_refl _, k3.nb, fun b hb _ => hget b hb, fun b hb ho => ?_, fun c hc _ => hstill.1 c hc, fun b i hb hn => .inl (hstill.2 b i hb hn), k3.io⟩ (fun _ => hstill)
        obtain ⟨x, hx, hxo⟩ := ho
        rw [hget b hb] at hx
        exact ⟨x, hx, hxo⟩
      · cases hr
    · cases hr

theorem guard_sound {ops : Array Oper} {o : Oper} {gd : Option (Nat × Bool)} {env : List Value} {tmps : Array Value} {b : Bool} (he : elabGuard ops.toList o.guard = some gd) (hg : guardE env gd = some b)
    (hv : ∀ t c, gd = some (t, c) → VR ρ (env.getD t undef) (tmps.getD t undef)) : Region.wanted o (yielded ops tmps) = b := by
  unfold Region.wanted
  cases hgo : o.guard with
  | none => simp [elabGuard, hgo] at he; subst he; simp [guardE] at hg; rw [← hg]
  | some jb =>
    obtain ⟨j, want⟩ := jb
    simp only [elabGuard, hgo] at he
    split at he
    · rename_i t ht
      simp only [Option.some.injEq] at he
      subst he
      have hv' := hv t want rfl
      simp only [guardE] at hg
      have hd : (ops[j]?).bind (fun x => x.dst) = (some t : Option Tmp) := by rw [← ht]; simp
      unfold yielded
      simp only [hd, Option.bind_some]
      generalize hu : env.getD t undef = u at hg hv'
      cases u with
      | bool c =>
        simp only [Option.some.injEq] at hg
        subst hg
        generalize hq : tmps.getD t undef = q at hv'
        cases hv'
        have : tmps[t]? = some (.bool c) := by
          rw [Array.getD_eq_getD_getElem?] at hq
          cases hx : tmps[t]? with
          | none => rw [hx] at hq; simp [undef] at hq
          | some x => rw [hx] at hq; simp at hq; rw [hq]
        simp only [this]
        cases c <;> cases want <;> rfl
      | tuple vs =>
        simp only at hg
        split at hg
        · rename_i hsz
          simp only [Option.some.injEq] at hg
          subst hg
          generalize hq : tmps.getD t undef = q at hv'
          have hq' : q = .tuple #[] := by
            cases hv' with
            | bot => simp at hsz
            | skp => rfl
            | tup h2 _ => omega
          subst hq'
          cases hx : tmps[t]? with
          | none => rfl
          | some x =>
            rw [Array.getD_eq_getD_getElem?, hx] at hq
            simp at hq
            subst hq
            rfl
        · cases hg
      | _ => simp at hg
    · cases he

theorem VR_SK (ρ : Ren) : VR ρ SK undef := .skp

/-- What is owed behind a piece of code that goes on. -/
def Onward (B : Nat) (ρ : Ren) (h : Heap) (w : World) (env' : List Value) (h' : Heap) (a' : Act) (w' : World) : Prop :=
  ∃ ρ', Sim B ρ' h' w' ∧ Step B ρ h w ρ' h' w' ∧ EnvR ρ' env' a'.tmps ∧ a'.defers = []

theorem mapO_spec {α β : Type} {f : α → Option β} : ∀ {l : List α} {r : List β}, mapO f l = some r → r.length = l.length ∧ ∀ (i : Nat) (a : α), l[i]? = some a → ∃ b, f a = some b ∧ r[i]? = some b
  | [], r, h => by simp [mapO] at h; subst h; exact ⟨rfl, fun i a h => by simp at h⟩
  | x :: l, r, h => by
    simp only [mapO] at h
    split at h
    · rename_i b bs hb hbs
      simp only [Option.some.injEq] at h
      subst h
      obtain ⟨h1, h2⟩ := mapO_spec hbs
      refine ⟨by simp [h1], fun i a hi => ?_⟩
      cases i with
      | zero => simp at hi; subst hi; exact ⟨b, hb, rfl⟩
      | succ i => obtain ⟨c, hc, hr⟩ := h2 i a (by simpa using hi); exact ⟨c, hc, by simpa using hr⟩
    · cases h

/-- An operation and what it became. -/
def Elabed (P : Program) (ops : Array Oper) (o : Oper) (g : GI) : Prop :=
  g.dst = o.dst ∧ elabOp P o = some g.op ∧ elabGuard ops.toList o.guard = some g.guard

theorem elabRaw_spec {ops : Array Oper} {gs : List GI} (h : elabRaw P ops.toList = some gs) : gs.length = ops.size ∧ ∀ (i : Nat) (o : Oper), ops[i]? = some o → ∃ g, gs[i]? = some g ∧ Elabed P ops o g ∧ g.q = false := by
  obtain ⟨h1, h2⟩ := mapO_spec h
  refine ⟨by simpa using h1, fun i o ho => ?_⟩
  obtain ⟨g, hg, hi⟩ := h2 i o (by simpa using ho)
  split at hg
  · rename_i g' gd h3 h4
    simp only [Option.some.injEq] at hg
    subst hg
    exact ⟨_, hi, ⟨rfl, h3, h4⟩, rfl⟩
  · cases hg

theorem seq_sound {C : Caller} (hC : CSound P B C) {ops : Array Oper} {Q : Exit → Act → World → Prop} (ρ0 : Ren) (h0 : Heap) (w0 : World) (s0 : Sim B ρ0 h0 w0) (env' : List Value) (h' : Heap)
    (hQ : ∀ a' w', Onward B ρ0 h0 w0 env' h' a' w' → Q .normal a' w') : ∀ (n k : Nat) (gs : List GI) (env : List Value) (h : Heap) (ρ : Ren) (a : Act) (w : World),
      (∀ j o, j < n → ops[k + j]? = some o → ∃ g, gs[j]? = some g ∧ Elabed P ops o g) → gs.length = n → k + n = ops.size → execOps C gs env h = some (env', h') →
      Sim B ρ h w → Step B ρ0 h0 w0 ρ h w → EnvR ρ env a.tmps → a.defers = [] → wpOps P ops Q (List.range' k n) a w
  | 0, k, gs, env, h, ρ, a, w, _, hl, _, he, s, t, E, hd => by
    have : gs = [] := List.length_eq_zero_iff.1 hl
    subst this
    simp only [execOps, Option.some.injEq, Prod.mk.injEq] at he
    obtain ⟨rfl, rfl⟩ := he
    exact hQ a w ⟨ρ, s, t, E, hd⟩
  | n + 1, k, gs, env, h, ρ, a, w, hgs, hl, hk, he, s, t, E, hd => by
    cases gs with
    | nil => simp at hl
    | cons g gs =>
      rw [List.range'_succ, wpOps_cons]
      have hko : ops[k]? = some ops[k] := by simp
      obtain ⟨g', hg', hel⟩ := hgs 0 ops[k] (by omega) (by simp)
      simp only [List.getElem?_cons_zero, Option.some.injEq] at hg'
      subst hg'
      generalize ops[k] = o at hko hel
      obtain ⟨hdst, hop, hgd⟩ := hel
      unfold wpOp
      rw [hko]
      simp only
      simp only [execOps] at he
      have hgs' : ∀ j o, j < n → ops[k + 1 + j]? = some o → ∃ g, gs[j]? = some g ∧ Elabed P ops o g := fun j o hj ho => by
        obtain ⟨g2, h1, h2⟩ := hgs (j + 1) o (by omega) (by rw [← ho]; congr 1; omega)
        exact ⟨g2, by simpa using h1, h2⟩
      split at he
      · cases he
      · rename_i hgf
        rw [guard_sound hgd hgf (fun t c _ => E.2 t)]
        simp only [Bool.false_eq_true, if_false]
        refine seq_sound hC ρ0 h0 w0 s0 env' h' hQ n (k + 1) gs _ h ρ _ w hgs' (by simpa using hl) (by omega) he s t ?_ (by rw [put_defers]; exact hd)
        rw [hdst]
        exact E.put (VR_SK ρ) _
      · rename_i hgt
        rw [guard_sound hgd hgt (fun t c _ => E.2 t)]
        simp only [if_true]
        split at he
        · rename_i v h1 hq
          refine .inl (quiet_wp hC hop hq s E fun v' w' ρ' k1 k2 k3 _ => ?_)
          refine seq_sound hC ρ0 h0 w0 s0 env' h' hQ n (k + 1) gs _ h1 ρ' _ w' hgs' (by simpa using hl) (by omega) he k2 (t.trans s0 k3) ?_ (by rw [put_defers]; exact hd)
          rw [hdst]
          exact (E.mono k3.ext).put k1 _
        · cases he

theorem region_seq {C : Caller} (hC : CSound P B C) {id : Nat} {ops : Array Oper} {gs : List GI} {Q : Exit → Act → World → Prop} {env env' : List Value} {a : Act} (hel : elabRaw P ops.toList = some gs) (he : execOps C gs env h = some (env', h'))
    (s : Sim B ρ h w) (E : EnvR ρ env a.tmps) (hd : a.defers = []) (hQ : ∀ a' w', Onward B ρ h w env' h' a' w' → Q .normal a' w') : (Code.region id ops false).wp P Q a w := by
  obtain ⟨h1, h2⟩ := elabRaw_spec hel
  refine wp_region ?_
  rw [List.range_eq_range']
  exact seq_sound hC ρ h w s env' h' hQ ops.size 0 gs env h ρ a w (fun j o _ ho => by
    rw [Nat.zero_add] at ho
    obtain ⟨g, k1, k2, _⟩ := h2 j o ho
    exact ⟨g, k1, k2⟩) h1 (by omega) he s (Step.refl _ _ _ _) E hd
end Go.GS
