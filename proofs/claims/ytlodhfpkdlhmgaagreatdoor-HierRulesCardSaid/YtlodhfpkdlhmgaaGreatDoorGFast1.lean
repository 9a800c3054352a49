/- A part of the proof by a deterministic interpreter of the loaded code (no condition of its own). -/
import Derived.Test.YtlodhfpkdlhmgaaGreatDoorGFast0
/- The interpreter made for the kernel: frames are lists of what was put last. -/
namespace Go.GS
abbrev AL := List (Nat × Value)
noncomputable def lookA (l : AL) (t : Nat) : Value :=
  List.rec (motive := fun _ => Value) undef (fun p _ ih => Bool.rec (motive := fun _ => Value) ih p.2 (Nat.beq p.1 t)) l
theorem lookA_cons (i : Nat) (v : Value) (l : AL) (t : Nat) : lookA ((i, v) :: l) t = if i = t then v else lookA l t := by
  show Bool.rec (motive := fun _ => Value) (lookA l t) v (Nat.beq i t) = _
  by_cases h : i = t
  · subst h; rw [Nat.beq_refl, if_pos rfl]
  · have : Nat.beq i t = false := by
      cases hb : Nat.beq i t with
      | false => rfl
      | true => exact absurd (Nat.eq_of_beq_eq_true hb) h
    rw [this, if_neg h]
noncomputable def evA (l : AL) : Operand → Value
  | .tmp t => lookA l t
  | .const v => v
  | .global g => .pointer (some ⟨g, 0, none⟩)
  | .func f => .func (.func f) #[] #[]
noncomputable def putA (N : Nat) (l : AL) (d : Nat) (v : Value) : AL := Bool.rec (motive := fun _ => AL) l ((d, v) :: l) (Nat.blt d N)
structure RA (N : Nat) (l : AL) (env : List Value) : Prop where
  len : env.length = N
  look : ∀ t, lookA l t = env.getD t undef
theorem RA.fn {N : Nat} {l : AL} {env : List Value} (r : RA N l env) : lookA l = fun t => env.getD t undef := funext r.look
theorem RA.ev {N : Nat} {l : AL} {env : List Value} (r : RA N l env) : evA l = Go.GS.ev env := by
  funext x; cases x <;> simp [evA, Go.GS.ev, r.look]
theorem RA.put {N : Nat} {l : AL} {env : List Value} (r : RA N l env) (d : Nat) (v : Value) : RA N (putA N l d v) (env.set d v) := by
  refine ⟨by simp [r.len], fun t => ?_⟩
  unfold putA
  cases hb : Nat.blt d N with
  | false =>
    have : ¬ d < N := fun h => by
      have : Nat.blt d N = true := by simpa [Nat.blt_eq] using h
      rw [hb] at this; cases this
    rw [List.set_eq_of_length_le (by rw [r.len]; omega)]
    exact r.look t
  | true =>
    have hd : d < N := by simpa [Nat.blt_eq] using hb
    show lookA ((d, v) :: l) t = _
    rw [lookA_cons, r.look, List.getD_eq_getElem?_getD, List.getD_eq_getElem?_getD, List.getElem?_set]
    by_cases h : d = t
    · subst h; simp [r.len, hd]
    · simp [h]
noncomputable def putEA (N : Nat) (l : AL) : Option Nat → Value → AL
  | some d, v => putA N l d v
  | none, _ => l
theorem RA.putE {N : Nat} {l : AL} {env : List Value} (r : RA N l env) (d : Option Nat) (v : Value) : RA N (putEA N l d v) (Go.GS.putE env d v) := by
  cases d with
  | none => exact r
  | some d => exact r.put d v
def guardV (b : Bool) : Value → Option Bool
  | .bool c => some (c == b)
  | .tuple vs => if vs.size = 1 then some false else none
  | _ => none
noncomputable def guardA (l : AL) : Option (Nat × Bool) → Option Bool
  | none => some true
  | some (t, b) => guardV b (lookA l t)
theorem RA.guard {N : Nat} {l : AL} {env : List Value} (r : RA N l env) (g : Option (Nat × Bool)) : guardA l g = guardE env g := by
  cases g with
  | none => rfl
  | some g => obtain ⟨t, b⟩ := g; show guardV b (lookA l t) = _; rw [r.look]; rfl

def CLe (C D : Caller) : Prop := ∀ f args h r, C f args h = some r → D f args h = some r
theorem opX_mono {C D : Caller} (hCD : CLe C D) {e : Operand → Value} {h : Heap} {g : GOp} {r : Value × Heap} (hr : opX C e h g = some r) : opX D e h g = some r := by
  cases g
  case call f args => exact hCD _ _ _ _ hr
  case callv f args =>
    revert hr
    show x_callv C e h f args = some r → x_callv D e h f args = some r
    unfold x_callv
    split
    · exact hCD _ _ _ _
    · exact id
  all_goals exact hr

noncomputable def nextK (N : Nat) (d : Option Nat) (ih : AL → Heap → Option (AL × Heap)) (al : AL) : Option (Value × Heap) → Option (AL × Heap)
  | some (v, h) => ih (putEA N al d v) h
  | none => none
noncomputable def stepK (C : Caller) (N : Nat) (i : GI) (ih : AL → Heap → Option (AL × Heap)) (al : AL) (h : Heap) : Option Bool → Option (AL × Heap)
  | none => none
  | some false => ih (putEA N al i.dst SK) h
  | some true => nextK N i.dst ih al (quiet i.q (fun h => opX C (evA al) h i.op) h)
noncomputable def execOpsF (C : Caller) (N : Nat) (l : List GI) : AL → Heap → Option (AL × Heap) :=
  List.rec (motive := fun _ => AL → Heap → Option (AL × Heap)) (fun al h => some (al, h)) (fun i _ ih al h => stepK C N i ih al h (guardA al i.guard)) l

theorem quiet_mono {q : Bool} {m m' : Heap → Option (Value × Heap)} (hm : ∀ h r, m h = some r → m' h = some r) {h : Heap} {r : Value × Heap} (hr : quiet q m h = some r) : quiet q m' h = some r := by
  unfold quiet at hr ⊢
  cases q with
  | false => exact hm _ _ hr
  | true =>
    simp only [if_true] at hr ⊢
    cases hx : m (h.setLow h.size) with
    | none => rw [hx] at hr; cases hr
    | some x => rw [hx] at hr; rw [hm _ _ hx]; exact hr

theorem execOpsF_le {C D : Caller} (hCD : CLe C D) {N : Nat} : ∀ (l : List GI) (al : AL) (env : List Value) (h : Heap) (al' : AL) (h' : Heap), RA N al env → execOpsF C N l al h = some (al', h') →
    ∃ env', execOps D l env h = some (env', h') ∧ RA N al' env'
  | [], al, env, h, al', h', r, hx => by
    have : (al, h) = (al', h') := Option.some.inj hx
    cases this
    exact ⟨env, rfl, r⟩
  | i :: l, al, env, h, al', h', r, hx => by
    have hx : stepK C N i (execOpsF C N l) al h (guardA al i.guard) = some (al', h') := hx
    rw [r.guard] at hx
    unfold execOps
    cases hg : guardE env i.guard with
    | none => rw [hg] at hx; cases hx
    | some b =>
      rw [hg] at hx
      cases b with
      | false => exact execOpsF_le hCD l _ _ _ _ _ (r.putE i.dst SK) hx
      | true =>
        have hx : nextK N i.dst (execOpsF C N l) al (quiet i.q (fun h => opX C (evA al) h i.op) h) = some (al', h') := hx
        cases hq : quiet i.q (fun h => opX C (evA al) h i.op) h with
        | none => rw [hq] at hx; cases hx
        | some p =>
          obtain ⟨v, h1⟩ := p
          rw [hq] at hx
          have hq2 : quiet i.q (fun h => opE D env h i.op) h = some (v, h1) := by
            refine quiet_mono (fun h r1 hr => ?_) hq
            have := opX_mono hCD hr
            rw [r.ev, opX_eq] at this
            exact this
          simp only [hq2]
          exact execOpsF_le hCD l _ _ _ _ _ (r.putE i.dst v) hx
end Go.GS
