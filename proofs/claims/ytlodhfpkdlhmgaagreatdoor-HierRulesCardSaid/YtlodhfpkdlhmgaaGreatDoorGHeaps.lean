/- G by itself: what an operation reads; how heaps go on. -/
import Derived.Test.YtlodhfpkdlhmgaaGreatDoorGOpSound
namespace Go.GS

theorem map_congr_opds {α : Type} {f g : Operand → α} {l : List Operand} (h : ∀ x ∈ l, f x = g x) : l.map f = l.map g := List.map_congr_left h

theorem opE_congr {C : Caller} {env env' : List Value} {h : Heap} {g : GOp} (he : ∀ x ∈ g.opds, ev env x = ev env' x) : opE C env h g = opE C env' h g := by
  cases g with
  | build z ps =>
    have : ps.map (fun (o, n, x) => (o, n, ev env x)) = ps.map (fun (o, n, x) => (o, n, ev env' x)) := List.map_congr_left fun p hp => by
      obtain ⟨o, n, x⟩ := p
      simp only
      rw [he x (by simp only [GOp.opds, List.mem_map]; exact ⟨_, hp, rfl⟩)]
    simp only [opE, this]
  | bslice l e z ps =>
    have : ps.map (fun (o, n, x) => (o, n, ev env x)) = ps.map (fun (o, n, x) => (o, n, ev env' x)) := List.map_congr_left fun p hp => by
      obtain ⟨o, n, x⟩ := p
      simp only
      rw [he x (by simp only [GOp.opds, List.mem_map]; exact ⟨_, hp, rfl⟩)]
    simp only [opE, this]
  | mkf fn a b =>
    have h1 : a.map (ev env) = a.map (ev env') := List.map_congr_left fun x hx => he x (by simp [GOp.opds, hx])
    have h2 : b.map (ev env) = b.map (ev env') := List.map_congr_left fun x hx => he x (by simp [GOp.opds, hx])
    simp only [opE, h1, h2]
  | slS x lo hi =>
    have h0 := he x (by simp [GOp.opds])
    have h1 : lo.map (ev env) = lo.map (ev env') := by cases lo with | none => rfl | some y => simp [he y (by simp [GOp.opds])]
    have h2 : hi.map (ev env) = hi.map (ev env') := by cases hi with | none => rfl | some y => simp [he y (by simp [GOp.opds])]
    simp only [opE, h0, h1, h2]
  | slL n x lo hi mx =>
    have h0 := he x (by simp [GOp.opds])
    have h1 : lo.map (ev env) = lo.map (ev env') := by cases lo with | none => rfl | some y => simp [he y (by simp [GOp.opds])]
    have h2 : hi.map (ev env) = hi.map (ev env') := by cases hi with | none => rfl | some y => simp [he y (by simp [GOp.opds])]
    have h3 : mx.map (ev env) = mx.map (ev env') := by cases mx with | none => rfl | some y => simp [he y (by simp [GOp.opds])]
    simp only [opE, h0, h1, h2, h3]
  | call f l =>
    have h1 : l.map (ev env) = l.map (ev env') := List.map_congr_left fun x hx => he x (by simp [GOp.opds, hx])
    simp only [opE, h1]
  | callv f l =>
    have h0 := he f (by simp [GOp.opds])
    have h1 : l.map (ev env) = l.map (ev env') := List.map_congr_left fun x hx => he x (by simp [GOp.opds, hx])
    simp only [opE, h0, h1]
  | _ => simp only [GOp.opds, List.mem_cons, List.not_mem_nil, or_false, forall_eq_or_imp, forall_eq] at he <;> simp only [opE, he]

/-- An operation that does not look at memory. -/
theorem opE_nonhp {C : Caller} {env : List Value} {h h' : Heap} {g : GOp} {v : Value} (hn : g.hp = false) (hr : opE C env h g = some (v, h')) : h' = h ∧ ∀ h2, opE C env h2 g = some (v, h2) := by
  have p1 : ∀ {x : Option Value} {h h' : Heap}, pure1 x h = some (v, h') → h' = h ∧ ∀ h2, pure1 x h2 = some (v, h2) := fun hr => by
    obtain ⟨hc, rfl⟩ := pure1_inv hr
    exact ⟨rfl, fun h2 => by simp [hc, pure1]⟩
  have p2 : ∀ {x : Value} {h h' : Heap}, some (x, h) = some (v, h') → h' = h ∧ ∀ h2 : Heap, some (x, h2) = some (v, h2) := fun hr => by
    simp only [Option.some.injEq, Prod.mk.injEq] at hr
    obtain ⟨rfl, rfl⟩ := hr
    exact ⟨rfl, fun _ => rfl⟩
  have p3 : ∀ {h' : Heap}, (none : Option (Value × Heap)) = some (v, h') → h' = h ∧ ∀ h2 : Heap, (none : Option (Value × Heap)) = some (v, h2) := fun hr => by cases hr
  by_cases hb : g = .bad
  · subst hb; cases hr
  cases g <;> simp only [GOp.hp] at hn <;> first | (cases hn; done) | (exact absurd rfl hb) | skip
  case mv => exact p2 hr
  case pick c x y => simp only [opE] at hr ⊢; generalize ev env c = u at hr ⊢; cases u <;> first | exact p2 hr | exact p3 hr
  case build z ps => simp only [opE] at hr ⊢; generalize fillL z _ = u at hr ⊢; cases u <;> first | exact p2 hr | exact p3 hr
  case nilc x =>
    simp only [opE] at hr ⊢
    generalize ev env x = u at hr ⊢
    cases u with
    | pointer a => cases a <;> first | exact p2 hr | exact p3 hr
    | func f _ _ => cases f <;> first | exact p2 hr | exact p3 hr
    | _ => exact p3 hr
  case bin => exact p1 hr
  case un => exact p1 hr
  case cvi k x => simp only [opE] at hr ⊢; generalize ev env x = u at hr ⊢; cases u <;> first | exact p2 hr | exact p3 hr
  case cvs x => simp only [opE] at hr ⊢; generalize ev env x = u at hr ⊢; cases u <;> first | exact p2 hr | exact p3 hr
  case mki => exact p2 hr
  case mkf => exact p2 hr
  case slS x lo hi => simp only [opE] at hr ⊢; generalize ev env x = u at hr ⊢; cases u <;> first | exact p1 hr | exact p3 hr
  case fa off x =>
    simp only [opE] at hr ⊢
    generalize ev env x = u at hr ⊢
    cases u with
    | pointer a => cases a <;> first | exact p2 hr | exact p3 hr
    | _ => exact p3 hr
  case fld one off n x =>
    simp only [opE] at hr ⊢
    generalize ev env x = u at hr ⊢
    cases u with
    | agg cs =>
      cases one
      · simp only [Bool.false_eq_true, if_false] at hr ⊢
        by_cases hc : off + n ≤ cs.size
        · simp only [hc, if_true] at hr ⊢; exact p2 hr
        · simp only [hc, if_false] at hr; cases hr
      · exact p1 hr
    | _ => exact p3 hr
  case ia e x i =>
    simp only [opE] at hr ⊢
    generalize ev env x = u at hr ⊢
    cases u with
    | slice a l c =>
      cases a with
      | none => exact p3 hr
      | some a =>
        generalize ev env i = u2 at hr ⊢
        cases u2 with
        | int k j =>
          simp only at hr ⊢
          by_cases hc : 0 ≤ j ∧ j < l
          · simp only [hc, and_self, if_true] at hr ⊢; exact p2 hr
          · simp only [hc, if_false] at hr; cases hr
        | _ => exact p3 hr
    | _ => exact p3 hr
  case idx x i =>
    simp only [opE] at hr ⊢
    generalize ev env x = u at hr ⊢
    cases u with
    | string s =>
      generalize ev env i = u2 at hr ⊢
      cases u2 with
      | int k j =>
        simp only at hr ⊢
        by_cases hc : 0 ≤ j
        · simp only [hc, if_true] at hr ⊢; exact p1 hr
        · simp only [hc, if_false] at hr; cases hr
      | _ => exact p3 hr
    | _ => exact p3 hr
  case ext i x =>
    simp only [opE] at hr ⊢
    generalize ev env x = u at hr ⊢
    cases u with
    | tuple vs =>
      simp only at hr ⊢
      by_cases hc : 2 ≤ vs.size
      · simp only [hc, if_true] at hr ⊢; exact p1 hr
      · simp only [hc, if_false] at hr; cases hr
    | _ => exact p3 hr
  case lenS x => simp only [opE] at hr ⊢; generalize ev env x = u at hr ⊢; cases u <;> first | exact p2 hr | exact p3 hr
  case lenL x => simp only [opE] at hr ⊢; generalize ev env x = u at hr ⊢; cases u <;> first | exact p2 hr | exact p3 hr

/-- How G's heap may go on. -/
structure HStep (h h' : Heap) : Prop where
  size : h.size ≤ h'.size
  low : h'.low ≤ h.low
  nb : h'.nb = h.nb
  same : ∀ b, b < h.size → b < h'.low → h'.get b = h.get b
  revive : ∀ b, b < h.size → h'.ownAt b → h.ownAt b
theorem HStep.refl (h : Heap) : HStep h h := ⟨Nat.le_refl _, Nat.le_refl _, rfl, fun _ _ _ => rfl, fun _ _ h => h⟩
theorem HStep.trans {a b c : Heap} (s : HStep a b) (t : HStep b c) : HStep a c where
  size := Nat.le_trans s.size t.size
  low := Nat.le_trans t.low s.low
  nb := t.nb.trans s.nb
  same := fun x hx hl => by rw [t.same x (Nat.lt_of_lt_of_le hx s.size) hl, s.same x hx (Nat.lt_of_lt_of_le hl t.low)]
  revive := fun x hx ho => s.revive x hx (t.revive x (Nat.lt_of_lt_of_le hx s.size) ho)
theorem HStep.push (h : Heap) (x : Blk) : HStep h (h.push x) where
  size := by rw [Heap.size_push]; omega
  low := by rw [Heap.low_push]; exact Nat.le_refl _
  nb := rfl
  same := fun b hb _ => by rw [Heap.get_push, if_neg (Nat.ne_of_lt hb)]
  revive := fun b hb ho => by rw [Heap.ownAt_push, if_neg (Nat.ne_of_lt hb)] at ho; exact ho
theorem HStep.put {h : Heap} {b : Nat} {x : Blk} (hn : h.nb ≤ b) (hb : h.ownAt b) : HStep h (h.put b x) := by
  have hlt : b < h.size := by obtain ⟨y, hy, _⟩ := hb; exact Heap.get_lt hy
  refine ⟨Nat.le_refl _, by rw [Heap.low_put]; omega, rfl, fun c hc hl => ?_, fun c hc ho => ?_⟩
  · rw [Heap.low_put] at hl
    rw [Heap.get_put _ _ _ _ hn hlt, if_neg (by omega)]
  · rw [Heap.ownAt_put hn hlt] at ho
    by_cases hcb : c = b
    · subst hcb; exact hb
    · rw [if_neg hcb] at ho; exact ho
theorem HStep.store {h h' : Heap} {b off : Nat} {vs : List Value} (hs : h.store b off vs = some h') : HStep h h' := by
  unfold Heap.store at hs
  split at hs
  · rename_i sz c hg
    split at hs
    · rename_i hc
      cases hs
      exact HStep.put hc.1 ⟨_, hg, rfl⟩
    · cases hs
  · cases hs

def CHeap (C : Caller) : Prop := ∀ f args h v h', C f args h = some (v, h') → HStep h h'

theorem HStep.app {h h' : Heap} {esz eb : Nat} {s x v : Value} (hr : appE h esz eb s x = some (v, h')) : HStep h h' := by
  unfold appE at hr
  split at hr
  · split at hr
    · simp only [Option.some.injEq, Prod.mk.injEq] at hr; obtain ⟨_, rfl⟩ := hr; exact HStep.refl _
    · split at hr
      · cases hr
      · split at hr
        · split at hr
          · simp only [pushS, Option.some.injEq, Prod.mk.injEq] at hr; obtain ⟨_, rfl⟩ := hr; exact HStep.push _ _
          · cases hr
        · split at hr
          · cases hr
          · split at hr
            · split at hr
              · rename_i hg
                split at hr
                · rename_i hc
                  simp only [pushS, Option.some.injEq, Prod.mk.injEq] at hr
                  obtain ⟨_, rfl⟩ := hr
                  exact (HStep.put hc.1 ⟨_, hg, rfl⟩).trans (HStep.push _ _)
                · cases hr
              · cases hr
            · split at hr
              · simp only [Option.map_eq_some_iff, Prod.mk.injEq] at hr
                obtain ⟨h2, hs, _, rfl⟩ := hr
                exact HStep.store hs
              · simp only [Option.map_eq_some_iff, pushS, Prod.mk.injEq] at hr
                obtain ⟨c, _, _, rfl⟩ := hr
                exact HStep.push _ _
  · cases hr

theorem HStep.op {C : Caller} {env : List Value} {h h' : Heap} {g : GOp} {v : Value} (hC : CHeap C) (hr : opE C env h g = some (v, h')) : HStep h h' := by
  cases hn : g.hp with
  | false => rw [(opE_nonhp hn hr).1]; exact HStep.refl _
  | true =>
    cases g <;> simp only [GOp.hp] at hn <;> first | (cases hn; done) | skip
    case alloc => rw [(newB_inv hr).2]; exact HStep.push _ _
    case box =>
      simp only [opE] at hr
      split at hr
      · cases hr
      · rw [(newB_inv hr).2]; exact HStep.push _ _
    case bslice =>
      simp only [opE] at hr
      split at hr
      · simp only [Option.some.injEq, Prod.mk.injEq] at hr; obtain ⟨_, rfl⟩ := hr; exact HStep.push _ _
      · cases hr
    case ld =>
      simp only [opE] at hr
      split at hr
      · rw [(pure1_inv hr).2]; exact HStep.refl _
      · cases hr
    case ldn =>
      simp only [opE] at hr
      split at hr
      · rw [(pure1_inv hr).2]; exact HStep.refl _
      · cases hr
    case st =>
      simp only [opE] at hr
      split at hr
      · split at hr
        · unfold unit1 at hr
          split at hr
          · rename_i hs
            simp only [Option.some.injEq, Prod.mk.injEq] at hr; obtain ⟨_, rfl⟩ := hr; exact HStep.store hs
          · cases hr
        · cases hr
      · cases hr
    case s2b =>
      simp only [opE] at hr
      split at hr
      · simp only [Option.some.injEq, Prod.mk.injEq] at hr; obtain ⟨_, rfl⟩ := hr; exact HStep.push _ _
      · cases hr
    case b2s =>
      simp only [opE] at hr
      split at hr
      · simp only [Option.some.injEq, Prod.mk.injEq] at hr; obtain ⟨_, rfl⟩ := hr; exact HStep.refl _
      · split at hr
        · simp only [Option.some.injEq, Prod.mk.injEq] at hr; obtain ⟨_, rfl⟩ := hr; exact HStep.refl _
        · rw [(pure1_inv hr).2]; exact HStep.refl _
      · cases hr
    case mkm =>
      simp only [opE, Option.some.injEq, Prod.mk.injEq] at hr; obtain ⟨_, rfl⟩ := hr; exact HStep.push _ _
    case mks =>
      simp only [opE] at hr
      split at hr
      · split at hr
        · simp only [Option.some.injEq, Prod.mk.injEq] at hr; obtain ⟨_, rfl⟩ := hr; exact HStep.push _ _
        · cases hr
      · cases hr
    case slL =>
      simp only [opE] at hr
      split at hr
      · rw [(pure1_inv hr).2]; exact HStep.refl _
      · cases hr
    case lk =>
      simp only [opE] at hr
      split at hr
      · rw [(pure1_inv hr).2]; exact HStep.refl _
      · split at hr
        · rw [(pure1_inv hr).2]; exact HStep.refl _
        · cases hr
      · cases hr
    case mu =>
      simp only [opE] at hr
      split at hr
      · split at hr
        · rename_i hg
          split at hr
          · split at hr
            · rename_i hnb
              simp only [Option.some.injEq, Prod.mk.injEq] at hr; obtain ⟨_, rfl⟩ := hr; exact HStep.put hnb ⟨_, hg, rfl⟩
            · cases hr
          · cases hr
        · cases hr
      · cases hr
    case app => exact HStep.app hr
    case call => exact hC _ _ _ _ _ hr
    case callv =>
      simp only [opE] at hr
      split at hr
      · exact hC _ _ _ _ _ hr
      · cases hr

theorem HStep.quiet {C : Caller} {env : List Value} {h h' : Heap} {g : GOp} {v : Value} {q : Bool} (hC : CHeap C) (hr : quiet q (fun h => opE C env h g) h = some (v, h')) :
    HStep h h' ∧ (q = true → h'.low = h.low ∧ ∀ b, b < h.size → h'.get b = h.get b) := by
  unfold Go.GS.quiet at hr
  cases q with
  | false =>
    simp only [Bool.false_eq_true, if_false] at hr
    exact ⟨HStep.op hC hr, fun h => by cases h⟩
  | true =>
    simp only [if_true] at hr
    split at hr
    · rename_i u h1 ho
      split at hr
      · rename_i hl
        simp only [Option.some.injEq, Prod.mk.injEq] at hr
        obtain ⟨_, rfl⟩ := hr
        have hs := HStep.op hC ho
        have hget : ∀ b, b < h.size → (h1.setLow h.low).get b = h.get b := fun b hb => by
          rw [Heap.get_setLow, hs.same b hb (Nat.lt_of_lt_of_le hb hl), Heap.get_setLow]
        refine ⟨⟨hs.size, Nat.le_refl _, hs.nb, fun b hb _ => hget b hb, fun b hb ho => ?_⟩, fun _ => ⟨rfl, hget⟩⟩
        obtain ⟨x, hx, hxo⟩ := ho
        rw [hget b hb] at hx
        exact ⟨x, hx, hxo⟩
      · cases hr
    · cases hr
end Go.GS
