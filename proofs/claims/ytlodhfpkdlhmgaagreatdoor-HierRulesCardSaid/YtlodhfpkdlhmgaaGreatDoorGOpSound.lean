/- Every operation of G against the machine's. -/
import Derived.Test.YtlodhfpkdlhmgaaGreatDoorGOps7
namespace Go.GS
variable {P : Program} {B : Nat} {ρ : Ren} {h h' : Heap} {w : World}

def GOp.isCall : GOp → Bool
  | .call .. | .callv .. => true
  | _ => false

theorem pure1_inv {x : Option Value} {h : Heap} {v : Value} {h' : Heap} (hr : pure1 x h = some (v, h')) : x = some v ∧ h' = h := by
  cases x with
  | none => cases hr
  | some u => simp [pure1] at hr; exact ⟨by rw [hr.1], hr.2.symm⟩
theorem newB_inv {h : Heap} {c : List Value} {v : Value} {h' : Heap} (hr : newB h c = some (v, h')) : v = .pointer (some ⟨h.size, 0, none⟩) ∧ h' = h.push (.arr false 0 c) := by
  simp [newB] at hr; exact ⟨hr.1.symm, hr.2.symm⟩

set_option maxHeartbeats 1600000 in
theorem op_sound {C : Caller} {o : Oper} {g : GOp} {a : Act} {env : List Value} {v : Value} (he : elabOp P o = some g) (hnc : g.isCall = false) (hr : opE C env h g = some (v, h'))
    (s : Sim B ρ h w) (E : EnvR ρ env a.tmps) : OpOK P o a B ρ h w v h' := by
  rcases elabOp_cases he with he | rfl
  case inr => cases hr
  unfold elabOp0 at he
  split at he
  · rename_i x hop
    split at he
    · rename_i hx
      cases he
      simp only [opE, Option.some.injEq, Prod.mk.injEq] at hr
      obtain ⟨rfl, rfl⟩ := hr
      exact ok_move s E (.inl hop) hx
    · cases he
  · rename_i x hop
    split at he
    · rename_i hx
      cases he
      simp only [opE, Option.some.injEq, Prod.mk.injEq] at hr
      obtain ⟨rfl, rfl⟩ := hr
      exact ok_move s E (.inr hop) hx
    · cases he
  · rename_i c x y hop
    split at he
    · rename_i hx
      cases he
      simp only [opE] at hr
      split at hr
      · rename_i t ht
        simp only [Option.some.injEq, Prod.mk.injEq] at hr
        obtain ⟨rfl, rfl⟩ := hr
        exact ok_pick s E hop hx ht
      · cases hr
    · cases he
  · rename_i e hop
    cases hz : zeroL P e with
    | none => simp [hz] at he
    | some z =>
      simp [hz] at he; subst he
      obtain ⟨rfl, rfl⟩ := newB_inv hr
      exact ok_alloc s hop hz
  · rename_i e x hop
    split at he
    · rename_i hx
      cases he
      simp only [opE] at hr
      split at hr
      · cases hr
      · rename_i hb
        obtain ⟨rfl, rfl⟩ := newB_inv hr
        exact ok_box s E hop hx (isBot_false (by simpa using hb))
    · cases he
  · rename_i t ps hop
    split at he
    · rename_i fs z hs hz
      split at he
      · rename_i hall
        cases hps : partsS P fs ps.toList with
        | none => simp [hps] at he
        | some qs =>
          simp [hps] at he; subst he
          simp only [opE] at hr
          split at hr
          · rename_i c hc
            simp only [Option.some.injEq, Prod.mk.injEq] at hr
            obtain ⟨rfl, rfl⟩ := hr
            exact ok_build s E hop hs hz hall hps hc
          · cases hr
      · cases he
    · cases he
  · rename_i t len ps hop
    split at he
    · rename_i e hs
      split at he
      · rename_i n z hn hz
        split at he
        · rename_i hc
          obtain ⟨hc1, hc2, hc3⟩ := hc
          cases he
          simp only [opE] at hr
          split at hr
          · rename_i c hc
            simp only [Option.some.injEq, Prod.mk.injEq] at hr
            obtain ⟨rfl, rfl⟩ := hr
            exact ok_bslice s E hop hs hn hz hc1 hc2 hc3 hc
          · cases hr
        · cases he
      · cases he
    · cases he
  · rename_i t x hop
    split at he
    · rename_i hx
      split at he
      · rename_i n ha hn
        cases he
        simp only [opE] at hr
        split at hr
        · rename_i p hp
          obtain ⟨hc, rfl⟩ := pure1_inv hr
          cases hcs : h'.cells p.block p.off n with
          | none => simp [hcs] at hc
          | some c =>
            simp [hcs] at hc; subst hc
            exact ok_loadn s E hop hx ha hn hp hcs
        · cases hr
      · rename_i n ha hn
        cases he
        simp only [opE] at hr
        split at hr
        · rename_i p hp
          obtain ⟨hc, rfl⟩ := pure1_inv hr
          exact ok_load1 s E hop hx ha hp hc
        · cases hr
      · cases he
    · cases he
  · rename_i t x y hop
    split at he
    · rename_i hx
      cases hn : sizeP P t with
      | none => simp [hn] at he
      | some n =>
        simp [hn] at he; subst he
        simp only [opE] at hr
        split at hr
        · rename_i p hp
          split at hr
          · rename_i hl
            unfold unit1 at hr
            split at hr
            · rename_i h2 hst
              simp only [Option.some.injEq, Prod.mk.injEq] at hr
              obtain ⟨rfl, rfl⟩ := hr
              exact ok_st s E hop hx hn hp hl hst
            · cases hr
          · cases hr
        · cases hr
    · cases he
  · rename_i x hop
    split at he
    · rename_i hx
      cases he
      simp only [opE] at hr
      split at hr
      · rename_i p hp
        simp only [Option.some.injEq, Prod.mk.injEq] at hr
        obtain ⟨rfl, rfl⟩ := hr
        exact ok_nilc s E hop hx hp (.inl ⟨_, rfl⟩)
      · rename_i f c d hp
        simp only [Option.some.injEq, Prod.mk.injEq] at hr
        obtain ⟨rfl, rfl⟩ := hr
        exact ok_nilc s E hop hx hp (.inr ⟨_, _, _, rfl⟩)
      · cases hr
    · cases he
  · rename_i op t x y yt hop
    split at he
    · rename_i hx
      cases he
      simp only [opE] at hr
      obtain ⟨hc, rfl⟩ := pure1_inv hr
      exact ok_bin s E hop hx rfl hc
    · cases he
  · rename_i op t x hop
    split at he
    · rename_i hx
      cases he
      simp only [opE] at hr
      obtain ⟨hc, rfl⟩ := pure1_inv hr
      exact ok_un s E hop hx hc
    · cases he
  · rename_i src dst x hop
    split at he
    · rename_i hx
      split at he
      · rename_i d k hs hd
        cases he
        simp only [opE] at hr
        split at hr
        · rename_i k' n hv
          simp only [Option.some.injEq, Prod.mk.injEq] at hr
          obtain ⟨rfl, rfl⟩ := hr
          exact ok_cvi s E hop hx hs hd hv
        · cases hr
      · rename_i hs hd
        cases he
        simp only [opE] at hr
        split at hr
        · rename_i b hv
          simp only [Option.some.injEq, Prod.mk.injEq] at hr
          obtain ⟨rfl, rfl⟩ := hr
          exact ok_cvs s E hop hx hs hd hv
        · cases hr
      · rename_i e hs hd
        split at he
        · rename_i hu8
          cases he
          simp only [opE] at hr
          split at hr
          · rename_i b hv
            simp only [Option.some.injEq, Prod.mk.injEq] at hr
            obtain ⟨rfl, rfl⟩ := hr
            exact ok_s2b s E hop hx hs hd hu8 hv
          · cases hr
        · cases he
      · rename_i e hs hd
        split at he
        · rename_i hu8
          cases he
          simp only [opE] at hr
          split at hr
          · rename_i l c hv
            simp only [Option.some.injEq, Prod.mk.injEq] at hr
            obtain ⟨rfl, rfl⟩ := hr
            exact ok_b2sN s E hop hx hs hd hu8 hv
          · rename_i p l c hv
            split at hr
            · rename_i h0
              subst h0
              simp only [Option.some.injEq, Prod.mk.injEq] at hr
              obtain ⟨rfl, rfl⟩ := hr
              exact ok_b2sE s E hop hx hs hd hu8 hv
            · rename_i h0
              obtain ⟨hc, rfl⟩ := pure1_inv hr
              cases hcs : h'.cells p.block p.off l with
              | none => simp [hcs] at hc
              | some cs =>
                cases hbs : bytesOf cs with
                | none => simp [hcs, hbs] at hc
                | some bs =>
                  simp [hcs, hbs] at hc; subst hc
                  exact ok_b2s s E hop hx hs hd hu8 hv h0 hcs hbs
          · cases hr
        · cases he
      · cases he
    · cases he
  · rename_i t x hop
    split at he
    · rename_i hx
      split at he
      · cases he
      · rename_i d hni hs
        cases he
        simp only [opE, Option.some.injEq, Prod.mk.injEq] at hr
        obtain ⟨rfl, rfl⟩ := hr
        exact ok_mki s E hop hx hs fun m e => hni m e
      · cases he
    · cases he
  · rename_i fn first caps hop
    split at he
    · rename_i hx
      cases he
      simp only [opE, Option.some.injEq, Prod.mk.injEq] at hr
      obtain ⟨rfl, rfl⟩ := hr
      exact ok_mkf s E hop hx
    · cases he
  · rename_i t hop
    cases he
    simp only [opE, Option.some.injEq, Prod.mk.injEq] at hr
    obtain ⟨rfl, rfl⟩ := hr
    exact ok_mkm s hop
  · rename_i t x y hop
    split at he
    · rename_i hx
      split at he
      · rename_i e hs
        split at he
        · rename_i inf z hi hz
          split at he
          · cases he
            simp only [opE] at hr
            split at hr
            · rename_i k l k' c hl hc
              split at hr
              · rename_i hcond
                simp only [Option.some.injEq, Prod.mk.injEq] at hr
                obtain ⟨rfl, rfl⟩ := hr
                exact ok_mks s E hop hx hs hi hz hl hc hcond.1 hcond.2.1 hcond.2.2.1 hcond.2.2.2
              · cases hr
            · cases hr
          · cases he
        · cases he
      · cases he
    · cases he
  · rename_i t x lo hi mx hop
    split at he
    · rename_i hx
      simp only [Bool.and_eq_true] at hx
      obtain ⟨⟨⟨hx1, hx2⟩, hx3⟩, hx4⟩ := hx
      split at he
      · rename_i hs
        split at he
        · rename_i hmx
          cases he
          simp only [opE] at hr
          split at hr
          · rename_i b hv
            obtain ⟨hc, rfl⟩ := pure1_inv hr
            have : mx = none := by simpa using hmx
            subst this
            exact ok_slS s E hop hx1 hx2 hx3 hs hv hc
          · cases hr
        · cases he
      · rename_i e hs
        split at he
        · rename_i n hn
          split at he
          · cases he
          · rename_i hm
            cases he
            simp only [opE] at hr
            split at hr
            · rename_i p l c hv
              obtain ⟨hc, rfl⟩ := pure1_inv hr
              exact ok_slL s E hop hx1 hx2 hx3 hx4 (by cases h1 : (mx.isSome && hi.isNone) with | false => rfl | true => exact absurd h1 hm) hs hn hv hc
            · cases hr
        · cases he
      · cases he
    · cases he
  · rename_i t x f hop
    split at he
    · rename_i hx
      split at he
      · rename_i fs hs
        split at he
        · rename_i fd hf
          split at he
          · rename_i n hn
            split at he
            · rename_i h0
              cases he
              simp only [opE] at hr
              split at hr
              · rename_i p hv
                simp only [Option.some.injEq, Prod.mk.injEq] at hr
                obtain ⟨rfl, rfl⟩ := hr
                exact ok_fa s E hop hx hs hf hn h0 hv
              · cases hr
            · cases he
          · cases he
        · cases he
      · cases he
    · cases he
  · rename_i t x f hop
    split at he
    · rename_i hx
      split at he
      · rename_i fs hs
        split at he
        · rename_i fd hf
          split at he
          · rename_i n ha hn
            cases he
            simp only [opE] at hr
            split at hr
            · rename_i cs hv
              simp only [Bool.false_eq_true, if_false] at hr
              split at hr
              · simp only [Option.some.injEq, Prod.mk.injEq] at hr
                obtain ⟨rfl, rfl⟩ := hr
                exact ok_fldn s E hop hx hs hf ha hn hv
              · cases hr
            · cases hr
          · rename_i n ha hn
            cases he
            simp only [opE] at hr
            split at hr
            · rename_i cs hv
              simp only [if_true] at hr
              obtain ⟨hc, rfl⟩ := pure1_inv hr
              exact ok_fld1 s E hop hx hs hf ha hv hc
            · cases hr
          · cases he
        · cases he
      · cases he
    · cases he
  · rename_i t x i hop
    split at he
    · rename_i hx
      split at he
      · rename_i e hs
        cases hn : sizeP P e with
        | none => simp [hn] at he
        | some n =>
          simp [hn] at he; subst he
          simp only [opE] at hr
          split at hr
          · rename_i p l c k j hv hi
            split at hr
            · rename_i hc
              simp only [Option.some.injEq, Prod.mk.injEq] at hr
              obtain ⟨rfl, rfl⟩ := hr
              exact ok_ia s E hop hx hs hn hv hi hc.1 hc.2
            · cases hr
          · cases hr
      · cases he
    · cases he
  · rename_i t x i hop
    split at he
    · rename_i hx
      split at he
      · rename_i hs
        cases he
        simp only [opE] at hr
        split at hr
        · rename_i b k j hv hi
          split at hr
          · rename_i h0
            obtain ⟨hc, rfl⟩ := pure1_inv hr
            cases hb : b[j.toNat]? with
            | none => simp [hb] at hc
            | some u =>
              simp [hb] at hc; subst hc
              exact ok_idx s E hop hx hs hv hi h0 hb
          · cases hr
        · cases hr
      · cases he
    · cases he
  · rename_i t m k ok hop
    split at he
    · rename_i hx
      split at he
      · rename_i key e hs
        split at he
        · rename_i z hk hz
          cases he
          simp only [opE] at hr
          split at hr
          · rename_i b hm hk'
            obtain ⟨hc, rfl⟩ := pure1_inv hr
            exact ok_lk s E (es := []) hop hx hs hk hz hk' (.inl ⟨hm, rfl⟩) (by simpa [mapFind] using hc)
          · rename_i r b hm hk'
            split at hr
            · rename_i es hg
              obtain ⟨hc, rfl⟩ := pure1_inv hr
              exact ok_lk s E hop hx hs hk hz hk' (.inr ⟨r, hm, hg⟩) hc
            · cases hr
          · cases hr
        · cases he
      · cases he
    · cases he
  · rename_i t m k v' hop
    split at he
    · rename_i hx
      split at he
      · rename_i key e hs
        split at he
        · rename_i hk
          cases he
          simp only [opE] at hr
          split at hr
          · rename_i r b hm hk'
            split at hr
            · rename_i es hg
              split at hr
              · rename_i es2 hp
                split at hr
                · rename_i hnb
                  simp only [Option.some.injEq, Prod.mk.injEq] at hr
                  obtain ⟨rfl, rfl⟩ := hr
                  exact ok_mu s E hop hx hs hk hk' hm hg hp hnb
                · cases hr
              · cases hr
            · cases hr
          · cases hr
        · cases he
      · cases he
    · cases he
  · rename_i x i hop
    split at he
    · rename_i hx
      cases he
      simp only [opE] at hr
      split at hr
      · rename_i vs hv
        split at hr
        · rename_i h2
          obtain ⟨hc, rfl⟩ := pure1_inv hr
          exact ok_ext s E hop hx hv h2 hc
        · cases hr
      · cases hr
    · cases he
  · rename_i c hop
    split at he
    · rename_i hxa
      split at he
      · rename_i hcal
        split at he
        · rename_i t x ht ha
          rw [ha] at hxa
          have hx : okOpd x = true := by simpa [okAll] using hxa
          split at he
          · rename_i hs
            cases he
            simp only [opE] at hr
            split at hr
            · rename_i b hv
              simp only [Option.some.injEq, Prod.mk.injEq] at hr
              obtain ⟨rfl, rfl⟩ := hr
              exact ok_lenS s E hop hcal ht ha hx hs hv
            · cases hr
          · rename_i e hs
            cases he
            simp only [opE] at hr
            split at hr
            · rename_i p l c' hv
              simp only [Option.some.injEq, Prod.mk.injEq] at hr
              obtain ⟨rfl, rfl⟩ := hr
              exact ok_lenL s E hop hcal ht ha hx hs hv
            · cases hr
          · cases he
        · cases he
      · rename_i hcal
        split at he
        · rename_i t u x y ht ha
          rw [ha] at hxa
          split at he
          · rename_i e ud hs hu
            split at he
            · rename_i inf z hi hz
              split at he
              · rename_i hcond
                cases he
                simp only [opE] at hr
                exact ok_app s E hop hcal ht ha hxa hs hu hcond.2.2.2 hi hz hcond.2.1 hcond.2.2.1 hr
              · cases he
            · cases he
          · cases he
        · cases he
      · cases he; cases hnc
      · split at he
        · cases he; cases hnc
        · cases he
      · cases he
    · cases he
  · cases he

theorem elab_isCall {o : Oper} {g : GOp} (he : elabOp P o = some g) (hn : ∀ c, o.op ≠ .call c) : g.isCall = false := by
  rcases elabOp_cases he with he | rfl
  case inr => rfl
  unfold elabOp0 at he
  split at he <;> first
    | exact absurd ‹_› (hn _)
    | ((repeat' split at he) <;> first
        | (cases he; done)
        | (cases he; rfl)
        | (simp only [Option.map_eq_some_iff] at he; obtain ⟨_, _, rfl⟩ := he; rfl))

/-- What the calls of G come to, on the machine. -/
def CSound (P : Program) (B : Nat) (C : Caller) : Prop :=
  ∀ f args h v h', C f args h = some (v, h') → (∃ fn, P.funcs[f]? = some fn ∧ fn.name ≠ "runtime.NumGoroutine" ∧ fn.body.isSome = true) ∧
    ∀ ρ w args', Sim B ρ h w → VRs ρ args args' → Calls P f args'.toArray w fun e w' => ∃ ρ' v', e = .returned v' ∧ VR ρ' v v' ∧ Sim B ρ' h' w' ∧ Step B ρ h w ρ' h' w'

theorem OpOK.wp {o : Oper} {a : Act} {v : Value} {K : Act → World → Prop} {Q : Exit → Act → World → Prop} (h1 : OpOK P o a B ρ h w v h')
    (hK : ∀ v' w' ρ', VR ρ' v v' → Sim B ρ' h' w' → Step B ρ h w ρ' h' w' → K (a.put o.dst v') w') : o.wp P a w K Q := by
  obtain ⟨v', w', ρ', ⟨nx, hr, hnx⟩, hv, s, t⟩ := h1
  unfold Oper.wp
  rw [hr]
  rcases hnx with rfl | ⟨rfl, rfl⟩
  · exact hK _ _ _ hv s t
  · exact hK _ _ _ hv s t

theorem callFunc_run {f : FuncId} {fn : Func} {args : Array Value} (hf : P.funcs[f]? = some fn) (hn : fn.name ≠ "runtime.NumGoroutine") (hb : fn.body.isSome = true) (w : World) :
    (callFunc f args).run P w = .ok (.enter f args) w := by
  obtain ⟨c, hc⟩ := Option.isSome_iff_exists.1 hb
  simp [callFunc, hf, hn, hc]

theorem op_wp {C : Caller} {o : Oper} {g : GOp} {a : Act} {env : List Value} {v : Value} {K : Act → World → Prop} {Q : Exit → Act → World → Prop} (hC : CSound P B C) (he : elabOp P o = some g) (hr : opE C env h g = some (v, h'))
    (s : Sim B ρ h w) (E : EnvR ρ env a.tmps) (hK : ∀ v' w' ρ', VR ρ' v v' → Sim B ρ' h' w' → Step B ρ h w ρ' h' w' → K (a.put o.dst v') w') : o.wp P a w K Q := by
  by_cases hnc : g.isCall = false
  · exact (op_sound he hnc hr s E).wp hK
  · have key : ∀ (f : FuncId) (args : List Value) (args' : Array Value), C f args h = some (v, h') → VRs ρ args args'.toList → (execOp a.eval o).run P w = (callFunc f args').run P w → o.wp P a w K Q := by
      intro f args args' hc hv hrun
      obtain ⟨⟨fn, h1, h2, h3⟩, h4⟩ := hC f args h v h' hc
      unfold Oper.wp
      rw [hrun, callFunc_run h1 h2 h3]
      rw [Oper.upon_enter]
      have := h4 ρ w args'.toList s hv
      rw [Array.toArray_toList] at this
      refine this.mono fun e w' hh => ?_
      obtain ⟨ρ', v', rfl, k1, k2, k3⟩ := hh
      exact hK v' w' ρ' k1 k2 k3
    by_cases hcall : ∃ c, o.op = .call c
    · obtain ⟨c, hop⟩ := hcall
      rcases elabOp_cases he with he | rfl
      case inr => cases hr
      simp only [elabOp0, hop] at he
      split at he
      · rename_i hxa
        split at he
        · (repeat' split at he) <;> first | (cases he; exact absurd rfl hnc) | (cases he; done)
        · (repeat' split at he) <;> first | (cases he; exact absurd rfl hnc) | (cases he; done)
        · rename_i f hcal
          cases he
          simp only [opE] at hr
          refine key f _ (c.args.map a.eval) hr (by simpa using E.evs hxa) ?_
          simp [execOp, hop, resolve, hcal, Act.eval, Deferred.ofValue, invoke]
        · rename_i x hnf hcal
          split at he
          · rename_i hx
            cases he
            simp only [opE] at hr
            have h1 := E.ev hx
            generalize ev env x = fv at h1 hr
            generalize hq : a.eval x = q at h1
            split at hr
            · rename_i f first caps
              cases h1 with
              | func _ h5 h6 =>
                rename_i first' caps'
                refine key f _ (first' ++ c.args.map a.eval ++ caps') hr (by simpa using (h5.append (E.evs hxa)).append h6) ?_
                simp [execOp, hop, resolve, hcal, hq, Deferred.ofValue, invoke]
            · cases hr
          · cases he
        · cases he
      · cases he
    · exact absurd (elab_isCall he fun c e => hcall ⟨c, e⟩) hnc
end Go.GS
