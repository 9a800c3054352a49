/- Each operation of G against the machine's: maps, append. -/
import Derived.Test.YtlodhfpkdlhmgaaGreatDoorGOps5
namespace Go.GS
variable {P : Program} {B : Nat} {ρ : Ren} {h : Heap} {w : World}

theorem run_checkKey {key : TypeId} (hk : P.underlying key = some .string) (e : Bool) (s : ByteArray) (w : World) : (Instr.checkKey e 10000 key (.string s)).run P w = .ok () w := by
  suffices h : ∀ D, (Instr.checkKey e (D + 1) key (.string s)).run P w = .ok () w from h 9999
  intro D
  rw [Instr.checkKey, Sem.run_bind, r_underlying hk]; rfl

theorem findNow_sound {s : ByteArray} : ∀ {es : List (Value × Value)} {es' : List MapEntry} {r : Option Value} (i : Nat), mapFind s es = some r → MR ρ es es' →
    match r with
    | none => Instr.findNow .string (.string s) es' i = some none
    | some v => ∃ j v', Instr.findNow .string (.string s) es' i = some (some (j, v')) ∧ VR ρ v v'
  | [], [], r, i, hf, .nil => by simp [mapFind] at hf; subst hf; simp [Instr.findNow]
  | (k, u) :: es, e :: es', r, i, hf, .cons hk hv t => by
    cases k with
    | string t' =>
      simp only [mapFind] at hf
      generalize hek : e.key = ek at hk
      cases hk
      have hb : (s == t') = strEq s t' := by rw [beqBA, strEq_iff]
      cases hs : strEq s t' with
      | true =>
        rw [hs] at hf hb
        simp at hf; subst hf
        exact ⟨i, e.val, by simp [Instr.findNow, hek, Instr.sameNow, hb], hv⟩
      | false =>
        rw [hs] at hf hb
        simp only [Bool.false_eq_true, if_false] at hf
        have ih := findNow_sound (i + 1) hf t
        have hstep : Instr.findNow .string (.string s) (e :: es') i = Instr.findNow .string (.string s) es' (i + 1) := by
          simp [Instr.findNow, hek, Instr.sameNow, hb]
        cases r with
        | none => simp only; rw [hstep]; exact ih
        | some v => simp only; rw [hstep]; exact ih
    | _ => simp [mapFind] at hf

theorem mapPut_sound {s : ByteArray} {v v' : Value} (hv : VR ρ v v') (ck : Nat) : ∀ {es es2 : List (Value × Value)} {es' : List MapEntry} (i : Nat), mapPut s v es = some es2 → MR ρ es es' →
    (Instr.findNow .string (.string s) es' i = some none ∧ MR ρ es2 (es' ++ [{ key := .string s, val := v', born := ck }])) ∨
    (∃ j u e, Instr.findNow .string (.string s) es' i = some (some (i + j, u)) ∧ es'[j]? = some e ∧ e.key = .string s ∧ MR ρ es2 (es'.modify j fun e => { e with key := .string s, val := v' }))
  | [], es2, [], i, hf, .nil => by
    simp [mapPut] at hf; subst hf
    exact .inl ⟨by simp [Instr.findNow], .cons (.string s) hv .nil⟩
  | (k, u) :: es, es2, e :: es', i, hf, .cons hk hu t => by
    cases k with
    | string t' =>
      simp only [mapPut] at hf
      generalize hek : e.key = ek at hk
      have hk' := hk
      cases hk
      have hb : (s == t') = strEq s t' := by rw [beqBA, strEq_iff]
      cases hs : strEq s t' with
      | true =>
        rw [hs] at hf hb
        simp at hf; subst hf
        have hst : s = t' := by rw [strEq_iff] at hs; simpa using hs
        subst hst
        exact .inr ⟨0, e.val, e, by simp [Instr.findNow, hek, Instr.sameNow, hb], rfl, hek, by simpa using MR.cons (.string s) hv t⟩
      | false =>
        rw [hs] at hf hb
        simp only [Bool.false_eq_true, if_false] at hf
        cases hp : mapPut s v es with
        | none => simp [hp] at hf
        | some es3 =>
          simp [hp] at hf; subst hf
          have hstep : Instr.findNow .string (.string s) (e :: es') i = Instr.findNow .string (.string s) es' (i + 1) := by
            simp [Instr.findNow, hek, Instr.sameNow, hb]
          rcases mapPut_sound hv ck (i + 1) hp t with ⟨h1, h2⟩ | ⟨j, u', e', h1, h2, h3, h4⟩
          · exact .inl ⟨by rw [hstep]; exact h1, .cons (by rw [hek]; exact hk') hu h2⟩
          · refine .inr ⟨j + 1, u', e', by rw [hstep, h1]; congr 3; omega, by simpa using h2, h3, ?_⟩
            rw [List.modify_succ_cons]
            exact .cons (by rw [hek]; exact hk') hu h4
    | _ => simp [mapPut] at hf

section ops
variable {o : Oper} {a : Act} {env : List Value} (s : Sim B ρ h w) (E : EnvR ρ env a.tmps)
include s E

theorem ok_lk {t key e : TypeId} {x y : Operand} {ok : Bool} {z v : Value} {b : ByteArray} {es : List (Value × Value)} (hop : o.op = .lookup t x y ok) (hx : okAll [x, y] = true) (hs : P.underlying t = some (.map key e)) (hk : P.underlying key = some .string)
    (hz : zeroV P e = some z) (hy : ev env y = .string b) (hm : (ev env x = .map none ∧ es = []) ∨ ∃ r, ev env x = .map (some r) ∧ h.get r = some (.map es)) (hr : lookE z ok (mapFind b es) = some v) : OpOK P o a B ρ h w v h := by
  simp [okAll] at hx
  have h1 := E.ev hx.1
  have h2 := E.ev hx.2
  rw [hy] at h2
  generalize hq : a.eval x = q at h1
  generalize hq2 : a.eval y = q2 at h2
  cases h2
  obtain ⟨hzr, hzs⟩ := zeroV_spec hz
  have key1 : ∀ (es' : Array MapEntry), MR ρ es es'.toList → (q = .map none ∧ es' = #[] ∨ ∃ r ck, q = .map (some r) ∧ (getObj r).run P w = .ok (.map es' ck) w) → OpOK P o a B ρ h w v h := by
    intro es' hmr hget
    cases hf : mapFind b es with
    | none => simp [hf, lookE] at hr
    | some r =>
      have hfn := findNow_sound 0 hf hmr
      rw [hf] at hr
      cases r with
      | none =>
        simp only at hfn
        have hfk : (Instr.findKey key (.string b) es'.toList).run P w = .ok none w := by
          simp only [Instr.findKey, Sem.run_bind, r_underlying hk, Result.andThen_ok, hfn, Sem.run_pure]
        simp only [lookE, Option.some.injEq] at hr
        subst hr
        refine OpOK.same s (v' := if ok then .tuple #[z, .bool false] else z) ?_ ?_
        · rcases hget with ⟨rfl, rfl⟩ | ⟨r, ck, rfl, hgo⟩
          · simp only [execOp, hop, hq, hq2, Instr.lookup, Sem.run_bind, r_underlying hs, Result.andThen_ok, Sem.run_pure, run_checkKey hk, hfk, hzr]
          · simp only [execOp, hop, hq, hq2, Instr.lookup, Sem.run_bind, r_underlying hs, Result.andThen_ok, Sem.run_pure, hgo, run_checkKey hk, hfk, hzr]
        · cases ok
          · exact simpleV_VR hzs
          · exact .tup (by simp) (.cons (simpleV_VR hzs) (.cons (.bool _) .nil))
      | some u =>
        obtain ⟨j, u', hfn, hu⟩ := hfn
        have hfk : (Instr.findKey key (.string b) es'.toList).run P w = .ok (some (j, u')) w := by
          simp only [Instr.findKey, Sem.run_bind, r_underlying hk, Result.andThen_ok, hfn, Sem.run_pure]
        simp only [lookE, Option.some.injEq] at hr
        subst hr
        refine OpOK.same s (v' := if ok then .tuple #[u', .bool true] else u') ?_ ?_
        · rcases hget with ⟨rfl, rfl⟩ | ⟨r, ck, rfl, hgo⟩
          · simp only [execOp, hop, hq, hq2, Instr.lookup, Sem.run_bind, r_underlying hs, Result.andThen_ok, Sem.run_pure, run_checkKey hk, hfk]
          · simp only [execOp, hop, hq, hq2, Instr.lookup, Sem.run_bind, r_underlying hs, Result.andThen_ok, Sem.run_pure, hgo, run_checkKey hk, hfk]
        · cases ok
          · exact hu
          · exact .tup (by simp) (.cons hu (.cons (.bool _) .nil))
  rcases hm with ⟨hxe, rfl⟩ | ⟨r, hxe, hg⟩
  · rw [hxe] at h1
    cases h1
    exact key1 #[] .nil (.inl ⟨rfl, rfl⟩)
  · rw [hxe] at h1
    cases h1 with
    | map hb =>
      obtain ⟨xb, ob, g1, g2, g3⟩ := s.blk _ _ hb
      rw [hg] at g1; cases g1
      obtain ⟨es', ck, rfl, hmr⟩ := g3
      exact key1 es' hmr (.inr ⟨_, ck, rfl, by simp [getObj, Sem.run, g2]⟩)

theorem ok_mu {t key e : TypeId} {x y z : Operand} {b : ByteArray} {r : Nat} {es es2 : List (Value × Value)} (hop : o.op = .mapUpdate t x y z) (hx : okAll [x, y, z] = true) (hs : P.underlying t = some (.map key e)) (hk : P.underlying key = some .string)
    (hy : ev env y = .string b) (hm : ev env x = .map (some r)) (hg : h.get r = some (.map es)) (hp : mapPut b (ev env z) es = some es2) (hnb : h.nb ≤ r) : OpOK P o a B ρ h w undef (h.put r (.map es2)) := by
  simp [okAll] at hx
  have h1 := E.ev hx.1
  have h2 := E.ev hx.2.1
  have h3 := E.ev hx.2.2
  rw [hy] at h2; rw [hm] at h1
  generalize hq : a.eval x = q at h1
  generalize hq2 : a.eval y = q2 at h2
  generalize hq3 : a.eval z = q3 at h3
  cases h2
  cases h1 with
  | map hb =>
    rename_i i
    obtain ⟨xb, ob, g1, g2, g3⟩ := s.blk _ _ hb
    rw [hg] at g1; cases g1
    obtain ⟨es', ck, rfl, hmr⟩ := g3
    have hrng := s.rng hb
    have fin : ∀ (es3 : Array MapEntry) (ck3 : Nat), MR ρ es2 es3.toList → (Instr.mapUpdate t (.map (some i.blk)) (.string b) q3).run P w = .ok () { w with heap := w.heap.setIfInBounds i.blk (.map es3 ck3) } → OpOK P o a B ρ h w undef (h.put r (.map es2)) := by
      intro es3 ck3 hm3 hrun
      obtain ⟨s', t'⟩ := put_sound (w' := { w with heap := w.heap.setIfInBounds i.blk (.map es3 ck3) }) s hb hnb ⟨_, hg, rfl⟩ (.map es2) (.map es3 ck3) (by simp) (fun c => by
        simp only [Array.getElem?_setIfInBounds]
        by_cases hcc : i.blk = c
        · subst hcc; simp [hrng]
        · have : ¬ c = i.blk := fun e => hcc e.symm
          simp [hcc, this]) ⟨es3, ck3, rfl, hm3⟩
      exact ⟨undef, _, ρ, ⟨.skip, by simp [execOp, hop, hq, hq2, hq3, hrun], .inr ⟨rfl, rfl⟩⟩, .bot _, s', t'⟩
    have hgo : (getObj i.blk).run P w = .ok (.map es' ck) w := by simp [getObj, Sem.run, g2]
    have hso : ∀ ob, (setObj i.blk ob).run P w = .ok () { w with heap := w.heap.setIfInBounds i.blk ob } := by intro ob; simp [setObj, Sem.run, g2]
    rcases mapPut_sound h3 ck 0 hp hmr with ⟨hfn, hm2⟩ | ⟨j, u, e', hfn, hj, hje, hm2⟩
    · refine fin (es'.push { key := .string b, val := q3, born := ck }) (ck + 1) (by simpa using hm2) ?_
      have hfk : (Instr.findKey key (.string b) es'.toList).run P w = .ok none w := by
        simp only [Instr.findKey, Sem.run_bind, r_underlying hk, Result.andThen_ok, hfn, Sem.run_pure]
      simp only [Instr.mapUpdate, Sem.run_bind, r_underlying hs, Result.andThen_ok, hgo, run_checkKey hk, hfk, hso]
    · rw [Nat.zero_add] at hfn
      refine fin (es'.modify j fun e => { e with key := .string b, val := q3 }) ck (by simpa using hm2) ?_
      have hfk : (Instr.findKey key (.string b) es'.toList).run P w = .ok (some (j, u)) w := by
        simp only [Instr.findKey, Sem.run_bind, r_underlying hk, Result.andThen_ok, hfn, Sem.run_pure]
      have hj' : es'[j]? = some e' := by simpa using hj
      have hkts : (Instr.keyThatStays (((es'[j]?).map (·.key)).getD (.string b)) (.string b)).run P w = .ok (.string b) w := by
        rw [hj']
        simp only [Option.map_some, Option.getD_some, hje]
        unfold Instr.keyThatStays
        have : Instr.sameBits 10000 (.string b) (.string b) = true := by
          simp [Instr.sameBits, beqBA]
        rw [if_pos this]; rfl
      simp only [Instr.mapUpdate, Sem.run_bind, r_underlying hs, Result.andThen_ok, hgo, run_checkKey hk, hfk, hkts, hso]
end ops
end Go.GS
