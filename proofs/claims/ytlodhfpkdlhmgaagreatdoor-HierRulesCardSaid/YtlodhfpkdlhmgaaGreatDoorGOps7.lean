/- Each operation of G against the machine's: append. -/
import Derived.Test.YtlodhfpkdlhmgaaGreatDoorGOps6
namespace Go.GS
variable {P : Program} {B : Nat} {ρ : Ren} {h : Heap} {w : World}

theorem growBy_le (n : Nat) : ∀ (r c : Nat), c ≤ 2 * n + 192 → Builtin.growBy n r c ≤ 2 * n + 192
  | 0, c, hc => by simpa [Builtin.growBy] using hc
  | r + 1, c, hc => by
    unfold Builtin.growBy
    split
    · exact hc
    · exact growBy_le n r _ (by omega)
theorem nextcap_le {n c : Nat} (hc : c < n) : Builtin.nextslicecap n c ≤ 2 * n + 192 := by
  unfold Builtin.nextslicecap
  split
  · omega
  · split
    · omega
    · exact growBy_le n 4 c (by omega)

/-- What an append reads, on the machine. -/
structure Src (P : Program) (esz n : Nat) (X : Value) (ys : List Value) (w : World) : Prop where
  len : (Builtin.lenOf X).run P w = .ok n w
  cells : ∀ w' : World, w'.heap = w.heap → (Builtin.firstCells esz n X).run P w' = .ok ys.toArray w'

theorem cell_heap {w w' : World} (e : w'.heap = w.heap) (a : Addr) : w'.cell? a = w.cell? a := by simp [World.cell?, e]

theorem loadCells_sound' {b off n : Nat} {i : BI} {c : List Value} (s : Sim B ρ h w) (hb : ρ b = some i) (hc : h.cells b off n = some c) :
    ∃ c' : List Value, VRs ρ c c' ∧ c'.length = n ∧ ∀ w' : World, w'.heap = w.heap → (loadCells ⟨i.blk, i.d + off, none⟩ n).run P w' = .ok c'.toArray w' := by
  obtain ⟨c', h1, h2, h3⟩ := s.cells hb hc
  have hl : c'.length = n := by rw [← h1.length]; exact h2
  refine ⟨c', h1, hl, fun w' hw' => ?_⟩
  rw [← hl]
  exact run_loadCells_list w' _ c' fun j v hj => by rw [add_mk, cell_heap hw']; exact h3 j v hj

theorem src_sound (s : Sim B ρ h w) {esz n : Nat} {x X : Value} {ys : List Value} (hs : srcE h esz x = some (n, ys)) (hv : VR ρ x X) :
    ∃ ys', VRs ρ ys ys' ∧ Src P esz n X ys' w ∧ ys.length = n * esz := by
  unfold srcE at hs
  split at hs
  · cases hv
    simp at hs
    obtain ⟨rfl, rfl⟩ := hs
    exact ⟨[], .nil, ⟨by simp [Builtin.lenOf], fun _ _ => by simp [Builtin.firstCells]⟩, by simp⟩
  · rename_i a l c
    split at hs
    · rename_i h0
      subst h0
      simp at hs
      obtain ⟨rfl, rfl⟩ := hs
      refine ⟨[], .nil, ?_, by simp⟩
      cases hv <;> exact ⟨by simp [Builtin.lenOf], fun _ _ => by simp [Builtin.firstCells, loadCells, loadCellsFrom]⟩
    · rename_i h0
      cases hc : h.cells a.block a.off (l * esz) with
      | none => simp [hc] at hs
      | some cs =>
        simp [hc] at hs
        obtain ⟨rfl, rfl⟩ := hs
        have key : ∀ (i : BI) (c' : Nat), ρ a.block = some i → X = .slice (some ⟨i.blk, i.d + a.off, none⟩) l c' → ∃ ys', VRs ρ cs ys' ∧ Src P esz l X ys' w ∧ cs.length = l * esz := by
          intro i c' hb hX
          subst hX
          obtain ⟨c'', h1, h2, h3⟩ := loadCells_sound' (P := P) s hb hc
          exact ⟨c'', h1, ⟨by simp [Builtin.lenOf], fun w' hw' => by simp [Builtin.firstCells, h3 w' hw']⟩, by rw [h1.length, h2]⟩
        cases hv with
        | sl hb hs' h3 h4 => exact key _ _ hb rfl
        | slU hb hs' h3 h4 => exact key _ _ hb rfl
        | slE => exact absurd rfl h0
  · rename_i b
    cases hv
    split at hs
    · rename_i he
      subst he
      simp at hs
      obtain ⟨rfl, rfl⟩ := hs
      refine ⟨b.data.toList.map fun b => .int .u8 b.toNat, ?_, ⟨by simp [Builtin.lenOf], fun w' _ => ?_⟩, by simp⟩
      · generalize b.data.toList = l
        induction l with
        | nil => exact .nil
        | cons x l ih => exact .cons (.int _ _) ih
      · simp [Builtin.firstCells]
        apply Array.ext'
        simp
    · cases hs
  · cases hs

section
variable {t u e : TypeId} {ud : TypeDesc} {inf : TypeInfo} {z : List Value}

/-- Room there is. -/
theorem append_in (hs : P.underlying t = some (.slice e)) (hu : P.underlying u = some ud) (hud : apOk ud = true) (hi : P.info? e = some inf)
    {base : Option Addr} {l c n : Nat} {X : Value} {ys : List Value} {ty : TypeId} (src : Src P inf.size n X ys w) (hle : l + n ≤ c) {w' : World}
    (hst : (match base with | some a => storeCells (a.add (l * inf.size)) ys | none => pure () : Sem Unit).run P w = .ok () w') :
    (Builtin.append_ #[t, u] ty #[.slice base l c, X]).run P w = .ok (.slice base (l + n) c) w' := by
  have hn : sizeP P e = some inf.size := by simp [sizeP, hi]
  unfold Builtin.append_
  cases ud <;> first | (cases hud; done) | skip
  all_goals
    simp only [List.getElem?_toArray, List.getElem?_cons_zero, List.getElem?_cons_succ, Sem.run_bind, r_underlying hs, Result.andThen_ok, r_size hn, r_underlying hu, Sem.run_pure, Bool.false_eq_true, if_false,
      src.len, Bool.not_false, if_true]
    rw [if_pos hle]
    simp only [Sem.run_bind, src.cells w rfl, Result.andThen_ok]
    cases base with
    | none => simp at hst; simp [hst]
    | some a => simp only at hst; simp [hst]

/-- No room: a new block, at least as long as is wanted. -/
theorem append_re (hs : P.underlying t = some (.slice e)) (hu : P.underlying u = some ud) (hud : apOk ud = true) (hi : P.info? e = some inf) (hz : zeroL P e = some z)
    (hb0 : 0 < inf.bytes) (hb1 : inf.bytes ≤ 1048576) {base : Option Addr} {l c n : Nat} {X : Value} {ys old : List Value} {ty : TypeId} (src : Src P inf.size n X ys w) (hle : c < l + n) (hbig : (l + n) * inf.bytes ≤ 1099511627776)
    (hold : ∀ w' : World, w'.heap = w.heap → (Builtin.firstCells inf.size l (.slice base l c)).run P w' = .ok old.toArray w') (hlen : old.length + ys.length = (l + n) * inf.size) :
    ∃ (cap : Nat) (cs : Array Value), l + n ≤ cap ∧ cs.size = cap * inf.size ∧ (∀ (j : Nat) (v : Value), (old ++ ys)[j]? = some v → cs[j]? = some v) ∧
      (Builtin.append_ #[t, u] ty #[.slice base l c, X]).run P w = .ok (.slice (some ⟨w.heap.size, 0, none⟩) (l + n) cap) { w with drawn := w.drawn + 1, heap := w.heap.push (.cells cs e) } := by
  have hn : sizeP P e = some inf.size := by simp [sizeP, hi]
  obtain ⟨v, hr, hcs, hsv, hsz⟩ := zeroL_spec hz
  have hzn : v.cells.size = inf.size := by
    rw [hn] at hsz
    simp only [Option.some.injEq] at hsz
    rw [hsz, ← hcs]; simp
  obtain ⟨cap, hcap, hrun⟩ : ∃ cap, l + n ≤ cap ∧ (choose (.appendCap (l + n) c e)).run P w = .ok cap { w with drawn := w.drawn + 1 } := by
    refine ⟨_, ?_, by simp only [run_choose, Question.forced, Bool.false_eq_true, if_false]; rfl⟩
    simp only [Question.cut]; omega
  refine ⟨cap, old.toArray ++ ys.toArray ++ Builtin.zeroCells v.cells (cap - (l + n)), hcap, ?_, ?_, ?_⟩
  · simp only [Array.size_append, List.size_toArray, Builtin.zeroCells, Array.size_map, Array.size_range, hzn, hlen]
    rw [← Nat.add_mul]; congr 1; omega
  · intro j x hj
    rw [Array.getElem?_append_left (by
      have := (List.getElem?_eq_some_iff.1 hj).1
      simpa using this)]
    simpa using hj
  · have h1 : ¬ (l + n ≤ c) := by omega
    have hbig' : ¬ (Builtin.nextslicecap (l + n) c * inf.bytes > 2 ^ 48) := by
      have := nextcap_le hle
      have h2 : Builtin.nextslicecap (l + n) c * inf.bytes ≤ (2 * (l + n) + 192) * inf.bytes := Nat.mul_le_mul_right _ this
      have h3 : (2 * (l + n) + 192) * inf.bytes = 2 * ((l + n) * inf.bytes) + 192 * inf.bytes := by rw [Nat.add_mul, Nat.mul_assoc]
      omega
    have hne : ¬ (((l + n : Nat) : Int) > IntKind.i64.max ∧ (False ∨ inf.bytes = 0)) := by
      rintro ⟨_, h | h⟩
      · exact h
      · omega
    unfold Builtin.append_
    cases ud <;> first | (cases hud; done) | skip
    all_goals
      simp only [List.getElem?_toArray, List.getElem?_cons_zero, List.getElem?_cons_succ, Sem.run_bind, r_underlying hs, Result.andThen_ok, r_size hn, r_underlying hu, Sem.run_pure, Bool.false_eq_true, if_false,
        src.len, Bool.not_false, if_true]
      rw [if_neg h1]
      simp only [Sem.run_bind, r_info hi, Result.andThen_ok]
      rw [if_neg hne]
      simp only [Sem.run_bind, r_info hi, Result.andThen_ok]
      rw [if_neg hbig']
      simp only [Sem.run_bind, r_info hi, Result.andThen_ok, hrun, run_askRoom, hold { w with drawn := w.drawn + 1 } rfl, src.cells { w with drawn := w.drawn + 1 } rfl, hr, run_newRow, Sem.run_pure]
end

section ops
variable {o : Oper} {a : Act} {env : List Value} (s : Sim B ρ h w) (E : EnvR ρ env a.tmps)
include s E

theorem ok_app {c : Call} {t u e : TypeId} {ud : TypeDesc} {inf : TypeInfo} {z : List Value} {x y : Operand} {v : Value} {h' : Heap} (hop : o.op = .call c) (hc : c.callee = .builtin .append) (ht : c.argTypes.toList = [t, u]) (ha : c.args.toList = [x, y])
    (hx : okAll [x, y] = true) (hs : P.underlying t = some (.slice e)) (hu : P.underlying u = some ud) (hud : apOk ud = true) (hi : P.info? e = some inf) (hz : zeroL P e = some z) (hb0 : 0 < inf.bytes) (hb1 : inf.bytes ≤ 1048576)
    (hr : appE h inf.size inf.bytes (ev env x) (ev env y) = some (v, h')) : OpOK P o a B ρ h w v h' := by
  simp [okAll] at hx
  have h1 := E.ev hx.1
  have h2 := E.ev hx.2
  generalize hq : a.eval x = S at h1
  generalize hq2 : a.eval y = X at h2
  have e1 : c.argTypes = #[t, u] := by rw [← Array.toArray_toList (xs := c.argTypes), ht]
  have e2 : c.args = #[x, y] := by rw [← Array.toArray_toList (xs := c.args), ha]
  have fin : ∀ {v' : Value} {w' : World}, (Builtin.append_ #[t, u] o.type #[S, X]).run P w = .ok v' w' → (execOp a.eval o).run P w = .ok (.value v') w' := by
    intro v' w' hh
    simp [execOp, hop, resolve, hc, e1, e2, hq, hq2, invoke, builtin, hh]
  generalize ev env x = sv at h1 hr
  generalize ev env y = xv at h2 hr
  unfold appE at hr
  split at hr
  · rename_i n ys base l cp hsrc
    obtain ⟨ys', hys, hsr, hyl⟩ := src_sound (P := P) s hsrc h2
    have hyl' : ys'.length = n * inf.size := by rw [← hys.length]; exact hyl
    split at hr
    · -- nothing is appended
      rename_i hn0
      subst hn0
      simp only [Option.some.injEq, Prod.mk.injEq] at hr
      obtain ⟨rfl, rfl⟩ := hr
      have hy0 : ys' = [] := List.length_eq_zero_iff.1 (by omega)
      subst hy0
      have key : ∀ (base' : Option Addr) (c' : Nat), S = .slice base' l c' → l ≤ c' → OpOK P o a B ρ h w (.slice base l cp) h := by
        intro base' c' hS hle
        subst hS
        refine OpOK.same s (fin (append_in hs hu hud hi hsr (by omega) (w' := w) (by cases base' <;> simp [storeCells]))) ?_
        exact h1
      cases h1 with
      | slN => exact key _ _ rfl (Nat.le_refl _)
      | sl hb hs' h3 h4 => exact key _ _ rfl h4
      | slU hb hs' h3 h4 => exact key _ _ rfl h3
      | slE => exact key _ _ rfl (Nat.zero_le _)
    · rename_i hn0
      split at hr
      · cases hr
      · rename_i hbig
        have hbig' : (l + n) * inf.bytes ≤ 1099511627776 := by omega
        have hcel : ys.all cellable = true := by cases hh : ys.all cellable with | true => rfl | false => exact absurd (.inr hh) hbig
        -- a new block
        have fresh : ∀ (base' : Option Addr) (c' : Nat) (old old' : List Value) (h0 : Heap), S = .slice base' l c' → c' < l + n → VRs ρ old old' → old.length = l * inf.size →
            (∀ w' : World, w'.heap = w.heap → (Builtin.firstCells inf.size l (.slice base' l c')).run P w' = .ok old'.toArray w') → (Sim B ρ h0 w ∧ Step B ρ h w ρ h0 w) →
            OpOK P o a B ρ h w (pushS h0 inf.size (l + n) (old ++ ys)).1 (pushS h0 inf.size (l + n) (old ++ ys)).2 := by
          intro base' c' old old' h0 hS hlt hov hol hfc hst
          subst hS
          have hol' : old'.length = l * inf.size := by rw [← hov.length]; exact hol
          obtain ⟨cap, cs, hcap, hcs, hget, hrun⟩ := append_re (ty := o.type) hs hu hud hi hz hb0 hb1 hsr hlt hbig' hfc (by rw [hol', hyl', ← Nat.add_mul])
          have hall := hov.append hys
          obtain ⟨s', t'⟩ := push_sound (w' := { w with drawn := w.drawn + 1, heap := w.heap.push (.cells cs e) }) hst.1 (.arr false inf.size (old ++ ys)) (.cells cs e) ⟨w.heap.size, 0, cs.size, inf.size⟩ rfl rfl
            ⟨cs, e, (0, 0), rfl, rfl, rfl, by
              have : (l + n) * inf.size ≤ cap * inf.size := Nat.mul_le_mul_right _ hcap
              simp only [List.length_append, hol, hyl, hcs, Nat.zero_add]
              rw [← Nat.add_mul]; exact this, fun j v hj => by
                obtain ⟨v', h5, h6⟩ := hall.get j v hj
                exact ⟨v', by rw [Nat.zero_add]; exact hget j v' h5, h6⟩, fun _ hlt => absurd hlt (by simp)⟩
          refine ⟨_, _, _, ⟨_, fin hrun, .inl rfl⟩, ?_, s', hst.2.trans s t'⟩
          exact .slU (i := ⟨w.heap.size, 0, cs.size, inf.size⟩) (Ren.add_self _ _ _) rfl hcap (by simp [hcs])
        split at hr
        · -- nil
          split at hr
          · rename_i hlc
            obtain ⟨rfl, rfl⟩ := hlc
            simp only [Option.some.injEq] at hr
            cases h1
            have := fresh none 0 [] [] h rfl (by omega) .nil (by simp) (fun _ _ => by simp [Builtin.firstCells]) ⟨s, Step.refl _ _ _ _⟩
            simp only [Nat.zero_add, List.nil_append] at this
            rw [hr] at this
            exact this
          · cases hr
        · rename_i p
          split at hr
          · cases hr
          · rename_i hune
            split at hr
            · -- capacity unknown
              rename_i hunk
              subst hunk
              split at hr
              · rename_i sz cs hg
                split at hr
                · rename_i hcond
                  obtain ⟨hnb, rfl, hoff⟩ := hcond
                  simp only [Option.some.injEq] at hr
                  cases h1 with
                  | sl hb hs' h3 h4 => exact absurd h3 (Nat.lt_irrefl _)
                  | slU hb hs' h3 h4 =>
                    rename_i i c'
                    have hown : h.ownAt p.block := ⟨_, hg, rfl⟩
                    have hcells : h.cells p.block p.off (l * inf.size) = some ((cs.drop p.off).take (l * inf.size)) := by
                      unfold Heap.cells; rw [hg]; simp only; rw [if_pos hoff]
                    have hol : ((cs.drop p.off).take (l * inf.size)).length = l * inf.size := by simp; omega
                    obtain ⟨old', hov, hol', hlo⟩ := loadCells_sound' (P := P) s hb hcells
                    by_cases hroom : l + n ≤ c'
                    · -- in place
                      obtain ⟨xb, ob, g1, g2, g3⟩ := s.blk _ _ hb
                      rw [hg] at g1; cases g1
                      obtain ⟨cc, te, fr, rfl, k1, k2, k3, k4, k5⟩ := g3
                      rw [k2] at h4
                      have hmul : (l + n) * inf.size ≤ c' * inf.size := Nat.mul_le_mul_right _ hroom
                      rw [Nat.add_mul] at hmul
                      have hstore := run_storeCells_own (P := P) i.blk (i.d + p.off + l * inf.size) te fr ys' 0 cc w g2 (k5 rfl) (by omega) (cellable_VRs hys hcel)
                      have hrun := fin (append_in (ty := o.type) hs hu hud hi hsr hroom (base := some ⟨i.blk, i.d + p.off, none⟩) (by simp only [add_mk]; exact hstore))
                      obtain ⟨s', t'⟩ := regrow_sound (w' := { w with heap := w.heap.setIfInBounds i.blk (.cells (splice cc.toList (i.d + p.off + l * inf.size + 0) ys').toArray te fr) }) s hb hnb hown
                        (.arr false inf.size ((cs.drop p.off).take (l * inf.size) ++ ys)) (.cells (splice cc.toList (i.d + p.off + l * inf.size + 0) ys').toArray te fr) ⟨i.blk, i.d + p.off, i.size, inf.size⟩ rfl (by simp)
                        (fun c => by
                          have hrng := s.rng hb
                          simp only [Array.getElem?_setIfInBounds]
                          by_cases hcc : i.blk = c
                          · subst hcc; simp [hrng]
                          · have : ¬ c = i.blk := fun e => hcc e.symm
                            simp [hcc, this])
                        ⟨_, te, fr, rfl, by simp; rw [splice_length (by simp; omega)]; simpa using k1, rfl, by simp; rw [splice_length (by simp; omega)]; simp; omega, fun j v hj => by
                          simp only [List.getElem?_toArray, Nat.add_zero]
                          rw [splice_get (by simp; omega)]
                          by_cases hjl : j < l * inf.size
                          · rw [List.getElem?_append_left (by rw [hol]; exact hjl), List.getElem?_take, if_pos hjl, List.getElem?_drop] at hj
                            obtain ⟨v', h5, h6⟩ := k4 _ v hj
                            rw [if_neg (by omega)]
                            exact ⟨v', by rw [← h5]; simp [Nat.add_assoc], h6⟩
                          · rw [List.getElem?_append_right (by rw [hol]; omega), hol] at hj
                            have hjy := (List.getElem?_eq_some_iff.1 hj).1
                            obtain ⟨v', h5, h6⟩ := hys.get _ v hj
                            rw [if_pos (by omega)]
                            exact ⟨v', by rw [← h5]; congr 1; omega, h6⟩, fun _ hlt => by
                          have := k5 rfl hlt
                          simp; rw [splice_length (by simp; omega)]; simpa using this⟩
                      have hss : (h.put p.block .dead).size = h.size := Heap.size_put _ _ _
                      simp only [pushS, hss, Prod.mk.injEq] at hr
                      obtain ⟨rfl, rfl⟩ := hr
                      refine ⟨_, _, _, ⟨_, hrun, .inl rfl⟩, ?_, s', t'⟩
                      exact .slU (a := ⟨h.size, 0, none⟩) (i := ⟨i.blk, i.d + p.off, i.size, inf.size⟩) (Ren.add_self _ _ _) rfl hroom (by simp only; omega)
                    · have hk := kill_sound s hb hnb hown
                      have := fresh _ c' _ old' (h.put p.block .dead) rfl (by omega) hov hol (fun w' hw' => by simp [Builtin.firstCells, hlo w' hw']) hk
                      rw [hr] at this
                      exact this
                · cases hr
              · cases hr
            · rename_i hunk
              split at hr
              · -- in place, for sure
                rename_i hle
                cases hst : h.store p.block (p.off + l * inf.size) ys with
                | none => simp [hst] at hr
                | some h1' =>
                  simp only [hst, Option.map_some, Option.some.injEq, Prod.mk.injEq] at hr
                  obtain ⟨rfl, rfl⟩ := hr
                  cases h1 with
                  | slU => exact absurd rfl hunk
                  | slE => exact absurd rfl hune
                  | sl hb hs' h3 h4 =>
                    rename_i i
                    obtain ⟨w', hrun, s', t'⟩ := store_sound (P := P) s hb hst hys w rfl
                    rw [← Nat.add_assoc] at hrun
                    have hrun' := fin (append_in (ty := o.type) hs hu hud hi hsr hle (base := some ⟨i.blk, i.d + p.off, none⟩) (w' := w') (by simp only [add_mk]; exact hrun))
                    exact ⟨_, _, ρ, ⟨_, hrun', .inl rfl⟩, .sl hb hs' h3 hle, s', t'⟩
              · -- a new block, for sure
                rename_i hgt
                cases hcs : h.cells p.block p.off (l * inf.size) with
                | none => simp [hcs] at hr
                | some old =>
                  simp only [hcs, Option.map_some, Option.some.injEq] at hr
                  cases h1 with
                  | slU => exact absurd rfl hunk
                  | slE => exact absurd rfl hune
                  | sl hb hs' h3 h4 =>
                    rename_i i
                    obtain ⟨old', hov, hol', hlo⟩ := loadCells_sound' (P := P) s hb hcs
                    have := fresh _ cp old old' h rfl (by omega) hov (by rw [hov.length, hol']) (fun w' hw' => by simp [Builtin.firstCells, hlo w' hw']) ⟨s, Step.refl _ _ _ _⟩
                    rw [hr] at this
                    exact this
  · cases hr
end ops
end Go.GS
