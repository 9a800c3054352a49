/- Each operation of G against the machine's: those that build, store, grow. -/
import Derived.Test.YtlodhfpkdlhmgaaGreatDoorGOps2
namespace Go.GS
variable {P : Program} {B : Nat} {ρ : Ren} {h : Heap} {w : World}

theorem isBot_false {v : Value} (h : isBot v = false) : v ≠ .tuple #[] := by rintro rfl; simp [isBot] at h

theorem splice_length {c vs : List Value} {off : Nat} (h : off + vs.length ≤ c.length) : (splice c off vs).length = c.length := by
  unfold splice; simp; omega
theorem splice_get {c vs : List Value} {off j : Nat} (h : off + vs.length ≤ c.length) :
    (splice c off vs)[j]? = if off ≤ j ∧ j < off + vs.length then vs[j - off]? else c[j]? := by
  unfold splice
  have hl : (c.take off).length = off := by simp; omega
  by_cases h1 : j < off
  · rw [List.append_assoc, List.getElem?_append_left (by omega), List.getElem?_take, if_pos h1, if_neg (by omega)]
  · by_cases h2 : j < off + vs.length
    · rw [List.append_assoc, List.getElem?_append_right (by omega), hl, List.getElem?_append_left (by omega), if_pos (by omega)]
    · rw [List.append_assoc, List.getElem?_append_right (by omega), hl, List.getElem?_append_right (by omega), List.getElem?_drop, if_neg (by omega)]
      congr 1; omega

theorem foldl_set : ∀ (l : List Value) (k : Nat) (cs : Array Value) (off : Nat), off + k + l.length ≤ cs.size →
    ((l.zipIdx k).foldl (fun cs p => cs.setIfInBounds (off + p.2) p.1) cs).toList = splice cs.toList (off + k) l
  | [], k, cs, off, h => by simp [splice]
  | v :: l, k, cs, off, h => by
    simp only [List.length_cons] at h
    simp only [List.zipIdx_cons, List.foldl_cons]
    rw [foldl_set l (k + 1) _ off (by simp; omega)]
    apply List.ext_getElem?
    intro j
    rw [splice_get (by simp; omega), splice_get (by simp; omega)]
    simp only [Array.toList_setIfInBounds, List.length_cons, List.getElem?_set, Array.length_toList]
    by_cases h1 : off + k = j
    · subst h1
      have h2 : ¬ (off + (k + 1) ≤ off + k ∧ off + k < off + (k + 1) + l.length) := by omega
      have h3 : off + k ≤ off + k ∧ off + k < off + k + (l.length + 1) := by omega
      have h4 : off + k < cs.size := by omega
      rw [if_neg h2, if_pos h3]
      simp [h4]
    · by_cases h2 : off + (k + 1) ≤ j ∧ j < off + (k + 1) + l.length
      · have h3 : off + k ≤ j ∧ j < off + k + (l.length + 1) := by omega
        rw [if_pos h2, if_pos h3]
        have : j - (off + k) = (j - (off + (k + 1))) + 1 := by omega
        rw [this, List.getElem?_cons_succ]
      · have h3 : ¬ (off + k ≤ j ∧ j < off + k + (l.length + 1)) := by omega
        simp [h1, h2, h3]

theorem fill_sound (place : Nat → Option (Nat × Nat)) : ∀ (ps : List (Nat × Nat × Value)) (qs : List (Nat × Value)) (c : List Value) (c' : Array Value) (r : List Value),
    fillL c ps = some r → VRs ρ c c'.toList → ps.length = qs.length →
    (∀ (j : Nat) (p : Nat × Nat × Value) (q : Nat × Value), ps[j]? = some p → qs[j]? = some q → place q.1 = some (p.1, p.2.1) ∧ VR ρ p.2.2 q.2) →
    ∃ r' : Array Value, Instr.fill place c' qs = some r' ∧ VRs ρ r r'.toList
  | [], [], c, c', r, hf, hc, _, _ => by simp [fillL] at hf; subst hf; exact ⟨c', rfl, hc⟩
  | [], _ :: _, _, _, _, _, _, hl, _ => by simp at hl
  | _ :: _, [], _, _, _, _, _, hl, _ => by simp at hl
  | (off, size, v) :: ps, (i, u) :: qs, c, c', r, hf, hc, hl, hp => by
    simp only [fillL] at hf
    split at hf
    · rename_i hcond
      obtain ⟨hbot, hsz, hoff⟩ := hcond
      obtain ⟨hpl, hvr⟩ := hp 0 _ _ rfl rfl
      simp only at hpl hvr
      have hcv := hvr.cellsL (isBot_false hbot)
      have hlen := hc.length
      simp only [Array.length_toList] at hlen
      have hul : u.cells.size = size := by
        rw [← hsz, hcv.length, ← cells_toList]; simp
      have hcond' : ¬ ((u.cells.size ≠ size || off + u.cells.size > c'.size) = true) := by
        simp [hul]; omega
      have hfold : (u.cells.zipIdx.foldl (fun cs p => cs.setIfInBounds (off + p.2) p.1) c').toList = splice c'.toList off (cellsL u) := by
        rw [← Array.foldl_toList, Array.toList_zipIdx, foldl_set _ 0 _ _ (by simp; omega), cells_toList]; rfl
      have hsp : VRs ρ (splice c off (cellsL v)) (u.cells.zipIdx.foldl (fun cs p => cs.setIfInBounds (off + p.2) p.1) c').toList := by
        rw [hfold]; exact hc.splice off hcv
      obtain ⟨r', h1, h2⟩ := fill_sound place ps qs _ _ r hf hsp (by simpa using hl) (fun j p q a b => hp (j + 1) p q (by simpa using a) (by simpa using b))
      refine ⟨r', ?_, h2⟩
      simp only [Instr.fill, hpl]
      rw [if_neg hcond']
      exact h1
    · cases hf

theorem run_mapM_list {α β : Type} (f : α → Sem β) (g : α → β) : ∀ (l : List α) (w : World), (∀ x ∈ l, ∀ w : World, (f x).run P w = .ok (g x) w) → (l.mapM f).run P w = .ok (l.map g) w
  | [], w, _ => by simp
  | x :: l, w, hx => by
    rw [List.mapM_cons]
    simp [hx x (by simp), run_mapM_list f g l w (fun y hy => hx y (by simp [hy]))]
theorem run_mapM_array {α β : Type} (f : α → Sem β) (g : α → β) (l : Array α) (w : World) (hx : ∀ x ∈ l, ∀ w : World, (f x).run P w = .ok (g x) w) : (l.mapM f).run P w = .ok (l.map g) w := by
  have h1 : (Array.toList <$> l.mapM f).run P w = .ok (l.toList.map g) w := by
    rw [Array.toList_mapM]
    exact run_mapM_list f g l.toList w (fun x hx' => hx x (by simpa using hx'))
  rw [Sem.run_map] at h1
  cases hr : (l.mapM f).run P w with
  | ok r w' =>
    rw [hr] at h1
    simp only [Result.andThen_ok, Result.ok.injEq] at h1
    obtain ⟨h2, rfl⟩ := h1
    congr 1
    apply Array.ext'
    simpa using h2
  | halt x w' => rw [hr] at h1; simp at h1

theorem mod_flatten (z : Array Value) : ∀ (n : Nat), ((Array.range (n * z.size)).map fun i => z[i % z.size]!).toList = (List.replicate n z.toList).flatten := by
  intro n
  by_cases hz : z.size = 0
  · have : z = #[] := Array.eq_empty_of_size_eq_zero hz
    subst this
    simp
  · apply List.ext_getElem?
    intro j
    have hlen : ((List.replicate n z.toList).flatten).length = n * z.size := by simp
    by_cases hj : j < n * z.size
    · have hdiv : j / z.size < n := (Nat.div_lt_iff_lt_mul (by omega)).2 hj
      have hmod : j % z.size < z.size := Nat.mod_lt _ (by omega)
      have h1 : ((Array.range (n * z.size)).map fun i => z[i % z.size]!).toList[j]? = some z[j % z.size] := by
        simp [hj, hmod]
      rw [h1]
      have key : ∀ (n j : Nat), j < n * z.size → ((List.replicate n z.toList).flatten)[j]? = z.toList[j % z.size]? := by
        intro n
        induction n with
        | zero => intro j hj; omega
        | succ n ih =>
          intro j hj
          rw [List.replicate_succ, List.flatten_cons]
          by_cases hjz : j < z.size
          · rw [List.getElem?_append_left (by simpa using hjz), Nat.mod_eq_of_lt hjz]
          · rw [List.getElem?_append_right (by simp; omega)]
            simp only [Array.length_toList]
            rw [ih (j - z.size) (by rw [Nat.add_mul] at hj; omega), Nat.mod_eq_sub_mod (by omega : z.size ≤ j)]
      rw [key n j hj]
      simp [hmod]
    · rw [List.getElem?_eq_none (by simp; omega), List.getElem?_eq_none (by simp; omega)]

theorem VRs.flatten {z z' : List Value} (hz : VRs ρ z z') : ∀ n : Nat, VRs ρ (List.replicate n z).flatten (List.replicate n z').flatten
  | 0 => .nil
  | n + 1 => by rw [List.replicate_succ, List.replicate_succ, List.flatten_cons, List.flatten_cons]; exact hz.append (hz.flatten n)

theorem partsS_spec {fs : Array Field} : ∀ {l : List (Nat × Operand)} {ps : List (Nat × Nat × Operand)}, partsS P fs l = some ps →
    ps.length = l.length ∧ ∀ (j : Nat) (p : Nat × Nat × Operand) (q : Nat × Operand), ps[j]? = some p → l[j]? = some q → ∃ f, fs[q.1]? = some f ∧ p.1 = f.offset ∧ sizeP P f.type = some p.2.1 ∧ p.2.2 = q.2 ∧ okOpd q.2 = true
  | [], ps, hp => by simp [partsS] at hp; subst hp; exact ⟨rfl, fun j p q h => by simp at h⟩
  | (i, x) :: l, ps, hp => by
    simp only [partsS] at hp
    cases hf : fs[i]? with
    | none => simp [hf] at hp
    | some f =>
      cases hr : partsS P fs l with
      | none => simp [hf, hr] at hp
      | some qs =>
        simp only [hf, hr] at hp
        cases hn : sizeP P f.type with
        | none => simp [hn] at hp
        | some n =>
          simp only [hn] at hp
          split at hp
          · rename_i hx
            cases hp
            obtain ⟨h1, h2⟩ := partsS_spec hr
            refine ⟨by simp [h1], fun j p q hj hq => ?_⟩
            cases j with
            | zero => simp at hj hq; subst hj hq; exact ⟨f, hf, rfl, hn, rfl, hx⟩
            | succ j => exact h2 j p q (by simpa using hj) (by simpa using hq)
          · cases hp

section ops
variable {o : Oper} {a : Act} {env : List Value} (s : Sim B ρ h w) (E : EnvR ρ env a.tmps)
include s E

theorem ok_build {t : TypeId} {fs : Array Field} {qs : Array (Nat × Operand)} {ps : List (Nat × Nat × Operand)} {z c : List Value} (hop : o.op = .build t qs) (hs : P.underlying t = some (.struct fs)) (hz : zeroL P t = some z)
    (hall : fs.all (fun f => (sizeP P f.type).isSome) = true) (hps : partsS P fs qs.toList = some ps) (hf : fillL z (ps.map fun p => (p.1, p.2.1, ev env p.2.2)) = some c) : OpOK P o a B ρ h w (.agg c.toArray) h := by
  obtain ⟨v, hr, hcs, hsv, _⟩ := zeroL_spec hz
  have hc : VRs ρ z v.cells.toList := by rw [hcs, ← hcs, cells_toList]; exact simpleV_cells hsv
  obtain ⟨hl, hp⟩ := partsS_spec hps
  have hmap : ∀ w : World, (fs.mapM fun f : Field => do pure (f.offset, ← sizeOf f.type)).run P w = .ok (fs.map fun f : Field => (f.offset, (sizeP P f.type).getD 0)) w := by
    intro w
    refine run_mapM_array _ _ fs w fun f hf w => ?_
    have := (Array.all_eq_true_iff_forall_mem.1 hall) f hf
    obtain ⟨n, hn⟩ := Option.isSome_iff_exists.1 this
    simp [r_size hn, hn]
  obtain ⟨r', h1, h2⟩ := fill_sound (ρ := ρ) ((fs.map fun f : Field => (f.offset, (sizeP P f.type).getD 0))[·]?) (ps.map fun p => (p.1, p.2.1, ev env p.2.2)) (qs.toList.map fun p => (p.1, a.eval p.2)) z v.cells c hf hc (by simp [hl])
    (fun j p q hj hq => by
      rw [List.getElem?_map] at hj hq
      cases hj0 : ps[j]? with
      | none => simp [hj0] at hj
      | some p0 =>
        cases hq0 : qs.toList[j]? with
        | none => simp [hq0] at hq
        | some q0 =>
          simp only [hj0, hq0, Option.map_some, Option.some.injEq] at hj hq
          subst hj hq
          obtain ⟨f, hf1, hf2, hf3, hf4, hf5⟩ := hp j p0 q0 hj0 hq0
          refine ⟨by simp [hf1, hf2, hf3], ?_⟩
          simp only [hf4]
          exact E.ev hf5)
  refine OpOK.same s (v' := .agg r') ?_ (.agg (by simpa using h2))
  have e1 : ∀ w : World, (Instr.build t (qs.map fun x => (x.1, a.eval x.2))).run P w = .ok (.agg r') w := by
    intro w
    unfold Instr.build
    simp only [Sem.run_bind, hr, r_underlying hs, Result.andThen_ok, hmap]
    simp only [Array.toList_map, h1]
    rfl
  simp [execOp, hop, e1]

theorem ok_bslice {t e : TypeId} {n len : Nat} {qs : Array (Nat × Operand)} {z c : List Value} (hop : o.op = .buildSlice t len qs) (hs : P.underlying t = some (.slice e)) (hn : sizeP P e = some n) (hz : zeroL P e = some z)
    (hlen : len * n ≤ 16777216) (h0 : 0 < n) (hok : (qs.toList.all fun p => okOpd p.2) = true)
    (hf : fillL (List.replicate len z).flatten ((qs.toList.map fun p => (p.1 * n, n, p.2)).map fun p => (p.1, p.2.1, ev env p.2.2)) = some c) :
    OpOK P o a B ρ h w (.slice (some ⟨h.size, 0, none⟩) len len) (h.push (.arr false n c)) := by
  obtain ⟨v, hr, hcs, hsv, hsz⟩ := zeroL_spec hz
  have hzn : v.cells.size = n := by
    have h1 := hsz.symm.trans hn
    simp only [Option.some.injEq] at h1
    rw [← h1, ← hcs]; simp
  have hc0 : VRs ρ z v.cells.toList := by rw [hcs, ← hcs, cells_toList]; exact simpleV_cells hsv
  have hc : VRs ρ (List.replicate len z).flatten ((Array.range (len * n)).map fun i => v.cells[i % v.cells.size]!).toList := by
    rw [← hzn, mod_flatten]; exact hc0.flatten len
  obtain ⟨r', h1, h2⟩ := fill_sound (ρ := ρ) (fun i => some (i * n, n)) _ (qs.toList.map fun p => (p.1, a.eval p.2)) _ _ c hf hc (by simp)
    (fun j p q hj hq => by
      rw [List.getElem?_map, List.getElem?_map] at hj
      rw [List.getElem?_map] at hq
      cases hq0 : qs.toList[j]? with
      | none => simp [hq0] at hq
      | some q0 =>
        simp only [hq0, Option.map_some, Option.some.injEq] at hj hq
        subst hj hq
        exact ⟨rfl, E.ev (List.all_eq_true.1 hok q0 (List.mem_of_getElem? hq0))⟩)
  refine OpOK.box s n e h2 _ (.slice (some ⟨w.heap.size, 0, none⟩) len len) ?_ ?_
  · have e1 : ∀ w : World, (Instr.buildSlice t len (qs.map fun x => (x.1, a.eval x.2))).run P w = .ok (.slice (some ⟨w.heap.size, 0, none⟩) len len) { w with heap := w.heap.push (.cells r' e) } := by
      intro w
      unfold Instr.buildSlice
      have hlim : ¬ len * n > 2 ^ 24 := by omega
      simp only [Sem.run_bind, r_underlying hs, r_size hn, Result.andThen_ok]
      rw [if_neg hlim]
      by_cases hz0 : len * n = 0
      · have hr0 : Array.range 0 = #[] := rfl
        simp only [hz0, hr0, List.map_toArray, List.map_nil] at h1
        simp only [hz0, if_true, Sem.run_bind, Result.andThen_ok, Sem.run_pure, Array.toList_map, hr0, Array.map_empty, h1]
        simp [newRow]
      · simp only [hz0, if_false, Sem.run_bind, hr, Result.andThen_ok, Sem.run_pure, Array.toList_map, h1]
        simp [newRow]
    simp [execOp, hop, e1]
  · refine .sl (i := ⟨w.heap.size, 0, r'.size, n⟩) (Ren.add_self _ _ _) rfl ?_ (Nat.le_refl _)
    have : len ≤ len * n := Nat.le_mul_of_pos_right _ h0
    unfold UNK; omega
end ops
end Go.GS
