/- Each operation of G against the machine's: stores, bytes, maps, slices. -/
import Derived.Test.YtlodhfpkdlhmgaaGreatDoorGOps3
namespace Go.GS
variable {P : Program} {B : Nat} {ρ : Ren} {h : Heap} {w : World}

theorem splice_cons {c vs : List Value} {v : Value} {off : Nat} (h : off + (vs.length + 1) ≤ c.length) : splice (c.set off v) (off + 1) vs = splice c off (v :: vs) := by
  apply List.ext_getElem?
  intro j
  rw [splice_get (by simp; omega), splice_get (by simp; omega)]
  simp only [List.length_cons, List.getElem?_set]
  by_cases h1 : off = j
  · subst h1
    rw [if_neg (by omega), if_pos (by omega)]
    simp; omega
  · by_cases h2 : off + 1 ≤ j ∧ j < off + 1 + vs.length
    · rw [if_pos h2, if_pos (by omega)]
      have : j - off = (j - (off + 1)) + 1 := by omega
      rw [this, List.getElem?_cons_succ]
    · rw [if_neg h2, if_neg h1, if_neg (by omega)]

theorem cellable_one {v : Value} (h : cellable v = true) : v.oneCell' = true := by cases v <;> simp_all [cellable, Value.oneCell']

theorem run_storeCells_own (g o : Nat) (t : TypeId) (fz : Nat × Nat) : ∀ (vs : List Value) (i : Nat) (cur : Array Value) (w : World), w.heap[g]? = some (.cells cur t fz) →
    (fz.1 < fz.2 → cur.size ≤ fz.1) → o + i + vs.length ≤ cur.size → vs.all cellable = true →
    (storeCells ⟨g, o, none⟩ vs i).run P w = .ok () { w with heap := w.heap.setIfInBounds g (.cells (splice cur.toList (o + i) vs).toArray t fz) }
  | [], i, cur, w, hg, hf, hl, _ => by
    have : (splice cur.toList (o + i) []) = cur.toList := by unfold splice; simp
    simp only [storeCells, Sem.run_pure, this, Array.toArray_toList]
    congr 1
    have : w.heap.setIfInBounds g (.cells cur t fz) = w.heap := by
      apply Array.ext_getElem?
      intro j
      rw [Array.getElem?_setIfInBounds]
      split
      · rename_i hj; subst hj; split
        · exact hg.symm
        · rename_i hn; rw [Array.getElem?_eq_none (by omega)]
      · rfl
    rw [this]
  | v :: vs, i, cur, w, hg, hf, hl, hc => by
    simp only [List.length_cons] at hl
    simp only [List.all_cons, Bool.and_eq_true] at hc
    have hgl : g < w.heap.size := by
      rcases Nat.lt_or_ge g w.heap.size with h | h
      · exact h
      · rw [Array.getElem?_eq_none h] at hg; cases hg
    have hcell : w.cell? ⟨g, o + i, none⟩ = some cur[o + i] := by simp [World.cell?, hg]
    have hfro : w.frozen? ⟨g, o + i, none⟩ = false := by
      simp only [World.frozen?, hg]
      by_cases h1 : fz.1 < fz.2
      · have := hf h1
        simp; omega
      · simp; omega
    have hst : (store ((⟨g, o, none⟩ : Addr).add i) v).run P w = .ok () { w with heap := w.heap.setIfInBounds g (.cells (cur.setIfInBounds (o + i) v) t fz) } := by
      rw [add_mk, run_store P w _ v _ (cellable_one hc.1)]
      simp only [hcell, hfro, Bool.false_eq_true, if_false]
      congr 1
      simp only [World.setCell]
      congr 1
      apply Array.ext_getElem?
      intro j
      rw [Array.getElem?_modify, Array.getElem?_setIfInBounds]
      by_cases hj : g = j
      · subst hj
        have hgv : w.heap[g] = .cells cur t fz := by rw [Array.getElem?_eq_getElem hgl] at hg; exact Option.some.inj hg
        simp [hgl, hgv]
      · simp [hj]
    have ih := run_storeCells_own g o t fz vs (i + 1) (cur.setIfInBounds (o + i) v) { w with heap := w.heap.setIfInBounds g (.cells (cur.setIfInBounds (o + i) v) t fz) }
      (by simp [hgl]) (by simpa using hf) (by simp; omega) hc.2
    simp only [storeCells, Sem.run_bind, hst, Result.andThen_ok, ih]
    congr 1
    have hsp : splice (cur.setIfInBounds (o + i) v).toList (o + (i + 1)) vs = splice cur.toList (o + i) (v :: vs) := by
      rw [Array.toList_setIfInBounds, ← Nat.add_assoc]
      exact splice_cons (by simp; omega)
    rw [hsp]
    simp

theorem cellable_VRs : ∀ {a b : List Value}, VRs ρ a b → a.all cellable = true → b.all cellable = true := by
  intro a b hab
  induction a generalizing b with
  | nil => cases hab; simp
  | cons x a ih =>
    cases hab with
    | cons hx ht =>
      intro hc
      simp only [List.all_cons, Bool.and_eq_true] at hc ⊢
      refine ⟨?_, ih ht hc.2⟩
      cases hx <;> simp_all [cellable]
/-- A store on both sides: the cells of an own block. -/
theorem store_sound (s : Sim B ρ h w) {b off : Nat} {i : BI} {vs vs' : List Value} {h' : Heap} (hb : ρ b = some i) (hst : h.store b off vs = some h') (hv : VRs ρ vs vs') (w0 : World) (hw0 : w0.heap = w.heap) (hio0 : w0.os = w.os ∧ w0.output = w.output := by exact ⟨rfl, rfl⟩) :
    ∃ w', (storeCells ⟨i.blk, i.d + off, none⟩ vs').run P w0 = .ok () w' ∧ Sim B ρ h' w' ∧ Step B ρ h w ρ h' w' := by
  unfold Heap.store at hst
  obtain ⟨x, ob, h1, h2, h3⟩ := s.blk b i hb
  rw [h1] at hst
  cases x with
  | map es => cases hst
  | dead => cases hst
  | arr ro sz c =>
    cases ro with
    | true => cases hst
    | false =>
      simp only at hst
      split at hst
      · rename_i hcond
        obtain ⟨hnb, hlen, hall⟩ := hcond
        cases hst
        obtain ⟨c', e, fr, rfl, h4, h5, h6, h7, h8⟩ := h3
        have hvl := hv.length
        have hcell : vs'.all cellable = true := cellable_VRs hv hall
        have hrun := run_storeCells_own (P := P) i.blk (i.d + off) e fr vs' 0 c' w0 (by rw [hw0]; exact h2) (h8 rfl) (by omega) hcell
        rw [Nat.add_zero] at hrun
        refine ⟨_, hrun, ?_⟩
        have hrng := s.rng hb
        refine put_sound s hb hnb ⟨_, h1, rfl⟩ (.arr false sz (splice c off vs)) (.cells (splice c'.toList (i.d + off) vs').toArray e fr) (by simp [hw0]) ?_ ?_ hio0
        · intro cc
          simp only [hw0, Array.getElem?_setIfInBounds]
          by_cases hcc : i.blk = cc
          · subst hcc; simp [hrng]
          · have : ¬ cc = i.blk := fun e => hcc e.symm
            simp [hcc, this]
        · refine ⟨_, e, fr, rfl, ?_, h5, ?_, ?_, ?_⟩
          · simp; rw [splice_length (by simp; omega)]; simpa using h4
          · simp; rw [splice_length hlen, splice_length (by simp; omega)]; simpa using h6
          · intro j v hj
            rw [splice_get hlen] at hj
            simp only [List.getElem?_toArray]
            rw [splice_get (by simp; omega)]
            by_cases hjr : off ≤ j ∧ j < off + vs.length
            · rw [if_pos hjr] at hj
              obtain ⟨v', hv', hr⟩ := hv.get _ _ hj
              rw [if_pos (by omega)]
              exact ⟨v', by rw [← hv']; congr 1; omega, hr⟩
            · rw [if_neg hjr] at hj
              obtain ⟨v', hv', hr⟩ := h7 j v hj
              rw [if_neg (by omega)]
              exact ⟨v', by simpa using hv', hr⟩
          · intro hro hlt
            have := h8 rfl hlt
            simp; rw [splice_length (by simp; omega)]; simpa using this
      · cases hst

theorem bytesOf_VRs : ∀ {l l' : List Value} {bs : List UInt8}, bytesOf l = some bs → VRs ρ l l' → bytesOf l' = some bs
  | _, _, bs, hb, .nil => hb
  | v :: l, v' :: l', bs, hb, .cons hv ht => by
    cases hv with
    | int k n =>
      cases k <;> simp only [bytesOf] at hb ⊢ <;> first | (cases hb; done) | skip
      cases hl : bytesOf l with
      | none => simp [hl] at hb
      | some r => rw [bytesOf_VRs hl ht]; simpa [hl] using hb
    | bot => simp [bytesOf] at hb
    | _ => simp [bytesOf] at hb

theorem run_b2s_loop (F : Value → ByteArray → Sem (ForInStep ByteArray)) (hF : ∀ n s, F (.int .u8 n) s = pure (.yield (s.push (UInt8.ofNat n.toNat)))) (w : World) : ∀ (l : List Value) (bs : List UInt8) (acc : ByteArray), bytesOf l = some bs →
    (forIn l acc F).run P w = .ok ⟨acc.data ++ bs.toArray⟩ w
  | [], bs, acc, hb => by simp [bytesOf] at hb; subst hb; simp
  | v :: l, bs, acc, hb => by
    cases v with
    | int k n =>
      cases k <;> simp only [bytesOf] at hb <;> first | (cases hb; done) | skip
      cases hl : bytesOf l with
      | none => simp [hl] at hb
      | some r =>
        simp [hl] at hb; subst hb
        rw [List.forIn_cons, Sem.run_bind, hF]
        simp only [Sem.run_pure, Result.andThen_ok]
        rw [run_b2s_loop F hF w l r _ hl]
        simp [ByteArray.push]
    | _ => simp [bytesOf] at hb

theorem run_newRow (e : TypeId) (c : Array Value) (w : World) : (newRow e c).run P w = .ok ⟨w.heap.size, 0, none⟩ { w with heap := w.heap.push (.cells c e) } := rfl
theorem run_markNew (w : World) (e : TypeId) (c : Array Value) : (markStringish ⟨w.heap.size, 0, none⟩).run P { w with heap := w.heap.push (.cells c e) } = .ok () { w with heap := w.heap.push (.cells c e (c.size, c.size + 1)) } := by
  have h1 : World.shape? { w with heap := w.heap.push (.cells c e) } w.heap.size = some (e, c.size) := by simp [World.shape?]
  simp only [markStringish, Sem.run_bind, run_shape, Result.andThen_ok, h1, run_freeze]
  simp only [World.freeze, if_neg (Nat.one_ne_zero)]
  congr 1
  congr 1
  apply Array.ext_getElem?
  intro j
  rw [Array.getElem?_modify, Array.getElem?_push, Array.getElem?_push]
  by_cases hj : w.heap.size = j
  · subst hj; simp
  · have : ¬ j = w.heap.size := fun e => hj e.symm
    simp [hj, this]

section ops
variable {o : Oper} {a : Act} {env : List Value} (s : Sim B ρ h w) (E : EnvR ρ env a.tmps)
include s E

theorem ok_st {t : TypeId} {x y : Operand} {n : Nat} {p : Addr} {h' : Heap} (hop : o.op = .store t x y) (hx : okAll [x, y] = true) (hn : sizeP P t = some n) (hp : ev env x = .pointer (some p))
    (hl : (cellsL (ev env y)).length = n) (hst : h.store p.block p.off (cellsL (ev env y)) = some h') : OpOK P o a B ρ h w undef h' := by
  simp [okAll] at hx
  have h1 := E.ev hx.1
  have h2 := E.ev hx.2
  rw [hp] at h1
  generalize hq : a.eval x = q at h1
  cases h1 with
  | ptr hb hs =>
    have hnb : ev env y ≠ .tuple #[] := by
      intro e
      rw [e] at hst
      unfold Heap.store at hst
      split at hst
      · split at hst
        · rename_i hc; simp [cellsL, cellable] at hc
        · cases hst
      · cases hst
    have hcs := h2.cellsL hnb
    obtain ⟨w', hr, hs', ht'⟩ := store_sound (P := P) s hb hst hcs w rfl
    refine ⟨undef, w', ρ, ⟨.skip, ?_, .inr ⟨rfl, rfl⟩⟩, .bot _, hs', ht'⟩
    have hsz : (a.eval y).cells.size = n := by
      rw [← Array.length_toList, cells_toList, ← hcs.length, hl]
    rw [← cells_toList] at hr
    simp [execOp, hop, hq, Instr.storeAt, Instr.sureAddr, storeVar, r_size hn, hsz, hr]

theorem ok_s2b {src dst e : TypeId} {x : Operand} {b : ByteArray} (hop : o.op = .convert src dst x) (hx : okOpd x = true) (hs : P.underlying src = some .string) (hd : P.underlying dst = some (.slice e)) (he : P.underlying e = some (.int .u8))
    (hv : ev env x = .string b) : OpOK P o a B ρ h w (.slice (some ⟨h.size, 0, none⟩) b.size UNK) (h.push (.arr false 1 (b.data.toList.map fun b => .int .u8 b.toNat))) := by
  have h1 := E.ev hx
  rw [hv] at h1
  generalize hq : a.eval x = q at h1
  cases h1
  obtain ⟨cap, hcap, hrun⟩ : ∃ cap, b.size ≤ cap ∧ (choose (.appendCap b.size 0 e)).run P w = .ok cap { w with drawn := w.drawn + 1 } := by
    refine ⟨_, ?_, by simp only [run_choose, Question.forced, Bool.false_eq_true, if_false]; rfl⟩
    simp only [Question.cut]; omega
  generalize hcs : (b.data.map fun b => Value.int .u8 b.toNat) ++ Array.replicate (cap - b.size) (.int .u8 0) = cs at *
  have hbs : b.size = b.data.size := rfl
  have hsz : cs.size = cap := by rw [← hcs]; simp only [Array.size_append, Array.size_map, Array.size_replicate, ← hbs]; omega
  have hr : (execOp a.eval o).run P w = .ok (.value (.slice (some ⟨w.heap.size, 0, none⟩) b.size cap)) { w with drawn := w.drawn + 1, heap := w.heap.push (.cells cs e (cs.size, cs.size + 1)) } := by
    simp only [execOp, hop, hq, convert, Sem.run_bind, r_underlying hs, r_underlying hd, r_underlying he, Result.andThen_ok, Conv.stringToBytes, hrun, hcs, run_newRow, Sem.run_pure]
    rw [run_markNew { w with drawn := w.drawn + 1 }]
    rfl
  obtain ⟨s', t'⟩ := push_sound (w' := { w with drawn := w.drawn + 1, heap := w.heap.push (.cells cs e (cs.size, cs.size + 1)) }) s (.arr false 1 (b.data.toList.map fun b => .int .u8 b.toNat)) (.cells cs e (cs.size, cs.size + 1)) ⟨w.heap.size, 0, cs.size, 1⟩ rfl rfl
    ⟨cs, e, (cs.size, cs.size + 1), rfl, rfl, rfl, by simp [hsz]; simpa using hcap, fun j v hj => by
      rw [List.getElem?_map] at hj
      cases hb : b.data.toList[j]? with
      | none => simp [hb] at hj
      | some x =>
        simp [hb] at hj
        subst hj
        have hjl : j < b.size := by
          have := (List.getElem?_eq_some_iff.1 hb).1
          simpa using this
        refine ⟨.int .u8 x.toNat, ?_, .int _ _⟩
        rw [← hcs, Nat.zero_add, Array.getElem?_append_left (by rw [Array.size_map]; exact hjl)]
        have : b.data[j]? = some x := by simpa using hb
        simp [this], fun _ _ => Nat.le_refl _⟩
  exact ⟨_, _, _, ⟨_, hr, .inl rfl⟩, .slU (i := ⟨w.heap.size, 0, cs.size, 1⟩) (Ren.add_self _ _ _) rfl hcap (by simp [hsz]), s', t'⟩

theorem ok_b2sN {src dst e : TypeId} {x : Operand} {l c : Nat} (hop : o.op = .convert src dst x) (hx : okOpd x = true) (hs : P.underlying src = some (.slice e)) (hd : P.underlying dst = some .string) (he : P.underlying e = some (.int .u8))
    (hv : ev env x = .slice none l c) : OpOK P o a B ρ h w (.string .empty) h := by
  have h1 := E.ev hx
  rw [hv] at h1
  generalize hq : a.eval x = q at h1
  cases h1
  exact OpOK.same s (v' := .string .empty) (by simp [execOp, hop, hq, convert, r_underlying hs, r_underlying hd, r_underlying he, Conv.bytesToString]) (.string _)


theorem ok_b2sE {src dst e : TypeId} {x : Operand} {c : Nat} {p : Addr} (hop : o.op = .convert src dst x) (hx : okOpd x = true) (hs : P.underlying src = some (.slice e)) (hd : P.underlying dst = some .string) (he : P.underlying e = some (.int .u8))
    (hv : ev env x = .slice (some p) 0 c) : OpOK P o a B ρ h w (.string .empty) h := by
  have h1 := E.ev hx
  rw [hv] at h1
  generalize hq : a.eval x = q at h1
  cases h1 <;> exact OpOK.same s (v' := .string .empty) (by simp [execOp, hop, hq, convert, r_underlying hs, r_underlying hd, r_underlying he, Conv.bytesToString, loadCells, loadCellsFrom]) (.string _)

theorem ok_b2s {src dst e : TypeId} {x : Operand} {l c : Nat} {p : Addr} {cs : List Value} {bs : List UInt8} (hop : o.op = .convert src dst x) (hx : okOpd x = true) (hs : P.underlying src = some (.slice e)) (hd : P.underlying dst = some .string) (he : P.underlying e = some (.int .u8))
    (hv : ev env x = .slice (some p) l c) (h0 : l ≠ 0) (hcs : h.cells p.block p.off l = some cs) (hbs : bytesOf cs = some bs) : OpOK P o a B ρ h w (.string ⟨bs.toArray⟩) h := by
  have h1 := E.ev hx
  rw [hv] at h1
  generalize hq : a.eval x = q at h1
  have hrun : ∀ (bi : BI) (c' : Nat), q = .slice (some ⟨bi.blk, bi.d + p.off, none⟩) l c' → ρ p.block = some bi → OpOK P o a B ρ h w (.string ⟨bs.toArray⟩) h := by
    intro bi c' hqe hb
    subst hqe
    obtain ⟨c'', hr, _, hl⟩ := loadCells_sound (P := P) s hb hcs
    refine OpOK.same s (v' := .string ⟨bs.toArray⟩) ?_ (.string _)
    have e0 : (ByteArray.empty.data ++ bs.toArray) = bs.toArray := Array.empty_append
    simp [execOp, hop, hq, convert, r_underlying hs, r_underlying hd, r_underlying he, Conv.bytesToString, hl]
    rw [run_b2s_loop (P := P) _ (fun n s => rfl) w c'' bs ByteArray.empty (bytesOf_VRs hbs hr), e0]
    rfl
  cases h1 with
  | sl hb hs' h3 h4 => exact hrun _ _ rfl hb
  | slU hb hs' h3 h4 => exact hrun _ _ rfl hb
  | slE => exact absurd rfl h0

omit E in
theorem ok_mkm {t : TypeId} (hop : o.op = .makeMap t none) : OpOK P o a B ρ h w (.map (some h.size)) (h.push (.map [])) := by
  obtain ⟨s', t'⟩ := push_sound (w' := { w with heap := w.heap.push (.map #[] 0) }) s (.map []) (.map #[] 0) ⟨w.heap.size, 0, 0, 0⟩ rfl rfl ⟨#[], 0, rfl, .nil⟩
  exact ⟨.map (some w.heap.size), _, _, ⟨.value (.map (some w.heap.size)), by simp [execOp, hop, Instr.makeMap], .inl rfl⟩, .map (i := ⟨w.heap.size, 0, 0, 0⟩) (Ren.add_self _ _ _), s', t'⟩
end ops
end Go.GS
