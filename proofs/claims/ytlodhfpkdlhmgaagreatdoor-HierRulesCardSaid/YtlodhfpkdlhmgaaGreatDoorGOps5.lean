/- Each operation of G against the machine's: make, slicing, maps. -/
import Derived.Test.YtlodhfpkdlhmgaaGreatDoorGOps4
namespace Go.GS
variable {P : Program} {B : Nat} {ρ : Ren} {h : Heap} {w : World}

theorem i64_wrap {n : Int} (h0 : 0 ≤ n) (h1 : n ≤ 1099511627776) : IntKind.i64.wrap n = n := by
  unfold IntKind.wrap IntKind.signed IntKind.bits
  simp
  omega

theorem bnd_sound {a : Act} {env : List Value} (E : EnvR ρ env a.tmps) {v : Option Operand} {d l : Nat} (hv : okOpt v = true) (hb : bnd (v.map (ev env)) d = some l) :
    (v = none ∧ l = d) ∨ ∃ x k i, v = some x ∧ a.eval x = .int k i ∧ 0 ≤ i ∧ l = i.toNat := by
  cases v with
  | none => simp [bnd] at hb; exact .inl ⟨rfl, hb.symm⟩
  | some x =>
    have h1 := E.ev (show okOpd x = true from hv)
    simp only [Option.map_some] at hb
    generalize ev env x = u at h1 hb
    generalize hq : a.eval x = q at h1
    unfold bnd at hb
    split at hb
    · rename_i heq; cases heq
    · rename_i heq
      cases heq
      cases h1
      split at hb
      · rename_i h0
        simp at hb
        exact .inr ⟨x, _, _, rfl, hq, h0, hb.symm⟩
      · cases hb
    · cases hb

theorem run_sliceBound (k : IntKind) {i : Int} (y : Nat) {code : BoundsCode} (h0 : 0 ≤ i) (h1 : i ≤ y) {w : World} : (Instr.sliceBound (.int k i) y code).run P w = .ok i.toNat w := by
  simp only [Instr.sliceBound, asIntOf, Sem.run_bind, Sem.run_pure, Result.andThen_ok]
  rw [if_pos ⟨h0, h1⟩]; rfl
/-- The machine's bounds are G's. -/
theorem run_sliceBounds {a : Act} {lo hi mx : Option Operand} (sl : Bool) (len cap : Nat) {l hh m : Nat} (hm : mx.isSome = true → hi.isSome = true)
    (hlo : (lo = none ∧ l = 0) ∨ ∃ x k i, lo = some x ∧ a.eval x = .int k i ∧ 0 ≤ i ∧ l = i.toNat)
    (hhi : (hi = none ∧ hh = len) ∨ ∃ x k i, hi = some x ∧ a.eval x = .int k i ∧ 0 ≤ i ∧ hh = i.toNat)
    (hmx : (mx = none ∧ m = cap) ∨ ∃ x k i, mx = some x ∧ a.eval x = .int k i ∧ 0 ≤ i ∧ m = i.toNat)
    (h1 : l ≤ hh) (h2 : hh ≤ m) (h3 : m ≤ cap) (w : World) :
    (Instr.sliceBounds sl len cap (lo.map a.eval) (hi.map a.eval) (mx.map a.eval)).run P w = .ok (l, hh, m) w := by
  rcases hmx with ⟨rfl, rfl⟩ | ⟨x, k, i, rfl, hx, h0, rfl⟩
  · rcases hhi with ⟨rfl, rfl⟩ | ⟨x2, k2, i2, rfl, hx2, h02, rfl⟩
    · rcases hlo with ⟨rfl, rfl⟩ | ⟨x3, k3, i3, rfl, hx3, h03, rfl⟩
      · simp [Instr.sliceBounds]
      · simp [Instr.sliceBounds, hx3, run_sliceBound k3 hh h03 (by omega)]
    · rcases hlo with ⟨rfl, rfl⟩ | ⟨x3, k3, i3, rfl, hx3, h03, rfl⟩
      · simp [Instr.sliceBounds, hx2, run_sliceBound k2 m h02 (by omega)]
      · simp [Instr.sliceBounds, hx2, hx3, run_sliceBound k2 _ h02 (show i2 ≤ (m : Int) by omega), run_sliceBound k3 _ h03 (show i3 ≤ (i2.toNat : Int) by omega)]
  · rcases hhi with ⟨rfl, rfl⟩ | ⟨x2, k2, i2, rfl, hx2, h02, rfl⟩
    · simp at hm
    · rcases hlo with ⟨rfl, rfl⟩ | ⟨x3, k3, i3, rfl, hx3, h03, rfl⟩
      · simp [Instr.sliceBounds, hx, hx2, run_sliceBound k _ h0 (show i ≤ (cap : Int) by omega), run_sliceBound k2 _ h02 (show i2 ≤ (i.toNat : Int) by omega)]
      · simp [Instr.sliceBounds, hx, hx2, hx3, run_sliceBound k _ h0 (show i ≤ (cap : Int) by omega), run_sliceBound k2 _ h02 (show i2 ≤ (i.toNat : Int) by omega), run_sliceBound k3 _ h03 (show i3 ≤ (i2.toNat : Int) by omega)]

section ops
variable {o : Oper} {a : Act} {env : List Value} (s : Sim B ρ h w) (E : EnvR ρ env a.tmps)
include s E

theorem ok_mks {t e : TypeId} {x y : Operand} {inf : TypeInfo} {z : List Value} {k k' : IntKind} {l c : Int} (hop : o.op = .makeSlice t x y) (hx : okAll [x, y] = true) (hs : P.underlying t = some (.slice e)) (hi : P.info? e = some inf)
    (hz : zeroL P e = some z) (hl : ev env x = .int k l) (hc : ev env y = .int k' c) (h1 : 0 ≤ l) (h2 : l ≤ c) (h3 : c * inf.bytes ≤ 1099511627776) (h4 : c ≤ 1099511627776) :
    OpOK P o a B ρ h w (.slice (some ⟨h.size, 0, none⟩) l.toNat c.toNat) (h.push (.arr false inf.size (List.replicate c.toNat z).flatten)) := by
  simp [okAll] at hx
  have e1 := E.ev hx.1
  have e2 := E.ev hx.2
  rw [hl] at e1; rw [hc] at e2
  generalize hq : a.eval x = q at e1
  generalize hq2 : a.eval y = q2 at e2
  cases e1; cases e2
  obtain ⟨v, hr, hcs, hsv, hsz⟩ := zeroL_spec hz
  have hzn : v.cells.size = inf.size := by
    have : sizeP P e = some inf.size := by simp [sizeP, hi]
    rw [this] at hsz
    simp only [Option.some.injEq] at hsz
    rw [hsz, ← hcs]; simp
  have hc0 : VRs ρ z v.cells.toList := by rw [hcs, ← hcs, cells_toList]; exact simpleV_cells hsv
  have hc' : VRs ρ (List.replicate c.toNat z).flatten ((Array.range (c.toNat * inf.size)).map fun i => v.cells[i % v.cells.size]!).toList := by
    rw [← hzn, mod_flatten]; exact hc0.flatten _
  have hn : sizeP P e = some inf.size := by simp [sizeP, hi]
  have w1 : IntKind.i64.wrap l = l := i64_wrap h1 (by omega)
  have w2 : IntKind.i64.wrap c = c := i64_wrap (by omega) h4
  refine OpOK.box s inf.size e hc' _ (.slice (some ⟨w.heap.size, 0, none⟩) l.toNat c.toNat) ?_ ?_
  · have hlarge : ((c < 0 || ((inf.bytes : Int) * c > 2 ^ 48)) || l < 0 || l > c) = false := by
      have : (inf.bytes : Int) * c ≤ 1099511627776 := by rw [Int.mul_comm]; exact h3
      simp; omega
    have e3 : (Instr.makeSlice t (.int k l) (.int k' c)).run P w = .ok (.slice (some ⟨w.heap.size, 0, none⟩) l.toNat c.toNat) { w with heap := w.heap.push (.cells ((Array.range (c.toNat * inf.size)).map fun i => v.cells[i % v.cells.size]!) e) } := by
      unfold Instr.makeSlice
      simp only [Sem.run_bind, r_underlying hs, Result.andThen_ok, asInt, asIntOf, Sem.run_pure, r_info hi, w1, w2]
      rw [if_neg (by rw [hlarge]; simp)]
      by_cases hz0 : c.toNat * inf.size = 0
      · have hr0 : Array.range 0 = #[] := rfl
        simp [r_size hn, hz0, newRow, hr0]
      · simp [r_size hn, hz0, hr, newRow]
    simp [execOp, hop, hq, hq2, e3]
  · exact .sl (i := ⟨w.heap.size, 0, _, inf.size⟩) (Ren.add_self _ _ _) rfl (by unfold UNK; omega) (by omega)

theorem ok_slS {t : TypeId} {x : Operand} {lo hi : Option Operand} {b : ByteArray} {v : Value} (hop : o.op = .slice t x lo hi none) (hx : okOpd x = true) (hlo : okOpt lo = true) (hhi : okOpt hi = true) (hs : P.underlying t = some .string)
    (hv : ev env x = .string b) (hr : sliceStr b (lo.map (ev env)) (hi.map (ev env)) = some v) : OpOK P o a B ρ h w v h := by
  have h1 := E.ev hx
  rw [hv] at h1
  generalize hq : a.eval x = q at h1
  cases h1
  unfold sliceStr at hr
  split at hr
  · rename_i hh l e1 e2
    split at hr
    · rename_i hc
      cases hr
      have := run_sliceBounds (P := P) (mx := none) false b.size b.size (by simp) (bnd_sound E hlo e2) (bnd_sound E hhi e1) (.inl ⟨rfl, rfl⟩) hc.1 hc.2 (Nat.le_refl _) w
      refine OpOK.same s (v' := .string (b.extract l hh)) ?_ (.string _)
      simp only [Option.map_none] at this
      simp [execOp, hop, hq, Instr.sliceAt, Instr.slice, r_underlying hs, this]
    · cases hr
  · cases hr

theorem ok_slL {t e : TypeId} {x : Operand} {lo hi mx : Option Operand} {p : Option Addr} {ln cp n : Nat} {v : Value} (hop : o.op = .slice t x lo hi mx) (hx : okOpd x = true) (hlo : okOpt lo = true) (hhi : okOpt hi = true) (hmx : okOpt mx = true)
    (hm : (mx.isSome && hi.isNone) = false) (hs : P.underlying t = some (.slice e)) (hn : sizeP P e = some n) (hv : ev env x = .slice p ln cp) (hr : sliceSl h n p ln cp (lo.map (ev env)) (hi.map (ev env)) (mx.map (ev env)) = some v) :
    OpOK P o a B ρ h w v h := by
  have h1 := E.ev hx
  rw [hv] at h1
  generalize hq : a.eval x = q at h1
  have hmh : mx.isSome = true → hi.isSome = true := by cases mx <;> cases hi <;> simp at hm ⊢
  unfold sliceSl at hr
  simp only at hr
  generalize hkn : (if cp < UNK then cp else ln) = known at hr
  split at hr
  · rename_i m hh l em eh el
    split at hr
    · rename_i hc
      obtain ⟨c1, c2, c3, c4⟩ := hc
      have run : ∀ (a' : Option Addr) (cap m' : Nat), a.eval x = .slice a' ln cap → m' ≤ cap → hh ≤ m' → ((mx = none ∧ m' = cap) ∨ ∃ x k i, mx = some x ∧ a.eval x = .int k i ∧ 0 ≤ i ∧ m' = i.toNat) →
          (execOp a.eval o).run P w = .ok (.value (.slice (if m' = l then a' else a'.map (·.add (l * n))) (hh - l) (m' - l))) w := by
        intro a' cap m' hq' hle hlm hmm
        have := run_sliceBounds (P := P) true ln cap hmh (bnd_sound E hlo el) (bnd_sound E hhi eh) hmm c1 hlm hle w
        simp [execOp, hop, hq', Instr.sliceAt, Instr.slice, r_underlying hs, this, r_size hn]
      have hmb := bnd_sound E hmx em
      cases h1 with
      | slN =>
        simp only [show (0 : Nat) < UNK by unfold UNK; omega, if_true] at hkn
        subst hkn
        simp only [Option.some.injEq] at hr
        subst hr
        have hm0 : m = 0 := by omega
        have hh0 : hh = 0 := by omega
        have hl0 : l = 0 := by omega
        subst hm0 hh0 hl0
        refine OpOK.same s (run none 0 0 hq (Nat.le_refl _) (Nat.le_refl _) hmb) ?_
        simp; exact .slN
      | sl hb hs' hlt hle =>
        rename_i a0 i
        have hne : cp ≠ UNE := by unfold UNE; unfold UNK at hlt; omega
        have hne2 : cp ≠ UNK := by omega
        simp only [hlt, if_true] at hkn
        subst hkn
        simp only [hne, hne2, if_false, false_and] at hr
        have hrun := run _ _ m hq c3 c2 hmb
        by_cases hml : m = l
        · rw [if_pos hml] at hr
          simp only [Option.some.injEq] at hr
          subst hr
          rw [if_pos hml] at hrun
          refine OpOK.same s hrun ?_
          have : m - l = 0 := by omega
          rw [this]
          exact .sl hb hs' (by unfold UNK; omega) (by omega)
        · rw [if_neg hml] at hr
          simp only [Option.some.injEq] at hr
          subst hr
          rw [if_neg hml] at hrun
          refine OpOK.same s hrun ?_
          simp only [Option.map_some, add_mk, Nat.add_assoc]
          exact .sl (a := ⟨a0.block, a0.off + l * n, none⟩) hb rfl (by omega) (by omega)
      | slU hb hs' hle hbd =>
        rename_i a0 i c'
        have hne : UNK ≠ UNE := by unfold UNE UNK; omega
        have hnl : ¬ UNK < UNK := Nat.lt_irrefl _
        simp only [hnl, if_false] at hkn
        subst hkn
        simp only [hne, if_false] at hr
        cases mx with
        | none =>
          simp only [Option.map_none, Option.isNone_none, and_self, if_true] at hr
          simp only [Option.map_none] at em
          have hm' : m = ln := by simpa [bnd] using em.symm
          subst hm'
          have hrun := run _ c' c' hq (Nat.le_refl _) (by omega) (.inl ⟨rfl, rfl⟩)
          split at hr
          · rename_i hl0
            subst hl0
            simp only [Option.some.injEq] at hr
            subst hr
            refine OpOK.same s hrun ?_
            have : (if c' = 0 then some (⟨i.blk, i.d + a0.off, none⟩ : Addr) else (some (⟨i.blk, i.d + a0.off, none⟩ : Addr)).map (·.add (0 * n))) = some ⟨i.blk, i.d + a0.off, none⟩ := by
              simp [add_mk]
            rw [this]
            simp only [Nat.sub_zero]
            exact .slU (a := ⟨a0.block, a0.off, none⟩) hb rfl (by omega) hbd
          · split at hr
            · rename_i hl0 hll
              split at hr
              · rename_i ro sz cs hg
                split at hr
                · rename_i hsz
                  simp only [Option.some.injEq] at hr
                  subst hr hsz
                  have hcl : ¬ c' = l := by omega
                  rw [if_neg hcl] at hrun
                  refine OpOK.same s hrun ?_
                  simp only [Option.map_some, add_mk, Nat.add_assoc]
                  obtain ⟨xb, ob, g1, g2, g3⟩ := s.blk _ _ hb
                  rw [hg] at g1; cases g1
                  obtain ⟨_, _, _, _, _, hisz, _⟩ := g3
                  refine .slU (a := ⟨a0.block, a0.off + l * sz, none⟩) hb rfl (by omega) ?_
                  rw [hisz] at hbd ⊢
                  simp only
                  have : (c' - l) * sz + l * sz = c' * sz := by rw [← Nat.add_mul]; congr 1; omega
                  omega
                · cases hr
              · cases hr
            · rename_i hl0 hll
              simp only [Option.some.injEq] at hr
              subst hr
              have h0 : hh - l = 0 := by omega
              rw [h0] at hrun
              by_cases hcl : c' = l
              · rw [if_pos hcl] at hrun
                exact OpOK.same s hrun (.slE _ _ _)
              · rw [if_neg hcl] at hrun
                exact OpOK.same s hrun (.slE _ _ _)
        | some y =>
          simp only [Option.map_some, Option.isNone_some, Bool.false_eq_true, and_false, if_false] at hr
          have hrun := run _ c' m hq (by omega) c2 (.inr (hmb.resolve_left fun e => by cases e.1))
          by_cases hml : m = l
          · rw [if_pos hml] at hr
            simp only [Option.some.injEq] at hr
            subst hr
            rw [if_pos hml] at hrun
            refine OpOK.same s hrun ?_
            have : m - l = 0 := by omega
            rw [this]
            exact .sl hb hs' (by unfold UNK; omega) (by omega)
          · rw [if_neg hml] at hr
            simp only [Option.some.injEq] at hr
            subst hr
            rw [if_neg hml] at hrun
            refine OpOK.same s hrun ?_
            simp only [Option.map_some, add_mk, Nat.add_assoc]
            exact .sl (a := ⟨a0.block, a0.off + l * n, none⟩) hb rfl (by omega) (by omega)
      | slE a0 a1 c' =>
        have hnl : ¬ UNE < UNK := by unfold UNE UNK; omega
        simp only [hnl, if_false] at hkn
        subst hkn
        simp only [if_true] at hr
        cases mx with
        | some y => simp at hr
        | none =>
          simp only [Option.map_none, Option.isSome_none, Bool.false_eq_true, if_false, Option.some.injEq] at hr
          subst hr
          have hh0 : hh = 0 := by omega
          have hl0 : l = 0 := by omega
          subst hh0 hl0
          have hrun := run _ c' c' hq (Nat.le_refl _) (by omega) (.inl ⟨rfl, rfl⟩)
          by_cases hcl : c' = 0
          · rw [if_pos hcl] at hrun
            exact OpOK.same s hrun (.slE _ _ _)
          · rw [if_neg hcl] at hrun
            exact OpOK.same s hrun (.slE _ _ _)
    · cases hr
  · cases hr
end ops
end Go.GS
