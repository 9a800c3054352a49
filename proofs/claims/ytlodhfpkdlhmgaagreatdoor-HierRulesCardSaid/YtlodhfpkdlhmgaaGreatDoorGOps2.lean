/- Each operation of G against the machine's: those on plain values. -/
import Derived.Test.YtlodhfpkdlhmgaaGreatDoorGOpsEq
namespace Go.GS
variable {P : Program} {B : Nat} {ρ : Ren} {h : Heap} {w : World}

theorem run_intBin {op : BinOp} {k : IntKind} {x y : Int} {r : Value} {t : TypeId} (hr : intBin op k x y = some r) (hs : op ≠ .shl ∧ op ≠ .shr) :
    (binOp op t (.int k x) (.int k y)).run P w = .ok r w ∧ VR ρ r r := by
  cases op <;> simp only [intBin] at hr <;> first
    | (cases hr; done)
    | exact absurd rfl hs.1
    | exact absurd rfl hs.2
    | (cases hr
       refine ⟨?_, ?_⟩
       · simp only [binOp, ne_eq, not_true_eq_false, if_false]; rfl
       · first | exact VR.int _ _ | exact VR.bool _)
    | (split at hr
       · cases hr
       · rename_i h0
         cases hr
         exact ⟨by simp [binOp, Op.intDiv, h0], .int _ _⟩)

theorem run_strBin {op : BinOp} {x y : ByteArray} {r : Value} {t : TypeId} (hr : strBin op x y = some r) :
    (binOp op t (.string x) (.string y)).run P w = .ok r w ∧ VR ρ r r := by
  cases op <;> simp only [strBin] at hr <;> first
    | (cases hr; done)
    | (cases hr
       exact ⟨by simp [binOp, Op.stringOp, ByteArray.toList_eq, strEq], .bool _⟩)
    | (split at hr
       · rename_i h0
         cases hr
         refine ⟨?_, .string _⟩
         have : ¬ (((x.size + y.size : Nat) : Int) > IntKind.i64.max) := by
           have : IntKind.i64.max = 9223372036854775807 := by decide
           omega
         simp only [binOp, Op.stringOp]
         rw [if_neg this]; rfl
       · cases hr)

theorem run_shift {op : BinOp} {k k' : IntKind} {x y : Int} {t : TypeId} (hs : op = .shl ∨ op = .shr) (h0 : ¬ y < 0) :
    (binOp op t (.int k x) (.int k' y)).run P w = .ok (if op = .shl then .int k (k.wrap (x * 2 ^ (min y.toNat k.bits))) else .int k (x.fdiv (2 ^ (min y.toNat k.bits)))) w := by
  rcases hs with rfl | rfl <;> simp [binOp, Op.shift, h0]

theorem run_eqOp {t : TypeId} {x y : Value} {b : Bool} (hi : ∀ k a k' c, x = .int k a → y = .int k' c → False) (hs : ∀ a c, x = .string a → y = .string c → False)
    (hf : ∀ k a, x ≠ .float k a) (hcx : ∀ k a c, x ≠ .complex k a c) (he : (Op.equal t x y).run P w = .ok b w) :
    (binOp .eql t x y).run P w = .ok (.bool b) w ∧ (binOp .neq t x y).run P w = .ok (.bool !b) w := by
  cases x <;> cases y <;> first
    | (exact (hi _ _ _ _ rfl rfl).elim)
    | (exact (hs _ _ rfl rfl).elim)
    | (exact absurd rfl (hf _ _))
    | (exact absurd rfl (hcx _ _ _))
    | (constructor <;> simp [binOp, he])

section ops
variable {o : Oper} {a : Act} {env : List Value} (s : Sim B ρ h w) (E : EnvR ρ env a.tmps)
include s E

theorem ok_bin {op : BinOp} {t yt : TypeId} {x y : Operand} {T : EqT} {r : Value} (hop : o.op = .binOp op t x y yt) (hx : okAll [x, y] = true)
    (hT : T = eqTOf P op t) (hr : binE op T (isCst x || isCst y) (ev env x) (ev env y) = some r) : OpOK P o a B ρ h w r h := by
  simp [okAll] at hx
  have h1 := E.ev hx.1
  have h2 := E.ev hx.2
  suffices hs : (eqGuard op t x y (a.eval x) (a.eval y)).run P w = .ok () w ∧ (binOp op t (a.eval x) (a.eval y)).run P w = .ok r w ∧ VR ρ r r by
    refine OpOK.same s (v' := r) ?_ hs.2.2
    simp [execOp, hop, hs.1, hs.2.1]
  have hgi : ∀ (u v : Value), (∀ c d, u = .agg c → v = .agg d → False) → (u = .nilIface → v = .nilIface → False) → (eqGuard op t x y u v).run P w = .ok () w := by
    intro u v hu hv
    unfold eqGuard
    cases u <;> cases v <;> first | (exact (hu _ _ rfl rfl).elim) | (exact (hv rfl rfl).elim) | (cases op <;> rfl)
  generalize hu : ev env x = u at h1 hr
  generalize hv : ev env y = v at h2 hr
  generalize a.eval x = X at h1 ⊢
  generalize a.eval y = Y at h2 ⊢
  unfold binE at hr
  split at hr
  · cases h1; cases h2
    refine ⟨hgi _ _ (fun _ _ e _ => by cases e) (fun e => by cases e), ?_⟩
    split at hr
    · split at hr
      · cases hr
      · rename_i h0; cases hr; exact ⟨by rw [run_shift (.inl rfl) h0]; simp, .int _ _⟩
    · split at hr
      · cases hr
      · rename_i h0; cases hr; exact ⟨by rw [run_shift (.inr rfl) h0]; simp, .int _ _⟩
    · rename_i n1 n2
      split at hr
      · rename_i hk; subst hk; exact run_intBin hr ⟨fun e => n1 e, fun e => n2 e⟩
      · cases hr
  · cases h1; cases h2
    exact ⟨hgi _ _ (fun _ _ e _ => by cases e) (fun e => by cases e), run_strBin hr⟩
  · rename_i n1 n2
    have key : ∀ b, eqE T (isCst x || isCst y) u v = some b → T = eqOf P t → (eqGuard op t x y X Y).run P w = .ok () w ∧
        (binOp .eql t X Y).run P w = .ok (.bool b) w ∧ (binOp .neq t X Y).run P w = .ok (.bool !b) w := by
      intro b hb hTe
      subst hTe
      obtain ⟨g1, g2⟩ := eq_sound (op := op) (w := w) hb h1 h2
      have nb : u ≠ .tuple #[] := by
        rintro rfl
        revert hb
        generalize eqOf P t = q
        cases q <;> simp [eqE]
      have nb2 : v ≠ .tuple #[] := by
        rintro rfl
        revert hb
        generalize eqOf P t = q
        cases q <;> cases u <;> simp [eqE] <;> rename_i x <;> cases x <;> simp
      refine ⟨g1, run_eqOp ?_ ?_ ?_ ?_ g2⟩
      · intro k c k' d hc hd
        rw [hc] at h1; rw [hd] at h2
        cases h1 <;> cases h2 <;> first | exact n1 _ _ _ _ rfl rfl | exact nb rfl | exact nb2 rfl
      · intro c d hc hd
        rw [hc] at h1; rw [hd] at h2
        cases h1 <;> cases h2 <;> first | exact n2 _ _ rfl rfl | exact nb rfl | exact nb2 rfl
      · intro k c hc
        rw [hc] at h1
        cases h1; exact nb rfl
      · intro k c d hc
        rw [hc] at h1
        cases h1; exact nb rfl
    split at hr
    · cases hb : eqE T (isCst x || isCst y) u v with
      | none => simp [hb] at hr
      | some b =>
        simp [hb] at hr; subst hr
        obtain ⟨k1, k2, _⟩ := key b hb hT
        exact ⟨k1, k2, .bool _⟩
    · cases hb : eqE T (isCst x || isCst y) u v with
      | none => simp [hb] at hr
      | some b =>
        simp [hb] at hr; subst hr
        obtain ⟨k1, _, k2⟩ := key b hb hT
        exact ⟨k1, k2, .bool _⟩
    · cases hr

theorem ok_un {op : UnOp} {t : TypeId} {x : Operand} {r : Value} (hop : o.op = .unOp op t x) (hx : okOpd x = true) (hr : unE op (ev env x) = some r) : OpOK P o a B ρ h w r h := by
  have h1 := E.ev hx
  generalize hu : ev env x = u at h1 hr
  generalize hq : a.eval x = q at h1
  unfold unE at hr
  split at hr
  · cases h1; cases hr
    exact OpOK.same s (v' := _) (by simp [execOp, hop, hq, Op.unary]) (.bool _)
  · cases h1; cases hr
    exact OpOK.same s (v' := _) (by simp [execOp, hop, hq, Op.unary, Op.intArith]) (.int _ _)
  · cases hr

theorem ok_cvi {src dst : TypeId} {d : TypeDesc} {k k' : IntKind} {n : Int} {x : Operand} (hop : o.op = .convert src dst x) (hx : okOpd x = true) (hs : P.underlying src = some d) (hd : P.underlying dst = some (.int k))
    (hv : ev env x = .int k' n) : OpOK P o a B ρ h w (.int k (k.wrap n)) h := by
  have h1 := E.ev hx
  rw [hv] at h1
  generalize hq : a.eval x = q at h1
  cases h1
  exact OpOK.same s (v' := .int k (k.wrap n)) (by simp [execOp, hop, hq, convert, r_underlying hs, r_underlying hd, Conv.intToInt]) (.int _ _)

theorem ok_cvs {src dst : TypeId} {x : Operand} {c : ByteArray} (hop : o.op = .convert src dst x) (hx : okOpd x = true) (hs : P.underlying src = some .string) (hd : P.underlying dst = some .string)
    (hv : ev env x = .string c) : OpOK P o a B ρ h w (.string c) h := by
  have h1 := E.ev hx
  rw [hv] at h1
  generalize hq : a.eval x = q at h1
  cases h1
  exact OpOK.same s (v' := .string c) (by simp [execOp, hop, hq, convert, r_underlying hs, r_underlying hd]) (.string _)

theorem ok_mki {t : TypeId} {d : TypeDesc} {x : Operand} (hop : o.op = .makeInterface t x) (hx : okOpd x = true) (hs : P.underlying t = some d) (hd : ∀ m, d ≠ .interface m) :
    OpOK P o a B ρ h w (.iface t (ev env x)) h := by
  refine OpOK.same s (v' := .iface t (a.eval x)) ?_ (.iface t (E.ev hx))
  cases d <;> first | exact absurd rfl (hd _) | simp [execOp, hop, Instr.makeInterface, r_underlying hs]

theorem ok_mkf {fn : Fn} {first caps : Array Operand} (hop : o.op = .makeFunc fn first caps) (hx : okAll (first.toList ++ caps.toList) = true) :
    OpOK P o a B ρ h w (.func fn (first.toList.map (ev env)).toArray (caps.toList.map (ev env)).toArray) h := by
  simp only [okAll, List.all_append, Bool.and_eq_true] at hx
  refine OpOK.same s (v' := .func fn (first.map a.eval) (caps.map a.eval)) (by simp [execOp, hop, Instr.makeFunc]) (.func fn ?_ ?_)
  · simpa using E.evs (l := first.toList) hx.1
  · simpa using E.evs (l := caps.toList) hx.2

theorem ok_fa {t : TypeId} {x : Operand} {f : Nat} {fs : Array Field} {fd : Field} {n : Nat} {p : Addr} (hop : o.op = .fieldAddr t x f) (hx : okOpd x = true) (hs : P.underlying t = some (.struct fs))
    (hf : fs[f]? = some fd) (hn : sizeP P fd.type = some n) (h0 : 0 < n) (hv : ev env x = .pointer (some p)) : OpOK P o a B ρ h w (.pointer (some ⟨p.block, p.off + fd.offset, none⟩)) h := by
  have h1 := E.ev hx
  rw [hv] at h1
  generalize hq : a.eval x = q at h1
  cases h1 with
  | ptr hb hs' =>
    rename_i i
    have hne : n ≠ 0 := by omega
    refine OpOK.same s (v' := .pointer (some ⟨i.blk, i.d + (p.off + fd.offset), none⟩)) ?_ (.ptr hb rfl)
    simp [execOp, hop, hq, Instr.fieldAt, r_underlying hs, hf, Instr.sureAddr, fieldPlace, r_size hn, hne, add_mk, Nat.add_assoc]

theorem ok_fld1 {t : TypeId} {x : Operand} {f : Nat} {fs : Array Field} {fd : Field} {cs : Array Value} {v : Value} (hop : o.op = .field t x f) (hx : okOpd x = true) (hs : P.underlying t = some (.struct fs))
    (hf : fs[f]? = some fd) (ha : aggP P fd.type = some false) (hv : ev env x = .agg cs) (hc : cs[fd.offset]? = some v) : OpOK P o a B ρ h w v h := by
  have h1 := E.ev hx
  rw [hv] at h1
  generalize hq : a.eval x = q at h1
  cases h1 with
  | agg hh =>
    obtain ⟨v', hv', hr⟩ := hh.get fd.offset v (by simpa using hc)
    rw [Array.getElem?_toList] at hv'
    exact OpOK.same s (v' := v') (by simp [execOp, hop, hq, Instr.field, r_underlying hs, hf, part, r_agg ha, asAgg, hv']) hr

theorem ok_fldn {t : TypeId} {x : Operand} {f n : Nat} {fs : Array Field} {fd : Field} {cs : Array Value} (hop : o.op = .field t x f) (hx : okOpd x = true) (hs : P.underlying t = some (.struct fs))
    (hf : fs[f]? = some fd) (ha : aggP P fd.type = some true) (hn : sizeP P fd.type = some n) (hv : ev env x = .agg cs) : OpOK P o a B ρ h w (.agg (cs.extract fd.offset (fd.offset + n))) h := by
  have h1 := E.ev hx
  rw [hv] at h1
  generalize hq : a.eval x = q at h1
  cases h1 with
  | agg hh =>
    rename_i c'
    refine OpOK.same s (v' := .agg (c'.extract fd.offset (fd.offset + n))) (by simp [execOp, hop, hq, Instr.field, r_underlying hs, hf, part, r_agg ha, r_size hn, asAgg]) (.agg ?_)
    simp only [Array.toList_extract, List.extract_eq_take_drop]
    exact (hh.drop _).take _

theorem ok_ia {t e : TypeId} {x i : Operand} {n l c : Nat} {k : IntKind} {j : Int} {p : Addr} (hop : o.op = .indexAddr t x i) (hx : okAll [x, i] = true) (hs : P.underlying t = some (.slice e)) (hn : sizeP P e = some n)
    (hv : ev env x = .slice (some p) l c) (hi : ev env i = .int k j) (h0 : 0 ≤ j) (hl : j < l) : OpOK P o a B ρ h w (.pointer (some ⟨p.block, p.off + j.toNat * n, none⟩)) h := by
  simp [okAll] at hx
  have h1 := E.ev hx.1
  have h2 := E.ev hx.2
  rw [hv] at h1; rw [hi] at h2
  generalize hq : a.eval x = q at h1
  generalize hq2 : a.eval i = q2 at h2
  cases h2
  have hrun : ∀ (bi : BI) (c' : Nat), q = .slice (some ⟨bi.blk, bi.d + p.off, none⟩) l c' → ρ p.block = some bi → OpOK P o a B ρ h w (.pointer (some ⟨p.block, p.off + j.toNat * n, none⟩)) h := by
    intro bi c' hqe hb
    subst hqe
    refine OpOK.same s (v' := .pointer (some ⟨bi.blk, bi.d + (p.off + j.toNat * n), none⟩)) ?_ (.ptr hb rfl)
    simp [execOp, hop, hq, hq2, Instr.indexAt, asIntOf, r_underlying hs, r_size hn, h0, hl, add_mk, Nat.add_assoc]
  cases h1 with
  | sl hb hs' h3 h4 => exact hrun _ _ rfl hb
  | slU hb hs' h3 h4 => exact hrun _ _ rfl hb
  | slE => omega

theorem ok_idx {t : TypeId} {x i : Operand} {b : ByteArray} {k : IntKind} {j : Int} {v : UInt8} (hop : o.op = .index t x i) (hx : okAll [x, i] = true) (hs : P.underlying t = some .string)
    (hv : ev env x = .string b) (hi : ev env i = .int k j) (h0 : 0 ≤ j) (hl : b[j.toNat]? = some v) : OpOK P o a B ρ h w (.int .u8 v.toNat) h := by
  simp [okAll] at hx
  have h1 := E.ev hx.1
  have h2 := E.ev hx.2
  rw [hv] at h1; rw [hi] at h2
  generalize hq : a.eval x = q at h1
  generalize hq2 : a.eval i = q2 at h2
  cases h1; cases h2
  refine OpOK.same s (v' := .int .u8 v.toNat) ?_ (.int _ _)
  simp [execOp, hop, hq, hq2, Instr.index, asIntOf, r_underlying hs, h0, hl]

theorem ok_ext {x : Operand} {i : Nat} {vs : Array Value} {v : Value} (hop : o.op = .extract x i) (hx : okOpd x = true) (hv : ev env x = .tuple vs) (h2 : 2 ≤ vs.size) (hc : vs[i]? = some v) : OpOK P o a B ρ h w v h := by
  have h1 := E.ev hx
  rw [hv] at h1
  generalize hq : a.eval x = q at h1
  cases h1 with
  | bot => simp at h2
  | skp => simp at h2
  | tup _ hh =>
    obtain ⟨v', hv', hr⟩ := hh.get i v (by simpa using hc)
    rw [Array.getElem?_toList] at hv'
    exact OpOK.same s (v' := v') (by simp [execOp, hop, hq, Instr.extract, hv']) hr

theorem ok_lenS {c : Call} {t : TypeId} {x : Operand} {b : ByteArray} (hop : o.op = .call c) (hc : c.callee = .builtin .len) (ht : c.argTypes.toList = [t]) (ha : c.args.toList = [x]) (hx : okOpd x = true)
    (hs : P.underlying t = some .string) (hv : ev env x = .string b) : OpOK P o a B ρ h w (.int .i64 b.size) h := by
  have h1 := E.ev hx
  rw [hv] at h1
  generalize hq : a.eval x = q at h1
  cases h1
  have e1 : c.argTypes = #[t] := by rw [← Array.toArray_toList (xs := c.argTypes), ht]
  have e2 : c.args = #[x] := by rw [← Array.toArray_toList (xs := c.args), ha]
  exact OpOK.same s (v' := .int .i64 b.size) (by simp [execOp, hop, resolve, hc, e1, e2, hq, invoke, builtin, Builtin.len_, r_underlying hs, goInt]) (.int _ _)

theorem ok_lenL {c : Call} {t e : TypeId} {x : Operand} {p : Option Addr} {l cp : Nat} (hop : o.op = .call c) (hc : c.callee = .builtin .len) (ht : c.argTypes.toList = [t]) (ha : c.args.toList = [x]) (hx : okOpd x = true)
    (hs : P.underlying t = some (.slice e)) (hv : ev env x = .slice p l cp) : OpOK P o a B ρ h w (.int .i64 l) h := by
  have h1 := E.ev hx
  rw [hv] at h1
  generalize hq : a.eval x = q at h1
  have e1 : c.argTypes = #[t] := by rw [← Array.toArray_toList (xs := c.argTypes), ht]
  have e2 : c.args = #[x] := by rw [← Array.toArray_toList (xs := c.args), ha]
  cases h1 <;> exact OpOK.same s (v' := .int .i64 _) (by simp [execOp, hop, resolve, hc, e1, e2, hq, invoke, builtin, Builtin.len_, r_underlying hs, goInt]; try rfl) (.int _ _)
end ops
end Go.GS
