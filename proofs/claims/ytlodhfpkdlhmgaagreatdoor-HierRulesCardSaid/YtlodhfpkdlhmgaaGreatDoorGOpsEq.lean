/- '==' and the rest of the operators. -/
import Derived.Test.YtlodhfpkdlhmgaaGreatDoorGOps1
import Derived.Laws.StructEq
namespace Go.GS
variable {P : Program} {ρ : Ren} {w : World}

theorem beqBA (a b : ByteArray) : (a == b) = decide (a = b) := by
  cases a with | mk x => cases b with | mk y =>
  show (x == y) = _
  rw [Bool.eq_iff_iff]; simp
theorem aggEq_append : ∀ (ks ls : List (Nat × CK)) (xs ys : Array Value), aggEq (ks ++ ls) xs ys = match aggEq ks xs ys with
    | some true => aggEq ls xs ys
    | r => r
  | [], ls, xs, ys => by simp [aggEq]
  | (o, k) :: ks, ls, xs, ys => by
    simp only [List.cons_append, aggEq]
    cases ckEq k xs[o]? ys[o]? with
    | none => rfl
    | some b => cases b <;> simp [aggEq_append ks ls xs ys]

/-- A value of a flat type as the cells from a place on have it. -/
def CellsAt (P : Program) (t : TypeId) (off : Nat) (xs : Array Value) (X : Value) : Prop :=
  match P.underlying t with
  | some (.struct _) => ∃ c n, X = .agg c ∧ sizeP P t = some n ∧ ∀ j, j < n → c[j]? = xs[off + j]?
  | _ => xs[off]? = some X

theorem ckEq_some {k : CK} {x y : Option Value} {b : Bool} (h : ckEq k x y = some b) : ∃ u v, x = some u ∧ y = some v := by
  cases k <;> cases x <;> cases y <;> first | exact ⟨_, _, rfl, rfl⟩ | (simp [ckEq] at h)

theorem flat_leaf {t : TypeId} {d off : Nat} {ks : List (Nat × CK)} (hk : flatEq P (d + 1) t off = some ks) (ht : ∀ fs, P.underlying t ≠ some (.struct fs)) :
    ∃ k, ks = [(off, k)] ∧ aggP P t = some false ∧ ∀ (D : Nat) (X Y : Value) (b : Bool), ckEq k (some X) (some Y) = some b → (Op.equalIn (D + 1) t X Y).run P w = .ok b w := by
  unfold flatEq at hk
  cases hu : P.underlying t with
  | none => simp [hu] at hk
  | some ty =>
    cases ty <;> simp only [hu] at hk <;> first | (cases hk; done) | skip
    · cases hk
      refine ⟨.bool, rfl, by simp [aggP, hu], fun D X Y b he => ?_⟩
      cases X <;> cases Y <;> simp [ckEq] at he
      simp [Op.equalIn, r_underlying hu, he]
    · cases hk
      refine ⟨.int, rfl, by simp [aggP, hu], fun D X Y b he => ?_⟩
      cases X <;> cases Y <;> simp [ckEq] at he
      simp [Op.equalIn, r_underlying hu, he]
    · cases hk
      refine ⟨.str, rfl, by simp [aggP, hu], fun D X Y b he => ?_⟩
      cases X <;> cases Y <;> simp [ckEq] at he
      simp [Op.equalIn, r_underlying hu, ← he, strEq_iff, beqBA]
    · exact absurd hu (ht _)

theorem flat_eq : ∀ (d : Nat) (t : TypeId) (off : Nat) (ks : List (Nat × CK)) (D : Nat) (xs ys : Array Value) (X Y : Value) (b : Bool), flatEq P d t off = some ks → d ≤ D →
    CellsAt P t off xs X → CellsAt P t off ys Y → aggEq ks xs ys = some b → (Op.equalIn D t X Y).run P w = .ok b w := by
  intro d
  induction d with
  | zero => intro t off ks D xs ys X Y b hk; simp [flatEq] at hk
  | succ d ih =>
    intro t off ks D xs ys X Y b hk hD hX hY he
    obtain ⟨D, rfl⟩ : ∃ k, D = k + 1 := ⟨D - 1, by omega⟩
    by_cases hs : ∃ fs, P.underlying t = some (.struct fs)
    · obtain ⟨fs, hu⟩ := hs
      simp only [flatEq, hu] at hk
      split at hk
      · cases hk
      · rename_i hp
        cases hn : sizeP P t with
        | none => simp [hn] at hk
        | some n =>
          simp only [hn] at hk
          simp only [CellsAt, hu] at hX hY
          obtain ⟨c, n1, rfl, hn1, hc⟩ := hX
          obtain ⟨c', n2, rfl, hn2, hc'⟩ := hY
          rw [hn] at hn1 hn2; cases hn1; cases hn2
          have hf : P.fieldsOf t = fs := by simp [Program.fieldsOf, hu]
          rw [run_equalIn_struct (P := P) w D t c c' (by rw [hf]; exact hu) (by simpa using hp), hf]
          generalize fs.toList = fl at hk
          induction fl generalizing ks b with
          | nil => simp [flatFs] at hk; subst hk; simp [aggEq] at he; subst he; simp [Op.eqFields]
          | cons f fl ihf =>
            simp only [flatFs] at hk
            split at hk
            · cases hk
            · rename_i hname
              cases hm : sizeP P f.type with
              | none => simp [hm] at hk
              | some m =>
                simp only [hm] at hk
                split at hk
                · rename_i hle
                  cases h1 : flatEq P d f.type (off + f.offset) with
                  | none => simp [h1] at hk
                  | some k1 =>
                    cases h2 : flatFs P (flatEq P d) n off fl with
                    | none => simp [h1, h2] at hk
                    | some k2 =>
                      simp only [h1, h2] at hk
                      cases hk
                      rw [aggEq_append] at he
                      -- the field's values
                      have hpart : ∀ (c xs : Array Value), (∀ j, j < n → c[j]? = xs[off + j]?) → ((∃ fs, P.underlying f.type = some (.struct fs)) ∨ (∃ u, xs[off + f.offset]? = some u)) →
                          ∃ X, (part f.type c f.offset).run P w = .ok X w ∧ CellsAt P f.type (off + f.offset) xs X := by
                        intro c xs hcx hex
                        by_cases hfs : ∃ fs, P.underlying f.type = some (.struct fs)
                        · obtain ⟨fs', hu'⟩ := hfs
                          have ha : aggP P f.type = some true := by simp [aggP, hu']
                          refine ⟨.agg (c.extract f.offset (f.offset + m)), by simp [part, r_agg ha, r_size hm], ?_⟩
                          simp only [CellsAt, hu']
                          refine ⟨_, m, rfl, hm, fun j hj => ?_⟩
                          rw [Array.getElem?_extract]
                          have h3 : f.offset + j < n := by omega
                          have h4 := hcx _ h3
                          rw [Nat.add_assoc, ← h4]
                          by_cases hjc : f.offset + j < c.size
                          · have : j < min (f.offset + m) c.size - f.offset := by omega
                            simp [this]
                          · have : ¬ j < min (f.offset + m) c.size - f.offset := by omega
                            simp [this, Array.getElem?_eq_none (Nat.le_of_not_lt hjc)]
                        · obtain ⟨u, hu'⟩ := hex.resolve_left hfs
                          have hd : ∃ d', d = d' + 1 := by
                            cases d with
                            | zero => simp [flatEq] at h1
                            | succ d' => exact ⟨d', rfl⟩
                          obtain ⟨d', rfl⟩ := hd
                          obtain ⟨k, hk1, ha, _⟩ := flat_leaf (w := w) h1 fun fs e => hfs ⟨fs, e⟩
                          have h4 := hcx f.offset (by omega)
                          rw [hu'] at h4
                          refine ⟨u, by simp [part, r_agg ha, h4], ?_⟩
                          unfold CellsAt
                          split
                          · rename_i fs' hfu; exact absurd ⟨_, hfu⟩ hfs
                          · exact hu'
                      have hex : (∃ fs, P.underlying f.type = some (.struct fs)) ∨ (∃ u v, xs[off + f.offset]? = some u ∧ ys[off + f.offset]? = some v) := by
                        by_cases hfs : ∃ fs, P.underlying f.type = some (.struct fs)
                        · exact .inl hfs
                        · have hd : ∃ d', d = d' + 1 := by
                            cases d with
                            | zero => simp [flatEq] at h1
                            | succ d' => exact ⟨d', rfl⟩
                          obtain ⟨d', rfl⟩ := hd
                          obtain ⟨k, rfl, _, _⟩ := flat_leaf (w := w) h1 fun fs e => hfs ⟨fs, e⟩
                          cases hck : ckEq k xs[off + f.offset]? ys[off + f.offset]? with
                          | none => simp [aggEq, hck] at he
                          | some b' => exact .inr (by obtain ⟨u, v, hu, hv⟩ := ckEq_some hck; exact ⟨u, v, hu, hv⟩)
                      obtain ⟨X', hX', hXc⟩ := hpart c xs hc (hex.imp id fun ⟨u, v, hu, hv⟩ => ⟨u, hu⟩)
                      obtain ⟨Y', hY', hYc⟩ := hpart c' ys hc' (hex.imp id fun ⟨u, v, hu, hv⟩ => ⟨v, hv⟩)
                      simp only [Op.eqFields, if_pos hname, Sem.run_bind, hX', hY', Result.andThen_ok]
                      cases ha : aggEq k1 xs ys with
                      | none => simp [ha] at he
                      | some b1 =>
                        rw [ih _ _ _ D xs ys X' Y' b1 h1 (by omega) hXc hYc ha]
                        cases b1 with
                        | false => simp [ha] at he; subst he; simp
                        | true => simp only [ha] at he; simpa using ihf k2 b he h2
                · cases hk
    · obtain ⟨k, rfl, _, hl⟩ := flat_leaf (w := w) hk fun fs e => hs ⟨fs, e⟩
      have hx : xs[off]? = some X := by
        unfold CellsAt at hX; split at hX
        · rename_i hfu; exact absurd ⟨_, hfu⟩ hs
        · exact hX
      have hy : ys[off]? = some Y := by
        unfold CellsAt at hY; split at hY
        · rename_i hfu; exact absurd ⟨_, hfu⟩ hs
        · exact hY
      simp only [aggEq, hx, hy] at he
      refine hl D X Y b ?_
      revert he
      cases ckEq k (some X) (some Y) with
      | none => simp
      | some b' => cases b' <;> simp

theorem ckEq_VR {k : CK} {x y : Value} {x' y' : Value} {b : Bool} (h : ckEq k (some x) (some y) = some b) (hx : VR ρ x x') (hy : VR ρ y y') : ckEq k (some x') (some y') = some b := by
  cases k <;> cases hx <;> cases hy <;> first | exact h | (simp [ckEq] at h; done)
theorem aggEq_VR : ∀ (ks : List (Nat × CK)) {xs ys xs' ys' : Array Value} {b : Bool}, aggEq ks xs ys = some b → VRs ρ xs.toList xs'.toList → VRs ρ ys.toList ys'.toList → aggEq ks xs' ys' = some b
  | [], _, _, _, _, _, h, _, _ => h
  | (o, k) :: ks, xs, ys, xs', ys', b, h, hx, hy => by
    simp only [aggEq] at h ⊢
    cases hc : ckEq k xs[o]? ys[o]? with
    | none => simp [hc] at h
    | some b1 =>
      obtain ⟨u, v, hu, hv⟩ := ckEq_some hc
      obtain ⟨u', hu', ru⟩ := hx.get o u (by simpa using hu)
      obtain ⟨v', hv', rv⟩ := hy.get o v (by simpa using hv)
      rw [hu, hv] at hc
      have := ckEq_VR hc ru rv
      rw [Array.getElem?_toList] at hu' hv'
      rw [hu', hv', this]
      rw [hu, hv, hc] at h
      cases b1 with
      | false => exact h
      | true => exact aggEq_VR ks h hx hy

def EqInv (P : Program) (t : TypeId) : EqT → Prop
    | .no => True
    | .bool => P.underlying t = some .bool
    | .ptr => ∃ e, P.underlying t = some (.pointer e)
    | .sl => ∃ e, P.underlying t = some (.slice e)
    | .map => ∃ k e, P.underlying t = some (.map k e)
    | .fn => ∃ a b c, P.underlying t = some (.func a b c)
    | .ifc => ∃ m, P.underlying t = some (.interface m)
    | .agg ks => (∃ fs, P.underlying t = some (.struct fs)) ∧ P.eqGuardType P.depth t = false ∧ flatEq P 20 t 0 = some ks
theorem eqOf_inv (t : TypeId) : EqInv P t (eqOf P t) := by
  unfold eqOf
  cases hu : P.underlying t with
  | none => trivial
  | some d =>
    cases d with
    | struct fs =>
      dsimp only
      split
      · trivial
      · rename_i hg
        cases hf : flatEq P 20 t 0 with
        | none => trivial
        | some ks => exact ⟨⟨fs, hu⟩, by simpa using hg, hf⟩
    | _ => simp [EqInv, hu]

theorem guard_nil {op : BinOp} {t : TypeId} {X Y : Operand} (hc : (isCst X || isCst Y) = true) : (eqGuard op t X Y .nilIface .nilIface).run P w = .ok () w := by
  cases X with
  | const x => cases op <;> rfl
  | _ => cases Y with
    | const y => cases op <;> rfl
    | _ => simp [isCst] at hc

theorem flat_size {t : TypeId} {fs : Array Field} {d off : Nat} {ks : List (Nat × CK)} (hfs : P.underlying t = some (.struct fs)) (hf : flatEq P (d + 1) t off = some ks) : ∃ n, sizeP P t = some n := by
  simp only [flatEq, hfs] at hf
  split at hf
  · cases hf
  · cases hn : sizeP P t with
    | none => simp [hn] at hf
    | some n => exact ⟨n, rfl⟩
set_option maxHeartbeats 800000 in
theorem eq_sound {t : TypeId} {X Y : Operand} {op : BinOp} {u v u' v' : Value} {b : Bool} (he : eqE (eqOf P t) (isCst X || isCst Y) u v = some b) (hu : VR ρ u u') (hv : VR ρ v v') :
    (eqGuard op t X Y u' v').run P w = .ok () w ∧ (Op.equal t u' v').run P w = .ok b w := by
  have hi := eqOf_inv (P := P) t
  suffices hs : (eqGuard op t X Y u' v').run P w = .ok () w ∧ ((∀ D, (Op.equalIn (D + 1) t u' v').run P w = .ok b w) ∨ (Op.equal t u' v').run P w = .ok b w) from
    ⟨hs.1, hs.2.elim (fun k => k 9999) id⟩
  generalize hq : eqOf P t = q at he hi
  cases q with
  | no => simp [eqE] at he
  | bool =>
    simp only [EqInv] at hi
    cases hu <;> cases hv <;> simp [eqE] at he
    exact ⟨by cases op <;> rfl, .inl fun D => by rw [Op.equalIn, Sem.run_bind, r_underlying hi]; simp [he]⟩
  | ptr =>
    obtain ⟨e, hi⟩ := hi
    cases hu <;> cases hv <;> simp only [eqE, Option.isNone_none, Option.isNone_some] at he <;> first | (cases he; done) | skip
    all_goals
      cases he
      exact ⟨by cases op <;> rfl, .inl fun D => by rw [Op.equalIn, Sem.run_bind, r_underlying hi]; rfl⟩
  | sl =>
    obtain ⟨e, hi⟩ := hi
    cases hu <;> cases hv <;> simp only [eqE, Option.isNone_none, Option.isNone_some] at he <;> first | (cases he; done) | skip
    all_goals
      cases he
      exact ⟨by cases op <;> rfl, .inl fun D => by rw [Op.equalIn, Sem.run_bind, r_underlying hi]; rfl⟩
  | map =>
    obtain ⟨k, e, hi⟩ := hi
    cases hu <;> cases hv <;> simp only [eqE, Option.isNone_none, Option.isNone_some] at he <;> first | (cases he; done) | skip
    all_goals
      cases he
      exact ⟨by cases op <;> rfl, .inl fun D => by rw [Op.equalIn, Sem.run_bind, r_underlying hi]; rfl⟩
  | fn =>
    obtain ⟨k, e, f, hi⟩ := hi
    cases hu <;> cases hv <;> simp only [eqE] at he <;> first | (cases he; done) | skip
    all_goals
      cases he
      exact ⟨by cases op <;> rfl, .inl fun D => by rw [Op.equalIn, Sem.run_bind, r_underlying hi]; rfl⟩
  | ifc =>
    obtain ⟨m, hi⟩ := hi
    cases hu <;> cases hv <;> simp only [eqE] at he <;> first | (cases he; done) | skip
    · split at he <;> cases he
      rename_i hc
      refine ⟨?_, .inl fun D => by rw [Op.equalIn, Sem.run_bind, r_underlying hi]; rfl⟩
      exact guard_nil hc
    all_goals
      cases he
      exact ⟨by cases op <;> rfl, .inl fun D => by rw [Op.equalIn, Sem.run_bind, r_underlying hi]; rfl⟩
  | agg ks =>
    obtain ⟨⟨fs, hfs⟩, hg, hf⟩ := hi
    cases hu <;> cases hv <;> simp only [eqE] at he <;> first | (cases he; done) | skip
    rename_i c c' h1 d d' h2
    refine ⟨by cases op <;> simp [eqGuard, hg], .inr ?_⟩
    have hn := flat_size (d := 19) hfs hf
    obtain ⟨n, hn⟩ := hn
    refine flat_eq 20 t 0 ks Op.maxDepth c' d' _ _ b hf (by unfold Op.maxDepth; omega) ?_ ?_ (aggEq_VR ks he h1 h2)
    · simp only [CellsAt, hfs]; exact ⟨c', n, rfl, hn, fun j _ => by simp⟩
    · simp only [CellsAt, hfs]; exact ⟨d', n, rfl, hn, fun j _ => by simp⟩
end Go.GS
