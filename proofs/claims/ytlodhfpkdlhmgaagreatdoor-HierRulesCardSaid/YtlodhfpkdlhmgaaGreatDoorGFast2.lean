/- A part of the proof by a deterministic interpreter of the loaded code (no condition of its own). -/
import Derived.Test.YtlodhfpkdlhmgaaGreatDoorGFast1
namespace Go.GS
/-- A keep-list that grows. -/
noncomputable def sortB (l : List Nat) : Nat → Bool :=
  List.rec (motive := fun _ => Nat → Bool) (fun _ => true) (fun a _ ih i => Bool.rec (motive := fun _ => Bool) false (ih (a + 1)) (Nat.ble i a)) l
noncomputable def keepA (keep : List Nat) (al : AL) : AL := List.rec (motive := fun _ => AL) [] (fun i _ ih => (i, lookA al i) :: ih) keep
theorem lookA_keep (al : AL) (t : Nat) : ∀ keep, lookA (keepA keep al) t = if t ∈ keep then lookA al t else undef
  | [] => rfl
  | i :: keep => by
    show lookA ((i, lookA al i) :: keepA keep al) t = _
    rw [lookA_cons, lookA_keep al t keep]
    by_cases h : i = t
    · subst h; simp
    · have : ¬ t = i := fun e => h e.symm
      simp [h, this]
theorem expa_lenA : ∀ (n i : Nat) (keep : List Nat) (vs : List Value), (expa n i keep vs).length = n
  | 0, _, _, _ => rfl
  | n + 1, i, [], vs => by simp [expa, expa_lenA n]
  | n + 1, i, k :: ks, vs => by unfold expa; split <;> simp [expa_lenA n]
theorem expa_getA (env : List Value) : ∀ (n i : Nat) (keep : List Nat) (t : Nat), sortB keep i = true →
    (expa n i keep (proj keep env)).getD t undef = if t < n ∧ i + t ∈ keep then env.getD (i + t) undef else undef
  | 0, i, keep, t, _ => by simp [expa]
  | n + 1, i, [], t, h => by
    cases t with
    | zero => simp [expa]
    | succ t =>
      have := expa_getA env n (i + 1) [] t rfl
      simp [expa] at this ⊢
      simpa [proj] using this
  | n + 1, i, k :: ks, t, h => by
    have hk : i ≤ k ∧ sortB ks (k + 1) = true := by
      have h : Bool.rec (motive := fun _ => Bool) false (sortB ks (k + 1)) (Nat.ble i k) = true := h
      cases hb : Nat.ble i k with
      | false => rw [hb] at h; cases h
      | true => rw [hb] at h; exact ⟨Nat.le_of_ble_eq_true hb, h⟩
    have hgt : ∀ (ks : List Nat) (j : Nat), sortB ks j = true → ∀ x ∈ ks, j ≤ x := by
      intro ks
      induction ks with
      | nil => intro j _ x hx; cases hx
      | cons a as ih =>
        intro j hj x hx
        have hj : Bool.rec (motive := fun _ => Bool) false (sortB as (a + 1)) (Nat.ble j a) = true := hj
        cases hb : Nat.ble j a with
        | false => rw [hb] at hj; cases hj
        | true =>
          rw [hb] at hj
          have h1 := Nat.le_of_ble_eq_true hb
          rcases List.mem_cons.1 hx with rfl | hx
          · exact h1
          · have := ih (a + 1) hj x hx; omega
    unfold expa
    by_cases hi : i = k
    · subst hi
      rw [if_pos rfl]
      cases t with
      | zero => simp [proj]
      | succ t =>
        have hp : (proj (i :: ks) env).tail = proj ks env := rfl
        rw [hp, List.getD_cons_succ, expa_getA env n (i + 1) ks t hk.2]
        have e1 : i + 1 + t = i + (t + 1) := by omega
        rw [e1]
        have : ¬ (i + (t + 1) = i) := by omega
        simp [List.mem_cons, this]
    · rw [if_neg hi]
      cases t with
      | zero =>
        have : ¬ i ∈ k :: ks := fun hm => by
          rcases List.mem_cons.1 hm with e | e
          · exact hi e
          · have := hgt ks (k + 1) hk.2 i e; omega
        simp [this]
      | succ t =>
        have hs : sortB (k :: ks) (i + 1) = true := by
          show Bool.rec (motive := fun _ => Bool) false (sortB ks (k + 1)) (Nat.ble (i + 1) k) = true
          have : Nat.ble (i + 1) k = true := Nat.ble_eq_true_of_le (by omega)
          rw [this]; exact hk.2
        rw [List.getD_cons_succ, expa_getA env n (i + 1) (k :: ks) t hs]
        have e1 : i + 1 + t = i + (t + 1) := by omega
        rw [e1]; simp
theorem RA.keep {N : Nat} {l : AL} {env : List Value} (r : RA N l env) {keep : List Nat} (hs : sortB keep 0 = true) : RA N (keepA keep l) (expa N 0 keep (proj keep env)) := by
  refine ⟨expa_lenA _ _ _ _, fun t => ?_⟩
  rw [lookA_keep, expa_getA env N 0 keep t hs, r.look, Nat.zero_add]
  by_cases hm : t ∈ keep
  · by_cases ht : t < N
    · simp [hm, ht]
    · simp only [hm, ht, if_true, false_and, if_false]
      rw [List.getD_eq_getElem?_getD, List.getElem?_eq_none (by rw [r.len]; omega)]; rfl
  · simp [hm]

abbrev FRes := Option (GX × AL × Heap)
/-- What the fast one says of G's. -/
def FLe (N : Nat) (x : FRes) (y : GRes) : Prop := ∀ g al h, x = some (g, al, h) → ∃ env, y = some (g, env, h) ∧ RA N al env
def FLeK (N : Nat) (keep : List Nat) (x : FRes) (y : GRes) : Prop := ∀ g al h, x = some (g, al, h) → ∃ vs, y = some (g, vs, h) ∧ RA N al (expa N 0 keep vs)

noncomputable def keepF (keep : List Nat) : FRes → FRes
  | some (x, al, h) => some (x, keepA keep al, h)
  | none => none
theorem FLe.keepF {N : Nat} {keep : List Nat} (hs : sortB keep 0 = true) {x : FRes} {y : GRes} (hl : FLe N x y) : FLeK N keep (Go.GS.keepF keep x) (projR keep y) := by
  intro g al h hx
  cases x with
  | none => cases hx
  | some p =>
    obtain ⟨g1, al1, h1⟩ := p
    have hx : (g1, keepA keep al1, h1) = (g, al, h) := Option.some.inj hx
    cases hx
    obtain ⟨env, e1, e2⟩ := hl _ _ _ rfl
    exact ⟨proj keep env, by rw [e1]; rfl, e2.keep hs⟩
theorem FLeK.expa {N : Nat} {keep : List Nat} {x : FRes} {y : GRes} (hl : FLeK N keep x y) : FLe N x (expaR N keep y) := by
  intro g al h hx
  obtain ⟨vs, e1, e2⟩ := hl _ _ _ hx
  exact ⟨_, by rw [e1]; rfl, e2⟩

noncomputable def seqF (ihb : AL → Heap → FRes) : FRes → FRes
  | some (.nrm, al, h) => ihb al h
  | r => r
noncomputable def opsF : Option (AL × Heap) → FRes
  | some (al, h) => some (.nrm, al, h)
  | none => none
noncomputable def condF (keep : List Nat) (iha ihb : AL → Heap → FRes) (al : AL) (h : Heap) : Value → FRes
  | .bool t => Bool.rec (motive := fun _ => FRes) none (keepF keep (Bool.rec (motive := fun _ => FRes) (ihb al h) (iha al h) t)) (sortB keep 0)
  | _ => none
noncomputable def outF (id : Nat) : FRes → FRes
  | some (.ex i, al, h) => if i = id then some (.nrm, al, h) else some (.ex i, al, h)
  | r => r
theorem FLeK.out {N : Nat} {keep : List Nat} {x : FRes} {y : GRes} (hl : FLeK N keep x y) (id : Nat) : FLeK N keep (outF id x) (outBlock id y) := by
  intro g al h hx
  cases x with
  | none => cases hx
  | some p =>
    obtain ⟨g1, al1, h1⟩ := p
    obtain ⟨vs, e1, e2⟩ := hl _ _ _ rfl
    rw [e1]
    cases g1 with
    | ex i =>
      unfold outF at hx
      unfold outBlock
      by_cases hi : i = id
      · simp only [hi, if_true] at hx ⊢
        cases hx
        exact ⟨vs, rfl, e2⟩
      · simp only [hi, if_false] at hx ⊢
        cases hx
        exact ⟨vs, rfl, e2⟩
    | nrm => cases hx; exact ⟨vs, rfl, e2⟩
    | goto l => cases hx; exact ⟨vs, rfl, e2⟩
    | ret v => cases hx; exact ⟨vs, rfl, e2⟩
noncomputable def loopS (ih : AL → Heap → FRes) : FRes → FRes
  | some (.nrm, al, h) => ih al h
  | r => r
noncomputable def loopF (F : AL → Heap → FRes) (k : Nat) : AL → Heap → FRes :=
  Nat.rec (motive := fun _ => AL → Heap → FRes) (fun _ _ => none) (fun _ ih al h => loopS ih (F al h)) k
theorem loopF_le {N : Nat} {keep : List Nat} {F : AL → Heap → FRes} {G : List Value → Heap → GRes} (hF : ∀ al vs h, RA N al (expa N 0 keep vs) → FLeK N keep (F al h) (G vs h)) :
    ∀ (k : Nat) (al : AL) (vs : List Value) (h : Heap), RA N al (expa N 0 keep vs) → FLeK N keep (loopF F k al h) (loopN k G vs h)
  | 0, al, vs, h, r => fun _ _ _ hx => by cases hx
  | k + 1, al, vs, h, r => by
    intro g al' h' hx
    have hx : loopS (loopF F k) (F al h) = some (g, al', h') := hx
    unfold loopN
    cases hf : F al h with
    | none => rw [hf] at hx; cases hx
    | some p =>
      obtain ⟨g1, al1, h1⟩ := p
      obtain ⟨vs1, e1, e2⟩ := hF al vs h r _ _ _ hf
      rw [hf] at hx
      rw [e1]
      cases g1 with
      | nrm => exact loopF_le hF k al1 vs1 h1 e2 _ _ _ hx
      | ex i => cases hx; exact ⟨vs1, rfl, e2⟩
      | goto l => cases hx; exact ⟨vs1, rfl, e2⟩
      | ret v => cases hx; exact ⟨vs1, rfl, e2⟩

/-- Results, out of slots by number. -/
noncomputable def resEX (e : Nat → Value) (h : Heap) : GR → Option Value
  | .tmp t => some (e t)
  | .cell t one n => match e t with
    | .pointer (some a) => if one then h.cell a.block a.off else (h.cells a.block a.off n).map fun c => .agg c.toArray
    | _ => none
noncomputable def resAllX (e : Nat → Value) (h : Heap) : List GR → Option (List Value)
  | [] => some []
  | r :: rs => match resEX e h r, resAllX e h rs with
    | some v, some vs => some (v :: vs)
    | _, _ => none
noncomputable def resVX (e : Nat → Value) (h : Heap) (rs : List GR) : Option Value :=
  match resAllX e h rs with
  | some [v] => some v
  | some vs => some (.tuple vs.toArray)
  | none => none
theorem resVX_eq (env : List Value) (h : Heap) (rs : List GR) : resVX (fun t => env.getD t undef) h rs = resV env h rs := by
  have h1 : ∀ r, resEX (fun t => env.getD t undef) h r = resE env h r := fun r => by cases r <;> rfl
  have h2 : ∀ rs, resAllX (fun t => env.getD t undef) h rs = resAll env h rs := fun rs => by
    induction rs with
    | nil => rfl
    | cons r rs ih => simp only [resAllX, resAll, h1, ih]; rfl
  unfold resVX resV
  rw [h2]; rfl
noncomputable def retF (al : AL) (h : Heap) : Option Value → FRes
  | some v => some (.ret v, al, h)
  | none => none

noncomputable def blockF (keep : List Nat) (id : Nat) (r : FRes) : FRes := Bool.rec (motive := fun _ => FRes) none (outF id (keepF keep r)) (sortB keep 0)
noncomputable def loopK (k : Nat) (keep : List Nat) (ih : AL → Heap → FRes) (al : AL) (h : Heap) : FRes :=
  Bool.rec (motive := fun _ => FRes) none (loopF (fun al h => keepF keep (ih al h)) k (keepA keep al) h) (sortB keep 0)
noncomputable def jumpS (ih : Nat → AL → Heap → FRes) : FRes → FRes
  | some (.goto l, al, h) => ih l al h
  | r => r
noncomputable def jumpF (keep : List Nat) (la : Nat) (iha : AL → Heap → FRes) (lb : Nat) (ihb : AL → Heap → FRes) (k : Nat) : Nat → AL → Heap → FRes :=
  Nat.rec (motive := fun _ => Nat → AL → Heap → FRes) (fun _ _ _ => none)
    (fun _ ih l al h => jumpS ih (if l = la then keepF keep (iha al h) else if l = lb then keepF keep (ihb al h) else none)) k
noncomputable def scopeF (k : Nat) (keep : List Nat) (la : Nat) (iha : AL → Heap → FRes) (lb : Nat) (ihb : AL → Heap → FRes) : FRes → FRes
  | some (.goto l, al, h) => jumpF keep la iha lb ihb k l al h
  | r => r
noncomputable def scopeK (k : Nat) (keep : List Nat) (ih : AL → Heap → FRes) (la : Nat) (iha : AL → Heap → FRes) (lb : Nat) (ihb : AL → Heap → FRes) (al : AL) (h : Heap) : FRes :=
  Bool.rec (motive := fun _ => FRes) none (scopeF k keep la iha lb ihb (keepF keep (ih al h))) (sortB keep 0)

noncomputable def execF (C : Caller) (k N : Nat) (g : GCode) : AL → Heap → FRes :=
  GCode.rec (motive := fun _ => AL → Heap → FRes)
    (fun al h => some (.nrm, al, h))
    (fun l al h => opsF (execOpsF C N l al h))
    (fun _ _ iha ihb al h => seqF ihb (iha al h))
    (fun keep c _ _ iha ihb al h => condF keep iha ihb al h (evA al c))
    (fun keep id _ ih al h => blockF keep id (ih al h))
    (fun keep _ ih al h => loopK k keep ih al h)
    (fun id al h => some (.ex id, al, h))
    (fun rs al h => retF al h (resVX (lookA al) h rs))
    (fun al h => some (.nrm, al, h))
    (fun l al h => some (.goto l, al, h))
    (fun keep _ la _ lb _ ih iha ihb al h => scopeK k keep ih la iha lb ihb al h)
    g
end Go.GS
