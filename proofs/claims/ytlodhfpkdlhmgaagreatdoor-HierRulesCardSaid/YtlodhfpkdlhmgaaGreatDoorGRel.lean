/- How G's state stands to the machine's: values, blocks, heaps; steps. -/
import Derived.Test.YtlodhfpkdlhmgaaGreatDoorGElab
namespace Go.GS

/-- Where an abstract block lies: the machine's block, from which cell on; how many cells that block has; the element's size. -/
structure BI where
  blk : Nat
  d : Nat
  size : Nat
  sz : Nat
abbrev Ren := Nat → Option BI

mutual
inductive VR (ρ : Ren) : Value → Value → Prop
  | bot (v : Value) : VR ρ (.tuple #[]) v
  | skp : VR ρ (.tuple #[.bool false]) (.tuple #[])
  | bool (b : Bool) : VR ρ (.bool b) (.bool b)
  | int (k : IntKind) (n : Int) : VR ρ (.int k n) (.int k n)
  | string (s : ByteArray) : VR ρ (.string s) (.string s)
  | nilIface : VR ρ .nilIface .nilIface
  | nilFunc : VR ρ .nilFunc .nilFunc
  | ptrN : VR ρ (.pointer none) (.pointer none)
  | ptr {a : Addr} {i : BI} (h : ρ a.block = some i) (hs : a.spot = none) : VR ρ (.pointer (some a)) (.pointer (some ⟨i.blk, i.d + a.off, none⟩))
  | slN : VR ρ (.slice none 0 0) (.slice none 0 0)
  | sl {a : Addr} {i : BI} {l c : Nat} (h : ρ a.block = some i) (hs : a.spot = none) (h1 : c < UNK) (h3 : l ≤ c) :
      VR ρ (.slice (some a) l c) (.slice (some ⟨i.blk, i.d + a.off, none⟩) l c)
  | slU {a : Addr} {i : BI} {l c' : Nat} (h : ρ a.block = some i) (hs : a.spot = none) (h3 : l ≤ c') (h4 : i.d + a.off + c' * i.sz ≤ i.size) :
      VR ρ (.slice (some a) l UNK) (.slice (some ⟨i.blk, i.d + a.off, none⟩) l c')
  | slE (a a' : Addr) (c' : Nat) : VR ρ (.slice (some a) 0 UNE) (.slice (some a') 0 c')
  | mapN : VR ρ (.map none) (.map none)
  | map {r : Nat} {i : BI} (h : ρ r = some i) : VR ρ (.map (some r)) (.map (some i.blk))
  | func (fn : Fn) {f c f' c' : Array Value} (h1 : VRs ρ f.toList f'.toList) (h2 : VRs ρ c.toList c'.toList) : VR ρ (.func fn f c) (.func fn f' c')
  | iface (t : TypeId) {v v' : Value} (h : VR ρ v v') : VR ρ (.iface t v) (.iface t v')
  | agg {c c' : Array Value} (h : VRs ρ c.toList c'.toList) : VR ρ (.agg c) (.agg c')
  | tup {c c' : Array Value} (h2 : 2 ≤ c.size) (h : VRs ρ c.toList c'.toList) : VR ρ (.tuple c) (.tuple c')
inductive VRs (ρ : Ren) : List Value → List Value → Prop
  | nil : VRs ρ [] []
  | cons {v v' : Value} {l l' : List Value} (h : VR ρ v v') (t : VRs ρ l l') : VRs ρ (v :: l) (v' :: l')
end

/-- ρ' says all that ρ says. -/
def Ren.le (ρ ρ' : Ren) : Prop := ∀ b i, ρ b = some i → ρ' b = some i
theorem Ren.le_refl (ρ : Ren) : ρ.le ρ := fun _ _ h => h
theorem Ren.le_trans {a b c : Ren} (h : a.le b) (k : b.le c) : a.le c := fun x i hx => k x i (h x i hx)

mutual
theorem VR.mono {ρ ρ' : Ren} (hr : ρ.le ρ') : ∀ {v v' : Value}, VR ρ v v' → VR ρ' v v'
  | _, _, .bot v => .bot v
  | _, _, .skp => .skp
  | _, _, .bool b => .bool b
  | _, _, .int k n => .int k n
  | _, _, .string s => .string s
  | _, _, .nilIface => .nilIface
  | _, _, .nilFunc => .nilFunc
  | _, _, .ptrN => .ptrN
  | _, _, .ptr h hs => .ptr (hr _ _ h) hs
  | _, _, .slN => .slN
  | _, _, .sl h hs h1 h3 => .sl (hr _ _ h) hs h1 h3
  | _, _, .slU h hs h3 h4 => .slU (hr _ _ h) hs h3 h4
  | _, _, .slE a a' c' => .slE a a' c'
  | _, _, .mapN => .mapN
  | _, _, .map h => .map (hr _ _ h)
  | _, _, .func fn h1 h2 => .func fn (VRs.mono hr h1) (VRs.mono hr h2)
  | _, _, .iface t h => .iface t (VR.mono hr h)
  | _, _, .agg h => .agg (VRs.mono hr h)
  | _, _, .tup h2 h => .tup h2 (VRs.mono hr h)
theorem VRs.mono {ρ ρ' : Ren} (hr : ρ.le ρ') : ∀ {l l' : List Value}, VRs ρ l l' → VRs ρ' l l'
  | _, _, .nil => .nil
  | _, _, .cons h t => .cons (VR.mono hr h) (VRs.mono hr t)
end

theorem VRs.length {ρ : Ren} : ∀ {l l' : List Value}, VRs ρ l l' → l.length = l'.length
  | _, _, .nil => rfl
  | _, _, .cons _ t => by simp [VRs.length t]
theorem VRs.get {ρ : Ren} : ∀ {l l' : List Value}, VRs ρ l l' → ∀ (j : Nat) (v : Value), l[j]? = some v → ∃ v', l'[j]? = some v' ∧ VR ρ v v'
  | _, _, .nil, j, v, h => by simp at h
  | _, _, .cons hv t, 0, v, h => by simp at h; subst h; exact ⟨_, rfl, hv⟩
  | _, _, .cons hv t, j + 1, v, h => by simp at h; obtain ⟨v', h1, h2⟩ := VRs.get t j v h; exact ⟨v', by simpa using h1, h2⟩
theorem VRs.of_get {ρ : Ren} : ∀ {l l' : List Value}, l.length = l'.length → (∀ (j : Nat) (v v' : Value), l[j]? = some v → l'[j]? = some v' → VR ρ v v') → VRs ρ l l'
  | [], [], _, _ => .nil
  | [], _ :: _, h, _ => by simp at h
  | _ :: _, [], h, _ => by simp at h
  | v :: l, v' :: l', h, hg => .cons (hg 0 v v' rfl rfl) (VRs.of_get (by simpa using h) fun j x x' h1 h2 => hg (j + 1) x x' (by simpa using h1) (by simpa using h2))
theorem VRs.append {ρ : Ren} : ∀ {a a' b b' : List Value}, VRs ρ a a' → VRs ρ b b' → VRs ρ (a ++ b) (a' ++ b')
  | _, _, _, _, .nil, k => k
  | _, _, _, _, .cons h t, k => .cons h (VRs.append t k)
theorem VRs.drop {ρ : Ren} : ∀ {l l' : List Value} (n : Nat), VRs ρ l l' → VRs ρ (l.drop n) (l'.drop n)
  | _, _, _, .nil => by simpa using VRs.nil
  | _, _, 0, .cons h t => .cons h t
  | _, _, n + 1, .cons _ t => by simpa using VRs.drop n t
theorem VRs.take {ρ : Ren} : ∀ {l l' : List Value} (n : Nat), VRs ρ l l' → VRs ρ (l.take n) (l'.take n)
  | _, _, _, .nil => by simpa using VRs.nil
  | _, _, 0, .cons _ _ => by simpa using VRs.nil
  | _, _, n + 1, .cons h t => by simpa using VRs.cons h (VRs.take n t)
theorem VRs.splice {ρ : Ren} {c c' vs vs' : List Value} (off : Nat) (h : VRs ρ c c') (k : VRs ρ vs vs') : VRs ρ (splice c off vs) (splice c' off vs') := by
  unfold Go.GS.splice
  rw [← k.length]
  exact ((h.take off).append k).append (h.drop _)

theorem simple1_VR {ρ : Ren} : ∀ {v : Value}, simple1 v = true → VR ρ v v := by
  intro v h
  cases v with
  | bool b => exact .bool b
  | int k n => exact .int k n
  | string s => exact .string s
  | nilIface => exact .nilIface
  | nilFunc => exact .nilFunc
  | pointer a => cases a with | none => exact .ptrN | some a => simp [simple1] at h
  | map a => cases a with | none => exact .mapN | some a => simp [simple1] at h
  | slice a l c =>
    cases a with
    | some a => simp [simple1] at h
    | none =>
      unfold simple1 at h
      split at h <;> first | (cases h; done) | skip
      all_goals first | (rename_i heq; cases heq; exact .slN) | (rename_i heq; cases heq) | skip
  | _ => simp [simple1] at h
theorem all_simple1_VRs {ρ : Ren} : ∀ {l : List Value}, l.all simple1 = true → VRs ρ l l
  | [], _ => .nil
  | v :: l, h => by simp at h; exact .cons (simple1_VR h.1) (all_simple1_VRs (by simpa using h.2))
theorem simpleV_VR {ρ : Ren} {v : Value} (h : simpleV v = true) : VR ρ v v := by
  unfold simpleV at h
  split at h
  · exact .agg (all_simple1_VRs h)
  · exact simple1_VR h
theorem simpleV_cells {ρ : Ren} {v : Value} (h : simpleV v = true) : VRs ρ (cellsL v) (cellsL v) := by
  unfold simpleV at h
  split at h
  · simpa [cellsL] using all_simple1_VRs h
  · rename_i hn
    have : cellsL v = [v] := by unfold cellsL; split <;> simp_all
    rw [this]; exact .cons (simple1_VR h) .nil
theorem cells_toList (v : Value) : v.cells.toList = cellsL v := by cases v <;> simp [Value.cells, cellsL]
theorem VR.cellsL {ρ : Ren} {v v' : Value} (h : VR ρ v v') (hc : v ≠ .tuple #[]) : VRs ρ (cellsL v) (cellsL v') := by
  cases h with
  | bot => exact absurd rfl hc
  | agg h => exact h
  | skp => exact .cons .skp .nil
  | bool b => exact .cons (.bool b) .nil
  | int k n => exact .cons (.int k n) .nil
  | string s => exact .cons (.string s) .nil
  | nilIface => exact .cons .nilIface .nil
  | nilFunc => exact .cons .nilFunc .nil
  | ptrN => exact .cons .ptrN .nil
  | ptr h hs => exact .cons (.ptr h hs) .nil
  | slN => exact .cons .slN .nil
  | sl h hs h1 h3 => exact .cons (.sl h hs h1 h3) .nil
  | slU h hs h3 h4 => exact .cons (.slU h hs h3 h4) .nil
  | slE a a' c' => exact .cons (.slE a a' c') .nil
  | mapN => exact .cons .mapN .nil
  | map h => exact .cons (.map h) .nil
  | func fn h1 h2 => exact .cons (.func fn h1 h2) .nil
  | iface t h => exact .cons (.iface t h) .nil
  | tup h2 h => exact .cons (.tup h2 h) .nil

/-- Entries of a map. -/
inductive MR (ρ : Ren) : List (Value × Value) → List MapEntry → Prop
  | nil : MR ρ [] []
  | cons {k v : Value} {e : MapEntry} {l : List (Value × Value)} {l' : List MapEntry} (hk : VR ρ k e.key) (hv : VR ρ v e.val) (t : MR ρ l l') : MR ρ ((k, v) :: l) (e :: l')
theorem MR.mono {ρ ρ' : Ren} (hr : ρ.le ρ') : ∀ {l : List (Value × Value)} {l' : List MapEntry}, MR ρ l l' → MR ρ' l l'
  | _, _, .nil => .nil
  | _, _, .cons hk hv t => .cons (hk.mono hr) (hv.mono hr) (t.mono hr)

def BlkR (ρ : Ren) : Blk → BI → Obj → Prop
  | .arr ro sz c, i, o => ∃ c' e fr, o = .cells c' e fr ∧ c'.size = i.size ∧ i.sz = sz ∧ i.d + c.length ≤ c'.size ∧
      (∀ j v, c[j]? = some v → ∃ v', c'[i.d + j]? = some v' ∧ VR ρ v v') ∧ (ro = false → fr.1 < fr.2 → c'.size ≤ fr.1)
  | .map es, _, o => ∃ es' ck, o = .map es' ck ∧ MR ρ es es'.toList
  | .dead, _, _ => True
theorem BlkR.mono {ρ ρ' : Ren} (hr : ρ.le ρ') {x : Blk} {i : BI} {o : Obj} (h : BlkR ρ x i o) : BlkR ρ' x i o := by
  cases x with
  | arr ro sz c =>
    obtain ⟨c', e, fr, h1, h2, h3, h4, h5, h6⟩ := h
    exact ⟨c', e, fr, h1, h2, h3, h4, fun j v hj => by obtain ⟨v', a, b⟩ := h5 j v hj; exact ⟨v', a, b.mono hr⟩, h6⟩
  | map es => obtain ⟨es', ck, h1, h2⟩ := h; exact ⟨es', ck, h1, h2.mono hr⟩
  | dead => trivial

/-- A block that G may write. -/
def Blk.own : Blk → Bool
  | .arr ro _ _ => !ro
  | .map _ => true
  | .dead => false
def Blk.isDead : Blk → Bool
  | .dead => true
  | _ => false
def Heap.ownAt (h : Heap) (b : Nat) : Prop := ∃ x, h.get b = some x ∧ x.own = true

structure Sim (B : Nat) (ρ : Ren) (h : Heap) (w : World) : Prop where
  blk : ∀ b i, ρ b = some i → ∃ x o, h.get b = some x ∧ w.heap[i.blk]? = some o ∧ BlkR ρ x i o
  inj : ∀ b c i j, ρ b = some i → ρ c = some j → h.ownAt b → i.blk = j.blk → b = c ∨ h.get c = some .dead
  above : ∀ b i, ρ b = some i → h.ownAt b → B ≤ i.blk
  bound : B ≤ w.heap.size

/-- One step of both: what G's heap and the machine's were and are. -/
structure Step (B : Nat) (ρ : Ren) (h : Heap) (w : World) (ρ' : Ren) (h' : Heap) (w' : World) : Prop where
  ext : ρ.le ρ'
  new : ∀ b i, ρ' b = some i → ρ b = none → h.size ≤ b
  size : h.size ≤ h'.size
  wsize : w.heap.size ≤ w'.heap.size
  low : h'.low ≤ h.low
  nb : h'.nb = h.nb
  same : ∀ b, b < h.size → b < h'.low → h'.get b = h.get b
  revive : ∀ b, b < h.size → h'.ownAt b → h.ownAt b
  frame : ∀ c, c < w.heap.size → (c < B ∨ ∀ b i, ρ b = some i → i.blk = c → h.ownAt b → b < h'.low) → w'.heap[c]? = w.heap[c]?
  fresh : ∀ b i, ρ' b = some i → ρ b = none → w.heap.size ≤ i.blk ∨ ∃ c j, ρ c = some j ∧ h.ownAt c ∧ h'.low ≤ c ∧ j.blk = i.blk
  io : w'.os = w.os ∧ w'.output = w.output

theorem Sim.dom {B : Nat} {ρ : Ren} {h : Heap} {w : World} (s : Sim B ρ h w) {b : Nat} {i : BI} (hb : ρ b = some i) : b < h.size := by
  obtain ⟨x, o, hx, _⟩ := s.blk b i hb
  exact Heap.get_lt hx
theorem Sim.rng {B : Nat} {ρ : Ren} {h : Heap} {w : World} (s : Sim B ρ h w) {b : Nat} {i : BI} (hb : ρ b = some i) : i.blk < w.heap.size := by
  obtain ⟨x, o, _, ho, _⟩ := s.blk b i hb
  rcases Nat.lt_or_ge i.blk w.heap.size with h | h
  · exact h
  · rw [Array.getElem?_eq_none h] at ho; cases ho

theorem Step.refl (B : Nat) (ρ : Ren) (h : Heap) (w : World) : Step B ρ h w ρ h w where
  ext := Ren.le_refl ρ
  new := fun b i h1 h2 => by rw [h2] at h1; cases h1
  size := Nat.le_refl _
  wsize := Nat.le_refl _
  low := Nat.le_refl _
  nb := rfl
  same := fun _ _ _ => rfl
  revive := fun _ _ h => h
  frame := fun _ _ _ => rfl
  fresh := fun b i h1 h2 => by rw [h2] at h1; cases h1
  io := ⟨rfl, rfl⟩

theorem Step.trans {B : Nat} {ρ ρ1 ρ2 : Ren} {h h1 h2 : Heap} {w w1 w2 : World} (s : Sim B ρ h w) (a : Step B ρ h w ρ1 h1 w1) (b : Step B ρ1 h1 w1 ρ2 h2 w2) :
    Step B ρ h w ρ2 h2 w2 where
  ext := Ren.le_trans a.ext b.ext
  new := fun x i hx hn => by
    cases hx1 : ρ1 x with
    | none => exact Nat.le_trans a.size (b.new x i hx hx1)
    | some j => exact a.new x j hx1 hn
  size := Nat.le_trans a.size b.size
  io := ⟨b.io.1.trans a.io.1, b.io.2.trans a.io.2⟩
  wsize := Nat.le_trans a.wsize b.wsize
  low := Nat.le_trans b.low a.low
  nb := b.nb.trans a.nb
  same := fun x hx hl => by
    rw [b.same x (Nat.lt_of_lt_of_le hx a.size) hl, a.same x hx (Nat.lt_of_lt_of_le hl b.low)]
  revive := fun x hx ho => a.revive x hx (b.revive x (Nat.lt_of_lt_of_le hx a.size) ho)
  frame := fun c hc hcond => by
    have hl := b.low
    rw [b.frame c (Nat.lt_of_lt_of_le hc a.wsize) ?_, a.frame c hc ?_]
    · rcases hcond with h | h
      · exact .inl h
      · exact .inr fun x i hx hi ho => Nat.lt_of_lt_of_le (h x i hx hi ho) hl
    · rcases hcond with h | h
      · exact .inl h
      · refine .inr fun x i hx hi ho => ?_
        cases hx0 : ρ x with
        | some j =>
          have := a.ext x j hx0
          rw [hx] at this; cases this
          exact h x i hx0 hi (a.revive x (s.dom hx0) ho)
        | none =>
          exfalso
          rcases a.fresh x i hx hx0 with hf | ⟨y, j, hy, hyo, hyl, hji⟩
          · omega
          · have := h y j hy (hji.trans hi) hyo
            omega
  fresh := fun x i hx hn => by
    have hl := b.low
    cases hx1 : ρ1 x with
    | some j =>
      have := b.ext x j hx1
      rw [hx] at this; cases this
      rcases a.fresh x i hx1 hn with hf | ⟨y, j, hy, hyo, hyl, hji⟩
      · exact .inl hf
      · exact .inr ⟨y, j, hy, hyo, Nat.le_trans hl hyl, hji⟩
    | none =>
      rcases b.fresh x i hx hx1 with hf | ⟨y, j, hy, hyo, hyl, hji⟩
      · exact .inl (Nat.le_trans a.wsize hf)
      · cases hy0 : ρ y with
        | some k =>
          have := a.ext y k hy0
          rw [hy] at this; cases this
          exact .inr ⟨y, j, hy0, a.revive y (s.dom hy0) hyo, hyl, hji⟩
        | none =>
          rcases a.fresh y j hy hy0 with hf | ⟨z, k, hz, hzo, hzl, hkz⟩
          · exact .inl (by rw [← hji]; exact hf)
          · exact .inr ⟨z, k, hz, hzo, Nat.le_trans hl hzl, hkz.trans hji⟩

def EnvR (ρ : Ren) (env : List Value) (tmps : Array Value) : Prop :=
  env.length = tmps.size ∧ ∀ i, VR ρ (env.getD i undef) (tmps.getD i undef)
theorem EnvR.mono {ρ ρ' : Ren} {env : List Value} {tmps : Array Value} (hr : ρ.le ρ') (h : EnvR ρ env tmps) : EnvR ρ' env tmps :=
  ⟨h.1, fun i => (h.2 i).mono hr⟩
theorem EnvR.put {ρ : Ren} {env : List Value} {a : Act} {v v' : Value} (h : EnvR ρ env a.tmps) (hv : VR ρ v v') (d : Option Nat) :
    EnvR ρ (putE env d v) (a.put d v').tmps := by
  cases d with
  | none => exact h
  | some d =>
    refine ⟨by simp [putE, Act.put, h.1], fun i => ?_⟩
    simp only [putE, Act.put]
    by_cases hi : i = d
    · subst hi
      by_cases hl : i < env.length
      · have hl' : i < a.tmps.size := by rw [← h.1]; exact hl
        simpa [List.getD, Array.getD, hl, hl', List.getElem?_set] using hv
      · have hl' : ¬ i < a.tmps.size := by rw [← h.1]; exact hl
        have := h.2 i
        simpa [List.getD, Array.getD, hl, hl', List.getElem?_set] using this
    · have := h.2 i
      have hne : ¬ d = i := fun e => hi e.symm
      have e1 : (env.set d v).getD i undef = env.getD i undef := by simp [List.getD, hne]
      have e2 : (a.tmps.setIfInBounds d v').getD i undef = a.tmps.getD i undef := by
        simp only [Array.getD_eq_getD_getElem?]
        rw [Array.getElem?_setIfInBounds_ne (by omega)]
      rw [e1, e2]; exact this
theorem put_defers (a : Act) (d : Option Nat) (v : Value) : (a.put d v).defers = a.defers := by cases d <;> rfl
theorem EnvR.ev {ρ : Ren} {env : List Value} {a : Act} (h : EnvR ρ env a.tmps) {x : Operand} (hx : okOpd x = true) : VR ρ (ev env x) (a.eval x) := by
  cases x with
  | tmp t => exact h.2 t
  | const v => exact simpleV_VR hx
  | global g => simp [okOpd] at hx
  | func f => exact .func _ (by simpa using VRs.nil) (by simpa using VRs.nil)
theorem EnvR.evs {ρ : Ren} {env : List Value} {a : Act} (h : EnvR ρ env a.tmps) : ∀ {l : List Operand}, okAll l = true → VRs ρ (l.map (Go.GS.ev env)) (l.map a.eval)
  | [], _ => .nil
  | x :: l, hx => by
    simp [okAll] at hx
    exact .cons (h.ev hx.1) (h.evs (by simpa [okAll] using hx.2))
end Go.GS
