/- A deterministic interpreter G over the loaded code: values are the model's own; the heap is abstract; 'append' makes a new abstract block and kills the old one. Definitions and the heap's laws. -/
import Derived.Orders
import Derived.LoopN
import Derived.Scope
namespace Go.GS

/-- A capacity that is not known (at least the length); a slice of length 0 whose address is not known. -/
def UNK : Nat := 18446744073709551616
def UNE : Nat := 18446744073709551617
/-- What a skipped operation leaves. -/
def SK : Value := .tuple #[.bool false]

inductive Blk where
  | arr (ro : Bool) (sz : Nat) (c : List Value)
  | map (es : List (Value × Value))
  | dead
deriving Inhabited

inductive Tr where
  | leaf
  | node (l : Tr) (v : Option Blk) (r : Tr)

def Tr.get : Tr → Nat → Option Blk
  | .leaf, _ => none
  | .node l v r, i => if i = 0 then v else if i % 2 = 1 then l.get (i / 2) else r.get (i / 2 - 1)

def Tr.set : Nat → Tr → Nat → Blk → Tr
  | 0, t, _, _ => t
  | f + 1, .leaf, i, b =>
    if i = 0 then .node .leaf (some b) .leaf else if i % 2 = 1 then .node (Tr.set f .leaf (i / 2) b) none .leaf
    else .node .leaf none (Tr.set f .leaf (i / 2 - 1) b)
  | f + 1, .node l v r, i, b =>
    if i = 0 then .node l (some b) r else if i % 2 = 1 then .node (Tr.set f l (i / 2) b) v r
    else .node l v (Tr.set f r (i / 2 - 1) b)

theorem Tr.get_set : ∀ (f : Nat) (t : Tr) (i : Nat) (b : Blk) (j : Nat), i < f → (Tr.set f t i b).get j = if j = i then some b else t.get j := by
  intro f
  induction f with
  | zero => intro t i b j h; omega
  | succ f ih =>
    intro t i b j h
    cases t with
    | leaf =>
      simp only [Tr.set]
      by_cases h0 : i = 0
      · subst h0; by_cases hj : j = 0 <;> simp [Tr.get, hj]
      · by_cases h1 : i % 2 = 1
        · simp only [h0, h1, if_false, if_true, Tr.get]
          by_cases hj : j = 0
          · have : j ≠ i := by omega
            simp [hj]; omega
          · by_cases hj1 : j % 2 = 1
            · simp only [hj, hj1, if_false, if_true]
              rw [ih _ _ _ _ (by omega)]
              by_cases he : j / 2 = i / 2
              · have : j = i := by omega
                simp [this]
              · have : j ≠ i := fun e => he (by rw [e])
                simp [he, this, Tr.get]
            · have : j ≠ i := fun e => hj1 (by rw [e]; exact h1)
              simp [hj, hj1, this]
        · simp only [h0, h1, if_false, Tr.get]
          by_cases hj : j = 0
          · simp [hj]; omega
          · by_cases hj1 : j % 2 = 1
            · have : j ≠ i := fun e => h1 (by rw [← e]; exact hj1)
              simp [hj, hj1, this]
            · simp only [hj, hj1, if_false]
              rw [ih _ _ _ _ (by omega)]
              by_cases he : j / 2 - 1 = i / 2 - 1
              · have : j = i := by omega
                simp [this]
              · have : j ≠ i := fun e => he (by rw [e])
                simp [he, this, Tr.get]
    | node l v r =>
      simp only [Tr.set]
      by_cases h0 : i = 0
      · subst h0; by_cases hj : j = 0 <;> simp [Tr.get, hj]
      · by_cases h1 : i % 2 = 1
        · simp only [h0, h1, if_false, if_true, Tr.get]
          by_cases hj : j = 0
          · simp [hj]; omega
          · by_cases hj1 : j % 2 = 1
            · simp only [hj, hj1, if_false, if_true]
              rw [ih _ _ _ _ (by omega)]
              by_cases he : j / 2 = i / 2
              · have : j = i := by omega
                simp [this]
              · have : j ≠ i := fun e => he (by rw [e])
                simp [he, this]
            · have : j ≠ i := fun e => hj1 (by rw [e]; exact h1)
              simp [hj, hj1, this]
        · simp only [h0, h1, if_false, Tr.get]
          by_cases hj : j = 0
          · simp [hj]; omega
          · by_cases hj1 : j % 2 = 1
            · have : j ≠ i := fun e => h1 (by rw [← e]; exact hj1)
              simp [hj, hj1, this]
            · simp only [hj, hj1, if_false]
              rw [ih _ _ _ _ (by omega)]
              by_cases he : j / 2 - 1 = i / 2 - 1
              · have : j = i := by omega
                simp [this]
              · have : j ≠ i := fun e => he (by rw [e])
                simp [he, this]

/-- The abstract heap: base blocks (what was there: read, never written), and the call's own. 'low': no block below it was written since it was set. -/
structure Heap where
  nb : Nat
  base : Nat → Option Blk
  n : Nat
  own : Tr
  low : Nat

namespace Heap
def size (h : Heap) : Nat := h.nb + h.n
def get (h : Heap) (b : Nat) : Option Blk :=
  if b < h.nb then h.base b else if b < h.size then h.own.get (b - h.nb) else none
def push (h : Heap) (x : Blk) : Heap := { h with n := h.n + 1, own := Tr.set (h.n + 1) h.own h.n x }
def put (h : Heap) (b : Nat) (x : Blk) : Heap := { h with own := Tr.set (b - h.nb + 1) h.own (b - h.nb) x, low := min h.low b }
def setLow (h : Heap) (l : Nat) : Heap := { h with low := l }

theorem size_push (h : Heap) (x : Blk) : (h.push x).size = h.size + 1 := by simp [size, push]; omega
theorem size_put (h : Heap) (b : Nat) (x : Blk) : (h.put b x).size = h.size := rfl
theorem size_setLow (h : Heap) (l : Nat) : (h.setLow l).size = h.size := rfl
theorem low_push (h : Heap) (x : Blk) : (h.push x).low = h.low := rfl
theorem low_put (h : Heap) (b : Nat) (x : Blk) : (h.put b x).low = min h.low b := rfl
theorem low_setLow (h : Heap) (l : Nat) : (h.setLow l).low = l := rfl
theorem nb_push (h : Heap) (x : Blk) : (h.push x).nb = h.nb := rfl
theorem nb_put (h : Heap) (b : Nat) (x : Blk) : (h.put b x).nb = h.nb := rfl
theorem nb_setLow (h : Heap) (l : Nat) : (h.setLow l).nb = h.nb := rfl
theorem get_setLow (h : Heap) (l b : Nat) : (h.setLow l).get b = h.get b := rfl
theorem setLow_low (h : Heap) : h.setLow h.low = h := rfl
theorem setLow_setLow (h : Heap) (a b : Nat) : (h.setLow a).setLow b = h.setLow b := rfl
theorem nb_le (h : Heap) : h.nb ≤ h.size := Nat.le_add_right _ _
theorem get_push (h : Heap) (x : Blk) (b : Nat) : (h.push x).get b = if b = h.size then some x else h.get b := by
  unfold get
  rw [size_push, nb_push]
  have hb : (h.push x).base = h.base := rfl
  have ho : (h.push x).own = Tr.set (h.n + 1) h.own h.n x := rfl
  rw [hb, ho]
  by_cases h1 : b < h.nb
  · have : b ≠ h.size := by have := h.nb_le; omega
    simp [h1, this]
  · by_cases h2 : b < h.size
    · have h3 : b < h.size + 1 := by omega
      have h4 : b ≠ h.size := by omega
      have h5 : b - h.nb ≠ h.n := by unfold size at h2; omega
      simp only [h1, h2, h3, h4, if_true, if_false]
      rw [Tr.get_set _ _ _ _ _ (by omega)]
      simp [h5]
    · by_cases h3 : b = h.size
      · subst h3
        have : h.size - h.nb = h.n := by unfold size; omega
        simp only [h1, if_false, Nat.lt_succ_self, if_true]
        rw [Tr.get_set _ _ _ _ _ (by omega)]
        simp [this]
      · have : ¬ b < h.size + 1 := by omega
        simp [h1, h2, h3, this]
theorem get_put (h : Heap) (x : Blk) (b c : Nat) (h1 : h.nb ≤ b) (h2 : b < h.size) : (h.put b x).get c = if c = b then some x else h.get c := by
  unfold get
  rw [size_put, nb_put]
  have hb : (h.put b x).base = h.base := rfl
  have ho : (h.put b x).own = Tr.set (b - h.nb + 1) h.own (b - h.nb) x := rfl
  rw [hb, ho]
  by_cases h3 : c < h.nb
  · have : c ≠ b := by omega
    simp [h3, this]
  · by_cases h4 : c < h.size
    · simp only [h3, h4, if_true, if_false]
      rw [Tr.get_set _ _ _ _ _ (by omega)]
      by_cases h5 : c = b
      · simp [h5]
      · have : c - h.nb ≠ b - h.nb := by omega
        simp [h5, this]
    · have : c ≠ b := by omega
      simp [h3, h4, this]
theorem get_lt {h : Heap} {b : Nat} {x : Blk} (hg : h.get b = some x) : b < h.size := by
  unfold get at hg
  by_cases h1 : b < h.nb
  · have := h.nb_le; omega
  · by_cases h2 : b < h.size
    · exact h2
    · simp [h1, h2] at hg
end Heap

def cellable : Value → Bool
  | .agg _ | .tuple _ => false
  | _ => true

def cellsL : Value → List Value
  | .agg cs => cs.toList
  | v => [v]

/-- Cells, written over from a place on. -/
def splice (c : List Value) (off : Nat) (vs : List Value) : List Value := c.take off ++ vs ++ c.drop (off + vs.length)

def Heap.cells (h : Heap) (b off n : Nat) : Option (List Value) :=
  match h.get b with
  | some (.arr _ _ c) => if off + n ≤ c.length then some ((c.drop off).take n) else none
  | _ => none
def Heap.cell (h : Heap) (b off : Nat) : Option Value :=
  match h.get b with
  | some (.arr _ _ c) => c[off]?
  | _ => none
def Heap.store (h : Heap) (b off : Nat) (vs : List Value) : Option Heap :=
  match h.get b with
  | some (.arr false sz c) =>
    if h.nb ≤ b ∧ off + vs.length ≤ c.length ∧ vs.all cellable = true then some (h.put b (.arr false sz (splice c off vs))) else none
  | _ => none

def strEq (a b : ByteArray) : Bool := a.data.toList == b.data.toList
theorem strEq_iff {a b : ByteArray} : strEq a b = decide (a = b) := by
  unfold strEq
  rw [Bool.eq_iff_iff]
  simp only [beq_iff_eq, decide_eq_true_eq]
  constructor
  · intro h
    cases a; cases b
    congr 1
    exact Array.ext' h
  · rintro rfl; rfl
/-- Kinds of cells that are compared. -/
inductive CK where
  | int | str | bool
  deriving DecidableEq
inductive EqT where
  | no | bool | ptr | sl | map | fn | ifc
  | agg (ks : List (Nat × CK))

def ckEq : CK → Option Value → Option Value → Option Bool
  | .int, some (.int k a), some (.int k' b) => if k = k' then some (a == b) else none
  | .str, some (.string a), some (.string b) => some (strEq a b)
  | .bool, some (.bool a), some (.bool b) => some (a == b)
  | _, _, _ => none
def aggEq : List (Nat × CK) → Array Value → Array Value → Option Bool
  | [], _, _ => some true
  | (o, k) :: r, xs, ys => match ckEq k xs[o]? ys[o]? with
    | some true => aggEq r xs ys
    | x => x
def eqE : EqT → Bool → Value → Value → Option Bool
  | .bool, _, .bool a, .bool b => some (a == b)
  | .ptr, _, .pointer none, .pointer b => some b.isNone
  | .ptr, _, .pointer (some _), .pointer none => some false
  | .sl, _, .slice none _ _, .slice b _ _ => some b.isNone
  | .sl, _, .slice (some _) _ _, .slice none _ _ => some false
  | .map, _, .map none, .map b => some b.isNone
  | .map, _, .map (some _), .map none => some false
  | .fn, _, .nilFunc, .nilFunc => some true
  | .fn, _, .nilFunc, .func _ _ _ => some false
  | .fn, _, .func _ _ _, .nilFunc => some false
  | .ifc, c, .nilIface, .nilIface => if c then some true else none
  | .ifc, _, .nilIface, .iface _ _ => some false
  | .ifc, _, .iface _ _, .nilIface => some false
  | .agg ks, _, .agg xs, .agg ys => aggEq ks xs ys
  | _, _, _, _ => none

def intBin (op : BinOp) (k : IntKind) (x y : Int) : Option Value :=
  match op with
  | .add => some (.int k (k.wrap (x + y)))
  | .sub => some (.int k (k.wrap (x - y)))
  | .mul => some (.int k (k.wrap (x * y)))
  | .quo => if y = 0 then none else some (.int k (k.wrap (x.tdiv y)))
  | .rem => if y = 0 then none else some (.int k (x.tmod y))
  | .and => some (.int k (k.wrap (BitVec.ofInt k.bits x &&& BitVec.ofInt k.bits y).toNat))
  | .or => some (.int k (k.wrap (BitVec.ofInt k.bits x ||| BitVec.ofInt k.bits y).toNat))
  | .xor => some (.int k (k.wrap (BitVec.ofInt k.bits x ^^^ BitVec.ofInt k.bits y).toNat))
  | .andNot => some (.int k (k.wrap (BitVec.ofInt k.bits x &&& ~~~BitVec.ofInt k.bits y).toNat))
  | .eql => some (.bool (x == y))
  | .neq => some (.bool (x != y))
  | .lss => some (.bool (x < y))
  | .leq => some (.bool (x ≤ y))
  | .gtr => some (.bool (x > y))
  | .geq => some (.bool (x ≥ y))
  | _ => none
def strBin (op : BinOp) (x y : ByteArray) : Option Value :=
  match op with
  | .add => if x.size + y.size ≤ 4611686018427387904 then some (.string (x ++ y)) else none
  | .eql => some (.bool (strEq x y))
  | .neq => some (.bool !(strEq x y))
  | .lss => some (.bool (Op.bytesLess x.data.toList y.data.toList))
  | .leq => some (.bool (Op.bytesLess x.data.toList y.data.toList || strEq x y))
  | .gtr => some (.bool !(Op.bytesLess x.data.toList y.data.toList || strEq x y))
  | .geq => some (.bool !(Op.bytesLess x.data.toList y.data.toList))
  | _ => none
def binE (op : BinOp) (t : EqT) (cst : Bool) : Value → Value → Option Value
  | .int k a, .int k' b =>
    match op with
    | .shl => if b < 0 then none else some (.int k (k.wrap (a * 2 ^ (min b.toNat k.bits))))
    | .shr => if b < 0 then none else some (.int k (a.fdiv (2 ^ (min b.toNat k.bits))))
    | op => if k = k' then intBin op k a b else none
  | .string a, .string b => strBin op a b
  | x, y =>
    match op with
    | .eql => (eqE t cst x y).map .bool
    | .neq => (eqE t cst x y).map fun b => .bool !b
    | _ => none
def unE : UnOp → Value → Option Value
  | .not, .bool b => some (.bool !b)
  | .neg, .int k n => some (.int k (k.wrap (0 - n)))
  | _, _ => none

/-- A slice's, a string's parts: the bounds (a bound that is not given: none). -/
def bnd (v : Option Value) (d : Nat) : Option Nat :=
  match v with
  | none => some d
  | some (.int _ i) => if 0 ≤ i then some i.toNat else none
  | _ => none
def sliceStr (s : ByteArray) (lo hi : Option Value) : Option Value :=
  match bnd hi s.size, bnd lo 0 with
  | some h, some l => if l ≤ h ∧ h ≤ s.size then some (.string (s.extract l h)) else none
  | _, _ => none
/-- Of a slice: 's[l:h]', 's[l:h:m]'. A capacity that is not known is at least the length. -/
def sliceSl (hp : Heap) (esz : Nat) (a : Option Addr) (len cap : Nat) (lo hi mx : Option Value) : Option Value :=
  let known := if cap < UNK then cap else len
  match bnd mx known, bnd hi len, bnd lo 0 with
  | some m, some h, some l =>
    if l ≤ h ∧ h ≤ m ∧ m ≤ known ∧ m < UNK then
      match a with
      | none => some (.slice none (h - l) (m - l))
      | some a =>
        if cap = UNE then (if mx.isSome then none else some (.slice (some a) 0 UNE))
        else if cap = UNK ∧ mx.isNone then
          (if l = 0 then some (.slice (some ⟨a.block, a.off, none⟩) h UNK)
           else if l < len then (match hp.get a.block with
            | some (.arr _ sz _) => if sz = esz then some (.slice (some ⟨a.block, a.off + l * esz, none⟩) (h - l) UNK) else none
            | _ => none)
           else some (.slice (some a) 0 UNE))
        else if m = l then some (.slice (some a) (h - l) 0)
        else some (.slice (some ⟨a.block, a.off + l * esz, none⟩) (h - l) (m - l))
    else none
  | _, _, _ => none

def mapFind (s : ByteArray) : List (Value × Value) → Option (Option Value)
  | [] => some none
  | (.string t, v) :: r => if strEq s t then some (some v) else mapFind s r
  | _ => none
def mapPut (s : ByteArray) (v : Value) : List (Value × Value) → Option (List (Value × Value))
  | [] => some [(.string s, v)]
  | (.string t, u) :: r => if strEq s t then some ((.string s, v) :: r) else (mapPut s v r).map ((.string t, u) :: ·)
  | _ => none

def bytesOf : List Value → Option (List UInt8)
  | [] => some []
  | .int .u8 n :: r => (bytesOf r).map (UInt8.ofNat n.toNat :: ·)
  | _ => none

def isBot : Value → Bool
  | .tuple vs => vs.size == 0
  | _ => false
/-- Parts laid into cells. -/
def fillL : List Value → List (Nat × Nat × Value) → Option (List Value)
  | c, [] => some c
  | c, (off, size, v) :: r => if isBot v = false ∧ (cellsL v).length = size ∧ off + size ≤ c.length then fillL (splice c off (cellsL v)) r else none

/-- What an append reads: the source's cells and how many elements. -/
def srcE (h : Heap) (esz : Nat) : Value → Option (Nat × List Value)
  | .slice none l _ => if l = 0 then some (0, []) else none
  | .slice (some a) l _ => if l = 0 then some (0, []) else (h.cells a.block a.off (l * esz)).map (l, ·)
  | .string s => if esz = 1 then some (s.size, s.data.toList.map fun b => .int .u8 b.toNat) else none
  | _ => none
def pushS (h : Heap) (esz n : Nat) (c : List Value) : Value × Heap := (.slice (some ⟨h.size, 0, none⟩) n UNK, h.push (.arr false esz c))
def appE (h : Heap) (esz eb : Nat) (s x : Value) : Option (Value × Heap) :=
  match srcE h esz x, s with
  | some (n, ys), .slice a l c =>
    if n = 0 then some (.slice a l c, h)
    else if 1099511627776 < (l + n) * eb ∨ ys.all cellable = false then none
    else match a with
      | none => if l = 0 ∧ c = 0 then some (pushS h esz n ys) else none
      | some a =>
        if c = UNE then none
        else if c = UNK then
          match h.get a.block with
          | some (.arr false sz cs) =>
            if h.nb ≤ a.block ∧ sz = esz ∧ a.off + l * esz ≤ cs.length then
              some (pushS (h.put a.block .dead) esz (l + n) ((cs.drop a.off).take (l * esz) ++ ys))
            else none
          | _ => none
        else if l + n ≤ c then
          (h.store a.block (a.off + l * esz) ys).map (.slice (some a) (l + n) c, ·)
        else (h.cells a.block a.off (l * esz)).map fun old => pushS h esz (l + n) (old ++ ys)
  | _, _ => none

/-- Resolved operations. -/
inductive GOp where
  | mv (x : Operand)
  | pick (c a b : Operand)
  | alloc (z : List Value)
  | box (x : Operand)
  | build (z : List Value) (parts : List (Nat × Nat × Operand))
  | bslice (len esz : Nat) (z : List Value) (parts : List (Nat × Nat × Operand))
  | ld (a : Operand)
  | ldn (n : Nat) (a : Operand)
  | st (n : Nat) (a v : Operand)
  | nilc (x : Operand)
  | bin (op : BinOp) (t : EqT) (cst : Bool) (x y : Operand)
  | un (op : UnOp) (x : Operand)
  | cvi (k : IntKind) (x : Operand)
  | cvs (x : Operand)
  | s2b (x : Operand)
  | b2s (x : Operand)
  | mki (t : TypeId) (x : Operand)
  | mkf (fn : Fn) (first caps : List Operand)
  | mkm
  | mks (esz eb : Nat) (z : List Value) (l c : Operand)
  | slS (x : Operand) (lo hi : Option Operand)
  | slL (esz : Nat) (x : Operand) (lo hi mx : Option Operand)
  | fa (off : Nat) (x : Operand)
  | fld (one : Bool) (off n : Nat) (x : Operand)
  | ia (esz : Nat) (x i : Operand)
  | idx (x i : Operand)
  | lk (z : Value) (ok : Bool) (m k : Operand)
  | mu (m k v : Operand)
  | ext (i : Nat) (x : Operand)
  | lenS (x : Operand)
  | lenL (x : Operand)
  | app (esz eb : Nat) (s x : Operand)
  | call (f : FuncId) (args : List Operand)
  | callv (f : Operand) (args : List Operand)
  | bad

abbrev Caller := FuncId → List Value → Heap → Option (Value × Heap)

def ev (env : List Value) : Operand → Value
  | .tmp t => env.getD t undef
  | .const v => v
  | .global g => .pointer (some ⟨g, 0, none⟩)
  | .func f => .func (.func f) #[] #[]

def pure1 (v : Option Value) (h : Heap) : Option (Value × Heap) := match v with
  | some v => some (v, h)
  | none => none
def unit1 (h : Option Heap) : Option (Value × Heap) := match h with
  | some h => some (undef, h)
  | none => none
def newB (h : Heap) (c : List Value) : Option (Value × Heap) := some (.pointer (some ⟨h.size, 0, none⟩), h.push (.arr false 0 c))

def lookE (z : Value) (ok : Bool) (r : Option (Option Value)) : Option Value :=
  match r with
  | none => none
  | some (some v) => some (if ok then .tuple #[v, .bool true] else v)
  | some none => some (if ok then .tuple #[z, .bool false] else z)

def opE (C : Caller) (env : List Value) (h : Heap) : GOp → Option (Value × Heap)
  | .mv x => some (ev env x, h)
  | .pick c a b => match ev env c with
    | .bool t => some (if t then ev env a else ev env b, h)
    | _ => none
  | .alloc z => newB h z
  | .box x => if isBot (ev env x) then none else newB h (cellsL (ev env x))
  | .build z ps => match fillL z (ps.map fun (o, n, x) => (o, n, ev env x)) with
    | some c => some (.agg c.toArray, h)
    | none => none
  | .bslice len esz z ps => match fillL z (ps.map fun (o, n, x) => (o, n, ev env x)) with
    | some c => some (.slice (some ⟨h.size, 0, none⟩) len len, h.push (.arr false esz c))
    | none => none
  | .ld a => match ev env a with
    | .pointer (some a) => pure1 (h.cell a.block a.off) h
    | _ => none
  | .ldn n a => match ev env a with
    | .pointer (some a) => pure1 ((h.cells a.block a.off n).map fun c => .agg c.toArray) h
    | _ => none
  | .st n a v => match ev env a with
    | .pointer (some a) => if (cellsL (ev env v)).length = n then unit1 (h.store a.block a.off (cellsL (ev env v))) else none
    | _ => none
  | .nilc x => match ev env x with
    | .pointer (some a) => some (.pointer (some a), h)
    | .func (.func f) a b => some (.func (.func f) a b, h)
    | _ => none
  | .bin op t cst x y => pure1 (binE op t cst (ev env x) (ev env y)) h
  | .un op x => pure1 (unE op (ev env x)) h
  | .cvi k x => match ev env x with
    | .int _ n => some (.int k (k.wrap n), h)
    | _ => none
  | .cvs x => match ev env x with
    | .string s => some (.string s, h)
    | _ => none
  | .s2b x => match ev env x with
    | .string s => some (.slice (some ⟨h.size, 0, none⟩) s.size UNK, h.push (.arr false 1 (s.data.toList.map fun b => .int .u8 b.toNat)))
    | _ => none
  | .b2s x => match ev env x with
    | .slice none _ _ => some (.string .empty, h)
    | .slice (some a) l _ => if l = 0 then some (.string .empty, h) else pure1 (((h.cells a.block a.off l).bind bytesOf).map fun b => .string ⟨b.toArray⟩) h
    | _ => none
  | .mki t x => some (.iface t (ev env x), h)
  | .mkf fn first caps => some (.func fn (first.map (ev env)).toArray (caps.map (ev env)).toArray, h)
  | .mkm => some (.map (some h.size), h.push (.map []))
  | .mks esz eb z l c => match ev env l, ev env c with
    | .int _ l, .int _ c => if 0 ≤ l ∧ l ≤ c ∧ c * eb ≤ 1099511627776 ∧ c ≤ 1099511627776 then
        some (.slice (some ⟨h.size, 0, none⟩) l.toNat c.toNat, h.push (.arr false esz ((List.replicate c.toNat z).flatten))) else none
    | _, _ => none
  | .slS x lo hi => match ev env x with
    | .string s => pure1 (sliceStr s (lo.map (ev env)) (hi.map (ev env))) h
    | _ => none
  | .slL esz x lo hi mx => match ev env x with
    | .slice a l c => pure1 (sliceSl h esz a l c (lo.map (ev env)) (hi.map (ev env)) (mx.map (ev env))) h
    | _ => none
  | .fa off x => match ev env x with
    | .pointer (some a) => some (.pointer (some ⟨a.block, a.off + off, none⟩), h)
    | _ => none
  | .fld one off n x => match ev env x with
    | .agg cs => if one then pure1 cs[off]? h else if off + n ≤ cs.size then some (.agg (cs.extract off (off + n)), h) else none
    | _ => none
  | .ia esz x i => match ev env x, ev env i with
    | .slice (some a) l _, .int _ i => if 0 ≤ i ∧ i < l then some (.pointer (some ⟨a.block, a.off + i.toNat * esz, none⟩), h) else none
    | _, _ => none
  | .idx x i => match ev env x, ev env i with
    | .string s, .int _ i => if 0 ≤ i then pure1 (s[i.toNat]?.map fun b => .int .u8 b.toNat) h else none
    | _, _ => none
  | .lk z ok m k => match ev env m, ev env k with
    | .map none, .string _ => pure1 (lookE z ok (some none)) h
    | .map (some r), .string s => match h.get r with
      | some (.map es) => pure1 (lookE z ok (mapFind s es)) h
      | _ => none
    | _, _ => none
  | .mu m k v => match ev env m, ev env k with
    | .map (some r), .string s => match h.get r with
      | some (.map es) => match mapPut s (ev env v) es with
        | some es => if h.nb ≤ r then some (undef, h.put r (.map es)) else none
        | none => none
      | _ => none
    | _, _ => none
  | .ext i x => match ev env x with
    | .tuple vs => if 2 ≤ vs.size then pure1 vs[i]? h else none
    | _ => none
  | .lenS x => match ev env x with
    | .string s => some (.int .i64 s.size, h)
    | _ => none
  | .lenL x => match ev env x with
    | .slice _ l _ => some (.int .i64 l, h)
    | _ => none
  | .app esz eb s x => appE h esz eb (ev env s) (ev env x)
  | .call f args => C f (args.map (ev env)) h
  | .callv f args => match ev env f with
    | .func (.func f) first caps => C f (first.toList ++ args.map (ev env) ++ caps.toList) h
    | _ => none
  | .bad => none

/-- An operation of a region: q: no block that is there may be written by it. -/
structure GI where
  dst : Option Nat
  op : GOp
  guard : Option (Nat × Bool)
  q : Bool

def quiet (q : Bool) (m : Heap → Option (Value × Heap)) (h : Heap) : Option (Value × Heap) :=
  if q then match m (h.setLow h.size) with
    | some (v, h') => if h.size ≤ h'.low then some (v, h'.setLow h.low) else none
    | none => none
  else m h
def guardE (env : List Value) : Option (Nat × Bool) → Option Bool
  | none => some true
  | some (t, b) => match env.getD t undef with
    | .bool c => some (c == b)
    | .tuple vs => if vs.size = 1 then some false else none
    | _ => none
def putE (env : List Value) (d : Option Nat) (v : Value) : List Value :=
  match d with
  | some d => env.set d v
  | none => env
def execOps (C : Caller) : List GI → List Value → Heap → Option (List Value × Heap)
  | [], env, h => some (env, h)
  | i :: is, env, h => match guardE env i.guard with
    | none => none
    | some false => execOps C is (putE env i.dst SK) h
    | some true => match quiet i.q (fun h => opE C env h i.op) h with
      | some (v, h) => execOps C is (putE env i.dst v) h
      | none => none

inductive GX where
  | nrm
  | ex (id : Nat)
  | goto (l : Nat)
  | ret (v : Value)

/-- Where results lie: in a slot; in memory (of so many cells; one: a plain value). -/
inductive GR where
  | tmp (t : Nat)
  | cell (t : Nat) (one : Bool) (n : Nat)

def resE (env : List Value) (h : Heap) : GR → Option Value
  | .tmp t => some (env.getD t undef)
  | .cell t one n => match env.getD t undef with
    | .pointer (some a) => if one then h.cell a.block a.off else (h.cells a.block a.off n).map fun c => .agg c.toArray
    | _ => none
def resAll (env : List Value) (h : Heap) : List GR → Option (List Value)
  | [] => some []
  | r :: rs => match resE env h r, resAll env h rs with
    | some v, some vs => some (v :: vs)
    | _, _ => none
def resV (env : List Value) (h : Heap) (rs : List GR) : Option Value :=
  match resAll env h rs with
  | some [v] => some v
  | some vs => some (.tuple vs.toArray)
  | none => none

inductive GCode where
  | skip
  | ops (l : List GI)
  | seq (a b : GCode)
  | cond (keep : List Nat) (c : Operand) (a b : GCode)
  | block (keep : List Nat) (id : Nat) (b : GCode)
  | loop (keep : List Nat) (b : GCode)
  | exit (id : Nat)
  | ret (rs : List GR)
  | label
  | goto (l : Nat)
  | scope (keep : List Nat) (b : GCode) (la : Nat) (ra : GCode) (lb : Nat) (rb : GCode)

def proj (keep : List Nat) (env : List Value) : List Value := keep.map fun i => env.getD i undef
/-- A frame of n slots from slot i on, out of the kept ones. -/
def expa : Nat → Nat → List Nat → List Value → List Value
  | 0, _, _, _ => []
  | n + 1, i, [], vs => undef :: expa n (i + 1) [] vs
  | n + 1, i, k :: ks, vs => if i = k then vs.headD undef :: expa n (i + 1) ks vs.tail else undef :: expa n (i + 1) (k :: ks) vs

abbrev GRes := Option (GX × List Value × Heap)
def loopN : Nat → (List Value → Heap → GRes) → List Value → Heap → GRes
  | 0, _, _, _ => none
  | j + 1, F, vs, h => match F vs h with
    | some (.nrm, vs, h) => loopN j F vs h
    | r => r
/-- Jumps: G tells what stands at a label. -/
def jumpN : Nat → (Nat → List Value → Heap → Option GRes) → Nat → List Value → Heap → GRes
  | 0, _, _, _, _ => none
  | j + 1, G, l, vs, h => match G l vs h with
    | none => none
    | some none => none
    | some (some (.goto l, vs, h)) => jumpN j G l vs h
    | some (some r) => some r

def projR (keep : List Nat) : GRes → GRes
  | some (x, env, h) => some (x, proj keep env, h)
  | none => none
def expaR (n : Nat) (keep : List Nat) : GRes → GRes
  | some (x, vs, h) => some (x, expa n 0 keep vs, h)
  | none => none
def outBlock (id : Nat) : GRes → GRes
  | some (.ex i, vs, h) => if i = id then some (.nrm, vs, h) else some (.ex i, vs, h)
  | r => r

def exec (C : Caller) (k n : Nat) : GCode → List Value → Heap → GRes
  | .skip, env, h => some (.nrm, env, h)
  | .label, env, h => some (.nrm, env, h)
  | .ops l, env, h => match execOps C l env h with
    | some (env, h) => some (.nrm, env, h)
    | none => none
  | .seq a b, env, h => match exec C k n a env h with
    | some (.nrm, env, h) => exec C k n b env h
    | r => r
  | .cond keep c a b, env, h => match ev env c with
    | .bool t => expaR n keep (projR keep (if t then exec C k n a env h else exec C k n b env h))
    | _ => none
  | .block keep id b, env, h => expaR n keep (outBlock id (projR keep (exec C k n b env h)))
  | .loop keep b, env, h => expaR n keep (loopN k (fun vs h => projR keep (exec C k n b (expa n 0 keep vs) h)) (proj keep env) h)
  | .exit id, env, h => some (.ex id, env, h)
  | .goto l, env, h => some (.goto l, env, h)
  | .ret rs, env, h => match resV env h rs with
    | some v => some (.ret v, env, h)
    | none => none
  | .scope keep b la ra lb rb, env, h => match projR keep (exec C k n b env h) with
    | some (.goto l, vs, h) => expaR n keep (jumpN k (fun l vs h =>
        if l = la then some (projR keep (exec C k n ra (expa n 0 keep vs) h)) else if l = lb then some (projR keep (exec C k n rb (expa n 0 keep vs) h)) else none) l vs h)
    | r => expaR n keep r

def scal1 : Value → Bool
  | .bool _ | .int _ _ | .string _ | .nilIface | .nilFunc | .pointer none | .slice none _ _ | .map none => true
  | _ => false
/-- A value that leads to no block from n on. -/
def below1 (n : Nat) : Value → Bool
  | .pointer (some a) => a.block < n
  | .slice (some a) _ _ => a.block < n
  | .map (some r) => r < n
  | v => scal1 v
def below (n : Nat) : Value → Bool
  | .tuple vs => vs.toList.all (below1 n)
  | .agg vs => vs.toList.all (below1 n)
  | v => below1 n v

structure GFunc where
  n : Nat
  trim : Bool
  rs : List GR
  body : GCode

inductive Entry where
  | code (g : GFunc)
  | prim (p : List Value → Heap → Option (Value × Heap))

def finish (rs : List GR) : GRes → Option (Value × Heap)
  | some (.ret v, _, h) => some (v, h)
  | some (.nrm, env, h) => match resV env h rs with
    | some v => some (v, h)
    | none => none
  | _ => none
def runF (C : Caller) (k : Nat) (g : GFunc) (args : List Value) (h : Heap) : Option (Value × Heap) :=
  if args.length ≤ g.n then
    if g.trim then
      match finish g.rs (exec C k g.n g.body (args ++ List.replicate (g.n - args.length) undef) (h.setLow h.size)) with
      | some (v, h') => if h.size ≤ h'.low ∧ below h.size v = true then some (v, h) else none
      | none => none
    else finish g.rs (exec C k g.n g.body (args ++ List.replicate (g.n - args.length) undef) h)
  else none
def call (T : FuncId → Option Entry) : Nat → Caller
  | 0, _, _, _ => none
  | k + 1, f, args, h => match T f with
    | some (.code g) => runF (call T k) k g args h
    | some (.prim p) => p args h
    | none => none

end Go.GS
