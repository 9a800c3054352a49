/- A part of the proof by a deterministic interpreter of the loaded code (no condition of its own). -/
import Derived.Test.YtlodhfpkdlhmgaaGreatDoorGBase
/- The same interpreter, made for the kernel. -/
namespace Go.GS
def x_mv (C : Caller) (e : Operand → Value) (h : Heap) (x : Operand) : Option (Value × Heap) := some (e x, h)
def x_pick (C : Caller) (e : Operand → Value) (h : Heap) (c : Operand) (a : Operand) (b : Operand) : Option (Value × Heap) := match e c with
    | .bool t => some (if t then e a else e b, h)
    | _ => none
def x_alloc (C : Caller) (e : Operand → Value) (h : Heap) (z : List Value) : Option (Value × Heap) := newB h z
def x_box (C : Caller) (e : Operand → Value) (h : Heap) (x : Operand) : Option (Value × Heap) := if isBot (e x) then none else newB h (cellsL (e x))
def x_build (C : Caller) (e : Operand → Value) (h : Heap) (z : List Value) (ps : List (Nat × Nat × Operand)) : Option (Value × Heap) := match fillL z (ps.map fun (o, n, x) => (o, n, e x)) with
    | some c => some (.agg c.toArray, h)
    | none => none
def x_bslice (C : Caller) (e : Operand → Value) (h : Heap) (len : Nat) (esz : Nat) (z : List Value) (ps : List (Nat × Nat × Operand)) : Option (Value × Heap) := match fillL z (ps.map fun (o, n, x) => (o, n, e x)) with
    | some c => some (.slice (some ⟨h.size, 0, none⟩) len len, h.push (.arr false esz c))
    | none => none
def x_ld (C : Caller) (e : Operand → Value) (h : Heap) (a : Operand) : Option (Value × Heap) := match e a with
    | .pointer (some a) => pure1 (h.cell a.block a.off) h
    | _ => none
def x_ldn (C : Caller) (e : Operand → Value) (h : Heap) (n : Nat) (a : Operand) : Option (Value × Heap) := match e a with
    | .pointer (some a) => pure1 ((h.cells a.block a.off n).map fun c => .agg c.toArray) h
    | _ => none
def x_st (C : Caller) (e : Operand → Value) (h : Heap) (n : Nat) (a : Operand) (v : Operand) : Option (Value × Heap) := match e a with
    | .pointer (some a) => if (cellsL (e v)).length = n then unit1 (h.store a.block a.off (cellsL (e v))) else none
    | _ => none
def x_nilc (C : Caller) (e : Operand → Value) (h : Heap) (x : Operand) : Option (Value × Heap) := match e x with
    | .pointer (some a) => some (.pointer (some a), h)
    | .func (.func f) a b => some (.func (.func f) a b, h)
    | _ => none
def x_bin (C : Caller) (e : Operand → Value) (h : Heap) (op : BinOp) (t : EqT) (cst : Bool) (x : Operand) (y : Operand) : Option (Value × Heap) := pure1 (binE op t cst (e x) (e y)) h
def x_un (C : Caller) (e : Operand → Value) (h : Heap) (op : UnOp) (x : Operand) : Option (Value × Heap) := pure1 (unE op (e x)) h
def x_cvi (C : Caller) (e : Operand → Value) (h : Heap) (k : IntKind) (x : Operand) : Option (Value × Heap) := match e x with
    | .int _ n => some (.int k (k.wrap n), h)
    | _ => none
def x_cvs (C : Caller) (e : Operand → Value) (h : Heap) (x : Operand) : Option (Value × Heap) := match e x with
    | .string s => some (.string s, h)
    | _ => none
def x_s2b (C : Caller) (e : Operand → Value) (h : Heap) (x : Operand) : Option (Value × Heap) := match e x with
    | .string s => some (.slice (some ⟨h.size, 0, none⟩) s.size UNK, h.push (.arr false 1 (s.data.toList.map fun b => .int .u8 b.toNat)))
    | _ => none
def x_b2s (C : Caller) (e : Operand → Value) (h : Heap) (x : Operand) : Option (Value × Heap) := match e x with
    | .slice none _ _ => some (.string .empty, h)
    | .slice (some a) l _ => if l = 0 then some (.string .empty, h) else pure1 (((h.cells a.block a.off l).bind bytesOf).map fun b => .string ⟨b.toArray⟩) h
    | _ => none
def x_mki (C : Caller) (e : Operand → Value) (h : Heap) (t : TypeId) (x : Operand) : Option (Value × Heap) := some (.iface t (e x), h)
def x_mkf (C : Caller) (e : Operand → Value) (h : Heap) (fn : Fn) (first : List Operand) (caps : List Operand) : Option (Value × Heap) := some (.func fn (first.map (e)).toArray (caps.map (e)).toArray, h)
def x_mkm (C : Caller) (e : Operand → Value) (h : Heap)  : Option (Value × Heap) := some (.map (some h.size), h.push (.map []))
def x_mks (C : Caller) (e : Operand → Value) (h : Heap) (esz : Nat) (eb : Nat) (z : List Value) (l : Operand) (c : Operand) : Option (Value × Heap) := match e l, e c with
    | .int _ l, .int _ c => if 0 ≤ l ∧ l ≤ c ∧ c * eb ≤ 1099511627776 ∧ c ≤ 1099511627776 then
        some (.slice (some ⟨h.size, 0, none⟩) l.toNat c.toNat, h.push (.arr false esz ((List.replicate c.toNat z).flatten))) else none
    | _, _ => none
def x_slS (C : Caller) (e : Operand → Value) (h : Heap) (x : Operand) (lo : Option Operand) (hi : Option Operand) : Option (Value × Heap) := match e x with
    | .string s => pure1 (sliceStr s (lo.map (e)) (hi.map (e))) h
    | _ => none
def x_slL (C : Caller) (e : Operand → Value) (h : Heap) (esz : Nat) (x : Operand) (lo : Option Operand) (hi : Option Operand) (mx : Option Operand) : Option (Value × Heap) := match e x with
    | .slice a l c => pure1 (sliceSl h esz a l c (lo.map (e)) (hi.map (e)) (mx.map (e))) h
    | _ => none
def x_fa (C : Caller) (e : Operand → Value) (h : Heap) (off : Nat) (x : Operand) : Option (Value × Heap) := match e x with
    | .pointer (some a) => some (.pointer (some ⟨a.block, a.off + off, none⟩), h)
    | _ => none
def x_fld (C : Caller) (e : Operand → Value) (h : Heap) (one : Bool) (off : Nat) (n : Nat) (x : Operand) : Option (Value × Heap) := match e x with
    | .agg cs => if one then pure1 cs[off]? h else if off + n ≤ cs.size then some (.agg (cs.extract off (off + n)), h) else none
    | _ => none
def x_ia (C : Caller) (e : Operand → Value) (h : Heap) (esz : Nat) (x : Operand) (i : Operand) : Option (Value × Heap) := match e x, e i with
    | .slice (some a) l _, .int _ i => if 0 ≤ i ∧ i < l then some (.pointer (some ⟨a.block, a.off + i.toNat * esz, none⟩), h) else none
    | _, _ => none
def x_idx (C : Caller) (e : Operand → Value) (h : Heap) (x : Operand) (i : Operand) : Option (Value × Heap) := match e x, e i with
    | .string s, .int _ i => if 0 ≤ i then pure1 (s[i.toNat]?.map fun b => .int .u8 b.toNat) h else none
    | _, _ => none
def x_lk (C : Caller) (e : Operand → Value) (h : Heap) (z : Value) (ok : Bool) (m : Operand) (k : Operand) : Option (Value × Heap) := match e m, e k with
    | .map none, .string _ => pure1 (lookE z ok (some none)) h
    | .map (some r), .string s => match h.get r with
      | some (.map es) => pure1 (lookE z ok (mapFind s es)) h
      | _ => none
    | _, _ => none
def x_mu (C : Caller) (e : Operand → Value) (h : Heap) (m : Operand) (k : Operand) (v : Operand) : Option (Value × Heap) := match e m, e k with
    | .map (some r), .string s => match h.get r with
      | some (.map es) => match mapPut s (e v) es with
        | some es => if h.nb ≤ r then some (undef, h.put r (.map es)) else none
        | none => none
      | _ => none
    | _, _ => none
def x_ext (C : Caller) (e : Operand → Value) (h : Heap) (i : Nat) (x : Operand) : Option (Value × Heap) := match e x with
    | .tuple vs => if 2 ≤ vs.size then pure1 vs[i]? h else none
    | _ => none
def x_lenS (C : Caller) (e : Operand → Value) (h : Heap) (x : Operand) : Option (Value × Heap) := match e x with
    | .string s => some (.int .i64 s.size, h)
    | _ => none
def x_lenL (C : Caller) (e : Operand → Value) (h : Heap) (x : Operand) : Option (Value × Heap) := match e x with
    | .slice _ l _ => some (.int .i64 l, h)
    | _ => none
def x_app (C : Caller) (e : Operand → Value) (h : Heap) (esz : Nat) (eb : Nat) (s : Operand) (x : Operand) : Option (Value × Heap) := appE h esz eb (e s) (e x)
def x_call (C : Caller) (e : Operand → Value) (h : Heap) (f : FuncId) (args : List Operand) : Option (Value × Heap) := C f (args.map (e)) h
def x_callv (C : Caller) (e : Operand → Value) (h : Heap) (f : Operand) (args : List Operand) : Option (Value × Heap) := match e f with
    | .func (.func f) first caps => C f (first.toList ++ args.map (e) ++ caps.toList) h
    | _ => none
def x_bad (C : Caller) (e : Operand → Value) (h : Heap)  : Option (Value × Heap) := none
noncomputable def opX (C : Caller) (e : Operand → Value) (h : Heap) (g : GOp) : Option (Value × Heap) :=
  GOp.rec (motive := fun _ => Option (Value × Heap)) (x_mv C e h) (x_pick C e h) (x_alloc C e h) (x_box C e h) (x_build C e h) (x_bslice C e h) (x_ld C e h) (x_ldn C e h) (x_st C e h) (x_nilc C e h) (x_bin C e h) (x_un C e h) (x_cvi C e h) (x_cvs C e h) (x_s2b C e h) (x_b2s C e h) (x_mki C e h) (x_mkf C e h) (x_mkm C e h) (x_mks C e h) (x_slS C e h) (x_slL C e h) (x_fa C e h) (x_fld C e h) (x_ia C e h) (x_idx C e h) (x_lk C e h) (x_mu C e h) (x_ext C e h) (x_lenS C e h) (x_lenL C e h) (x_app C e h) (x_call C e h) (x_callv C e h) (x_bad C e h) g
theorem opX_eq (C : Caller) (env : List Value) (h : Heap) (g : GOp) : opX C (ev env) h g = opE C env h g := by cases g <;> rfl
end Go.GS
