/- From the loaded code to G's: types resolved, drawn regions looked at. -/
import Derived.Test.YtlodhfpkdlhmgaaGreatDoorGBase
namespace Go.GS

def simple1 : Value → Bool
  | .bool _ | .int _ _ | .string _ | .nilIface | .nilFunc | .pointer none | .slice none 0 0 | .map none => true
  | _ => false
def simpleV : Value → Bool
  | .agg cs => cs.toList.all simple1
  | v => simple1 v
def okOpd : Operand → Bool
  | .tmp _ | .func _ => true
  | .const v => simpleV v
  | .global _ => false
def okAll (l : List Operand) : Bool := l.all okOpd
def okOpt : Option Operand → Bool
  | none => true
  | some x => okOpd x

def sizeP (P : Program) (t : TypeId) : Option Nat := (P.info? t).map (·.size)
/-- A type's zero value's cells, as many as its size. -/
def zeroL (P : Program) (t : TypeId) : Option (List Value) :=
  match P.info? t with
  | some i => match i.zero with
    | some z => if simpleV z = true ∧ (cellsL z).length = i.size then some (cellsL z) else none
    | none => none
  | none => none
def zeroV (P : Program) (t : TypeId) : Option Value :=
  match P.info? t with
  | some i => match i.zero with
    | some z => if simpleV z = true then some z else none
    | none => none
  | none => none
def aggP (P : Program) (t : TypeId) : Option Bool :=
  match P.underlying t with
  | some (.struct _) | some (.array _ _) => some true
  | some _ => some false
  | none => none

def flatFs (P : Program) (rec : TypeId → Nat → Option (List (Nat × CK))) (n off : Nat) : List Field → Option (List (Nat × CK))
  | [] => some []
  | f :: r => if f.name = "_" then none else match sizeP P f.type with
    | some m => if 0 < m ∧ f.offset + m ≤ n then match rec f.type (off + f.offset), flatFs P rec n off r with
        | some a, some b => some (a ++ b)
        | _, _ => none
      else none
    | none => none
/-- A flat struct's cells that '==' compares, in order. -/
def flatEq (P : Program) : Nat → TypeId → Nat → Option (List (Nat × CK))
  | 0, _, _ => none
  | d + 1, t, off => match P.underlying t with
    | some (.int _) => some [(off, .int)]
    | some .string => some [(off, .str)]
    | some .bool => some [(off, .bool)]
    | some (.struct fs) => if P.stoodInHeld t then none else match sizeP P t with
      | some n => flatFs P (flatEq P d) n off fs.toList
      | none => none
    | _ => none
def eqOf (P : Program) (t : TypeId) : EqT :=
  match P.underlying t with
  | some .bool => .bool
  | some (.pointer _) => .ptr
  | some (.slice _) => .sl
  | some (.map _ _) => .map
  | some (.func _ _ _) => .fn
  | some (.interface _) => .ifc
  | some (.struct _) => if P.eqGuardType P.depth t then .no else match flatEq P 20 t 0 with
    | some ks => .agg ks
    | none => .no
  | _ => .no
def eqTOf (P : Program) (op : BinOp) (t : TypeId) : EqT :=
  match op with
  | .eql | .neq => eqOf P t
  | _ => .no
def isCst : Operand → Bool
  | .const _ => true
  | _ => false

def partsS (P : Program) (fields : Array Field) : List (Nat × Operand) → Option (List (Nat × Nat × Operand))
  | [] => some []
  | (i, x) :: r => match fields[i]?, partsS P fields r with
    | some f, some ps => match sizeP P f.type with
      | some n => if okOpd x then some ((f.offset, n, x) :: ps) else none
      | none => none
    | _, _ => none

def apOk : TypeDesc → Bool
  | .slice _ | .string => true
  | _ => false
def elabOp0 (P : Program) (o : Oper) : Option GOp :=
  match o.op with
  | .move x | .assign x => if okOpd x then some (.mv x) else none
  | .pick c a b => if okAll [c, a, b] then some (.pick c a b) else none
  | .alloc e => (zeroL P e).map .alloc
  | .box _ x => if okOpd x then some (.box x) else none
  | .build t ps => match P.underlying t, zeroL P t with
    | some (.struct fs), some z => if fs.all (fun f => (sizeP P f.type).isSome) then (partsS P fs ps.toList).map (.build z) else none
    | _, _ => none
  | .buildSlice t len ps => match P.underlying t with
    | some (.slice e) => match sizeP P e, zeroL P e with
      | some n, some z => if len * n ≤ 16777216 ∧ 0 < n ∧ (ps.toList.all fun p => okOpd p.2) = true then
          some (.bslice len n (List.replicate len z).flatten (ps.toList.map fun p => (p.1 * n, n, p.2))) else none
      | _, _ => none
    | _ => none
  | .load t a => if okOpd a then match aggP P t, sizeP P t with
      | some true, some n => some (.ldn n a)
      | some false, some _ => some (.ld a)
      | _, _ => none
    else none
  | .store t a v => if okAll [a, v] then (sizeP P t).map fun n => .st n a v else none
  | .nilCheck x => if okOpd x then some (.nilc x) else none
  | .binOp op t x y _ => if okAll [x, y] then some (.bin op (eqTOf P op t) (isCst x || isCst y) x y) else none
  | .unOp op _ x => if okOpd x then some (.un op x) else none
  | .convert src dst x => if okOpd x then match P.underlying src, P.underlying dst with
      | some _, some (.int k) => some (.cvi k x)
      | some .string, some .string => some (.cvs x)
      | some .string, some (.slice e) => match P.underlying e with
        | some (.int .u8) => some (.s2b x)
        | _ => none
      | some (.slice e), some .string => match P.underlying e with
        | some (.int .u8) => some (.b2s x)
        | _ => none
      | _, _ => none
    else none
  | .makeInterface t x => if okOpd x then match P.underlying t with
      | some (.interface _) => none
      | some _ => some (.mki t x)
      | none => none
    else none
  | .makeFunc fn first caps => if okAll (first.toList ++ caps.toList) then some (.mkf fn first.toList caps.toList) else none
  | .makeMap _ none => some .mkm
  | .makeSlice t l c => if okAll [l, c] then match P.underlying t with
      | some (.slice e) => match P.info? e, zeroL P e with
        | some i, some z => if 0 < i.size then some (.mks i.size i.bytes z l c) else none
        | _, _ => none
      | _ => none
    else none
  | .slice t x lo hi mx => if okOpd x && okOpt lo && okOpt hi && okOpt mx then match P.underlying t with
      | some .string => if mx.isNone then some (.slS x lo hi) else none
      | some (.slice e) => match sizeP P e with
        | some n => if mx.isSome && hi.isNone then none else some (.slL n x lo hi mx)
        | none => none
      | _ => none
    else none
  | .fieldAddr s x f => if okOpd x then match P.underlying s with
      | some (.struct fs) => match fs[f]? with
        | some fd => match sizeP P fd.type with
          | some n => if 0 < n then some (.fa fd.offset x) else none
          | none => none
        | none => none
      | _ => none
    else none
  | .field s x f => if okOpd x then match P.underlying s with
      | some (.struct fs) => match fs[f]? with
        | some fd => match aggP P fd.type, sizeP P fd.type with
          | some true, some n => some (.fld false fd.offset n x)
          | some false, some _ => some (.fld true fd.offset 1 x)
          | _, _ => none
        | none => none
      | _ => none
    else none
  | .indexAddr t x i => if okAll [x, i] then match P.underlying t with
      | some (.slice e) => (sizeP P e).map fun n => .ia n x i
      | _ => none
    else none
  | .index t x i => if okAll [x, i] then match P.underlying t with
      | some .string => some (.idx x i)
      | _ => none
    else none
  | .lookup t m k ok => if okAll [m, k] then match P.underlying t with
      | some (.map key e) => match P.underlying key, zeroV P e with
        | some .string, some z => some (.lk z ok m k)
        | _, _ => none
      | _ => none
    else none
  | .mapUpdate t m k v => if okAll [m, k, v] then match P.underlying t with
      | some (.map key _) => match P.underlying key with
        | some .string => some (.mu m k v)
        | _ => none
      | _ => none
    else none
  | .extract x i => if okOpd x then some (.ext i x) else none
  | .call c => if okAll c.args.toList then match c.callee with
      | .builtin .len => match c.argTypes.toList, c.args.toList with
        | [t], [x] => match P.underlying t with
          | some .string => some (.lenS x)
          | some (.slice _) => some (.lenL x)
          | _ => none
        | _, _ => none
      | .builtin .append => match c.argTypes.toList, c.args.toList with
        | [t, u], [s, x] => match P.underlying t, P.underlying u with
          | some (.slice e), some ud => match P.info? e, zeroL P e with
            | some i, some _ => if 0 < i.size ∧ 0 < i.bytes ∧ i.bytes ≤ 1048576 ∧ apOk ud = true then some (.app i.size i.bytes s x) else none
            | _, _ => none
          | _, _ => none
        | _, _ => none
      | .value (.func f) => some (.call f c.args.toList)
      | .value x => if okOpd x then some (.callv x c.args.toList) else none
      | _ => none
    else none
  | _ => none

/-- What is not known: it must not run. -/
def elabOp (P : Program) (o : Oper) : Option GOp := match elabOp0 P o with
  | some g => some g
  | none => some .bad
theorem elabOp_cases {P : Program} {o : Oper} {g : GOp} (h : elabOp P o = some g) : elabOp0 P o = some g ∨ g = .bad := by
  unfold elabOp at h
  split at h
  · rename_i x hx; left; rw [hx]; exact h
  · right; cases h; rfl

/-- Does it look at memory, or make some; may it write what is there? -/
def GOp.hp : GOp → Bool
  | .alloc _ | .box _ | .bslice .. | .ld _ | .ldn .. | .st .. | .s2b _ | .b2s _ | .mkm | .mks .. | .lk .. | .mu .. | .app .. | .call .. | .callv .. | .slL .. => true
  | _ => false

/-- The edges that bind, whichever way it is ordered. -/
def edg (o : Oper) : List Edge := o.after.toList.filter (Region.binds .any)
/-- What stands before each operation, through all edges: bit masks. -/
def befAll (ops : List Oper) (acc : List Nat) : List Nat :=
  match ops with
  | [] => acc
  | o :: r => befAll r (acc ++ [(edg o).foldl (fun s e => s ||| (1 <<< e.on) ||| acc.getD e.on 0) 0])
def comp (b : List Nat) (i j : Nat) : Bool := (b.getD (max i j) 0).testBit (min i j)
def opdSlots : List Operand → List Nat
  | [] => []
  | .tmp t :: r => t :: opdSlots r
  | _ :: r => opdSlots r
def GOp.opds : GOp → List Operand
  | .mv x | .box x | .ld x | .ldn _ x | .nilc x | .un _ x | .cvi _ x | .cvs x | .s2b x | .b2s x | .mki _ x | .fa _ x | .fld _ _ _ x | .ext _ x | .lenS x | .lenL x => [x]
  | .pick a b c => [a, b, c]
  | .alloc _ | .mkm => []
  | .build _ ps | .bslice _ _ _ ps => ps.map (·.2.2)
  | .st _ x y | .bin _ _ _ x y | .mks _ _ _ x y | .ia _ x y | .idx x y | .lk _ _ x y | .app _ _ x y => [x, y]
  | .mkf _ a b => a ++ b
  | .slS x lo hi => x :: (lo.toList ++ hi.toList)
  | .slL _ x lo hi mx => x :: (lo.toList ++ hi.toList ++ mx.toList)
  | .mu a b c => [a, b, c]
  | .call _ l => l
  | .callv f l => f :: l
  | .bad => []
def GI.names (g : GI) : List Nat := opdSlots g.op.opds ++ (match g.guard with | some (t, _) => [t] | none => [])

def edgesOk (ops : List Oper) : Bool :=
  ops.zipIdx.all fun (o, i) => (edg o).all fun e => e.on < i
def slotsOk (gs : List GI) (b : List Nat) : Bool :=
  gs.zipIdx.all fun (gj, j) => gs.zipIdx.all fun (gi, i) =>
    i == j || (match gi.dst with
      | none => true
      | some t => !(gj.names.contains t || gj.dst == some t) || comp b i j)

def elabGuard (ops : List Oper) : Option (Nat × Bool) → Option (Option (Nat × Bool))
  | none => some none
  | some (j, b) => match (ops[j]?).bind (·.dst) with
    | some t => some (some (t, b))
    | none => none
def mapO {α β : Type} (f : α → Option β) : List α → Option (List β)
  | [] => some []
  | a :: r => match f a, mapO f r with
    | some b, some bs => some (b :: bs)
    | _, _ => none
def elabRaw (P : Program) (ops : List Oper) : Option (List GI) :=
  mapO (fun o => match elabOp P o, elabGuard ops o.guard with
    | some g, some gd => some { dst := o.dst, op := g, guard := gd, q := false }
    | _, _ => none) ops
/-- In a region that draws: what is ordered with all that looks at memory may write; the rest may not. -/
def barrier (gs : List GI) (b : List Nat) (i : Nat) : Bool :=
  gs.zipIdx.all fun (g, j) => i == j || !g.op.hp || comp b i j
def markQ (gs : List GI) (b : List Nat) : List GI :=
  gs.zipIdx.map fun (g, i) => { g with q := !(g.op.hp && barrier gs b i) }
def elabOps (P : Program) (ops : List Oper) (draw : Bool) : Option (List GI) :=
  match elabRaw P ops with
  | none => none
  | some gs =>
    if draw then (if edgesOk ops && slotsOk gs (befAll ops []) then some (markQ gs (befAll ops [])) else none)
    else some gs

def elabRes (P : Program) : List ResultVar → Option (List GR) :=
  mapO fun
    | .tmp t => some (.tmp t)
    | .cell a t => match aggP P t, sizeP P t with
      | some true, some n => some (.cell a false n)
      | some false, some _ => some (.cell a true 1)
      | _, _ => none

def labelsOf : Code → List Nat
  | .seq a b => labelsOf a ++ labelsOf b
  | .cond _ a b => labelsOf a ++ labelsOf b
  | .block _ b => labelsOf b
  | .loop b => labelsOf b
  | .label l => [l]
  | _ => []

abbrev Ann := List (List Nat)
def elabC (P : Program) (rs : List GR) : Code → Ann → Option (GCode × Ann)
  | .skip, an => some (.skip, an)
  | .label _, an => some (.label, an)
  | .region _ ops draw, an => match elabOps P ops.toList draw with
    | some l => some (.ops l, an)
    | none => none
  | .seq a b, an => match elabC P rs a an with
    | some (ga, an) => match elabC P rs b an with
      | some (gb, an) => some (.seq ga gb, an)
      | none => none
    | none => none
  | .cond c a b, keep :: an => if okOpd c then match elabC P rs a an with
      | some (ga, an) => match elabC P rs b an with
        | some (gb, an) => some (.cond keep c ga gb, an)
        | none => none
      | none => none
    else none
  | .block id b, keep :: an => match elabC P rs b an with
    | some (g, an) => some (.block keep id g, an)
    | none => none
  | .loop b, keep :: an => match elabC P rs b an with
    | some (g, an) => some (.loop keep g, an)
    | none => none
  | .exit id, an => some (.exit id, an)
  | .goto l, an => some (.goto l, an)
  | .ret, an => some (.ret rs, an)
  | _, _ => none
/-- A scope at the top of a body (or of its tail), with two labels at most. -/
def elabTop (P : Program) (rs : List GR) : Code → Ann → Option (GCode × Ann)
  | .scope b, keep :: an => match labelsOf b with
    | [la, lb] => match findLabel b la, findLabel b lb with
      | some ra, some rb => match elabC P rs b an with
        | some (g, an) => match elabC P rs ra an with
          | some (ga, an) => match elabC P rs rb an with
            | some (gb, an) => some (.scope keep g la ga lb gb, an)
            | none => none
          | none => none
        | none => none
      | _, _ => none
    | _ => none
  | .seq a b, an => match elabTop P rs a an with
    | some (ga, an) => match elabTop P rs b an with
      | some (gb, an) => some (.seq ga gb, an)
      | none => none
    | none => none
  | c, an => elabC P rs c an
def elabF (P : Program) (fn : Func) (an : Ann) (trim : Bool) : Option GFunc :=
  match elabRes P fn.results.toList, fn.body with
  | some rs, some c => if fn.name = "runtime.NumGoroutine" then none else match elabTop P rs c an with
    | some (g, _) => some { n := fn.ntmps, trim, rs, body := g }
    | none => none
  | _, _ => none
end Go.GS
