/- A part of the proof by a deterministic interpreter of the loaded code (no condition of its own). -/
import Derived.Test.YtlodhfpkdlhmgaaGreatDoorGBase
namespace Go.GS
def pTrimGo (c : UInt8) : List UInt8 → List UInt8
  | [] => []
  | x :: xs => if x = c then pTrimGo c xs else x :: xs
def pTrimLeft : List Value → Heap → Option (Value × Heap)
  | [.string s, .string cs], h => match cs.data.toList with
    | [c] => if c.toNat < 128 then some (.string ⟨(pTrimGo c s.data.toList).toArray⟩, h) else none
    | _ => none
  | _, _ => none
def pCutGo (c : UInt8) : List UInt8 → List UInt8 → Option (List UInt8 × List UInt8)
  | _, [] => none
  | acc, x :: xs => if x = c then some (acc.reverse, xs) else pCutGo c (x :: acc) xs
def pCut : List Value → Heap → Option (Value × Heap)
  | [.string s, .string cs], h => match cs.data.toList with
    | [c] => if c.toNat < 128 then match pCutGo c [] s.data.toList with
        | some (a, b) => some (.tuple #[.string ⟨a.toArray⟩, .string ⟨b.toArray⟩, .bool true], h)
        | none => some (.tuple #[.string s, .string ⟨#[]⟩, .bool false], h)
      else none
    | _ => none
  | _, _ => none
def pRepeat : List Value → Heap → Option (Value × Heap)
  | [.string s, .int .i64 n], h => if 0 ≤ n ∧ n ≤ 1000 ∧ s.data.size = 1 then some (.string ⟨(List.replicate n.toNat s.data.toList).flatten.toArray⟩, h) else none
  | _, _ => none
def pNumber : List Value → Heap → Option (Value × Heap)
  | [.nilIface], h => some (.int .i64 0, h)
  | [.iface t (.pointer (some a))], h => if t = 190 then match h.cell a.block (a.off + 3) with
      | some (.int .i64 n) => some (.int .i64 n, h)
      | _ => none
    else none
  | _, _ => none
def pIndexByte : List Value → Heap → Option (Value × Heap)
  | [.string s, .int .u8 c], h => some (.int .i64 (match s.data.toList.findIdx? (fun b => (b.toNat : Int) == c) with | some i => (i : Int) | none => -1), h)
  | _, _ => none
noncomputable def brB {α : Type} (a b : α) (c : Bool) : α := Bool.rec (motive := fun _ => α) b a c
end Go.GS
