/- A part of the proof by a deterministic interpreter of the loaded code (no condition of its own). -/
import Derived.Test.YtlodhfpkdlhmgaaGreatDoorGSound
import Derived.Test.YtlodhfpkdlhmgaaGreatDoorGPrim
import Derived.Test.YtlodhfpkdlhmgaaGreatDoorProg
namespace Go.GS
noncomputable def PG : Program := Go.Proofs.Tryz.prog
def OKE (P : Program) (B : Nat) (f : FuncId) (e : Entry) : Prop := match e with
  | .code g => ∃ fn an, P.funcs[f]? = some fn ∧ elabF P fn an g.trim = some g
  | .prim p => PrimOK P B f p
theorem brE {α : Type} {a b : Option α} {c : Bool} {e : α} {R : Prop} (h : brB a b c = some e) (ha : a = some e → R) (hb : b = some e → R) : R := by
  cases c
  · exact hb h
  · exact ha h
theorem leafE {P : Program} {B n f : Nat} {x e : Entry} (hx : OKE P B n x) (h : brB (some x) none (Nat.beq f n) = some e) : OKE P B f e := by
  cases hb : Nat.beq f n with
  | false => rw [hb] at h; cases h
  | true =>
    rw [hb] at h
    have : x = e := Option.some.inj h
    subst this
    rw [Nat.eq_of_beq_eq_true hb]
    exact hx
end Go.GS
