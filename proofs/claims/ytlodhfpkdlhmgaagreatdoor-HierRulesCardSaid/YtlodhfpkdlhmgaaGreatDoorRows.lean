/-
  NARROWER THAN 'FOR EVERY INPUT', by the rows' own cells (each row's printed sentence says how): HierOwn: laid · HierLinks: laid · HierRules: laid · HierFaces: laid · HierOrder: laid · HierOrders: laid · HierOwes: laid · HierNearest: laid · HierMethods: laid · HierFields: laid · HierLayout: laid · HierTurned: laid · LatticeOrders: laid · LatticeCommon: laid · LatticeTop: laid · LatticeOrder: laid · LatticeJoins: laid · LatticeFits: laid.
  DERIVED. THE GIVEN ROWS OF THIS SEAT. 18 by the template 'for every input the law returns true; each argument reads behind the call as it read before'; 0 by the template 'total and deterministic' (their statements: YtlodhfpkdlhmgaaGreatDoorTotals.lean).
  GIVEN WITH THE SEED: the statements are not yours to turn. If you find one false, say at which input.
  Laid BY PROGRAM, IN A SANDBOX (cutbox-rows.mjs): the forced cells as the released guide's own fill.sh prints them over the translation 45badc9ae8bbdd92… (all of the seat's roots in one cut). By AI agents, Wed Nov 11 2026. No macro, syntax, notation, axiom, sorry.
-/
import Derived.Test.YtlodhfpkdlhmgaaGreatDoorChecked
import GoSem.PinnedTables
import GoSem.Claim
import GoSem.ClaimJoined
import GoSem.ClaimMapViews
import Derived.JoinedTies
import Derived.KernelRfl
namespace Go.Proofs.YtlodhfpkdlhmgaaGreatDoor
/- THE CELL 'sum', in the pinned program and in every row, IS THE sha256 OF THE DUMP (.gsa) THAT YtlodhfpkdlhmgaaGreatDoorProg.lean LOADS. Nothing in Lean hashes anything: it is a label: what it is worth is what the hold of that sum in a sandbox is worth. -/
noncomputable def Tryz.pinned : Pinned := { name := "ytlodhfpkdlhmgaagreatdoor", sum := "45badc9ae8bbdd92f75791ad64c4334f3f0cff310c2cefe7e91526b5ed40df43", checked := Tryz.checked }
namespace Rows
def none {H : Type} : Left H := { results := [], args := [] }

/- WHAT THE LISTED PACKAGE-LEVEL VARIABLES READ AS WHEN THE CALL BEGINS. Each datum BY PROGRAM (the guide's laid-datum.mjs) off the statement by which the dump's own 'gosem.cut.vars' lays the variable. In a bare row this is a premise. The card (YtlodhfpkdlhmgaaGreatDoorCards.lean) ties it to the program's text. -/
def laid_unicode_utf8_acceptRanges {H : Type} : DataW H := .agg [.agg [.lit (.int .u8 128), .lit (.int .u8 191)], .agg [.lit (.int .u8 160), .lit (.int .u8 191)], .agg [.lit (.int .u8 128), .lit (.int .u8 159)], .agg [.lit (.int .u8 144), .lit (.int .u8 191)], .agg [.lit (.int .u8 128), .lit (.int .u8 143)], .agg [.lit (.int .u8 0), .lit (.int .u8 0)], .agg [.lit (.int .u8 0), .lit (.int .u8 0)], .agg [.lit (.int .u8 0), .lit (.int .u8 0)], .agg [.lit (.int .u8 0), .lit (.int .u8 0)], .agg [.lit (.int .u8 0), .lit (.int .u8 0)], .agg [.lit (.int .u8 0), .lit (.int .u8 0)], .agg [.lit (.int .u8 0), .lit (.int .u8 0)], .agg [.lit (.int .u8 0), .lit (.int .u8 0)], .agg [.lit (.int .u8 0), .lit (.int .u8 0)], .agg [.lit (.int .u8 0), .lit (.int .u8 0)], .agg [.lit (.int .u8 0), .lit (.int .u8 0)]]
def laid_errors_errorType {H : Type} : DataW H := .iface "internal/reflectlite.rtype" (.agg [.ptr (.lit (.string [101, 114, 114, 111, 114]))])
/-- One of Go's own tables, pinned by name: the form's constant. -/
def laid_unicode_utf8_first : DataW Unit := Go.Pinned.utf8First

/-- 'keystonelaw6.HierOwn': WHATEVER THE INPUT: true; the input reads as it did. -/
def hierOwnSpec : ChangeSpec := { name := "hierOwn", fn := fun _ => fun
  | [d1, d2] => { results := [.lit (.bool true)], args := [d1, d2] }
  | _ => none }
def hierOwnRow : OpenClaim := { program := "ytlodhfpkdlhmgaagreatdoor", sum := "45badc9ae8bbdd92f75791ad64c4334f3f0cff310c2cefe7e91526b5ed40df43", func := "keystone/keystonelaw6.HierOwn", spec := "hierOwn", inPlace := ["internal/bytealg.IndexByteString", "internal/bytealg.IndexString", "internal/abi.NoEscape", "internal/bytealg.MakeNoZero", "internal/reflectlite.ValueOf", "(internal/reflectlite.Value).Type", "(internal/reflectlite.Value).IsNil", "internal/reflectlite.TypeOf", "(internal/reflectlite.Value).Elem", "(internal/reflectlite.Value).Set"], unfollowed := true, recurses := true, named := ["unicode/utf8.first", "unicode/utf8.acceptRanges", "internal/bytealg.MaxLen", "errors.errorType"], apart := false, laid := [("unicode/utf8.acceptRanges", laid_unicode_utf8_acceptRanges), ("errors.errorType", laid_errors_errorType), ("unicode/utf8.first", laid_unicode_utf8_first)] }
def HierOwnSaid : Prop := hierOwnRow.holds Tryz.pinned (OpenSpec.ofChange hierOwnSpec)

/-- ITS FALSE NEIGHBOUR: 'it returns false'. Refute it at one input. -/
def hierOwnWrong : ChangeSpec := { name := "hierOwn", fn := fun _ => fun
  | [d1, d2] => { results := [.lit (.bool false)], args := [d1, d2] }
  | _ => none }
def HierOwnWrongFalsely : Prop := hierOwnRow.holds Tryz.pinned (OpenSpec.ofChange hierOwnWrong)

/-- 'keystonelaw6.HierLinks': WHATEVER THE INPUT: true; the input reads as it did. -/
def hierLinksSpec : ChangeSpec := { name := "hierLinks", fn := fun _ => fun
  | [d1, d2] => { results := [.lit (.bool true)], args := [d1, d2] }
  | _ => none }
def hierLinksRow : OpenClaim := { program := "ytlodhfpkdlhmgaagreatdoor", sum := "45badc9ae8bbdd92f75791ad64c4334f3f0cff310c2cefe7e91526b5ed40df43", func := "keystone/keystonelaw6.HierLinks", spec := "hierLinks", inPlace := ["internal/bytealg.IndexByteString", "internal/bytealg.IndexString", "internal/abi.NoEscape", "internal/bytealg.MakeNoZero", "internal/reflectlite.ValueOf", "(internal/reflectlite.Value).Type", "(internal/reflectlite.Value).IsNil", "internal/reflectlite.TypeOf", "(internal/reflectlite.Value).Elem", "(internal/reflectlite.Value).Set"], unfollowed := true, recurses := true, named := ["unicode/utf8.first", "unicode/utf8.acceptRanges", "internal/bytealg.MaxLen", "errors.errorType"], apart := false, laid := [("unicode/utf8.acceptRanges", laid_unicode_utf8_acceptRanges), ("errors.errorType", laid_errors_errorType), ("unicode/utf8.first", laid_unicode_utf8_first)] }
def HierLinksSaid : Prop := hierLinksRow.holds Tryz.pinned (OpenSpec.ofChange hierLinksSpec)

/-- ITS FALSE NEIGHBOUR: 'it returns false'. Refute it at one input. -/
def hierLinksWrong : ChangeSpec := { name := "hierLinks", fn := fun _ => fun
  | [d1, d2] => { results := [.lit (.bool false)], args := [d1, d2] }
  | _ => none }
def HierLinksWrongFalsely : Prop := hierLinksRow.holds Tryz.pinned (OpenSpec.ofChange hierLinksWrong)

/-- 'keystonelaw6.HierRules': WHATEVER THE INPUT: true; the input reads as it did. -/
def hierRulesSpec : ChangeSpec := { name := "hierRules", fn := fun _ => fun
  | [d] => { results := [.lit (.bool true)], args := [d] }
  | _ => none }
def hierRulesRow : OpenClaim := { program := "ytlodhfpkdlhmgaagreatdoor", sum := "45badc9ae8bbdd92f75791ad64c4334f3f0cff310c2cefe7e91526b5ed40df43", func := "keystone/keystonelaw6.HierRules", spec := "hierRules", inPlace := ["internal/bytealg.IndexByteString", "internal/bytealg.IndexString", "internal/abi.NoEscape", "internal/bytealg.MakeNoZero", "internal/reflectlite.ValueOf", "(internal/reflectlite.Value).Type", "(internal/reflectlite.Value).IsNil", "internal/reflectlite.TypeOf", "(internal/reflectlite.Value).Elem", "(internal/reflectlite.Value).Set"], unfollowed := true, recurses := true, named := ["unicode/utf8.first", "unicode/utf8.acceptRanges", "internal/bytealg.MaxLen", "errors.errorType"], apart := false, laid := [("unicode/utf8.acceptRanges", laid_unicode_utf8_acceptRanges), ("errors.errorType", laid_errors_errorType), ("unicode/utf8.first", laid_unicode_utf8_first)] }
def HierRulesSaid : Prop := hierRulesRow.holds Tryz.pinned (OpenSpec.ofChange hierRulesSpec)

/-- ITS FALSE NEIGHBOUR: 'it returns false'. Refute it at one input. -/
def hierRulesWrong : ChangeSpec := { name := "hierRules", fn := fun _ => fun
  | [d] => { results := [.lit (.bool false)], args := [d] }
  | _ => none }
def HierRulesWrongFalsely : Prop := hierRulesRow.holds Tryz.pinned (OpenSpec.ofChange hierRulesWrong)

/-- 'keystonelaw6.HierFaces': WHATEVER THE INPUT: true; the input reads as it did. -/
def hierFacesSpec : ChangeSpec := { name := "hierFaces", fn := fun _ => fun
  | [d1, d2] => { results := [.lit (.bool true)], args := [d1, d2] }
  | _ => none }
def hierFacesRow : OpenClaim := { program := "ytlodhfpkdlhmgaagreatdoor", sum := "45badc9ae8bbdd92f75791ad64c4334f3f0cff310c2cefe7e91526b5ed40df43", func := "keystone/keystonelaw6.HierFaces", spec := "hierFaces", inPlace := ["internal/bytealg.IndexByteString", "internal/bytealg.IndexString", "internal/abi.NoEscape", "internal/bytealg.MakeNoZero", "internal/reflectlite.ValueOf", "(internal/reflectlite.Value).Type", "(internal/reflectlite.Value).IsNil", "internal/reflectlite.TypeOf", "(internal/reflectlite.Value).Elem", "(internal/reflectlite.Value).Set"], unfollowed := true, recurses := true, named := ["unicode/utf8.first", "unicode/utf8.acceptRanges", "internal/bytealg.MaxLen", "errors.errorType"], apart := false, laid := [("unicode/utf8.acceptRanges", laid_unicode_utf8_acceptRanges), ("errors.errorType", laid_errors_errorType), ("unicode/utf8.first", laid_unicode_utf8_first)] }
def HierFacesSaid : Prop := hierFacesRow.holds Tryz.pinned (OpenSpec.ofChange hierFacesSpec)

/-- ITS FALSE NEIGHBOUR: 'it returns false'. Refute it at one input. -/
def hierFacesWrong : ChangeSpec := { name := "hierFaces", fn := fun _ => fun
  | [d1, d2] => { results := [.lit (.bool false)], args := [d1, d2] }
  | _ => none }
def HierFacesWrongFalsely : Prop := hierFacesRow.holds Tryz.pinned (OpenSpec.ofChange hierFacesWrong)

/-- 'keystonelaw6.HierOrder': WHATEVER THE INPUT: true; the input reads as it did. -/
def hierOrderSpec : ChangeSpec := { name := "hierOrder", fn := fun _ => fun
  | [d1, d2, d3, d4] => { results := [.lit (.bool true)], args := [d1, d2, d3, d4] }
  | _ => none }
def hierOrderRow : OpenClaim := { program := "ytlodhfpkdlhmgaagreatdoor", sum := "45badc9ae8bbdd92f75791ad64c4334f3f0cff310c2cefe7e91526b5ed40df43", func := "keystone/keystonelaw6.HierOrder", spec := "hierOrder", inPlace := ["internal/bytealg.IndexByteString", "internal/bytealg.IndexString", "internal/abi.NoEscape", "internal/bytealg.MakeNoZero", "internal/reflectlite.ValueOf", "(internal/reflectlite.Value).Type", "(internal/reflectlite.Value).IsNil", "internal/reflectlite.TypeOf", "(internal/reflectlite.Value).Elem", "(internal/reflectlite.Value).Set"], unfollowed := true, recurses := true, named := ["unicode/utf8.first", "unicode/utf8.acceptRanges", "internal/bytealg.MaxLen", "errors.errorType"], apart := false, laid := [("unicode/utf8.acceptRanges", laid_unicode_utf8_acceptRanges), ("errors.errorType", laid_errors_errorType), ("unicode/utf8.first", laid_unicode_utf8_first)] }
def HierOrderSaid : Prop := hierOrderRow.holds Tryz.pinned (OpenSpec.ofChange hierOrderSpec)

/-- ITS FALSE NEIGHBOUR: 'it returns false'. Refute it at one input. -/
def hierOrderWrong : ChangeSpec := { name := "hierOrder", fn := fun _ => fun
  | [d1, d2, d3, d4] => { results := [.lit (.bool false)], args := [d1, d2, d3, d4] }
  | _ => none }
def HierOrderWrongFalsely : Prop := hierOrderRow.holds Tryz.pinned (OpenSpec.ofChange hierOrderWrong)

/-- 'keystonelaw6.HierOrders': WHATEVER THE INPUT: true; the input reads as it did. -/
def hierOrdersSpec : ChangeSpec := { name := "hierOrders", fn := fun _ => fun
  | [d1, d2, d3, d4, d5] => { results := [.lit (.bool true)], args := [d1, d2, d3, d4, d5] }
  | _ => none }
def hierOrdersRow : OpenClaim := { program := "ytlodhfpkdlhmgaagreatdoor", sum := "45badc9ae8bbdd92f75791ad64c4334f3f0cff310c2cefe7e91526b5ed40df43", func := "keystone/keystonelaw6.HierOrders", spec := "hierOrders", inPlace := ["internal/bytealg.IndexByteString", "internal/bytealg.IndexString", "internal/abi.NoEscape", "internal/bytealg.MakeNoZero", "internal/reflectlite.ValueOf", "(internal/reflectlite.Value).Type", "(internal/reflectlite.Value).IsNil", "internal/reflectlite.TypeOf", "(internal/reflectlite.Value).Elem", "(internal/reflectlite.Value).Set"], unfollowed := true, recurses := true, named := ["unicode/utf8.first", "unicode/utf8.acceptRanges", "internal/bytealg.MaxLen", "errors.errorType"], apart := false, laid := [("unicode/utf8.acceptRanges", laid_unicode_utf8_acceptRanges), ("errors.errorType", laid_errors_errorType), ("unicode/utf8.first", laid_unicode_utf8_first)] }
def HierOrdersSaid : Prop := hierOrdersRow.holds Tryz.pinned (OpenSpec.ofChange hierOrdersSpec)

/-- ITS FALSE NEIGHBOUR: 'it returns false'. Refute it at one input. -/
def hierOrdersWrong : ChangeSpec := { name := "hierOrders", fn := fun _ => fun
  | [d1, d2, d3, d4, d5] => { results := [.lit (.bool false)], args := [d1, d2, d3, d4, d5] }
  | _ => none }
def HierOrdersWrongFalsely : Prop := hierOrdersRow.holds Tryz.pinned (OpenSpec.ofChange hierOrdersWrong)

/-- 'keystonelaw6.HierOwes': WHATEVER THE INPUT: true; the input reads as it did. -/
def hierOwesSpec : ChangeSpec := { name := "hierOwes", fn := fun _ => fun
  | [d] => { results := [.lit (.bool true)], args := [d] }
  | _ => none }
def hierOwesRow : OpenClaim := { program := "ytlodhfpkdlhmgaagreatdoor", sum := "45badc9ae8bbdd92f75791ad64c4334f3f0cff310c2cefe7e91526b5ed40df43", func := "keystone/keystonelaw6.HierOwes", spec := "hierOwes", inPlace := ["internal/bytealg.IndexByteString", "internal/bytealg.IndexString", "internal/abi.NoEscape", "internal/bytealg.MakeNoZero", "internal/reflectlite.ValueOf", "(internal/reflectlite.Value).Type", "(internal/reflectlite.Value).IsNil", "internal/reflectlite.TypeOf", "(internal/reflectlite.Value).Elem", "(internal/reflectlite.Value).Set"], unfollowed := true, recurses := true, named := ["unicode/utf8.first", "unicode/utf8.acceptRanges", "internal/bytealg.MaxLen", "errors.errorType"], apart := false, laid := [("unicode/utf8.acceptRanges", laid_unicode_utf8_acceptRanges), ("errors.errorType", laid_errors_errorType), ("unicode/utf8.first", laid_unicode_utf8_first)] }
def HierOwesSaid : Prop := hierOwesRow.holds Tryz.pinned (OpenSpec.ofChange hierOwesSpec)

/-- ITS FALSE NEIGHBOUR: 'it returns false'. Refute it at one input. -/
def hierOwesWrong : ChangeSpec := { name := "hierOwes", fn := fun _ => fun
  | [d] => { results := [.lit (.bool false)], args := [d] }
  | _ => none }
def HierOwesWrongFalsely : Prop := hierOwesRow.holds Tryz.pinned (OpenSpec.ofChange hierOwesWrong)

/-- 'keystonelaw6.HierNearest': WHATEVER THE INPUT: true; the input reads as it did. -/
def hierNearestSpec : ChangeSpec := { name := "hierNearest", fn := fun _ => fun
  | [d1, d2, d3] => { results := [.lit (.bool true)], args := [d1, d2, d3] }
  | _ => none }
def hierNearestRow : OpenClaim := { program := "ytlodhfpkdlhmgaagreatdoor", sum := "45badc9ae8bbdd92f75791ad64c4334f3f0cff310c2cefe7e91526b5ed40df43", func := "keystone/keystonelaw6.HierNearest", spec := "hierNearest", inPlace := ["internal/bytealg.IndexByteString", "internal/bytealg.IndexString", "internal/abi.NoEscape", "internal/bytealg.MakeNoZero", "internal/reflectlite.ValueOf", "(internal/reflectlite.Value).Type", "(internal/reflectlite.Value).IsNil", "internal/reflectlite.TypeOf", "(internal/reflectlite.Value).Elem", "(internal/reflectlite.Value).Set"], unfollowed := true, recurses := true, named := ["unicode/utf8.first", "unicode/utf8.acceptRanges", "internal/bytealg.MaxLen", "errors.errorType"], apart := false, laid := [("unicode/utf8.acceptRanges", laid_unicode_utf8_acceptRanges), ("errors.errorType", laid_errors_errorType), ("unicode/utf8.first", laid_unicode_utf8_first)] }
def HierNearestSaid : Prop := hierNearestRow.holds Tryz.pinned (OpenSpec.ofChange hierNearestSpec)

/-- ITS FALSE NEIGHBOUR: 'it returns false'. Refute it at one input. -/
def hierNearestWrong : ChangeSpec := { name := "hierNearest", fn := fun _ => fun
  | [d1, d2, d3] => { results := [.lit (.bool false)], args := [d1, d2, d3] }
  | _ => none }
def HierNearestWrongFalsely : Prop := hierNearestRow.holds Tryz.pinned (OpenSpec.ofChange hierNearestWrong)

/-- 'keystonelaw6.HierMethods': WHATEVER THE INPUT: true; the input reads as it did. -/
def hierMethodsSpec : ChangeSpec := { name := "hierMethods", fn := fun _ => fun
  | [d1, d2, d3, d4, d5] => { results := [.lit (.bool true)], args := [d1, d2, d3, d4, d5] }
  | _ => none }
def hierMethodsRow : OpenClaim := { program := "ytlodhfpkdlhmgaagreatdoor", sum := "45badc9ae8bbdd92f75791ad64c4334f3f0cff310c2cefe7e91526b5ed40df43", func := "keystone/keystonelaw6.HierMethods", spec := "hierMethods", inPlace := ["internal/bytealg.IndexByteString", "internal/bytealg.IndexString", "internal/abi.NoEscape", "internal/bytealg.MakeNoZero", "internal/reflectlite.ValueOf", "(internal/reflectlite.Value).Type", "(internal/reflectlite.Value).IsNil", "internal/reflectlite.TypeOf", "(internal/reflectlite.Value).Elem", "(internal/reflectlite.Value).Set"], unfollowed := true, recurses := true, named := ["unicode/utf8.first", "unicode/utf8.acceptRanges", "internal/bytealg.MaxLen", "errors.errorType"], apart := false, laid := [("unicode/utf8.acceptRanges", laid_unicode_utf8_acceptRanges), ("errors.errorType", laid_errors_errorType), ("unicode/utf8.first", laid_unicode_utf8_first)] }
def HierMethodsSaid : Prop := hierMethodsRow.holds Tryz.pinned (OpenSpec.ofChange hierMethodsSpec)

/-- ITS FALSE NEIGHBOUR: 'it returns false'. Refute it at one input. -/
def hierMethodsWrong : ChangeSpec := { name := "hierMethods", fn := fun _ => fun
  | [d1, d2, d3, d4, d5] => { results := [.lit (.bool false)], args := [d1, d2, d3, d4, d5] }
  | _ => none }
def HierMethodsWrongFalsely : Prop := hierMethodsRow.holds Tryz.pinned (OpenSpec.ofChange hierMethodsWrong)

/-- 'keystonelaw6.HierFields': WHATEVER THE INPUT: true; the input reads as it did. -/
def hierFieldsSpec : ChangeSpec := { name := "hierFields", fn := fun _ => fun
  | [d1, d2, d3] => { results := [.lit (.bool true)], args := [d1, d2, d3] }
  | _ => none }
def hierFieldsRow : OpenClaim := { program := "ytlodhfpkdlhmgaagreatdoor", sum := "45badc9ae8bbdd92f75791ad64c4334f3f0cff310c2cefe7e91526b5ed40df43", func := "keystone/keystonelaw6.HierFields", spec := "hierFields", inPlace := ["internal/bytealg.IndexByteString", "internal/bytealg.IndexString", "internal/abi.NoEscape", "internal/bytealg.MakeNoZero", "internal/reflectlite.ValueOf", "(internal/reflectlite.Value).Type", "(internal/reflectlite.Value).IsNil", "internal/reflectlite.TypeOf", "(internal/reflectlite.Value).Elem", "(internal/reflectlite.Value).Set"], unfollowed := true, recurses := true, named := ["unicode/utf8.first", "unicode/utf8.acceptRanges", "internal/bytealg.MaxLen", "errors.errorType"], apart := false, laid := [("unicode/utf8.acceptRanges", laid_unicode_utf8_acceptRanges), ("errors.errorType", laid_errors_errorType), ("unicode/utf8.first", laid_unicode_utf8_first)] }
def HierFieldsSaid : Prop := hierFieldsRow.holds Tryz.pinned (OpenSpec.ofChange hierFieldsSpec)

/-- ITS FALSE NEIGHBOUR: 'it returns false'. Refute it at one input. -/
def hierFieldsWrong : ChangeSpec := { name := "hierFields", fn := fun _ => fun
  | [d1, d2, d3] => { results := [.lit (.bool false)], args := [d1, d2, d3] }
  | _ => none }
def HierFieldsWrongFalsely : Prop := hierFieldsRow.holds Tryz.pinned (OpenSpec.ofChange hierFieldsWrong)

/-- 'keystonelaw6.HierLayout': WHATEVER THE INPUT: true; the input reads as it did. -/
def hierLayoutSpec : ChangeSpec := { name := "hierLayout", fn := fun _ => fun
  | [d1, d2] => { results := [.lit (.bool true)], args := [d1, d2] }
  | _ => none }
def hierLayoutRow : OpenClaim := { program := "ytlodhfpkdlhmgaagreatdoor", sum := "45badc9ae8bbdd92f75791ad64c4334f3f0cff310c2cefe7e91526b5ed40df43", func := "keystone/keystonelaw6.HierLayout", spec := "hierLayout", inPlace := ["internal/bytealg.IndexByteString", "internal/bytealg.IndexString", "internal/abi.NoEscape", "internal/bytealg.MakeNoZero", "internal/reflectlite.ValueOf", "(internal/reflectlite.Value).Type", "(internal/reflectlite.Value).IsNil", "internal/reflectlite.TypeOf", "(internal/reflectlite.Value).Elem", "(internal/reflectlite.Value).Set"], unfollowed := true, recurses := true, named := ["unicode/utf8.first", "unicode/utf8.acceptRanges", "internal/bytealg.MaxLen", "errors.errorType"], apart := false, laid := [("unicode/utf8.acceptRanges", laid_unicode_utf8_acceptRanges), ("errors.errorType", laid_errors_errorType), ("unicode/utf8.first", laid_unicode_utf8_first)] }
def HierLayoutSaid : Prop := hierLayoutRow.holds Tryz.pinned (OpenSpec.ofChange hierLayoutSpec)

/-- ITS FALSE NEIGHBOUR: 'it returns false'. Refute it at one input. -/
def hierLayoutWrong : ChangeSpec := { name := "hierLayout", fn := fun _ => fun
  | [d1, d2] => { results := [.lit (.bool false)], args := [d1, d2] }
  | _ => none }
def HierLayoutWrongFalsely : Prop := hierLayoutRow.holds Tryz.pinned (OpenSpec.ofChange hierLayoutWrong)

/-- 'keystonelaw6.HierTurned': WHATEVER THE INPUT: true; the input reads as it did. -/
def hierTurnedSpec : ChangeSpec := { name := "hierTurned", fn := fun _ => fun
  | [d1, d2, d3, d4] => { results := [.lit (.bool true)], args := [d1, d2, d3, d4] }
  | _ => none }
def hierTurnedRow : OpenClaim := { program := "ytlodhfpkdlhmgaagreatdoor", sum := "45badc9ae8bbdd92f75791ad64c4334f3f0cff310c2cefe7e91526b5ed40df43", func := "keystone/keystonelaw6.HierTurned", spec := "hierTurned", inPlace := ["internal/bytealg.IndexByteString", "internal/bytealg.IndexString", "internal/abi.NoEscape", "internal/bytealg.MakeNoZero", "internal/reflectlite.ValueOf", "(internal/reflectlite.Value).Type", "(internal/reflectlite.Value).IsNil", "internal/reflectlite.TypeOf", "(internal/reflectlite.Value).Elem", "(internal/reflectlite.Value).Set"], unfollowed := true, recurses := true, named := ["unicode/utf8.first", "unicode/utf8.acceptRanges", "internal/bytealg.MaxLen", "errors.errorType"], apart := false, laid := [("unicode/utf8.acceptRanges", laid_unicode_utf8_acceptRanges), ("errors.errorType", laid_errors_errorType), ("unicode/utf8.first", laid_unicode_utf8_first)] }
def HierTurnedSaid : Prop := hierTurnedRow.holds Tryz.pinned (OpenSpec.ofChange hierTurnedSpec)

/-- ITS FALSE NEIGHBOUR: 'it returns false'. Refute it at one input. -/
def hierTurnedWrong : ChangeSpec := { name := "hierTurned", fn := fun _ => fun
  | [d1, d2, d3, d4] => { results := [.lit (.bool false)], args := [d1, d2, d3, d4] }
  | _ => none }
def HierTurnedWrongFalsely : Prop := hierTurnedRow.holds Tryz.pinned (OpenSpec.ofChange hierTurnedWrong)

/-- 'keystonelaw7.LatticeOrders': WHATEVER THE INPUT: true; the input reads as it did. -/
def latticeOrdersSpec : ChangeSpec := { name := "latticeOrders", fn := fun _ => fun
  | [d1, d2, d3] => { results := [.lit (.bool true)], args := [d1, d2, d3] }
  | _ => none }
def latticeOrdersRow : OpenClaim := { program := "ytlodhfpkdlhmgaagreatdoor", sum := "45badc9ae8bbdd92f75791ad64c4334f3f0cff310c2cefe7e91526b5ed40df43", func := "keystone/keystonelaw7.LatticeOrders", spec := "latticeOrders", inPlace := ["internal/bytealg.IndexByteString", "internal/bytealg.IndexString", "internal/abi.NoEscape", "internal/bytealg.MakeNoZero", "internal/reflectlite.ValueOf", "(internal/reflectlite.Value).Type", "(internal/reflectlite.Value).IsNil", "internal/reflectlite.TypeOf", "(internal/reflectlite.Value).Elem", "(internal/reflectlite.Value).Set"], unfollowed := true, recurses := true, named := ["unicode/utf8.first", "unicode/utf8.acceptRanges", "internal/bytealg.MaxLen", "errors.errorType"], apart := false, laid := [("unicode/utf8.acceptRanges", laid_unicode_utf8_acceptRanges), ("errors.errorType", laid_errors_errorType), ("unicode/utf8.first", laid_unicode_utf8_first)] }
def LatticeOrdersSaid : Prop := latticeOrdersRow.holds Tryz.pinned (OpenSpec.ofChange latticeOrdersSpec)

/-- ITS FALSE NEIGHBOUR: 'it returns false'. Refute it at one input. -/
def latticeOrdersWrong : ChangeSpec := { name := "latticeOrders", fn := fun _ => fun
  | [d1, d2, d3] => { results := [.lit (.bool false)], args := [d1, d2, d3] }
  | _ => none }
def LatticeOrdersWrongFalsely : Prop := latticeOrdersRow.holds Tryz.pinned (OpenSpec.ofChange latticeOrdersWrong)

/-- 'keystonelaw7.LatticeCommon': WHATEVER THE INPUT: true; the input reads as it did. -/
def latticeCommonSpec : ChangeSpec := { name := "latticeCommon", fn := fun _ => fun
  | [d1, d2, d3, d4] => { results := [.lit (.bool true)], args := [d1, d2, d3, d4] }
  | _ => none }
def latticeCommonRow : OpenClaim := { program := "ytlodhfpkdlhmgaagreatdoor", sum := "45badc9ae8bbdd92f75791ad64c4334f3f0cff310c2cefe7e91526b5ed40df43", func := "keystone/keystonelaw7.LatticeCommon", spec := "latticeCommon", inPlace := ["internal/bytealg.IndexByteString", "internal/bytealg.IndexString", "internal/abi.NoEscape", "internal/bytealg.MakeNoZero", "internal/reflectlite.ValueOf", "(internal/reflectlite.Value).Type", "(internal/reflectlite.Value).IsNil", "internal/reflectlite.TypeOf", "(internal/reflectlite.Value).Elem", "(internal/reflectlite.Value).Set"], unfollowed := true, recurses := true, named := ["unicode/utf8.first", "unicode/utf8.acceptRanges", "internal/bytealg.MaxLen", "errors.errorType"], apart := false, laid := [("unicode/utf8.acceptRanges", laid_unicode_utf8_acceptRanges), ("errors.errorType", laid_errors_errorType), ("unicode/utf8.first", laid_unicode_utf8_first)] }
def LatticeCommonSaid : Prop := latticeCommonRow.holds Tryz.pinned (OpenSpec.ofChange latticeCommonSpec)

/-- ITS FALSE NEIGHBOUR: 'it returns false'. Refute it at one input. -/
def latticeCommonWrong : ChangeSpec := { name := "latticeCommon", fn := fun _ => fun
  | [d1, d2, d3, d4] => { results := [.lit (.bool false)], args := [d1, d2, d3, d4] }
  | _ => none }
def LatticeCommonWrongFalsely : Prop := latticeCommonRow.holds Tryz.pinned (OpenSpec.ofChange latticeCommonWrong)

/-- 'keystonelaw7.LatticeTop': WHATEVER THE INPUT: true; the input reads as it did. -/
def latticeTopSpec : ChangeSpec := { name := "latticeTop", fn := fun _ => fun
  | [d1, d2, d3, d4] => { results := [.lit (.bool true)], args := [d1, d2, d3, d4] }
  | _ => none }
def latticeTopRow : OpenClaim := { program := "ytlodhfpkdlhmgaagreatdoor", sum := "45badc9ae8bbdd92f75791ad64c4334f3f0cff310c2cefe7e91526b5ed40df43", func := "keystone/keystonelaw7.LatticeTop", spec := "latticeTop", inPlace := ["internal/bytealg.IndexByteString", "internal/bytealg.IndexString", "internal/abi.NoEscape", "internal/bytealg.MakeNoZero", "internal/reflectlite.ValueOf", "(internal/reflectlite.Value).Type", "(internal/reflectlite.Value).IsNil", "internal/reflectlite.TypeOf", "(internal/reflectlite.Value).Elem", "(internal/reflectlite.Value).Set"], unfollowed := true, recurses := true, named := ["unicode/utf8.first", "unicode/utf8.acceptRanges", "internal/bytealg.MaxLen", "errors.errorType"], apart := false, laid := [("unicode/utf8.acceptRanges", laid_unicode_utf8_acceptRanges), ("errors.errorType", laid_errors_errorType), ("unicode/utf8.first", laid_unicode_utf8_first)] }
def LatticeTopSaid : Prop := latticeTopRow.holds Tryz.pinned (OpenSpec.ofChange latticeTopSpec)

/-- ITS FALSE NEIGHBOUR: 'it returns false'. Refute it at one input. -/
def latticeTopWrong : ChangeSpec := { name := "latticeTop", fn := fun _ => fun
  | [d1, d2, d3, d4] => { results := [.lit (.bool false)], args := [d1, d2, d3, d4] }
  | _ => none }
def LatticeTopWrongFalsely : Prop := latticeTopRow.holds Tryz.pinned (OpenSpec.ofChange latticeTopWrong)

/-- 'keystonelaw7.LatticeOrder': WHATEVER THE INPUT: true; the input reads as it did. -/
def latticeOrderSpec : ChangeSpec := { name := "latticeOrder", fn := fun _ => fun
  | [d1, d2] => { results := [.lit (.bool true)], args := [d1, d2] }
  | _ => none }
def latticeOrderRow : OpenClaim := { program := "ytlodhfpkdlhmgaagreatdoor", sum := "45badc9ae8bbdd92f75791ad64c4334f3f0cff310c2cefe7e91526b5ed40df43", func := "keystone/keystonelaw7.LatticeOrder", spec := "latticeOrder", inPlace := ["internal/bytealg.IndexByteString", "internal/bytealg.IndexString", "internal/abi.NoEscape", "internal/bytealg.MakeNoZero", "internal/reflectlite.ValueOf", "(internal/reflectlite.Value).Type", "(internal/reflectlite.Value).IsNil", "internal/reflectlite.TypeOf", "(internal/reflectlite.Value).Elem", "(internal/reflectlite.Value).Set"], unfollowed := true, recurses := true, named := ["unicode/utf8.first", "unicode/utf8.acceptRanges", "internal/bytealg.MaxLen", "errors.errorType"], apart := false, laid := [("unicode/utf8.acceptRanges", laid_unicode_utf8_acceptRanges), ("errors.errorType", laid_errors_errorType), ("unicode/utf8.first", laid_unicode_utf8_first)] }
def LatticeOrderSaid : Prop := latticeOrderRow.holds Tryz.pinned (OpenSpec.ofChange latticeOrderSpec)

/-- ITS FALSE NEIGHBOUR: 'it returns false'. Refute it at one input. -/
def latticeOrderWrong : ChangeSpec := { name := "latticeOrder", fn := fun _ => fun
  | [d1, d2] => { results := [.lit (.bool false)], args := [d1, d2] }
  | _ => none }
def LatticeOrderWrongFalsely : Prop := latticeOrderRow.holds Tryz.pinned (OpenSpec.ofChange latticeOrderWrong)

/-- 'keystonelaw7.LatticeJoins': WHATEVER THE INPUT: true; the input reads as it did. -/
def latticeJoinsSpec : ChangeSpec := { name := "latticeJoins", fn := fun _ => fun
  | [d1, d2] => { results := [.lit (.bool true)], args := [d1, d2] }
  | _ => none }
def latticeJoinsRow : OpenClaim := { program := "ytlodhfpkdlhmgaagreatdoor", sum := "45badc9ae8bbdd92f75791ad64c4334f3f0cff310c2cefe7e91526b5ed40df43", func := "keystone/keystonelaw7.LatticeJoins", spec := "latticeJoins", inPlace := ["internal/bytealg.IndexByteString", "internal/bytealg.IndexString", "internal/abi.NoEscape", "internal/bytealg.MakeNoZero", "internal/reflectlite.ValueOf", "(internal/reflectlite.Value).Type", "(internal/reflectlite.Value).IsNil", "internal/reflectlite.TypeOf", "(internal/reflectlite.Value).Elem", "(internal/reflectlite.Value).Set"], unfollowed := true, recurses := true, named := ["unicode/utf8.first", "unicode/utf8.acceptRanges", "internal/bytealg.MaxLen", "errors.errorType"], apart := false, laid := [("unicode/utf8.acceptRanges", laid_unicode_utf8_acceptRanges), ("errors.errorType", laid_errors_errorType), ("unicode/utf8.first", laid_unicode_utf8_first)] }
def LatticeJoinsSaid : Prop := latticeJoinsRow.holds Tryz.pinned (OpenSpec.ofChange latticeJoinsSpec)

/-- ITS FALSE NEIGHBOUR: 'it returns false'. Refute it at one input. -/
def latticeJoinsWrong : ChangeSpec := { name := "latticeJoins", fn := fun _ => fun
  | [d1, d2] => { results := [.lit (.bool false)], args := [d1, d2] }
  | _ => none }
def LatticeJoinsWrongFalsely : Prop := latticeJoinsRow.holds Tryz.pinned (OpenSpec.ofChange latticeJoinsWrong)

/-- 'keystonelaw7.LatticeFits': WHATEVER THE INPUT: true; the input reads as it did. -/
def latticeFitsSpec : ChangeSpec := { name := "latticeFits", fn := fun _ => fun
  | [d1, d2, d3] => { results := [.lit (.bool true)], args := [d1, d2, d3] }
  | _ => none }
def latticeFitsRow : OpenClaim := { program := "ytlodhfpkdlhmgaagreatdoor", sum := "45badc9ae8bbdd92f75791ad64c4334f3f0cff310c2cefe7e91526b5ed40df43", func := "keystone/keystonelaw7.LatticeFits", spec := "latticeFits", inPlace := ["internal/bytealg.IndexByteString", "internal/bytealg.IndexString", "internal/abi.NoEscape", "internal/bytealg.MakeNoZero", "internal/reflectlite.ValueOf", "(internal/reflectlite.Value).Type", "(internal/reflectlite.Value).IsNil", "internal/reflectlite.TypeOf", "(internal/reflectlite.Value).Elem", "(internal/reflectlite.Value).Set"], unfollowed := true, recurses := true, named := ["unicode/utf8.first", "unicode/utf8.acceptRanges", "internal/bytealg.MaxLen", "errors.errorType"], apart := false, laid := [("unicode/utf8.acceptRanges", laid_unicode_utf8_acceptRanges), ("errors.errorType", laid_errors_errorType), ("unicode/utf8.first", laid_unicode_utf8_first)] }
def LatticeFitsSaid : Prop := latticeFitsRow.holds Tryz.pinned (OpenSpec.ofChange latticeFitsSpec)

/-- ITS FALSE NEIGHBOUR: 'it returns false'. Refute it at one input. -/
def latticeFitsWrong : ChangeSpec := { name := "latticeFits", fn := fun _ => fun
  | [d1, d2, d3] => { results := [.lit (.bool false)], args := [d1, d2, d3] }
  | _ => none }
def LatticeFitsWrongFalsely : Prop := latticeFitsRow.holds Tryz.pinned (OpenSpec.ofChange latticeFitsWrong)

/- THE SECOND FORM. 'bulk': how many values and letters a reading holds, each counted each time it is reached (what is shared counts as often as it is met; a slice's spare places count too). A statement '..UptoSaid' is the law's where the arguments, and the package variables that the reading takes, are together of bulk at most 1048576: NARROWER than '..Said'. Prove '..Said' where nothing that the law and all that it calls make is longer than what came in: it says more and counts as full. Else prove '..UptoSaid'. A law counts once. -/
mutual
def uptoBulk {H : Type} : DataW H → Nat
  | .lit (.string bytes) => bytes.length + 1
  | .lit _ => 1
  | .nil => 1
  | .ptr d => uptoBulk d + 1
  | .slice elems spare => uptoBulkAll elems + uptoBulkAll spare + 1
  | .agg parts => uptoBulkAll parts + 1
  | .iface _ d => uptoBulk d + 1
  | .map entries => uptoBulkEntries entries + 1
  | .held _ => 1
def uptoBulkAll {H : Type} : List (DataW H) → Nat
  | [] => 0
  | d :: r => uptoBulk d + uptoBulkAll r
def uptoBulkEntries {H : Type} : List (Lit × DataW H) → Nat
  | [] => 0
  | x :: r => uptoBulkEntry x + uptoBulkEntries r
def uptoBulkEntry {H : Type} : Lit × DataW H → Nat
  | (.string bytes, d) => bytes.length + uptoBulk d + 1
  | (_, d) => uptoBulk d + 1
 end
def uptoSmall : (H : Type) → List (DataW H) → Bool := fun _ ds => decide (uptoBulkAll ds ≤ 1048576)
def OpenSpec.upto (s : _root_.Go.ChangeSpec) : _root_.Go.OpenSpec := { _root_.Go.OpenSpec.ofChange s with cond := some uptoSmall }

/-- 'keystonelaw6.HierOwn', WHERE WHAT IT READS IS OF BULK AT MOST 1048576: true; the input reads as it did. -/
def hierOwnUptoRow : OpenClaim := { program := "ytlodhfpkdlhmgaagreatdoor", sum := "45badc9ae8bbdd92f75791ad64c4334f3f0cff310c2cefe7e91526b5ed40df43", func := "keystone/keystonelaw6.HierOwn", spec := "hierOwn", inPlace := ["internal/bytealg.IndexByteString", "internal/bytealg.IndexString", "internal/abi.NoEscape", "internal/bytealg.MakeNoZero", "internal/reflectlite.ValueOf", "(internal/reflectlite.Value).Type", "(internal/reflectlite.Value).IsNil", "internal/reflectlite.TypeOf", "(internal/reflectlite.Value).Elem", "(internal/reflectlite.Value).Set"], unfollowed := true, recurses := true, named := ["unicode/utf8.first", "unicode/utf8.acceptRanges", "internal/bytealg.MaxLen", "errors.errorType"], apart := false, laid := [("unicode/utf8.acceptRanges", laid_unicode_utf8_acceptRanges), ("errors.errorType", laid_errors_errorType), ("unicode/utf8.first", laid_unicode_utf8_first)], narrowed := true }
def HierOwnUptoSaid : Prop := hierOwnUptoRow.holds Tryz.pinned (OpenSpec.upto hierOwnSpec)

/-- 'keystonelaw6.HierLinks', WHERE WHAT IT READS IS OF BULK AT MOST 1048576: true; the input reads as it did. -/
def hierLinksUptoRow : OpenClaim := { program := "ytlodhfpkdlhmgaagreatdoor", sum := "45badc9ae8bbdd92f75791ad64c4334f3f0cff310c2cefe7e91526b5ed40df43", func := "keystone/keystonelaw6.HierLinks", spec := "hierLinks", inPlace := ["internal/bytealg.IndexByteString", "internal/bytealg.IndexString", "internal/abi.NoEscape", "internal/bytealg.MakeNoZero", "internal/reflectlite.ValueOf", "(internal/reflectlite.Value).Type", "(internal/reflectlite.Value).IsNil", "internal/reflectlite.TypeOf", "(internal/reflectlite.Value).Elem", "(internal/reflectlite.Value).Set"], unfollowed := true, recurses := true, named := ["unicode/utf8.first", "unicode/utf8.acceptRanges", "internal/bytealg.MaxLen", "errors.errorType"], apart := false, laid := [("unicode/utf8.acceptRanges", laid_unicode_utf8_acceptRanges), ("errors.errorType", laid_errors_errorType), ("unicode/utf8.first", laid_unicode_utf8_first)], narrowed := true }
def HierLinksUptoSaid : Prop := hierLinksUptoRow.holds Tryz.pinned (OpenSpec.upto hierLinksSpec)

/-- 'keystonelaw6.HierRules', WHERE WHAT IT READS IS OF BULK AT MOST 1048576: true; the input reads as it did. -/
def hierRulesUptoRow : OpenClaim := { program := "ytlodhfpkdlhmgaagreatdoor", sum := "45badc9ae8bbdd92f75791ad64c4334f3f0cff310c2cefe7e91526b5ed40df43", func := "keystone/keystonelaw6.HierRules", spec := "hierRules", inPlace := ["internal/bytealg.IndexByteString", "internal/bytealg.IndexString", "internal/abi.NoEscape", "internal/bytealg.MakeNoZero", "internal/reflectlite.ValueOf", "(internal/reflectlite.Value).Type", "(internal/reflectlite.Value).IsNil", "internal/reflectlite.TypeOf", "(internal/reflectlite.Value).Elem", "(internal/reflectlite.Value).Set"], unfollowed := true, recurses := true, named := ["unicode/utf8.first", "unicode/utf8.acceptRanges", "internal/bytealg.MaxLen", "errors.errorType"], apart := false, laid := [("unicode/utf8.acceptRanges", laid_unicode_utf8_acceptRanges), ("errors.errorType", laid_errors_errorType), ("unicode/utf8.first", laid_unicode_utf8_first)], narrowed := true }
def HierRulesUptoSaid : Prop := hierRulesUptoRow.holds Tryz.pinned (OpenSpec.upto hierRulesSpec)

/-- 'keystonelaw6.HierFaces', WHERE WHAT IT READS IS OF BULK AT MOST 1048576: true; the input reads as it did. -/
def hierFacesUptoRow : OpenClaim := { program := "ytlodhfpkdlhmgaagreatdoor", sum := "45badc9ae8bbdd92f75791ad64c4334f3f0cff310c2cefe7e91526b5ed40df43", func := "keystone/keystonelaw6.HierFaces", spec := "hierFaces", inPlace := ["internal/bytealg.IndexByteString", "internal/bytealg.IndexString", "internal/abi.NoEscape", "internal/bytealg.MakeNoZero", "internal/reflectlite.ValueOf", "(internal/reflectlite.Value).Type", "(internal/reflectlite.Value).IsNil", "internal/reflectlite.TypeOf", "(internal/reflectlite.Value).Elem", "(internal/reflectlite.Value).Set"], unfollowed := true, recurses := true, named := ["unicode/utf8.first", "unicode/utf8.acceptRanges", "internal/bytealg.MaxLen", "errors.errorType"], apart := false, laid := [("unicode/utf8.acceptRanges", laid_unicode_utf8_acceptRanges), ("errors.errorType", laid_errors_errorType), ("unicode/utf8.first", laid_unicode_utf8_first)], narrowed := true }
def HierFacesUptoSaid : Prop := hierFacesUptoRow.holds Tryz.pinned (OpenSpec.upto hierFacesSpec)

/-- 'keystonelaw6.HierOrder', WHERE WHAT IT READS IS OF BULK AT MOST 1048576: true; the input reads as it did. -/
def hierOrderUptoRow : OpenClaim := { program := "ytlodhfpkdlhmgaagreatdoor", sum := "45badc9ae8bbdd92f75791ad64c4334f3f0cff310c2cefe7e91526b5ed40df43", func := "keystone/keystonelaw6.HierOrder", spec := "hierOrder", inPlace := ["internal/bytealg.IndexByteString", "internal/bytealg.IndexString", "internal/abi.NoEscape", "internal/bytealg.MakeNoZero", "internal/reflectlite.ValueOf", "(internal/reflectlite.Value).Type", "(internal/reflectlite.Value).IsNil", "internal/reflectlite.TypeOf", "(internal/reflectlite.Value).Elem", "(internal/reflectlite.Value).Set"], unfollowed := true, recurses := true, named := ["unicode/utf8.first", "unicode/utf8.acceptRanges", "internal/bytealg.MaxLen", "errors.errorType"], apart := false, laid := [("unicode/utf8.acceptRanges", laid_unicode_utf8_acceptRanges), ("errors.errorType", laid_errors_errorType), ("unicode/utf8.first", laid_unicode_utf8_first)], narrowed := true }
def HierOrderUptoSaid : Prop := hierOrderUptoRow.holds Tryz.pinned (OpenSpec.upto hierOrderSpec)

/-- 'keystonelaw6.HierOrders', WHERE WHAT IT READS IS OF BULK AT MOST 1048576: true; the input reads as it did. -/
def hierOrdersUptoRow : OpenClaim := { program := "ytlodhfpkdlhmgaagreatdoor", sum := "45badc9ae8bbdd92f75791ad64c4334f3f0cff310c2cefe7e91526b5ed40df43", func := "keystone/keystonelaw6.HierOrders", spec := "hierOrders", inPlace := ["internal/bytealg.IndexByteString", "internal/bytealg.IndexString", "internal/abi.NoEscape", "internal/bytealg.MakeNoZero", "internal/reflectlite.ValueOf", "(internal/reflectlite.Value).Type", "(internal/reflectlite.Value).IsNil", "internal/reflectlite.TypeOf", "(internal/reflectlite.Value).Elem", "(internal/reflectlite.Value).Set"], unfollowed := true, recurses := true, named := ["unicode/utf8.first", "unicode/utf8.acceptRanges", "internal/bytealg.MaxLen", "errors.errorType"], apart := false, laid := [("unicode/utf8.acceptRanges", laid_unicode_utf8_acceptRanges), ("errors.errorType", laid_errors_errorType), ("unicode/utf8.first", laid_unicode_utf8_first)], narrowed := true }
def HierOrdersUptoSaid : Prop := hierOrdersUptoRow.holds Tryz.pinned (OpenSpec.upto hierOrdersSpec)

/-- 'keystonelaw6.HierOwes', WHERE WHAT IT READS IS OF BULK AT MOST 1048576: true; the input reads as it did. -/
def hierOwesUptoRow : OpenClaim := { program := "ytlodhfpkdlhmgaagreatdoor", sum := "45badc9ae8bbdd92f75791ad64c4334f3f0cff310c2cefe7e91526b5ed40df43", func := "keystone/keystonelaw6.HierOwes", spec := "hierOwes", inPlace := ["internal/bytealg.IndexByteString", "internal/bytealg.IndexString", "internal/abi.NoEscape", "internal/bytealg.MakeNoZero", "internal/reflectlite.ValueOf", "(internal/reflectlite.Value).Type", "(internal/reflectlite.Value).IsNil", "internal/reflectlite.TypeOf", "(internal/reflectlite.Value).Elem", "(internal/reflectlite.Value).Set"], unfollowed := true, recurses := true, named := ["unicode/utf8.first", "unicode/utf8.acceptRanges", "internal/bytealg.MaxLen", "errors.errorType"], apart := false, laid := [("unicode/utf8.acceptRanges", laid_unicode_utf8_acceptRanges), ("errors.errorType", laid_errors_errorType), ("unicode/utf8.first", laid_unicode_utf8_first)], narrowed := true }
def HierOwesUptoSaid : Prop := hierOwesUptoRow.holds Tryz.pinned (OpenSpec.upto hierOwesSpec)

/-- 'keystonelaw6.HierNearest', WHERE WHAT IT READS IS OF BULK AT MOST 1048576: true; the input reads as it did. -/
def hierNearestUptoRow : OpenClaim := { program := "ytlodhfpkdlhmgaagreatdoor", sum := "45badc9ae8bbdd92f75791ad64c4334f3f0cff310c2cefe7e91526b5ed40df43", func := "keystone/keystonelaw6.HierNearest", spec := "hierNearest", inPlace := ["internal/bytealg.IndexByteString", "internal/bytealg.IndexString", "internal/abi.NoEscape", "internal/bytealg.MakeNoZero", "internal/reflectlite.ValueOf", "(internal/reflectlite.Value).Type", "(internal/reflectlite.Value).IsNil", "internal/reflectlite.TypeOf", "(internal/reflectlite.Value).Elem", "(internal/reflectlite.Value).Set"], unfollowed := true, recurses := true, named := ["unicode/utf8.first", "unicode/utf8.acceptRanges", "internal/bytealg.MaxLen", "errors.errorType"], apart := false, laid := [("unicode/utf8.acceptRanges", laid_unicode_utf8_acceptRanges), ("errors.errorType", laid_errors_errorType), ("unicode/utf8.first", laid_unicode_utf8_first)], narrowed := true }
def HierNearestUptoSaid : Prop := hierNearestUptoRow.holds Tryz.pinned (OpenSpec.upto hierNearestSpec)

/-- 'keystonelaw6.HierMethods', WHERE WHAT IT READS IS OF BULK AT MOST 1048576: true; the input reads as it did. -/
def hierMethodsUptoRow : OpenClaim := { program := "ytlodhfpkdlhmgaagreatdoor", sum := "45badc9ae8bbdd92f75791ad64c4334f3f0cff310c2cefe7e91526b5ed40df43", func := "keystone/keystonelaw6.HierMethods", spec := "hierMethods", inPlace := ["internal/bytealg.IndexByteString", "internal/bytealg.IndexString", "internal/abi.NoEscape", "internal/bytealg.MakeNoZero", "internal/reflectlite.ValueOf", "(internal/reflectlite.Value).Type", "(internal/reflectlite.Value).IsNil", "internal/reflectlite.TypeOf", "(internal/reflectlite.Value).Elem", "(internal/reflectlite.Value).Set"], unfollowed := true, recurses := true, named := ["unicode/utf8.first", "unicode/utf8.acceptRanges", "internal/bytealg.MaxLen", "errors.errorType"], apart := false, laid := [("unicode/utf8.acceptRanges", laid_unicode_utf8_acceptRanges), ("errors.errorType", laid_errors_errorType), ("unicode/utf8.first", laid_unicode_utf8_first)], narrowed := true }
def HierMethodsUptoSaid : Prop := hierMethodsUptoRow.holds Tryz.pinned (OpenSpec.upto hierMethodsSpec)

/-- 'keystonelaw6.HierFields', WHERE WHAT IT READS IS OF BULK AT MOST 1048576: true; the input reads as it did. -/
def hierFieldsUptoRow : OpenClaim := { program := "ytlodhfpkdlhmgaagreatdoor", sum := "45badc9ae8bbdd92f75791ad64c4334f3f0cff310c2cefe7e91526b5ed40df43", func := "keystone/keystonelaw6.HierFields", spec := "hierFields", inPlace := ["internal/bytealg.IndexByteString", "internal/bytealg.IndexString", "internal/abi.NoEscape", "internal/bytealg.MakeNoZero", "internal/reflectlite.ValueOf", "(internal/reflectlite.Value).Type", "(internal/reflectlite.Value).IsNil", "internal/reflectlite.TypeOf", "(internal/reflectlite.Value).Elem", "(internal/reflectlite.Value).Set"], unfollowed := true, recurses := true, named := ["unicode/utf8.first", "unicode/utf8.acceptRanges", "internal/bytealg.MaxLen", "errors.errorType"], apart := false, laid := [("unicode/utf8.acceptRanges", laid_unicode_utf8_acceptRanges), ("errors.errorType", laid_errors_errorType), ("unicode/utf8.first", laid_unicode_utf8_first)], narrowed := true }
def HierFieldsUptoSaid : Prop := hierFieldsUptoRow.holds Tryz.pinned (OpenSpec.upto hierFieldsSpec)

/-- 'keystonelaw6.HierLayout', WHERE WHAT IT READS IS OF BULK AT MOST 1048576: true; the input reads as it did. -/
def hierLayoutUptoRow : OpenClaim := { program := "ytlodhfpkdlhmgaagreatdoor", sum := "45badc9ae8bbdd92f75791ad64c4334f3f0cff310c2cefe7e91526b5ed40df43", func := "keystone/keystonelaw6.HierLayout", spec := "hierLayout", inPlace := ["internal/bytealg.IndexByteString", "internal/bytealg.IndexString", "internal/abi.NoEscape", "internal/bytealg.MakeNoZero", "internal/reflectlite.ValueOf", "(internal/reflectlite.Value).Type", "(internal/reflectlite.Value).IsNil", "internal/reflectlite.TypeOf", "(internal/reflectlite.Value).Elem", "(internal/reflectlite.Value).Set"], unfollowed := true, recurses := true, named := ["unicode/utf8.first", "unicode/utf8.acceptRanges", "internal/bytealg.MaxLen", "errors.errorType"], apart := false, laid := [("unicode/utf8.acceptRanges", laid_unicode_utf8_acceptRanges), ("errors.errorType", laid_errors_errorType), ("unicode/utf8.first", laid_unicode_utf8_first)], narrowed := true }
def HierLayoutUptoSaid : Prop := hierLayoutUptoRow.holds Tryz.pinned (OpenSpec.upto hierLayoutSpec)

/-- 'keystonelaw6.HierTurned', WHERE WHAT IT READS IS OF BULK AT MOST 1048576: true; the input reads as it did. -/
def hierTurnedUptoRow : OpenClaim := { program := "ytlodhfpkdlhmgaagreatdoor", sum := "45badc9ae8bbdd92f75791ad64c4334f3f0cff310c2cefe7e91526b5ed40df43", func := "keystone/keystonelaw6.HierTurned", spec := "hierTurned", inPlace := ["internal/bytealg.IndexByteString", "internal/bytealg.IndexString", "internal/abi.NoEscape", "internal/bytealg.MakeNoZero", "internal/reflectlite.ValueOf", "(internal/reflectlite.Value).Type", "(internal/reflectlite.Value).IsNil", "internal/reflectlite.TypeOf", "(internal/reflectlite.Value).Elem", "(internal/reflectlite.Value).Set"], unfollowed := true, recurses := true, named := ["unicode/utf8.first", "unicode/utf8.acceptRanges", "internal/bytealg.MaxLen", "errors.errorType"], apart := false, laid := [("unicode/utf8.acceptRanges", laid_unicode_utf8_acceptRanges), ("errors.errorType", laid_errors_errorType), ("unicode/utf8.first", laid_unicode_utf8_first)], narrowed := true }
def HierTurnedUptoSaid : Prop := hierTurnedUptoRow.holds Tryz.pinned (OpenSpec.upto hierTurnedSpec)

/-- 'keystonelaw7.LatticeOrders', WHERE WHAT IT READS IS OF BULK AT MOST 1048576: true; the input reads as it did. -/
def latticeOrdersUptoRow : OpenClaim := { program := "ytlodhfpkdlhmgaagreatdoor", sum := "45badc9ae8bbdd92f75791ad64c4334f3f0cff310c2cefe7e91526b5ed40df43", func := "keystone/keystonelaw7.LatticeOrders", spec := "latticeOrders", inPlace := ["internal/bytealg.IndexByteString", "internal/bytealg.IndexString", "internal/abi.NoEscape", "internal/bytealg.MakeNoZero", "internal/reflectlite.ValueOf", "(internal/reflectlite.Value).Type", "(internal/reflectlite.Value).IsNil", "internal/reflectlite.TypeOf", "(internal/reflectlite.Value).Elem", "(internal/reflectlite.Value).Set"], unfollowed := true, recurses := true, named := ["unicode/utf8.first", "unicode/utf8.acceptRanges", "internal/bytealg.MaxLen", "errors.errorType"], apart := false, laid := [("unicode/utf8.acceptRanges", laid_unicode_utf8_acceptRanges), ("errors.errorType", laid_errors_errorType), ("unicode/utf8.first", laid_unicode_utf8_first)], narrowed := true }
def LatticeOrdersUptoSaid : Prop := latticeOrdersUptoRow.holds Tryz.pinned (OpenSpec.upto latticeOrdersSpec)

/-- 'keystonelaw7.LatticeCommon', WHERE WHAT IT READS IS OF BULK AT MOST 1048576: true; the input reads as it did. -/
def latticeCommonUptoRow : OpenClaim := { program := "ytlodhfpkdlhmgaagreatdoor", sum := "45badc9ae8bbdd92f75791ad64c4334f3f0cff310c2cefe7e91526b5ed40df43", func := "keystone/keystonelaw7.LatticeCommon", spec := "latticeCommon", inPlace := ["internal/bytealg.IndexByteString", "internal/bytealg.IndexString", "internal/abi.NoEscape", "internal/bytealg.MakeNoZero", "internal/reflectlite.ValueOf", "(internal/reflectlite.Value).Type", "(internal/reflectlite.Value).IsNil", "internal/reflectlite.TypeOf", "(internal/reflectlite.Value).Elem", "(internal/reflectlite.Value).Set"], unfollowed := true, recurses := true, named := ["unicode/utf8.first", "unicode/utf8.acceptRanges", "internal/bytealg.MaxLen", "errors.errorType"], apart := false, laid := [("unicode/utf8.acceptRanges", laid_unicode_utf8_acceptRanges), ("errors.errorType", laid_errors_errorType), ("unicode/utf8.first", laid_unicode_utf8_first)], narrowed := true }
def LatticeCommonUptoSaid : Prop := latticeCommonUptoRow.holds Tryz.pinned (OpenSpec.upto latticeCommonSpec)

/-- 'keystonelaw7.LatticeTop', WHERE WHAT IT READS IS OF BULK AT MOST 1048576: true; the input reads as it did. -/
def latticeTopUptoRow : OpenClaim := { program := "ytlodhfpkdlhmgaagreatdoor", sum := "45badc9ae8bbdd92f75791ad64c4334f3f0cff310c2cefe7e91526b5ed40df43", func := "keystone/keystonelaw7.LatticeTop", spec := "latticeTop", inPlace := ["internal/bytealg.IndexByteString", "internal/bytealg.IndexString", "internal/abi.NoEscape", "internal/bytealg.MakeNoZero", "internal/reflectlite.ValueOf", "(internal/reflectlite.Value).Type", "(internal/reflectlite.Value).IsNil", "internal/reflectlite.TypeOf", "(internal/reflectlite.Value).Elem", "(internal/reflectlite.Value).Set"], unfollowed := true, recurses := true, named := ["unicode/utf8.first", "unicode/utf8.acceptRanges", "internal/bytealg.MaxLen", "errors.errorType"], apart := false, laid := [("unicode/utf8.acceptRanges", laid_unicode_utf8_acceptRanges), ("errors.errorType", laid_errors_errorType), ("unicode/utf8.first", laid_unicode_utf8_first)], narrowed := true }
def LatticeTopUptoSaid : Prop := latticeTopUptoRow.holds Tryz.pinned (OpenSpec.upto latticeTopSpec)

/-- 'keystonelaw7.LatticeOrder', WHERE WHAT IT READS IS OF BULK AT MOST 1048576: true; the input reads as it did. -/
def latticeOrderUptoRow : OpenClaim := { program := "ytlodhfpkdlhmgaagreatdoor", sum := "45badc9ae8bbdd92f75791ad64c4334f3f0cff310c2cefe7e91526b5ed40df43", func := "keystone/keystonelaw7.LatticeOrder", spec := "latticeOrder", inPlace := ["internal/bytealg.IndexByteString", "internal/bytealg.IndexString", "internal/abi.NoEscape", "internal/bytealg.MakeNoZero", "internal/reflectlite.ValueOf", "(internal/reflectlite.Value).Type", "(internal/reflectlite.Value).IsNil", "internal/reflectlite.TypeOf", "(internal/reflectlite.Value).Elem", "(internal/reflectlite.Value).Set"], unfollowed := true, recurses := true, named := ["unicode/utf8.first", "unicode/utf8.acceptRanges", "internal/bytealg.MaxLen", "errors.errorType"], apart := false, laid := [("unicode/utf8.acceptRanges", laid_unicode_utf8_acceptRanges), ("errors.errorType", laid_errors_errorType), ("unicode/utf8.first", laid_unicode_utf8_first)], narrowed := true }
def LatticeOrderUptoSaid : Prop := latticeOrderUptoRow.holds Tryz.pinned (OpenSpec.upto latticeOrderSpec)

/-- 'keystonelaw7.LatticeJoins', WHERE WHAT IT READS IS OF BULK AT MOST 1048576: true; the input reads as it did. -/
def latticeJoinsUptoRow : OpenClaim := { program := "ytlodhfpkdlhmgaagreatdoor", sum := "45badc9ae8bbdd92f75791ad64c4334f3f0cff310c2cefe7e91526b5ed40df43", func := "keystone/keystonelaw7.LatticeJoins", spec := "latticeJoins", inPlace := ["internal/bytealg.IndexByteString", "internal/bytealg.IndexString", "internal/abi.NoEscape", "internal/bytealg.MakeNoZero", "internal/reflectlite.ValueOf", "(internal/reflectlite.Value).Type", "(internal/reflectlite.Value).IsNil", "internal/reflectlite.TypeOf", "(internal/reflectlite.Value).Elem", "(internal/reflectlite.Value).Set"], unfollowed := true, recurses := true, named := ["unicode/utf8.first", "unicode/utf8.acceptRanges", "internal/bytealg.MaxLen", "errors.errorType"], apart := false, laid := [("unicode/utf8.acceptRanges", laid_unicode_utf8_acceptRanges), ("errors.errorType", laid_errors_errorType), ("unicode/utf8.first", laid_unicode_utf8_first)], narrowed := true }
def LatticeJoinsUptoSaid : Prop := latticeJoinsUptoRow.holds Tryz.pinned (OpenSpec.upto latticeJoinsSpec)

/-- 'keystonelaw7.LatticeFits', WHERE WHAT IT READS IS OF BULK AT MOST 1048576: true; the input reads as it did. -/
def latticeFitsUptoRow : OpenClaim := { program := "ytlodhfpkdlhmgaagreatdoor", sum := "45badc9ae8bbdd92f75791ad64c4334f3f0cff310c2cefe7e91526b5ed40df43", func := "keystone/keystonelaw7.LatticeFits", spec := "latticeFits", inPlace := ["internal/bytealg.IndexByteString", "internal/bytealg.IndexString", "internal/abi.NoEscape", "internal/bytealg.MakeNoZero", "internal/reflectlite.ValueOf", "(internal/reflectlite.Value).Type", "(internal/reflectlite.Value).IsNil", "internal/reflectlite.TypeOf", "(internal/reflectlite.Value).Elem", "(internal/reflectlite.Value).Set"], unfollowed := true, recurses := true, named := ["unicode/utf8.first", "unicode/utf8.acceptRanges", "internal/bytealg.MaxLen", "errors.errorType"], apart := false, laid := [("unicode/utf8.acceptRanges", laid_unicode_utf8_acceptRanges), ("errors.errorType", laid_errors_errorType), ("unicode/utf8.first", laid_unicode_utf8_first)], narrowed := true }
def LatticeFitsUptoSaid : Prop := latticeFitsUptoRow.holds Tryz.pinned (OpenSpec.upto latticeFitsSpec)

end Rows
end Go.Proofs.YtlodhfpkdlhmgaaGreatDoor
