/-
  NARROWER THAN 'FOR EVERY INPUT', by the rows' own cells (each row's printed sentence says how): OopsLayers: laid · OopsOutermost: laid · OopsChains: laid · OopsKnown: laid.
  DERIVED. THE GIVEN ROWS OF THIS SEAT. 4 by the template 'for every input the law returns true; each argument reads behind the call as it read before'; 0 by the template 'total and deterministic' (their statements: YtihjokkmkdhhpaaDoorTotals.lean).
  GIVEN WITH THE SEED: the statements are not yours to turn. If you find one false, say at which input.
  Laid BY PROGRAM, IN A SANDBOX (cutbox-rows.mjs): the forced cells as the released guide's own fill.sh prints them over the translation a9e4fe186a6917a4… (all of the seat's roots in one cut). By AI agents, Wed Nov 11 2026. No macro, syntax, notation, axiom, sorry.
-/
import Derived.Test.YtihjokkmkdhhpaaDoorChecked
import GoSem.Claim
import GoSem.ClaimJoined
import GoSem.ClaimMapViews
import Derived.JoinedTies
import Derived.KernelRfl
namespace Go.Proofs.YtihjokkmkdhhpaaDoor
/- THE CELL 'sum', in the pinned program and in every row, IS THE sha256 OF THE DUMP (.gsa) THAT YtihjokkmkdhhpaaDoorProg.lean LOADS. Nothing in Lean hashes anything: it is a label: what it is worth is what the hold of that sum in a sandbox is worth. -/
noncomputable def Tryd.pinned : Pinned := { name := "ytihjokkmkdhhpaadoor", sum := "a9e4fe186a6917a4fc04f84a8d00639b903a390c48f46b621eac9aee4f5edf41", checked := Tryd.checked }
namespace Rows
def none {H : Type} : Left H := { results := [], args := [] }

/- WHAT THE LISTED PACKAGE-LEVEL VARIABLES READ AS WHEN THE CALL BEGINS. Each datum BY PROGRAM (the guide's laid-datum.mjs) off the statement by which the dump's own 'gosem.cut.vars' lays the variable. In a bare row this is a premise. The card (YtihjokkmkdhhpaaDoorCards.lean) ties it to the program's text. -/
def laid_errors_errorType {H : Type} : DataW H := .iface "internal/reflectlite.rtype" (.agg [.ptr (.lit (.string [101, 114, 114, 111, 114]))])

/-- 'taprootlaw3.OopsLayers': WHATEVER THE INPUT: true; the input reads as it did. -/
def oopsLayersSpec : ChangeSpec := { name := "oopsLayers", fn := fun _ => fun
  | [d1, d2, d3, d4] => { results := [.lit (.bool true)], args := [d1, d2, d3, d4] }
  | _ => none }
def oopsLayersRow : OpenClaim := { program := "ytihjokkmkdhhpaadoor", sum := "a9e4fe186a6917a4fc04f84a8d00639b903a390c48f46b621eac9aee4f5edf41", func := "taproot/taprootlaw3.OopsLayers", spec := "oopsLayers", inPlace := ["internal/reflectlite.ValueOf", "(internal/reflectlite.Value).Type", "(internal/reflectlite.Value).IsNil", "internal/reflectlite.TypeOf", "(internal/reflectlite.Value).Elem", "(internal/reflectlite.Value).Set"], unfollowed := true, recurses := true, named := ["errors.errorType"], apart := false, laid := [("errors.errorType", laid_errors_errorType)] }
def OopsLayersSaid : Prop := oopsLayersRow.holds Tryd.pinned (OpenSpec.ofChange oopsLayersSpec)

/-- ITS FALSE NEIGHBOUR: 'it returns false'. Refute it at one input. -/
def oopsLayersWrong : ChangeSpec := { name := "oopsLayers", fn := fun _ => fun
  | [d1, d2, d3, d4] => { results := [.lit (.bool false)], args := [d1, d2, d3, d4] }
  | _ => none }
def OopsLayersWrongFalsely : Prop := oopsLayersRow.holds Tryd.pinned (OpenSpec.ofChange oopsLayersWrong)

/-- 'taprootlaw3.OopsOutermost': WHATEVER THE INPUT: true; the input reads as it did. -/
def oopsOutermostSpec : ChangeSpec := { name := "oopsOutermost", fn := fun _ => fun
  | [d1, d2, d3, d4, d5, d6] => { results := [.lit (.bool true)], args := [d1, d2, d3, d4, d5, d6] }
  | _ => none }
def oopsOutermostRow : OpenClaim := { program := "ytihjokkmkdhhpaadoor", sum := "a9e4fe186a6917a4fc04f84a8d00639b903a390c48f46b621eac9aee4f5edf41", func := "taproot/taprootlaw3.OopsOutermost", spec := "oopsOutermost", inPlace := ["internal/reflectlite.ValueOf", "(internal/reflectlite.Value).Type", "(internal/reflectlite.Value).IsNil", "internal/reflectlite.TypeOf", "(internal/reflectlite.Value).Elem", "(internal/reflectlite.Value).Set"], unfollowed := true, recurses := true, named := ["errors.errorType"], apart := false, laid := [("errors.errorType", laid_errors_errorType)] }
def OopsOutermostSaid : Prop := oopsOutermostRow.holds Tryd.pinned (OpenSpec.ofChange oopsOutermostSpec)

/-- ITS FALSE NEIGHBOUR: 'it returns false'. Refute it at one input. -/
def oopsOutermostWrong : ChangeSpec := { name := "oopsOutermost", fn := fun _ => fun
  | [d1, d2, d3, d4, d5, d6] => { results := [.lit (.bool false)], args := [d1, d2, d3, d4, d5, d6] }
  | _ => none }
def OopsOutermostWrongFalsely : Prop := oopsOutermostRow.holds Tryd.pinned (OpenSpec.ofChange oopsOutermostWrong)

/-- 'taprootlaw3.OopsChains': WHATEVER THE INPUT: true; the input reads as it did. -/
def oopsChainsSpec : ChangeSpec := { name := "oopsChains", fn := fun _ => fun
  | [d1, d2, d3] => { results := [.lit (.bool true)], args := [d1, d2, d3] }
  | _ => none }
def oopsChainsRow : OpenClaim := { program := "ytihjokkmkdhhpaadoor", sum := "a9e4fe186a6917a4fc04f84a8d00639b903a390c48f46b621eac9aee4f5edf41", func := "taproot/taprootlaw3.OopsChains", spec := "oopsChains", inPlace := ["internal/reflectlite.ValueOf", "(internal/reflectlite.Value).Type", "(internal/reflectlite.Value).IsNil", "internal/reflectlite.TypeOf", "(internal/reflectlite.Value).Elem", "(internal/reflectlite.Value).Set"], unfollowed := true, recurses := true, named := ["errors.errorType"], apart := false, laid := [("errors.errorType", laid_errors_errorType)] }
def OopsChainsSaid : Prop := oopsChainsRow.holds Tryd.pinned (OpenSpec.ofChange oopsChainsSpec)

/-- ITS FALSE NEIGHBOUR: 'it returns false'. Refute it at one input. -/
def oopsChainsWrong : ChangeSpec := { name := "oopsChains", fn := fun _ => fun
  | [d1, d2, d3] => { results := [.lit (.bool false)], args := [d1, d2, d3] }
  | _ => none }
def OopsChainsWrongFalsely : Prop := oopsChainsRow.holds Tryd.pinned (OpenSpec.ofChange oopsChainsWrong)

/-- 'taprootlaw3.OopsKnown': WHATEVER THE INPUT: true; the input reads as it did. -/
def oopsKnownSpec : ChangeSpec := { name := "oopsKnown", fn := fun _ => fun
  | [] => { results := [.lit (.bool true)], args := [] }
  | _ => none }
def oopsKnownRow : OpenClaim := { program := "ytihjokkmkdhhpaadoor", sum := "a9e4fe186a6917a4fc04f84a8d00639b903a390c48f46b621eac9aee4f5edf41", func := "taproot/taprootlaw3.OopsKnown", spec := "oopsKnown", inPlace := ["internal/reflectlite.ValueOf", "(internal/reflectlite.Value).Type", "(internal/reflectlite.Value).IsNil", "internal/reflectlite.TypeOf", "(internal/reflectlite.Value).Elem", "(internal/reflectlite.Value).Set"], unfollowed := true, recurses := true, named := ["errors.errorType"], apart := false, laid := [("errors.errorType", laid_errors_errorType)] }
def OopsKnownSaid : Prop := oopsKnownRow.holds Tryd.pinned (OpenSpec.ofChange oopsKnownSpec)

/-- ITS FALSE NEIGHBOUR: 'it returns false'. Refute it at one input. -/
def oopsKnownWrong : ChangeSpec := { name := "oopsKnown", fn := fun _ => fun
  | [] => { results := [.lit (.bool false)], args := [] }
  | _ => none }
def OopsKnownWrongFalsely : Prop := oopsKnownRow.holds Tryd.pinned (OpenSpec.ofChange oopsKnownWrong)

/- THE SECOND FORM. 'bulk': how many values and letters a reading holds, each counted each time it is reached (what is shared counts as often as it is met; a slice's spare places count too). A statement '..UptoSaid' is the law's where the arguments, and the package variables that the reading takes, are together of bulk at most 1048576: NARROWER than '..Said'. Prove '..Said' where nothing that the law and all that it calls make is longer than what came in: it says more and counts as full. Else prove '..UptoSaid'. A law counts once. -/
mutual
def uptoBulk {H : Type} : DataW H → Nat
  | .lit (.string bytes) => bytes.length + 1
  | .lit _ => 1
  | .nil => 1
  | .ptr d => uptoBulk d + 1
  | .slice elems spare => uptoBulkAll elems + uptoBulkAll spare + 1
  | .agg parts => uptoBulkAll parts + 1
  | .iface _ d => uptoBulk d + 1
  | .map entries => uptoBulkEntries entries + 1
  | .held _ => 1
def uptoBulkAll {H : Type} : List (DataW H) → Nat
  | [] => 0
  | d :: r => uptoBulk d + uptoBulkAll r
def uptoBulkEntries {H : Type} : List (Lit × DataW H) → Nat
  | [] => 0
  | x :: r => uptoBulkEntry x + uptoBulkEntries r
def uptoBulkEntry {H : Type} : Lit × DataW H → Nat
  | (.string bytes, d) => bytes.length + uptoBulk d + 1
  | (_, d) => uptoBulk d + 1
 end
def uptoSmall : (H : Type) → List (DataW H) → Bool := fun _ ds => decide (uptoBulkAll ds ≤ 1048576)
def OpenSpec.upto (s : _root_.Go.ChangeSpec) : _root_.Go.OpenSpec := { _root_.Go.OpenSpec.ofChange s with cond := some uptoSmall }

/-- 'taprootlaw3.OopsLayers', WHERE WHAT IT READS IS OF BULK AT MOST 1048576: true; the input reads as it did. -/
def oopsLayersUptoRow : OpenClaim := { program := "ytihjokkmkdhhpaadoor", sum := "a9e4fe186a6917a4fc04f84a8d00639b903a390c48f46b621eac9aee4f5edf41", func := "taproot/taprootlaw3.OopsLayers", spec := "oopsLayers", inPlace := ["internal/reflectlite.ValueOf", "(internal/reflectlite.Value).Type", "(internal/reflectlite.Value).IsNil", "internal/reflectlite.TypeOf", "(internal/reflectlite.Value).Elem", "(internal/reflectlite.Value).Set"], unfollowed := true, recurses := true, named := ["errors.errorType"], apart := false, laid := [("errors.errorType", laid_errors_errorType)], narrowed := true }
def OopsLayersUptoSaid : Prop := oopsLayersUptoRow.holds Tryd.pinned (OpenSpec.upto oopsLayersSpec)

/-- 'taprootlaw3.OopsOutermost', WHERE WHAT IT READS IS OF BULK AT MOST 1048576: true; the input reads as it did. -/
def oopsOutermostUptoRow : OpenClaim := { program := "ytihjokkmkdhhpaadoor", sum := "a9e4fe186a6917a4fc04f84a8d00639b903a390c48f46b621eac9aee4f5edf41", func := "taproot/taprootlaw3.OopsOutermost", spec := "oopsOutermost", inPlace := ["internal/reflectlite.ValueOf", "(internal/reflectlite.Value).Type", "(internal/reflectlite.Value).IsNil", "internal/reflectlite.TypeOf", "(internal/reflectlite.Value).Elem", "(internal/reflectlite.Value).Set"], unfollowed := true, recurses := true, named := ["errors.errorType"], apart := false, laid := [("errors.errorType", laid_errors_errorType)], narrowed := true }
def OopsOutermostUptoSaid : Prop := oopsOutermostUptoRow.holds Tryd.pinned (OpenSpec.upto oopsOutermostSpec)

/-- 'taprootlaw3.OopsChains', WHERE WHAT IT READS IS OF BULK AT MOST 1048576: true; the input reads as it did. -/
def oopsChainsUptoRow : OpenClaim := { program := "ytihjokkmkdhhpaadoor", sum := "a9e4fe186a6917a4fc04f84a8d00639b903a390c48f46b621eac9aee4f5edf41", func := "taproot/taprootlaw3.OopsChains", spec := "oopsChains", inPlace := ["internal/reflectlite.ValueOf", "(internal/reflectlite.Value).Type", "(internal/reflectlite.Value).IsNil", "internal/reflectlite.TypeOf", "(internal/reflectlite.Value).Elem", "(internal/reflectlite.Value).Set"], unfollowed := true, recurses := true, named := ["errors.errorType"], apart := false, laid := [("errors.errorType", laid_errors_errorType)], narrowed := true }
def OopsChainsUptoSaid : Prop := oopsChainsUptoRow.holds Tryd.pinned (OpenSpec.upto oopsChainsSpec)

/-- 'taprootlaw3.OopsKnown', WHERE WHAT IT READS IS OF BULK AT MOST 1048576: true; the input reads as it did. -/
def oopsKnownUptoRow : OpenClaim := { program := "ytihjokkmkdhhpaadoor", sum := "a9e4fe186a6917a4fc04f84a8d00639b903a390c48f46b621eac9aee4f5edf41", func := "taproot/taprootlaw3.OopsKnown", spec := "oopsKnown", inPlace := ["internal/reflectlite.ValueOf", "(internal/reflectlite.Value).Type", "(internal/reflectlite.Value).IsNil", "internal/reflectlite.TypeOf", "(internal/reflectlite.Value).Elem", "(internal/reflectlite.Value).Set"], unfollowed := true, recurses := true, named := ["errors.errorType"], apart := false, laid := [("errors.errorType", laid_errors_errorType)], narrowed := true }
def OopsKnownUptoSaid : Prop := oopsKnownUptoRow.holds Tryd.pinned (OpenSpec.upto oopsKnownSpec)

end Rows
end Go.Proofs.YtihjokkmkdhhpaaDoor
