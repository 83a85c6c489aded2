/-
  No cell of these rows narrows 'for every input' (looked for: loops, veiled, ifaces, maps, wideKeys, modest, calm, conditions, laid).
  DERIVED. THE GIVEN ROWS OF THIS SEAT. 12 by the template 'for every input the law returns true; each argument reads behind the call as it read before'; 0 by the template 'total and deterministic' (their statements: YtlbhedhbakhhlaaTotals.lean).
  GIVEN WITH THE SEED: the statements are not yours to turn. If you find one false, say at which input.
  Laid BY PROGRAM, IN A SANDBOX (cutbox-rows.mjs): the forced cells as the released guide's own fill.sh prints them over the translation 3d46990081e24148… (all of the seat's roots in one cut). By AI agents, Wed Nov 11 2026. No macro, syntax, notation, axiom, sorry.
-/
import Derived.Test.YtlbhedhbakhhlaaChecked
import GoSem.Claim
import GoSem.ClaimJoined
import GoSem.ClaimMapViews
import Derived.JoinedTies
import Derived.KernelRfl
namespace Go.Proofs.Ytlbhedhbakhhlaa
/- THE CELL 'sum', in the pinned program and in every row, IS THE sha256 OF THE DUMP (.gsa) THAT YtlbhedhbakhhlaaProg.lean LOADS. Nothing in Lean hashes anything: it is a label: what it is worth is what the hold of that sum in a sandbox is worth. -/
noncomputable def Try.pinned : Pinned := { name := "ytlbhedhbakhhlaa", sum := "3d46990081e241486816581c20f8b7f7598817a13072ed862bae17167c76a1a4", checked := Try.checked }
namespace Rows
def none {H : Type} : Left H := { results := [], args := [] }

/-- 'diaphonelaw05.EchoRows': WHATEVER THE INPUT: true; the input reads as it did. -/
def echoRowsSpec : ChangeSpec := { name := "echoRows", fn := fun _ => fun
  | [d] => { results := [.lit (.bool true)], args := [d] }
  | _ => none }
def echoRowsRow : OpenClaim := { program := "ytlbhedhbakhhlaa", sum := "3d46990081e241486816581c20f8b7f7598817a13072ed862bae17167c76a1a4", func := "diaphone/diaphonelaw05.EchoRows", spec := "echoRows", inPlace := ["slices.overlaps[int]"], unfollowed := true, recurses := true, apart := false }
def EchoRowsSaid : Prop := echoRowsRow.holds Try.pinned (OpenSpec.ofChange echoRowsSpec)

/-- ITS FALSE NEIGHBOUR: 'it returns false'. Refute it at one input. -/
def echoRowsWrong : ChangeSpec := { name := "echoRows", fn := fun _ => fun
  | [d] => { results := [.lit (.bool false)], args := [d] }
  | _ => none }
def EchoRowsWrongFalsely : Prop := echoRowsRow.holds Try.pinned (OpenSpec.ofChange echoRowsWrong)

/-- 'diaphonelaw05.EchoChecks': WHATEVER THE INPUT: true; the input reads as it did. -/
def echoChecksSpec : ChangeSpec := { name := "echoChecks", fn := fun _ => fun
  | [d1, d2] => { results := [.lit (.bool true)], args := [d1, d2] }
  | _ => none }
def echoChecksRow : OpenClaim := { program := "ytlbhedhbakhhlaa", sum := "3d46990081e241486816581c20f8b7f7598817a13072ed862bae17167c76a1a4", func := "diaphone/diaphonelaw05.EchoChecks", spec := "echoChecks", inPlace := ["slices.overlaps[int]"], unfollowed := true, recurses := true, apart := false }
def EchoChecksSaid : Prop := echoChecksRow.holds Try.pinned (OpenSpec.ofChange echoChecksSpec)

/-- ITS FALSE NEIGHBOUR: 'it returns false'. Refute it at one input. -/
def echoChecksWrong : ChangeSpec := { name := "echoChecks", fn := fun _ => fun
  | [d1, d2] => { results := [.lit (.bool false)], args := [d1, d2] }
  | _ => none }
def EchoChecksWrongFalsely : Prop := echoChecksRow.holds Try.pinned (OpenSpec.ofChange echoChecksWrong)

/-- 'diaphonelaw05.EchoAmong': WHATEVER THE INPUT: true; the input reads as it did. -/
def echoAmongSpec : ChangeSpec := { name := "echoAmong", fn := fun _ => fun
  | [d] => { results := [.lit (.bool true)], args := [d] }
  | _ => none }
def echoAmongRow : OpenClaim := { program := "ytlbhedhbakhhlaa", sum := "3d46990081e241486816581c20f8b7f7598817a13072ed862bae17167c76a1a4", func := "diaphone/diaphonelaw05.EchoAmong", spec := "echoAmong", inPlace := ["slices.overlaps[int]"], unfollowed := true, recurses := true, apart := false }
def EchoAmongSaid : Prop := echoAmongRow.holds Try.pinned (OpenSpec.ofChange echoAmongSpec)

/-- ITS FALSE NEIGHBOUR: 'it returns false'. Refute it at one input. -/
def echoAmongWrong : ChangeSpec := { name := "echoAmong", fn := fun _ => fun
  | [d] => { results := [.lit (.bool false)], args := [d] }
  | _ => none }
def EchoAmongWrongFalsely : Prop := echoAmongRow.holds Try.pinned (OpenSpec.ofChange echoAmongWrong)

/-- 'diaphonelaw05.EchoShifts': WHATEVER THE INPUT: true; the input reads as it did. -/
def echoShiftsSpec : ChangeSpec := { name := "echoShifts", fn := fun _ => fun
  | [d1, d2] => { results := [.lit (.bool true)], args := [d1, d2] }
  | _ => none }
def echoShiftsRow : OpenClaim := { program := "ytlbhedhbakhhlaa", sum := "3d46990081e241486816581c20f8b7f7598817a13072ed862bae17167c76a1a4", func := "diaphone/diaphonelaw05.EchoShifts", spec := "echoShifts", inPlace := ["slices.overlaps[int]"], unfollowed := true, recurses := true, apart := false }
def EchoShiftsSaid : Prop := echoShiftsRow.holds Try.pinned (OpenSpec.ofChange echoShiftsSpec)

/-- ITS FALSE NEIGHBOUR: 'it returns false'. Refute it at one input. -/
def echoShiftsWrong : ChangeSpec := { name := "echoShifts", fn := fun _ => fun
  | [d1, d2] => { results := [.lit (.bool false)], args := [d1, d2] }
  | _ => none }
def EchoShiftsWrongFalsely : Prop := echoShiftsRow.holds Try.pinned (OpenSpec.ofChange echoShiftsWrong)

/-- 'diaphonelaw05.EchoForms': WHATEVER THE INPUT: true; the input reads as it did. -/
def echoFormsSpec : ChangeSpec := { name := "echoForms", fn := fun _ => fun
  | [d1, d2] => { results := [.lit (.bool true)], args := [d1, d2] }
  | _ => none }
def echoFormsRow : OpenClaim := { program := "ytlbhedhbakhhlaa", sum := "3d46990081e241486816581c20f8b7f7598817a13072ed862bae17167c76a1a4", func := "diaphone/diaphonelaw05.EchoForms", spec := "echoForms", inPlace := ["slices.overlaps[int]"], unfollowed := true, recurses := true, apart := false }
def EchoFormsSaid : Prop := echoFormsRow.holds Try.pinned (OpenSpec.ofChange echoFormsSpec)

/-- ITS FALSE NEIGHBOUR: 'it returns false'. Refute it at one input. -/
def echoFormsWrong : ChangeSpec := { name := "echoForms", fn := fun _ => fun
  | [d1, d2] => { results := [.lit (.bool false)], args := [d1, d2] }
  | _ => none }
def EchoFormsWrongFalsely : Prop := echoFormsRow.holds Try.pinned (OpenSpec.ofChange echoFormsWrong)

/-- 'diaphonelaw05.EchoMirrors': WHATEVER THE INPUT: true; the input reads as it did. -/
def echoMirrorsSpec : ChangeSpec := { name := "echoMirrors", fn := fun _ => fun
  | [d] => { results := [.lit (.bool true)], args := [d] }
  | _ => none }
def echoMirrorsRow : OpenClaim := { program := "ytlbhedhbakhhlaa", sum := "3d46990081e241486816581c20f8b7f7598817a13072ed862bae17167c76a1a4", func := "diaphone/diaphonelaw05.EchoMirrors", spec := "echoMirrors", inPlace := ["slices.overlaps[int]"], unfollowed := true, recurses := true, apart := false }
def EchoMirrorsSaid : Prop := echoMirrorsRow.holds Try.pinned (OpenSpec.ofChange echoMirrorsSpec)

/-- ITS FALSE NEIGHBOUR: 'it returns false'. Refute it at one input. -/
def echoMirrorsWrong : ChangeSpec := { name := "echoMirrors", fn := fun _ => fun
  | [d] => { results := [.lit (.bool false)], args := [d] }
  | _ => none }
def EchoMirrorsWrongFalsely : Prop := echoMirrorsRow.holds Try.pinned (OpenSpec.ofChange echoMirrorsWrong)

/-- 'diaphonelaw05.EchoMissing': WHATEVER THE INPUT: true; the input reads as it did. -/
def echoMissingSpec : ChangeSpec := { name := "echoMissing", fn := fun _ => fun
  | [d] => { results := [.lit (.bool true)], args := [d] }
  | _ => none }
def echoMissingRow : OpenClaim := { program := "ytlbhedhbakhhlaa", sum := "3d46990081e241486816581c20f8b7f7598817a13072ed862bae17167c76a1a4", func := "diaphone/diaphonelaw05.EchoMissing", spec := "echoMissing", inPlace := ["slices.overlaps[int]"], unfollowed := true, recurses := true, apart := false }
def EchoMissingSaid : Prop := echoMissingRow.holds Try.pinned (OpenSpec.ofChange echoMissingSpec)

/-- ITS FALSE NEIGHBOUR: 'it returns false'. Refute it at one input. -/
def echoMissingWrong : ChangeSpec := { name := "echoMissing", fn := fun _ => fun
  | [d] => { results := [.lit (.bool false)], args := [d] }
  | _ => none }
def EchoMissingWrongFalsely : Prop := echoMissingRow.holds Try.pinned (OpenSpec.ofChange echoMissingWrong)

/-- 'diaphonelaw05.EchoHears': WHATEVER THE INPUT: true; the input reads as it did. -/
def echoHearsSpec : ChangeSpec := { name := "echoHears", fn := fun _ => fun
  | [d1, d2] => { results := [.lit (.bool true)], args := [d1, d2] }
  | _ => none }
def echoHearsRow : OpenClaim := { program := "ytlbhedhbakhhlaa", sum := "3d46990081e241486816581c20f8b7f7598817a13072ed862bae17167c76a1a4", func := "diaphone/diaphonelaw05.EchoHears", spec := "echoHears", inPlace := ["slices.overlaps[int]"], unfollowed := true, recurses := true, apart := false }
def EchoHearsSaid : Prop := echoHearsRow.holds Try.pinned (OpenSpec.ofChange echoHearsSpec)

/-- ITS FALSE NEIGHBOUR: 'it returns false'. Refute it at one input. -/
def echoHearsWrong : ChangeSpec := { name := "echoHears", fn := fun _ => fun
  | [d1, d2] => { results := [.lit (.bool false)], args := [d1, d2] }
  | _ => none }
def EchoHearsWrongFalsely : Prop := echoHearsRow.holds Try.pinned (OpenSpec.ofChange echoHearsWrong)

/-- 'diaphonelaw05.EchoScales': WHATEVER THE INPUT: true; the input reads as it did. -/
def echoScalesSpec : ChangeSpec := { name := "echoScales", fn := fun _ => fun
  | [d1, d2] => { results := [.lit (.bool true)], args := [d1, d2] }
  | _ => none }
def echoScalesRow : OpenClaim := { program := "ytlbhedhbakhhlaa", sum := "3d46990081e241486816581c20f8b7f7598817a13072ed862bae17167c76a1a4", func := "diaphone/diaphonelaw05.EchoScales", spec := "echoScales", inPlace := ["slices.overlaps[int]"], unfollowed := true, recurses := true, apart := false }
def EchoScalesSaid : Prop := echoScalesRow.holds Try.pinned (OpenSpec.ofChange echoScalesSpec)

/-- ITS FALSE NEIGHBOUR: 'it returns false'. Refute it at one input. -/
def echoScalesWrong : ChangeSpec := { name := "echoScales", fn := fun _ => fun
  | [d1, d2] => { results := [.lit (.bool false)], args := [d1, d2] }
  | _ => none }
def EchoScalesWrongFalsely : Prop := echoScalesRow.holds Try.pinned (OpenSpec.ofChange echoScalesWrong)

/-- 'diaphonelaw05.EchoWith': WHATEVER THE INPUT: true; the input reads as it did. -/
def echoWithSpec : ChangeSpec := { name := "echoWith", fn := fun _ => fun
  | [d1, d2] => { results := [.lit (.bool true)], args := [d1, d2] }
  | _ => none }
def echoWithRow : OpenClaim := { program := "ytlbhedhbakhhlaa", sum := "3d46990081e241486816581c20f8b7f7598817a13072ed862bae17167c76a1a4", func := "diaphone/diaphonelaw05.EchoWith", spec := "echoWith", inPlace := ["slices.overlaps[int]"], unfollowed := true, recurses := true, apart := false }
def EchoWithSaid : Prop := echoWithRow.holds Try.pinned (OpenSpec.ofChange echoWithSpec)

/-- ITS FALSE NEIGHBOUR: 'it returns false'. Refute it at one input. -/
def echoWithWrong : ChangeSpec := { name := "echoWith", fn := fun _ => fun
  | [d1, d2] => { results := [.lit (.bool false)], args := [d1, d2] }
  | _ => none }
def EchoWithWrongFalsely : Prop := echoWithRow.holds Try.pinned (OpenSpec.ofChange echoWithWrong)

/-- 'diaphonelaw05.EchoFinds': WHATEVER THE INPUT: true; the input reads as it did. -/
def echoFindsSpec : ChangeSpec := { name := "echoFinds", fn := fun _ => fun
  | [d] => { results := [.lit (.bool true)], args := [d] }
  | _ => none }
def echoFindsRow : OpenClaim := { program := "ytlbhedhbakhhlaa", sum := "3d46990081e241486816581c20f8b7f7598817a13072ed862bae17167c76a1a4", func := "diaphone/diaphonelaw05.EchoFinds", spec := "echoFinds", inPlace := ["slices.overlaps[int]"], unfollowed := true, recurses := true, apart := false }
def EchoFindsSaid : Prop := echoFindsRow.holds Try.pinned (OpenSpec.ofChange echoFindsSpec)

/-- ITS FALSE NEIGHBOUR: 'it returns false'. Refute it at one input. -/
def echoFindsWrong : ChangeSpec := { name := "echoFinds", fn := fun _ => fun
  | [d] => { results := [.lit (.bool false)], args := [d] }
  | _ => none }
def EchoFindsWrongFalsely : Prop := echoFindsRow.holds Try.pinned (OpenSpec.ofChange echoFindsWrong)

/-- 'diaphonetop.TopEchoes': WHATEVER THE INPUT: true; the input reads as it did. -/
def topEchoesSpec : ChangeSpec := { name := "topEchoes", fn := fun _ => fun
  | [d1, d2, d3] => { results := [.lit (.bool true)], args := [d1, d2, d3] }
  | _ => none }
def topEchoesRow : OpenClaim := { program := "ytlbhedhbakhhlaa", sum := "3d46990081e241486816581c20f8b7f7598817a13072ed862bae17167c76a1a4", func := "diaphone/diaphonetop.TopEchoes", spec := "topEchoes", inPlace := ["slices.overlaps[int]"], unfollowed := true, recurses := true, apart := false }
def TopEchoesSaid : Prop := topEchoesRow.holds Try.pinned (OpenSpec.ofChange topEchoesSpec)

/-- ITS FALSE NEIGHBOUR: 'it returns false'. Refute it at one input. -/
def topEchoesWrong : ChangeSpec := { name := "topEchoes", fn := fun _ => fun
  | [d1, d2, d3] => { results := [.lit (.bool false)], args := [d1, d2, d3] }
  | _ => none }
def TopEchoesWrongFalsely : Prop := topEchoesRow.holds Try.pinned (OpenSpec.ofChange topEchoesWrong)

/- THE SECOND FORM. 'bulk': how many values and letters a reading holds, each counted each time it is reached (what is shared counts as often as it is met; a slice's spare places count too). A statement '..UptoSaid' is the law's where the arguments, and the package variables that the reading takes, are together of bulk at most 1048576: NARROWER than '..Said'. Prove '..Said' where nothing that the law and all that it calls make is longer than what came in: it says more and counts as full. Else prove '..UptoSaid'. A law counts once. -/
mutual
def uptoBulk {H : Type} : DataW H → Nat
  | .lit (.string bytes) => bytes.length + 1
  | .lit _ => 1
  | .nil => 1
  | .ptr d => uptoBulk d + 1
  | .slice elems spare => uptoBulkAll elems + uptoBulkAll spare + 1
  | .agg parts => uptoBulkAll parts + 1
  | .iface _ d => uptoBulk d + 1
  | .map entries => uptoBulkEntries entries + 1
  | .held _ => 1
def uptoBulkAll {H : Type} : List (DataW H) → Nat
  | [] => 0
  | d :: r => uptoBulk d + uptoBulkAll r
def uptoBulkEntries {H : Type} : List (Lit × DataW H) → Nat
  | [] => 0
  | x :: r => uptoBulkEntry x + uptoBulkEntries r
def uptoBulkEntry {H : Type} : Lit × DataW H → Nat
  | (.string bytes, d) => bytes.length + uptoBulk d + 1
  | (_, d) => uptoBulk d + 1
 end
def uptoSmall : (H : Type) → List (DataW H) → Bool := fun _ ds => decide (uptoBulkAll ds ≤ 1048576)
def OpenSpec.upto (s : _root_.Go.ChangeSpec) : _root_.Go.OpenSpec := { _root_.Go.OpenSpec.ofChange s with cond := some uptoSmall }

/-- 'diaphonelaw05.EchoRows', WHERE WHAT IT READS IS OF BULK AT MOST 1048576: true; the input reads as it did. -/
def echoRowsUptoRow : OpenClaim := { program := "ytlbhedhbakhhlaa", sum := "3d46990081e241486816581c20f8b7f7598817a13072ed862bae17167c76a1a4", func := "diaphone/diaphonelaw05.EchoRows", spec := "echoRows", inPlace := ["slices.overlaps[int]"], unfollowed := true, recurses := true, apart := false, narrowed := true }
def EchoRowsUptoSaid : Prop := echoRowsUptoRow.holds Try.pinned (OpenSpec.upto echoRowsSpec)

/-- 'diaphonelaw05.EchoChecks', WHERE WHAT IT READS IS OF BULK AT MOST 1048576: true; the input reads as it did. -/
def echoChecksUptoRow : OpenClaim := { program := "ytlbhedhbakhhlaa", sum := "3d46990081e241486816581c20f8b7f7598817a13072ed862bae17167c76a1a4", func := "diaphone/diaphonelaw05.EchoChecks", spec := "echoChecks", inPlace := ["slices.overlaps[int]"], unfollowed := true, recurses := true, apart := false, narrowed := true }
def EchoChecksUptoSaid : Prop := echoChecksUptoRow.holds Try.pinned (OpenSpec.upto echoChecksSpec)

/-- 'diaphonelaw05.EchoAmong', WHERE WHAT IT READS IS OF BULK AT MOST 1048576: true; the input reads as it did. -/
def echoAmongUptoRow : OpenClaim := { program := "ytlbhedhbakhhlaa", sum := "3d46990081e241486816581c20f8b7f7598817a13072ed862bae17167c76a1a4", func := "diaphone/diaphonelaw05.EchoAmong", spec := "echoAmong", inPlace := ["slices.overlaps[int]"], unfollowed := true, recurses := true, apart := false, narrowed := true }
def EchoAmongUptoSaid : Prop := echoAmongUptoRow.holds Try.pinned (OpenSpec.upto echoAmongSpec)

/-- 'diaphonelaw05.EchoShifts', WHERE WHAT IT READS IS OF BULK AT MOST 1048576: true; the input reads as it did. -/
def echoShiftsUptoRow : OpenClaim := { program := "ytlbhedhbakhhlaa", sum := "3d46990081e241486816581c20f8b7f7598817a13072ed862bae17167c76a1a4", func := "diaphone/diaphonelaw05.EchoShifts", spec := "echoShifts", inPlace := ["slices.overlaps[int]"], unfollowed := true, recurses := true, apart := false, narrowed := true }
def EchoShiftsUptoSaid : Prop := echoShiftsUptoRow.holds Try.pinned (OpenSpec.upto echoShiftsSpec)

/-- 'diaphonelaw05.EchoForms', WHERE WHAT IT READS IS OF BULK AT MOST 1048576: true; the input reads as it did. -/
def echoFormsUptoRow : OpenClaim := { program := "ytlbhedhbakhhlaa", sum := "3d46990081e241486816581c20f8b7f7598817a13072ed862bae17167c76a1a4", func := "diaphone/diaphonelaw05.EchoForms", spec := "echoForms", inPlace := ["slices.overlaps[int]"], unfollowed := true, recurses := true, apart := false, narrowed := true }
def EchoFormsUptoSaid : Prop := echoFormsUptoRow.holds Try.pinned (OpenSpec.upto echoFormsSpec)

/-- 'diaphonelaw05.EchoMirrors', WHERE WHAT IT READS IS OF BULK AT MOST 1048576: true; the input reads as it did. -/
def echoMirrorsUptoRow : OpenClaim := { program := "ytlbhedhbakhhlaa", sum := "3d46990081e241486816581c20f8b7f7598817a13072ed862bae17167c76a1a4", func := "diaphone/diaphonelaw05.EchoMirrors", spec := "echoMirrors", inPlace := ["slices.overlaps[int]"], unfollowed := true, recurses := true, apart := false, narrowed := true }
def EchoMirrorsUptoSaid : Prop := echoMirrorsUptoRow.holds Try.pinned (OpenSpec.upto echoMirrorsSpec)

/-- 'diaphonelaw05.EchoMissing', WHERE WHAT IT READS IS OF BULK AT MOST 1048576: true; the input reads as it did. -/
def echoMissingUptoRow : OpenClaim := { program := "ytlbhedhbakhhlaa", sum := "3d46990081e241486816581c20f8b7f7598817a13072ed862bae17167c76a1a4", func := "diaphone/diaphonelaw05.EchoMissing", spec := "echoMissing", inPlace := ["slices.overlaps[int]"], unfollowed := true, recurses := true, apart := false, narrowed := true }
def EchoMissingUptoSaid : Prop := echoMissingUptoRow.holds Try.pinned (OpenSpec.upto echoMissingSpec)

/-- 'diaphonelaw05.EchoHears', WHERE WHAT IT READS IS OF BULK AT MOST 1048576: true; the input reads as it did. -/
def echoHearsUptoRow : OpenClaim := { program := "ytlbhedhbakhhlaa", sum := "3d46990081e241486816581c20f8b7f7598817a13072ed862bae17167c76a1a4", func := "diaphone/diaphonelaw05.EchoHears", spec := "echoHears", inPlace := ["slices.overlaps[int]"], unfollowed := true, recurses := true, apart := false, narrowed := true }
def EchoHearsUptoSaid : Prop := echoHearsUptoRow.holds Try.pinned (OpenSpec.upto echoHearsSpec)

/-- 'diaphonelaw05.EchoScales', WHERE WHAT IT READS IS OF BULK AT MOST 1048576: true; the input reads as it did. -/
def echoScalesUptoRow : OpenClaim := { program := "ytlbhedhbakhhlaa", sum := "3d46990081e241486816581c20f8b7f7598817a13072ed862bae17167c76a1a4", func := "diaphone/diaphonelaw05.EchoScales", spec := "echoScales", inPlace := ["slices.overlaps[int]"], unfollowed := true, recurses := true, apart := false, narrowed := true }
def EchoScalesUptoSaid : Prop := echoScalesUptoRow.holds Try.pinned (OpenSpec.upto echoScalesSpec)

/-- 'diaphonelaw05.EchoWith', WHERE WHAT IT READS IS OF BULK AT MOST 1048576: true; the input reads as it did. -/
def echoWithUptoRow : OpenClaim := { program := "ytlbhedhbakhhlaa", sum := "3d46990081e241486816581c20f8b7f7598817a13072ed862bae17167c76a1a4", func := "diaphone/diaphonelaw05.EchoWith", spec := "echoWith", inPlace := ["slices.overlaps[int]"], unfollowed := true, recurses := true, apart := false, narrowed := true }
def EchoWithUptoSaid : Prop := echoWithUptoRow.holds Try.pinned (OpenSpec.upto echoWithSpec)

/-- 'diaphonelaw05.EchoFinds', WHERE WHAT IT READS IS OF BULK AT MOST 1048576: true; the input reads as it did. -/
def echoFindsUptoRow : OpenClaim := { program := "ytlbhedhbakhhlaa", sum := "3d46990081e241486816581c20f8b7f7598817a13072ed862bae17167c76a1a4", func := "diaphone/diaphonelaw05.EchoFinds", spec := "echoFinds", inPlace := ["slices.overlaps[int]"], unfollowed := true, recurses := true, apart := false, narrowed := true }
def EchoFindsUptoSaid : Prop := echoFindsUptoRow.holds Try.pinned (OpenSpec.upto echoFindsSpec)

/-- 'diaphonetop.TopEchoes', WHERE WHAT IT READS IS OF BULK AT MOST 1048576: true; the input reads as it did. -/
def topEchoesUptoRow : OpenClaim := { program := "ytlbhedhbakhhlaa", sum := "3d46990081e241486816581c20f8b7f7598817a13072ed862bae17167c76a1a4", func := "diaphone/diaphonetop.TopEchoes", spec := "topEchoes", inPlace := ["slices.overlaps[int]"], unfollowed := true, recurses := true, apart := false, narrowed := true }
def TopEchoesUptoSaid : Prop := topEchoesUptoRow.holds Try.pinned (OpenSpec.upto topEchoesSpec)

end Rows
end Go.Proofs.Ytlbhedhbakhhlaa
