/-
  No cell of these rows narrows 'for every input' (looked for: loops, veiled, ifaces, maps, wideKeys, modest, calm, conditions, laid).
  DERIVED. THE GIVEN ROWS OF THIS SEAT. 12 by the template 'for every input the law returns true; each argument reads behind the call as it read before'; 0 by the template 'total and deterministic' (their statements: YtpiihodkonegbaaTotals.lean).
  GIVEN WITH THE SEED: the statements are not yours to turn. If you find one false, say at which input.
  Laid BY PROGRAM, IN A SANDBOX (cutbox-rows.mjs): the forced cells as the released guide's own fill.sh prints them over the translation d4bd9e36e78a1737… (all of the seat's roots in one cut). By AI agents, Wed Nov 11 2026. No macro, syntax, notation, axiom, sorry.
-/
import Derived.Test.YtpiihodkonegbaaChecked
import GoSem.Claim
import GoSem.ClaimJoined
import GoSem.ClaimMapViews
import Derived.JoinedTies
import Derived.KernelRfl
namespace Go.Proofs.Ytpiihodkonegbaa
/- THE CELL 'sum', in the pinned program and in every row, IS THE sha256 OF THE DUMP (.gsa) THAT YtpiihodkonegbaaProg.lean LOADS. Nothing in Lean hashes anything: it is a label: what it is worth is what the hold of that sum in a sandbox is worth. -/
noncomputable def Try.pinned : Pinned := { name := "ytpiihodkonegbaa", sum := "d4bd9e36e78a17374f115d8a38fef0b5f81d9eede95704fe1c0c9a90de7907ed", checked := Try.checked }
namespace Rows
def none {H : Type} : Left H := { results := [], args := [] }

/-- 'hallmarklaw08.PathNames': WHATEVER THE INPUT: true; the input reads as it did. -/
def pathNamesSpec : ChangeSpec := { name := "pathNames", fn := fun _ => fun
  | [] => { results := [.lit (.bool true)], args := [] }
  | _ => none }
def pathNamesRow : OpenClaim := { program := "ytpiihodkonegbaa", sum := "d4bd9e36e78a17374f115d8a38fef0b5f81d9eede95704fe1c0c9a90de7907ed", func := "hallmark/hallmarklaw08.PathNames", spec := "pathNames", apart := false }
def PathNamesSaid : Prop := pathNamesRow.holds Try.pinned (OpenSpec.ofChange pathNamesSpec)

/-- ITS FALSE NEIGHBOUR: 'it returns false'. Refute it at one input. -/
def pathNamesWrong : ChangeSpec := { name := "pathNames", fn := fun _ => fun
  | [] => { results := [.lit (.bool false)], args := [] }
  | _ => none }
def PathNamesWrongFalsely : Prop := pathNamesRow.holds Try.pinned (OpenSpec.ofChange pathNamesWrong)

/-- 'hallmarklaw20.ArithNames': WHATEVER THE INPUT: true; the input reads as it did. -/
def arithNamesSpec : ChangeSpec := { name := "arithNames", fn := fun _ => fun
  | [] => { results := [.lit (.bool true)], args := [] }
  | _ => none }
def arithNamesRow : OpenClaim := { program := "ytpiihodkonegbaa", sum := "d4bd9e36e78a17374f115d8a38fef0b5f81d9eede95704fe1c0c9a90de7907ed", func := "hallmark/hallmarklaw20.ArithNames", spec := "arithNames", apart := false }
def ArithNamesSaid : Prop := arithNamesRow.holds Try.pinned (OpenSpec.ofChange arithNamesSpec)

/-- ITS FALSE NEIGHBOUR: 'it returns false'. Refute it at one input. -/
def arithNamesWrong : ChangeSpec := { name := "arithNames", fn := fun _ => fun
  | [] => { results := [.lit (.bool false)], args := [] }
  | _ => none }
def ArithNamesWrongFalsely : Prop := arithNamesRow.holds Try.pinned (OpenSpec.ofChange arithNamesWrong)

/-- 'hallmarklaw05.ReaderNames': WHATEVER THE INPUT: true; the input reads as it did. -/
def readerNamesSpec : ChangeSpec := { name := "readerNames", fn := fun _ => fun
  | [] => { results := [.lit (.bool true)], args := [] }
  | _ => none }
def readerNamesRow : OpenClaim := { program := "ytpiihodkonegbaa", sum := "d4bd9e36e78a17374f115d8a38fef0b5f81d9eede95704fe1c0c9a90de7907ed", func := "hallmark/hallmarklaw05.ReaderNames", spec := "readerNames", apart := false }
def ReaderNamesSaid : Prop := readerNamesRow.holds Try.pinned (OpenSpec.ofChange readerNamesSpec)

/-- ITS FALSE NEIGHBOUR: 'it returns false'. Refute it at one input. -/
def readerNamesWrong : ChangeSpec := { name := "readerNames", fn := fun _ => fun
  | [] => { results := [.lit (.bool false)], args := [] }
  | _ => none }
def ReaderNamesWrongFalsely : Prop := readerNamesRow.holds Try.pinned (OpenSpec.ofChange readerNamesWrong)

/-- 'hallmarklaw01.TensOrder': WHATEVER THE INPUT: true; the input reads as it did. -/
def tensOrderSpec : ChangeSpec := { name := "tensOrder", fn := fun _ => fun
  | [d1, d2] => { results := [.lit (.bool true)], args := [d1, d2] }
  | _ => none }
def tensOrderRow : OpenClaim := { program := "ytpiihodkonegbaa", sum := "d4bd9e36e78a17374f115d8a38fef0b5f81d9eede95704fe1c0c9a90de7907ed", func := "hallmark/hallmarklaw01.TensOrder", spec := "tensOrder", apart := false }
def TensOrderSaid : Prop := tensOrderRow.holds Try.pinned (OpenSpec.ofChange tensOrderSpec)

/-- ITS FALSE NEIGHBOUR: 'it returns false'. Refute it at one input. -/
def tensOrderWrong : ChangeSpec := { name := "tensOrder", fn := fun _ => fun
  | [d1, d2] => { results := [.lit (.bool false)], args := [d1, d2] }
  | _ => none }
def TensOrderWrongFalsely : Prop := tensOrderRow.holds Try.pinned (OpenSpec.ofChange tensOrderWrong)

/-- 'hallmarklaw01.TensOne': WHATEVER THE INPUT: true; the input reads as it did. -/
def tensOneSpec : ChangeSpec := { name := "tensOne", fn := fun _ => fun
  | [d] => { results := [.lit (.bool true)], args := [d] }
  | _ => none }
def tensOneRow : OpenClaim := { program := "ytpiihodkonegbaa", sum := "d4bd9e36e78a17374f115d8a38fef0b5f81d9eede95704fe1c0c9a90de7907ed", func := "hallmark/hallmarklaw01.TensOne", spec := "tensOne", apart := false }
def TensOneSaid : Prop := tensOneRow.holds Try.pinned (OpenSpec.ofChange tensOneSpec)

/-- ITS FALSE NEIGHBOUR: 'it returns false'. Refute it at one input. -/
def tensOneWrong : ChangeSpec := { name := "tensOne", fn := fun _ => fun
  | [d] => { results := [.lit (.bool false)], args := [d] }
  | _ => none }
def TensOneWrongFalsely : Prop := tensOneRow.holds Try.pinned (OpenSpec.ofChange tensOneWrong)

/-- 'hallmarklaw01.TensTwo': WHATEVER THE INPUT: true; the input reads as it did. -/
def tensTwoSpec : ChangeSpec := { name := "tensTwo", fn := fun _ => fun
  | [d1, d2] => { results := [.lit (.bool true)], args := [d1, d2] }
  | _ => none }
def tensTwoRow : OpenClaim := { program := "ytpiihodkonegbaa", sum := "d4bd9e36e78a17374f115d8a38fef0b5f81d9eede95704fe1c0c9a90de7907ed", func := "hallmark/hallmarklaw01.TensTwo", spec := "tensTwo", apart := false }
def TensTwoSaid : Prop := tensTwoRow.holds Try.pinned (OpenSpec.ofChange tensTwoSpec)

/-- ITS FALSE NEIGHBOUR: 'it returns false'. Refute it at one input. -/
def tensTwoWrong : ChangeSpec := { name := "tensTwo", fn := fun _ => fun
  | [d1, d2] => { results := [.lit (.bool false)], args := [d1, d2] }
  | _ => none }
def TensTwoWrongFalsely : Prop := tensTwoRow.holds Try.pinned (OpenSpec.ofChange tensTwoWrong)

/-- 'hallmarklaw01.TensKnown': WHATEVER THE INPUT: true; the input reads as it did. -/
def tensKnownSpec : ChangeSpec := { name := "tensKnown", fn := fun _ => fun
  | [] => { results := [.lit (.bool true)], args := [] }
  | _ => none }
def tensKnownRow : OpenClaim := { program := "ytpiihodkonegbaa", sum := "d4bd9e36e78a17374f115d8a38fef0b5f81d9eede95704fe1c0c9a90de7907ed", func := "hallmark/hallmarklaw01.TensKnown", spec := "tensKnown", apart := false }
def TensKnownSaid : Prop := tensKnownRow.holds Try.pinned (OpenSpec.ofChange tensKnownSpec)

/-- ITS FALSE NEIGHBOUR: 'it returns false'. Refute it at one input. -/
def tensKnownWrong : ChangeSpec := { name := "tensKnown", fn := fun _ => fun
  | [] => { results := [.lit (.bool false)], args := [] }
  | _ => none }
def TensKnownWrongFalsely : Prop := tensKnownRow.holds Try.pinned (OpenSpec.ofChange tensKnownWrong)

/-- 'hallmarklaw01.TensRing': WHATEVER THE INPUT: true; the input reads as it did. -/
def tensRingSpec : ChangeSpec := { name := "tensRing", fn := fun _ => fun
  | [d1, d2, d3] => { results := [.lit (.bool true)], args := [d1, d2, d3] }
  | _ => none }
def tensRingRow : OpenClaim := { program := "ytpiihodkonegbaa", sum := "d4bd9e36e78a17374f115d8a38fef0b5f81d9eede95704fe1c0c9a90de7907ed", func := "hallmark/hallmarklaw01.TensRing", spec := "tensRing", apart := false }
def TensRingSaid : Prop := tensRingRow.holds Try.pinned (OpenSpec.ofChange tensRingSpec)

/-- ITS FALSE NEIGHBOUR: 'it returns false'. Refute it at one input. -/
def tensRingWrong : ChangeSpec := { name := "tensRing", fn := fun _ => fun
  | [d1, d2, d3] => { results := [.lit (.bool false)], args := [d1, d2, d3] }
  | _ => none }
def TensRingWrongFalsely : Prop := tensRingRow.holds Try.pinned (OpenSpec.ofChange tensRingWrong)

/-- 'hallmarklaw01.TensMoves': WHATEVER THE INPUT: true; the input reads as it did. -/
def tensMovesSpec : ChangeSpec := { name := "tensMoves", fn := fun _ => fun
  | [d1, d2, d3] => { results := [.lit (.bool true)], args := [d1, d2, d3] }
  | _ => none }
def tensMovesRow : OpenClaim := { program := "ytpiihodkonegbaa", sum := "d4bd9e36e78a17374f115d8a38fef0b5f81d9eede95704fe1c0c9a90de7907ed", func := "hallmark/hallmarklaw01.TensMoves", spec := "tensMoves", apart := false }
def TensMovesSaid : Prop := tensMovesRow.holds Try.pinned (OpenSpec.ofChange tensMovesSpec)

/-- ITS FALSE NEIGHBOUR: 'it returns false'. Refute it at one input. -/
def tensMovesWrong : ChangeSpec := { name := "tensMoves", fn := fun _ => fun
  | [d1, d2, d3] => { results := [.lit (.bool false)], args := [d1, d2, d3] }
  | _ => none }
def TensMovesWrongFalsely : Prop := tensMovesRow.holds Try.pinned (OpenSpec.ofChange tensMovesWrong)

/-- 'hallmarklaw01.TensRoots': WHATEVER THE INPUT: true; the input reads as it did. -/
def tensRootsSpec : ChangeSpec := { name := "tensRoots", fn := fun _ => fun
  | [d] => { results := [.lit (.bool true)], args := [d] }
  | _ => none }
def tensRootsRow : OpenClaim := { program := "ytpiihodkonegbaa", sum := "d4bd9e36e78a17374f115d8a38fef0b5f81d9eede95704fe1c0c9a90de7907ed", func := "hallmark/hallmarklaw01.TensRoots", spec := "tensRoots", apart := false }
def TensRootsSaid : Prop := tensRootsRow.holds Try.pinned (OpenSpec.ofChange tensRootsSpec)

/-- ITS FALSE NEIGHBOUR: 'it returns false'. Refute it at one input. -/
def tensRootsWrong : ChangeSpec := { name := "tensRoots", fn := fun _ => fun
  | [d] => { results := [.lit (.bool false)], args := [d] }
  | _ => none }
def TensRootsWrongFalsely : Prop := tensRootsRow.holds Try.pinned (OpenSpec.ofChange tensRootsWrong)

/-- 'hallmarklaw01.TensDivides': WHATEVER THE INPUT: true; the input reads as it did. -/
def tensDividesSpec : ChangeSpec := { name := "tensDivides", fn := fun _ => fun
  | [d1, d2] => { results := [.lit (.bool true)], args := [d1, d2] }
  | _ => none }
def tensDividesRow : OpenClaim := { program := "ytpiihodkonegbaa", sum := "d4bd9e36e78a17374f115d8a38fef0b5f81d9eede95704fe1c0c9a90de7907ed", func := "hallmark/hallmarklaw01.TensDivides", spec := "tensDivides", apart := false }
def TensDividesSaid : Prop := tensDividesRow.holds Try.pinned (OpenSpec.ofChange tensDividesSpec)

/-- ITS FALSE NEIGHBOUR: 'it returns false'. Refute it at one input. -/
def tensDividesWrong : ChangeSpec := { name := "tensDivides", fn := fun _ => fun
  | [d1, d2] => { results := [.lit (.bool false)], args := [d1, d2] }
  | _ => none }
def TensDividesWrongFalsely : Prop := tensDividesRow.holds Try.pinned (OpenSpec.ofChange tensDividesWrong)

/-- 'hallmarklaw01.TensSteps': WHATEVER THE INPUT: true; the input reads as it did. -/
def tensStepsSpec : ChangeSpec := { name := "tensSteps", fn := fun _ => fun
  | [d1, d2, d3, d4] => { results := [.lit (.bool true)], args := [d1, d2, d3, d4] }
  | _ => none }
def tensStepsRow : OpenClaim := { program := "ytpiihodkonegbaa", sum := "d4bd9e36e78a17374f115d8a38fef0b5f81d9eede95704fe1c0c9a90de7907ed", func := "hallmark/hallmarklaw01.TensSteps", spec := "tensSteps", unfollowed := true, recurses := true, apart := false }
def TensStepsSaid : Prop := tensStepsRow.holds Try.pinned (OpenSpec.ofChange tensStepsSpec)

/-- ITS FALSE NEIGHBOUR: 'it returns false'. Refute it at one input. -/
def tensStepsWrong : ChangeSpec := { name := "tensSteps", fn := fun _ => fun
  | [d1, d2, d3, d4] => { results := [.lit (.bool false)], args := [d1, d2, d3, d4] }
  | _ => none }
def TensStepsWrongFalsely : Prop := tensStepsRow.holds Try.pinned (OpenSpec.ofChange tensStepsWrong)

/- THE SECOND FORM. 'bulk': how many values and letters a reading holds, each counted each time it is reached (what is shared counts as often as it is met; a slice's spare places count too). A statement '..UptoSaid' is the law's where the arguments, and the package variables that the reading takes, are together of bulk at most 1048576: NARROWER than '..Said'. Prove '..Said' where nothing that the law and all that it calls make is longer than what came in: it says more and counts as full. Else prove '..UptoSaid'. A law counts once. -/
mutual
def uptoBulk {H : Type} : DataW H → Nat
  | .lit (.string bytes) => bytes.length + 1
  | .lit _ => 1
  | .nil => 1
  | .ptr d => uptoBulk d + 1
  | .slice elems spare => uptoBulkAll elems + uptoBulkAll spare + 1
  | .agg parts => uptoBulkAll parts + 1
  | .iface _ d => uptoBulk d + 1
  | .map entries => uptoBulkEntries entries + 1
  | .held _ => 1
def uptoBulkAll {H : Type} : List (DataW H) → Nat
  | [] => 0
  | d :: r => uptoBulk d + uptoBulkAll r
def uptoBulkEntries {H : Type} : List (Lit × DataW H) → Nat
  | [] => 0
  | x :: r => uptoBulkEntry x + uptoBulkEntries r
def uptoBulkEntry {H : Type} : Lit × DataW H → Nat
  | (.string bytes, d) => bytes.length + uptoBulk d + 1
  | (_, d) => uptoBulk d + 1
 end
def uptoSmall : (H : Type) → List (DataW H) → Bool := fun _ ds => decide (uptoBulkAll ds ≤ 1048576)
def OpenSpec.upto (s : _root_.Go.ChangeSpec) : _root_.Go.OpenSpec := { _root_.Go.OpenSpec.ofChange s with cond := some uptoSmall }

/-- 'hallmarklaw08.PathNames', WHERE WHAT IT READS IS OF BULK AT MOST 1048576: true; the input reads as it did. -/
def pathNamesUptoRow : OpenClaim := { program := "ytpiihodkonegbaa", sum := "d4bd9e36e78a17374f115d8a38fef0b5f81d9eede95704fe1c0c9a90de7907ed", func := "hallmark/hallmarklaw08.PathNames", spec := "pathNames", apart := false, narrowed := true }
def PathNamesUptoSaid : Prop := pathNamesUptoRow.holds Try.pinned (OpenSpec.upto pathNamesSpec)

/-- 'hallmarklaw20.ArithNames', WHERE WHAT IT READS IS OF BULK AT MOST 1048576: true; the input reads as it did. -/
def arithNamesUptoRow : OpenClaim := { program := "ytpiihodkonegbaa", sum := "d4bd9e36e78a17374f115d8a38fef0b5f81d9eede95704fe1c0c9a90de7907ed", func := "hallmark/hallmarklaw20.ArithNames", spec := "arithNames", apart := false, narrowed := true }
def ArithNamesUptoSaid : Prop := arithNamesUptoRow.holds Try.pinned (OpenSpec.upto arithNamesSpec)

/-- 'hallmarklaw05.ReaderNames', WHERE WHAT IT READS IS OF BULK AT MOST 1048576: true; the input reads as it did. -/
def readerNamesUptoRow : OpenClaim := { program := "ytpiihodkonegbaa", sum := "d4bd9e36e78a17374f115d8a38fef0b5f81d9eede95704fe1c0c9a90de7907ed", func := "hallmark/hallmarklaw05.ReaderNames", spec := "readerNames", apart := false, narrowed := true }
def ReaderNamesUptoSaid : Prop := readerNamesUptoRow.holds Try.pinned (OpenSpec.upto readerNamesSpec)

/-- 'hallmarklaw01.TensOrder', WHERE WHAT IT READS IS OF BULK AT MOST 1048576: true; the input reads as it did. -/
def tensOrderUptoRow : OpenClaim := { program := "ytpiihodkonegbaa", sum := "d4bd9e36e78a17374f115d8a38fef0b5f81d9eede95704fe1c0c9a90de7907ed", func := "hallmark/hallmarklaw01.TensOrder", spec := "tensOrder", apart := false, narrowed := true }
def TensOrderUptoSaid : Prop := tensOrderUptoRow.holds Try.pinned (OpenSpec.upto tensOrderSpec)

/-- 'hallmarklaw01.TensOne', WHERE WHAT IT READS IS OF BULK AT MOST 1048576: true; the input reads as it did. -/
def tensOneUptoRow : OpenClaim := { program := "ytpiihodkonegbaa", sum := "d4bd9e36e78a17374f115d8a38fef0b5f81d9eede95704fe1c0c9a90de7907ed", func := "hallmark/hallmarklaw01.TensOne", spec := "tensOne", apart := false, narrowed := true }
def TensOneUptoSaid : Prop := tensOneUptoRow.holds Try.pinned (OpenSpec.upto tensOneSpec)

/-- 'hallmarklaw01.TensTwo', WHERE WHAT IT READS IS OF BULK AT MOST 1048576: true; the input reads as it did. -/
def tensTwoUptoRow : OpenClaim := { program := "ytpiihodkonegbaa", sum := "d4bd9e36e78a17374f115d8a38fef0b5f81d9eede95704fe1c0c9a90de7907ed", func := "hallmark/hallmarklaw01.TensTwo", spec := "tensTwo", apart := false, narrowed := true }
def TensTwoUptoSaid : Prop := tensTwoUptoRow.holds Try.pinned (OpenSpec.upto tensTwoSpec)

/-- 'hallmarklaw01.TensKnown', WHERE WHAT IT READS IS OF BULK AT MOST 1048576: true; the input reads as it did. -/
def tensKnownUptoRow : OpenClaim := { program := "ytpiihodkonegbaa", sum := "d4bd9e36e78a17374f115d8a38fef0b5f81d9eede95704fe1c0c9a90de7907ed", func := "hallmark/hallmarklaw01.TensKnown", spec := "tensKnown", apart := false, narrowed := true }
def TensKnownUptoSaid : Prop := tensKnownUptoRow.holds Try.pinned (OpenSpec.upto tensKnownSpec)

/-- 'hallmarklaw01.TensRing', WHERE WHAT IT READS IS OF BULK AT MOST 1048576: true; the input reads as it did. -/
def tensRingUptoRow : OpenClaim := { program := "ytpiihodkonegbaa", sum := "d4bd9e36e78a17374f115d8a38fef0b5f81d9eede95704fe1c0c9a90de7907ed", func := "hallmark/hallmarklaw01.TensRing", spec := "tensRing", apart := false, narrowed := true }
def TensRingUptoSaid : Prop := tensRingUptoRow.holds Try.pinned (OpenSpec.upto tensRingSpec)

/-- 'hallmarklaw01.TensMoves', WHERE WHAT IT READS IS OF BULK AT MOST 1048576: true; the input reads as it did. -/
def tensMovesUptoRow : OpenClaim := { program := "ytpiihodkonegbaa", sum := "d4bd9e36e78a17374f115d8a38fef0b5f81d9eede95704fe1c0c9a90de7907ed", func := "hallmark/hallmarklaw01.TensMoves", spec := "tensMoves", apart := false, narrowed := true }
def TensMovesUptoSaid : Prop := tensMovesUptoRow.holds Try.pinned (OpenSpec.upto tensMovesSpec)

/-- 'hallmarklaw01.TensRoots', WHERE WHAT IT READS IS OF BULK AT MOST 1048576: true; the input reads as it did. -/
def tensRootsUptoRow : OpenClaim := { program := "ytpiihodkonegbaa", sum := "d4bd9e36e78a17374f115d8a38fef0b5f81d9eede95704fe1c0c9a90de7907ed", func := "hallmark/hallmarklaw01.TensRoots", spec := "tensRoots", apart := false, narrowed := true }
def TensRootsUptoSaid : Prop := tensRootsUptoRow.holds Try.pinned (OpenSpec.upto tensRootsSpec)

/-- 'hallmarklaw01.TensDivides', WHERE WHAT IT READS IS OF BULK AT MOST 1048576: true; the input reads as it did. -/
def tensDividesUptoRow : OpenClaim := { program := "ytpiihodkonegbaa", sum := "d4bd9e36e78a17374f115d8a38fef0b5f81d9eede95704fe1c0c9a90de7907ed", func := "hallmark/hallmarklaw01.TensDivides", spec := "tensDivides", apart := false, narrowed := true }
def TensDividesUptoSaid : Prop := tensDividesUptoRow.holds Try.pinned (OpenSpec.upto tensDividesSpec)

/-- 'hallmarklaw01.TensSteps', WHERE WHAT IT READS IS OF BULK AT MOST 1048576: true; the input reads as it did. -/
def tensStepsUptoRow : OpenClaim := { program := "ytpiihodkonegbaa", sum := "d4bd9e36e78a17374f115d8a38fef0b5f81d9eede95704fe1c0c9a90de7907ed", func := "hallmark/hallmarklaw01.TensSteps", spec := "tensSteps", unfollowed := true, recurses := true, apart := false, narrowed := true }
def TensStepsUptoSaid : Prop := tensStepsUptoRow.holds Try.pinned (OpenSpec.upto tensStepsSpec)

end Rows
end Go.Proofs.Ytpiihodkonegbaa
