/-
  No cell of these rows narrows 'for every input' (looked for: loops, veiled, ifaces, maps, wideKeys, modest, calm, conditions, laid).
  DERIVED. THE GIVEN ROWS OF THIS SEAT. 5 by the template 'for every input the law returns true; each argument reads behind the call as it read before'; 0 by the template 'total and deterministic' (their statements: YtaiamlbaogjgaaaTotals.lean).
  GIVEN WITH THE SEED: the statements are not yours to turn. If you find one false, say at which input.
  Laid BY PROGRAM, IN A SANDBOX (cutbox-rows.mjs): the forced cells as the released guide's own fill.sh prints them over the translation 6ad7c5a988be8f91… (all of the seat's roots in one cut). By AI agents, Wed Nov 11 2026. No macro, syntax, notation, axiom, sorry.
-/
import Derived.Test.YtaiamlbaogjgaaaChecked
import GoSem.Claim
import GoSem.ClaimJoined
import GoSem.ClaimMapViews
import Derived.JoinedTies
import Derived.KernelRfl
namespace Go.Proofs.Ytaiamlbaogjgaaa
/- THE CELL 'sum', in the pinned program and in every row, IS THE sha256 OF THE DUMP (.gsa) THAT YtaiamlbaogjgaaaProg.lean LOADS. Nothing in Lean hashes anything: it is a label: what it is worth is what the hold of that sum in a sandbox is worth. -/
noncomputable def Try.pinned : Pinned := { name := "ytaiamlbaogjgaaa", sum := "6ad7c5a988be8f914ce15d8a36806a3274f91089159634d10fd2735da5f4e542", checked := Try.checked }
namespace Rows
def none {H : Type} : Left H := { results := [], args := [] }

/-- 'bucketlinelaw21.PaceBounds': WHATEVER THE INPUT: true; the input reads as it did. -/
def paceBoundsSpec : ChangeSpec := { name := "paceBounds", fn := fun _ => fun
  | [d1, d2] => { results := [.lit (.bool true)], args := [d1, d2] }
  | _ => none }
def paceBoundsRow : OpenClaim := { program := "ytaiamlbaogjgaaa", sum := "6ad7c5a988be8f914ce15d8a36806a3274f91089159634d10fd2735da5f4e542", func := "bucketline/bucketlinelaw21.PaceBounds", spec := "paceBounds", apart := false }
def PaceBoundsSaid : Prop := paceBoundsRow.holds Try.pinned (OpenSpec.ofChange paceBoundsSpec)

/-- ITS FALSE NEIGHBOUR: 'it returns false'. Refute it at one input. -/
def paceBoundsWrong : ChangeSpec := { name := "paceBounds", fn := fun _ => fun
  | [d1, d2] => { results := [.lit (.bool false)], args := [d1, d2] }
  | _ => none }
def PaceBoundsWrongFalsely : Prop := paceBoundsRow.holds Try.pinned (OpenSpec.ofChange paceBoundsWrong)

/-- 'bucketlinelaw21.PacePlays': WHATEVER THE INPUT: true; the input reads as it did. -/
def pacePlaysSpec : ChangeSpec := { name := "pacePlays", fn := fun _ => fun
  | [d1, d2] => { results := [.lit (.bool true)], args := [d1, d2] }
  | _ => none }
def pacePlaysRow : OpenClaim := { program := "ytaiamlbaogjgaaa", sum := "6ad7c5a988be8f914ce15d8a36806a3274f91089159634d10fd2735da5f4e542", func := "bucketline/bucketlinelaw21.PacePlays", spec := "pacePlays", apart := false }
def PacePlaysSaid : Prop := pacePlaysRow.holds Try.pinned (OpenSpec.ofChange pacePlaysSpec)

/-- ITS FALSE NEIGHBOUR: 'it returns false'. Refute it at one input. -/
def pacePlaysWrong : ChangeSpec := { name := "pacePlays", fn := fun _ => fun
  | [d1, d2] => { results := [.lit (.bool false)], args := [d1, d2] }
  | _ => none }
def PacePlaysWrongFalsely : Prop := pacePlaysRow.holds Try.pinned (OpenSpec.ofChange pacePlaysWrong)

/-- 'bucketlinelaw21.PaceBound': WHATEVER THE INPUT: true; the input reads as it did. -/
def paceBoundSpec : ChangeSpec := { name := "paceBound", fn := fun _ => fun
  | [d1, d2] => { results := [.lit (.bool true)], args := [d1, d2] }
  | _ => none }
def paceBoundRow : OpenClaim := { program := "ytaiamlbaogjgaaa", sum := "6ad7c5a988be8f914ce15d8a36806a3274f91089159634d10fd2735da5f4e542", func := "bucketline/bucketlinelaw21.PaceBound", spec := "paceBound", apart := false }
def PaceBoundSaid : Prop := paceBoundRow.holds Try.pinned (OpenSpec.ofChange paceBoundSpec)

/-- ITS FALSE NEIGHBOUR: 'it returns false'. Refute it at one input. -/
def paceBoundWrong : ChangeSpec := { name := "paceBound", fn := fun _ => fun
  | [d1, d2] => { results := [.lit (.bool false)], args := [d1, d2] }
  | _ => none }
def PaceBoundWrongFalsely : Prop := paceBoundRow.holds Try.pinned (OpenSpec.ofChange paceBoundWrong)

/-- 'bucketlinelaw21.PaceSplits': WHATEVER THE INPUT: true; the input reads as it did. -/
def paceSplitsSpec : ChangeSpec := { name := "paceSplits", fn := fun _ => fun
  | [d1, d2, d3] => { results := [.lit (.bool true)], args := [d1, d2, d3] }
  | _ => none }
def paceSplitsRow : OpenClaim := { program := "ytaiamlbaogjgaaa", sum := "6ad7c5a988be8f914ce15d8a36806a3274f91089159634d10fd2735da5f4e542", func := "bucketline/bucketlinelaw21.PaceSplits", spec := "paceSplits", apart := false }
def PaceSplitsSaid : Prop := paceSplitsRow.holds Try.pinned (OpenSpec.ofChange paceSplitsSpec)

/-- ITS FALSE NEIGHBOUR: 'it returns false'. Refute it at one input. -/
def paceSplitsWrong : ChangeSpec := { name := "paceSplits", fn := fun _ => fun
  | [d1, d2, d3] => { results := [.lit (.bool false)], args := [d1, d2, d3] }
  | _ => none }
def PaceSplitsWrongFalsely : Prop := paceSplitsRow.holds Try.pinned (OpenSpec.ofChange paceSplitsWrong)

/-- 'bucketlinelaw21.PaceNone': WHATEVER THE INPUT: true; the input reads as it did. -/
def paceNoneSpec : ChangeSpec := { name := "paceNone", fn := fun _ => fun
  | [d] => { results := [.lit (.bool true)], args := [d] }
  | _ => none }
def paceNoneRow : OpenClaim := { program := "ytaiamlbaogjgaaa", sum := "6ad7c5a988be8f914ce15d8a36806a3274f91089159634d10fd2735da5f4e542", func := "bucketline/bucketlinelaw21.PaceNone", spec := "paceNone", apart := false }
def PaceNoneSaid : Prop := paceNoneRow.holds Try.pinned (OpenSpec.ofChange paceNoneSpec)

/-- ITS FALSE NEIGHBOUR: 'it returns false'. Refute it at one input. -/
def paceNoneWrong : ChangeSpec := { name := "paceNone", fn := fun _ => fun
  | [d] => { results := [.lit (.bool false)], args := [d] }
  | _ => none }
def PaceNoneWrongFalsely : Prop := paceNoneRow.holds Try.pinned (OpenSpec.ofChange paceNoneWrong)

/- THE SECOND FORM. 'bulk': how many values and letters a reading holds, each counted each time it is reached (what is shared counts as often as it is met; a slice's spare places count too). A statement '..UptoSaid' is the law's where the arguments, and the package variables that the reading takes, are together of bulk at most 1048576: NARROWER than '..Said'. Prove '..Said' where nothing that the law and all that it calls make is longer than what came in: it says more and counts as full. Else prove '..UptoSaid'. A law counts once. -/
mutual
def uptoBulk {H : Type} : DataW H → Nat
  | .lit (.string bytes) => bytes.length + 1
  | .lit _ => 1
  | .nil => 1
  | .ptr d => uptoBulk d + 1
  | .slice elems spare => uptoBulkAll elems + uptoBulkAll spare + 1
  | .agg parts => uptoBulkAll parts + 1
  | .iface _ d => uptoBulk d + 1
  | .map entries => uptoBulkEntries entries + 1
  | .held _ => 1
def uptoBulkAll {H : Type} : List (DataW H) → Nat
  | [] => 0
  | d :: r => uptoBulk d + uptoBulkAll r
def uptoBulkEntries {H : Type} : List (Lit × DataW H) → Nat
  | [] => 0
  | x :: r => uptoBulkEntry x + uptoBulkEntries r
def uptoBulkEntry {H : Type} : Lit × DataW H → Nat
  | (.string bytes, d) => bytes.length + uptoBulk d + 1
  | (_, d) => uptoBulk d + 1
 end
def uptoSmall : (H : Type) → List (DataW H) → Bool := fun _ ds => decide (uptoBulkAll ds ≤ 1048576)
def OpenSpec.upto (s : _root_.Go.ChangeSpec) : _root_.Go.OpenSpec := { _root_.Go.OpenSpec.ofChange s with cond := some uptoSmall }

/-- 'bucketlinelaw21.PaceBounds', WHERE WHAT IT READS IS OF BULK AT MOST 1048576: true; the input reads as it did. -/
def paceBoundsUptoRow : OpenClaim := { program := "ytaiamlbaogjgaaa", sum := "6ad7c5a988be8f914ce15d8a36806a3274f91089159634d10fd2735da5f4e542", func := "bucketline/bucketlinelaw21.PaceBounds", spec := "paceBounds", apart := false, narrowed := true }
def PaceBoundsUptoSaid : Prop := paceBoundsUptoRow.holds Try.pinned (OpenSpec.upto paceBoundsSpec)

/-- 'bucketlinelaw21.PacePlays', WHERE WHAT IT READS IS OF BULK AT MOST 1048576: true; the input reads as it did. -/
def pacePlaysUptoRow : OpenClaim := { program := "ytaiamlbaogjgaaa", sum := "6ad7c5a988be8f914ce15d8a36806a3274f91089159634d10fd2735da5f4e542", func := "bucketline/bucketlinelaw21.PacePlays", spec := "pacePlays", apart := false, narrowed := true }
def PacePlaysUptoSaid : Prop := pacePlaysUptoRow.holds Try.pinned (OpenSpec.upto pacePlaysSpec)

/-- 'bucketlinelaw21.PaceBound', WHERE WHAT IT READS IS OF BULK AT MOST 1048576: true; the input reads as it did. -/
def paceBoundUptoRow : OpenClaim := { program := "ytaiamlbaogjgaaa", sum := "6ad7c5a988be8f914ce15d8a36806a3274f91089159634d10fd2735da5f4e542", func := "bucketline/bucketlinelaw21.PaceBound", spec := "paceBound", apart := false, narrowed := true }
def PaceBoundUptoSaid : Prop := paceBoundUptoRow.holds Try.pinned (OpenSpec.upto paceBoundSpec)

/-- 'bucketlinelaw21.PaceSplits', WHERE WHAT IT READS IS OF BULK AT MOST 1048576: true; the input reads as it did. -/
def paceSplitsUptoRow : OpenClaim := { program := "ytaiamlbaogjgaaa", sum := "6ad7c5a988be8f914ce15d8a36806a3274f91089159634d10fd2735da5f4e542", func := "bucketline/bucketlinelaw21.PaceSplits", spec := "paceSplits", apart := false, narrowed := true }
def PaceSplitsUptoSaid : Prop := paceSplitsUptoRow.holds Try.pinned (OpenSpec.upto paceSplitsSpec)

/-- 'bucketlinelaw21.PaceNone', WHERE WHAT IT READS IS OF BULK AT MOST 1048576: true; the input reads as it did. -/
def paceNoneUptoRow : OpenClaim := { program := "ytaiamlbaogjgaaa", sum := "6ad7c5a988be8f914ce15d8a36806a3274f91089159634d10fd2735da5f4e542", func := "bucketline/bucketlinelaw21.PaceNone", spec := "paceNone", apart := false, narrowed := true }
def PaceNoneUptoSaid : Prop := paceNoneUptoRow.holds Try.pinned (OpenSpec.upto paceNoneSpec)

end Rows
end Go.Proofs.Ytaiamlbaogjgaaa
