/-
  No cell of these rows narrows 'for every input' (looked for: loops, veiled, ifaces, maps, wideKeys, modest, calm, conditions, laid).
  DERIVED. THE GIVEN ROWS OF THIS SEAT. 5 by the template 'for every input the law returns true; each argument reads behind the call as it read before'; 0 by the template 'total and deterministic' (their statements: YtbnfjlchmpdgeaaTotals.lean).
  GIVEN WITH THE SEED: the statements are not yours to turn. If you find one false, say at which input.
  Laid BY PROGRAM, IN A SANDBOX (cutbox-rows.mjs): the forced cells as the released guide's own fill.sh prints them over the translation 481a6181a8c1a140… (all of the seat's roots in one cut). By AI agents, Wed Nov 11 2026. No macro, syntax, notation, axiom, sorry.
-/
import Derived.Test.YtbnfjlchmpdgeaaChecked
import GoSem.Claim
import GoSem.ClaimJoined
import GoSem.ClaimMapViews
import Derived.JoinedTies
import Derived.KernelRfl
namespace Go.Proofs.Ytbnfjlchmpdgeaa
/- THE CELL 'sum', in the pinned program and in every row, IS THE sha256 OF THE DUMP (.gsa) THAT YtbnfjlchmpdgeaaProg.lean LOADS. Nothing in Lean hashes anything: it is a label: what it is worth is what the hold of that sum in a sandbox is worth. -/
noncomputable def Try.pinned : Pinned := { name := "ytbnfjlchmpdgeaa", sum := "481a6181a8c1a140e0b562d30ec4b0eb5c8c3236a198f0e2c336265860b2b4a0", checked := Try.checked }
namespace Rows
def none {H : Type} : Left H := { results := [], args := [] }

/-- 'bucketlinelaw20.MembersPlays': WHATEVER THE INPUT: true; the input reads as it did. -/
def membersPlaysSpec : ChangeSpec := { name := "membersPlays", fn := fun _ => fun
  | [d1, d2, d3] => { results := [.lit (.bool true)], args := [d1, d2, d3] }
  | _ => none }
def membersPlaysRow : OpenClaim := { program := "ytbnfjlchmpdgeaa", sum := "481a6181a8c1a140e0b562d30ec4b0eb5c8c3236a198f0e2c336265860b2b4a0", func := "bucketline/bucketlinelaw20.MembersPlays", spec := "membersPlays", apart := false }
def MembersPlaysSaid : Prop := membersPlaysRow.holds Try.pinned (OpenSpec.ofChange membersPlaysSpec)

/-- ITS FALSE NEIGHBOUR: 'it returns false'. Refute it at one input. -/
def membersPlaysWrong : ChangeSpec := { name := "membersPlays", fn := fun _ => fun
  | [d1, d2, d3] => { results := [.lit (.bool false)], args := [d1, d2, d3] }
  | _ => none }
def MembersPlaysWrongFalsely : Prop := membersPlaysRow.holds Try.pinned (OpenSpec.ofChange membersPlaysWrong)

/-- 'bucketlinelaw20.MembersTime': WHATEVER THE INPUT: true; the input reads as it did. -/
def membersTimeSpec : ChangeSpec := { name := "membersTime", fn := fun _ => fun
  | [d1, d2, d3] => { results := [.lit (.bool true)], args := [d1, d2, d3] }
  | _ => none }
def membersTimeRow : OpenClaim := { program := "ytbnfjlchmpdgeaa", sum := "481a6181a8c1a140e0b562d30ec4b0eb5c8c3236a198f0e2c336265860b2b4a0", func := "bucketline/bucketlinelaw20.MembersTime", spec := "membersTime", apart := false }
def MembersTimeSaid : Prop := membersTimeRow.holds Try.pinned (OpenSpec.ofChange membersTimeSpec)

/-- ITS FALSE NEIGHBOUR: 'it returns false'. Refute it at one input. -/
def membersTimeWrong : ChangeSpec := { name := "membersTime", fn := fun _ => fun
  | [d1, d2, d3] => { results := [.lit (.bool false)], args := [d1, d2, d3] }
  | _ => none }
def MembersTimeWrongFalsely : Prop := membersTimeRow.holds Try.pinned (OpenSpec.ofChange membersTimeWrong)

/-- 'bucketlinelaw20.MembersRise': WHATEVER THE INPUT: true; the input reads as it did. -/
def membersRiseSpec : ChangeSpec := { name := "membersRise", fn := fun _ => fun
  | [d1, d2] => { results := [.lit (.bool true)], args := [d1, d2] }
  | _ => none }
def membersRiseRow : OpenClaim := { program := "ytbnfjlchmpdgeaa", sum := "481a6181a8c1a140e0b562d30ec4b0eb5c8c3236a198f0e2c336265860b2b4a0", func := "bucketline/bucketlinelaw20.MembersRise", spec := "membersRise", apart := false }
def MembersRiseSaid : Prop := membersRiseRow.holds Try.pinned (OpenSpec.ofChange membersRiseSpec)

/-- ITS FALSE NEIGHBOUR: 'it returns false'. Refute it at one input. -/
def membersRiseWrong : ChangeSpec := { name := "membersRise", fn := fun _ => fun
  | [d1, d2] => { results := [.lit (.bool false)], args := [d1, d2] }
  | _ => none }
def MembersRiseWrongFalsely : Prop := membersRiseRow.holds Try.pinned (OpenSpec.ofChange membersRiseWrong)

/-- 'bucketlinelaw20.MembersAll': WHATEVER THE INPUT: true; the input reads as it did. -/
def membersAllSpec : ChangeSpec := { name := "membersAll", fn := fun _ => fun
  | [d1, d2, d3] => { results := [.lit (.bool true)], args := [d1, d2, d3] }
  | _ => none }
def membersAllRow : OpenClaim := { program := "ytbnfjlchmpdgeaa", sum := "481a6181a8c1a140e0b562d30ec4b0eb5c8c3236a198f0e2c336265860b2b4a0", func := "bucketline/bucketlinelaw20.MembersAll", spec := "membersAll", apart := false }
def MembersAllSaid : Prop := membersAllRow.holds Try.pinned (OpenSpec.ofChange membersAllSpec)

/-- ITS FALSE NEIGHBOUR: 'it returns false'. Refute it at one input. -/
def membersAllWrong : ChangeSpec := { name := "membersAll", fn := fun _ => fun
  | [d1, d2, d3] => { results := [.lit (.bool false)], args := [d1, d2, d3] }
  | _ => none }
def MembersAllWrongFalsely : Prop := membersAllRow.holds Try.pinned (OpenSpec.ofChange membersAllWrong)

/-- 'bucketlinelaw20.MembersNone': WHATEVER THE INPUT: true; the input reads as it did. -/
def membersNoneSpec : ChangeSpec := { name := "membersNone", fn := fun _ => fun
  | [d] => { results := [.lit (.bool true)], args := [d] }
  | _ => none }
def membersNoneRow : OpenClaim := { program := "ytbnfjlchmpdgeaa", sum := "481a6181a8c1a140e0b562d30ec4b0eb5c8c3236a198f0e2c336265860b2b4a0", func := "bucketline/bucketlinelaw20.MembersNone", spec := "membersNone", apart := false }
def MembersNoneSaid : Prop := membersNoneRow.holds Try.pinned (OpenSpec.ofChange membersNoneSpec)

/-- ITS FALSE NEIGHBOUR: 'it returns false'. Refute it at one input. -/
def membersNoneWrong : ChangeSpec := { name := "membersNone", fn := fun _ => fun
  | [d] => { results := [.lit (.bool false)], args := [d] }
  | _ => none }
def MembersNoneWrongFalsely : Prop := membersNoneRow.holds Try.pinned (OpenSpec.ofChange membersNoneWrong)

/- THE SECOND FORM. 'bulk': how many values and letters a reading holds, each counted each time it is reached (what is shared counts as often as it is met; a slice's spare places count too). A statement '..UptoSaid' is the law's where the arguments, and the package variables that the reading takes, are together of bulk at most 1048576: NARROWER than '..Said'. Prove '..Said' where nothing that the law and all that it calls make is longer than what came in: it says more and counts as full. Else prove '..UptoSaid'. A law counts once. -/
mutual
def uptoBulk {H : Type} : DataW H → Nat
  | .lit (.string bytes) => bytes.length + 1
  | .lit _ => 1
  | .nil => 1
  | .ptr d => uptoBulk d + 1
  | .slice elems spare => uptoBulkAll elems + uptoBulkAll spare + 1
  | .agg parts => uptoBulkAll parts + 1
  | .iface _ d => uptoBulk d + 1
  | .map entries => uptoBulkEntries entries + 1
  | .held _ => 1
def uptoBulkAll {H : Type} : List (DataW H) → Nat
  | [] => 0
  | d :: r => uptoBulk d + uptoBulkAll r
def uptoBulkEntries {H : Type} : List (Lit × DataW H) → Nat
  | [] => 0
  | x :: r => uptoBulkEntry x + uptoBulkEntries r
def uptoBulkEntry {H : Type} : Lit × DataW H → Nat
  | (.string bytes, d) => bytes.length + uptoBulk d + 1
  | (_, d) => uptoBulk d + 1
 end
def uptoSmall : (H : Type) → List (DataW H) → Bool := fun _ ds => decide (uptoBulkAll ds ≤ 1048576)
def OpenSpec.upto (s : _root_.Go.ChangeSpec) : _root_.Go.OpenSpec := { _root_.Go.OpenSpec.ofChange s with cond := some uptoSmall }

/-- 'bucketlinelaw20.MembersPlays', WHERE WHAT IT READS IS OF BULK AT MOST 1048576: true; the input reads as it did. -/
def membersPlaysUptoRow : OpenClaim := { program := "ytbnfjlchmpdgeaa", sum := "481a6181a8c1a140e0b562d30ec4b0eb5c8c3236a198f0e2c336265860b2b4a0", func := "bucketline/bucketlinelaw20.MembersPlays", spec := "membersPlays", apart := false, narrowed := true }
def MembersPlaysUptoSaid : Prop := membersPlaysUptoRow.holds Try.pinned (OpenSpec.upto membersPlaysSpec)

/-- 'bucketlinelaw20.MembersTime', WHERE WHAT IT READS IS OF BULK AT MOST 1048576: true; the input reads as it did. -/
def membersTimeUptoRow : OpenClaim := { program := "ytbnfjlchmpdgeaa", sum := "481a6181a8c1a140e0b562d30ec4b0eb5c8c3236a198f0e2c336265860b2b4a0", func := "bucketline/bucketlinelaw20.MembersTime", spec := "membersTime", apart := false, narrowed := true }
def MembersTimeUptoSaid : Prop := membersTimeUptoRow.holds Try.pinned (OpenSpec.upto membersTimeSpec)

/-- 'bucketlinelaw20.MembersRise', WHERE WHAT IT READS IS OF BULK AT MOST 1048576: true; the input reads as it did. -/
def membersRiseUptoRow : OpenClaim := { program := "ytbnfjlchmpdgeaa", sum := "481a6181a8c1a140e0b562d30ec4b0eb5c8c3236a198f0e2c336265860b2b4a0", func := "bucketline/bucketlinelaw20.MembersRise", spec := "membersRise", apart := false, narrowed := true }
def MembersRiseUptoSaid : Prop := membersRiseUptoRow.holds Try.pinned (OpenSpec.upto membersRiseSpec)

/-- 'bucketlinelaw20.MembersAll', WHERE WHAT IT READS IS OF BULK AT MOST 1048576: true; the input reads as it did. -/
def membersAllUptoRow : OpenClaim := { program := "ytbnfjlchmpdgeaa", sum := "481a6181a8c1a140e0b562d30ec4b0eb5c8c3236a198f0e2c336265860b2b4a0", func := "bucketline/bucketlinelaw20.MembersAll", spec := "membersAll", apart := false, narrowed := true }
def MembersAllUptoSaid : Prop := membersAllUptoRow.holds Try.pinned (OpenSpec.upto membersAllSpec)

/-- 'bucketlinelaw20.MembersNone', WHERE WHAT IT READS IS OF BULK AT MOST 1048576: true; the input reads as it did. -/
def membersNoneUptoRow : OpenClaim := { program := "ytbnfjlchmpdgeaa", sum := "481a6181a8c1a140e0b562d30ec4b0eb5c8c3236a198f0e2c336265860b2b4a0", func := "bucketline/bucketlinelaw20.MembersNone", spec := "membersNone", apart := false, narrowed := true }
def MembersNoneUptoSaid : Prop := membersNoneUptoRow.holds Try.pinned (OpenSpec.upto membersNoneSpec)

end Rows
end Go.Proofs.Ytbnfjlchmpdgeaa
