/-
  No cell of these rows narrows 'for every input' (looked for: loops, veiled, ifaces, maps, wideKeys, modest, calm, conditions, laid).
  DERIVED. THE GIVEN ROWS OF THIS SEAT. 4 by the template 'for every input the law returns true; each argument reads behind the call as it read before'; 0 by the template 'total and deterministic' (their statements: YtepdifajieegeaaTotals.lean).
  GIVEN WITH THE SEED: the statements are not yours to turn. If you find one false, say at which input.
  Laid BY PROGRAM, IN A SANDBOX (cutbox-rows.mjs): the forced cells as the released guide's own fill.sh prints them over the translation ca1431a14afc139c… (all of the seat's roots in one cut). By AI agents, Wed Nov 11 2026. No macro, syntax, notation, axiom, sorry.
-/
import Derived.Test.YtepdifajieegeaaChecked
import GoSem.Claim
import GoSem.ClaimJoined
import GoSem.ClaimMapViews
import Derived.JoinedTies
import Derived.KernelRfl
namespace Go.Proofs.Ytepdifajieegeaa
/- THE CELL 'sum', in the pinned program and in every row, IS THE sha256 OF THE DUMP (.gsa) THAT YtepdifajieegeaaProg.lean LOADS. Nothing in Lean hashes anything: it is a label: what it is worth is what the hold of that sum in a sandbox is worth. -/
noncomputable def Try.pinned : Pinned := { name := "ytepdifajieegeaa", sum := "ca1431a14afc139c8f8a7d9ecd2623c4286f63be310b88959da9d8f56bf8a253", checked := Try.checked }
namespace Rows
def none {H : Type} : Left H := { results := [], args := [] }

/-- 'staithelaw16.WatchTells': WHATEVER THE INPUT: true; the input reads as it did. -/
def watchTellsSpec : ChangeSpec := { name := "watchTells", fn := fun _ => fun
  | [d1, d2] => { results := [.lit (.bool true)], args := [d1, d2] }
  | _ => none }
def watchTellsRow : OpenClaim := { program := "ytepdifajieegeaa", sum := "ca1431a14afc139c8f8a7d9ecd2623c4286f63be310b88959da9d8f56bf8a253", func := "staithe/staithelaw16.WatchTells", spec := "watchTells", apart := false }
def WatchTellsSaid : Prop := watchTellsRow.holds Try.pinned (OpenSpec.ofChange watchTellsSpec)

/-- ITS FALSE NEIGHBOUR: 'it returns false'. Refute it at one input. -/
def watchTellsWrong : ChangeSpec := { name := "watchTells", fn := fun _ => fun
  | [d1, d2] => { results := [.lit (.bool false)], args := [d1, d2] }
  | _ => none }
def WatchTellsWrongFalsely : Prop := watchTellsRow.holds Try.pinned (OpenSpec.ofChange watchTellsWrong)

/-- 'staithelaw16.WatchAgain': WHATEVER THE INPUT: true; the input reads as it did. -/
def watchAgainSpec : ChangeSpec := { name := "watchAgain", fn := fun _ => fun
  | [d1, d2, d3] => { results := [.lit (.bool true)], args := [d1, d2, d3] }
  | _ => none }
def watchAgainRow : OpenClaim := { program := "ytepdifajieegeaa", sum := "ca1431a14afc139c8f8a7d9ecd2623c4286f63be310b88959da9d8f56bf8a253", func := "staithe/staithelaw16.WatchAgain", spec := "watchAgain", unfollowed := true, recurses := true, apart := false }
def WatchAgainSaid : Prop := watchAgainRow.holds Try.pinned (OpenSpec.ofChange watchAgainSpec)

/-- ITS FALSE NEIGHBOUR: 'it returns false'. Refute it at one input. -/
def watchAgainWrong : ChangeSpec := { name := "watchAgain", fn := fun _ => fun
  | [d1, d2, d3] => { results := [.lit (.bool false)], args := [d1, d2, d3] }
  | _ => none }
def WatchAgainWrongFalsely : Prop := watchAgainRow.holds Try.pinned (OpenSpec.ofChange watchAgainWrong)

/-- 'staithelaw16.WatchOwn': WHATEVER THE INPUT: true; the input reads as it did. -/
def watchOwnSpec : ChangeSpec := { name := "watchOwn", fn := fun _ => fun
  | [d1, d2, d3] => { results := [.lit (.bool true)], args := [d1, d2, d3] }
  | _ => none }
def watchOwnRow : OpenClaim := { program := "ytepdifajieegeaa", sum := "ca1431a14afc139c8f8a7d9ecd2623c4286f63be310b88959da9d8f56bf8a253", func := "staithe/staithelaw16.WatchOwn", spec := "watchOwn", unfollowed := true, recurses := true, apart := false }
def WatchOwnSaid : Prop := watchOwnRow.holds Try.pinned (OpenSpec.ofChange watchOwnSpec)

/-- ITS FALSE NEIGHBOUR: 'it returns false'. Refute it at one input. -/
def watchOwnWrong : ChangeSpec := { name := "watchOwn", fn := fun _ => fun
  | [d1, d2, d3] => { results := [.lit (.bool false)], args := [d1, d2, d3] }
  | _ => none }
def WatchOwnWrongFalsely : Prop := watchOwnRow.holds Try.pinned (OpenSpec.ofChange watchOwnWrong)

/-- 'staithelaw16.WatchNil': WHATEVER THE INPUT: true; the input reads as it did. -/
def watchNilSpec : ChangeSpec := { name := "watchNil", fn := fun _ => fun
  | [d1, d2] => { results := [.lit (.bool true)], args := [d1, d2] }
  | _ => none }
def watchNilRow : OpenClaim := { program := "ytepdifajieegeaa", sum := "ca1431a14afc139c8f8a7d9ecd2623c4286f63be310b88959da9d8f56bf8a253", func := "staithe/staithelaw16.WatchNil", spec := "watchNil", unfollowed := true, recurses := true, apart := false }
def WatchNilSaid : Prop := watchNilRow.holds Try.pinned (OpenSpec.ofChange watchNilSpec)

/-- ITS FALSE NEIGHBOUR: 'it returns false'. Refute it at one input. -/
def watchNilWrong : ChangeSpec := { name := "watchNil", fn := fun _ => fun
  | [d1, d2] => { results := [.lit (.bool false)], args := [d1, d2] }
  | _ => none }
def WatchNilWrongFalsely : Prop := watchNilRow.holds Try.pinned (OpenSpec.ofChange watchNilWrong)

/- THE SECOND FORM. 'bulk': how many values and letters a reading holds, each counted each time it is reached (what is shared counts as often as it is met; a slice's spare places count too). A statement '..UptoSaid' is the law's where the arguments, and the package variables that the reading takes, are together of bulk at most 1048576: NARROWER than '..Said'. Prove '..Said' where nothing that the law and all that it calls make is longer than what came in: it says more and counts as full. Else prove '..UptoSaid'. A law counts once. -/
mutual
def uptoBulk {H : Type} : DataW H → Nat
  | .lit (.string bytes) => bytes.length + 1
  | .lit _ => 1
  | .nil => 1
  | .ptr d => uptoBulk d + 1
  | .slice elems spare => uptoBulkAll elems + uptoBulkAll spare + 1
  | .agg parts => uptoBulkAll parts + 1
  | .iface _ d => uptoBulk d + 1
  | .map entries => uptoBulkEntries entries + 1
  | .held _ => 1
def uptoBulkAll {H : Type} : List (DataW H) → Nat
  | [] => 0
  | d :: r => uptoBulk d + uptoBulkAll r
def uptoBulkEntries {H : Type} : List (Lit × DataW H) → Nat
  | [] => 0
  | x :: r => uptoBulkEntry x + uptoBulkEntries r
def uptoBulkEntry {H : Type} : Lit × DataW H → Nat
  | (.string bytes, d) => bytes.length + uptoBulk d + 1
  | (_, d) => uptoBulk d + 1
 end
def uptoSmall : (H : Type) → List (DataW H) → Bool := fun _ ds => decide (uptoBulkAll ds ≤ 1048576)
def OpenSpec.upto (s : _root_.Go.ChangeSpec) : _root_.Go.OpenSpec := { _root_.Go.OpenSpec.ofChange s with cond := some uptoSmall }

/-- 'staithelaw16.WatchTells', WHERE WHAT IT READS IS OF BULK AT MOST 1048576: true; the input reads as it did. -/
def watchTellsUptoRow : OpenClaim := { program := "ytepdifajieegeaa", sum := "ca1431a14afc139c8f8a7d9ecd2623c4286f63be310b88959da9d8f56bf8a253", func := "staithe/staithelaw16.WatchTells", spec := "watchTells", apart := false, narrowed := true }
def WatchTellsUptoSaid : Prop := watchTellsUptoRow.holds Try.pinned (OpenSpec.upto watchTellsSpec)

/-- 'staithelaw16.WatchAgain', WHERE WHAT IT READS IS OF BULK AT MOST 1048576: true; the input reads as it did. -/
def watchAgainUptoRow : OpenClaim := { program := "ytepdifajieegeaa", sum := "ca1431a14afc139c8f8a7d9ecd2623c4286f63be310b88959da9d8f56bf8a253", func := "staithe/staithelaw16.WatchAgain", spec := "watchAgain", unfollowed := true, recurses := true, apart := false, narrowed := true }
def WatchAgainUptoSaid : Prop := watchAgainUptoRow.holds Try.pinned (OpenSpec.upto watchAgainSpec)

/-- 'staithelaw16.WatchOwn', WHERE WHAT IT READS IS OF BULK AT MOST 1048576: true; the input reads as it did. -/
def watchOwnUptoRow : OpenClaim := { program := "ytepdifajieegeaa", sum := "ca1431a14afc139c8f8a7d9ecd2623c4286f63be310b88959da9d8f56bf8a253", func := "staithe/staithelaw16.WatchOwn", spec := "watchOwn", unfollowed := true, recurses := true, apart := false, narrowed := true }
def WatchOwnUptoSaid : Prop := watchOwnUptoRow.holds Try.pinned (OpenSpec.upto watchOwnSpec)

/-- 'staithelaw16.WatchNil', WHERE WHAT IT READS IS OF BULK AT MOST 1048576: true; the input reads as it did. -/
def watchNilUptoRow : OpenClaim := { program := "ytepdifajieegeaa", sum := "ca1431a14afc139c8f8a7d9ecd2623c4286f63be310b88959da9d8f56bf8a253", func := "staithe/staithelaw16.WatchNil", spec := "watchNil", unfollowed := true, recurses := true, apart := false, narrowed := true }
def WatchNilUptoSaid : Prop := watchNilUptoRow.holds Try.pinned (OpenSpec.upto watchNilSpec)

end Rows
end Go.Proofs.Ytepdifajieegeaa
