/-
  No cell of these rows narrows 'for every input' (looked for: loops, veiled, ifaces, maps, wideKeys, modest, calm, conditions, laid).
  DERIVED. THE GIVEN ROWS OF THIS SEAT. 12 by the template 'for every input the law returns true; each argument reads behind the call as it read before'; 0 by the template 'total and deterministic' (their statements: YtpgdobomcdpdbaaTotals.lean).
  GIVEN WITH THE SEED: the statements are not yours to turn. If you find one false, say at which input.
  Laid BY PROGRAM, IN A SANDBOX (cutbox-rows.mjs): the forced cells as the released guide's own fill.sh prints them over the translation cfc5abfa31d1cb61… (all of the seat's roots in one cut). By AI agents, Wed Nov 11 2026. No macro, syntax, notation, axiom, sorry.
-/
import Derived.Test.YtpgdobomcdpdbaaChecked
import GoSem.Claim
import GoSem.ClaimJoined
import GoSem.ClaimMapViews
import Derived.JoinedTies
import Derived.KernelRfl
namespace Go.Proofs.Ytpgdobomcdpdbaa
/- THE CELL 'sum', in the pinned program and in every row, IS THE sha256 OF THE DUMP (.gsa) THAT YtpgdobomcdpdbaaProg.lean LOADS. Nothing in Lean hashes anything: it is a label: what it is worth is what the hold of that sum in a sandbox is worth. -/
noncomputable def Try.pinned : Pinned := { name := "ytpgdobomcdpdbaa", sum := "cfc5abfa31d1cb618daf1752105da6bc4b4dd7c7352b1a6f3b59af3fa36aee05", checked := Try.checked }
namespace Rows
def none {H : Type} : Left H := { results := [], args := [] }

/-- 'vivariumkeep.TableColumns': WHATEVER THE INPUT: true; the input reads as it did. -/
def tableColumnsSpec : ChangeSpec := { name := "tableColumns", fn := fun _ => fun
  | [d1, d2] => { results := [.lit (.bool true)], args := [d1, d2] }
  | _ => none }
def tableColumnsRow : OpenClaim := { program := "ytpgdobomcdpdbaa", sum := "cfc5abfa31d1cb618daf1752105da6bc4b4dd7c7352b1a6f3b59af3fa36aee05", func := "vivarium/vivariumkeep.TableColumns", spec := "tableColumns", plainKeys := false, apart := false }
def TableColumnsSaid : Prop := tableColumnsRow.holds Try.pinned (OpenSpec.ofChange tableColumnsSpec)

/-- ITS FALSE NEIGHBOUR: 'it returns false'. Refute it at one input. -/
def tableColumnsWrong : ChangeSpec := { name := "tableColumns", fn := fun _ => fun
  | [d1, d2] => { results := [.lit (.bool false)], args := [d1, d2] }
  | _ => none }
def TableColumnsWrongFalsely : Prop := tableColumnsRow.holds Try.pinned (OpenSpec.ofChange tableColumnsWrong)

/-- 'vivariumkeep.TableRemoves': WHATEVER THE INPUT: true; the input reads as it did. -/
def tableRemovesSpec : ChangeSpec := { name := "tableRemoves", fn := fun _ => fun
  | [d1, d2, d3] => { results := [.lit (.bool true)], args := [d1, d2, d3] }
  | _ => none }
def tableRemovesRow : OpenClaim := { program := "ytpgdobomcdpdbaa", sum := "cfc5abfa31d1cb618daf1752105da6bc4b4dd7c7352b1a6f3b59af3fa36aee05", func := "vivarium/vivariumkeep.TableRemoves", spec := "tableRemoves", plainKeys := false, apart := false }
def TableRemovesSaid : Prop := tableRemovesRow.holds Try.pinned (OpenSpec.ofChange tableRemovesSpec)

/-- ITS FALSE NEIGHBOUR: 'it returns false'. Refute it at one input. -/
def tableRemovesWrong : ChangeSpec := { name := "tableRemoves", fn := fun _ => fun
  | [d1, d2, d3] => { results := [.lit (.bool false)], args := [d1, d2, d3] }
  | _ => none }
def TableRemovesWrongFalsely : Prop := tableRemovesRow.holds Try.pinned (OpenSpec.ofChange tableRemovesWrong)

/-- 'vivariumkeep.TableEmpties': WHATEVER THE INPUT: true; the input reads as it did. -/
def tableEmptiesSpec : ChangeSpec := { name := "tableEmpties", fn := fun _ => fun
  | [d1, d2, d3] => { results := [.lit (.bool true)], args := [d1, d2, d3] }
  | _ => none }
def tableEmptiesRow : OpenClaim := { program := "ytpgdobomcdpdbaa", sum := "cfc5abfa31d1cb618daf1752105da6bc4b4dd7c7352b1a6f3b59af3fa36aee05", func := "vivarium/vivariumkeep.TableEmpties", spec := "tableEmpties", plainKeys := false, apart := false }
def TableEmptiesSaid : Prop := tableEmptiesRow.holds Try.pinned (OpenSpec.ofChange tableEmptiesSpec)

/-- ITS FALSE NEIGHBOUR: 'it returns false'. Refute it at one input. -/
def tableEmptiesWrong : ChangeSpec := { name := "tableEmpties", fn := fun _ => fun
  | [d1, d2, d3] => { results := [.lit (.bool false)], args := [d1, d2, d3] }
  | _ => none }
def TableEmptiesWrongFalsely : Prop := tableEmptiesRow.holds Try.pinned (OpenSpec.ofChange tableEmptiesWrong)

/-- 'vivariumkeep.FamilyUnder': WHATEVER THE INPUT: true; the input reads as it did. -/
def familyUnderSpec : ChangeSpec := { name := "familyUnder", fn := fun _ => fun
  | [d1, d2] => { results := [.lit (.bool true)], args := [d1, d2] }
  | _ => none }
def familyUnderRow : OpenClaim := { program := "ytpgdobomcdpdbaa", sum := "cfc5abfa31d1cb618daf1752105da6bc4b4dd7c7352b1a6f3b59af3fa36aee05", func := "vivarium/vivariumkeep.FamilyUnder", spec := "familyUnder", unfollowed := true, recurses := true, plainKeys := false, apart := false }
def FamilyUnderSaid : Prop := familyUnderRow.holds Try.pinned (OpenSpec.ofChange familyUnderSpec)

/-- ITS FALSE NEIGHBOUR: 'it returns false'. Refute it at one input. -/
def familyUnderWrong : ChangeSpec := { name := "familyUnder", fn := fun _ => fun
  | [d1, d2] => { results := [.lit (.bool false)], args := [d1, d2] }
  | _ => none }
def FamilyUnderWrongFalsely : Prop := familyUnderRow.holds Try.pinned (OpenSpec.ofChange familyUnderWrong)

/-- 'vivariumkeep.FamilyAdopts': WHATEVER THE INPUT: true; the input reads as it did. -/
def familyAdoptsSpec : ChangeSpec := { name := "familyAdopts", fn := fun _ => fun
  | [d1, d2, d3] => { results := [.lit (.bool true)], args := [d1, d2, d3] }
  | _ => none }
def familyAdoptsRow : OpenClaim := { program := "ytpgdobomcdpdbaa", sum := "cfc5abfa31d1cb618daf1752105da6bc4b4dd7c7352b1a6f3b59af3fa36aee05", func := "vivarium/vivariumkeep.FamilyAdopts", spec := "familyAdopts", unfollowed := true, recurses := true, plainKeys := false, apart := false }
def FamilyAdoptsSaid : Prop := familyAdoptsRow.holds Try.pinned (OpenSpec.ofChange familyAdoptsSpec)

/-- ITS FALSE NEIGHBOUR: 'it returns false'. Refute it at one input. -/
def familyAdoptsWrong : ChangeSpec := { name := "familyAdopts", fn := fun _ => fun
  | [d1, d2, d3] => { results := [.lit (.bool false)], args := [d1, d2, d3] }
  | _ => none }
def FamilyAdoptsWrongFalsely : Prop := familyAdoptsRow.holds Try.pinned (OpenSpec.ofChange familyAdoptsWrong)

/-- 'vivariumkeep.FamilyTree': WHATEVER THE INPUT: true; the input reads as it did. -/
def familyTreeSpec : ChangeSpec := { name := "familyTree", fn := fun _ => fun
  | [d] => { results := [.lit (.bool true)], args := [d] }
  | _ => none }
def familyTreeRow : OpenClaim := { program := "ytpgdobomcdpdbaa", sum := "cfc5abfa31d1cb618daf1752105da6bc4b4dd7c7352b1a6f3b59af3fa36aee05", func := "vivarium/vivariumkeep.FamilyTree", spec := "familyTree", unfollowed := true, recurses := true, plainKeys := false, apart := false }
def FamilyTreeSaid : Prop := familyTreeRow.holds Try.pinned (OpenSpec.ofChange familyTreeSpec)

/-- ITS FALSE NEIGHBOUR: 'it returns false'. Refute it at one input. -/
def familyTreeWrong : ChangeSpec := { name := "familyTree", fn := fun _ => fun
  | [d] => { results := [.lit (.bool false)], args := [d] }
  | _ => none }
def FamilyTreeWrongFalsely : Prop := familyTreeRow.holds Try.pinned (OpenSpec.ofChange familyTreeWrong)

/-- 'vivariumkeep.FamilyGone': WHATEVER THE INPUT: true; the input reads as it did. -/
def familyGoneSpec : ChangeSpec := { name := "familyGone", fn := fun _ => fun
  | [d1, d2] => { results := [.lit (.bool true)], args := [d1, d2] }
  | _ => none }
def familyGoneRow : OpenClaim := { program := "ytpgdobomcdpdbaa", sum := "cfc5abfa31d1cb618daf1752105da6bc4b4dd7c7352b1a6f3b59af3fa36aee05", func := "vivarium/vivariumkeep.FamilyGone", spec := "familyGone", unfollowed := true, recurses := true, plainKeys := false, apart := false }
def FamilyGoneSaid : Prop := familyGoneRow.holds Try.pinned (OpenSpec.ofChange familyGoneSpec)

/-- ITS FALSE NEIGHBOUR: 'it returns false'. Refute it at one input. -/
def familyGoneWrong : ChangeSpec := { name := "familyGone", fn := fun _ => fun
  | [d1, d2] => { results := [.lit (.bool false)], args := [d1, d2] }
  | _ => none }
def FamilyGoneWrongFalsely : Prop := familyGoneRow.holds Try.pinned (OpenSpec.ofChange familyGoneWrong)

/-- 'vivariumkeep.DiffNone': WHATEVER THE INPUT: true; the input reads as it did. -/
def diffNoneSpec : ChangeSpec := { name := "diffNone", fn := fun _ => fun
  | [d1, d2] => { results := [.lit (.bool true)], args := [d1, d2] }
  | _ => none }
def diffNoneRow : OpenClaim := { program := "ytpgdobomcdpdbaa", sum := "cfc5abfa31d1cb618daf1752105da6bc4b4dd7c7352b1a6f3b59af3fa36aee05", func := "vivarium/vivariumkeep.DiffNone", spec := "diffNone", inPlace := ["maps.clone"], unfollowed := true, recurses := true, plainKeys := false, apart := false }
def DiffNoneSaid : Prop := diffNoneRow.holds Try.pinned (OpenSpec.ofChange diffNoneSpec)

/-- ITS FALSE NEIGHBOUR: 'it returns false'. Refute it at one input. -/
def diffNoneWrong : ChangeSpec := { name := "diffNone", fn := fun _ => fun
  | [d1, d2] => { results := [.lit (.bool false)], args := [d1, d2] }
  | _ => none }
def DiffNoneWrongFalsely : Prop := diffNoneRow.holds Try.pinned (OpenSpec.ofChange diffNoneWrong)

/-- 'vivariumkeep.DiffLeast': WHATEVER THE INPUT: true; the input reads as it did. -/
def diffLeastSpec : ChangeSpec := { name := "diffLeast", fn := fun _ => fun
  | [d1, d2] => { results := [.lit (.bool true)], args := [d1, d2] }
  | _ => none }
def diffLeastRow : OpenClaim := { program := "ytpgdobomcdpdbaa", sum := "cfc5abfa31d1cb618daf1752105da6bc4b4dd7c7352b1a6f3b59af3fa36aee05", func := "vivarium/vivariumkeep.DiffLeast", spec := "diffLeast", inPlace := ["maps.clone"], unfollowed := true, recurses := true, plainKeys := false, apart := false }
def DiffLeastSaid : Prop := diffLeastRow.holds Try.pinned (OpenSpec.ofChange diffLeastSpec)

/-- ITS FALSE NEIGHBOUR: 'it returns false'. Refute it at one input. -/
def diffLeastWrong : ChangeSpec := { name := "diffLeast", fn := fun _ => fun
  | [d1, d2] => { results := [.lit (.bool false)], args := [d1, d2] }
  | _ => none }
def DiffLeastWrongFalsely : Prop := diffLeastRow.holds Try.pinned (OpenSpec.ofChange diffLeastWrong)

/-- 'vivariumkeep.DiffThrough': WHATEVER THE INPUT: true; the input reads as it did. -/
def diffThroughSpec : ChangeSpec := { name := "diffThrough", fn := fun _ => fun
  | [d1, d2, d3] => { results := [.lit (.bool true)], args := [d1, d2, d3] }
  | _ => none }
def diffThroughRow : OpenClaim := { program := "ytpgdobomcdpdbaa", sum := "cfc5abfa31d1cb618daf1752105da6bc4b4dd7c7352b1a6f3b59af3fa36aee05", func := "vivarium/vivariumkeep.DiffThrough", spec := "diffThrough", inPlace := ["maps.clone"], unfollowed := true, recurses := true, plainKeys := false, apart := false }
def DiffThroughSaid : Prop := diffThroughRow.holds Try.pinned (OpenSpec.ofChange diffThroughSpec)

/-- ITS FALSE NEIGHBOUR: 'it returns false'. Refute it at one input. -/
def diffThroughWrong : ChangeSpec := { name := "diffThrough", fn := fun _ => fun
  | [d1, d2, d3] => { results := [.lit (.bool false)], args := [d1, d2, d3] }
  | _ => none }
def DiffThroughWrongFalsely : Prop := diffThroughRow.holds Try.pinned (OpenSpec.ofChange diffThroughWrong)

/-- 'vivariumkeep.DiffBack': WHATEVER THE INPUT: true; the input reads as it did. -/
def diffBackSpec : ChangeSpec := { name := "diffBack", fn := fun _ => fun
  | [d1, d2] => { results := [.lit (.bool true)], args := [d1, d2] }
  | _ => none }
def diffBackRow : OpenClaim := { program := "ytpgdobomcdpdbaa", sum := "cfc5abfa31d1cb618daf1752105da6bc4b4dd7c7352b1a6f3b59af3fa36aee05", func := "vivarium/vivariumkeep.DiffBack", spec := "diffBack", inPlace := ["maps.clone"], unfollowed := true, recurses := true, plainKeys := false, apart := false }
def DiffBackSaid : Prop := diffBackRow.holds Try.pinned (OpenSpec.ofChange diffBackSpec)

/-- ITS FALSE NEIGHBOUR: 'it returns false'. Refute it at one input. -/
def diffBackWrong : ChangeSpec := { name := "diffBack", fn := fun _ => fun
  | [d1, d2] => { results := [.lit (.bool false)], args := [d1, d2] }
  | _ => none }
def DiffBackWrongFalsely : Prop := diffBackRow.holds Try.pinned (OpenSpec.ofChange diffBackWrong)

/-- 'vivariumkeep.DiffTwice': WHATEVER THE INPUT: true; the input reads as it did. -/
def diffTwiceSpec : ChangeSpec := { name := "diffTwice", fn := fun _ => fun
  | [d1, d2] => { results := [.lit (.bool true)], args := [d1, d2] }
  | _ => none }
def diffTwiceRow : OpenClaim := { program := "ytpgdobomcdpdbaa", sum := "cfc5abfa31d1cb618daf1752105da6bc4b4dd7c7352b1a6f3b59af3fa36aee05", func := "vivarium/vivariumkeep.DiffTwice", spec := "diffTwice", inPlace := ["maps.clone"], unfollowed := true, recurses := true, plainKeys := false, apart := false }
def DiffTwiceSaid : Prop := diffTwiceRow.holds Try.pinned (OpenSpec.ofChange diffTwiceSpec)

/-- ITS FALSE NEIGHBOUR: 'it returns false'. Refute it at one input. -/
def diffTwiceWrong : ChangeSpec := { name := "diffTwice", fn := fun _ => fun
  | [d1, d2] => { results := [.lit (.bool false)], args := [d1, d2] }
  | _ => none }
def DiffTwiceWrongFalsely : Prop := diffTwiceRow.holds Try.pinned (OpenSpec.ofChange diffTwiceWrong)

/- THE SECOND FORM. 'bulk': how many values and letters a reading holds, each counted each time it is reached (what is shared counts as often as it is met; a slice's spare places count too). A statement '..UptoSaid' is the law's where the arguments, and the package variables that the reading takes, are together of bulk at most 1048576: NARROWER than '..Said'. Prove '..Said' where nothing that the law and all that it calls make is longer than what came in: it says more and counts as full. Else prove '..UptoSaid'. A law counts once. -/
mutual
def uptoBulk {H : Type} : DataW H → Nat
  | .lit (.string bytes) => bytes.length + 1
  | .lit _ => 1
  | .nil => 1
  | .ptr d => uptoBulk d + 1
  | .slice elems spare => uptoBulkAll elems + uptoBulkAll spare + 1
  | .agg parts => uptoBulkAll parts + 1
  | .iface _ d => uptoBulk d + 1
  | .map entries => uptoBulkEntries entries + 1
  | .held _ => 1
def uptoBulkAll {H : Type} : List (DataW H) → Nat
  | [] => 0
  | d :: r => uptoBulk d + uptoBulkAll r
def uptoBulkEntries {H : Type} : List (Lit × DataW H) → Nat
  | [] => 0
  | x :: r => uptoBulkEntry x + uptoBulkEntries r
def uptoBulkEntry {H : Type} : Lit × DataW H → Nat
  | (.string bytes, d) => bytes.length + uptoBulk d + 1
  | (_, d) => uptoBulk d + 1
 end
def uptoSmall : (H : Type) → List (DataW H) → Bool := fun _ ds => decide (uptoBulkAll ds ≤ 1048576)
def OpenSpec.upto (s : _root_.Go.ChangeSpec) : _root_.Go.OpenSpec := { _root_.Go.OpenSpec.ofChange s with cond := some uptoSmall }

/-- 'vivariumkeep.TableColumns', WHERE WHAT IT READS IS OF BULK AT MOST 1048576: true; the input reads as it did. -/
def tableColumnsUptoRow : OpenClaim := { program := "ytpgdobomcdpdbaa", sum := "cfc5abfa31d1cb618daf1752105da6bc4b4dd7c7352b1a6f3b59af3fa36aee05", func := "vivarium/vivariumkeep.TableColumns", spec := "tableColumns", plainKeys := false, apart := false, narrowed := true }
def TableColumnsUptoSaid : Prop := tableColumnsUptoRow.holds Try.pinned (OpenSpec.upto tableColumnsSpec)

/-- 'vivariumkeep.TableRemoves', WHERE WHAT IT READS IS OF BULK AT MOST 1048576: true; the input reads as it did. -/
def tableRemovesUptoRow : OpenClaim := { program := "ytpgdobomcdpdbaa", sum := "cfc5abfa31d1cb618daf1752105da6bc4b4dd7c7352b1a6f3b59af3fa36aee05", func := "vivarium/vivariumkeep.TableRemoves", spec := "tableRemoves", plainKeys := false, apart := false, narrowed := true }
def TableRemovesUptoSaid : Prop := tableRemovesUptoRow.holds Try.pinned (OpenSpec.upto tableRemovesSpec)

/-- 'vivariumkeep.TableEmpties', WHERE WHAT IT READS IS OF BULK AT MOST 1048576: true; the input reads as it did. -/
def tableEmptiesUptoRow : OpenClaim := { program := "ytpgdobomcdpdbaa", sum := "cfc5abfa31d1cb618daf1752105da6bc4b4dd7c7352b1a6f3b59af3fa36aee05", func := "vivarium/vivariumkeep.TableEmpties", spec := "tableEmpties", plainKeys := false, apart := false, narrowed := true }
def TableEmptiesUptoSaid : Prop := tableEmptiesUptoRow.holds Try.pinned (OpenSpec.upto tableEmptiesSpec)

/-- 'vivariumkeep.FamilyUnder', WHERE WHAT IT READS IS OF BULK AT MOST 1048576: true; the input reads as it did. -/
def familyUnderUptoRow : OpenClaim := { program := "ytpgdobomcdpdbaa", sum := "cfc5abfa31d1cb618daf1752105da6bc4b4dd7c7352b1a6f3b59af3fa36aee05", func := "vivarium/vivariumkeep.FamilyUnder", spec := "familyUnder", unfollowed := true, recurses := true, plainKeys := false, apart := false, narrowed := true }
def FamilyUnderUptoSaid : Prop := familyUnderUptoRow.holds Try.pinned (OpenSpec.upto familyUnderSpec)

/-- 'vivariumkeep.FamilyAdopts', WHERE WHAT IT READS IS OF BULK AT MOST 1048576: true; the input reads as it did. -/
def familyAdoptsUptoRow : OpenClaim := { program := "ytpgdobomcdpdbaa", sum := "cfc5abfa31d1cb618daf1752105da6bc4b4dd7c7352b1a6f3b59af3fa36aee05", func := "vivarium/vivariumkeep.FamilyAdopts", spec := "familyAdopts", unfollowed := true, recurses := true, plainKeys := false, apart := false, narrowed := true }
def FamilyAdoptsUptoSaid : Prop := familyAdoptsUptoRow.holds Try.pinned (OpenSpec.upto familyAdoptsSpec)

/-- 'vivariumkeep.FamilyTree', WHERE WHAT IT READS IS OF BULK AT MOST 1048576: true; the input reads as it did. -/
def familyTreeUptoRow : OpenClaim := { program := "ytpgdobomcdpdbaa", sum := "cfc5abfa31d1cb618daf1752105da6bc4b4dd7c7352b1a6f3b59af3fa36aee05", func := "vivarium/vivariumkeep.FamilyTree", spec := "familyTree", unfollowed := true, recurses := true, plainKeys := false, apart := false, narrowed := true }
def FamilyTreeUptoSaid : Prop := familyTreeUptoRow.holds Try.pinned (OpenSpec.upto familyTreeSpec)

/-- 'vivariumkeep.FamilyGone', WHERE WHAT IT READS IS OF BULK AT MOST 1048576: true; the input reads as it did. -/
def familyGoneUptoRow : OpenClaim := { program := "ytpgdobomcdpdbaa", sum := "cfc5abfa31d1cb618daf1752105da6bc4b4dd7c7352b1a6f3b59af3fa36aee05", func := "vivarium/vivariumkeep.FamilyGone", spec := "familyGone", unfollowed := true, recurses := true, plainKeys := false, apart := false, narrowed := true }
def FamilyGoneUptoSaid : Prop := familyGoneUptoRow.holds Try.pinned (OpenSpec.upto familyGoneSpec)

/-- 'vivariumkeep.DiffNone', WHERE WHAT IT READS IS OF BULK AT MOST 1048576: true; the input reads as it did. -/
def diffNoneUptoRow : OpenClaim := { program := "ytpgdobomcdpdbaa", sum := "cfc5abfa31d1cb618daf1752105da6bc4b4dd7c7352b1a6f3b59af3fa36aee05", func := "vivarium/vivariumkeep.DiffNone", spec := "diffNone", inPlace := ["maps.clone"], unfollowed := true, recurses := true, plainKeys := false, apart := false, narrowed := true }
def DiffNoneUptoSaid : Prop := diffNoneUptoRow.holds Try.pinned (OpenSpec.upto diffNoneSpec)

/-- 'vivariumkeep.DiffLeast', WHERE WHAT IT READS IS OF BULK AT MOST 1048576: true; the input reads as it did. -/
def diffLeastUptoRow : OpenClaim := { program := "ytpgdobomcdpdbaa", sum := "cfc5abfa31d1cb618daf1752105da6bc4b4dd7c7352b1a6f3b59af3fa36aee05", func := "vivarium/vivariumkeep.DiffLeast", spec := "diffLeast", inPlace := ["maps.clone"], unfollowed := true, recurses := true, plainKeys := false, apart := false, narrowed := true }
def DiffLeastUptoSaid : Prop := diffLeastUptoRow.holds Try.pinned (OpenSpec.upto diffLeastSpec)

/-- 'vivariumkeep.DiffThrough', WHERE WHAT IT READS IS OF BULK AT MOST 1048576: true; the input reads as it did. -/
def diffThroughUptoRow : OpenClaim := { program := "ytpgdobomcdpdbaa", sum := "cfc5abfa31d1cb618daf1752105da6bc4b4dd7c7352b1a6f3b59af3fa36aee05", func := "vivarium/vivariumkeep.DiffThrough", spec := "diffThrough", inPlace := ["maps.clone"], unfollowed := true, recurses := true, plainKeys := false, apart := false, narrowed := true }
def DiffThroughUptoSaid : Prop := diffThroughUptoRow.holds Try.pinned (OpenSpec.upto diffThroughSpec)

/-- 'vivariumkeep.DiffBack', WHERE WHAT IT READS IS OF BULK AT MOST 1048576: true; the input reads as it did. -/
def diffBackUptoRow : OpenClaim := { program := "ytpgdobomcdpdbaa", sum := "cfc5abfa31d1cb618daf1752105da6bc4b4dd7c7352b1a6f3b59af3fa36aee05", func := "vivarium/vivariumkeep.DiffBack", spec := "diffBack", inPlace := ["maps.clone"], unfollowed := true, recurses := true, plainKeys := false, apart := false, narrowed := true }
def DiffBackUptoSaid : Prop := diffBackUptoRow.holds Try.pinned (OpenSpec.upto diffBackSpec)

/-- 'vivariumkeep.DiffTwice', WHERE WHAT IT READS IS OF BULK AT MOST 1048576: true; the input reads as it did. -/
def diffTwiceUptoRow : OpenClaim := { program := "ytpgdobomcdpdbaa", sum := "cfc5abfa31d1cb618daf1752105da6bc4b4dd7c7352b1a6f3b59af3fa36aee05", func := "vivarium/vivariumkeep.DiffTwice", spec := "diffTwice", inPlace := ["maps.clone"], unfollowed := true, recurses := true, plainKeys := false, apart := false, narrowed := true }
def DiffTwiceUptoSaid : Prop := diffTwiceUptoRow.holds Try.pinned (OpenSpec.upto diffTwiceSpec)

end Rows
end Go.Proofs.Ytpgdobomcdpdbaa
