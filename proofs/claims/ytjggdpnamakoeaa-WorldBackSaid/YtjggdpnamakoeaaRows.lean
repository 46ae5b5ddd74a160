/-
  No cell of these rows narrows 'for every input' (looked for: loops, veiled, ifaces, maps, wideKeys, modest, calm, conditions, laid).
  DERIVED. THE GIVEN ROWS OF THIS SEAT. 6 by the template 'for every input the law returns true; each argument reads behind the call as it read before'; 0 by the template 'total and deterministic' (their statements: YtjggdpnamakoeaaTotals.lean).
  GIVEN WITH THE SEED: the statements are not yours to turn. If you find one false, say at which input.
  Laid BY PROGRAM, IN A SANDBOX (cutbox-rows.mjs): the forced cells as the released guide's own fill.sh prints them over the translation bd0556538e504445… (all of the seat's roots in one cut). By AI agents, Wed Nov 11 2026. No macro, syntax, notation, axiom, sorry.
-/
import Derived.Test.YtjggdpnamakoeaaChecked
import GoSem.Claim
import GoSem.ClaimJoined
import GoSem.ClaimMapViews
import Derived.JoinedTies
import Derived.KernelRfl
namespace Go.Proofs.Ytjggdpnamakoeaa
/- THE CELL 'sum', in the pinned program and in every row, IS THE sha256 OF THE DUMP (.gsa) THAT YtjggdpnamakoeaaProg.lean LOADS. Nothing in Lean hashes anything: it is a label: what it is worth is what the hold of that sum in a sandbox is worth. -/
noncomputable def Try.pinned : Pinned := { name := "ytjggdpnamakoeaa", sum := "bd0556538e5044457bba90e6fc4c2a3c3de4f5623fe83ef78e62414b80ec0d78", checked := Try.checked }
namespace Rows
def none {H : Type} : Left H := { results := [], args := [] }

/-- 'vivariumkeep.WorldPuts': WHATEVER THE INPUT: true; the input reads as it did. -/
def worldPutsSpec : ChangeSpec := { name := "worldPuts", fn := fun _ => fun
  | [d1, d2, d3, d4] => { results := [.lit (.bool true)], args := [d1, d2, d3, d4] }
  | _ => none }
def worldPutsRow : OpenClaim := { program := "ytjggdpnamakoeaa", sum := "bd0556538e5044457bba90e6fc4c2a3c3de4f5623fe83ef78e62414b80ec0d78", func := "vivarium/vivariumkeep.WorldPuts", spec := "worldPuts", unfollowed := true, recurses := true, apart := false }
def WorldPutsSaid : Prop := worldPutsRow.holds Try.pinned (OpenSpec.ofChange worldPutsSpec)

/-- ITS FALSE NEIGHBOUR: 'it returns false'. Refute it at one input. -/
def worldPutsWrong : ChangeSpec := { name := "worldPuts", fn := fun _ => fun
  | [d1, d2, d3, d4] => { results := [.lit (.bool false)], args := [d1, d2, d3, d4] }
  | _ => none }
def WorldPutsWrongFalsely : Prop := worldPutsRow.holds Try.pinned (OpenSpec.ofChange worldPutsWrong)

/-- 'vivariumkeep.WorldDrops': WHATEVER THE INPUT: true; the input reads as it did. -/
def worldDropsSpec : ChangeSpec := { name := "worldDrops", fn := fun _ => fun
  | [d1, d2, d3, d4] => { results := [.lit (.bool true)], args := [d1, d2, d3, d4] }
  | _ => none }
def worldDropsRow : OpenClaim := { program := "ytjggdpnamakoeaa", sum := "bd0556538e5044457bba90e6fc4c2a3c3de4f5623fe83ef78e62414b80ec0d78", func := "vivarium/vivariumkeep.WorldDrops", spec := "worldDrops", unfollowed := true, recurses := true, apart := false }
def WorldDropsSaid : Prop := worldDropsRow.holds Try.pinned (OpenSpec.ofChange worldDropsSpec)

/-- ITS FALSE NEIGHBOUR: 'it returns false'. Refute it at one input. -/
def worldDropsWrong : ChangeSpec := { name := "worldDrops", fn := fun _ => fun
  | [d1, d2, d3, d4] => { results := [.lit (.bool false)], args := [d1, d2, d3, d4] }
  | _ => none }
def WorldDropsWrongFalsely : Prop := worldDropsRow.holds Try.pinned (OpenSpec.ofChange worldDropsWrong)

/-- 'vivariumkeep.WorldParts': WHATEVER THE INPUT: true; the input reads as it did. -/
def worldPartsSpec : ChangeSpec := { name := "worldParts", fn := fun _ => fun
  | [d1, d2, d3] => { results := [.lit (.bool true)], args := [d1, d2, d3] }
  | _ => none }
def worldPartsRow : OpenClaim := { program := "ytjggdpnamakoeaa", sum := "bd0556538e5044457bba90e6fc4c2a3c3de4f5623fe83ef78e62414b80ec0d78", func := "vivarium/vivariumkeep.WorldParts", spec := "worldParts", unfollowed := true, recurses := true, apart := false }
def WorldPartsSaid : Prop := worldPartsRow.holds Try.pinned (OpenSpec.ofChange worldPartsSpec)

/-- ITS FALSE NEIGHBOUR: 'it returns false'. Refute it at one input. -/
def worldPartsWrong : ChangeSpec := { name := "worldParts", fn := fun _ => fun
  | [d1, d2, d3] => { results := [.lit (.bool false)], args := [d1, d2, d3] }
  | _ => none }
def WorldPartsWrongFalsely : Prop := worldPartsRow.holds Try.pinned (OpenSpec.ofChange worldPartsWrong)

/-- 'vivariumkeep.WorldKills': WHATEVER THE INPUT: true; the input reads as it did. -/
def worldKillsSpec : ChangeSpec := { name := "worldKills", fn := fun _ => fun
  | [d1, d2, d3] => { results := [.lit (.bool true)], args := [d1, d2, d3] }
  | _ => none }
def worldKillsRow : OpenClaim := { program := "ytjggdpnamakoeaa", sum := "bd0556538e5044457bba90e6fc4c2a3c3de4f5623fe83ef78e62414b80ec0d78", func := "vivarium/vivariumkeep.WorldKills", spec := "worldKills", unfollowed := true, recurses := true, apart := false }
def WorldKillsSaid : Prop := worldKillsRow.holds Try.pinned (OpenSpec.ofChange worldKillsSpec)

/-- ITS FALSE NEIGHBOUR: 'it returns false'. Refute it at one input. -/
def worldKillsWrong : ChangeSpec := { name := "worldKills", fn := fun _ => fun
  | [d1, d2, d3] => { results := [.lit (.bool false)], args := [d1, d2, d3] }
  | _ => none }
def WorldKillsWrongFalsely : Prop := worldKillsRow.holds Try.pinned (OpenSpec.ofChange worldKillsWrong)

/-- 'vivariumkeep.WorldOrder': WHATEVER THE INPUT: true; the input reads as it did. -/
def worldOrderSpec : ChangeSpec := { name := "worldOrder", fn := fun _ => fun
  | [d] => { results := [.lit (.bool true)], args := [d] }
  | _ => none }
def worldOrderRow : OpenClaim := { program := "ytjggdpnamakoeaa", sum := "bd0556538e5044457bba90e6fc4c2a3c3de4f5623fe83ef78e62414b80ec0d78", func := "vivarium/vivariumkeep.WorldOrder", spec := "worldOrder", unfollowed := true, recurses := true, apart := false }
def WorldOrderSaid : Prop := worldOrderRow.holds Try.pinned (OpenSpec.ofChange worldOrderSpec)

/-- ITS FALSE NEIGHBOUR: 'it returns false'. Refute it at one input. -/
def worldOrderWrong : ChangeSpec := { name := "worldOrder", fn := fun _ => fun
  | [d] => { results := [.lit (.bool false)], args := [d] }
  | _ => none }
def WorldOrderWrongFalsely : Prop := worldOrderRow.holds Try.pinned (OpenSpec.ofChange worldOrderWrong)

/-- 'vivariumkeep.WorldBack': WHATEVER THE INPUT: true; the input reads as it did. -/
def worldBackSpec : ChangeSpec := { name := "worldBack", fn := fun _ => fun
  | [d1, d2] => { results := [.lit (.bool true)], args := [d1, d2] }
  | _ => none }
def worldBackRow : OpenClaim := { program := "ytjggdpnamakoeaa", sum := "bd0556538e5044457bba90e6fc4c2a3c3de4f5623fe83ef78e62414b80ec0d78", func := "vivarium/vivariumkeep.WorldBack", spec := "worldBack", unfollowed := true, recurses := true, apart := false }
def WorldBackSaid : Prop := worldBackRow.holds Try.pinned (OpenSpec.ofChange worldBackSpec)

/-- ITS FALSE NEIGHBOUR: 'it returns false'. Refute it at one input. -/
def worldBackWrong : ChangeSpec := { name := "worldBack", fn := fun _ => fun
  | [d1, d2] => { results := [.lit (.bool false)], args := [d1, d2] }
  | _ => none }
def WorldBackWrongFalsely : Prop := worldBackRow.holds Try.pinned (OpenSpec.ofChange worldBackWrong)

/- THE SECOND FORM. 'bulk': how many values and letters a reading holds, each counted each time it is reached (what is shared counts as often as it is met; a slice's spare places count too). A statement '..UptoSaid' is the law's where the arguments, and the package variables that the reading takes, are together of bulk at most 1048576: NARROWER than '..Said'. Prove '..Said' where nothing that the law and all that it calls make is longer than what came in: it says more and counts as full. Else prove '..UptoSaid'. A law counts once. -/
mutual
def uptoBulk {H : Type} : DataW H → Nat
  | .lit (.string bytes) => bytes.length + 1
  | .lit _ => 1
  | .nil => 1
  | .ptr d => uptoBulk d + 1
  | .slice elems spare => uptoBulkAll elems + uptoBulkAll spare + 1
  | .agg parts => uptoBulkAll parts + 1
  | .iface _ d => uptoBulk d + 1
  | .map entries => uptoBulkEntries entries + 1
  | .held _ => 1
def uptoBulkAll {H : Type} : List (DataW H) → Nat
  | [] => 0
  | d :: r => uptoBulk d + uptoBulkAll r
def uptoBulkEntries {H : Type} : List (Lit × DataW H) → Nat
  | [] => 0
  | x :: r => uptoBulkEntry x + uptoBulkEntries r
def uptoBulkEntry {H : Type} : Lit × DataW H → Nat
  | (.string bytes, d) => bytes.length + uptoBulk d + 1
  | (_, d) => uptoBulk d + 1
 end
def uptoSmall : (H : Type) → List (DataW H) → Bool := fun _ ds => decide (uptoBulkAll ds ≤ 1048576)
def OpenSpec.upto (s : _root_.Go.ChangeSpec) : _root_.Go.OpenSpec := { _root_.Go.OpenSpec.ofChange s with cond := some uptoSmall }

/-- 'vivariumkeep.WorldPuts', WHERE WHAT IT READS IS OF BULK AT MOST 1048576: true; the input reads as it did. -/
def worldPutsUptoRow : OpenClaim := { program := "ytjggdpnamakoeaa", sum := "bd0556538e5044457bba90e6fc4c2a3c3de4f5623fe83ef78e62414b80ec0d78", func := "vivarium/vivariumkeep.WorldPuts", spec := "worldPuts", unfollowed := true, recurses := true, apart := false, narrowed := true }
def WorldPutsUptoSaid : Prop := worldPutsUptoRow.holds Try.pinned (OpenSpec.upto worldPutsSpec)

/-- 'vivariumkeep.WorldDrops', WHERE WHAT IT READS IS OF BULK AT MOST 1048576: true; the input reads as it did. -/
def worldDropsUptoRow : OpenClaim := { program := "ytjggdpnamakoeaa", sum := "bd0556538e5044457bba90e6fc4c2a3c3de4f5623fe83ef78e62414b80ec0d78", func := "vivarium/vivariumkeep.WorldDrops", spec := "worldDrops", unfollowed := true, recurses := true, apart := false, narrowed := true }
def WorldDropsUptoSaid : Prop := worldDropsUptoRow.holds Try.pinned (OpenSpec.upto worldDropsSpec)

/-- 'vivariumkeep.WorldParts', WHERE WHAT IT READS IS OF BULK AT MOST 1048576: true; the input reads as it did. -/
def worldPartsUptoRow : OpenClaim := { program := "ytjggdpnamakoeaa", sum := "bd0556538e5044457bba90e6fc4c2a3c3de4f5623fe83ef78e62414b80ec0d78", func := "vivarium/vivariumkeep.WorldParts", spec := "worldParts", unfollowed := true, recurses := true, apart := false, narrowed := true }
def WorldPartsUptoSaid : Prop := worldPartsUptoRow.holds Try.pinned (OpenSpec.upto worldPartsSpec)

/-- 'vivariumkeep.WorldKills', WHERE WHAT IT READS IS OF BULK AT MOST 1048576: true; the input reads as it did. -/
def worldKillsUptoRow : OpenClaim := { program := "ytjggdpnamakoeaa", sum := "bd0556538e5044457bba90e6fc4c2a3c3de4f5623fe83ef78e62414b80ec0d78", func := "vivarium/vivariumkeep.WorldKills", spec := "worldKills", unfollowed := true, recurses := true, apart := false, narrowed := true }
def WorldKillsUptoSaid : Prop := worldKillsUptoRow.holds Try.pinned (OpenSpec.upto worldKillsSpec)

/-- 'vivariumkeep.WorldOrder', WHERE WHAT IT READS IS OF BULK AT MOST 1048576: true; the input reads as it did. -/
def worldOrderUptoRow : OpenClaim := { program := "ytjggdpnamakoeaa", sum := "bd0556538e5044457bba90e6fc4c2a3c3de4f5623fe83ef78e62414b80ec0d78", func := "vivarium/vivariumkeep.WorldOrder", spec := "worldOrder", unfollowed := true, recurses := true, apart := false, narrowed := true }
def WorldOrderUptoSaid : Prop := worldOrderUptoRow.holds Try.pinned (OpenSpec.upto worldOrderSpec)

/-- 'vivariumkeep.WorldBack', WHERE WHAT IT READS IS OF BULK AT MOST 1048576: true; the input reads as it did. -/
def worldBackUptoRow : OpenClaim := { program := "ytjggdpnamakoeaa", sum := "bd0556538e5044457bba90e6fc4c2a3c3de4f5623fe83ef78e62414b80ec0d78", func := "vivarium/vivariumkeep.WorldBack", spec := "worldBack", unfollowed := true, recurses := true, apart := false, narrowed := true }
def WorldBackUptoSaid : Prop := worldBackUptoRow.holds Try.pinned (OpenSpec.upto worldBackSpec)

end Rows
end Go.Proofs.Ytjggdpnamakoeaa
