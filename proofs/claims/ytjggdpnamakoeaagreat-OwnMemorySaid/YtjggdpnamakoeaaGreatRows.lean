/-
  No cell of these rows narrows 'for every input' (looked for: loops, veiled, ifaces, maps, wideKeys, modest, calm, conditions, laid).
  DERIVED. THE GIVEN ROWS OF THIS SEAT. 6 by the template 'for every input the law returns true; each argument reads behind the call as it read before'; 0 by the template 'total and deterministic' (their statements: YtjggdpnamakoeaaGreatTotals.lean).
  GIVEN WITH THE SEED: the statements are not yours to turn. If you find one false, say at which input.
  Laid BY PROGRAM, IN A SANDBOX (cutbox-rows.mjs): the forced cells as the released guide's own fill.sh prints them over the translation 1b72b496e2a0e5ab… (all of the seat's roots in one cut). By AI agents, Wed Nov 11 2026. No macro, syntax, notation, axiom, sorry.
-/
import Derived.Test.YtjggdpnamakoeaaGreatChecked
import GoSem.Claim
import GoSem.ClaimJoined
import GoSem.ClaimMapViews
import Derived.JoinedTies
import Derived.KernelRfl
namespace Go.Proofs.YtjggdpnamakoeaaGreat
/- THE CELL 'sum', in the pinned program and in every row, IS THE sha256 OF THE DUMP (.gsa) THAT YtjggdpnamakoeaaGreatProg.lean LOADS. Nothing in Lean hashes anything: it is a label: what it is worth is what the hold of that sum in a sandbox is worth. -/
noncomputable def Tryz.pinned : Pinned := { name := "ytjggdpnamakoeaagreat", sum := "1b72b496e2a0e5ab4576bb3fcd04a574b748e934650dcfee9c2631f203a523fd", checked := Tryz.checked }
namespace Rows
def none {H : Type} : Left H := { results := [], args := [] }

/-- 'vivariumkeep.ZooMay': WHATEVER THE INPUT: true; the input reads as it did. -/
def zooMaySpec : ChangeSpec := { name := "zooMay", fn := fun _ => fun
  | [d] => { results := [.lit (.bool true)], args := [d] }
  | _ => none }
def zooMayRow : OpenClaim := { program := "ytjggdpnamakoeaagreat", sum := "1b72b496e2a0e5ab4576bb3fcd04a574b748e934650dcfee9c2631f203a523fd", func := "vivarium/vivariumkeep.ZooMay", spec := "zooMay", unfollowed := true, recurses := true, plainKeys := false, apart := false }
def ZooMaySaid : Prop := zooMayRow.holds Tryz.pinned (OpenSpec.ofChange zooMaySpec)

/-- ITS FALSE NEIGHBOUR: 'it returns false'. Refute it at one input. -/
def zooMayWrong : ChangeSpec := { name := "zooMay", fn := fun _ => fun
  | [d] => { results := [.lit (.bool false)], args := [d] }
  | _ => none }
def ZooMayWrongFalsely : Prop := zooMayRow.holds Tryz.pinned (OpenSpec.ofChange zooMayWrong)

/-- 'vivariumkeep.ZooRefused': WHATEVER THE INPUT: true; the input reads as it did. -/
def zooRefusedSpec : ChangeSpec := { name := "zooRefused", fn := fun _ => fun
  | [d1, d2] => { results := [.lit (.bool true)], args := [d1, d2] }
  | _ => none }
def zooRefusedRow : OpenClaim := { program := "ytjggdpnamakoeaagreat", sum := "1b72b496e2a0e5ab4576bb3fcd04a574b748e934650dcfee9c2631f203a523fd", func := "vivarium/vivariumkeep.ZooRefused", spec := "zooRefused", unfollowed := true, recurses := true, plainKeys := false, apart := false }
def ZooRefusedSaid : Prop := zooRefusedRow.holds Tryz.pinned (OpenSpec.ofChange zooRefusedSpec)

/-- ITS FALSE NEIGHBOUR: 'it returns false'. Refute it at one input. -/
def zooRefusedWrong : ChangeSpec := { name := "zooRefused", fn := fun _ => fun
  | [d1, d2] => { results := [.lit (.bool false)], args := [d1, d2] }
  | _ => none }
def ZooRefusedWrongFalsely : Prop := zooRefusedRow.holds Tryz.pinned (OpenSpec.ofChange zooRefusedWrong)

/-- 'vivariumkeep.ZooBonds': WHATEVER THE INPUT: true; the input reads as it did. -/
def zooBondsSpec : ChangeSpec := { name := "zooBonds", fn := fun _ => fun
  | [d1, d2] => { results := [.lit (.bool true)], args := [d1, d2] }
  | _ => none }
def zooBondsRow : OpenClaim := { program := "ytjggdpnamakoeaagreat", sum := "1b72b496e2a0e5ab4576bb3fcd04a574b748e934650dcfee9c2631f203a523fd", func := "vivarium/vivariumkeep.ZooBonds", spec := "zooBonds", unfollowed := true, recurses := true, plainKeys := false, apart := false }
def ZooBondsSaid : Prop := zooBondsRow.holds Tryz.pinned (OpenSpec.ofChange zooBondsSpec)

/-- ITS FALSE NEIGHBOUR: 'it returns false'. Refute it at one input. -/
def zooBondsWrong : ChangeSpec := { name := "zooBonds", fn := fun _ => fun
  | [d1, d2] => { results := [.lit (.bool false)], args := [d1, d2] }
  | _ => none }
def ZooBondsWrongFalsely : Prop := zooBondsRow.holds Tryz.pinned (OpenSpec.ofChange zooBondsWrong)

/-- 'vivariumkeep.ZooAtomic': WHATEVER THE INPUT: true; the input reads as it did. -/
def zooAtomicSpec : ChangeSpec := { name := "zooAtomic", fn := fun _ => fun
  | [d1, d2] => { results := [.lit (.bool true)], args := [d1, d2] }
  | _ => none }
def zooAtomicRow : OpenClaim := { program := "ytjggdpnamakoeaagreat", sum := "1b72b496e2a0e5ab4576bb3fcd04a574b748e934650dcfee9c2631f203a523fd", func := "vivarium/vivariumkeep.ZooAtomic", spec := "zooAtomic", unfollowed := true, recurses := true, plainKeys := false, apart := false }
def ZooAtomicSaid : Prop := zooAtomicRow.holds Tryz.pinned (OpenSpec.ofChange zooAtomicSpec)

/-- ITS FALSE NEIGHBOUR: 'it returns false'. Refute it at one input. -/
def zooAtomicWrong : ChangeSpec := { name := "zooAtomic", fn := fun _ => fun
  | [d1, d2] => { results := [.lit (.bool false)], args := [d1, d2] }
  | _ => none }
def ZooAtomicWrongFalsely : Prop := zooAtomicRow.holds Tryz.pinned (OpenSpec.ofChange zooAtomicWrong)

/-- 'vivariumkeep.ZooParts': WHATEVER THE INPUT: true; the input reads as it did. -/
def zooPartsSpec : ChangeSpec := { name := "zooParts", fn := fun _ => fun
  | [d1, d2] => { results := [.lit (.bool true)], args := [d1, d2] }
  | _ => none }
def zooPartsRow : OpenClaim := { program := "ytjggdpnamakoeaagreat", sum := "1b72b496e2a0e5ab4576bb3fcd04a574b748e934650dcfee9c2631f203a523fd", func := "vivarium/vivariumkeep.ZooParts", spec := "zooParts", unfollowed := true, recurses := true, plainKeys := false, apart := false }
def ZooPartsSaid : Prop := zooPartsRow.holds Tryz.pinned (OpenSpec.ofChange zooPartsSpec)

/-- ITS FALSE NEIGHBOUR: 'it returns false'. Refute it at one input. -/
def zooPartsWrong : ChangeSpec := { name := "zooParts", fn := fun _ => fun
  | [d1, d2] => { results := [.lit (.bool false)], args := [d1, d2] }
  | _ => none }
def ZooPartsWrongFalsely : Prop := zooPartsRow.holds Tryz.pinned (OpenSpec.ofChange zooPartsWrong)

/-- 'vivariumkeep.OwnMemory': WHATEVER THE INPUT: true; the input reads as it did. -/
def ownMemorySpec : ChangeSpec := { name := "ownMemory", fn := fun _ => fun
  | [d1, d2] => { results := [.lit (.bool true)], args := [d1, d2] }
  | _ => none }
def ownMemoryRow : OpenClaim := { program := "ytjggdpnamakoeaagreat", sum := "1b72b496e2a0e5ab4576bb3fcd04a574b748e934650dcfee9c2631f203a523fd", func := "vivarium/vivariumkeep.OwnMemory", spec := "ownMemory", inPlace := ["maps.clone"], unfollowed := true, recurses := true, plainKeys := false, apart := false }
def OwnMemorySaid : Prop := ownMemoryRow.holds Tryz.pinned (OpenSpec.ofChange ownMemorySpec)

/-- ITS FALSE NEIGHBOUR: 'it returns false'. Refute it at one input. -/
def ownMemoryWrong : ChangeSpec := { name := "ownMemory", fn := fun _ => fun
  | [d1, d2] => { results := [.lit (.bool false)], args := [d1, d2] }
  | _ => none }
def OwnMemoryWrongFalsely : Prop := ownMemoryRow.holds Tryz.pinned (OpenSpec.ofChange ownMemoryWrong)

/- THE SECOND FORM. 'bulk': how many values and letters a reading holds, each counted each time it is reached (what is shared counts as often as it is met; a slice's spare places count too). A statement '..UptoSaid' is the law's where the arguments, and the package variables that the reading takes, are together of bulk at most 1048576: NARROWER than '..Said'. Prove '..Said' where nothing that the law and all that it calls make is longer than what came in: it says more and counts as full. Else prove '..UptoSaid'. A law counts once. -/
mutual
def uptoBulk {H : Type} : DataW H → Nat
  | .lit (.string bytes) => bytes.length + 1
  | .lit _ => 1
  | .nil => 1
  | .ptr d => uptoBulk d + 1
  | .slice elems spare => uptoBulkAll elems + uptoBulkAll spare + 1
  | .agg parts => uptoBulkAll parts + 1
  | .iface _ d => uptoBulk d + 1
  | .map entries => uptoBulkEntries entries + 1
  | .held _ => 1
def uptoBulkAll {H : Type} : List (DataW H) → Nat
  | [] => 0
  | d :: r => uptoBulk d + uptoBulkAll r
def uptoBulkEntries {H : Type} : List (Lit × DataW H) → Nat
  | [] => 0
  | x :: r => uptoBulkEntry x + uptoBulkEntries r
def uptoBulkEntry {H : Type} : Lit × DataW H → Nat
  | (.string bytes, d) => bytes.length + uptoBulk d + 1
  | (_, d) => uptoBulk d + 1
 end
def uptoSmall : (H : Type) → List (DataW H) → Bool := fun _ ds => decide (uptoBulkAll ds ≤ 1048576)
def OpenSpec.upto (s : _root_.Go.ChangeSpec) : _root_.Go.OpenSpec := { _root_.Go.OpenSpec.ofChange s with cond := some uptoSmall }

/-- 'vivariumkeep.ZooMay', WHERE WHAT IT READS IS OF BULK AT MOST 1048576: true; the input reads as it did. -/
def zooMayUptoRow : OpenClaim := { program := "ytjggdpnamakoeaagreat", sum := "1b72b496e2a0e5ab4576bb3fcd04a574b748e934650dcfee9c2631f203a523fd", func := "vivarium/vivariumkeep.ZooMay", spec := "zooMay", unfollowed := true, recurses := true, plainKeys := false, apart := false, narrowed := true }
def ZooMayUptoSaid : Prop := zooMayUptoRow.holds Tryz.pinned (OpenSpec.upto zooMaySpec)

/-- 'vivariumkeep.ZooRefused', WHERE WHAT IT READS IS OF BULK AT MOST 1048576: true; the input reads as it did. -/
def zooRefusedUptoRow : OpenClaim := { program := "ytjggdpnamakoeaagreat", sum := "1b72b496e2a0e5ab4576bb3fcd04a574b748e934650dcfee9c2631f203a523fd", func := "vivarium/vivariumkeep.ZooRefused", spec := "zooRefused", unfollowed := true, recurses := true, plainKeys := false, apart := false, narrowed := true }
def ZooRefusedUptoSaid : Prop := zooRefusedUptoRow.holds Tryz.pinned (OpenSpec.upto zooRefusedSpec)

/-- 'vivariumkeep.ZooBonds', WHERE WHAT IT READS IS OF BULK AT MOST 1048576: true; the input reads as it did. -/
def zooBondsUptoRow : OpenClaim := { program := "ytjggdpnamakoeaagreat", sum := "1b72b496e2a0e5ab4576bb3fcd04a574b748e934650dcfee9c2631f203a523fd", func := "vivarium/vivariumkeep.ZooBonds", spec := "zooBonds", unfollowed := true, recurses := true, plainKeys := false, apart := false, narrowed := true }
def ZooBondsUptoSaid : Prop := zooBondsUptoRow.holds Tryz.pinned (OpenSpec.upto zooBondsSpec)

/-- 'vivariumkeep.ZooAtomic', WHERE WHAT IT READS IS OF BULK AT MOST 1048576: true; the input reads as it did. -/
def zooAtomicUptoRow : OpenClaim := { program := "ytjggdpnamakoeaagreat", sum := "1b72b496e2a0e5ab4576bb3fcd04a574b748e934650dcfee9c2631f203a523fd", func := "vivarium/vivariumkeep.ZooAtomic", spec := "zooAtomic", unfollowed := true, recurses := true, plainKeys := false, apart := false, narrowed := true }
def ZooAtomicUptoSaid : Prop := zooAtomicUptoRow.holds Tryz.pinned (OpenSpec.upto zooAtomicSpec)

/-- 'vivariumkeep.ZooParts', WHERE WHAT IT READS IS OF BULK AT MOST 1048576: true; the input reads as it did. -/
def zooPartsUptoRow : OpenClaim := { program := "ytjggdpnamakoeaagreat", sum := "1b72b496e2a0e5ab4576bb3fcd04a574b748e934650dcfee9c2631f203a523fd", func := "vivarium/vivariumkeep.ZooParts", spec := "zooParts", unfollowed := true, recurses := true, plainKeys := false, apart := false, narrowed := true }
def ZooPartsUptoSaid : Prop := zooPartsUptoRow.holds Tryz.pinned (OpenSpec.upto zooPartsSpec)

/-- 'vivariumkeep.OwnMemory', WHERE WHAT IT READS IS OF BULK AT MOST 1048576: true; the input reads as it did. -/
def ownMemoryUptoRow : OpenClaim := { program := "ytjggdpnamakoeaagreat", sum := "1b72b496e2a0e5ab4576bb3fcd04a574b748e934650dcfee9c2631f203a523fd", func := "vivarium/vivariumkeep.OwnMemory", spec := "ownMemory", inPlace := ["maps.clone"], unfollowed := true, recurses := true, plainKeys := false, apart := false, narrowed := true }
def OwnMemoryUptoSaid : Prop := ownMemoryUptoRow.holds Tryz.pinned (OpenSpec.upto ownMemorySpec)

end Rows
end Go.Proofs.YtjggdpnamakoeaaGreat
