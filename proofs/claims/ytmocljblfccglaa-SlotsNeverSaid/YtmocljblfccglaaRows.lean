/-
  No cell of these rows narrows 'for every input' (looked for: loops, veiled, ifaces, maps, wideKeys, modest, calm, conditions, laid).
  DERIVED. THE GIVEN ROWS OF THIS SEAT. 11 by the template 'for every input the law returns true; each argument reads behind the call as it read before'; 0 by the template 'total and deterministic' (their statements: YtmocljblfccglaaTotals.lean).
  GIVEN WITH THE SEED: the statements are not yours to turn. If you find one false, say at which input.
  Laid BY PROGRAM, IN A SANDBOX (cutbox-rows.mjs): the forced cells as the released guide's own fill.sh prints them over the translation 7b6da57ee8256be6… (all of the seat's roots in one cut). By AI agents, Wed Nov 11 2026. No macro, syntax, notation, axiom, sorry.
-/
import Derived.Test.YtmocljblfccglaaChecked
import GoSem.Claim
import GoSem.ClaimJoined
import GoSem.ClaimMapViews
import Derived.JoinedTies
import Derived.KernelRfl
namespace Go.Proofs.Ytmocljblfccglaa
/- THE CELL 'sum', in the pinned program and in every row, IS THE sha256 OF THE DUMP (.gsa) THAT YtmocljblfccglaaProg.lean LOADS. Nothing in Lean hashes anything: it is a label: what it is worth is what the hold of that sum in a sandbox is worth. -/
noncomputable def Try.pinned : Pinned := { name := "ytmocljblfccglaa", sum := "7b6da57ee8256be648a583d1a364b006146d996c950b4ab498023bd6ed5ceb80", checked := Try.checked }
namespace Rows
def none {H : Type} : Left H := { results := [], args := [] }

/-- 'vivariumkeep.MaskBack': WHATEVER THE INPUT: true; the input reads as it did. -/
def maskBackSpec : ChangeSpec := { name := "maskBack", fn := fun _ => fun
  | [d1, d2] => { results := [.lit (.bool true)], args := [d1, d2] }
  | _ => none }
def maskBackRow : OpenClaim := { program := "ytmocljblfccglaa", sum := "7b6da57ee8256be648a583d1a364b006146d996c950b4ab498023bd6ed5ceb80", func := "vivarium/vivariumkeep.MaskBack", spec := "maskBack", plainKeys := false, apart := false }
def MaskBackSaid : Prop := maskBackRow.holds Try.pinned (OpenSpec.ofChange maskBackSpec)

/-- ITS FALSE NEIGHBOUR: 'it returns false'. Refute it at one input. -/
def maskBackWrong : ChangeSpec := { name := "maskBack", fn := fun _ => fun
  | [d1, d2] => { results := [.lit (.bool false)], args := [d1, d2] }
  | _ => none }
def MaskBackWrongFalsely : Prop := maskBackRow.holds Try.pinned (OpenSpec.ofChange maskBackWrong)

/-- 'vivariumkeep.MaskMore': WHATEVER THE INPUT: true; the input reads as it did. -/
def maskMoreSpec : ChangeSpec := { name := "maskMore", fn := fun _ => fun
  | [d1, d2, d3] => { results := [.lit (.bool true)], args := [d1, d2, d3] }
  | _ => none }
def maskMoreRow : OpenClaim := { program := "ytmocljblfccglaa", sum := "7b6da57ee8256be648a583d1a364b006146d996c950b4ab498023bd6ed5ceb80", func := "vivarium/vivariumkeep.MaskMore", spec := "maskMore", plainKeys := false, apart := false }
def MaskMoreSaid : Prop := maskMoreRow.holds Try.pinned (OpenSpec.ofChange maskMoreSpec)

/-- ITS FALSE NEIGHBOUR: 'it returns false'. Refute it at one input. -/
def maskMoreWrong : ChangeSpec := { name := "maskMore", fn := fun _ => fun
  | [d1, d2, d3] => { results := [.lit (.bool false)], args := [d1, d2, d3] }
  | _ => none }
def MaskMoreWrongFalsely : Prop := maskMoreRow.holds Try.pinned (OpenSpec.ofChange maskMoreWrong)

/-- 'vivariumkeep.MaskParts': WHATEVER THE INPUT: true; the input reads as it did. -/
def maskPartsSpec : ChangeSpec := { name := "maskParts", fn := fun _ => fun
  | [d1, d2] => { results := [.lit (.bool true)], args := [d1, d2] }
  | _ => none }
def maskPartsRow : OpenClaim := { program := "ytmocljblfccglaa", sum := "7b6da57ee8256be648a583d1a364b006146d996c950b4ab498023bd6ed5ceb80", func := "vivarium/vivariumkeep.MaskParts", spec := "maskParts", plainKeys := false, apart := false }
def MaskPartsSaid : Prop := maskPartsRow.holds Try.pinned (OpenSpec.ofChange maskPartsSpec)

/-- ITS FALSE NEIGHBOUR: 'it returns false'. Refute it at one input. -/
def maskPartsWrong : ChangeSpec := { name := "maskParts", fn := fun _ => fun
  | [d1, d2] => { results := [.lit (.bool false)], args := [d1, d2] }
  | _ => none }
def MaskPartsWrongFalsely : Prop := maskPartsRow.holds Try.pinned (OpenSpec.ofChange maskPartsWrong)

/-- 'vivariumkeep.SlotsNever': WHATEVER THE INPUT: true; the input reads as it did. -/
def slotsNeverSpec : ChangeSpec := { name := "slotsNever", fn := fun _ => fun
  | [d] => { results := [.lit (.bool true)], args := [d] }
  | _ => none }
def slotsNeverRow : OpenClaim := { program := "ytmocljblfccglaa", sum := "7b6da57ee8256be648a583d1a364b006146d996c950b4ab498023bd6ed5ceb80", func := "vivarium/vivariumkeep.SlotsNever", spec := "slotsNever", unfollowed := true, recurses := true, plainKeys := false, apart := false }
def SlotsNeverSaid : Prop := slotsNeverRow.holds Try.pinned (OpenSpec.ofChange slotsNeverSpec)

/-- ITS FALSE NEIGHBOUR: 'it returns false'. Refute it at one input. -/
def slotsNeverWrong : ChangeSpec := { name := "slotsNever", fn := fun _ => fun
  | [d] => { results := [.lit (.bool false)], args := [d] }
  | _ => none }
def SlotsNeverWrongFalsely : Prop := slotsNeverRow.holds Try.pinned (OpenSpec.ofChange slotsNeverWrong)

/-- 'vivariumkeep.SlotsLeast': WHATEVER THE INPUT: true; the input reads as it did. -/
def slotsLeastSpec : ChangeSpec := { name := "slotsLeast", fn := fun _ => fun
  | [d] => { results := [.lit (.bool true)], args := [d] }
  | _ => none }
def slotsLeastRow : OpenClaim := { program := "ytmocljblfccglaa", sum := "7b6da57ee8256be648a583d1a364b006146d996c950b4ab498023bd6ed5ceb80", func := "vivarium/vivariumkeep.SlotsLeast", spec := "slotsLeast", unfollowed := true, recurses := true, plainKeys := false, apart := false }
def SlotsLeastSaid : Prop := slotsLeastRow.holds Try.pinned (OpenSpec.ofChange slotsLeastSpec)

/-- ITS FALSE NEIGHBOUR: 'it returns false'. Refute it at one input. -/
def slotsLeastWrong : ChangeSpec := { name := "slotsLeast", fn := fun _ => fun
  | [d] => { results := [.lit (.bool false)], args := [d] }
  | _ => none }
def SlotsLeastWrongFalsely : Prop := slotsLeastRow.holds Try.pinned (OpenSpec.ofChange slotsLeastWrong)

/-- 'vivariumkeep.SlotsBack': WHATEVER THE INPUT: true; the input reads as it did. -/
def slotsBackSpec : ChangeSpec := { name := "slotsBack", fn := fun _ => fun
  | [d] => { results := [.lit (.bool true)], args := [d] }
  | _ => none }
def slotsBackRow : OpenClaim := { program := "ytmocljblfccglaa", sum := "7b6da57ee8256be648a583d1a364b006146d996c950b4ab498023bd6ed5ceb80", func := "vivarium/vivariumkeep.SlotsBack", spec := "slotsBack", unfollowed := true, recurses := true, plainKeys := false, apart := false }
def SlotsBackSaid : Prop := slotsBackRow.holds Try.pinned (OpenSpec.ofChange slotsBackSpec)

/-- ITS FALSE NEIGHBOUR: 'it returns false'. Refute it at one input. -/
def slotsBackWrong : ChangeSpec := { name := "slotsBack", fn := fun _ => fun
  | [d] => { results := [.lit (.bool false)], args := [d] }
  | _ => none }
def SlotsBackWrongFalsely : Prop := slotsBackRow.holds Try.pinned (OpenSpec.ofChange slotsBackWrong)

/-- 'vivariumkeep.SystemKeeps': WHATEVER THE INPUT: true; the input reads as it did. -/
def systemKeepsSpec : ChangeSpec := { name := "systemKeeps", fn := fun _ => fun
  | [d1, d2] => { results := [.lit (.bool true)], args := [d1, d2] }
  | _ => none }
def systemKeepsRow : OpenClaim := { program := "ytmocljblfccglaa", sum := "7b6da57ee8256be648a583d1a364b006146d996c950b4ab498023bd6ed5ceb80", func := "vivarium/vivariumkeep.SystemKeeps", spec := "systemKeeps", plainKeys := false, apart := false }
def SystemKeepsSaid : Prop := systemKeepsRow.holds Try.pinned (OpenSpec.ofChange systemKeepsSpec)

/-- ITS FALSE NEIGHBOUR: 'it returns false'. Refute it at one input. -/
def systemKeepsWrong : ChangeSpec := { name := "systemKeeps", fn := fun _ => fun
  | [d1, d2] => { results := [.lit (.bool false)], args := [d1, d2] }
  | _ => none }
def SystemKeepsWrongFalsely : Prop := systemKeepsRow.holds Try.pinned (OpenSpec.ofChange systemKeepsWrong)

/-- 'vivariumkeep.SystemRaise': WHATEVER THE INPUT: true; the input reads as it did. -/
def systemRaiseSpec : ChangeSpec := { name := "systemRaise", fn := fun _ => fun
  | [d1, d2, d3] => { results := [.lit (.bool true)], args := [d1, d2, d3] }
  | _ => none }
def systemRaiseRow : OpenClaim := { program := "ytmocljblfccglaa", sum := "7b6da57ee8256be648a583d1a364b006146d996c950b4ab498023bd6ed5ceb80", func := "vivarium/vivariumkeep.SystemRaise", spec := "systemRaise", plainKeys := false, apart := false }
def SystemRaiseSaid : Prop := systemRaiseRow.holds Try.pinned (OpenSpec.ofChange systemRaiseSpec)

/-- ITS FALSE NEIGHBOUR: 'it returns false'. Refute it at one input. -/
def systemRaiseWrong : ChangeSpec := { name := "systemRaise", fn := fun _ => fun
  | [d1, d2, d3] => { results := [.lit (.bool false)], args := [d1, d2, d3] }
  | _ => none }
def SystemRaiseWrongFalsely : Prop := systemRaiseRow.holds Try.pinned (OpenSpec.ofChange systemRaiseWrong)

/-- 'vivariumkeep.SystemApart': WHATEVER THE INPUT: true; the input reads as it did. -/
def systemApartSpec : ChangeSpec := { name := "systemApart", fn := fun _ => fun
  | [d1, d2, d3] => { results := [.lit (.bool true)], args := [d1, d2, d3] }
  | _ => none }
def systemApartRow : OpenClaim := { program := "ytmocljblfccglaa", sum := "7b6da57ee8256be648a583d1a364b006146d996c950b4ab498023bd6ed5ceb80", func := "vivarium/vivariumkeep.SystemApart", spec := "systemApart", plainKeys := false, apart := false }
def SystemApartSaid : Prop := systemApartRow.holds Try.pinned (OpenSpec.ofChange systemApartSpec)

/-- ITS FALSE NEIGHBOUR: 'it returns false'. Refute it at one input. -/
def systemApartWrong : ChangeSpec := { name := "systemApart", fn := fun _ => fun
  | [d1, d2, d3] => { results := [.lit (.bool false)], args := [d1, d2, d3] }
  | _ => none }
def SystemApartWrongFalsely : Prop := systemApartRow.holds Try.pinned (OpenSpec.ofChange systemApartWrong)

/-- 'vivariumkeep.SystemRound': WHATEVER THE INPUT: true; the input reads as it did. -/
def systemRoundSpec : ChangeSpec := { name := "systemRound", fn := fun _ => fun
  | [d1, d2] => { results := [.lit (.bool true)], args := [d1, d2] }
  | _ => none }
def systemRoundRow : OpenClaim := { program := "ytmocljblfccglaa", sum := "7b6da57ee8256be648a583d1a364b006146d996c950b4ab498023bd6ed5ceb80", func := "vivarium/vivariumkeep.SystemRound", spec := "systemRound", plainKeys := false, apart := false }
def SystemRoundSaid : Prop := systemRoundRow.holds Try.pinned (OpenSpec.ofChange systemRoundSpec)

/-- ITS FALSE NEIGHBOUR: 'it returns false'. Refute it at one input. -/
def systemRoundWrong : ChangeSpec := { name := "systemRound", fn := fun _ => fun
  | [d1, d2] => { results := [.lit (.bool false)], args := [d1, d2] }
  | _ => none }
def SystemRoundWrongFalsely : Prop := systemRoundRow.holds Try.pinned (OpenSpec.ofChange systemRoundWrong)

/-- 'vivariumkeep.SystemBatches': WHATEVER THE INPUT: true; the input reads as it did. -/
def systemBatchesSpec : ChangeSpec := { name := "systemBatches", fn := fun _ => fun
  | [d] => { results := [.lit (.bool true)], args := [d] }
  | _ => none }
def systemBatchesRow : OpenClaim := { program := "ytmocljblfccglaa", sum := "7b6da57ee8256be648a583d1a364b006146d996c950b4ab498023bd6ed5ceb80", func := "vivarium/vivariumkeep.SystemBatches", spec := "systemBatches", plainKeys := false, apart := false }
def SystemBatchesSaid : Prop := systemBatchesRow.holds Try.pinned (OpenSpec.ofChange systemBatchesSpec)

/-- ITS FALSE NEIGHBOUR: 'it returns false'. Refute it at one input. -/
def systemBatchesWrong : ChangeSpec := { name := "systemBatches", fn := fun _ => fun
  | [d] => { results := [.lit (.bool false)], args := [d] }
  | _ => none }
def SystemBatchesWrongFalsely : Prop := systemBatchesRow.holds Try.pinned (OpenSpec.ofChange systemBatchesWrong)

/- THE SECOND FORM. 'bulk': how many values and letters a reading holds, each counted each time it is reached (what is shared counts as often as it is met; a slice's spare places count too). A statement '..UptoSaid' is the law's where the arguments, and the package variables that the reading takes, are together of bulk at most 1048576: NARROWER than '..Said'. Prove '..Said' where nothing that the law and all that it calls make is longer than what came in: it says more and counts as full. Else prove '..UptoSaid'. A law counts once. -/
mutual
def uptoBulk {H : Type} : DataW H → Nat
  | .lit (.string bytes) => bytes.length + 1
  | .lit _ => 1
  | .nil => 1
  | .ptr d => uptoBulk d + 1
  | .slice elems spare => uptoBulkAll elems + uptoBulkAll spare + 1
  | .agg parts => uptoBulkAll parts + 1
  | .iface _ d => uptoBulk d + 1
  | .map entries => uptoBulkEntries entries + 1
  | .held _ => 1
def uptoBulkAll {H : Type} : List (DataW H) → Nat
  | [] => 0
  | d :: r => uptoBulk d + uptoBulkAll r
def uptoBulkEntries {H : Type} : List (Lit × DataW H) → Nat
  | [] => 0
  | x :: r => uptoBulkEntry x + uptoBulkEntries r
def uptoBulkEntry {H : Type} : Lit × DataW H → Nat
  | (.string bytes, d) => bytes.length + uptoBulk d + 1
  | (_, d) => uptoBulk d + 1
 end
def uptoSmall : (H : Type) → List (DataW H) → Bool := fun _ ds => decide (uptoBulkAll ds ≤ 1048576)
def OpenSpec.upto (s : _root_.Go.ChangeSpec) : _root_.Go.OpenSpec := { _root_.Go.OpenSpec.ofChange s with cond := some uptoSmall }

/-- 'vivariumkeep.MaskBack', WHERE WHAT IT READS IS OF BULK AT MOST 1048576: true; the input reads as it did. -/
def maskBackUptoRow : OpenClaim := { program := "ytmocljblfccglaa", sum := "7b6da57ee8256be648a583d1a364b006146d996c950b4ab498023bd6ed5ceb80", func := "vivarium/vivariumkeep.MaskBack", spec := "maskBack", plainKeys := false, apart := false, narrowed := true }
def MaskBackUptoSaid : Prop := maskBackUptoRow.holds Try.pinned (OpenSpec.upto maskBackSpec)

/-- 'vivariumkeep.MaskMore', WHERE WHAT IT READS IS OF BULK AT MOST 1048576: true; the input reads as it did. -/
def maskMoreUptoRow : OpenClaim := { program := "ytmocljblfccglaa", sum := "7b6da57ee8256be648a583d1a364b006146d996c950b4ab498023bd6ed5ceb80", func := "vivarium/vivariumkeep.MaskMore", spec := "maskMore", plainKeys := false, apart := false, narrowed := true }
def MaskMoreUptoSaid : Prop := maskMoreUptoRow.holds Try.pinned (OpenSpec.upto maskMoreSpec)

/-- 'vivariumkeep.MaskParts', WHERE WHAT IT READS IS OF BULK AT MOST 1048576: true; the input reads as it did. -/
def maskPartsUptoRow : OpenClaim := { program := "ytmocljblfccglaa", sum := "7b6da57ee8256be648a583d1a364b006146d996c950b4ab498023bd6ed5ceb80", func := "vivarium/vivariumkeep.MaskParts", spec := "maskParts", plainKeys := false, apart := false, narrowed := true }
def MaskPartsUptoSaid : Prop := maskPartsUptoRow.holds Try.pinned (OpenSpec.upto maskPartsSpec)

/-- 'vivariumkeep.SlotsNever', WHERE WHAT IT READS IS OF BULK AT MOST 1048576: true; the input reads as it did. -/
def slotsNeverUptoRow : OpenClaim := { program := "ytmocljblfccglaa", sum := "7b6da57ee8256be648a583d1a364b006146d996c950b4ab498023bd6ed5ceb80", func := "vivarium/vivariumkeep.SlotsNever", spec := "slotsNever", unfollowed := true, recurses := true, plainKeys := false, apart := false, narrowed := true }
def SlotsNeverUptoSaid : Prop := slotsNeverUptoRow.holds Try.pinned (OpenSpec.upto slotsNeverSpec)

/-- 'vivariumkeep.SlotsLeast', WHERE WHAT IT READS IS OF BULK AT MOST 1048576: true; the input reads as it did. -/
def slotsLeastUptoRow : OpenClaim := { program := "ytmocljblfccglaa", sum := "7b6da57ee8256be648a583d1a364b006146d996c950b4ab498023bd6ed5ceb80", func := "vivarium/vivariumkeep.SlotsLeast", spec := "slotsLeast", unfollowed := true, recurses := true, plainKeys := false, apart := false, narrowed := true }
def SlotsLeastUptoSaid : Prop := slotsLeastUptoRow.holds Try.pinned (OpenSpec.upto slotsLeastSpec)

/-- 'vivariumkeep.SlotsBack', WHERE WHAT IT READS IS OF BULK AT MOST 1048576: true; the input reads as it did. -/
def slotsBackUptoRow : OpenClaim := { program := "ytmocljblfccglaa", sum := "7b6da57ee8256be648a583d1a364b006146d996c950b4ab498023bd6ed5ceb80", func := "vivarium/vivariumkeep.SlotsBack", spec := "slotsBack", unfollowed := true, recurses := true, plainKeys := false, apart := false, narrowed := true }
def SlotsBackUptoSaid : Prop := slotsBackUptoRow.holds Try.pinned (OpenSpec.upto slotsBackSpec)

/-- 'vivariumkeep.SystemKeeps', WHERE WHAT IT READS IS OF BULK AT MOST 1048576: true; the input reads as it did. -/
def systemKeepsUptoRow : OpenClaim := { program := "ytmocljblfccglaa", sum := "7b6da57ee8256be648a583d1a364b006146d996c950b4ab498023bd6ed5ceb80", func := "vivarium/vivariumkeep.SystemKeeps", spec := "systemKeeps", plainKeys := false, apart := false, narrowed := true }
def SystemKeepsUptoSaid : Prop := systemKeepsUptoRow.holds Try.pinned (OpenSpec.upto systemKeepsSpec)

/-- 'vivariumkeep.SystemRaise', WHERE WHAT IT READS IS OF BULK AT MOST 1048576: true; the input reads as it did. -/
def systemRaiseUptoRow : OpenClaim := { program := "ytmocljblfccglaa", sum := "7b6da57ee8256be648a583d1a364b006146d996c950b4ab498023bd6ed5ceb80", func := "vivarium/vivariumkeep.SystemRaise", spec := "systemRaise", plainKeys := false, apart := false, narrowed := true }
def SystemRaiseUptoSaid : Prop := systemRaiseUptoRow.holds Try.pinned (OpenSpec.upto systemRaiseSpec)

/-- 'vivariumkeep.SystemApart', WHERE WHAT IT READS IS OF BULK AT MOST 1048576: true; the input reads as it did. -/
def systemApartUptoRow : OpenClaim := { program := "ytmocljblfccglaa", sum := "7b6da57ee8256be648a583d1a364b006146d996c950b4ab498023bd6ed5ceb80", func := "vivarium/vivariumkeep.SystemApart", spec := "systemApart", plainKeys := false, apart := false, narrowed := true }
def SystemApartUptoSaid : Prop := systemApartUptoRow.holds Try.pinned (OpenSpec.upto systemApartSpec)

/-- 'vivariumkeep.SystemRound', WHERE WHAT IT READS IS OF BULK AT MOST 1048576: true; the input reads as it did. -/
def systemRoundUptoRow : OpenClaim := { program := "ytmocljblfccglaa", sum := "7b6da57ee8256be648a583d1a364b006146d996c950b4ab498023bd6ed5ceb80", func := "vivarium/vivariumkeep.SystemRound", spec := "systemRound", plainKeys := false, apart := false, narrowed := true }
def SystemRoundUptoSaid : Prop := systemRoundUptoRow.holds Try.pinned (OpenSpec.upto systemRoundSpec)

/-- 'vivariumkeep.SystemBatches', WHERE WHAT IT READS IS OF BULK AT MOST 1048576: true; the input reads as it did. -/
def systemBatchesUptoRow : OpenClaim := { program := "ytmocljblfccglaa", sum := "7b6da57ee8256be648a583d1a364b006146d996c950b4ab498023bd6ed5ceb80", func := "vivarium/vivariumkeep.SystemBatches", spec := "systemBatches", plainKeys := false, apart := false, narrowed := true }
def SystemBatchesUptoSaid : Prop := systemBatchesUptoRow.holds Try.pinned (OpenSpec.upto systemBatchesSpec)

end Rows
end Go.Proofs.Ytmocljblfccglaa
