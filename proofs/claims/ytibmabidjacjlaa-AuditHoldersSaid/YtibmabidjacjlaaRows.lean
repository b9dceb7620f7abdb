/-
  No cell of these rows narrows 'for every input' (looked for: loops, veiled, ifaces, maps, wideKeys, modest, calm, conditions, laid).
  DERIVED. THE GIVEN ROWS OF THIS SEAT. 6 by the template 'for every input the law returns true; each argument reads behind the call as it read before'; 0 by the template 'total and deterministic' (their statements: YtibmabidjacjlaaTotals.lean).
  GIVEN WITH THE SEED: the statements are not yours to turn. If you find one false, say at which input.
  Laid BY PROGRAM, IN A SANDBOX (cutbox-rows.mjs): the forced cells as the released guide's own fill.sh prints them over the translation 6a5bb4c0e1923363… (all of the seat's roots in one cut). By AI agents, Wed Nov 11 2026. No macro, syntax, notation, axiom, sorry.
-/
import Derived.Test.YtibmabidjacjlaaChecked
import GoSem.Claim
import GoSem.ClaimJoined
import GoSem.ClaimMapViews
import Derived.JoinedTies
import Derived.KernelRfl
namespace Go.Proofs.Ytibmabidjacjlaa
/- THE CELL 'sum', in the pinned program and in every row, IS THE sha256 OF THE DUMP (.gsa) THAT YtibmabidjacjlaaProg.lean LOADS. Nothing in Lean hashes anything: it is a label: what it is worth is what the hold of that sum in a sandbox is worth. -/
noncomputable def Try.pinned : Pinned := { name := "ytibmabidjacjlaa", sum := "6a5bb4c0e192336339e8691b63ec7652c5f7b9ba80551559d2a6ec40006cab33", checked := Try.checked }
namespace Rows
def none {H : Type} : Left H := { results := [], args := [] }

/-- 'cloisterlaw21.MeterUnits': WHATEVER THE INPUT: true; the input reads as it did. -/
def meterUnitsSpec : ChangeSpec := { name := "meterUnits", fn := fun _ => fun
  | [d1, d2, d3] => { results := [.lit (.bool true)], args := [d1, d2, d3] }
  | _ => none }
def meterUnitsRow : OpenClaim := { program := "ytibmabidjacjlaa", sum := "6a5bb4c0e192336339e8691b63ec7652c5f7b9ba80551559d2a6ec40006cab33", func := "cloister/cloisterlaw21.MeterUnits", spec := "meterUnits", plainKeys := false, apart := false }
def MeterUnitsSaid : Prop := meterUnitsRow.holds Try.pinned (OpenSpec.ofChange meterUnitsSpec)

/-- ITS FALSE NEIGHBOUR: 'it returns false'. Refute it at one input. -/
def meterUnitsWrong : ChangeSpec := { name := "meterUnits", fn := fun _ => fun
  | [d1, d2, d3] => { results := [.lit (.bool false)], args := [d1, d2, d3] }
  | _ => none }
def MeterUnitsWrongFalsely : Prop := meterUnitsRow.holds Try.pinned (OpenSpec.ofChange meterUnitsWrong)

/-- 'cloisterlaw21.MeterMore': WHATEVER THE INPUT: true; the input reads as it did. -/
def meterMoreSpec : ChangeSpec := { name := "meterMore", fn := fun _ => fun
  | [d1, d2, d3] => { results := [.lit (.bool true)], args := [d1, d2, d3] }
  | _ => none }
def meterMoreRow : OpenClaim := { program := "ytibmabidjacjlaa", sum := "6a5bb4c0e192336339e8691b63ec7652c5f7b9ba80551559d2a6ec40006cab33", func := "cloister/cloisterlaw21.MeterMore", spec := "meterMore", plainKeys := false, apart := false }
def MeterMoreSaid : Prop := meterMoreRow.holds Try.pinned (OpenSpec.ofChange meterMoreSpec)

/-- ITS FALSE NEIGHBOUR: 'it returns false'. Refute it at one input. -/
def meterMoreWrong : ChangeSpec := { name := "meterMore", fn := fun _ => fun
  | [d1, d2, d3] => { results := [.lit (.bool false)], args := [d1, d2, d3] }
  | _ => none }
def MeterMoreWrongFalsely : Prop := meterMoreRow.holds Try.pinned (OpenSpec.ofChange meterMoreWrong)

/-- 'cloisterlaw21.MeterFair': WHATEVER THE INPUT: true; the input reads as it did. -/
def meterFairSpec : ChangeSpec := { name := "meterFair", fn := fun _ => fun
  | [d1, d2, d3] => { results := [.lit (.bool true)], args := [d1, d2, d3] }
  | _ => none }
def meterFairRow : OpenClaim := { program := "ytibmabidjacjlaa", sum := "6a5bb4c0e192336339e8691b63ec7652c5f7b9ba80551559d2a6ec40006cab33", func := "cloister/cloisterlaw21.MeterFair", spec := "meterFair", plainKeys := false, apart := false }
def MeterFairSaid : Prop := meterFairRow.holds Try.pinned (OpenSpec.ofChange meterFairSpec)

/-- ITS FALSE NEIGHBOUR: 'it returns false'. Refute it at one input. -/
def meterFairWrong : ChangeSpec := { name := "meterFair", fn := fun _ => fun
  | [d1, d2, d3] => { results := [.lit (.bool false)], args := [d1, d2, d3] }
  | _ => none }
def MeterFairWrongFalsely : Prop := meterFairRow.holds Try.pinned (OpenSpec.ofChange meterFairWrong)

/-- 'cloisterlaw21.MeterRounds': WHATEVER THE INPUT: true; the input reads as it did. -/
def meterRoundsSpec : ChangeSpec := { name := "meterRounds", fn := fun _ => fun
  | [d1, d2, d3] => { results := [.lit (.bool true)], args := [d1, d2, d3] }
  | _ => none }
def meterRoundsRow : OpenClaim := { program := "ytibmabidjacjlaa", sum := "6a5bb4c0e192336339e8691b63ec7652c5f7b9ba80551559d2a6ec40006cab33", func := "cloister/cloisterlaw21.MeterRounds", spec := "meterRounds", plainKeys := false, apart := false }
def MeterRoundsSaid : Prop := meterRoundsRow.holds Try.pinned (OpenSpec.ofChange meterRoundsSpec)

/-- ITS FALSE NEIGHBOUR: 'it returns false'. Refute it at one input. -/
def meterRoundsWrong : ChangeSpec := { name := "meterRounds", fn := fun _ => fun
  | [d1, d2, d3] => { results := [.lit (.bool false)], args := [d1, d2, d3] }
  | _ => none }
def MeterRoundsWrongFalsely : Prop := meterRoundsRow.holds Try.pinned (OpenSpec.ofChange meterRoundsWrong)

/-- 'cloisterlaw20.AuditHolders': WHATEVER THE INPUT: true; the input reads as it did. -/
def auditHoldersSpec : ChangeSpec := { name := "auditHolders", fn := fun _ => fun
  | [d1, d2, d3] => { results := [.lit (.bool true)], args := [d1, d2, d3] }
  | _ => none }
def auditHoldersRow : OpenClaim := { program := "ytibmabidjacjlaa", sum := "6a5bb4c0e192336339e8691b63ec7652c5f7b9ba80551559d2a6ec40006cab33", func := "cloister/cloisterlaw20.AuditHolders", spec := "auditHolders", recurses := true, plainKeys := false, apart := false }
def AuditHoldersSaid : Prop := auditHoldersRow.holds Try.pinned (OpenSpec.ofChange auditHoldersSpec)

/-- ITS FALSE NEIGHBOUR: 'it returns false'. Refute it at one input. -/
def auditHoldersWrong : ChangeSpec := { name := "auditHolders", fn := fun _ => fun
  | [d1, d2, d3] => { results := [.lit (.bool false)], args := [d1, d2, d3] }
  | _ => none }
def AuditHoldersWrongFalsely : Prop := auditHoldersRow.holds Try.pinned (OpenSpec.ofChange auditHoldersWrong)

/-- 'cloisterlaw20.AuditLogs': WHATEVER THE INPUT: true; the input reads as it did. -/
def auditLogsSpec : ChangeSpec := { name := "auditLogs", fn := fun _ => fun
  | [d1, d2, d3] => { results := [.lit (.bool true)], args := [d1, d2, d3] }
  | _ => none }
def auditLogsRow : OpenClaim := { program := "ytibmabidjacjlaa", sum := "6a5bb4c0e192336339e8691b63ec7652c5f7b9ba80551559d2a6ec40006cab33", func := "cloister/cloisterlaw20.AuditLogs", spec := "auditLogs", unfollowed := true, recurses := true, plainKeys := false, apart := false }
def AuditLogsSaid : Prop := auditLogsRow.holds Try.pinned (OpenSpec.ofChange auditLogsSpec)

/-- ITS FALSE NEIGHBOUR: 'it returns false'. Refute it at one input. -/
def auditLogsWrong : ChangeSpec := { name := "auditLogs", fn := fun _ => fun
  | [d1, d2, d3] => { results := [.lit (.bool false)], args := [d1, d2, d3] }
  | _ => none }
def AuditLogsWrongFalsely : Prop := auditLogsRow.holds Try.pinned (OpenSpec.ofChange auditLogsWrong)

/- THE SECOND FORM. 'bulk': how many values and letters a reading holds, each counted each time it is reached (what is shared counts as often as it is met; a slice's spare places count too). A statement '..UptoSaid' is the law's where the arguments, and the package variables that the reading takes, are together of bulk at most 1048576: NARROWER than '..Said'. Prove '..Said' where nothing that the law and all that it calls make is longer than what came in: it says more and counts as full. Else prove '..UptoSaid'. A law counts once. -/
mutual
def uptoBulk {H : Type} : DataW H → Nat
  | .lit (.string bytes) => bytes.length + 1
  | .lit _ => 1
  | .nil => 1
  | .ptr d => uptoBulk d + 1
  | .slice elems spare => uptoBulkAll elems + uptoBulkAll spare + 1
  | .agg parts => uptoBulkAll parts + 1
  | .iface _ d => uptoBulk d + 1
  | .map entries => uptoBulkEntries entries + 1
  | .held _ => 1
def uptoBulkAll {H : Type} : List (DataW H) → Nat
  | [] => 0
  | d :: r => uptoBulk d + uptoBulkAll r
def uptoBulkEntries {H : Type} : List (Lit × DataW H) → Nat
  | [] => 0
  | x :: r => uptoBulkEntry x + uptoBulkEntries r
def uptoBulkEntry {H : Type} : Lit × DataW H → Nat
  | (.string bytes, d) => bytes.length + uptoBulk d + 1
  | (_, d) => uptoBulk d + 1
 end
def uptoSmall : (H : Type) → List (DataW H) → Bool := fun _ ds => decide (uptoBulkAll ds ≤ 1048576)
def OpenSpec.upto (s : _root_.Go.ChangeSpec) : _root_.Go.OpenSpec := { _root_.Go.OpenSpec.ofChange s with cond := some uptoSmall }

/-- 'cloisterlaw21.MeterUnits', WHERE WHAT IT READS IS OF BULK AT MOST 1048576: true; the input reads as it did. -/
def meterUnitsUptoRow : OpenClaim := { program := "ytibmabidjacjlaa", sum := "6a5bb4c0e192336339e8691b63ec7652c5f7b9ba80551559d2a6ec40006cab33", func := "cloister/cloisterlaw21.MeterUnits", spec := "meterUnits", plainKeys := false, apart := false, narrowed := true }
def MeterUnitsUptoSaid : Prop := meterUnitsUptoRow.holds Try.pinned (OpenSpec.upto meterUnitsSpec)

/-- 'cloisterlaw21.MeterMore', WHERE WHAT IT READS IS OF BULK AT MOST 1048576: true; the input reads as it did. -/
def meterMoreUptoRow : OpenClaim := { program := "ytibmabidjacjlaa", sum := "6a5bb4c0e192336339e8691b63ec7652c5f7b9ba80551559d2a6ec40006cab33", func := "cloister/cloisterlaw21.MeterMore", spec := "meterMore", plainKeys := false, apart := false, narrowed := true }
def MeterMoreUptoSaid : Prop := meterMoreUptoRow.holds Try.pinned (OpenSpec.upto meterMoreSpec)

/-- 'cloisterlaw21.MeterFair', WHERE WHAT IT READS IS OF BULK AT MOST 1048576: true; the input reads as it did. -/
def meterFairUptoRow : OpenClaim := { program := "ytibmabidjacjlaa", sum := "6a5bb4c0e192336339e8691b63ec7652c5f7b9ba80551559d2a6ec40006cab33", func := "cloister/cloisterlaw21.MeterFair", spec := "meterFair", plainKeys := false, apart := false, narrowed := true }
def MeterFairUptoSaid : Prop := meterFairUptoRow.holds Try.pinned (OpenSpec.upto meterFairSpec)

/-- 'cloisterlaw21.MeterRounds', WHERE WHAT IT READS IS OF BULK AT MOST 1048576: true; the input reads as it did. -/
def meterRoundsUptoRow : OpenClaim := { program := "ytibmabidjacjlaa", sum := "6a5bb4c0e192336339e8691b63ec7652c5f7b9ba80551559d2a6ec40006cab33", func := "cloister/cloisterlaw21.MeterRounds", spec := "meterRounds", plainKeys := false, apart := false, narrowed := true }
def MeterRoundsUptoSaid : Prop := meterRoundsUptoRow.holds Try.pinned (OpenSpec.upto meterRoundsSpec)

/-- 'cloisterlaw20.AuditHolders', WHERE WHAT IT READS IS OF BULK AT MOST 1048576: true; the input reads as it did. -/
def auditHoldersUptoRow : OpenClaim := { program := "ytibmabidjacjlaa", sum := "6a5bb4c0e192336339e8691b63ec7652c5f7b9ba80551559d2a6ec40006cab33", func := "cloister/cloisterlaw20.AuditHolders", spec := "auditHolders", recurses := true, plainKeys := false, apart := false, narrowed := true }
def AuditHoldersUptoSaid : Prop := auditHoldersUptoRow.holds Try.pinned (OpenSpec.upto auditHoldersSpec)

/-- 'cloisterlaw20.AuditLogs', WHERE WHAT IT READS IS OF BULK AT MOST 1048576: true; the input reads as it did. -/
def auditLogsUptoRow : OpenClaim := { program := "ytibmabidjacjlaa", sum := "6a5bb4c0e192336339e8691b63ec7652c5f7b9ba80551559d2a6ec40006cab33", func := "cloister/cloisterlaw20.AuditLogs", spec := "auditLogs", unfollowed := true, recurses := true, plainKeys := false, apart := false, narrowed := true }
def AuditLogsUptoSaid : Prop := auditLogsUptoRow.holds Try.pinned (OpenSpec.upto auditLogsSpec)

end Rows
end Go.Proofs.Ytibmabidjacjlaa
