/- The row MeterUnits. -/
import Derived.Test.YtibmabidjacjlaaMb
import Derived.Test.YtibmabidjacjlaaRows
import Derived.WalkKit
import Derived.ProofKit
import Derived.OpenShut
import Derived.SizedLaws
namespace Go.Proofs.Ytibmabidjacjlaa.L
open Go Go.RowKit Go.Proofs
set_option linter.unusedVariables false
set_option maxRecDepth 100000
theorem rowOwn : ownKnob Try.prog.godebug = none := by kernel_rfl
theorem rowLaid : laidOutB Try.prog = true := by kernel_rfl
abbrev cfgK : List KT := [.sl [.str, .str, .str, .bool], .sl [.int .i64], .sl [.int .i64, .int .i64], .str, .sl [.str, .sl [.str], .sl [.int .i64], .sl [.int .i64], .int .i64], .int .i64, .int .i64, .int .i64, .int .i64]
theorem okL_cfg {xs : List AV} (h : OKL cfgK xs) : ∃ u dr co im ro conns asks quota fuel, xs = [.rs u, .rs dr, .rs co, .str im, .rs ro, .int .i64 conns, .int .i64 asks, .int .i64 quota, .int .i64 fuel] := by
  cases h with | cons h1 r => cases h1; cases r with | cons h1 r => cases h1; cases r with | cons h1 r => cases h1; cases r with | cons h1 r => cases h1; cases r with | cons h1 r => cases h1; cases r with | cons h1 r => cases h1; cases r with | cons h1 r => cases h1; cases r with | cons h1 r => cases h1; cases r with | cons h1 r => cases h1; cases r; exact ⟨_, _, _, _, _, _, _, _, _, rfl⟩

theorem unitsLifted (os : Os) (started : os.Started) (H : Type) (enc : TypeId × Value → H) :
    ReturnsInHanded {} Try.checked os 3 .any (Rows.meterUnitsSpec.pre6 enc Try.prog Try.f3 Rows.meterUnitsRow.domain false) (Rows.meterUnitsSpec.post enc Try.prog Try.f3 false true false false) := by
  refine returnsInHanded_of_change_sized (C := Try.checked) rowOwn started (by kernel_rfl) Try.func3
    (ChangeSpec.witness6 (enc := enc) (C := Try.checked) false ⟨#[], #[.agg #[.slice none 0 0, .slice none 0 0, .slice none 0 0, .string ⟨#[]⟩, .slice none 0 0, .int .i64 0, .int .i64 0, .int .i64 0, .int .i64 0], .int .i64 0, .int .i64 0], []⟩ 8 (by kernel_rfl) (by kernel_rfl) (by kernel_rfl) (by kernel_rfl)) ?_
  intro W base args ds gs before hval hW _ hsz _
  refine law_calls (P := Try.prog) (n := 8) (aks := [.agg cfgK, .one (.int .i64), .one (.int .i64)]) rowLaid (by kernel_rfl) rfl Try.underlying4 rfl (by kernel_rfl) (fun ds h => ?_) (fun xs h => ?_) hval hW hsz
  · match ds, h with
    | [_, _, _], _ => rfl
  · cases h with | agg h r => cases r with | one h1 r => cases h1; cases r with | one h1 r => cases h1; cases r; obtain ⟨_, _, _, _, _, _, _, _, _, rfl⟩ := okL_cfg h; exact s_lawUnits
theorem meterUnits_over : Rows.meterUnitsRow.holds Try.pinned (OpenSpec.ofChange Rows.meterUnitsSpec) :=
  OpenClaim.holds_of_wide 3 Try.f3 rfl rfl rfl rfl rfl rfl rfl ⟨rfl, rfl, rfl, rfl, rfl⟩ rfl rfl rfl rfl rfl (by kernel_rfl) Try.func3 (by kernel_rfl)
    (of_decide_eq_true (by kernel_rfl)) (by unfold Func.isWrapper; first | (rw [if_pos (by decide +kernel)]; kernel_rfl) | (rw [if_neg (by decide +kernel)]; exact ⟨rfl, rfl⟩))
    (fun os started H enc _ => unitsLifted os started H enc)
end Go.Proofs.Ytibmabidjacjlaa.L
namespace Go.Proofs.Ytibmabidjacjlaa
/-- The row, for the claim. -/
theorem meterUnits_holds : Rows.MeterUnitsSaid := L.meterUnits_over
end Go.Proofs.Ytibmabidjacjlaa
#print axioms Go.Proofs.Ytibmabidjacjlaa.meterUnits_holds
