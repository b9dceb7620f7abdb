/- The row AuditHolders: who owns a category by any grants, and how it came to them: true for every input. -/
import Derived.Test.YtibmabidjacjlaaAg
import Derived.Test.YtibmabidjacjlaaMc
namespace Go.Proofs.Ytibmabidjacjlaa.L
open Go Go.RowKit Go.Proofs
set_option linter.unusedVariables false
set_option maxRecDepth 100000
attribute [local irreducible] AL QL AWp Thn InB RetQ ACalls LoopQ

theorem okR_grants {xs : List (List AV)} : OKR [.int .i64, .int .i64, .int .i64, .int .i64] xs → ∃ L : List G4, xs = L.map grAV := by
  intro h
  refine grants_list fun row hr => ?_
  obtain ⟨i, hi⟩ := List.mem_iff_getElem?.1 hr
  have := h.get i row hi
  cases this with | cons h1 r => cases h1; cases r with | cons h1 r => cases h1; cases r with | cons h1 r => cases h1; cases r with | cons h1 r => cases h1; cases r; exact ⟨_, _, _, _, rfl⟩
theorem okR_steps4 {L : List G4} (h : OKR [.int .i64, .int .i64, .int .i64, .int .i64] (L.map grAV)) : ∀ g ∈ L, g.1 ≤ 9223372036854775807 := by
  intro g hg
  obtain ⟨i, hi⟩ := List.mem_iff_getElem?.1 hg
  have := h.get i (grAV g) (by rw [List.getElem?_map, hi]; rfl)
  cases this with | cons h1 r => cases h1 with | int _ _ hw =>
    simp [Lit.wf, IntKind.max, IntKind.min, IntKind.bits, IntKind.signed] at hw
    omega
theorem holdersLifted (os : Os) (started : os.Started) (H : Type) (enc : TypeId × Value → H) :
    ReturnsInHanded {} Try.checked os 7 .any (Rows.auditHoldersSpec.pre6 enc Try.prog Try.f7 Rows.auditHoldersRow.domain false) (Rows.auditHoldersSpec.post enc Try.prog Try.f7 false true false false) := by
  refine returnsInHanded_of_change_sized (C := Try.checked) rowOwn started (by kernel_rfl) Try.func7
    (ChangeSpec.witness6 (enc := enc) (C := Try.checked) false ⟨#[], #[.slice none 0 0, .int .i64 0, .int .i64 0], []⟩ 8 (by kernel_rfl) (by kernel_rfl) (by kernel_rfl) (by kernel_rfl)) ?_
  intro W base args ds gs before hval hW _ hsz _
  refine law_calls (P := Try.prog) (n := 8) (aks := [.one (.sl [.int .i64, .int .i64, .int .i64, .int .i64]), .one (.int .i64), .one (.int .i64)]) rowLaid (by kernel_rfl) rfl Try.underlying4 rfl (by kernel_rfl) (fun ds h => ?_) (fun xs h => ?_) hval hW hsz
  · match ds, h with
    | [_, _, _], _ => rfl
  · cases h with | one h1 r => cases r with | one h2 r => cases r with | one h3 r => cases r; cases h2; cases h3; cases h1 with | sl _ _ hl hb h1 =>
      obtain ⟨L, rfl⟩ := okR_grants h1
      exact s_lawHolders (by simpa [ktW, KT.w, IntKind.bits] using hb) (okR_steps4 h1)
theorem auditHolders_over : Rows.auditHoldersRow.holds Try.pinned (OpenSpec.ofChange Rows.auditHoldersSpec) :=
  OpenClaim.holds_of_wide 7 Try.f7 rfl rfl rfl rfl rfl rfl rfl ⟨rfl, rfl, rfl, rfl, rfl⟩ rfl rfl rfl rfl rfl (by kernel_rfl) Try.func7 (by kernel_rfl)
    (of_decide_eq_true (by kernel_rfl)) (by unfold Func.isWrapper; first | (rw [if_pos (by decide +kernel)]; kernel_rfl) | (rw [if_neg (by decide +kernel)]; exact ⟨rfl, rfl⟩))
    (fun os started H enc _ => holdersLifted os started H enc)
end Go.Proofs.Ytibmabidjacjlaa.L
namespace Go.Proofs.Ytibmabidjacjlaa
/-- The row, for the claim. -/
theorem auditHolders_holds : Rows.AuditHoldersSaid := L.auditHolders_over
end Go.Proofs.Ytibmabidjacjlaa
#print axioms Go.Proofs.Ytibmabidjacjlaa.auditHolders_holds
