/- Layer 8 (parse): what rows hand in: whole numbers, texts. -/
import Derived.Test.YtffcgpkbibijpaaGreatDoorQd5
import Derived.Test.YtffcgpkbibijpaaGreatDoorQdsb
set_option linter.unusedVariables false
set_option linter.unusedSimpArgs false
namespace Go.Proofs.YtffcgpkbibijpaaGreatDoor.L
open Go Go.RowKit Go.Proofs Go.ChangeShapes Go.WideShapes Go.ChangeAt
set_option linter.unusedVariables false
set_option maxRecDepth 100000
theorem okr_ints : ∀ {rows : List (List AV)}, OKR [.int .i64] rows → ∃ cs : List Int, rows = intAV cs := by
  intro rows
  induction rows with
  | nil => intro _; exact ⟨[], rfl⟩
  | cons r rows ih =>
    intro h
    cases h with
    | cons h1 h2 =>
      obtain ⟨cs, rfl⟩ := ih h2
      cases h1 with
      | cons h1 h3 =>
        cases h3
        cases h1 with
        | int _ n _ => exact ⟨n :: cs, rfl⟩
theorem okr_strs : ∀ {rows : List (List AV)}, OKR [.str] rows → ∃ ps : List (List UInt8), rows = strAV ps ∧ ∀ p ∈ ps, p.length ≤ 140737488351232 := by
  intro rows
  induction rows with
  | nil => intro _; exact ⟨[], rfl, fun p h => by simp at h⟩
  | cons r rows ih =>
    intro h
    cases h with
    | cons h1 h2 =>
      obtain ⟨ps, rfl, hp⟩ := ih h2
      cases h1 with
      | cons h1 h3 =>
        cases h3
        cases h1 with
        | str s hs =>
          refine ⟨s :: ps, rfl, fun p hm => ?_⟩
          rcases List.mem_cons.1 hm with rfl | hm
          · exact hs
          · exact hp p hm
end Go.Proofs.YtffcgpkbibijpaaGreatDoor.L
