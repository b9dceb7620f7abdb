/- Layer 8 (parse): what rows hand in. -/
import Derived.Test.YtffcgpkbibijpaaGreatDoorQd5
import Derived.Test.YtffcgpkbibijpaaGreatDoorQdsf
set_option linter.unusedVariables false
set_option linter.unusedSimpArgs false
namespace Go.Proofs.YtffcgpkbibijpaaGreatDoor.L
open Go Go.RowKit Go.Proofs Go.ChangeShapes Go.WideShapes Go.ChangeAt
set_option linter.unusedVariables false
set_option maxRecDepth 100000
attribute [local irreducible] AL QL AWp Thn InB RetQ ACalls LoopQ
theorem okr_pairsW : ∀ {rows : List (List AV)}, OKR [.str, .str] rows → ∃ fs : Fs, rows = fs.map prAV ∧ ∀ p ∈ fs, p.1.length ≤ 140737488351232 ∧ p.2.length ≤ 140737488351232 := by
  intro rows
  induction rows with
  | nil => intro _; exact ⟨[], rfl, fun p h => by simp at h⟩
  | cons r rows ih =>
    intro h
    cases h with
    | cons h1 h2 =>
      obtain ⟨fs, rfl, hp⟩ := ih h2
      cases h1 with
      | cons h1 h3 =>
        cases h3 with
        | cons h3 h4 =>
          cases h4
          cases h1 with
          | str a ha => cases h3 with
            | str b hb =>
              refine ⟨(a, b) :: fs, rfl, fun p hm => ?_⟩
              rcases List.mem_cons.1 hm with rfl | hm
              · exact ⟨ha, hb⟩
              · exact hp p hm
theorem okl_wide {xs : List AV} (h : OKL [.str, .str, .int .i64, .sl [.str, .str]] xs) : ∃ h : Hd, AV.agg xs = hdAV h.m h.t h.v h.fs ∧ Wide h := by
  cases h with
  | cons h1 h => cases h with
    | cons h2 h => cases h with
      | cons h3 h => cases h with
        | cons h4 h =>
          cases h
          cases h1 with
          | str m hm => cases h2 with
            | str t ht => cases h3 with
              | int _ v _ => cases h4 with
                | sl _ rows hl hb hr =>
                  obtain ⟨fs, rfl, hf⟩ := okr_pairsW hr
                  refine ⟨⟨m, t, v, fs⟩, rfl, ?_, hm, ht, hf⟩
                  have e : ktW [.str, .str] = 32 := rfl
                  rw [e, List.length_map] at hb
                  show fs.length * 16 ≤ _
                  omega
end Go.Proofs.YtffcgpkbibijpaaGreatDoor.L
