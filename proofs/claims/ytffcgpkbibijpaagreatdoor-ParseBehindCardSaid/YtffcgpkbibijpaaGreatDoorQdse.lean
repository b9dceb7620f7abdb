/- Layer 8 (parse), plain: the first empty line of lines is at their end. -/
import Derived.Test.YtffcgpkbibijpaaGreatDoorQdsa
set_option linter.unusedVariables false
set_option linter.unusedSimpArgs false
namespace Go.Proofs.YtffcgpkbibijpaaGreatDoor.L
open Go Go.RowKit Go.Proofs
set_option linter.unusedVariables false
set_option linter.unusedSimpArgs false
set_option maxRecDepth 100000

theorem idx_skip {b : UInt8} {l : List UInt8} (h : b ≠ 13) : Lib.index (b :: l) crlf2 = if Lib.index l crlf2 = -1 then -1 else Lib.index l crlf2 + 1 := by
  rw [Lib.index]
  have : ¬ crlf2.isPrefixOf (b :: l) = true := by
    intro k
    unfold crlf2 at k
    simp only [List.isPrefixOf, Bool.and_eq_true, beq_iff_eq] at k
    exact h k.1.symm
  rw [if_neg this]
  simp
theorem idx_13 {b : UInt8} {l : List UInt8} (h : b ≠ 13) : Lib.index (13 :: 10 :: b :: l) crlf2 = if Lib.index (b :: l) crlf2 = -1 then -1 else Lib.index (b :: l) crlf2 + 2 := by
  rw [Lib.index]
  have : ¬ crlf2.isPrefixOf (13 :: 10 :: b :: l) = true := by
    intro k
    unfold crlf2 at k
    simp only [List.isPrefixOf, Bool.and_eq_true, beq_iff_eq] at k
    exact h k.2.2.1.symm
  rw [if_neg this, idx_skip (by decide)]
  have := Lib.index_ge (b :: l) crlf2
  by_cases hx : Lib.index (b :: l) crlf2 = -1
  · simp [hx]
  · have h2 : ¬ Lib.index (b :: l) crlf2 + 1 = -1 := by omega
    simp only [hx, if_false, h2, beq_iff_eq]
    omega
theorem idx_line {l r : List UInt8} (h : 13 ∉ l) : Lib.index (l ++ r) crlf2 = if Lib.index r crlf2 = -1 then -1 else Lib.index r crlf2 + l.length := by
  induction l with
  | nil =>
    simp only [List.nil_append, List.length_nil]
    split
    · assumption
    · omega
  | cons b l ih =>
    have hb : b ≠ 13 := fun e => h (by simp [e])
    have := Lib.index_ge r crlf2
    rw [List.cons_append, idx_skip hb, ih fun k => h (by simp [k])]
    by_cases hx : Lib.index r crlf2 = -1
    · simp [hx]
    · have h2 : ¬ Lib.index r crlf2 + (l.length : Int) = -1 := by omega
      rw [if_neg hx, if_neg hx, if_neg h2, List.length_cons]
      omega
/-- The first empty line of lines is at their end. -/
theorem idx_text {r : List UInt8} : ∀ {ls : List (List UInt8)} {l : List UInt8}, (∀ x ∈ l :: ls, 13 ∉ x ∧ x ≠ []) → Lib.index (textOf (l :: ls) ++ r) crlf2 = ((linesOf (l :: ls)).length : Int) - 2 := by
  intro ls
  induction ls with
  | nil =>
    intro l h
    have e : textOf [l] ++ r = l ++ (crlf2 ++ r) := by simp [textOf, linesOf, crlf2]
    rw [e, idx_line (h l (by simp)).1]
    have : Lib.index (crlf2 ++ r) crlf2 = 0 := by
      show Lib.index (13 :: 10 :: 13 :: 10 :: r) crlf2 = 0
      rw [Lib.index, if_pos]
      simp [crlf2, List.isPrefixOf]
    rw [this]
    simp [linesOf]
  | cons m ls ih =>
    intro l h
    have e : textOf (l :: m :: ls) ++ r = l ++ (13 :: 10 :: (textOf (m :: ls) ++ r)) := by rw [textOf_cons]; simp
    rw [e, idx_line (h l (by simp)).1]
    obtain ⟨hm1, hm2⟩ := h m (by simp)
    have hih := ih (l := m) fun x hx => h x (by simp at hx ⊢; exact .inr hx)
    obtain ⟨b, m', rfl⟩ : ∃ b m', m = b :: m' := by
      cases m with
      | nil => exact absurd rfl hm2
      | cons b m' => exact ⟨b, m', rfl⟩
    have e2 : ∃ q, textOf ((b :: m') :: ls) ++ r = b :: q := ⟨_, by rw [textOf_cons]; rfl⟩
    obtain ⟨q, hq⟩ := e2
    rw [hq] at hih ⊢
    rw [idx_13 (fun k => hm1 (by simp [k])), hih]
    have hlen : (linesOf (l :: (b :: m') :: ls)).length = l.length + 2 + (linesOf ((b :: m') :: ls)).length := by
      rw [linesOf_cons]; simp only [List.length_append, List.length_cons]; omega
    have hlen2 : 3 ≤ (linesOf ((b :: m') :: ls)).length := by rw [linesOf_cons]; simp only [List.length_append, List.length_cons]; omega
    rw [if_neg (by omega), if_neg (by omega), hlen]
    omega
end Go.Proofs.YtffcgpkbibijpaaGreatDoor.L
