/- The logic, part 21: pieces of rows, by whole numbers. -/
import Derived.Test.YtibmabidjacjlaaLt
namespace Go.Proofs.Ytibmabidjacjlaa.L
open Go Go.RowKit
set_option linter.unusedVariables false
set_option linter.unusedSimpArgs false

section
variable {E : Env} {N : Nat} {sl : Slots} {H : List AO}
theorem ov_sl {t e : Nat} {n b n' b' : Nat} {z z' : Value} {dd : Bool} [ti : TI E.P t (.slice e) n b z] [te : TZ E.P e dd n' b' z'] {x lo hi : Operand} {xs : List (List AV)} {k k' : IntKind} {l h : Int}
    (hx : ev sl x = some (.rs xs)) (hlo : ev sl lo = some (.int k l)) (hhi : ev sl hi = some (.int k' h)) (h0 : 0 ≤ l) (h1 : l ≤ h) (h2 : h ≤ (xs.length : Int)) (hsz : ∀ (i : Nat) row, xs[i]? = some row → row.length = n') : OV E sl H (.slice t x (some lo) (some hi) none) (.rs ((xs.take h.toNat).drop l.toNat)) :=
  ov_slice_rs hx hsz (by omega) (by omega) (.inr ⟨lo, k, rfl, by rw [hlo, Int.toNat_of_nonneg h0]⟩) (.inr ⟨hi, k', rfl, by rw [hhi, Int.toNat_of_nonneg (by omega)]⟩)
theorem ov_sl_lo {t e : Nat} {n b n' b' : Nat} {z z' : Value} {dd : Bool} [ti : TI E.P t (.slice e) n b z] [te : TZ E.P e dd n' b' z'] {x lo : Operand} {xs : List (List AV)} {k : IntKind} {l : Int}
    (hx : ev sl x = some (.rs xs)) (hlo : ev sl lo = some (.int k l)) (h0 : 0 ≤ l) (h2 : l ≤ (xs.length : Int)) (hsz : ∀ (i : Nat) row, xs[i]? = some row → row.length = n') : OV E sl H (.slice t x (some lo) none none) (.rs (xs.drop l.toNat)) := by
  have := ov_slice_rs (E := E) (sl := sl) (H := H) (t := t) (e := e) hx hsz (l := l.toNat) (h := xs.length) (by omega) (Nat.le_refl _) (.inr ⟨lo, k, rfl, by rw [hlo, Int.toNat_of_nonneg h0]⟩) (.inl ⟨rfl, rfl⟩)
  rw [List.take_length] at this
  exact this
theorem ov_sl_hi {t e : Nat} {n b n' b' : Nat} {z z' : Value} {dd : Bool} [ti : TI E.P t (.slice e) n b z] [te : TZ E.P e dd n' b' z'] {x hi : Operand} {xs : List (List AV)} {k : IntKind} {h : Int}
    (hx : ev sl x = some (.rs xs)) (hhi : ev sl hi = some (.int k h)) (h0 : 0 ≤ h) (h2 : h ≤ (xs.length : Int)) (hsz : ∀ (i : Nat) row, xs[i]? = some row → row.length = n') : OV E sl H (.slice t x none (some hi) none) (.rs (xs.take h.toNat)) := by
  have := ov_slice_rs (E := E) (sl := sl) (H := H) (t := t) (e := e) hx hsz (l := 0) (h := h.toNat) (by omega) (by omega) (.inl ⟨rfl, rfl⟩) (.inr ⟨hi, k, rfl, by rw [hhi, Int.toNat_of_nonneg h0]⟩)
  rw [List.drop_zero] at this
  exact this
end
end Go.Proofs.Ytibmabidjacjlaa.L
