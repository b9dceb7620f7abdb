/- Layer 21 (meter): a list of all units, again and again: when each is picked last. -/
import Derived.Test.YtibmabidjacjlaaFa
namespace Go.Proofs.Ytibmabidjacjlaa.L
open Go Go.RowKit Go.Proofs
set_option linter.unusedVariables false

theorem and15 (x : Int) : ∃ m : Nat, m ≤ 15 ∧ bits .and .i64 x 15 = (m : Int) := by
  refine ⟨(BitVec.ofInt 64 x &&& 15#64).toNat, ?_, ?_⟩
  · rw [BitVec.toNat_and]
    exact Nat.and_le_right
  · have h : (BitVec.ofInt 64 x &&& 15#64).toNat ≤ 15 := by rw [BitVec.toNat_and]; exact Nat.and_le_right
    have e : bits .and .i64 x 15 = IntKind.i64.wrap ((BitVec.ofInt 64 x &&& 15#64).toNat : Int) := rfl
    rw [e, IntKind.wrap_i64]
    omega

theorem lastIx_ge {L : List S4} {v : Int × Int} {j : Nat} {s : S4} (hj : L[j]? = some s) (hs : hits v s) : ∀ k, j < k → (j : Int) ≤ lastIx L v k := by
  intro k
  induction k with
  | zero => intro h; omega
  | succ k ih =>
    intro h
    rcases Nat.lt_or_ge j k with h1 | h1
    · have := ih h1
      unfold lastIx
      split
      · split
        · omega
        · exact this
      · exact this
    · obtain rfl : j = k := by omega
      rw [lastIx_succ hj, if_pos hs]
      exact Int.le_refl _
theorem lastIx_lt {L : List S4} {v : Int × Int} {b : Nat} : ∀ k, (∀ j s, b < j → j < k → L[j]? = some s → ¬ hits v s) → lastIx L v k ≤ b := by
  intro k
  induction k with
  | zero => intro _; simp [lastIx]
  | succ k ih =>
    intro h
    have h1 := ih fun j s h1 h2 => h j s h1 (by omega)
    unfold lastIx
    split
    · rename_i s hs
      split
      · rename_i hh
        rcases Nat.lt_or_ge b k with h2 | h2
        · exact absurd hh (h k s h2 (by omega) hs)
        · omega
      · exact h1
    · exact h1

/-- A list again and again. -/
def rep (l : List S4) : Nat → List S4
  | 0 => []
  | m + 1 => rep l m ++ l
theorem rep_len (l : List S4) : ∀ m, (rep l m).length = m * l.length := by
  intro m
  induction m with
  | zero => simp [rep]
  | succ m ih => simp [rep, ih, Nat.add_mul]
theorem rep_get (l : List S4) : ∀ (m q i : Nat), q < m → i < l.length → (rep l m)[q * l.length + i]? = l[i]? := by
  intro m
  induction m with
  | zero => intro q i h; omega
  | succ m ih =>
    intro q i h hi
    simp only [rep]
    rcases Nat.lt_or_ge q m with h1 | h1
    · have : (q + 1) * l.length ≤ m * l.length := Nat.mul_le_mul_right _ h1
      rw [Nat.add_mul, Nat.one_mul] at this
      rw [List.getElem?_append_left (by rw [rep_len]; omega)]
      exact ih q i h1 hi
    · obtain rfl : q = m := by omega
      rw [List.getElem?_append_right (by rw [rep_len]; omega), rep_len]
      congr 1
      omega

structure Good (l : List S4) : Prop where
  live : ∀ (i : Nat) s, l[i]? = some s → live s
  apart : ∀ (i j : Nat) s t, l[i]? = some s → l[j]? = some t → stepU s = stepU t → i = j

/-- Round for round: fair within as many steps as there are units. -/
theorem rep_fair {l l1 : List S4} (hg : Good l) (h1 : ∀ s ∈ l1, ∃ (i : Nat) (t : S4), l[i]? = some t ∧ stepU s = stepU t) (m : Nat) : fairP (rep l m) l1 l.length := by
  intro s hs k hk
  obtain ⟨i, t, hi, he⟩ := h1 s hs
  have hil := (List.getElem?_eq_some_iff.1 hi).1
  have hU : 0 < l.length := by omega
  rw [rep_len] at hk
  unfold okAt
  rw [he]
  rcases Nat.lt_or_ge i k with h2 | h2
  · -- the last round that has come to it
    have hq := Nat.div_add_mod (k - 1 - i) l.length
    have hmod := Nat.mod_lt (k - 1 - i) hU
    have hj : l.length * ((k - 1 - i) / l.length) = (k - 1 - i) / l.length * l.length := Nat.mul_comm _ _
    have hqm : (k - 1 - i) / l.length < m := by
      rcases Nat.lt_or_ge ((k - 1 - i) / l.length) m with h3 | h3
      · exact h3
      · have := Nat.mul_le_mul_right l.length h3
        omega
    have := lastIx_ge (L := rep l m) (v := stepU t) (j := (k - 1 - i) / l.length * l.length + i) (by rw [rep_get l m _ i hqm hil]; exact hi) ⟨rfl, hg.live i t hi⟩ k (by omega)
    omega
  · have := (lastIx_le (rep l m) (stepU t) k).1
    omega

/-- The first left out, once: not fair, if any round went before. -/
theorem rep_not {l l1 : List S4} (hg : Good l) (h1 : ∀ s ∈ l1, ∃ (i : Nat) (t : S4), l[i]? = some t ∧ stepU s = stepU t) {s0 t0 : S4} (h0 : l[0]? = some t0) (hs0 : s0 ∈ l1) (he : stepU s0 = stepU t0) (h2 : 2 ≤ l.length) (m : Nat) :
    fairP (rep l m ++ l.drop 1) l1 l.length ↔ m = 0 := by
  constructor
  · intro hf
    rcases Nat.eq_zero_or_pos m with h | h
    · exact h
    · exfalso
      have hlen : (rep l m ++ l.drop 1).length = m * l.length + (l.length - 1) := by simp [rep_len]
      have hm1 : (m - 1) * l.length + l.length = m * l.length := by
        rw [← Nat.succ_mul]; congr 1; omega
      have := hf s0 hs0 (m * l.length + (l.length - 1)) (by omega)
      have hl := lastIx_lt (L := rep l m ++ l.drop 1) (v := stepU t0) (b := (m - 1) * l.length) (m * l.length + (l.length - 1)) fun j s hj1 hj2 hjs hh => by
        obtain ⟨hh1, hh2⟩ := hh
        rcases Nat.lt_or_ge j (m * l.length) with h3 | h3
        · rw [List.getElem?_append_left (by rw [rep_len]; exact h3)] at hjs
          have e := rep_get l m (m - 1) (j - (m - 1) * l.length) (by omega) (by omega)
          rw [show (m - 1) * l.length + (j - (m - 1) * l.length) = j by omega] at e
          rw [e] at hjs
          have := hg.apart _ _ _ _ hjs h0 hh1
          omega
        · rw [List.getElem?_append_right (by rw [rep_len]; exact h3), rep_len, List.getElem?_drop] at hjs
          have := hg.apart _ _ _ _ hjs h0 hh1
          omega
      unfold okAt at this
      rw [he] at this
      omega
  · rintro rfl
    intro s hs k hk
    have hlen : (rep l 0 ++ l.drop 1).length = l.length - 1 := by simp [rep]
    rw [hlen] at hk
    have := (lastIx_le (rep l 0 ++ l.drop 1) (stepU s) k).1
    unfold okAt
    omega

/-! ### the units -/
theorem firstRows_get (n : Nat) : ∀ (i : Nat) row, (firstRows n)[i]? = some row → row = if i % 2 = 0 then stepRow 3 (i / 2 : Nat) 0 else stepRow 4 (i / 2 : Nat) 0 := by
  induction n with
  | zero => intro i row h; simp [firstRows] at h
  | succ n ih =>
    intro i row h
    rw [firstRows_succ] at h
    rcases Nat.lt_or_ge i (2 * n) with h1 | h1
    · rw [List.getElem?_append_left (by rw [firstRows_len]; exact h1)] at h
      exact ih i row h
    · rw [List.getElem?_append_right (by rw [firstRows_len]; exact h1), firstRows_len] at h
      have hlt := (List.getElem?_eq_some_iff.1 h).1
      simp at hlt
      rcases (show i = 2 * n ∨ i = 2 * n + 1 by omega) with rfl | rfl
      · rw [Nat.sub_self] at h
        simp at h
        rw [if_pos (by omega), ← h]
        congr 1
        omega
      · rw [show 2 * n + 1 - 2 * n = 1 by omega] at h
        simp at h
        rw [if_neg (by omega), ← h]
        congr 1
        omega
theorem lastRows_get (ticks : Int) (n : Nat) : ∀ (i : Nat) row, (lastRows ticks n)[i]? = some row → row = if i % 2 = 0 then stepRow 5 (i / 2 : Nat) ticks else stepRow 6 (i / 2 : Nat) 0 := by
  induction n with
  | zero => intro i row h; simp [lastRows] at h
  | succ n ih =>
    intro i row h
    rw [lastRows_succ] at h
    rcases Nat.lt_or_ge i (2 * n) with h1 | h1
    · rw [List.getElem?_append_left (by rw [lastRows_len]; exact h1)] at h
      exact ih i row h
    · rw [List.getElem?_append_right (by rw [lastRows_len]; exact h1), lastRows_len] at h
      have hlt := (List.getElem?_eq_some_iff.1 h).1
      simp at hlt
      rcases (show i = 2 * n ∨ i = 2 * n + 1 by omega) with rfl | rfl
      · rw [Nat.sub_self] at h
        simp at h
        rw [if_pos (by omega), ← h]
        congr 1
        omega
      · rw [show 2 * n + 1 - 2 * n = 1 by omega] at h
        simp at h
        rw [if_neg (by omega), ← h]
        congr 1
        omega
/-- A unit by its number. -/
def unitAt (n : Nat) (i : Nat) : Int × Int :=
  if i < 2 * n then (if i % 2 = 0 then (3, ((i / 2 : Nat) : Int)) else (4, ((i / 2 : Nat) : Int))) else (if (i - 2 * n) % 2 = 0 then (5, (((i - 2 * n) / 2 : Nat) : Int)) else (6, (((i - 2 * n) / 2 : Nat) : Int)))
theorem unitAt_inj (n i j : Nat) (h : unitAt n i = unitAt n j) : i = j := by
  unfold unitAt at h
  split at h <;> split at h <;> (split at h <;> (try split at h) <;> (try split at h) <;> rw [Prod.mk.injEq] at h <;> omega)
theorem units_get {n k : Nat} {ticks : Int} {l : List S4} (hl : firstRows n ++ lastRows ticks k = l.map stepAV) (i : Nat) (s : S4) (hi : l[i]? = some s) : stepU s = unitAt n i ∧ (0 < ticks → live s) := by
  have h : (firstRows n ++ lastRows ticks k)[i]? = some (stepAV s) := by rw [hl, List.getElem?_map, hi]; rfl
  unfold unitAt
  rcases Nat.lt_or_ge i (2 * n) with h1 | h1
  · rw [List.getElem?_append_left (by rw [firstRows_len]; exact h1)] at h
    have := firstRows_get n i _ h
    rw [if_pos h1]
    split at this <;> rename_i hc <;> simp only [stepAV, stepRow, List.cons.injEq, AV.int.injEq, true_and] at this <;> obtain ⟨a1, a2, _⟩ := this
    · rw [if_pos hc]; exact ⟨by simp [stepU, a1, a2], fun _ => .inl (by rw [a1]; decide)⟩
    · rw [if_neg hc]; exact ⟨by simp [stepU, a1, a2], fun _ => .inl (by rw [a1]; decide)⟩
  · rw [List.getElem?_append_right (by rw [firstRows_len]; exact h1), firstRows_len] at h
    have := lastRows_get ticks k _ _ h
    rw [if_neg (by omega)]
    split at this <;> rename_i hc <;> simp only [stepAV, stepRow, List.cons.injEq, AV.int.injEq, true_and] at this <;> obtain ⟨a1, a2, _, a4, _⟩ := this
    · rw [if_pos hc]; exact ⟨by simp [stepU, a1, a2], fun h => .inr (by rw [a4]; exact h)⟩
    · rw [if_neg hc]; exact ⟨by simp [stepU, a1, a2], fun _ => .inl (by rw [a1]; decide)⟩
theorem units_good {n k : Nat} {ticks : Int} {l : List S4} (hl : firstRows n ++ lastRows ticks k = l.map stepAV) (ht : 0 < ticks) : Good l :=
  ⟨fun i s hi => (units_get hl i s hi).2 ht, fun i j s t hi hj he => unitAt_inj n i j (by rw [← (units_get hl i s hi).1, ← (units_get hl j t hj).1]; exact he)⟩
theorem units_alike {n k : Nat} {ticks ticks' : Int} {l l1 : List S4} (hl : firstRows n ++ lastRows ticks k = l.map stepAV) (hl1 : firstRows n ++ lastRows ticks' k = l1.map stepAV) : l1.length = l.length ∧ ∀ s ∈ l1, ∃ (i : Nat) (t : S4), l[i]? = some t ∧ stepU s = stepU t := by
  have e1 : l.length = 2 * n + 2 * k := by rw [← List.length_map (f := stepAV), ← hl, List.length_append, firstRows_len, lastRows_len]
  have e2 : l1.length = 2 * n + 2 * k := by rw [← List.length_map (f := stepAV), ← hl1, List.length_append, firstRows_len, lastRows_len]
  refine ⟨by omega, fun s hs => ?_⟩
  obtain ⟨i, hi⟩ := List.mem_iff_getElem?.1 hs
  have hlt := (List.getElem?_eq_some_iff.1 hi).1
  refine ⟨i, l[i]'(by omega), List.getElem?_eq_getElem _, ?_⟩
  rw [(units_get hl1 i s hi).1, (units_get hl i _ (List.getElem?_eq_getElem (by omega))).1]
end Go.Proofs.Ytibmabidjacjlaa.L
