/- Layer 8 (parse): what was read stays so when bytes come behind; all requests, however the bytes are cut. -/
import Derived.Test.YtffcgpkbibijpaaGreatDoorQd6
set_option linter.unusedVariables false
set_option linter.unusedSimpArgs false
namespace Go.Proofs.YtffcgpkbibijpaaGreatDoor.L
open Go Go.RowKit Go.Proofs
set_option linter.unusedVariables false
set_option linter.unusedSimpArgs false
set_option maxRecDepth 100000

theorem endL_mono {n k : Nat} {l t : List UInt8} (h : endL n k l ≠ .more) : endL n k (l ++ t) = endL n k l := by
  match l with
  | [] => exact absurd rfl h
  | [c] =>
    rw [endL] at h
    have hc : c ≠ 13 := fun e => h (if_pos e)
    cases t with
    | nil => rfl
    | cons d r =>
      show endL n k (c :: d :: r) = _
      rw [endL, endL, if_neg hc, if_neg fun e => hc e.1]
  | c :: d :: r => rfl
theorem restL_mono {n line : Nat} {t : List UInt8} : ∀ {l : List UInt8} {k : Nat}, restL n line k l ≠ .more → restL n line k (l ++ t) = restL n line k l := by
  intro l
  induction l with
  | nil => intro k h; exact absurd rfl h
  | cons c r ih =>
    intro k h
    rw [List.cons_append]
    rw [restL] at h ⊢
    rw [restL]
    split
    · rename_i hc
      rw [if_pos hc] at h
      split
      · rfl
      · rename_i hk
        rw [if_neg hk] at h
        exact ih h
    · rename_i hc
      rw [if_neg hc] at h
      exact endL_mono (l := c :: r) h
theorem sizeL_mono {line : Nat} {t : List UInt8} : ∀ {l : List UInt8} {d n k : Nat}, sizeL line d n k l ≠ .more → sizeL line d n k (l ++ t) = sizeL line d n k l := by
  intro l
  induction l with
  | nil => intro d n k h; exact absurd rfl h
  | cons c r ih =>
    intro d n k h
    rw [List.cons_append]
    rw [sizeL] at h ⊢
    rw [sizeL]
    split
    · rename_i h1
      rw [if_pos h1] at h
      split
      · rfl
      · rename_i h2
        rw [if_neg h2] at h
        exact ih h
    · rename_i h1
      rw [if_neg h1] at h
      split
      · rfl
      · rename_i h2
        rw [if_neg h2] at h
        split
        · rename_i h3
          rw [if_pos h3] at h
          exact restL_mono h
        · rename_i h3
          rw [if_neg h3] at h
          exact endL_mono (l := c :: r) h
theorem drop_app {s t : List UInt8} {k : Nat} (h : k ≤ s.length) : (s ++ t).drop k = s.drop k ++ t := by rw [List.drop_append, show k - s.length = 0 by omega]; rfl
theorem take_app {s t : List UInt8} {k : Nat} (h : k ≤ s.length) : (s ++ t).take k = s.take k := by rw [List.take_append, show k - s.length = 0 by omega]; simp
theorem chunksF_mono {s t : List UInt8} : ∀ (f g : Nat) (acc : List UInt8) (at' : Nat), at' ≤ s.length → f ≤ g → chunksF f s acc at' ≠ .more → chunksF g (s ++ t) acc at' = chunksF f s acc at' := by
  intro f
  induction f with
  | zero => intro g acc at' _ _ h; exact absurd rfl h
  | succ f ih =>
    intro g acc at' ha hg h
    obtain ⟨g, rfl⟩ : ∃ q, g = q + 1 := ⟨g - 1, by omega⟩
    rw [chunksF] at h ⊢
    rw [chunksF]
    rw [drop_app ha]
    have hm := sizeL_mono (line := at') (d := 0) (n := 0) (k := at') (l := s.drop at') (t := t)
    have hle : ∀ m k, sizeL at' 0 0 at' (s.drop at') = .got m k → m < 4294967296 ∧ at' + 2 ≤ k ∧ k ≤ s.length := fun m k => sizeL_le ha (Nat.zero_le _) Nat.zero_lt_one
    revert h hm hle
    generalize sizeL at' 0 0 at' (s.drop at') = z
    intro h hm hle
    cases z with
    | more => exact absurd rfl h
    | wrong => rw [hm (by simp)]; rfl
    | got n k =>
      obtain ⟨_, h1, h2⟩ := hle n k rfl
      rw [hm (by simp)]
      rw [afterL] at h ⊢
      rw [afterL]
      split
      · rfl
      rename_i hbig
      rw [if_neg hbig] at h
      by_cases hlong : s.length < k + n
      · rw [if_pos hlong] at h; exact absurd rfl h
      rw [if_neg hlong] at h
      rw [if_neg hlong, if_neg (by rw [List.length_append]; omega), drop_app (by omega), take_app (by omega)]
      have hem := endL_mono (n := 0) (k := k + n) (l := s.drop (k + n)) (t := t)
      have hel : ∀ m e, endL 0 (k + n) (s.drop (k + n)) = .got m e → m = 0 ∧ e = k + n + 2 ∧ e ≤ s.length := fun m e => endL_le (by omega)
      revert h hem hel
      generalize endL 0 (k + n) (s.drop (k + n)) = z
      intro h hem hel
      cases z with
      | more => exact absurd rfl h
      | wrong => rw [hem (by simp)]
      | got m e =>
        rw [hem (by simp)]
        dsimp only at h ⊢
        split
        · rfl
        · rename_i h0
          rw [if_neg h0] at h
          exact ih _ _ _ (hel m e rfl).2.2 (by omega) h
theorem bodyAt_mono {s t : List UInt8} {at' : Nat} {h : Hd} (ha : at' ≤ s.length) (hne : bodyAt s at' h ≠ .more) : bodyAt (s ++ t) at' h = bodyAt s at' h := by
  unfold bodyAt at hne ⊢
  split
  · rfl
  rename_i h0
  rw [if_neg h0] at hne
  split
  · rename_i h1
    rw [if_pos h1] at hne
    by_cases hl : s.length < at' + (bodyS h).2.1.toNat
    · rw [if_pos hl] at hne; exact absurd rfl hne
    · rw [if_neg hl, if_neg (by rw [List.length_append]; omega), take_app (by omega)]
  · rename_i h1
    rw [if_neg h1] at hne
    split
    · rename_i h2
      rw [if_pos h2] at hne
      unfold chunksS at hne ⊢
      exact chunksF_mono _ _ _ _ ha (by rw [List.length_append]; omega) hne
    · rfl
theorem index_app {s t : List UInt8} (h : 0 ≤ Lib.index s crlf2) : Lib.index (s ++ t) crlf2 = Lib.index s crlf2 := by
  induction s with
  | nil => exact absurd h (by decide)
  | cons b l ih =>
    rw [List.cons_append]
    rw [Lib.index] at h ⊢
    rw [Lib.index]
    have hp : ∀ (hl : 4 ≤ (b :: l).length), crlf2.isPrefixOf (b :: (l ++ t)) = crlf2.isPrefixOf (b :: l) := by
      intro hl
      rw [Bool.eq_iff_iff, List.isPrefixOf_iff_prefix, List.isPrefixOf_iff_prefix, List.prefix_iff_eq_take, List.prefix_iff_eq_take, ← List.cons_append, take_app (by simpa [crlf2] using hl)]
    by_cases h1 : crlf2.isPrefixOf (b :: l) = true
    · have hl : 4 ≤ (b :: l).length := by
        have := (List.isPrefixOf_iff_prefix.1 h1).length_le
        simpa [crlf2] using this
      rw [if_pos h1, hp hl, if_pos h1]
    · rw [if_neg h1] at h ⊢
      rcases idx_room l with hx | ⟨i, hx, hi⟩
      · rw [hx] at h; exact absurd h (by decide)
      · have hl : 4 ≤ (b :: l).length := by simp only [List.length_cons]; omega
        rw [hp hl, if_neg h1, ih (by rw [hx]; omega)]
/-- What was read stays so. -/
theorem nextL_mono {s t : List UInt8} (hl : 0 ≤ Lib.index s crlf2 ∨ (s ++ t).length ≤ 4096) (h : nextL s ≠ .more) : nextL (s ++ t) = nextL s := by
  unfold nextL at h ⊢
  rcases idx_room s with hx | ⟨i, hx, hi⟩
  · exfalso
    rcases hl with hl | hl
    · rw [hx] at hl; exact absurd hl (by decide)
    · rw [hx, if_pos (by decide), if_neg (by rw [List.length_append] at hl; omega)] at h
      exact h rfl
  · rw [hx, if_neg (by omega), Int.toNat_natCast] at h
    have hi0 : ¬ ((i : Int) < 0) := by omega
    rw [index_app (by rw [hx]; omega), hx]
    simp only [hi0, if_false, Int.toNat_natCast, take_app hi]
    split
    · rfl
    · rename_i h0
      rw [if_neg h0] at h
      have hb : bodyAt s (i + 4) (headParse (s.take (i + 4))).1 ≠ .more := fun e => h (by rw [e])
      rw [bodyAt_mono hi hb]
theorem drainF_fuel : ∀ (f g : Nat) (s : List UInt8) (out : List Rq), s.length < f → s.length < g → drainF f s out = drainF g s out := by
  intro f
  induction f with
  | zero => intro g s out h; exact absurd h (Nat.not_lt_zero _)
  | succ f ih =>
    intro g s out h1 h2
    obtain ⟨g, rfl⟩ : ∃ q, g = q + 1 := ⟨g - 1, by omega⟩
    rw [drainF, drainF]
    have hf := nextL_facts s
    revert hf
    generalize nextL s = z
    intro hf
    cases z with
    | more => rfl
    | bad st => rfl
    | got hd b k =>
      obtain ⟨_, hk, hk2⟩ := hf
      exact ih g _ _ (by rw [List.length_drop]; omega) (by rw [List.length_drop]; omega)
/-- All whole requests of bytes: what was read, what is left, the status. -/
def drainS (s : List UInt8) (out : List Rq) : List Rq × List UInt8 × Int := drainF (s.length + 1) s out
theorem drainF_S {f : Nat} {s : List UInt8} {out : List Rq} (h : s.length < f) : drainF f s out = drainS s out := drainF_fuel _ _ _ _ h (Nat.lt_succ_self _)
theorem drainS_more {s : List UInt8} {out : List Rq} (h : nextL s = .more) : drainS s out = (out, s, 0) := by unfold drainS; rw [drainF, h]
theorem drainS_bad {s : List UInt8} {out : List Rq} {st : Int} (h : nextL s = .bad st) : drainS s out = (out, [], st) := by unfold drainS; rw [drainF, h]
theorem drainS_got {s : List UInt8} {out : List Rq} {hd : Hd} {b : List UInt8} {k : Nat} (h : nextL s = .got hd b k) : drainS s out = drainS (s.drop k) (out ++ [rqOf hd b]) := by
  have hf := nextL_facts s
  rw [h] at hf
  obtain ⟨_, hk, hk2⟩ := hf
  unfold drainS
  rw [drainF, h]
  exact drainF_S (by rw [List.length_drop]; omega)
theorem drainS_app : ∀ (m : Nat) (s t : List UInt8) (out : List Rq), s.length ≤ m → (s ++ t).length ≤ 4096 →
    ((drainS s out).2.2 ≠ 0 → (drainS (s ++ t) out).1 = (drainS s out).1 ∧ (drainS (s ++ t) out).2.2 = (drainS s out).2.2) ∧
    ((drainS s out).2.2 = 0 → drainS (s ++ t) out = drainS ((drainS s out).2.1 ++ t) (drainS s out).1 ∧ nextL (drainS s out).2.1 = .more ∧ (drainS s out).2.1.length ≤ s.length) := by
  intro m
  induction m with
  | zero =>
    intro s t out hm hl
    obtain rfl : s = [] := List.length_eq_zero_iff.1 (by omega)
    have : nextL [] = .more := rfl
    rw [drainS_more this]
    exact ⟨fun h => absurd rfl h, fun _ => ⟨rfl, this, Nat.le_refl _⟩⟩
  | succ m ih =>
    intro s t out hm hl
    have hf := nextL_facts s
    have hmo := nextL_mono (s := s) (t := t) (.inr hl)
    cases hz : nextL s with
    | more =>
      rw [drainS_more hz]
      exact ⟨fun h => absurd rfl h, fun _ => ⟨rfl, hz, Nat.le_refl _⟩⟩
    | bad st =>
      rw [hz] at hf hmo
      have hne : st ≠ 0 := by rcases hf with rfl | rfl | rfl | rfl <;> decide
      rw [drainS_bad hz, drainS_bad (hmo (by simp))]
      exact ⟨fun _ => ⟨rfl, rfl⟩, fun h => absurd h hne⟩
    | got hd b k =>
      rw [hz] at hf hmo
      obtain ⟨_, hk, hk2⟩ := hf
      rw [drainS_got hz, drainS_got (hmo (by simp)), drop_app hk2]
      have hdl : (s.drop k).length = s.length - k := List.length_drop
      obtain ⟨h1, h2⟩ := ih (s.drop k) t (out ++ [rqOf hd b]) (by omega) (by rw [List.length_append] at hl ⊢; omega)
      exact ⟨h1, fun h => ⟨(h2 h).1, (h2 h).2.1, by have := (h2 h).2.2; omega⟩⟩
/-- Byte for byte or at once. -/
theorem allF_drain : ∀ (l w : List UInt8) (out : List Rq), (w ++ l).length ≤ 4096 → nextL w = .more → allF l w out = ((drainS (w ++ l) out).1, (drainS (w ++ l) out).2.2) := by
  intro l
  induction l with
  | nil =>
    intro w out _ h
    rw [allF, List.append_nil, drainS_more h]
  | cons c r ih =>
    intro w out hl h
    have hl2 : w.length + r.length + 1 ≤ 4096 := by simp only [List.length_append, List.length_cons] at hl; omega
    rw [allF, if_neg (by omega), drainF_S (by simp)]
    have e : w ++ c :: r = (w ++ [c]) ++ r := by simp
    obtain ⟨h1, h2⟩ := drainS_app (w ++ [c]).length (w ++ [c]) r out (Nat.le_refl _) (by simp; omega)
    rw [e]
    split
    · rename_i hne
      obtain ⟨e1, e2⟩ := h1 hne
      rw [e1, e2]
    · rename_i h0
      obtain ⟨e1, e2, e3⟩ := h2 (Classical.not_not.1 h0)
      rw [e1]
      exact ih _ _ (by simp only [List.length_append, List.length_cons, List.length_nil] at e3 ⊢; omega) e2
theorem allS_drain {s : List UInt8} (h : s.length ≤ 4096) : allS s = ((drainS s []).1, (drainS s []).2.2) := allF_drain s [] [] h rfl
end Go.Proofs.YtffcgpkbibijpaaGreatDoor.L
