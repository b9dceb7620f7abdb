/- Layer 21 (meter): Fair: when each unit was picked last; plain lemmas. -/
import Derived.Test.YtibmabidjacjlaaMb
import Derived.Test.YtibmabidjacjlaaLr
namespace Go.Proofs.Ytibmabidjacjlaa.L
open Go Go.RowKit Go.Proofs
set_option linter.unusedVariables false

abbrev S4 := Int × Int × List UInt8 × Int
def stepAV (s : S4) : List AV := [.int .i64 s.1, .int .i64 s.2.1, .str s.2.2.1, .int .i64 s.2.2.2]
def stepU (s : S4) : Int × Int := (s.1, s.2.1)
def live (s : S4) : Prop := s.1 ≠ 5 ∨ 0 < s.2.2.2
instance (s : S4) : Decidable (live s) := by unfold live; infer_instance

theorem steps_list : ∀ {xs : List (List AV)}, (∀ row ∈ xs, isStep row) → ∃ L : List S4, xs = L.map stepAV := by
  intro xs
  induction xs with
  | nil => intro _; exact ⟨[], rfl⟩
  | cons x xs ih =>
    intro h
    obtain ⟨k, a, s, t, rfl⟩ := h x (by simp)
    obtain ⟨L, rfl⟩ := ih fun row hr => h row (by simp [hr])
    exact ⟨(k, a, s, t) :: L, rfl⟩

abbrev ukey (u : Int × Int) : AV := .agg [.int .i64 u.1, .int .i64 u.2]
def ent (f : Int × Int → Int) (u : Int × Int) : AV × AV := (ukey u, .int .i64 (f u))
theorem keq_ukey (u v : Int × Int) : keq (ukey u) (ukey v) = decide (u = v) := by
  obtain ⟨a, b⟩ := u
  obtain ⟨c, d⟩ := v
  rw [Bool.eq_iff_iff]
  simp [keq, eqC]
theorem ent_ok (f : Int × Int → Int) (us : List (Int × Int)) : ∀ p ∈ us.map (ent f), OKk (.agg [.int .i64, .int .i64]) p.1 := by
  intro p hp
  obtain ⟨u, _, rfl⟩ := List.mem_map.1 hp
  exact .agg (.int (.int .nil))
theorem mget_ent (f : Int × Int → Int) (u : Int × Int) : ∀ us : List (Int × Int), mget (ukey u) (us.map (ent f)) = if u ∈ us then some (.int .i64 (f u)) else none := by
  intro us
  induction us with
  | nil => rfl
  | cons v r ih =>
    simp only [List.map_cons, mget, ent, keq_ukey, decide_eq_true_eq]
    by_cases h : u = v
    · subst h; simp
    · rw [if_neg h]
      rw [ih]
      simp [h]
theorem mset_ent (f : Int × Int → Int) (u : Int × Int) (n : Int) : ∀ us : List (Int × Int), us.Nodup → mset (ukey u) (.int .i64 n) (us.map (ent f)) = if u ∈ us then us.map (ent fun v => if v = u then n else f v) else us.map (ent f) ++ [ent (fun _ => n) u] := by
  intro us
  induction us with
  | nil => intro _; rfl
  | cons v r ih =>
    intro hn
    obtain ⟨h1, h2⟩ := List.nodup_cons.1 hn
    simp only [List.map_cons, mset]
    by_cases h : u = v
    · subst h
      rw [if_pos (by simp [ent, keq_ukey]), if_pos (by simp)]
      simp only [ent, if_true]
      congr 1
      refine List.map_congr_left fun w hw => ?_
      have : w ≠ u := fun e => h1 (e ▸ hw)
      simp [ent, this]
    · rw [if_neg (by simp [ent, keq_ukey, h]), ih h2]
      by_cases hm : u ∈ r
      · rw [if_pos hm, if_pos (by simp [hm])]
        have : v ≠ u := fun e => h e.symm
        simp [ent, this]
      · rw [if_neg hm, if_neg (by simp [h, hm])]
        rfl

/-- The units of a list of steps, each once. -/
def addU (us : List (Int × Int)) (s : S4) : List (Int × Int) := if stepU s ∈ us then us else us ++ [stepU s]
def unitsOf (L : List S4) : List (Int × Int) := L.foldl addU []
theorem unitsOf_snoc (L : List S4) (s : S4) : unitsOf (L ++ [s]) = addU (unitsOf L) s := by simp [unitsOf]
theorem addU_nodup {us : List (Int × Int)} (h : us.Nodup) (s : S4) : (addU us s).Nodup := by
  unfold addU
  split
  · exact h
  · rename_i hn
    exact List.nodup_append.2 ⟨h, by simp, fun a ha b hb => by simp at hb; subst hb; exact fun e => hn (e ▸ ha)⟩
theorem foldl_nodup (L : List S4) : ∀ us : List (Int × Int), us.Nodup → (L.foldl addU us).Nodup := by
  induction L with
  | nil => intro us h; exact h
  | cons s L ih => intro us h; exact ih _ (addU_nodup h s)
theorem unitsOf_nodup (L : List S4) : (unitsOf L).Nodup := foldl_nodup L [] List.nodup_nil
theorem mem_foldl (L : List S4) : ∀ (us : List (Int × Int)) (u : Int × Int), u ∈ L.foldl addU us ↔ u ∈ us ∨ ∃ s ∈ L, stepU s = u := by
  induction L with
  | nil => intro us u; simp
  | cons s L ih =>
    intro us u
    rw [List.foldl_cons, ih]
    have : u ∈ addU us s ↔ u ∈ us ∨ u = stepU s := by
      unfold addU
      split
      · rename_i h
        exact ⟨.inl, fun h' => h'.elim id fun e => e ▸ h⟩
      · simp
    rw [this]
    constructor
    · rintro ((h | h) | ⟨x, h, h'⟩)
      · exact .inl h
      · exact .inr ⟨s, by simp, h.symm⟩
      · exact .inr ⟨x, by simp [h], h'⟩
    · rintro (h | ⟨x, h, h'⟩)
      · exact .inl (.inl h)
      · rcases List.mem_cons.1 h with rfl | h
        · exact .inl (.inr h'.symm)
        · exact .inr ⟨x, h, h'⟩
theorem mem_unitsOf (L : List S4) (u : Int × Int) : u ∈ unitsOf L ↔ ∃ s ∈ L, stepU s = u := by simp [unitsOf, mem_foldl]
theorem mset_new (us : List (Int × Int)) (s : S4) (hn : us.Nodup) : mset (ukey (stepU s)) (.int .i64 (-1)) (us.map (ent fun _ => -1)) = (addU us s).map (ent fun _ => -1) := by
  rw [mset_ent _ _ _ _ hn]
  unfold addU
  split
  · simp
  · simp

/-- Does a step pick a unit? -/
def hits (u : Int × Int) (s : S4) : Prop := stepU s = u ∧ live s
instance (u : Int × Int) (s : S4) : Decidable (hits u s) := by unfold hits; infer_instance
/-- Where it was picked last, of the first k steps; -1: nowhere. -/
def lastIx (L : List S4) (u : Int × Int) : Nat → Int
  | 0 => -1
  | k + 1 => match L[k]? with
    | some s => if hits u s then k else lastIx L u k
    | none => lastIx L u k
theorem lastIx_succ {L : List S4} {u : Int × Int} {k : Nat} {s : S4} (h : L[k]? = some s) : lastIx L u (k + 1) = if hits u s then (k : Int) else lastIx L u k := by simp [lastIx, h]
theorem lastIx_le (L : List S4) (u : Int × Int) (k : Nat) : -1 ≤ lastIx L u k ∧ lastIx L u k < k := by
  induction k with
  | zero => simp [lastIx]
  | succ k ih =>
    unfold lastIx
    split
    · split
      · omega
      · omega
    · omega

/-- Is each unit picked in any so many steps? -/
def okAt (L : List S4) (within : Int) (u : Int × Int) (k : Nat) : Prop := (k : Int) - lastIx L u k ≤ within
def fairP (L l : List S4) (within : Int) : Prop := ∀ s ∈ l, ∀ k : Nat, k ≤ L.length → okAt L within (stepU s) k

theorem map_upd (L : List S4) (us : List (Int × Int)) (hn : us.Nodup) (k : Nat) (s : S4) (h : L[k]? = some s) (hl : live s) (hm : stepU s ∈ us) :
    mset (ukey (stepU s)) (.int .i64 k) (us.map (ent fun u => lastIx L u k)) = us.map (ent fun u => lastIx L u (k + 1)) := by
  rw [mset_ent _ _ _ _ hn, if_pos hm]
  refine List.map_congr_left fun u hu => ?_
  unfold ent
  congr 2
  dsimp only
  rw [lastIx_succ h]
  by_cases e : u = stepU s
  · subst e; simp [hits, hl]
  · rw [if_neg e, if_neg (fun hh => e hh.1.symm)]
theorem map_same (L : List S4) (us : List (Int × Int)) (k : Nat) (s : S4) (h : L[k]? = some s) (hx : ¬ live s ∨ stepU s ∉ us) :
    us.map (ent fun u => lastIx L u k) = us.map (ent fun u => lastIx L u (k + 1)) := by
  refine List.map_congr_left fun u hu => ?_
  unfold ent
  congr 2
  dsimp only
  rw [lastIx_succ h, if_neg]
  rintro ⟨e, hl⟩
  rcases hx with hx | hx
  · exact hx hl
  · exact hx (e ▸ hu)
end Go.Proofs.Ytibmabidjacjlaa.L
