/- Layer 20 (audit): plain lemmas: sorted lists, grants, chains. -/
import Derived.Test.YtibmabidjacjlaaFa
import Derived.Lib.SlicesCompact
namespace Go.Proofs.Ytibmabidjacjlaa.L
open Go Go.RowKit Go.Proofs
set_option linter.unusedVariables false

/-! ### sets of whole numbers -/
abbrev ints (zs : List Int) : List (List AV) := zs.map fun z => [.int .i64 z]
def insF (x : Int) : List Int → List Int
  | [] => [x]
  | y :: r => if x < y then x :: y :: r else y :: insF x r
def ofStep (out : List Int) (x : Int) : List Int := if x ∈ out then out else insF x out
def ofR (zs : List Int) : List Int := zs.foldl ofStep []
theorem ofR_snoc (zs : List Int) (x : Int) : ofR (zs ++ [x]) = ofStep (ofR zs) x := by simp [ofR]
theorem mem_insF (x z : Int) : ∀ out, z ∈ insF x out ↔ z = x ∨ z ∈ out := by
  intro out
  induction out with
  | nil => simp [insF]
  | cons y r ih =>
    unfold insF
    split
    · simp
    · simp only [List.mem_cons, ih]
      constructor
      · rintro (h | h | h)
        · exact .inr (.inl h)
        · exact .inl h
        · exact .inr (.inr h)
      · rintro (h | h | h)
        · exact .inr (.inl h)
        · exact .inl h
        · exact .inr (.inr h)
theorem insF_sorted (x : Int) : ∀ out : List Int, out.Pairwise (· < ·) → x ∉ out → (insF x out).Pairwise (· < ·) := by
  intro out
  induction out with
  | nil => intro _ _; simp [insF]
  | cons y r ih =>
    intro h hx
    obtain ⟨h1, h2⟩ := List.pairwise_cons.1 h
    unfold insF
    split
    · rename_i hlt
      refine List.pairwise_cons.2 ⟨fun z hz => ?_, h⟩
      rcases List.mem_cons.1 hz with rfl | hz
      · exact hlt
      · have := h1 z hz; omega
    · rename_i hlt
      have hne : x ≠ y := fun e => hx (by simp [e])
      refine List.pairwise_cons.2 ⟨fun z hz => ?_, ih h2 fun hm => hx (by simp [hm])⟩
      rcases (mem_insF x z r).1 hz with rfl | hz
      · omega
      · exact h1 z hz
theorem insF_len (x : Int) : ∀ out, (insF x out).length = out.length + 1 := by
  intro out
  induction out with
  | nil => rfl
  | cons y r ih => unfold insF; split <;> simp [ih]
theorem ofStep_sorted {out : List Int} {x : Int} (h : out.Pairwise (· < ·)) : (ofStep out x).Pairwise (· < ·) := by
  unfold ofStep
  split
  · exact h
  · rename_i hm; exact insF_sorted x out h hm
theorem mem_ofStep {out : List Int} {x z : Int} : z ∈ ofStep out x ↔ z = x ∨ z ∈ out := by
  unfold ofStep
  split
  · rename_i h
    constructor
    · exact .inr
    · rintro (rfl | h')
      · exact h
      · exact h'
  · exact mem_insF x z out
theorem fold_sorted : ∀ (zs out : List Int), out.Pairwise (· < ·) → (zs.foldl ofStep out).Pairwise (· < ·) := by
  intro zs
  induction zs with
  | nil => intro out h; exact h
  | cons x zs ih => intro out h; exact ih _ (ofStep_sorted h)
theorem mem_fold : ∀ (zs out : List Int) (z : Int), z ∈ zs.foldl ofStep out ↔ z ∈ zs ∨ z ∈ out := by
  intro zs
  induction zs with
  | nil => intro out z; simp
  | cons x zs ih =>
    intro out z
    rw [List.foldl_cons, ih, mem_ofStep, List.mem_cons]
    constructor
    · rintro (h | h | h)
      · exact .inl (.inr h)
      · exact .inl (.inl h)
      · exact .inr h
    · rintro ((h | h) | h)
      · exact .inr (.inl h)
      · exact .inl h
      · exact .inr (.inr h)
theorem ofR_sorted (zs : List Int) : (ofR zs).Pairwise (· < ·) := fold_sorted zs [] .nil
theorem mem_ofR (zs : List Int) (z : Int) : z ∈ ofR zs ↔ z ∈ zs := by simp [ofR, mem_fold]
theorem ofStep_len (out : List Int) (x : Int) : (ofStep out x).length ≤ out.length + 1 := by
  unfold ofStep
  split
  · omega
  · rw [insF_len]; omega
theorem fold_len : ∀ (zs out : List Int), (zs.foldl ofStep out).length ≤ zs.length + out.length := by
  intro zs
  induction zs with
  | nil => intro out; simp
  | cons x zs ih =>
    intro out
    have := ih (ofStep out x)
    have := ofStep_len out x
    simp only [List.foldl_cons, List.length_cons]
    omega
theorem ofR_len (zs : List Int) : (ofR zs).length ≤ zs.length := by simpa [ofR] using fold_len zs []
theorem sorted_ext : ∀ a b : List Int, a.Pairwise (· < ·) → b.Pairwise (· < ·) → (∀ x, x ∈ a ↔ x ∈ b) → a = b := by
  intro a
  induction a with
  | nil =>
    intro b _ _ h
    cases b with
    | nil => rfl
    | cons y b => exact absurd ((h y).2 (by simp)) (by simp)
  | cons x a ih =>
    intro b ha hb h
    cases b with
    | nil => exact absurd ((h x).1 (by simp)) (by simp)
    | cons y b =>
      obtain ⟨a1, a2⟩ := List.pairwise_cons.1 ha
      obtain ⟨b1, b2⟩ := List.pairwise_cons.1 hb
      have hxy : x = y := by
        rcases List.mem_cons.1 ((h x).1 (by simp)) with e | hx
        · exact e
        · rcases List.mem_cons.1 ((h y).2 (by simp)) with e | hy
          · exact e.symm
          · have := a1 y hy; have := b1 x hx; omega
      subst hxy
      congr 1
      refine ih b a2 b2 fun z => ⟨fun hz => ?_, fun hz => ?_⟩
      · rcases List.mem_cons.1 ((h z).1 (List.mem_cons_of_mem _ hz)) with rfl | h'
        · have := a1 z hz; omega
        · exact h'
      · rcases List.mem_cons.1 ((h z).2 (List.mem_cons_of_mem _ hz)) with rfl | h'
        · have := b1 z hz; omega
        · exact h'

theorem compact_inv (d : Array Int) (hs : ∀ i j, i ≤ j → j < d.size → d[i]! ≤ d[j]!) : ∀ m, m ≤ d.size → (Lib.compactUpTo d m).Pairwise (· < ·) ∧ ∀ x, x ∈ Lib.compactUpTo d m ↔ ∃ j, j < m ∧ x = d[j]! := by
  intro m
  induction m with
  | zero => intro _; simp [Lib.compactUpTo]
  | succ m ih =>
    intro hm
    obtain ⟨h1, h2⟩ := ih (by omega)
    rw [Lib.compactUpTo_succ]
    cases hk : Lib.keeps d m with
    | true =>
      rw [if_pos rfl]
      constructor
      · refine List.pairwise_append.2 ⟨h1, by simp, fun x hx y hy => ?_⟩
        obtain rfl : y = d[m]! := by simpa using hy
        obtain ⟨j, hj, rfl⟩ := (h2 x).1 hx
        have hne : d[m]! ≠ d[m - 1]! := by
          have : m = 0 ∨ d[m]! ≠ d[m - 1]! := by simpa [Lib.keeps] using hk
          rcases this with rfl | h
          · omega
          · exact h
        have e1 := hs j (m - 1) (by omega) (by omega)
        have e2 := hs (m - 1) m (by omega) (by omega)
        omega
      · intro x
        rw [List.mem_append, h2]
        constructor
        · rintro (⟨j, hj, e⟩ | h)
          · exact ⟨j, by omega, e⟩
          · exact ⟨m, by omega, by simpa using h⟩
        · rintro ⟨j, hj, e⟩
          rcases Nat.lt_or_ge j m with h | h
          · exact .inl ⟨j, h, e⟩
          · obtain rfl : j = m := by omega
            exact .inr (by simp [e])
    | false =>
      rw [if_neg (by simp), List.append_nil]
      refine ⟨h1, fun x => (h2 x).trans ⟨fun ⟨j, hj, e⟩ => ⟨j, by omega, e⟩, fun ⟨j, hj, e⟩ => ?_⟩⟩
      rcases Nat.lt_or_ge j m with h | h
      · exact ⟨j, h, e⟩
      · obtain rfl : j = m := by omega
        have hne : ¬ (j = 0 ∨ d[j]! ≠ d[j - 1]!) := by simpa [Lib.keeps] using hk
        have hj0 : j ≠ 0 := fun e => hne (.inl e)
        have hje : d[j]! = d[j - 1]! := Decidable.byContradiction fun e => hne (.inr e)
        exact ⟨j - 1, by omega, by rw [e, hje]⟩
theorem get!_list (l : List Int) (i : Nat) (h : i < l.length) : l.toArray[i]! = l[i] := by simp [h]
theorem compact_sort (zs : List Int) : Lib.compact (zs.mergeSort fun x y => decide (x ≤ y)) = ofR zs := by
  obtain ⟨s, hs⟩ : ∃ s, s = zs.mergeSort fun x y => decide (x ≤ y) := ⟨_, rfl⟩
  have hp : s.Perm zs := by rw [hs]; exact List.mergeSort_perm _ _
  have hso : s.Pairwise fun x y => x ≤ y := by
    have := List.pairwise_mergeSort (le := fun x y : Int => decide (x ≤ y)) (fun a b c h1 h2 => by simp at h1 h2 ⊢; omega) (fun a b => by simp; omega) zs
    rw [← hs] at this
    exact this.imp fun h => by simpa using h
  have hget : ∀ i j, i ≤ j → j < s.toArray.size → s.toArray[i]! ≤ s.toArray[j]! := by
    intro i j hij hj
    have hj' : j < s.length := by simpa using hj
    rw [get!_list s i (by omega), get!_list s j hj']
    rcases Nat.lt_or_ge i j with h | h
    · exact List.pairwise_iff_getElem.1 hso i j (by omega) hj' h
    · obtain rfl : i = j := by omega
      exact Int.le_refl _
  rw [← hs]
  obtain ⟨h1, h2⟩ := compact_inv s.toArray hget s.length (by simp)
  refine sorted_ext _ _ h1 (ofR_sorted zs) fun x => ?_
  rw [mem_ofR, ← hp.mem_iff]
  show x ∈ Lib.compactUpTo s.toArray s.length ↔ _
  rw [h2, List.mem_iff_getElem]
  constructor
  · rintro ⟨j, hj, e⟩
    exact ⟨j, hj, by rw [e, get!_list s j hj]⟩
  · rintro ⟨j, hj, e⟩
    exact ⟨j, hj, by rw [get!_list s j hj, e]⟩

/-! ### grants -/
abbrev G4 := Int × Int × Int × Int
def grAV (g : G4) : List AV := [.int .i64 g.1, .int .i64 g.2.1, .int .i64 g.2.2.1, .int .i64 g.2.2.2]
def gkey (g : G4) : Int × Int := (g.2.2.1, g.2.2.2)
def isRow4 (row : List AV) : Prop := ∃ a b c d, row = [.int .i64 a, .int .i64 b, .int .i64 c, .int .i64 d]
theorem grants_list : ∀ {xs : List (List AV)}, (∀ row ∈ xs, isRow4 row) → ∃ L : List G4, xs = L.map grAV := by
  intro xs
  induction xs with
  | nil => intro _; exact ⟨[], rfl⟩
  | cons x xs ih =>
    intro h
    obtain ⟨a, b, c, d, rfl⟩ := h x (by simp)
    obtain ⟨L, rfl⟩ := ih fun row hr => h row (by simp [hr])
    exact ⟨(a, b, c, d) :: L, rfl⟩
theorem gr4 {l : List G4} : ∀ (i : Nat) row, (l.map grAV)[i]? = some row → row.length = 4 := fun i row h => by
  rw [List.getElem?_map] at h
  obtain ⟨s, _, rfl⟩ := Option.map_eq_some_iff.1 h
  rfl

/-- Where a key stands first. -/
def fIx (l : List G4) (u : Int × Int) : Nat := l.findIdx fun g => decide (gkey g = u)
theorem fIx_le (l : List G4) (u : Int × Int) : fIx l u ≤ l.length := List.findIdx_le_length
theorem fIx_at {l : List G4} {u : Int × Int} (h : fIx l u < l.length) : ∃ g, l[fIx l u]? = some g ∧ gkey g = u := by
  refine ⟨l[fIx l u], List.getElem?_eq_getElem h, ?_⟩
  have := List.findIdx_getElem (p := fun g => decide (gkey g = u)) (xs := l) (w := h)
  exact of_decide_eq_true this
theorem fIx_first {l : List G4} {u : Int × Int} {j : Nat} {g : G4} (hj : l[j]? = some g) (hg : gkey g = u) : fIx l u ≤ j := by
  rcases Nat.lt_or_ge j (fIx l u) with h | h
  · have hlt := (List.getElem?_eq_some_iff.1 hj).1
    have h1 := List.not_of_lt_findIdx (p := fun g => decide (gkey g = u)) (xs := l) (i := j) h
    have h2 : l[j] = g := by
      have := List.getElem?_eq_getElem hlt
      rw [hj] at this
      exact (Option.some.inj this).symm
    simp [h2, hg] at h1
  · exact h
theorem fIx_eq {l : List G4} {u : Int × Int} {j : Nat} {g : G4} (hj : l[j]? = some g) (hg : gkey g = u) (hn : ∀ i q, i < j → l[i]? = some q → gkey q ≠ u) : fIx l u = j := by
  have h1 := fIx_first hj hg
  have hlt := (List.getElem?_eq_some_iff.1 hj).1
  rcases Nat.lt_or_ge (fIx l u) j with h | h
  · obtain ⟨q, h2, h3⟩ := fIx_at (l := l) (u := u) (by omega)
    exact absurd h3 (hn _ q h h2)
  · omega

/-- The keys of grants, each once. -/
def addK (us : List (Int × Int)) (g : G4) : List (Int × Int) := if gkey g ∈ us then us else us ++ [gkey g]
def keysOf (L : List G4) : List (Int × Int) := L.foldl addK []
theorem keysOf_snoc (L : List G4) (s : G4) : keysOf (L ++ [s]) = addK (keysOf L) s := by simp [keysOf]
theorem addK_nodup {us : List (Int × Int)} (h : us.Nodup) (s : G4) : (addK us s).Nodup := by
  unfold addK
  split
  · exact h
  · rename_i hn
    exact List.nodup_append.2 ⟨h, by simp, fun a ha b hb => by simp at hb; subst hb; exact fun e => hn (e ▸ ha)⟩
theorem foldK_nodup (L : List G4) : ∀ us : List (Int × Int), us.Nodup → (L.foldl addK us).Nodup := by
  induction L with
  | nil => intro us h; exact h
  | cons s L ih => intro us h; exact ih _ (addK_nodup h s)
theorem keysOf_nodup (L : List G4) : (keysOf L).Nodup := foldK_nodup L [] List.nodup_nil
theorem mem_foldK (L : List G4) : ∀ (us : List (Int × Int)) (u : Int × Int), u ∈ L.foldl addK us ↔ u ∈ us ∨ ∃ s ∈ L, gkey s = u := by
  induction L with
  | nil => intro us u; simp
  | cons s L ih =>
    intro us u
    rw [List.foldl_cons, ih]
    have : u ∈ addK us s ↔ u ∈ us ∨ u = gkey s := by
      unfold addK
      split
      · rename_i h
        exact ⟨.inl, fun h' => h'.elim id fun e => e ▸ h⟩
      · simp
    rw [this]
    constructor
    · rintro ((h | h) | ⟨x, h, h'⟩)
      · exact .inl h
      · exact .inr ⟨s, by simp, h.symm⟩
      · exact .inr ⟨x, by simp [h], h'⟩
    · rintro (h | ⟨x, h, h'⟩)
      · exact .inl (.inl h)
      · rcases List.mem_cons.1 h with rfl | h
        · exact .inl (.inr h'.symm)
        · exact .inr ⟨x, h, h'⟩
theorem mem_keysOf (L : List G4) (u : Int × Int) : u ∈ keysOf L ↔ ∃ s ∈ L, gkey s = u := by simp [keysOf, mem_foldK]
theorem mem_keys_take {l : List G4} {k : Nat} {u : Int × Int} : u ∈ keysOf (l.take k) ↔ ∃ (i : Nat) (g : G4), i < k ∧ l[i]? = some g ∧ gkey g = u := by
  rw [mem_keysOf]
  constructor
  · rintro ⟨s, hs, h⟩
    obtain ⟨i, hi⟩ := List.mem_iff_getElem?.1 hs
    rw [List.getElem?_take] at hi
    split at hi
    · exact ⟨i, s, by assumption, hi, h⟩
    · cases hi
  · rintro ⟨i, g, hi, hg, h⟩
    exact ⟨g, List.mem_of_getElem? (i := i) (by rw [List.getElem?_take_of_lt hi]; exact hg), h⟩
theorem mem_keys_ix {l : List G4} {u : Int × Int} : u ∈ keysOf l ↔ fIx l u < l.length := by
  rw [mem_keysOf]
  constructor
  · rintro ⟨s, hs, h⟩
    obtain ⟨i, hi⟩ := List.mem_iff_getElem?.1 hs
    have := fIx_first hi h
    have := (List.getElem?_eq_some_iff.1 hi).1
    omega
  · intro h
    obtain ⟨g, h1, h2⟩ := fIx_at h
    exact ⟨g, List.mem_of_getElem? h1, h2⟩
/-- What firsts holds behind the first k grants. -/
abbrev fMap (l : List G4) (k : Nat) : List (AV × AV) := (keysOf (l.take k)).map (ent fun u => (fIx l u : Int))
theorem fMap_old {l : List G4} {k : Nat} {g : G4} (hk : l[k]? = some g) (h : gkey g ∈ keysOf (l.take k)) : fMap l (k + 1) = fMap l k := by
  unfold fMap
  rw [List.take_add_one, hk, Option.toList_some, keysOf_snoc, addK, if_pos h]
theorem fMap_new {l : List G4} {k : Nat} {g : G4} (hk : l[k]? = some g) (h : gkey g ∉ keysOf (l.take k)) : mset (ukey (gkey g)) (.int .i64 (k : Int)) (fMap l k) = fMap l (k + 1) := by
  have hf : fIx l (gkey g) = k := fIx_eq hk rfl fun i q hi hq e => h (mem_keys_take.2 ⟨i, q, hi, hq, e⟩)
  unfold fMap
  rw [mset_ent _ _ _ _ (keysOf_nodup _), if_neg h, List.take_add_one, hk, Option.toList_some, keysOf_snoc, addK, if_neg h, List.map_append]
  congr 1
  simp [ent, hf]

/-- Is a grant not by one who had it? -/
def bad (l : List G4) (i : Nat) : Prop := ∃ g, l[i]? = some g ∧ g.2.1 ≠ -1 ∧ ¬ ∃ (j : Nat) (q : G4), j < i ∧ l[j]? = some q ∧ gkey q = (g.2.1, g.2.2.2)
def chkIs (l : List G4) (e at' : Int) : Prop := (e = 21 ∧ ∃ i : Nat, at' = i ∧ bad l i ∧ ∀ j, j < i → ¬ bad l j) ∨ (e = 0 ∧ at' = 0 ∧ ∀ j, ¬ bad l j)
theorem chk_ex (l : List G4) : ∃ e a, chkIs l e a := by
  by_cases h : ∃ i, bad l i
  · have key : ∀ n i, i ≤ n → bad l i → ∃ i, bad l i ∧ ∀ j, j < i → ¬ bad l j := by
      intro n
      induction n with
      | zero => intro i hi hb; exact ⟨i, hb, fun j hj => by omega⟩
      | succ n ih =>
        intro i hi hb
        by_cases h2 : ∃ j, j < i ∧ bad l j
        · obtain ⟨j, hj, hbj⟩ := h2
          exact ih j (by omega) hbj
        · exact ⟨i, hb, fun j hj hbj => h2 ⟨j, hj, hbj⟩⟩
    obtain ⟨i, hi⟩ := h
    obtain ⟨k, h1, h2⟩ := key i i (Nat.le_refl _) hi
    exact ⟨21, k, .inl ⟨rfl, k, rfl, h1, h2⟩⟩
  · exact ⟨0, 0, .inr ⟨rfl, rfl, fun j hj => h ⟨j, hj⟩⟩⟩
theorem chk_at {l : List G4} {e a : Int} (h : chkIs l e a) {i : Nat} (hb : bad l i) (hn : ∀ j, j < i → ¬ bad l j) : e = 21 ∧ a = i := by
  rcases h with ⟨h1, k, h2, h3, h4⟩ | ⟨_, _, h3⟩
  · refine ⟨h1, ?_⟩
    rcases Nat.lt_or_ge i k with h | h
    · exact absurd hb (h4 i h)
    · rcases Nat.lt_or_ge k i with h' | h'
      · exact absurd h3 (hn k h')
      · rw [h2]; omega
  · exact absurd hb (h3 i)
theorem chk_ok {l : List G4} {e a : Int} (h : chkIs l e a) (hn : ∀ j, j < l.length → ¬ bad l j) : e = 0 ∧ a = 0 := by
  rcases h with ⟨_, k, _, h3, _⟩ | ⟨h1, h2, _⟩
  · exact absurd h3 (hn k (h3.elim fun g hg => (List.getElem?_eq_some_iff.1 hg.1).1))
  · exact ⟨h1, h2⟩
theorem not_bad {l : List G4} {i : Nat} {g : G4} (hi : l[i]? = some g) (h : g.2.1 = -1 ∨ fIx l (g.2.1, g.2.2.2) < i) : ¬ bad l i := by
  rintro ⟨q, hq, h1, h2⟩
  rw [hi] at hq
  injection hq with hq
  subst hq
  rcases h with h | h
  · exact h1 h
  · have hlt := (List.getElem?_eq_some_iff.1 hi).1
    obtain ⟨p, h3, h4⟩ := fIx_at (l := l) (u := (g.2.1, g.2.2.2)) (by omega)
    exact h2 ⟨_, p, h, h3, h4⟩
theorem is_bad {l : List G4} {i : Nat} {g : G4} (hi : l[i]? = some g) (h1 : g.2.1 ≠ -1) (h2 : i ≤ fIx l (g.2.1, g.2.2.2)) : bad l i := by
  refine ⟨g, hi, h1, ?_⟩
  rintro ⟨j, q, hj, hq, he⟩
  have := fIx_first hq he
  omega

/-- The chain from a grant back to the kernel's. -/
inductive Path (l : List G4) (cat : Int) : Nat → List G4 → Prop where
  | stop {k : Nat} {g : G4} (h : l[k]? = some g) (hf : g.2.1 = -1) : Path l cat k [g]
  | step {k : Nat} {g : G4} {p : List G4} (h : l[k]? = some g) (hf : g.2.1 ≠ -1) (hk : fIx l (g.2.1, cat) < k) (hp : Path l cat (fIx l (g.2.1, cat)) p) : Path l cat k (g :: p)
theorem path_ex {l : List G4} (hb : ∀ j, ¬ bad l j) {cat : Int} : ∀ k g, l[k]? = some g → g.2.2.2 = cat → ∃ p, Path l cat k p := by
  intro k
  induction k using Nat.strongRecOn with
  | _ k ih =>
    intro g hg hc
    by_cases hf : g.2.1 = -1
    · exact ⟨_, .stop hg hf⟩
    · have hlt : fIx l (g.2.1, cat) < k := by
        rcases Nat.lt_or_ge (fIx l (g.2.1, cat)) k with h | h
        · exact h
        · exact absurd (is_bad hg hf (by rw [hc]; exact h)) (hb k)
      have hkl := (List.getElem?_eq_some_iff.1 hg).1
      obtain ⟨q, h1, h2⟩ := fIx_at (l := l) (u := (g.2.1, cat)) (by omega)
      have h3 : q.2.2.2 = cat := congrArg Prod.snd h2
      obtain ⟨p, hp⟩ := ih _ hlt q h1 h3
      exact ⟨_, .step hg hf hlt hp⟩
theorem Path.len {l : List G4} {cat : Int} {k : Nat} {p : List G4} (h : Path l cat k p) : p.length ≤ k + 1 ∧ k < l.length := by
  induction h with
  | stop h hf => exact ⟨by simp, (List.getElem?_eq_some_iff.1 h).1⟩
  | step h hf hk hp ih => exact ⟨by simp; omega, (List.getElem?_eq_some_iff.1 h).1⟩

/-- Those who were given a category. -/
def holds4 (l : List G4) (cat step : Int) : List Int := (l.filter fun g => decide (g.2.2.2 = cat ∧ g.1 ≤ step)).map fun g => g.2.2.1
theorem holds4_snoc (l : List G4) (g : G4) (cat step : Int) : holds4 (l ++ [g]) cat step = holds4 l cat step ++ if g.2.2.2 = cat ∧ g.1 ≤ step then [g.2.2.1] else [] := by
  unfold holds4
  rw [List.filter_append, List.map_append]
  congr 1
  by_cases h : g.2.2.2 = cat ∧ g.1 ≤ step
  · rw [if_pos h]; simp [h]
  · rw [if_neg h]; simp only [List.filter_cons, decide_eq_true_eq, if_neg h]; rfl
theorem holds4_len (l : List G4) (cat step : Int) : (holds4 l cat step).length ≤ l.length := by
  unfold holds4
  rw [List.length_map]
  exact List.length_filter_le _ _
end Go.Proofs.Ytibmabidjacjlaa.L
