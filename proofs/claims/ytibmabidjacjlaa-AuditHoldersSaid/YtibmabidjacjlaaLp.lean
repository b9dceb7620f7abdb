/- The logic, part 16: calls that are given objects: pointers, own slices, maps, closures over them. -/
import Derived.Test.YtibmabidjacjlaaLo
namespace Go.Proofs.Ytibmabidjacjlaa.L
open Go Go.RowKit
set_option linter.unusedVariables false
set_option linter.unusedSimpArgs false

/-- The callee's id k is the caller's id: of an object handed in ρ tells; further ones come behind the caller's. -/
def rn (ρ : List Nat) (m k : Nat) : Nat := match ρ[k]? with
  | some j => j
  | none => m + (k - ρ.length)

mutual
/-- A value as the callee sees it, as the caller sees it. -/
inductive Rn (r : Nat → Nat) : AV → AV → Prop where
  | op {i j off : Nat} (h : r i = j) : Rn r (.op i off) (.op j off)
  | os {i j ver : Nat} (h : r i = j) : Rn r (.os i ver) (.os j ver)
  | er {i j ver sz k off : Nat} (h : r i = j) : Rn r (.er i ver sz k off) (.er j ver sz k off)
  | mp {i j : Nat} (h : r i = j) : Rn r (.mp i) (.mp j)
  | agg {xs ys : List AV} (h : RnL r xs ys) : Rn r (.agg xs) (.agg ys)
  | tup {xs ys : List AV} (h : RnL r xs ys) : Rn r (.tup xs) (.tup ys)
  | fn {f : Nat} {xs ys : List AV} (h : RnL r xs ys) : Rn r (.fn f xs) (.fn f ys)
  | same {x : AV} (h : clB 0 x = true) : Rn r x x
inductive RnL (r : Nat → Nat) : List AV → List AV → Prop where
  | nil : RnL r [] []
  | cons {x y : AV} {xs ys : List AV} (h : Rn r x y) (k : RnL r xs ys) : RnL r (x :: xs) (y :: ys)
end
theorem RnL.get {r : Nat → Nat} : ∀ {xs ys : List AV}, RnL r xs ys → xs.length = ys.length ∧ (∀ (j : Nat) x, xs[j]? = some x → ∃ y, ys[j]? = some y ∧ Rn r x y) ∧ ∀ (j : Nat) y, ys[j]? = some y → ∃ x, xs[j]? = some x ∧ Rn r x y := by
  intro xs
  induction xs with
  | nil => intro ys h; cases h; exact ⟨rfl, fun j x h => by simp at h, fun j x h => by simp at h⟩
  | cons x xs ih =>
    intro ys h
    cases h with
    | @cons _ y _ ys h k =>
      obtain ⟨g1, g2, g3⟩ := ih k
      refine ⟨by simp [g1], fun j z hz => ?_, fun j z hz => ?_⟩
      · cases j with
        | zero => simp at hz; subst hz; exact ⟨y, rfl, h⟩
        | succ j => simpa using g2 j z (by simpa using hz)
      · cases j with
        | zero => simp at hz; subst hz; exact ⟨x, rfl, h⟩
        | succ j => simpa using g3 j z (by simpa using hz)

inductive RnO (r : Nat → Nat) : AO → AO → Prop where
  | gone : RnO r .gone .gone
  | box {xs ys : List AV} (h : RnL r xs ys) : RnO r (.box xs) (.box ys)
  | row {e : TypeId} {sz ver fz : Nat} {xs : List (List AV)} : RnO r (.row e sz ver fz xs) (.row e sz ver fz xs)
  | map {es : List (AV × AV)} : RnO r (.map es) (.map es)
inductive RnF (r : Nat → Nat) : AO → AO → Prop where
  | of {o o' : AO} (h : RnO r o o') : RnF r o o'
  | forget {o : AO} : RnF r o .gone
/-- The objects handed in. -/
inductive PickO (r : Nat → Nat) (H : List AO) : List Nat → List AO → Prop where
  | nil : PickO r H [] []
  | cons {i : Nat} {ρ : List Nat} {o o' : AO} {os : List AO} (h : H[i]? = some o') (k : RnO r o o') (t : PickO r H ρ os) : PickO r H (i :: ρ) (o :: os)
inductive RnFs (r : Nat → Nat) : List AO → List AO → Prop where
  | nil : RnFs r [] []
  | cons {o o' : AO} {os os' : List AO} (h : RnF r o o') (t : RnFs r os os') : RnFs r (o :: os) (o' :: os')
/-- The caller's objects behind the call. -/
inductive PutO (r : Nat → Nat) : List Nat → List AO → List AO → List AO → Prop where
  | nil {os ext H H' : List AO} (h : RnFs r os ext) (e : H ++ ext = H') : PutO r [] os H H'
  | cons {i : Nat} {ρ : List Nat} {o o1 o2 : AO} {os H H1 H' : List AO} (k : RnF r o o2) (h : Upd i H o1 o2 H1) (t : PutO r ρ os H1 H') : PutO r (i :: ρ) (o :: os) H H'

def ndup : List Nat → Bool
  | [] => true
  | i :: r => match r.contains i with
    | true => false
    | false => ndup r
theorem ndup_get : ∀ {ρ : List Nat}, ndup ρ = true → ∀ (i i' j : Nat), ρ[i]? = some j → ρ[i']? = some j → i = i' := by
  intro ρ
  induction ρ with
  | nil => intro _ i i' j h; simp at h
  | cons a r ih =>
    intro h i i' j h1 h2
    simp only [ndup] at h
    split at h
    · cases h
    · rename_i hc
      have hn : ∀ k : Nat, r[k]? ≠ some a := fun k hk => by
        have := List.mem_of_getElem? hk
        simp at hc
        exact hc this
      cases i with
      | zero =>
        cases i' with
        | zero => rfl
        | succ i' => simp at h1 h2; subst h1; exact absurd h2 (hn i')
      | succ i =>
        cases i' with
        | zero => simp at h1 h2; subst h2; exact absurd h1 (hn i)
        | succ i' => rw [ih h i i' j (by simpa using h1) (by simpa using h2)]

theorem RnFs.get {r : Nat → Nat} {os ext : List AO} (h : RnFs r os ext) : os.length = ext.length ∧ ∀ (j : Nat) o', ext[j]? = some o' → ∃ o, os[j]? = some o ∧ RnF r o o' := by
  induction h with
  | nil => exact ⟨rfl, fun j o h => by simp at h⟩
  | @cons o o' os os' h t ih =>
    refine ⟨by simp [ih.1], fun j z hz => ?_⟩
    cases j with
    | zero => simp at hz; subst hz; exact ⟨o, rfl, h⟩
    | succ j => simpa using ih.2 j z (by simpa using hz)
theorem PickO.get {r : Nat → Nat} {H : List AO} {ρ : List Nat} {os : List AO} (h : PickO r H ρ os) : ρ.length = os.length ∧ ∀ (i : Nat) o, os[i]? = some o → ∃ j o', ρ[i]? = some j ∧ H[j]? = some o' ∧ RnO r o o' := by
  induction h with
  | nil => exact ⟨rfl, fun j o h => by simp at h⟩
  | @cons i ρ o o' os h k t ih =>
    refine ⟨by simp [ih.1], fun j z hz => ?_⟩
    cases j with
    | zero => simp at hz; subst hz; exact ⟨i, o', rfl, h, k⟩
    | succ j => simpa using ih.2 j z (by simpa using hz)

theorem PutO.get {r : Nat → Nat} {ρ : List Nat} {os H H' : List AO} (h : PutO r ρ os H H') : ndup ρ = true →
    ρ.length ≤ os.length ∧ H'.length = H.length + (os.length - ρ.length) ∧ (∀ (i j : Nat), ρ[i]? = some j → j < H.length ∧ ∃ o o', os[i]? = some o ∧ H'[j]? = some o' ∧ RnF r o o') ∧
      (∀ j : Nat, j < H.length → (∀ i : Nat, ρ[i]? ≠ some j) → H'[j]? = H[j]?) ∧ ∀ (j : Nat) o', H.length ≤ j → H'[j]? = some o' → ∃ o, os[j - H.length + ρ.length]? = some o ∧ RnF r o o' := by
  induction h with
  | @nil os ext H H' h e =>
    intro _
    subst e
    obtain ⟨h1, h2⟩ := h.get
    refine ⟨Nat.zero_le _, by simp [h1], fun i j h => by simp at h, fun j hj _ => List.getElem?_append_left hj, fun j o' hj ho => ?_⟩
    rw [List.getElem?_append_right hj] at ho
    simpa using h2 _ o' ho
  | @cons i ρ o o1 o2 os H H1 H' k h t ih =>
    intro hn
    have hn' : ndup ρ = true ∧ ∀ q : Nat, ρ[q]? ≠ some i := by
      simp only [ndup] at hn
      split at hn
      · cases hn
      · rename_i hc
        refine ⟨hn, fun q hq => ?_⟩
        have := List.mem_of_getElem? hq
        simp at hc
        exact hc this
    obtain ⟨g1, g2, g3, g4, g5⟩ := ih hn'.1
    obtain ⟨e1, e2⟩ := h.eq
    subst e2
    have hi : i < H.length := (List.getElem?_eq_some_iff.1 e1).1
    simp only [List.length_set] at g2 g3 g4 g5
    refine ⟨by simp; omega, by simp only [List.length_cons]; omega, fun a j ha => ?_, fun j hj hne => ?_, fun j o' hj ho => ?_⟩
    · cases a with
      | zero =>
        simp at ha
        subst ha
        exact ⟨hi, o, o2, rfl, by rw [g4 i hi hn'.2, List.getElem?_set_self hi], k⟩
      | succ a => simpa using g3 a j (by simpa using ha)
    · rw [g4 j hj (fun q hq => hne (q + 1) (by simpa using hq)), List.getElem?_set_ne (fun e => hne 0 (by simp [e]))]
    · obtain ⟨q, hq, hq'⟩ := g5 j o' hj ho
      exact ⟨q, by simp only [List.length_cons]; rw [← Nat.add_assoc, List.getElem?_cons_succ]; exact hq, hq'⟩

theorem rn_in {ρ : List Nat} {m i j : Nat} (h : ρ[i]? = some j) : rn ρ m i = j := by simp [rn, h]
theorem rn_out {ρ : List Nat} {m i : Nat} (h : ρ.length ≤ i) : rn ρ m i = m + (i - ρ.length) := by simp [rn, List.getElem?_eq_none h]
theorem rn_lt {ρ : List Nat} {m i j : Nat} (h : rn ρ m i = j) (hj : j < m) : ρ[i]? = some j := by
  rcases Nat.lt_or_ge i ρ.length with hi | hi
  · rw [List.getElem?_eq_getElem hi]
    rw [rn_in (List.getElem?_eq_getElem hi)] at h
    rw [h]
  · rw [rn_out hi] at h
    omega

/-- The callee's ids at its start. -/
def nuC (ρ : List Nat) (ν : Nu) : Nu := ⟨ρ.length, fun i => ν.top ((ρ[i]?).getD 0), fun i ver => ν.val ((ρ[i]?).getD 0) ver⟩
/-- Where a caller's id lies in ρ. -/
def invR (ρ : List Nat) (j : Nat) : Option Nat := (List.range ρ.length).find? fun i => ρ[i]? == some j
theorem invR_some {ρ : List Nat} {i j : Nat} (h : invR ρ j = some i) : ρ[i]? = some j := by
  have := List.find?_some h
  simpa using this
theorem invR_none {ρ : List Nat} {j : Nat} (h : invR ρ j = none) (i : Nat) : ρ[i]? ≠ some j := by
  intro hi
  have h1 := List.find?_eq_none.1 h i (by simpa using (List.getElem?_eq_some_iff.1 hi).1)
  simp [hi] at h1
theorem invR_of {ρ : List Nat} (hn : ndup ρ = true) {i j : Nat} (h : ρ[i]? = some j) : invR ρ j = some i := by
  cases hi : invR ρ j with
  | none => exact absurd h (invR_none hi i)
  | some i' => rw [ndup_get hn i' i j (invR_some hi) h]
/-- The caller's ids behind the call. -/
def nuF (ρ : List Nat) (m k : Nat) (ν ν' : Nu) : Nu :=
  ⟨m + (k - ρ.length), fun j => match invR ρ j with
    | some i => ν'.top i
    | none => if j < m then ν.top j else ν'.top (j - m + ρ.length),
   fun j ver => match invR ρ j with
    | some i => ν'.val i ver
    | none => if j < m then ν.val j ver else ν'.val (j - m + ρ.length) ver⟩

section
variable {w : World} {I : Imm} {ν ν' : Nu} {ρ : List Nat} {m k : Nat}

theorem rn_A {y : AV} {v : Value} (hm : ν.n = m) (h : VR w I ν y v) : ∀ {x : AV}, Rn (rn ρ m) x y → VR w I (nuC ρ ν) x v := by
  have lt : ∀ {i j : Nat}, rn ρ m i = j → j < ν.n → ρ[i]? = some j ∧ i < ρ.length := fun h hj => by
    have := rn_lt h (by omega)
    exact ⟨this, (List.getElem?_eq_some_iff.1 this).1⟩
  have cl : ∀ {x : AV} {v : Value}, clB 0 x = true → VR w I ν x v → VR w I (nuC ρ ν) x v := fun hc hv => hv.cut (k := 0) ⟨Nat.zero_le _, fun _ h => by omega, fun _ _ h => by omega⟩ hc
  induction h with
  | any v => intro x h; cases h; exact .any v
  | und v e => intro x h; cases h; exact .und v e
  | pure h =>
    intro x hx
    cases hx with
    | same hc => exact .pure h
    | fn hl =>
      cases h
      cases hl
      exact .pure (.fn _)
    | op _ => cases h
    | os _ => cases h
    | er _ => cases h
    | mp _ => cases h
    | agg _ => cases h
    | tup _ => cases h
  | rp cs b off us h => intro x hx; cases hx; exact .rp cs b off us h
  | op id off b hi h =>
    intro x hx
    cases hx with
    | same hc => exact cl hc (.op id off b hi h)
    | @op i _ _ e =>
      obtain ⟨h1, h2⟩ := lt e hi
      exact .op i off b h2 (by simp only [nuC, h1, Option.getD_some]; exact h)
  | os id ver A n c hi hv hs =>
    intro x hx
    cases hx with
    | same hc => exact cl hc (.os id ver A n c hi hv hs)
    | @os i _ _ e =>
      obtain ⟨h1, h2⟩ := lt e hi
      exact .os i ver A n c h2 (by simp only [nuC, h1, Option.getD_some]; exact hv) (by simp only [nuC, h1, Option.getD_some]; exact hs)
  | er id ver sz i off g n c hi hv h =>
    intro x hx
    cases hx with
    | same hc => exact cl hc (.er id ver sz i off g n c hi hv h)
    | @er q _ _ _ _ _ e =>
      obtain ⟨h1, h2⟩ := lt e hi
      exact .er q ver sz i off g n c h2 (by simp only [nuC, h1, Option.getD_some]; exact hv) (by simp only [nuC, h1, Option.getD_some]; exact h)
  | mp id r hi hs =>
    intro x hx
    cases hx with
    | same hc => exact cl hc (.mp id r hi hs)
    | @mp q _ e =>
      obtain ⟨h1, h2⟩ := lt e hi
      exact .mp q r h2 (by simp only [nuC, h1, Option.getD_some]; exact hs)
  | fn f caps vs hl h ih =>
    intro x hx
    cases hx with
    | same hc => exact cl hc (.fn f caps vs hl h)
    | @fn _ xs _ hr =>
      obtain ⟨g1, g2, g3⟩ := hr.get
      exact .fn f xs vs (by omega) fun j x v h1 h2 => by
        obtain ⟨y, hy, hxy⟩ := g2 j x h1
        exact ih j y v hy h2 hxy
  | agg cs vs hl h ih =>
    intro x hx
    cases hx with
    | same hc => exact cl hc (.agg cs vs hl h)
    | @agg xs _ hr =>
      obtain ⟨g1, g2, g3⟩ := hr.get
      exact .agg xs vs (by omega) fun j x v h1 h2 => by
        obtain ⟨y, hy, hxy⟩ := g2 j x h1
        exact ih j y v hy h2 hxy
  | tup cs vs hl h ih =>
    intro x hx
    cases hx with
    | same hc => exact cl hc (.tup cs vs hl h)
    | @tup xs _ hr =>
      obtain ⟨g1, g2, g3⟩ := hr.get
      exact .tup xs vs (by omega) fun j x v h1 h2 => by
        obtain ⟨y, hy, hxy⟩ := g2 j x h1
        exact ih j y v hy h2 hxy

theorem nuF_of (hn : ndup ρ = true) (hρ : ∀ (i j : Nat), ρ[i]? = some j → j < m) {i j : Nat} (h : rn ρ m i = j) : (nuF ρ m k ν ν').top j = ν'.top i ∧ ∀ ver, (nuF ρ m k ν ν').val j ver = ν'.val i ver := by
  rcases Nat.lt_or_ge i ρ.length with hi | hi
  · have h1 : ρ[i]? = some j := by rw [List.getElem?_eq_getElem hi, ← h, rn_in (List.getElem?_eq_getElem hi)]
    simp only [nuF, invR_of hn h1]
    exact ⟨trivial, fun _ => trivial⟩
  · rw [rn_out hi] at h
    have h1 : invR ρ j = none := by
      cases e : invR ρ j with
      | none => rfl
      | some q => have := hρ q j (invR_some e); omega
    have h2 : j - m + ρ.length = i := by omega
    simp only [nuF, h1]
    rw [if_neg (by omega), h2]
    exact ⟨rfl, fun ver => by rw [if_neg (by omega)]⟩

theorem rn_B (hn : ndup ρ = true) (hρ : ∀ (i j : Nat), ρ[i]? = some j → j < m) (hk : ν'.n = k) (hk' : ρ.length ≤ k) {x : AV} {v : Value} (h : VR w I ν' x v) : ∀ {y : AV}, Rn (rn ρ m) x y → VR w I (nuF ρ m k ν ν') y v := by
  have lt : ∀ {i j : Nat}, rn ρ m i = j → i < ν'.n → j < (nuF ρ m k ν ν').n := fun {i j} h hi => by
    simp only [nuF]
    rcases Nat.lt_or_ge i ρ.length with h1 | h1
    · have : ρ[i]? = some j := by rw [List.getElem?_eq_getElem h1, ← h, rn_in (List.getElem?_eq_getElem h1)]
      have := hρ i j this
      omega
    · rw [rn_out h1] at h
      omega
  have ft : ∀ {i j : Nat}, rn ρ m i = j → (nuF ρ m k ν ν').top j = ν'.top i := fun h => (nuF_of hn hρ h).1
  have fv : ∀ {i j : Nat} (ver : Nat), rn ρ m i = j → (nuF ρ m k ν ν').val j ver = ν'.val i ver := fun ver h => (nuF_of hn hρ h).2 ver
  have cl : ∀ {x : AV} {v : Value}, clB 0 x = true → VR w I ν' x v → VR w I (nuF ρ m k ν ν') x v := fun hc hv => hv.cut (k := 0) ⟨Nat.zero_le _, fun _ h => by omega, fun _ _ h => by omega⟩ hc
  induction h with
  | any v => intro x h; cases h; exact .any v
  | und v e => intro x h; cases h; exact .und v e
  | pure h =>
    intro x hx
    cases hx with
    | same hc => exact .pure h
    | fn hl =>
      cases h
      cases hl
      exact .pure (.fn _)
    | op _ => cases h
    | os _ => cases h
    | er _ => cases h
    | mp _ => cases h
    | agg _ => cases h
    | tup _ => cases h
  | rp cs b off us h => intro x hx; cases hx; exact .rp cs b off us h
  | op id off b hi h =>
    intro x hx
    cases hx with
    | same hc => exact cl hc (.op id off b hi h)
    | @op _ j _ e => exact .op j off b (lt e hi) ((fv 0 e).trans h)
  | os id ver A n c hi hv hs =>
    intro x hx
    cases hx with
    | same hc => exact cl hc (.os id ver A n c hi hv hs)
    | @os _ j _ e => exact .os j ver A n c (lt e hi) (by rw [ft e]; exact hv) ((fv ver e).trans hs)
  | er id ver sz i off g n c hi hv h =>
    intro x hx
    cases hx with
    | same hc => exact cl hc (.er id ver sz i off g n c hi hv h)
    | @er _ j _ _ _ _ e => exact .er j ver sz i off g n c (lt e hi) (by rw [ft e]; exact hv) ((fv ver e).trans h)
  | mp id r hi hs =>
    intro x hx
    cases hx with
    | same hc => exact cl hc (.mp id r hi hs)
    | @mp _ j e => exact .mp j r (lt e hi) ((fv 0 e).trans hs)
  | fn f caps vs hl h ih =>
    intro x hx
    cases hx with
    | same hc => exact cl hc (.fn f caps vs hl h)
    | @fn _ _ ys hr =>
      obtain ⟨g1, g2, g3⟩ := hr.get
      exact .fn f ys vs (by omega) fun j x v h1 h2 => by
        obtain ⟨y, hy, hxy⟩ := g3 j x h1
        exact ih j y v hy h2 hxy
  | agg cs vs hl h ih =>
    intro x hx
    cases hx with
    | same hc => exact cl hc (.agg cs vs hl h)
    | @agg _ ys hr =>
      obtain ⟨g1, g2, g3⟩ := hr.get
      exact .agg ys vs (by omega) fun j x v h1 h2 => by
        obtain ⟨y, hy, hxy⟩ := g3 j x h1
        exact ih j y v hy h2 hxy
  | tup cs vs hl h ih =>
    intro x hx
    cases hx with
    | same hc => exact cl hc (.tup cs vs hl h)
    | @tup _ ys hr =>
      obtain ⟨g1, g2, g3⟩ := hr.get
      exact .tup ys vs (by omega) fun j x v h1 h2 => by
        obtain ⟨y, hy, hxy⟩ := g3 j x h1
        exact ih j y v hy h2 hxy
end

section
variable {E : Env} {N : Nat} {ops : Array Oper} {Q : Exit → St → Prop} {sl : Slots} {H : List AO} {rest : List Oper}

theorem or_A {w : World} {I : Imm} {ν : Nu} {ρ : List Nat} {m : Nat} (hm : ν.n = m) {i j : Nat} (hi : ρ[i]? = some j) {o o' : AO} (h : OR E w I ν j o') (hr : RnO (rn ρ m) o o') : OR E w I (nuC ρ ν) i o ∧ OB (nuC ρ ν) i o = OB ν j o' := by
  have hv : ∀ ver, (nuC ρ ν).val i ver = ν.val j ver := fun ver => by simp only [nuC, hi, Option.getD_some]
  have ht : (nuC ρ ν).top i = ν.top j := by simp only [nuC, hi, Option.getD_some]
  cases hr with
  | gone => exact ⟨.gone, rfl⟩
  | @box xs ys hb =>
    obtain ⟨g1, g2, g3⟩ := hb.get
    cases h with
    | box _ b vs ty h1 h2 h3 h4 h5 h6 =>
      refine ⟨.box xs b vs ty ((hv 0).trans h1) h2 h3 (by omega) (fun q x v hx hv' => ?_) h6, by simp only [OB, hv]⟩
      obtain ⟨y, hy, hxy⟩ := g2 q x hx
      exact rn_A hm (h5 q y v hy hv') hxy
  | row =>
    cases h with
    | row e sz ver fz xs inner h1 h2 h3 h4 h5 h6 => exact ⟨.row _ _ _ _ _ inner (ht.trans h1) h2 (by rw [hv]; exact h3) h4 h5 (by rw [hv]; exact h6), by simp only [OB, hv]⟩
  | map =>
    cases h with
    | map es b en h1 h2 h3 h4 => exact ⟨.map _ b en ((hv 0).trans h1) h2 h3 h4, by simp only [OB, hv]⟩

theorem or_B {w : World} {I : Imm} {ν ν' : Nu} {ρ : List Nat} {m k : Nat} (hn : ndup ρ = true) (hρ : ∀ (i j : Nat), ρ[i]? = some j → j < m) (hk : ν'.n = k) (hk' : ρ.length ≤ k) {i j : Nat} (hi : rn ρ m i = j) {o o' : AO} (h : OR E w I ν' i o) (hr : RnF (rn ρ m) o o') :
    OR E w I (nuF ρ m k ν ν') j o' ∧ ∀ b, OB (nuF ρ m k ν ν') j o' = some b → OB ν' i o = some b := by
  obtain ⟨ht, hv⟩ := nuF_of (ν := ν) (ν' := ν') (k := k) hn hρ hi
  cases hr with
  | forget => exact ⟨.gone, fun b h => by simp [OB] at h⟩
  | of hr =>
    cases hr with
    | gone => exact ⟨.gone, fun b h => h⟩
    | @box xs ys hb =>
      obtain ⟨g1, g2, g3⟩ := hb.get
      cases h with
      | box _ b vs ty h1 h2 h3 h4 h5 h6 =>
        refine ⟨.box ys b vs ty ((hv 0).trans h1) h2 h3 (by omega) (fun q x v hx hv' => ?_) h6, fun b' h => by simpa only [OB, hv] using h⟩
        obtain ⟨y, hy, hxy⟩ := g3 q x hx
        exact rn_B hn hρ hk hk' (h5 q y v hy hv') hxy
    | row =>
      cases h with
      | row e sz ver fz xs inner h1 h2 h3 h4 h5 h6 => exact ⟨.row _ _ _ _ _ inner (ht.trans h1) h2 (by rw [hv]; exact h3) h4 h5 (by rw [hv]; exact h6), fun b' h => by simpa only [OB, hv] using h⟩
    | map =>
      cases h with
      | map es b en h1 h2 h3 h4 => exact ⟨.map _ b en ((hv 0).trans h1) h2 h3 h4, fun b' h => by simpa only [OB, hv] using h⟩

theorem hr_A {w : World} {I : Imm} {ν : Nu} {ρ : List Nat} {os : List AO} (hh : HR E I ν H w) (hp : PickO (rn ρ H.length) H ρ os) (hn : ndup ρ = true) :
    HR (E.at 0) I (nuC ρ ν) os w ∧ ∀ b, FB (nuC ρ ν) os b → ∃ (i j : Nat) (o' : AO), ρ[i]? = some j ∧ H[j]? = some o' ∧ OB ν j o' = some b := by
  obtain ⟨g1, g2⟩ := hp.get
  have hob : ∀ (i : Nat) o, os[i]? = some o → ∃ (j : Nat) (o' : AO), ρ[i]? = some j ∧ H[j]? = some o' ∧ OR E w I (nuC ρ ν) i o ∧ OB (nuC ρ ν) i o = OB ν j o' := fun i o ho => by
    obtain ⟨j, o', h1, h2, h3⟩ := g2 i o ho
    have := or_A (E := E) hh.n h1 (hh.obj j o' h2) h3
    exact ⟨j, o', h1, h2, this.1, this.2⟩
  refine ⟨⟨by simp [nuC, g1], hh.below, hh.base, hh.imm, fun i o ho => ?_, fun i i' o o' b h1 h2 e1 e2 => ?_⟩, fun b ⟨i, o, ho, hb⟩ => ?_⟩
  · obtain ⟨j, o', _, _, h3, _⟩ := hob i o ho
    exact OR.env (E := E) (F := E.at 0) rfl h3
  · obtain ⟨j, q, k1, k2, _, k4⟩ := hob i o h1
    obtain ⟨j', q', l1, l2, _, l4⟩ := hob i' o' h2
    have := hh.disj j j' q q' b k2 l2 (k4.symm.trans e1) (l4.symm.trans e2)
    subst this
    exact ndup_get hn i i' j k1 l1
  · obtain ⟨j, q, k1, k2, _, k4⟩ := hob i o ho
    exact ⟨i, j, q, k1, k2, k4.symm.trans hb⟩

theorem frame_call {w w' : World} {I I' : Imm} {ν ν' : Nu} {ρ : List Nat} {os os' H' : List AO} (hh : HR E I ν H w) (hp : PickO (rn ρ H.length) H ρ os) (hn : ndup ρ = true)
    (hh' : HR (E.at 0) I' ν' os' w') (hfr : FR os.length w I (nuC ρ ν) os w' I' ν' os') (hput : PutO (rn ρ H.length) ρ os' H H') :
    ν.le (nuF ρ H.length os'.length ν ν') ∧ HR E I' (nuF ρ H.length os'.length ν ν') H' w' ∧ FR E.k w I ν H w' I' (nuF ρ H.length os'.length ν ν') H' := by
  obtain ⟨p1, p2, p3, p4, p5⟩ := hput.get hn
  have hρ : ∀ (i j : Nat), ρ[i]? = some j → j < H.length := fun i j h => (p3 i j h).1
  obtain ⟨_, hfb⟩ := hr_A hh hp hn
  have hol : ρ.length = os.length := hp.get.1
  have hle : ν.le (nuF ρ H.length os'.length ν ν') := by
    have hag : ∀ (i j : Nat), ρ[i]? = some j → ν.top j ≤ ν'.top i ∧ ∀ ver, ver ≤ ν.top j → ν'.val i ver = ν.val j ver := fun i j h => by
      have hi : i < ρ.length := (List.getElem?_eq_some_iff.1 h).1
      obtain ⟨_, a2, a3⟩ := hfr.ag i (by omega) hi
      simp only [nuC, h, Option.getD_some] at a2 a3
      exact ⟨a2, a3⟩
    refine ⟨by simp only [nuF, hh.n]; omega, fun id hi => ?_, fun id ver hi hv => ?_⟩
    · simp only [nuF]
      cases e : invR ρ id with
      | some i => exact (hag i id (invR_some e)).1
      | none => simp only []; rw [if_pos (by rw [← hh.n]; exact hi)]; exact Nat.le_refl _
    · simp only [nuF]
      cases e : invR ρ id with
      | some i => exact (hag i id (invR_some e)).2 ver hv
      | none => simp only []; rw [if_pos (by rw [← hh.n]; exact hi)]
  have hkeep : ∀ (j : Nat) o b, H[j]? = some o → (∀ i : Nat, ρ[i]? ≠ some j) → OB ν j o = some b → ¬ FB (nuC ρ ν) os b := fun j o b hj hne hb hf => by
    obtain ⟨i, j', o', h1, h2, h3⟩ := hfb b hf
    have := hh.disj j j' o o' b hj h2 hb h3
    subst this
    exact hne i h1
  have hcase : ∀ (j : Nat) o, H'[j]? = some o → (j < H.length ∧ (∀ i : Nat, ρ[i]? ≠ some j) ∧ H[j]? = some o) ∨ ∃ (i : Nat) (q : AO), os'[i]? = some q ∧ rn ρ H.length i = j ∧ RnF (rn ρ H.length) q o := fun j o ho => by
    rcases Nat.lt_or_ge j H.length with hj | hj
    · cases e : invR ρ j with
      | none => exact .inl ⟨hj, invR_none e, by rw [← p4 j hj (invR_none e)]; exact ho⟩
      | some i =>
        obtain ⟨_, q, o', h1, h2, h3⟩ := p3 i j (invR_some e)
        rw [ho] at h2
        injection h2 with h2
        subst h2
        exact .inr ⟨i, q, h1, rn_in (invR_some e), h3⟩
    · obtain ⟨q, h1, h2⟩ := p5 j o hj ho
      exact .inr ⟨_, q, h1, by rw [rn_out (by omega)]; omega, h2⟩
  have hB : ∀ (i j : Nat) q o, os'[i]? = some q → rn ρ H.length i = j → RnF (rn ρ H.length) q o → OR E w' I' (nuF ρ H.length os'.length ν ν') j o ∧ ∀ b, OB (nuF ρ H.length os'.length ν ν') j o = some b → OB ν' i q = some b := fun i j q o h1 h2 h3 =>
    or_B hn hρ hh'.n p1 h2 (OR.env (E := E.at 0) (F := E) rfl (hh'.obj i q h1)) h3
  have hold : ∀ (j : Nat) o, H[j]? = some o → OB (nuF ρ H.length os'.length ν ν') j o = OB ν j o := fun j o h => OB_same (hh.obj j o h) hle (hh.idlt h)
  refine ⟨hle, ⟨by simp only [nuF]; rw [p2], hh'.below, hh'.base, hh'.imm, fun j o ho => ?_, fun j j' o o' b h1 h2 e1 e2 => ?_⟩, ⟨hfr.imm, hfr.size, fun b o h => ?_, fun b hb hnf => ?_, fun b ⟨j, o, ho, hb⟩ => ?_, hle.ag _, fun j _ h => ?_⟩⟩
  · rcases hcase j o ho with ⟨h1, h2, h3⟩ | ⟨i, q, h1, h2, h3⟩
    · have hor := hh.obj j o h3
      refine hor.mono hfr.imm hle (hh.idlt h3) ?_ (fun b hb => hfr.keep b (OB_lt hor hb).1 (hkeep j o b h3 h2 hb)) (fun b o' hb hi => ?_)
      · simp only [nuF]
        cases e : invR ρ j with
        | some i => exact absurd (invR_some e) (h2 i)
        | none => simp only []; rw [if_pos h1]
      · rcases hfr.new b o' hi with k | k | k
        · exact k
        · exact absurd k (hkeep j o b h3 h2 hb)
        · have := (OB_lt hor hb).1; omega
    · exact (hB i j q o h1 h2 h3).1
  · rcases hcase j o h1 with ⟨a1, a2, a3⟩ | ⟨i, q, a1, a2, a3⟩ <;> rcases hcase j' o' h2 with ⟨b1, b2, b3⟩ | ⟨i', q', b1, b2, b3⟩
    · rw [hold j o a3] at e1
      rw [hold j' o' b3] at e2
      exact hh.disj j j' o o' b a3 b3 e1 e2
    · rw [hold j o a3] at e1
      have e2' := (hB i' j' q' o' b1 b2 b3).2 b e2
      rcases hfr.foot b ⟨i', q', b1, e2'⟩ with k | k
      · exact absurd k (hkeep j o b a3 a2 e1)
      · have := (OB_lt (hh.obj j o a3) e1).1; omega
    · rw [hold j' o' b3] at e2
      have e1' := (hB i j q o a1 a2 a3).2 b e1
      rcases hfr.foot b ⟨i, q, a1, e1'⟩ with k | k
      · exact absurd k (hkeep j' o' b b3 b2 e2)
      · have := (OB_lt (hh.obj j' o' b3) e2).1; omega
    · have := hh'.disj i i' q q' b a1 b1 ((hB i j q o a1 a2 a3).2 b e1) ((hB i' j' q' o' b1 b2 b3).2 b e2)
      subst this
      exact a2.symm.trans b2
  · rcases hfr.new b o h with k | k | k
    · exact .inl k
    · obtain ⟨i, j, o', h1, h2, h3⟩ := hfb b k
      exact .inr (.inl ⟨j, o', h2, h3⟩)
    · exact .inr (.inr k)
  · refine hfr.keep b hb fun hf => hnf ?_
    obtain ⟨i, j, o', h1, h2, h3⟩ := hfb b hf
    exact ⟨j, o', h2, h3⟩
  · rcases hcase j o ho with ⟨h1, h2, h3⟩ | ⟨i, q, h1, h2, h3⟩
    · rw [hold j o h3] at hb
      exact .inl ⟨j, o, h3, hb⟩
    · rcases hfr.foot b ⟨i, q, h1, (hB i j q o h1 h2 h3).2 b hb⟩ with k | k
      · obtain ⟨i', j', o', k1, k2, k3⟩ := hfb b k
        exact .inl ⟨j', o', k2, k3⟩
      · exact .inr k
  · have hj := (List.getElem?_eq_some_iff.1 h).1
    cases e : invR ρ j with
    | none => exact ⟨by simp only [nuF, e]; rw [if_pos hj], by rw [p4 j hj (invR_none e)]; exact h⟩
    | some i =>
      have hi := (List.getElem?_eq_some_iff.1 (invR_some e)).1
      obtain ⟨_, q, o', h1, h2, h3⟩ := p3 i j (invR_some e)
      have hos : os[i]? = some .gone := by
        have hi' : i < os.length := by omega
        obtain ⟨j0, o0, g1, g2, g3⟩ := hp.get.2 i os[i] (List.getElem?_eq_getElem hi')
        rw [invR_some e] at g1
        injection g1 with g1
        subst g1
        rw [h] at g2
        injection g2 with g2
        subst g2
        rw [List.getElem?_eq_getElem hi']
        generalize os[i] = q0 at g3
        cases g3
        rfl
      obtain ⟨t1, t2⟩ := hfr.gone i (by omega) hos
      rw [h1] at t2
      injection t2 with t2
      subst t2
      have h4 : o' = .gone := by
        cases h3 with
        | of h3 => cases h3; rfl
        | forget => rfl
      subst h4
      refine ⟨?_, h2⟩
      simp only [nuF, e]
      rw [t1]
      simp only [nuC, invR_some e, Option.getD_some]

/-- A call that is given objects: ρ: which of the caller's. -/
theorem al_acall (ρ : List Nat) {f : Operand} {as : List Operand} {tys : Array TypeId} {g : Nat} [fn : FN E.P g] {caps xs ys : List AV} {os : List AO} {R : AV → List AO → Prop} {ty : TypeId} {pos : String} {after : Array Edge} {d : Nat}
    (hf : ev sl f = some (.fn g caps)) (ha : evs sl as = some xs) (spec : ACalls (E.at 0) g ys os R) (hx : RnL (rn ρ H.length) ys (xs ++ caps)) (hp : PickO (rn ρ H.length) H ρ os) (hn : ndup ρ = true) (hd : Nat.blt d N = true)
    (h : ∀ rv os', R rv os' → ∃ rv' H', Rn (rn ρ H.length) rv rv' ∧ PutO (rn ρ H.length) ρ os' H H' ∧ AL E N ops Q rest ⟨(d, rv') :: sl, H'⟩) : AL E N ops Q (⟨some d, .call { callee := .value f, args := as.toArray, argTypes := tys }, ty, pos, after, none⟩ :: rest) ⟨sl, H⟩ := by
  intro I ν a w hs w0 I0 ν0 o0 hf0
  obtain ⟨cvs, e1, e2, e3⟩ := fn_inv (ev_ok hs.sl hf)
  obtain ⟨e4, e5⟩ := evs_ok hs.sl as ha
  refine wpList_plain rfl fun K hK => ?_
  unfold Oper.wp
  have hrun : (execOp a.eval ⟨some d, .call { callee := .value f, args := as.toArray, argTypes := tys }, ty, pos, after, none⟩).run E.P w = .ok (.enter g (as.map a.eval ++ cvs).toArray) w := by
    simp [execOp, resolve, e1, Deferred.ofValue, invoke, run_callFunc]
  rw [hrun, Oper.upon_enter]
  have hargs := append_get (T := VR w I ν) (p := xs) (q := caps) (r := as.map a.eval) (s := cvs) (by simp [e4]) e5 e3
  have hh := hs.hr
  obtain ⟨x1, x2, x3⟩ := hx.get
  refine (spec I (nuC ρ ν) w (as.map a.eval ++ cvs) (hr_A hh hp hn).1 (by rw [x1]; simp [e4, e2]) (fun j x v h1 h2 => ?_)).mono ?_
  · obtain ⟨y, hy, hxy⟩ := x2 j x h1
    exact rn_A hh.n (hargs j y v hy h2) hxy
  rintro e w' ⟨rv, os', I', ν', v, hR, rfl, hv, hh', hfr⟩
  obtain ⟨rv', H', hrv, hput, hal⟩ := h rv os' hR
  obtain ⟨p1, p2, p3, p4, p5⟩ := hput.get hn
  obtain ⟨hle, hr2, hf2⟩ := frame_call hh hp hn hh' hfr hput
  have hv2 := rn_B (ν := ν) hn (fun i j h => (p3 i j h).1) hh'.n p1 hv hrv
  exact hK _ _ (hal I' _ _ w' ⟨hr2, (hs.sl.mono hfr.imm hle).put d hv2 (by rw [hs.nt]; simpa [Nat.blt_eq] using hd), hs.df, by simp [Act.put, hs.nt]⟩ w0 I0 ν0 o0 (hf0.trans hf2))
end
end Go.Proofs.Ytibmabidjacjlaa.L
