/- Part 2 of the texts behind the theorem of this claim: The logic, part 16: calls that are given objects: pointers, own slices, maps, closures over them; The logic, part 17: maps of the call's own; The logic, part 18: what is done with maps of the call's own; The logic, part 19: regions that draw their order and change something: what changes something w -/
import Derived.Test.YtkljmljkiodnpaaGreatDoorQg1
import Derived.MapKept
import Derived.WideKeyRuns
import Derived.ChangeKeysEq
import Derived.Maps.RangeRun
import Derived.Laws.IdiomRangeMap
import Derived.OrdersHeld
import Derived.KernelRfl
import Derived.LaidEqlPtr
import Derived.Laws.Externs
import Derived.Laws.IdiomStrings
import Derived.Lib.ConvBytes
import Derived.Lib.UnsafeStr
import Derived.Lib.Builder
import Derived.Scope
import Derived.Laws.RangeString
import Derived.Laws.Small
import Derived.ScopeJumps
import Derived.Test.YtkljmljkiodnpaaGreatDoorProg
set_option linter.unusedVariables false
set_option linter.unusedSimpArgs false
set_option maxRecDepth 100000
namespace Go.Proofs.YtkljmljkiodnpaaGreatDoor.L
open Go Go.RowKit

def rn (ρ : List Nat) (m k : Nat) : Nat := match ρ[k]? with
  | some j => j
  | none => m + (k - ρ.length)

mutual
inductive Rn (r : Nat → Nat) : AV → AV → Prop where
  | op {i j off : Nat} (h : r i = j) : Rn r (.op i off) (.op j off)
  | os {i j ver : Nat} (h : r i = j) : Rn r (.os i ver) (.os j ver)
  | er {i j ver sz k off : Nat} (h : r i = j) : Rn r (.er i ver sz k off) (.er j ver sz k off)
  | mp {i j : Nat} (h : r i = j) : Rn r (.mp i) (.mp j)
  | agg {xs ys : List AV} (h : RnL r xs ys) : Rn r (.agg xs) (.agg ys)
  | tup {xs ys : List AV} (h : RnL r xs ys) : Rn r (.tup xs) (.tup ys)
  | fn {f : Nat} {xs ys : List AV} (h : RnL r xs ys) : Rn r (.fn f xs) (.fn f ys)
  | same {x : AV} (h : clB 0 x = true) : Rn r x x
inductive RnL (r : Nat → Nat) : List AV → List AV → Prop where
  | nil : RnL r [] []
  | cons {x y : AV} {xs ys : List AV} (h : Rn r x y) (k : RnL r xs ys) : RnL r (x :: xs) (y :: ys)
end
theorem RnL.get {r : Nat → Nat} : ∀ {xs ys : List AV}, RnL r xs ys → xs.length = ys.length ∧ (∀ (j : Nat) x, xs[j]? = some x → ∃ y, ys[j]? = some y ∧ Rn r x y) ∧ ∀ (j : Nat) y, ys[j]? = some y → ∃ x, xs[j]? = some x ∧ Rn r x y := by
  intro xs
  induction xs with
  | nil => intro ys h; cases h; exact ⟨rfl, fun j x h => by simp at h, fun j x h => by simp at h⟩
  | cons x xs ih =>
    intro ys h
    cases h with
    | @cons _ y _ ys h k =>
      obtain ⟨g1, g2, g3⟩ := ih k
      refine ⟨by simp [g1], fun j z hz => ?_, fun j z hz => ?_⟩
      · cases j with
        | zero => simp at hz; subst hz; exact ⟨y, rfl, h⟩
        | succ j => simpa using g2 j z (by simpa using hz)
      · cases j with
        | zero => simp at hz; subst hz; exact ⟨x, rfl, h⟩
        | succ j => simpa using g3 j z (by simpa using hz)

inductive RnO (r : Nat → Nat) : AO → AO → Prop where
  | gone : RnO r .gone .gone
  | box {xs ys : List AV} {tyo : Option Nat} (h : RnL r xs ys) : RnO r (.box xs tyo) (.box ys tyo)
  | row {e : TypeId} {sz ver fz : Nat} {xs : List (List AV)} : RnO r (.row e sz ver fz xs) (.row e sz ver fz xs)
  | map {es : List (AV × AV)} {fl : Bool} : RnO r (.map es fl) (.map es fl)
  | arr {e : TypeId} {sz ver : Nat} {xs : List (List AV)} {wr : Bool} : RnO r (.arr e sz ver xs wr) (.arr e sz ver xs wr)
  | siter {s : List UInt8} {pos : Nat} : RnO r (.siter s pos) (.siter s pos)
  | hp {m : Nat → Option (List AV)} : RnO r (.hp m) (.hp m)
inductive RnF (r : Nat → Nat) : AO → AO → Prop where
  | of {o o' : AO} (h : RnO r o o') : RnF r o o'
  | forget {o : AO} : RnF r o .gone
inductive PickO (r : Nat → Nat) (H : List AO) : List Nat → List AO → Prop where
  | nil : PickO r H [] []
  | cons {i : Nat} {ρ : List Nat} {o o' : AO} {os : List AO} (h : H[i]? = some o') (k : RnO r o o') (t : PickO r H ρ os) : PickO r H (i :: ρ) (o :: os)
inductive RnFs (r : Nat → Nat) : List AO → List AO → Prop where
  | nil : RnFs r [] []
  | cons {o o' : AO} {os os' : List AO} (h : RnF r o o') (t : RnFs r os os') : RnFs r (o :: os) (o' :: os')
inductive PutO (r : Nat → Nat) : List Nat → List AO → List AO → List AO → Prop where
  | nil {os ext H H' : List AO} (h : RnFs r os ext) (e : H ++ ext = H') : PutO r [] os H H'
  | cons {i : Nat} {ρ : List Nat} {o o1 o2 : AO} {os H H1 H' : List AO} (k : RnF r o o2) (h : Upd i H o1 o2 H1) (t : PutO r ρ os H1 H') : PutO r (i :: ρ) (o :: os) H H'

def ndup : List Nat → Bool
  | [] => true
  | i :: r => match r.contains i with
    | true => false
    | false => ndup r
theorem b6r : ∀ {ρ : List Nat}, ndup ρ = true → ∀ (i i' j : Nat), ρ[i]? = some j → ρ[i']? = some j → i = i' := by
  intro ρ
  induction ρ with
  | nil => intro _ i i' j h; simp at h
  | cons a r ih =>
    intro h i i' j h1 h2
    simp only [ndup] at h
    split at h
    · cases h
    · rename_i hc
      have hn : ∀ k : Nat, r[k]? ≠ some a := fun k hk => by
        have := List.mem_of_getElem? hk
        simp at hc
        exact hc this
      cases i with
      | zero =>
        cases i' with
        | zero => rfl
        | succ i' => simp at h1 h2; subst h1; exact absurd h2 (hn i')
      | succ i =>
        cases i' with
        | zero => simp at h1 h2; subst h2; exact absurd h1 (hn i)
        | succ i' => rw [ih h i i' j (by simpa using h1) (by simpa using h2)]

theorem RnFs.get {r : Nat → Nat} {os ext : List AO} (h : RnFs r os ext) : os.length = ext.length ∧ ∀ (j : Nat) o', ext[j]? = some o' → ∃ o, os[j]? = some o ∧ RnF r o o' := by
  induction h with
  | nil => exact ⟨rfl, fun j o h => by simp at h⟩
  | @cons o o' os os' h t ih =>
    refine ⟨by simp [ih.1], fun j z hz => ?_⟩
    cases j with
    | zero => simp at hz; subst hz; exact ⟨o, rfl, h⟩
    | succ j => simpa using ih.2 j z (by simpa using hz)
theorem PickO.get {r : Nat → Nat} {H : List AO} {ρ : List Nat} {os : List AO} (h : PickO r H ρ os) : ρ.length = os.length ∧ ∀ (i : Nat) o, os[i]? = some o → ∃ j o', ρ[i]? = some j ∧ H[j]? = some o' ∧ RnO r o o' := by
  induction h with
  | nil => exact ⟨rfl, fun j o h => by simp at h⟩
  | @cons i ρ o o' os h k t ih =>
    refine ⟨by simp [ih.1], fun j z hz => ?_⟩
    cases j with
    | zero => simp at hz; subst hz; exact ⟨i, o', rfl, h, k⟩
    | succ j => simpa using ih.2 j z (by simpa using hz)

theorem PutO.get {r : Nat → Nat} {ρ : List Nat} {os H H' : List AO} (h : PutO r ρ os H H') : ndup ρ = true →
    ρ.length ≤ os.length ∧ H'.length = H.length + (os.length - ρ.length) ∧ (∀ (i j : Nat), ρ[i]? = some j → j < H.length ∧ ∃ o o', os[i]? = some o ∧ H'[j]? = some o' ∧ RnF r o o') ∧
      (∀ j : Nat, j < H.length → (∀ i : Nat, ρ[i]? ≠ some j) → H'[j]? = H[j]?) ∧ ∀ (j : Nat) o', H.length ≤ j → H'[j]? = some o' → ∃ o, os[j - H.length + ρ.length]? = some o ∧ RnF r o o' := by
  induction h with
  | @nil os ext H H' h e =>
    intro _
    subst e
    obtain ⟨h1, h2⟩ := h.get
    refine ⟨Nat.zero_le _, by simp [h1], fun i j h => by simp at h, fun j hj _ => List.getElem?_append_left hj, fun j o' hj ho => ?_⟩
    rw [List.getElem?_append_right hj] at ho
    simpa using h2 _ o' ho
  | @cons i ρ o o1 o2 os H H1 H' k h t ih =>
    intro hn
    have hn' : ndup ρ = true ∧ ∀ q : Nat, ρ[q]? ≠ some i := by
      simp only [ndup] at hn
      split at hn
      · cases hn
      · rename_i hc
        refine ⟨hn, fun q hq => ?_⟩
        have := List.mem_of_getElem? hq
        simp at hc
        exact hc this
    obtain ⟨g1, g2, g3, g4, g5⟩ := ih hn'.1
    obtain ⟨e1, e2⟩ := h.eq
    subst e2
    have hi : i < H.length := (List.getElem?_eq_some_iff.1 e1).1
    simp only [List.length_set] at g2 g3 g4 g5
    refine ⟨by simp; omega, by simp only [List.length_cons]; omega, fun a j ha => ?_, fun j hj hne => ?_, fun j o' hj ho => ?_⟩
    · cases a with
      | zero =>
        simp at ha
        subst ha
        exact ⟨hi, o, o2, rfl, by rw [g4 i hi hn'.2, List.getElem?_set_self hi], k⟩
      | succ a => simpa using g3 a j (by simpa using ha)
    · rw [g4 j hj (fun q hq => hne (q + 1) (by simpa using hq)), List.getElem?_set_ne (fun e => hne 0 (by simp [e]))]
    · obtain ⟨q, hq, hq'⟩ := g5 j o' hj ho
      exact ⟨q, by simp only [List.length_cons]; rw [← Nat.add_assoc, List.getElem?_cons_succ]; exact hq, hq'⟩

theorem c2o {ρ : List Nat} {m i j : Nat} (h : ρ[i]? = some j) : rn ρ m i = j := by simp [rn, h]
theorem b6l {ρ : List Nat} {m i : Nat} (h : ρ.length ≤ i) : rn ρ m i = m + (i - ρ.length) := by simp [rn, List.getElem?_eq_none h]
theorem c8h {ρ : List Nat} {m i j : Nat} (h : rn ρ m i = j) (hj : j < m) : ρ[i]? = some j := by
  rcases Nat.lt_or_ge i ρ.length with hi | hi
  · rw [List.getElem?_eq_getElem hi]
    rw [c2o (List.getElem?_eq_getElem hi)] at h
    rw [h]
  · rw [b6l hi] at h
    omega

def nuC (ρ : List Nat) (ν : Nu) : Nu := ⟨ρ.length, fun i => ν.top ((ρ[i]?).getD 0), fun i ver => ν.val ((ρ[i]?).getD 0) ver⟩
def invR (ρ : List Nat) (j : Nat) : Option Nat := (List.range ρ.length).find? fun i => ρ[i]? == some j
theorem a3z {ρ : List Nat} {i j : Nat} (h : invR ρ j = some i) : ρ[i]? = some j := by
  have := List.find?_some h
  simpa using this
theorem a6y {ρ : List Nat} {j : Nat} (h : invR ρ j = none) (i : Nat) : ρ[i]? ≠ some j := by
  intro hi
  have h1 := List.find?_eq_none.1 h i (by simpa using (List.getElem?_eq_some_iff.1 hi).1)
  simp [hi] at h1
theorem c6a {ρ : List Nat} (hn : ndup ρ = true) {i j : Nat} (h : ρ[i]? = some j) : invR ρ j = some i := by
  cases hi : invR ρ j with
  | none => exact absurd h (a6y hi i)
  | some i' => rw [b6r hn i' i j (a3z hi) h]
def nuF (ρ : List Nat) (m k : Nat) (ν ν' : Nu) : Nu :=
  ⟨m + (k - ρ.length), fun j => match invR ρ j with
    | some i => ν'.top i
    | none => if j < m then ν.top j else ν'.top (j - m + ρ.length),
   fun j ver => match invR ρ j with
    | some i => ν'.val i ver
    | none => if j < m then ν.val j ver else ν'.val (j - m + ρ.length) ver⟩

section
variable {w : World} {I : Imm} {ν ν' : Nu} {ρ : List Nat} {m k : Nat}

theorem c8i {y : AV} {v : Value} (hm : ν.n = m) (h : VR w I ν y v) : ∀ {x : AV}, Rn (rn ρ m) x y → VR w I (nuC ρ ν) x v := by
  have lt : ∀ {i j : Nat}, rn ρ m i = j → j < ν.n → ρ[i]? = some j ∧ i < ρ.length := fun h hj => by
    have := c8h h (by omega)
    exact ⟨this, (List.getElem?_eq_some_iff.1 this).1⟩
  have cl : ∀ {x : AV} {v : Value}, clB 0 x = true → VR w I ν x v → VR w I (nuC ρ ν) x v := fun hc hv => hv.cut (k := 0) ⟨Nat.zero_le _, fun _ h => by omega, fun _ _ h => by omega⟩ hc
  induction h with
  | any v => intro x h; cases h; exact .any v
  | und v e => intro x h; cases h; exact .und v e
  | pure h =>
    intro x hx
    cases hx with
    | same hc => exact .pure h
    | fn hl =>
      cases h
      cases hl
      exact .pure (.fn _)
    | op _ => cases h
    | os _ => cases h
    | er _ => cases h
    | mp _ => cases h
    | agg _ => cases h
    | tup _ => cases h
  | op id off b hi h =>
    intro x hx
    cases hx with
    | same hc => exact cl hc (.op id off b hi h)
    | @op i _ _ e =>
      obtain ⟨h1, h2⟩ := lt e hi
      exact .op i off b h2 (by simp only [nuC, h1, Option.getD_some]; exact h)
  | os id ver A n c hi hv hs =>
    intro x hx
    cases hx with
    | same hc => exact cl hc (.os id ver A n c hi hv hs)
    | @os i _ _ e =>
      obtain ⟨h1, h2⟩ := lt e hi
      exact .os i ver A n c h2 (by simp only [nuC, h1, Option.getD_some]; exact hv) (by simp only [nuC, h1, Option.getD_some]; exact hs)
  | er id ver sz i off g n c hi hv h =>
    intro x hx
    cases hx with
    | same hc => exact cl hc (.er id ver sz i off g n c hi hv h)
    | @er q _ _ _ _ _ e =>
      obtain ⟨h1, h2⟩ := lt e hi
      exact .er q ver sz i off g n c h2 (by simp only [nuC, h1, Option.getD_some]; exact hv) (by simp only [nuC, h1, Option.getD_some]; exact h)
  | mp id r hi hs =>
    intro x hx
    cases hx with
    | same hc => exact cl hc (.mp id r hi hs)
    | @mp q _ e =>
      obtain ⟨h1, h2⟩ := lt e hi
      exact .mp q r h2 (by simp only [nuC, h1, Option.getD_some]; exact hs)
  | fn f caps vs hl h ih =>
    intro x hx
    cases hx with
    | same hc => exact cl hc (.fn f caps vs hl h)
    | @fn _ xs _ hr =>
      obtain ⟨g1, g2, g3⟩ := hr.get
      exact .fn f xs vs (by omega) fun j x v h1 h2 => by
        obtain ⟨y, hy, hxy⟩ := g2 j x h1
        exact ih j y v hy h2 hxy
  | agg cs vs hl h ih =>
    intro x hx
    cases hx with
    | same hc => exact cl hc (.agg cs vs hl h)
    | @agg xs _ hr =>
      obtain ⟨g1, g2, g3⟩ := hr.get
      exact .agg xs vs (by omega) fun j x v h1 h2 => by
        obtain ⟨y, hy, hxy⟩ := g2 j x h1
        exact ih j y v hy h2 hxy
  | tup cs vs hl h ih =>
    intro x hx
    cases hx with
    | same hc => exact cl hc (.tup cs vs hl h)
    | @tup xs _ hr =>
      obtain ⟨g1, g2, g3⟩ := hr.get
      exact .tup xs vs (by omega) fun j x v h1 h2 => by
        obtain ⟨y, hy, hxy⟩ := g2 j x h1
        exact ih j y v hy h2 hxy

theorem c0d (hn : ndup ρ = true) (hρ : ∀ (i j : Nat), ρ[i]? = some j → j < m) {i j : Nat} (h : rn ρ m i = j) : (nuF ρ m k ν ν').top j = ν'.top i ∧ ∀ ver, (nuF ρ m k ν ν').val j ver = ν'.val i ver := by
  rcases Nat.lt_or_ge i ρ.length with hi | hi
  · have h1 : ρ[i]? = some j := by rw [List.getElem?_eq_getElem hi, ← h, c2o (List.getElem?_eq_getElem hi)]
    simp only [nuF, c6a hn h1]
    exact ⟨trivial, fun _ => trivial⟩
  · rw [b6l hi] at h
    have h1 : invR ρ j = none := by
      cases e : invR ρ j with
      | none => rfl
      | some q => have := hρ q j (a3z e); omega
    have h2 : j - m + ρ.length = i := by omega
    simp only [nuF, h1]
    rw [if_neg (by omega), h2]
    exact ⟨rfl, fun ver => by rw [if_neg (by omega)]⟩

theorem c8u (hn : ndup ρ = true) (hρ : ∀ (i j : Nat), ρ[i]? = some j → j < m) (hk : ν'.n = k) (hk' : ρ.length ≤ k) {x : AV} {v : Value} (h : VR w I ν' x v) : ∀ {y : AV}, Rn (rn ρ m) x y → VR w I (nuF ρ m k ν ν') y v := by
  have lt : ∀ {i j : Nat}, rn ρ m i = j → i < ν'.n → j < (nuF ρ m k ν ν').n := fun {i j} h hi => by
    simp only [nuF]
    rcases Nat.lt_or_ge i ρ.length with h1 | h1
    · have : ρ[i]? = some j := by rw [List.getElem?_eq_getElem h1, ← h, c2o (List.getElem?_eq_getElem h1)]
      have := hρ i j this
      omega
    · rw [b6l h1] at h
      omega
  have ft : ∀ {i j : Nat}, rn ρ m i = j → (nuF ρ m k ν ν').top j = ν'.top i := fun h => (c0d hn hρ h).1
  have fv : ∀ {i j : Nat} (ver : Nat), rn ρ m i = j → (nuF ρ m k ν ν').val j ver = ν'.val i ver := fun ver h => (c0d hn hρ h).2 ver
  have cl : ∀ {x : AV} {v : Value}, clB 0 x = true → VR w I ν' x v → VR w I (nuF ρ m k ν ν') x v := fun hc hv => hv.cut (k := 0) ⟨Nat.zero_le _, fun _ h => by omega, fun _ _ h => by omega⟩ hc
  induction h with
  | any v => intro x h; cases h; exact .any v
  | und v e => intro x h; cases h; exact .und v e
  | pure h =>
    intro x hx
    cases hx with
    | same hc => exact .pure h
    | fn hl =>
      cases h
      cases hl
      exact .pure (.fn _)
    | op _ => cases h
    | os _ => cases h
    | er _ => cases h
    | mp _ => cases h
    | agg _ => cases h
    | tup _ => cases h
  | op id off b hi h =>
    intro x hx
    cases hx with
    | same hc => exact cl hc (.op id off b hi h)
    | @op _ j _ e => exact .op j off b (lt e hi) ((fv 0 e).trans h)
  | os id ver A n c hi hv hs =>
    intro x hx
    cases hx with
    | same hc => exact cl hc (.os id ver A n c hi hv hs)
    | @os _ j _ e => exact .os j ver A n c (lt e hi) (by rw [ft e]; exact hv) ((fv ver e).trans hs)
  | er id ver sz i off g n c hi hv h =>
    intro x hx
    cases hx with
    | same hc => exact cl hc (.er id ver sz i off g n c hi hv h)
    | @er _ j _ _ _ _ e => exact .er j ver sz i off g n c (lt e hi) (by rw [ft e]; exact hv) ((fv ver e).trans h)
  | mp id r hi hs =>
    intro x hx
    cases hx with
    | same hc => exact cl hc (.mp id r hi hs)
    | @mp _ j e => exact .mp j r (lt e hi) ((fv 0 e).trans hs)
  | fn f caps vs hl h ih =>
    intro x hx
    cases hx with
    | same hc => exact cl hc (.fn f caps vs hl h)
    | @fn _ _ ys hr =>
      obtain ⟨g1, g2, g3⟩ := hr.get
      exact .fn f ys vs (by omega) fun j x v h1 h2 => by
        obtain ⟨y, hy, hxy⟩ := g3 j x h1
        exact ih j y v hy h2 hxy
  | agg cs vs hl h ih =>
    intro x hx
    cases hx with
    | same hc => exact cl hc (.agg cs vs hl h)
    | @agg _ ys hr =>
      obtain ⟨g1, g2, g3⟩ := hr.get
      exact .agg ys vs (by omega) fun j x v h1 h2 => by
        obtain ⟨y, hy, hxy⟩ := g3 j x h1
        exact ih j y v hy h2 hxy
  | tup cs vs hl h ih =>
    intro x hx
    cases hx with
    | same hc => exact cl hc (.tup cs vs hl h)
    | @tup _ ys hr =>
      obtain ⟨g1, g2, g3⟩ := hr.get
      exact .tup ys vs (by omega) fun j x v h1 h2 => by
        obtain ⟨y, hy, hxy⟩ := g3 j x h1
        exact ih j y v hy h2 hxy
end

section
variable {E : Env} {N : Nat} {ops : Array Oper} {Q : Exit → St → Prop} {sl : Slots} {H : List AO} {rest : List Oper}

theorem c8x {w : World} {I : Imm} {ν : Nu} {ρ : List Nat} {m : Nat} (hm : ν.n = m) {i j : Nat} (hi : ρ[i]? = some j) {o o' : AO} (h : OR E w I ν j o') (hr : RnO (rn ρ m) o o') : OR E w I (nuC ρ ν) i o ∧ OB (nuC ρ ν) i o = OB ν j o' := by
  have hv : ∀ ver, (nuC ρ ν).val i ver = ν.val j ver := fun ver => by simp only [nuC, hi, Option.getD_some]
  have ht : (nuC ρ ν).top i = ν.top j := by simp only [nuC, hi, Option.getD_some]
  cases hr with
  | gone => exact ⟨.gone, rfl⟩
  | @box xs ys tyo hb =>
    obtain ⟨g1, g2, g3⟩ := hb.get
    cases h with
    | box _ _ b vs ty h1 h2 h3 h4 h5 h6 h7 =>
      refine ⟨.box xs tyo b vs ty ((hv 0).trans h1) h2 h3 (by omega) (fun q x v hx hv' => ?_) h6 h7, by funext b; simp only [OB, OB1, hv]⟩
      obtain ⟨y, hy, hxy⟩ := g2 q x hx
      exact c8i hm (h5 q y v hy hv') hxy
  | row =>
    cases h with
    | row e sz ver fz xs inner h1 h2 h3 h4 h5 h6 => exact ⟨.row _ _ _ _ _ inner (ht.trans h1) h2 (by rw [hv]; exact h3) h4 h5 (by rw [hv]; exact h6), by funext b; simp only [OB, OB1, hv]⟩
  | map =>
    cases h with
    | map es fl b en ck h1 h2 h3 h4 h5 => exact ⟨.map _ _ b en ck ((hv 0).trans h1) h2 h3 h4 h5, by funext b; simp only [OB, OB1, hv]⟩
  | arr =>
    cases h with
    | arr e sz ver xs wr g c cur fr h1 h2 h3 h4 h5 h6 h7 h8 h9 h10 => exact ⟨.arr _ _ _ _ _ g c cur fr (by rw [ht]; exact h1) h2 ((hv _).trans h3) h4 h5 h6 h7 h8 h9 h10, by funext b; simp only [OB, OB1, hv]⟩
  | siter =>
    cases h with
    | siter s pos r h1 h2 h3 => exact ⟨.siter _ _ r ((hv 0).trans h1) h2 h3, by funext b; simp only [OB, OB1, hv]⟩
  | hp =>
    cases h with
    | hp m h1 => exact ⟨.hp _ h1, rfl⟩

theorem c8w {w : World} {I : Imm} {ν ν' : Nu} {ρ : List Nat} {m k : Nat} (hn : ndup ρ = true) (hρ : ∀ (i j : Nat), ρ[i]? = some j → j < m) (hk : ν'.n = k) (hk' : ρ.length ≤ k) {i j : Nat} (hi : rn ρ m i = j) {o o' : AO} (h : OR E w I ν' i o) (hr : RnF (rn ρ m) o o') :
    OR E w I (nuF ρ m k ν ν') j o' ∧ ∀ b, OB (nuF ρ m k ν ν') j o' b → OB ν' i o b := by
  obtain ⟨ht, hv⟩ := c0d (ν := ν) (ν' := ν') (k := k) hn hρ hi
  cases hr with
  | forget => exact ⟨.gone, fun b h => h.elim⟩
  | of hr =>
    cases hr with
    | gone => exact ⟨.gone, fun b h => h⟩
    | @box xs ys tyo hb =>
      obtain ⟨g1, g2, g3⟩ := hb.get
      cases h with
      | box _ _ b vs ty h1 h2 h3 h4 h5 h6 h7 =>
        refine ⟨.box ys tyo b vs ty ((hv 0).trans h1) h2 h3 (by omega) (fun q x v hx hv' => ?_) h6 h7, fun b' h => by simpa only [OB, OB1, hv] using h⟩
        obtain ⟨y, hy, hxy⟩ := g3 q x hx
        exact c8u hn hρ hk hk' (h5 q y v hy hv') hxy
    | row =>
      cases h with
      | row e sz ver fz xs inner h1 h2 h3 h4 h5 h6 => exact ⟨.row _ _ _ _ _ inner (ht.trans h1) h2 (by rw [hv]; exact h3) h4 h5 (by rw [hv]; exact h6), fun b' h => by simpa only [OB, OB1, hv] using h⟩
    | map =>
      cases h with
      | map es fl b en ck h1 h2 h3 h4 h5 => exact ⟨.map _ _ b en ck ((hv 0).trans h1) h2 h3 h4 h5, fun b' h => by simpa only [OB, OB1, hv] using h⟩
    | arr =>
      cases h with
      | arr e sz ver xs wr g c cur fr h1 h2 h3 h4 h5 h6 h7 h8 h9 h10 => exact ⟨.arr _ _ _ _ _ g c cur fr (by rw [ht]; exact h1) h2 ((hv _).trans h3) h4 h5 h6 h7 h8 h9 h10, fun b' h => by simpa only [OB, OB1, hv] using h⟩
    | siter =>
      cases h with
      | siter s pos r h1 h2 h3 => exact ⟨.siter _ _ r ((hv 0).trans h1) h2 h3, fun b' h => by simpa only [OB, OB1, hv] using h⟩
    | hp =>
      cases h with
      | hp m h1 => exact ⟨.hp _ h1, fun b' h => h⟩

theorem c8o {w : World} {I : Imm} {ν : Nu} {ρ : List Nat} {os : List AO} (hh : HR E I ν H w) (hp : PickO (rn ρ H.length) H ρ os) (hn : ndup ρ = true) :
    HR (E.at 0) I (nuC ρ ν) os w ∧ ∀ b, FB (nuC ρ ν) os b → ∃ (i j : Nat) (o' : AO), ρ[i]? = some j ∧ H[j]? = some o' ∧ OB ν j o' b := by
  obtain ⟨g1, g2⟩ := hp.get
  have hob : ∀ (i : Nat) o, os[i]? = some o → ∃ (j : Nat) (o' : AO), ρ[i]? = some j ∧ H[j]? = some o' ∧ OR E w I (nuC ρ ν) i o ∧ OB (nuC ρ ν) i o = OB ν j o' := fun i o ho => by
    obtain ⟨j, o', h1, h2, h3⟩ := g2 i o ho
    have := c8x (E := E) hh.n h1 (hh.obj j o' h2) h3
    exact ⟨j, o', h1, h2, this.1, this.2⟩
  refine ⟨⟨by simp [nuC, g1], hh.below, hh.base, hh.imm, fun i o ho => ?_, fun i i' o o' b h1 h2 e1 e2 => ?_⟩, fun b ⟨i, o, ho, hb⟩ => ?_⟩
  · obtain ⟨j, o', _, _, h3, _⟩ := hob i o ho
    exact OR.env (E := E) (F := E.at 0) rfl h3
  · obtain ⟨j, q, k1, k2, _, k4⟩ := hob i o h1
    obtain ⟨j', q', l1, l2, _, l4⟩ := hob i' o' h2
    have := hh.disj j j' q q' b k2 l2 (k4 ▸ e1) (l4 ▸ e2)
    subst this
    exact b6r hn i i' j k1 l1
  · obtain ⟨j, q, k1, k2, _, k4⟩ := hob i o ho
    exact ⟨i, j, q, k1, k2, k4 ▸ hb⟩

theorem b7z {w w' : World} {I I' : Imm} {ν ν' : Nu} {ρ : List Nat} {os os' H' : List AO} (hh : HR E I ν H w) (hp : PickO (rn ρ H.length) H ρ os) (hn : ndup ρ = true)
    (hh' : HR (E.at 0) I' ν' os' w') (hfr : FR os.length w I (nuC ρ ν) os w' I' ν' os') (hput : PutO (rn ρ H.length) ρ os' H H') :
    ν.le (nuF ρ H.length os'.length ν ν') ∧ HR E I' (nuF ρ H.length os'.length ν ν') H' w' ∧ FR E.k w I ν H w' I' (nuF ρ H.length os'.length ν ν') H' := by
  obtain ⟨p1, p2, p3, p4, p5⟩ := hput.get hn
  have hρ : ∀ (i j : Nat), ρ[i]? = some j → j < H.length := fun i j h => (p3 i j h).1
  obtain ⟨_, hfb⟩ := c8o hh hp hn
  have hol : ρ.length = os.length := hp.get.1
  have hle : ν.le (nuF ρ H.length os'.length ν ν') := by
    have hag : ∀ (i j : Nat), ρ[i]? = some j → ν.top j ≤ ν'.top i ∧ ∀ ver, ver ≤ ν.top j → ν'.val i ver = ν.val j ver := fun i j h => by
      have hi : i < ρ.length := (List.getElem?_eq_some_iff.1 h).1
      obtain ⟨_, a2, a3⟩ := hfr.ag i (by omega) hi
      simp only [nuC, h, Option.getD_some] at a2 a3
      exact ⟨a2, a3⟩
    refine ⟨by simp only [nuF, hh.n]; omega, fun id hi => ?_, fun id ver hi hv => ?_⟩
    · simp only [nuF]
      cases e : invR ρ id with
      | some i => exact (hag i id (a3z e)).1
      | none => simp only []; rw [if_pos (by rw [← hh.n]; exact hi)]; exact Nat.le_refl _
    · simp only [nuF]
      cases e : invR ρ id with
      | some i => exact (hag i id (a3z e)).2 ver hv
      | none => simp only []; rw [if_pos (by rw [← hh.n]; exact hi)]
  have hkeep : ∀ (j : Nat) o b, H[j]? = some o → (∀ i : Nat, ρ[i]? ≠ some j) → OB ν j o b → ¬ FB (nuC ρ ν) os b := fun j o b hj hne hb hf => by
    obtain ⟨i, j', o', h1, h2, h3⟩ := hfb b hf
    have := hh.disj j j' o o' b hj h2 hb h3
    subst this
    exact hne i h1
  have hcase : ∀ (j : Nat) o, H'[j]? = some o → (j < H.length ∧ (∀ i : Nat, ρ[i]? ≠ some j) ∧ H[j]? = some o) ∨ ∃ (i : Nat) (q : AO), os'[i]? = some q ∧ rn ρ H.length i = j ∧ RnF (rn ρ H.length) q o := fun j o ho => by
    rcases Nat.lt_or_ge j H.length with hj | hj
    · cases e : invR ρ j with
      | none => exact .inl ⟨hj, a6y e, by rw [← p4 j hj (a6y e)]; exact ho⟩
      | some i =>
        obtain ⟨_, q, o', h1, h2, h3⟩ := p3 i j (a3z e)
        rw [ho] at h2
        injection h2 with h2
        subst h2
        exact .inr ⟨i, q, h1, c2o (a3z e), h3⟩
    · obtain ⟨q, h1, h2⟩ := p5 j o hj ho
      exact .inr ⟨_, q, h1, by rw [b6l (by omega)]; omega, h2⟩
  have hB : ∀ (i j : Nat) q o, os'[i]? = some q → rn ρ H.length i = j → RnF (rn ρ H.length) q o → OR E w' I' (nuF ρ H.length os'.length ν ν') j o ∧ ∀ b, OB (nuF ρ H.length os'.length ν ν') j o b → OB ν' i q b := fun i j q o h1 h2 h3 =>
    c8w hn hρ hh'.n p1 h2 (OR.env (E := E.at 0) (F := E) rfl (hh'.obj i q h1)) h3
  have hold : ∀ (j : Nat) o, H[j]? = some o → OB (nuF ρ H.length os'.length ν ν') j o = OB ν j o := fun j o h => b0h (hh.obj j o h) hle (hh.idlt h)
  refine ⟨hle, ⟨by simp only [nuF]; rw [p2], hh'.below, hh'.base, hh'.imm, fun j o ho => ?_, fun j j' o o' b h1 h2 e1 e2 => ?_⟩, ⟨hfr.imm, hfr.size, fun b o h => ?_, fun b hb hnf => ?_, fun b ⟨j, o, ho, hb⟩ => ?_, hle.ag _, fun j _ h => ?_⟩⟩
  · rcases hcase j o ho with ⟨h1, h2, h3⟩ | ⟨i, q, h1, h2, h3⟩
    · have hor := hh.obj j o h3
      refine hor.mono hfr.imm hle (hh.idlt h3) ?_ (fun b hb => hfr.keep b (a5j hor hb).1 (hkeep j o b h3 h2 hb)) (fun b o' hb hi => ?_)
      · simp only [nuF]
        cases e : invR ρ j with
        | some i => exact absurd (a3z e) (h2 i)
        | none => simp only []; rw [if_pos h1]
      · rcases hfr.new b o' hi with k | k | k
        · exact k
        · exact absurd k (hkeep j o b h3 h2 hb)
        · have := (a5j hor hb).1; omega
    · exact (hB i j q o h1 h2 h3).1
  · rcases hcase j o h1 with ⟨a1, a2, a3⟩ | ⟨i, q, a1, a2, a3⟩ <;> rcases hcase j' o' h2 with ⟨b1, b2, b3⟩ | ⟨i', q', b1, b2, b3⟩
    · rw [hold j o a3] at e1
      rw [hold j' o' b3] at e2
      exact hh.disj j j' o o' b a3 b3 e1 e2
    · rw [hold j o a3] at e1
      have e2' := (hB i' j' q' o' b1 b2 b3).2 b e2
      rcases hfr.foot b ⟨i', q', b1, e2'⟩ with k | k
      · exact absurd k (hkeep j o b a3 a2 e1)
      · have := (a5j (hh.obj j o a3) e1).1; omega
    · rw [hold j' o' b3] at e2
      have e1' := (hB i j q o a1 a2 a3).2 b e1
      rcases hfr.foot b ⟨i, q, a1, e1'⟩ with k | k
      · exact absurd k (hkeep j' o' b b3 b2 e2)
      · have := (a5j (hh.obj j' o' b3) e2).1; omega
    · have := hh'.disj i i' q q' b a1 b1 ((hB i j q o a1 a2 a3).2 b e1) ((hB i' j' q' o' b1 b2 b3).2 b e2)
      subst this
      exact a2.symm.trans b2
  · rcases hfr.new b o h with k | k | k
    · exact .inl k
    · obtain ⟨i, j, o', h1, h2, h3⟩ := hfb b k
      exact .inr (.inl ⟨j, o', h2, h3⟩)
    · exact .inr (.inr k)
  · refine hfr.keep b hb fun hf => hnf ?_
    obtain ⟨i, j, o', h1, h2, h3⟩ := hfb b hf
    exact ⟨j, o', h2, h3⟩
  · rcases hcase j o ho with ⟨h1, h2, h3⟩ | ⟨i, q, h1, h2, h3⟩
    · rw [hold j o h3] at hb
      exact .inl ⟨j, o, h3, hb⟩
    · rcases hfr.foot b ⟨i, q, h1, (hB i j q o h1 h2 h3).2 b hb⟩ with k | k
      · obtain ⟨i', j', o', k1, k2, k3⟩ := hfb b k
        exact .inl ⟨j', o', k2, k3⟩
      · exact .inr k
  · have hj := (List.getElem?_eq_some_iff.1 h).1
    cases e : invR ρ j with
    | none => exact ⟨by simp only [nuF, e]; rw [if_pos hj], by rw [p4 j hj (a6y e)]; exact h⟩
    | some i =>
      have hi := (List.getElem?_eq_some_iff.1 (a3z e)).1
      obtain ⟨_, q, o', h1, h2, h3⟩ := p3 i j (a3z e)
      have hos : os[i]? = some .gone := by
        have hi' : i < os.length := by omega
        obtain ⟨j0, o0, g1, g2, g3⟩ := hp.get.2 i os[i] (List.getElem?_eq_getElem hi')
        rw [a3z e] at g1
        injection g1 with g1
        subst g1
        rw [h] at g2
        injection g2 with g2
        subst g2
        rw [List.getElem?_eq_getElem hi']
        generalize os[i] = q0 at g3
        cases g3
        rfl
      obtain ⟨t1, t2⟩ := hfr.gone i (by omega) hos
      rw [h1] at t2
      injection t2 with t2
      subst t2
      have h4 : o' = .gone := by
        cases h3 with
        | of h3 => cases h3; rfl
        | forget => rfl
      subst h4
      refine ⟨?_, h2⟩
      simp only [nuF, e]
      rw [t1]
      simp only [nuC, a3z e, Option.getD_some]

theorem a0v (ρ : List Nat) {f : Operand} {asq : List Operand} {tys : Array TypeId} {g : Nat} [fn : FN E.P g] {caps xs ys : List AV} {os : List AO} {R : AV → List AO → Prop} {ty : TypeId} {pos : String} {after : Array Edge} {d : Nat}
    (hf : ev sl f = some (.fn g caps)) (ha : evs sl asq = some xs) (spec : ACalls (E.at 0) g ys os R) (hx : RnL (rn ρ H.length) ys (xs ++ caps)) (hp : PickO (rn ρ H.length) H ρ os) (hn : ndup ρ = true) (hd : Nat.blt d N = true)
    (h : ∀ rv os', R rv os' → ∃ rv' H', Rn (rn ρ H.length) rv rv' ∧ PutO (rn ρ H.length) ρ os' H H' ∧ AL E N ops Q rest ⟨(d, rv') :: sl, H'⟩) : AL E N ops Q (⟨some d, .call { callee := .value f, args := asq.toArray, argTypes := tys }, ty, pos, after, none⟩ :: rest) ⟨sl, H⟩ := by
  intro I ν a w hs w0 I0 ν0 o0 hf0
  obtain ⟨cvs, e1, e2, e3⟩ := c0w (a2q hs.sl hf)
  obtain ⟨e4, e5⟩ := b6y hs.sl asq ha
  refine wpList_plain rfl fun K hK => ?_
  unfold Oper.wp
  have hrun : (execOp a.eval ⟨some d, .call { callee := .value f, args := asq.toArray, argTypes := tys }, ty, pos, after, none⟩).run E.P w = .ok (.enter g (asq.map a.eval ++ cvs).toArray) w := by
    simp [execOp, resolve, e1, Deferred.ofValue, invoke, a5w]
  rw [hrun, Oper.upon_enter]
  have hargs := a6j (T := VR w I ν) (p := xs) (q := caps) (r := asq.map a.eval) (s := cvs) (by simp [e4]) e5 e3
  have hh := hs.hr
  obtain ⟨x1, x2, x3⟩ := hx.get
  refine (spec I (nuC ρ ν) w (asq.map a.eval ++ cvs) (c8o hh hp hn).1 (by rw [x1]; simp [e4, e2]) (fun j x v h1 h2 => ?_)).mono ?_
  · obtain ⟨y, hy, hxy⟩ := x2 j x h1
    exact c8i hh.n (hargs j y v hy h2) hxy
  rintro e w' ⟨rv, os', I', ν', v, hR, rfl, hv, hh', hfr⟩
  obtain ⟨rv', H', hrv, hput, hal⟩ := h rv os' hR
  obtain ⟨p1, p2, p3, p4, p5⟩ := hput.get hn
  obtain ⟨hle, hr2, hf2⟩ := b7z hh hp hn hh' hfr hput
  have hv2 := c8u (ν := ν) hn (fun i j h => (p3 i j h).1) hh'.n p1 hv hrv
  exact hK _ _ (hal I' _ _ w' ⟨hr2, (hs.sl.mono hfr.imm hle).put d hv2 (by rw [hs.nt]; simpa [Nat.blt_eq] using hd), hs.df, by simp [Act.put, hs.nt]⟩ w0 I0 ν0 o0 (hf0.trans hf2))
end
end Go.Proofs.YtkljmljkiodnpaaGreatDoor.L

namespace Go.Proofs.YtkljmljkiodnpaaGreatDoor.L
open Go Go.RowKit

inductive KD where
  | one (k : SK)
  | agg (ks : List SK)
class KK (P : Program) (t : Nat) (kd : outParam KD) : Prop where
  out : match kd with
    | .one (.int k) => P.underlying t = some (.int k)
    | .one .bool => P.underlying t = some .bool
    | .one .str => P.underlying t = some .string
    | .agg ks => EQ P t ks
instance {P : Program} {t n b : Nat} {k : IntKind} {z : Value} [ti : TI P t (.int k) n b z] : KK P t (.one (.int k)) := ⟨ti.u⟩
instance {P : Program} {t n b : Nat} {z : Value} [ti : TI P t .string n b z] : KK P t (.one .str) := ⟨ti.u⟩
instance {P : Program} {t : Nat} {ks : List SK} [e : EQ P t ks] : KK P t (.agg ks) := ⟨e⟩

inductive OKk : KD → AV → Prop where
  | int {k : IntKind} {n : Int} : OKk (.one (.int k)) (.int k n)
  | bool {b : Bool} : OKk (.one .bool) (.bool b)
  | str {s : List UInt8} : OKk (.one .str) (.str s)
  | agg {ks : List SK} {cs : List AV} (h : OfK ks cs) : OKk (.agg ks) (.agg cs)

def keq : AV → AV → Bool
  | .int _ m, .int _ n => decide (m = n)
  | .bool m, .bool n => decide (m = n)
  | .str m, .str n => decide (m = n)
  | .agg cs, .agg ds => eqC cs ds
  | _, _ => false

theorem c7q {ks : List SK} : ∀ {cs ds : List AV}, OfK ks cs → OfK ks ds → eqC cs ds = true → cs = ds := by
  induction ks with
  | nil => intro cs ds h1 h2 _; cases h1; cases h2; rfl
  | cons k ks ih =>
    intro cs ds h1 h2 h
    cases h1 with
    | int h1 => cases h2 with
      | int h2 => simp only [eqC, Bool.and_eq_true, decide_eq_true_eq] at h; rw [h.1, ih h1 h2 h.2]
    | bool h1 => cases h2 with
      | bool h2 => simp only [eqC, Bool.and_eq_true, decide_eq_true_eq] at h; rw [h.1, ih h1 h2 h.2]
    | str h1 => cases h2 with
      | str h2 => simp only [eqC, Bool.and_eq_true, decide_eq_true_eq] at h; rw [h.1, ih h1 h2 h.2]
theorem c7o {kd : KD} {x y : AV} (hx : OKk kd x) (hy : OKk kd y) (h : keq x y = true) : x = y := by
  cases hx with
  | int => cases hy with
    | int => simp only [keq, decide_eq_true_eq] at h; rw [h]
  | bool => cases hy with
    | bool => simp only [keq, decide_eq_true_eq] at h; rw [h]
  | str => cases hy with
    | str => simp only [keq, decide_eq_true_eq] at h; rw [h]
  | agg hx => cases hy with
    | agg hy => rw [c7q hx hy h]
inductive KV : KD → AV → Value → Prop where
  | int {k : IntKind} {n : Int} : KV (.one (.int k)) (.int k n) (.int k n)
  | bool {b : Bool} : KV (.one .bool) (.bool b) (.bool b)
  | str {s : List UInt8} : KV (.one .str) (.str s) (.string ⟨s.toArray⟩)
  | agg {ks : List SK} {cs : List AV} {vs : List Value} (h : OfK ks cs) (hl : cs.length = vs.length) (hx : ∀ (w : World) (I : Imm) (j : Nat) x v, cs[j]? = some x → vs[j]? = some v → VR w I nu0 x v) : KV (.agg ks) (.agg cs) (.agg vs.toArray)

theorem OfK.get {ks : List SK} : ∀ {cs : List AV}, OfK ks cs → ∀ (j : Nat) x, cs[j]? = some x → (∃ k n, x = .int k n) ∨ (∃ b, x = .bool b) ∨ ∃ s, x = .str s := by
  induction ks with
  | nil => intro cs h j x hx; cases h; simp at hx
  | cons k ks ih =>
    intro cs h j x hx
    cases h with
    | int h => cases j with
      | zero => simp at hx; subst hx; exact .inl ⟨_, _, rfl⟩
      | succ j => exact ih h j x (by simpa using hx)
    | bool h => cases j with
      | zero => simp at hx; subst hx; exact .inr (.inl ⟨_, rfl⟩)
      | succ j => exact ih h j x (by simpa using hx)
    | str h => cases j with
      | zero => simp at hx; subst hx; exact .inr (.inr ⟨_, rfl⟩)
      | succ j => exact ih h j x (by simpa using hx)

theorem c0j {w : World} {I : Imm} {ν : Nu} {kd : KD} {x : AV} {v : Value} (hx : OKk kd x) (hv : VR w I ν x v) : KV kd x v := by
  cases hx with
  | int => rw [hv.int_inv]; exact .int
  | bool => rw [hv.bool_inv]; exact .bool
  | str => rw [hv.str_inv]; exact .str
  | agg hx =>
    obtain ⟨vs, rfl, hl, h⟩ := a8a hv
    refine .agg hx hl fun w' I' j x v h1 h2 => ?_
    have h3 := h j x v h1 h2
    rcases hx.get j x h1 with ⟨k, n, rfl⟩ | ⟨b, rfl⟩ | ⟨s, rfl⟩
    · rw [h3.int_inv]; exact .pure (.int _ _)
    · rw [h3.bool_inv]; exact .pure (.bool _)
    · rw [h3.str_inv]; exact .pure (.str _)
theorem KV.ok {kd : KD} {x : AV} {v : Value} (h : KV kd x v) : OKk kd x := by
  cases h with
  | int => exact .int
  | bool => exact .bool
  | str => exact .str
  | agg h _ _ => exact .agg h
theorem KV.vr {kd : KD} {x : AV} {v : Value} (h : KV kd x v) (w : World) (I : Imm) : VR w I nu0 x v := by
  cases h with
  | int => exact .pure (.int _ _)
  | bool => exact .pure (.bool _)
  | str => exact .pure (.str _)
  | agg h hl hx => exact .agg _ _ hl (hx w I)
theorem KV.det {kd : KD} {x : AV} {v u : Value} (h : KV kd x v) (k : KV kd x u) : v = u := by
  cases h with
  | int => cases k; rfl
  | bool => cases k; rfl
  | str => cases k; rfl
  | @agg ks cs vs h hl hx =>
    cases k with
    | @agg _ _ us _ hl' hx' =>
      have : vs = us := by
        apply List.ext_getElem?
        intro j
        rcases Nat.lt_or_ge j cs.length with hj | hj
        · have e1 := List.getElem?_eq_getElem hj
          have e2 : vs[j]? = some vs[j] := List.getElem?_eq_getElem (by omega)
          have e3 : us[j]? = some us[j] := List.getElem?_eq_getElem (by omega)
          have p := hx default (fun _ _ => False) j _ _ e1 e2
          have q := hx' default (fun _ _ => False) j _ _ e1 e3
          rw [e2, e3]
          rcases h.get j _ e1 with ⟨k, n, e⟩ | ⟨b, e⟩ | ⟨s, e⟩ <;> rw [e] at p q
          · rw [p.int_inv, q.int_inv]
          · rw [p.bool_inv, q.bool_inv]
          · rw [p.str_inv, q.str_inv]
        · rw [List.getElem?_eq_none (by omega), List.getElem?_eq_none (by omega)]
      rw [this]
theorem KV.bits {kd : KD} {x : AV} {v : Value} (h : KV kd x v) : Instr.sameBits 10000 v v = true := by
  cases h with
  | int => simp [Instr.sameBits]
  | bool => simp [Instr.sameBits]
  | str => simp only [Instr.sameBits]; rw [MapKept.bytes_beq]
  | @agg ks cs vs h hl hx =>
    simp only [Instr.sameBits, beq_self_eq_true, Bool.true_and, List.toList_toArray, List.all_eq_true]
    rintro ⟨p, q⟩ hpq
    obtain ⟨j, hj⟩ := List.mem_iff_getElem?.1 hpq
    rw [List.getElem?_zip_eq_some] at hj
    obtain ⟨h1, h2⟩ := hj
    rw [h1] at h2
    injection h2 with h2
    simp only at h2
    subst h2
    have hlt : j < cs.length := by rw [hl]; exact (List.getElem?_eq_some_iff.1 h1).1
    have e1 := List.getElem?_eq_getElem hlt
    have p := hx default (fun _ _ => False) j _ _ e1 h1
    rcases h.get j _ e1 with ⟨k, n, e⟩ | ⟨b, e⟩ | ⟨s, e⟩ <;> rw [e] at p
    · have p := p.int_inv; simp only at p; subst p; simp [Instr.sameBits]
    · have p := p.bool_inv; simp only at p; subst p; simp [Instr.sameBits]
    · have p := p.str_inv; simp only at p; subst p; simp only [Instr.sameBits]; rw [MapKept.bytes_beq]

theorem c1g {P : Program} {w : World} {em : Bool} {i m : Nat} {fs : List Field} {ks : List SK} (h : EqF P i fs ks) : ∀ {cs : List AV} {xs : List Value}, OfK ks cs →
    (∀ (j : Nat) x, cs[j]? = some x → ∃ v, xs[i + j]? = some v ∧ VR w (fun _ _ => False) nu0 x v) →
    (forIn fs PUnit.unit fun f _ => (do if f.name ≠ "_" then Instr.checkKey em (m + 1) f.type (← part f.type xs.toArray f.offset)
                                        pure (ForInStep.yield PUnit.unit) : Sem (ForInStep PUnit))).run P w = .ok PUnit.unit w := by
  have one : ∀ {f : Field} {fs : List Field} {dd : TypeDesc} {v : Value} {xs : List Value}, (f.name == "_") = false → P.underlying f.type = some dd → aggD dd = false → xs[f.offset]? = some v → MapKept.IsKey dd v →
      (forIn fs PUnit.unit fun f _ => (do if f.name ≠ "_" then Instr.checkKey em (m + 1) f.type (← part f.type xs.toArray f.offset)
                                          pure (ForInStep.yield PUnit.unit) : Sem (ForInStep PUnit))).run P w = .ok PUnit.unit w →
      (forIn (f :: fs) PUnit.unit fun f _ => (do if f.name ≠ "_" then Instr.checkKey em (m + 1) f.type (← part f.type xs.toArray f.offset)
                                                 pure (ForInStep.yield PUnit.unit) : Sem (ForInStep PUnit))).run P w = .ok PUnit.unit w := by
    intro f fs dd v xs hn hu hg hv hk hr
    have hn' : f.name ≠ "_" := by simpa using hn
    have hp : (part f.type xs.toArray f.offset).run P w = .ok v w := by
      have hi : (isAgg f.type).run P w = .ok false w := a3o hu hg w
      simp only [part, Sem.run_bind, hi, Result.andThen_ok, Bool.false_eq_true, if_false]
      simp [hv]
    rw [List.forIn_cons]
    simp only [hn', ne_eq, not_false_eq_true, if_true, Sem.run_bind, hp, Result.andThen_ok, MapKept.run_checkKey hu hk em m, Sem.run_pure]
    exact hr
  induction h with
  | nil => intro cs xs hc _; simp
  | @int i f fs ks k hn ho ht h ih =>
    intro cs xs hc h1
    cases hc with
    | int hc =>
    obtain ⟨v, p1, p2⟩ := h1 0 _ rfl
    have p3 := p2.int_inv
    subst p3; subst ho
    exact one (v := .int k _) hn ht rfl (by simpa using p1) (by simp [MapKept.IsKey]) (ih hc fun j x hj => by
      have := h1 (j + 1) x (by simpa using hj); rwa [show f.offset + (j + 1) = f.offset + 1 + j by omega] at this)
  | @bool i f fs ks hn ho ht h ih =>
    intro cs xs hc h1
    cases hc with
    | bool hc =>
    obtain ⟨v, p1, p2⟩ := h1 0 _ rfl
    have p3 := p2.bool_inv
    subst p3; subst ho
    exact one (v := .bool _) hn ht rfl (by simpa using p1) (by simp [MapKept.IsKey]) (ih hc fun j x hj => by
      have := h1 (j + 1) x (by simpa using hj); rwa [show f.offset + (j + 1) = f.offset + 1 + j by omega] at this)
  | @str i f fs ks hn ho ht h ih =>
    intro cs xs hc h1
    cases hc with
    | str hc =>
    obtain ⟨v, p1, p2⟩ := h1 0 _ rfl
    have p3 := p2.str_inv
    subst p3; subst ho
    exact one (v := .string _) hn ht rfl (by simpa using p1) (by simp [MapKept.IsKey]) (ih hc fun j x hj => by
      have := h1 (j + 1) x (by simpa using hj); rwa [show f.offset + (j + 1) = f.offset + 1 + j by omega] at this)

theorem a9t {P : Program} {t : Nat} {kd : KD} [h : KK P t kd] {x : AV} {v : Value} (hv : KV kd x v) (em : Bool) (w : World) : (Instr.checkKey em 10000 t v).run P w = .ok () w := by
  have ho := h.out
  cases hv with
  | int => exact MapKept.run_checkKey ho (by simp [MapKept.IsKey]) em 9999
  | bool => exact MapKept.run_checkKey ho (by simp [MapKept.IsKey]) em 9999
  | str => exact MapKept.run_checkKey ho (by simp [MapKept.IsKey]) em 9999
  | @agg ks cs vs hc hl hx =>
    have ho : EQ P t ks := ho
    obtain ⟨fs, hu, he⟩ := ho.out
    rw [show (10000 : Nat) = 9999 + 1 from rfl, Instr.checkKey]
    simp only [Sem.run_bind, run_underlying hu, Result.andThen_ok]
    rw [← Array.forIn_toList]
    have := c1g (w := w) (em := em) (m := 9998) he (xs := vs) hc fun j x hj => by
      have hlt : j < vs.length := by rw [← hl]; exact (List.getElem?_eq_some_iff.1 hj).1
      exact ⟨_, by rw [Nat.zero_add]; exact List.getElem?_eq_getElem hlt, hx w _ j x _ hj (List.getElem?_eq_getElem hlt)⟩
    simp at this ⊢
    rw [this]
    rfl

def mfind (x : AV) : List (AV × AV) → Nat → Option Nat
  | [], _ => none
  | p :: r, i => if keq x p.1 = true then some i else mfind x r (i + 1)
def mget (x : AV) : List (AV × AV) → Option AV
  | [] => none
  | p :: r => if keq x p.1 = true then some p.2 else mget x r
def mset (x y : AV) : List (AV × AV) → List (AV × AV)
  | [] => [(x, y)]
  | p :: r => if keq x p.1 = true then (p.1, y) :: r else p :: mset x y r
theorem a9l (x : AV) : ∀ (es : List (AV × AV)) (i : Nat), (match mfind x es i with
    | none => mget x es = none ∧ ∀ y, mset x y es = es ++ [(x, y)]
    | some j => ∃ k p, j = i + k ∧ es[k]? = some p ∧ keq x p.1 = true ∧ mget x es = some p.2 ∧ ∀ y, mset x y es = es.set k (p.1, y)) := by
  intro es
  induction es with
  | nil => intro i; exact ⟨rfl, fun y => rfl⟩
  | cons p r ih =>
    intro i
    unfold mfind mget
    by_cases h : keq x p.1 = true
    · rw [if_pos h]
      simp only []
      exact ⟨0, p, rfl, rfl, h, by rw [if_pos h], fun y => by simp [mset, h]⟩
    · rw [if_neg h]
      have := ih (i + 1)
      split at this
      · rename_i e
        exact ⟨by rw [if_neg h]; exact this.1, fun y => by simp [mset, h, this.2 y]⟩
      · rename_i j e
        obtain ⟨k, q, h1, h2, h3, h4, h5⟩ := this
        exact ⟨k + 1, q, by omega, by simpa using h2, h3, by rw [if_neg h]; exact h4, fun y => by simp [mset, h, h5 y]⟩

theorem a8o {P : Program} {t : Nat} {kd : KD} [h : KK P t kd] {w0 : World} {I : Imm} {x : AV} {v : Value} (hv : KV kd x v) (w : World) {es : List (AV × AV)} {en : List MapEntry} (hr : MapRel w0 I es en) (hk : ∀ p ∈ es, OKk kd p.1) :
    (match mfind x es 0 with
    | none => (Instr.findKey t v en).run P w = .ok none w
    | some i => ∃ p e, es[i]? = some p ∧ en[i]? = some e ∧ keq x p.1 = true ∧ (Instr.findKey t v en).run P w = .ok (some (i, e.val)) w) := by
  have ho := h.out
  have rel : ∀ (i : Nat) p e, es[i]? = some p → en[i]? = some e → KV kd p.1 e.key := fun i p e h1 h2 => c0j (hk p (List.mem_of_getElem? h1)) (hr.2 i p e h1 h2).1
  have hlen := hr.1
  have scal : ∀ (dd : TypeDesc), P.underlying t = some dd → (∀ y u, KV kd y u → Instr.sameNow dd v u = some (keq x y)) → (match mfind x es 0 with
    | none => (Instr.findKey t v en).run P w = .ok none w
    | some i => ∃ p e, es[i]? = some p ∧ en[i]? = some e ∧ keq x p.1 = true ∧ (Instr.findKey t v en).run P w = .ok (some (i, e.val)) w) := by
    intro dd hu hs
    have key : ∀ (es : List (AV × AV)) (en : List MapEntry) (i : Nat), es.length = en.length → (∀ (i : Nat) p e, es[i]? = some p → en[i]? = some e → KV kd p.1 e.key) → (match mfind x es i with
        | none => Instr.findNow dd v en i = some none
        | some j => ∃ k p e, j = i + k ∧ es[k]? = some p ∧ en[k]? = some e ∧ keq x p.1 = true ∧ Instr.findNow dd v en i = some (some (j, e.val))) := by
      intro es
      induction es with
      | nil => intro en i hl _; cases en with
        | nil => rfl
        | cons e en => simp at hl
      | cons p r ih =>
        intro en i hl hr
        cases en with
        | nil => simp at hl
        | cons e en =>
          have h1 := hs _ _ (hr 0 p e rfl rfl)
          unfold mfind
          by_cases hq : keq x p.1 = true
          · rw [if_pos hq]
            rw [hq] at h1
            exact ⟨0, p, e, rfl, rfl, rfl, hq, by simp [Instr.findNow, h1]⟩
          · rw [if_neg hq]
            have hq' : keq x p.1 = false := by simpa using hq
            rw [hq'] at h1
            have := ih en (i + 1) (by simpa using hl) (fun i p e a b => hr (i + 1) p e (by simpa using a) (by simpa using b))
            split at this
            · rename_i e1
              simpa [Instr.findNow, h1] using this
            · rename_i j e1
              obtain ⟨k, q, e2, a1, a2, a3, a4, a5⟩ := this
              exact ⟨k + 1, q, e2, by omega, by simpa using a2, by simpa using a3, a4, by simpa [Instr.findNow, h1] using a5⟩
    have := key es en 0 hlen rel
    split at this
    · rename_i e1
      exact MapKept.run_findKey hu this
    · rename_i j e1
      obtain ⟨k, p, e, a1, a2, a3, a4, a5⟩ := this
      rw [Nat.zero_add] at a1
      subst a1
      exact ⟨p, e, a2, a3, a4, MapKept.run_findKey hu a5⟩
  cases hv with
  | @int k n => exact scal _ ho fun y u hy => by cases hy; simp [Instr.sameNow, keq]; rw [Bool.eq_iff_iff]; simp
  | @bool b => exact scal _ ho fun y u hy => by cases hy; simp [Instr.sameNow, keq]; rw [Bool.eq_iff_iff]; simp
  | @str s => exact scal _ ho fun y u hy => by cases hy; simp only [Instr.sameNow, keq, Option.some.injEq]; rw [Bool.eq_iff_iff, MapKept.bytes_beq]; simp
  | @agg ks cs vs hc hl hx =>
    have ho : EQ P t ks := ho
    obtain ⟨fs, hu, he⟩ := ho.out
    have key : ∀ (es : List (AV × AV)) (en : List MapEntry) (i : Nat), es.length = en.length → (∀ (i : Nat) p e, es[i]? = some p → en[i]? = some e → KV (.agg ks) p.1 e.key) → (match mfind (.agg cs) es i with
        | none => (Instr.findAsking t (.agg vs.toArray) en i).run P w = .ok none w
        | some j => ∃ k p e, j = i + k ∧ es[k]? = some p ∧ en[k]? = some e ∧ keq (.agg cs) p.1 = true ∧ (Instr.findAsking t (.agg vs.toArray) en i).run P w = .ok (some (j, e.val)) w) := by
      intro es
      induction es with
      | nil => intro en i hl _; cases en with
        | nil => simp [mfind, Instr.findAsking]
        | cons e en => simp at hl
      | cons p r ih =>
        intro en i hl' hr
        cases en with
        | nil => simp at hl'
        | cons e en =>
          have hkv := hr 0 p e rfl rfl
          obtain ⟨p1, p2⟩ := p
          obtain ⟨ek, ev, eb⟩ := e
          simp only at hkv
          cases hkv with
          | @agg _ ds us hd hdl hdx =>
          have h1 : (Op.equal t (.agg vs.toArray) (.agg us.toArray)).run P w = .ok (eqC cs ds) w := ho.run (w := w) (w0 := w) (I := fun _ _ => False) (ν := nu0) hc hd hl hdl (hx w _) (hdx w _)
          unfold mfind
          by_cases hq : keq (.agg cs) (.agg ds) = true
          · rw [if_pos hq]
            have hq2 : eqC cs ds = true := hq
            rw [hq2] at h1
            exact ⟨0, _, _, rfl, rfl, rfl, hq, by simp [Instr.findAsking, h1]⟩
          · rw [if_neg hq]
            have hq' : eqC cs ds = false := by simpa [keq] using hq
            rw [hq'] at h1
            have := ih en (i + 1) (by simpa using hl') (fun i p e a b => hr (i + 1) p e (by simpa using a) (by simpa using b))
            split at this
            · rename_i e1
              simpa [Instr.findAsking, h1] using this
            · rename_i j e1
              obtain ⟨k, q, e2, a1, a2, a3, a4, a5⟩ := this
              exact ⟨k + 1, q, e2, by omega, by simpa using a2, by simpa using a3, a4, by simpa [Instr.findAsking, h1] using a5⟩
    have hfk : (Instr.findKey t (.agg vs.toArray) en).run P w = (Instr.findAsking t (.agg vs.toArray) en).run P w := run_findKey_eq w (by simp [hu]) _ _
    have := key es en 0 hlen rel
    rw [hfk]
    split at this
    · rename_i e1
      exact this
    · rename_i j e1
      obtain ⟨k, p, e, a1, a2, a3, a4, a5⟩ := this
      rw [Nat.zero_add] at a1
      subst a1
      exact ⟨p, e, a2, a3, a4, a5⟩
end Go.Proofs.YtkljmljkiodnpaaGreatDoor.L

namespace Go.Proofs.YtkljmljkiodnpaaGreatDoor.L
open Go Go.RowKit

section
variable {E : Env} {N : Nat} {ops : Array Oper} {Q : Exit → St → Prop} {sl : Slots} {H H' : List AO} {rest : List Oper} {I : Imm} {ν : Nu} {w : World}

theorem c7n {id : Nat} {v : Value} (h : VR w I ν (.mp id) v) : ∃ r, v = .map (some r) ∧ id < ν.n ∧ ν.val id 0 = .map (some r) := by
  cases h with
  | pure h => cases h
  | mp _ r hi hs => exact ⟨r, rfl, hi, hs⟩
theorem b1z (hh : HR E I ν H w) {id : Nat} {es : List (AV × AV)} {fl : Bool} (hH : H[id]? = some (.map es fl)) {v : Value} (h : VR w I ν (.mp id) v) : ∃ b en ck, v = .map (some b) ∧ E.base ≤ b ∧ w.heap[b]? = some (.map (List.toArray en) ck) ∧ MapRel w I es en ∧ OB ν id (.map es fl) b ∧ ν.val id 0 = .map (some b) ∧ (fl = false → ck = en.length ∧ BornRel en) := by
  obtain ⟨r, rfl, _, hs⟩ := c7n h
  cases hh.obj id _ hH with
  | map _ _ b en ck hv hb hhp hr hbn =>
    rw [hs] at hv
    injection hv with hv; injection hv with hv
    subst hv
    exact ⟨r, en, ck, rfl, hb, hhp, hr, by simp only [OB, OB1, hs], hs, hbn⟩

theorem map_set (hh : HR E I ν H w) {id b : Nat} {es es' : List (AV × AV)} {fl : Bool} {en en' : List MapEntry} {ck ck' : Nat} (hH : H[id]? = some (.map es fl)) (hb : E.base ≤ b) (hv : ν.val id 0 = .map (some b)) (hhp : w.heap[b]? = some (.map en.toArray ck)) (hr : MapRel w I es' en') (hbn : fl = false → ck' = en'.length ∧ BornRel en') :
    HR E I ν (H.set id (.map es' fl)) { w with heap := w.heap.setIfInBounds b (.map en'.toArray ck') } ∧ FR E.k w I ν H { w with heap := w.heap.setIfInBounds b (.map en'.toArray ck') } I ν (H.set id (.map es' fl)) := by
  have h2 := MapKept.heap_set (o' := .map en'.toArray ck') hhp
  have hlt : b < w.heap.size := (Array.getElem?_eq_some_iff.1 hhp).1
  have hOB : OB ν id (.map es fl) b := by simp only [OB, OB1, hv]
  have hI : ImmLe w I { w with heap := w.heap.setIfInBounds b (.map en'.toArray ck') } I := ImmLe.heap hh fun k hk ⟨o, ho⟩ => h2.2 k fun e => by
    subst e
    obtain ⟨u, hu⟩ := hh.imm k o ho
    simp [World.cell?, hhp] at hu
  refine hh.set hH (fun e => by cases e) (Nu.le.refl ν) rfl (fun _ _ => rfl) (hh.below.trans ⟨rfl, rfl, rfl, by simp, fun k hk => h2.2 k (by omega)⟩) (by simp) (fun k _ hk => h2.2 k (fun e => hk (by rw [e]; exact hOB))) hI
    (.map es' fl b en' ck' hv hb h2.1 (hr.mono hI) hbn) (fun b' h => .inl (by simpa only [OB, OB1, hv] using h))

theorem b8h {x : AV} {v : Value} (h : VR w I ν x v) (hc : clB 0 x = true) : VR w I nu0 x v := h.cut (k := 0) ⟨Nat.zero_le _, fun _ h => by omega, fun _ _ h => by omega⟩ hc

theorem a7y {t : Nat} {m : Nat} {ty : TypeId} {pos : String} {after : Array Edge} {d : Nat} (hm : H.length = m) (hH : Snoc H (.map []) H') (hd : Nat.blt d N = true)
    (h : AL E N ops Q rest ⟨(d, .mp m) :: sl, H'⟩) : AL E N ops Q (⟨some d, .makeMap t none, ty, pos, after, none⟩ :: rest) ⟨sl, H⟩ := by
  subst hm
  rw [hH.eq] at h
  refine a6c hd (fun I ν a w hh hs => ?_) h
  have := hh.push (o := .map [] false) (t := 0) (f := fun _ => .map (some w.heap.size)) (w' := w.alloc (.map #[] 0)) (hh.below.alloc hh.base _) (by simp) (fun k hk => Below.heap_alloc w _ k hk)
    (.map [] _ w.heap.size [] 0 (by simp [Nu.add]) hh.base (a5b w _) ⟨rfl, fun i p x h => by simp at h⟩ fun _ => ⟨rfl, fun i x h => by simp at h⟩) (fun b hb => by simp [OB, OB1, Nu.add] at hb; omega)
  refine ⟨_, _, _, fun o ho => ?_, this.1, this.2.1, ν.add_le _ _, .mp _ w.heap.size (by simp [Nu.add, hh.n]) (by simp [Nu.add, hh.n])⟩
  have hr : (Instr.makeMap t none).run E.P w = .ok (.map (some w.heap.size)) (w.alloc (.map #[] 0)) := rfl
  simp [execOp, ho, hr]

theorem a8j {t kt et : Nat} {n b : Nat} {z : Value} {kd : KD} [tm : TI E.P t (.map kt et) n b z] [kk : KK E.P kt kd] {m x y : Operand} {id : Nat} {es es' : List (AV × AV)} {fl : Bool} {xv yv : AV} {ty : TypeId} {pos : String} {after : Array Edge}
    (hm : ev sl m = some (.mp id)) (hx : ev sl x = some xv) (hy : ev sl y = some yv) (hU : Upd id H (.map es fl) (.map es' fl) H') (hxo : OKk kd xv) (hyc : clB 0 yv = true) (hk : ∀ p ∈ es, OKk kd p.1) (he : mset xv yv es = es')
    (h : AL E N ops Q rest ⟨sl, H'⟩) : AL E N ops Q (⟨none, .mapUpdate t m x y, ty, pos, after, none⟩ :: rest) ⟨sl, H⟩ := by
  subst he
  obtain ⟨hid, hset⟩ := hU.eq
  subst hset
  refine b2j (fun I ν a w hh hs => ?_) h
  have hm' := a2q hs hm
  obtain ⟨mv, hmv⟩ : ∃ v, a.eval m = v := ⟨_, rfl⟩
  rw [hmv] at hm'
  obtain ⟨bk, en, ck, rfl, hb, hhp, hr, hob, hval, hbn⟩ := b1z hh hid hm'
  have hxv := c0j hxo (a2q hs hx)
  have hyv := b8h (a2q hs hy) hyc
  have hf := a8o (P := E.P) (t := kt) hxv w hr hk
  have hg := a9l xv es 0
  have hck := a9t (P := E.P) (t := kt) hxv false w
  cases hfi : mfind xv es 0 with
  | none =>
    rw [hfi] at hf hg
    simp only at hf hg
    have hnew : MapRel w I (mset xv yv es) (en ++ [(⟨a.eval x, a.eval y, ck⟩ : MapEntry)]) := by
      rw [hg.2 yv]
      refine ⟨by simp [hr.1], fun i p e h1 h2 => ?_⟩
      rcases Nat.lt_or_ge i es.length with hi | hi
      · rw [List.getElem?_append_left hi] at h1
        rw [List.getElem?_append_left (by rw [← hr.1]; exact hi)] at h2
        exact hr.2 i p e h1 h2
      · have h3 : i = es.length := by
          have := (List.getElem?_eq_some_iff.1 h1).1
          simp at this
          omega
        subst h3
        rw [List.getElem?_append_right (Nat.le_refl _), Nat.sub_self] at h1
        rw [List.getElem?_append_right (by rw [hr.1]; exact Nat.le_refl _), hr.1, Nat.sub_self] at h2
        simp at h1 h2
        subst h1; subst h2
        exact ⟨hxv.vr w I, hyv⟩
    have := map_set (ck' := ck + 1) hh hid hb hval hhp hnew (fun h => by
      obtain ⟨h1, h2⟩ := hbn h
      refine ⟨by simp [h1], fun i x hx => ?_⟩
      rcases Nat.lt_or_ge i en.length with hi | hi
      · rw [List.getElem?_append_left hi] at hx
        exact h2 i x hx
      · have h3 : i = en.length := by
          have := (List.getElem?_eq_some_iff.1 hx).1
          simp at this
          omega
        subst h3
        rw [List.getElem?_append_right (Nat.le_refl _), Nat.sub_self] at hx
        simp at hx
        subst hx
        exact h1)
    refine ⟨_, ν, fun o ho => ?_, this.1, this.2, Nu.le.refl ν⟩
    have hrun : (Instr.mapUpdate t (.map (some bk)) (a.eval x) (a.eval y)).run E.P w = .ok () { w with heap := w.heap.setIfInBounds bk (.map (en ++ [(⟨a.eval x, a.eval y, ck⟩ : MapEntry)]).toArray (ck + 1)) } := by
      unfold Instr.mapUpdate
      simp only [Sem.run_bind, tm.und, Result.andThen_ok, MapKept.run_getObj_map hhp, hck, List.toList_toArray, hf]
      rw [MapKept.run_setObj_map _ hhp]
      simp
    simp [execOp, ho, hmv, hrun]
  | some i =>
    rw [hfi] at hf hg
    simp only at hf hg
    obtain ⟨p, e, p1, p2, p3, p4⟩ := hf
    obtain ⟨k, q, q1, q2, q3, q4, q5⟩ := hg
    rw [Nat.zero_add] at q1
    subst q1
    rw [p1] at q2
    injection q2 with q2
    subst q2
    have hpo := hk p (List.mem_of_getElem? p1)
    have hxe := c7o hxo hpo p3
    have hke : a.eval x = e.key := hxv.det (by rw [hxe]; exact c0j hpo (hr.2 i p e p1 p2).1)
    have hnew : MapRel w I (mset xv yv es) (en.set i (⟨a.eval x, a.eval y, e.born⟩ : MapEntry)) := by
      rw [q5 yv]
      refine ⟨by simp [hr.1], fun j p' e' h1 h2 => ?_⟩
      by_cases hj : j = i
      · subst hj
        rw [List.getElem?_set_self (List.getElem?_eq_some_iff.1 p1).1] at h1
        rw [List.getElem?_set_self (List.getElem?_eq_some_iff.1 p2).1] at h2
        simp at h1 h2
        subst h1; subst h2
        exact ⟨by rw [hke]; exact (hr.2 j p e p1 p2).1, hyv⟩
      · rw [List.getElem?_set_ne (Ne.symm hj)] at h1 h2
        exact hr.2 j p' e' h1 h2
    have := map_set (ck' := ck) hh hid hb hval hhp hnew (fun h => by
      obtain ⟨h1, h2⟩ := hbn h
      refine ⟨by simp [h1], fun j x hx => ?_⟩
      by_cases hj : j = i
      · subst hj
        rw [List.getElem?_set_self (List.getElem?_eq_some_iff.1 p2).1] at hx
        simp at hx
        subst hx
        exact h2 j e p2
      · rw [List.getElem?_set_ne (Ne.symm hj)] at hx
        exact h2 j x hx)
    refine ⟨_, ν, fun o ho => ?_, this.1, this.2, Nu.le.refl ν⟩
    have hrun : (Instr.mapUpdate t (.map (some bk)) (a.eval x) (a.eval y)).run E.P w = .ok () { w with heap := w.heap.setIfInBounds bk (.map (en.set i (⟨a.eval x, a.eval y, e.born⟩ : MapEntry)).toArray ck) } := by
      have hst : (Instr.keyThatStays e.key (a.eval x)).run E.P w = .ok (a.eval x) w := by
        unfold Instr.keyThatStays
        rw [hke, (by rw [← hke]; exact hxv.bits : Instr.sameBits 10000 e.key e.key = true)]
        simp
      have hmod : en.toArray.modify i (fun q => { q with key := a.eval x, val := a.eval y }) = (en.set i (⟨a.eval x, a.eval y, e.born⟩ : MapEntry)).toArray := by
        apply Array.ext'
        simp only [Array.toList_modify, List.toList_toArray]
        rw [List.modify_eq_set]
        simp [p2]
      unfold Instr.mapUpdate
      simp only [Sem.run_bind, tm.und, Result.andThen_ok, MapKept.run_getObj_map hhp, hck, List.toList_toArray, p4]
      have hg : (((en.toArray[i]?).map (·.key)).getD (a.eval x)) = e.key := by simp [p2]
      rw [hg, hst]
      simp only [Result.andThen_ok]
      rw [MapKept.run_setObj_map _ hhp, hmod]
    simp [execOp, ho, hmv, hrun]

theorem b3h {t kt et : Nat} {n b : Nat} {z : Value} {kd : KD} [tm : TI E.P t (.map kt et) n b z] [kk : KK E.P kt kd] {m x : Operand} {id : Nat} {es : List (AV × AV)} {fl : Bool} {xv yv : AV}
    (hm : ev sl m = some (.mp id)) (hx : ev sl x = some xv) (hH : H[id]? = some (.map es fl)) (hxo : OKk kd xv) (hk : ∀ p ∈ es, OKk kd p.1) (hg : mget xv es = some yv) : OV E sl H (.lookup t m x true) (.tup [yv, .bool true]) ∧ OV E sl H (.lookup t m x false) yv := by
  have key : ∀ c : Bool, ∀ I ν a w, HR E I ν H w → SlR w I ν sl a → ∃ v, VR w I nu0 yv v ∧ ∀ (o : Oper) w', o.op = .lookup t m x c → Still ν H I w w' → (execOp a.eval o).run E.P w' = .ok (.value (if c then .tuple #[v, .bool true] else v)) w' := by
    intro c I ν a w hh hs
    have hm' := a2q hs hm
    obtain ⟨mv, hmv⟩ : ∃ v, a.eval m = v := ⟨_, rfl⟩
    rw [hmv] at hm'
    obtain ⟨bk, en, ck, rfl, hb, hhp, hr, hob, hval, hbn⟩ := b1z hh hH hm'
    have hxv := c0j hxo (a2q hs hx)
    have hg' := a9l xv es 0
    cases hfi : mfind xv es 0 with
    | none =>
      rw [hfi] at hg'
      simp only at hg'
      rw [hg'.1] at hg
      cases hg
    | some i =>
      have hf := a8o (P := E.P) (t := kt) hxv w hr hk
      rw [hfi] at hg' hf
      simp only at hg' hf
      obtain ⟨p, e, p1, p2, p3, _⟩ := hf
      obtain ⟨k, q, q1, q2, q3, q4, q5⟩ := hg'
      rw [Nat.zero_add] at q1
      subst q1
      rw [p1] at q2
      injection q2 with q2
      subst q2
      rw [hg] at q4
      injection q4 with q4
      subst q4
      refine ⟨e.val, (hr.2 i p e p1 p2).2, fun o w' ho hbel => ?_⟩
      have hhp' : w'.heap[bk]? = some (.map en.toArray ck) := (hbel.obj id _ bk hH hob).trans hhp
      have hf' := a8o (P := E.P) (t := kt) hxv w' hr hk
      rw [hfi] at hf'
      simp only at hf'
      obtain ⟨p', e', r1, r2, _, r4⟩ := hf'
      rw [p2] at r2
      injection r2 with r2
      subst r2
      have hrun : (Instr.lookup t (.map (some bk)) (a.eval x) c).run E.P w' = .ok (if c then .tuple #[e.val, .bool true] else e.val) w' := by
        unfold Instr.lookup
        simp only [Sem.run_bind, tm.und, Result.andThen_ok, MapKept.run_getObj_map hhp', Sem.run_pure, a9t (P := E.P) (t := kt) hxv _ w', List.toList_toArray, r4]
      simp [execOp, ho, hmv, hrun]
  refine ⟨fun I ν a w hh hs => ?_, fun I ν a w hh hs => ?_⟩
  · obtain ⟨v, hv, hr⟩ := key true I ν a w hh hs
    refine ⟨_, .tup [yv, .bool true] [v, .bool true] rfl (fun j x u h1 h2 => ?_), fun o w' ho hb => by simpa using hr o w' ho hb⟩
    match j, h1, h2 with
    | 0, h1, h2 => simp at h1 h2; subst h1; subst h2; exact hv.mono (ImmLe.refl _ _) (b0x ν)
    | 1, h1, h2 => simp at h1 h2; subst h1; subst h2; exact .pure (.bool _)
  · obtain ⟨v, hv, hr⟩ := key false I ν a w hh hs
    exact ⟨v, hv.mono (ImmLe.refl _ _) (b0x ν), fun o w' ho hb => by simpa using hr o w' ho hb⟩

theorem a8g {t kt et : Nat} {n b n' b' : Nat} {z z' : Value} {dd : Bool} {kd : KD} [tm : TI E.P t (.map kt et) n b z] [kk : KK E.P kt kd] [te : TZ E.P et dd n' b' z'] {m x : Operand} {id : Nat} {es : List (AV × AV)} {fl : Bool} {xv zv : AV}
    (hm : ev sl m = some (.mp id)) (hx : ev sl x = some xv) (hH : H[id]? = some (.map es fl)) (hxo : OKk kd xv) (hk : ∀ p ∈ es, OKk kd p.1) (hg : mget xv es = none) (hz : constAV z' = some zv) : OV E sl H (.lookup t m x true) (.tup [zv, .bool false]) ∧ OV E sl H (.lookup t m x false) zv := by
  have key : ∀ c : Bool, ∀ I ν a w, HR E I ν H w → SlR w I ν sl a → ∀ (o : Oper) w', o.op = .lookup t m x c → Still ν H I w w' → (execOp a.eval o).run E.P w' = .ok (.value (if c then .tuple #[z', .bool false] else z')) w' := by
    intro c I ν a w hh hs
    have hm' := a2q hs hm
    obtain ⟨mv, hmv⟩ : ∃ v, a.eval m = v := ⟨_, rfl⟩
    rw [hmv] at hm'
    obtain ⟨bk, en, ck, rfl, hb, hhp, hr, hob, hval, hbn⟩ := b1z hh hH hm'
    have hxv := c0j hxo (a2q hs hx)
    have hg' := a9l xv es 0
    cases hfi : mfind xv es 0 with
    | some i =>
      rw [hfi] at hg'
      simp only at hg'
      obtain ⟨k, q, q1, q2, q3, q4, q5⟩ := hg'
      rw [hg] at q4
      cases q4
    | none =>
      intro o w' ho hbel
      have hhp' : w'.heap[bk]? = some (.map en.toArray ck) := (hbel.obj id _ bk hH hob).trans hhp
      have hf' := a8o (P := E.P) (t := kt) hxv w' hr hk
      rw [hfi] at hf'
      simp only at hf'
      have hrun : (Instr.lookup t (.map (some bk)) (a.eval x) c).run E.P w' = .ok (if c then .tuple #[z', .bool false] else z') w' := by
        unfold Instr.lookup
        simp only [Sem.run_bind, tm.und, Result.andThen_ok, MapKept.run_getObj_map hhp', Sem.run_pure, a9t (P := E.P) (t := kt) hxv _ w', List.toList_toArray, hf', te.zero]
      simp [execOp, ho, hmv, hrun]
  refine ⟨fun I ν a w hh hs => ?_, fun I ν a w hh hs => ?_⟩
  · refine ⟨_, .tup [zv, .bool false] [z', .bool false] rfl (fun j x u h1 h2 => ?_), fun o w' ho hb => by simpa using key true I ν a w hh hs o w' ho hb⟩
    match j, h1, h2 with
    | 0, h1, h2 => simp at h1 h2; subst h1; subst h2; exact a5c hz
    | 1, h1, h2 => simp at h1 h2; subst h1; subst h2; exact .pure (.bool _)
  · exact ⟨_, a5c hz, fun o w' ho hb => by simpa using key false I ν a w hh hs o w' ho hb⟩

theorem a3f {t kt et : Nat} {n b : Nat} {z : Value} {kd : KD} [tm : TI E.P t (.map kt et) n b z] [kk : KK E.P kt kd] {m x : Operand} {id : Nat} {es : List (AV × AV)} {fl : Bool} {xv yv : AV}
    (hm : ev sl m = some (.mp id)) (hx : ev sl x = some xv) (hH : H[id]? = some (.map es fl)) (hxo : OKk kd xv) (hk : ∀ p ∈ es, OKk kd p.1) (hg : mget xv es = some yv) : OV E sl H (.lookup t m x true) (.tup [yv, .bool true]) := (b3h hm hx hH hxo hk hg).1
theorem a3a {t kt et : Nat} {n b : Nat} {z : Value} {kd : KD} [tm : TI E.P t (.map kt et) n b z] [kk : KK E.P kt kd] {m x : Operand} {id : Nat} {es : List (AV × AV)} {fl : Bool} {xv yv : AV}
    (hm : ev sl m = some (.mp id)) (hx : ev sl x = some xv) (hH : H[id]? = some (.map es fl)) (hxo : OKk kd xv) (hk : ∀ p ∈ es, OKk kd p.1) (hg : mget xv es = some yv) : OV E sl H (.lookup t m x false) yv := (b3h hm hx hH hxo hk hg).2
theorem b0v {t kt et : Nat} {n b n' b' : Nat} {z z' : Value} {dd : Bool} {kd : KD} [tm : TI E.P t (.map kt et) n b z] [kk : KK E.P kt kd] [te : TZ E.P et dd n' b' z'] {m x : Operand} {id : Nat} {es : List (AV × AV)} {fl : Bool} {xv zv : AV}
    (hm : ev sl m = some (.mp id)) (hx : ev sl x = some xv) (hH : H[id]? = some (.map es fl)) (hxo : OKk kd xv) (hk : ∀ p ∈ es, OKk kd p.1) (hg : mget xv es = none) (hz : constAV z' = some zv) : OV E sl H (.lookup t m x true) (.tup [zv, .bool false]) := (a8g hm hx hH hxo hk hg hz).1
theorem a5p {t kt et : Nat} {n b n' b' : Nat} {z z' : Value} {dd : Bool} {kd : KD} [tm : TI E.P t (.map kt et) n b z] [kk : KK E.P kt kd] [te : TZ E.P et dd n' b' z'] {m x : Operand} {id : Nat} {es : List (AV × AV)} {fl : Bool} {xv zv : AV}
    (hm : ev sl m = some (.mp id)) (hx : ev sl x = some xv) (hH : H[id]? = some (.map es fl)) (hxo : OKk kd xv) (hk : ∀ p ∈ es, OKk kd p.1) (hg : mget xv es = none) (hz : constAV z' = some zv) : OV E sl H (.lookup t m x false) zv := (a8g hm hx hH hxo hk hg hz).2
theorem c3w {t kt et : Nat} {n b : Nat} {z : Value} [tm : TI E.P t (.map kt et) n b z] {x : Operand} {id m : Nat} {es : List (AV × AV)} {ty : TypeId} {pos : String} {after : Array Edge} {d : Nat} (hx : ev sl x = some (.mp id)) (hH : H[id]? = some (.map es)) (hm : H.length = m) (hS : Snoc H (.iter id es.length []) H') (hd : Nat.blt d N = true)
    (h : AL E N ops Q rest ⟨(d, .op m 0) :: sl, H'⟩) : AL E N ops Q (⟨some d, .range t x, ty, pos, after, none⟩ :: rest) ⟨sl, H⟩ := by
  subst hm
  rw [hS.eq] at h
  refine a6c hd (fun I ν a w hh hs => ?_) h
  have hm' := a2q hs hx
  obtain ⟨mv, hmv⟩ : ∃ v, a.eval x = v := ⟨_, rfl⟩
  rw [hmv] at hm'
  obtain ⟨bk, en, ck, rfl, hb, hhp, hr, hob, hval, hbn⟩ := b1z hh hH hm'
  obtain ⟨rfl, hbr⟩ := hbn rfl
  have hid := hh.idlt hH
  have := hh.push (o := .iter id es.length []) (t := 0) (f := fun _ => .pointer (some ⟨w.heap.size, 0, none⟩)) (w' := w.alloc (.mapIter (some bk) en.length #[] en.length)) (hh.below.alloc hh.base _) (by simp) (fun k hk => Below.heap_alloc w _ k hk)
    (.iter id es.length [] w.heap.size bk (by simp [Nu.add]) hh.base (by simp only [Nu.add]; omega) (by simp only [Nu.add]; rw [if_neg (by omega)]; exact hval) (by rw [hr.1]; exact a5b w _) hid) (fun b hb => by simp [OB, OB1, Nu.add] at hb; omega)
  refine ⟨_, _, _, fun o ho => ?_, this.1, this.2.1, ν.add_le _ _, .op _ 0 w.heap.size (by simp [Nu.add, hh.n]) (by simp [Nu.add, hh.n])⟩
  have hrun := run_range_map (P := E.P) w t kt et bk en.toArray en.length tm.u hhp
  simp [execOp, ho, hmv, hrun]

def leftN (n : Nat) (seen : List Nat) : Nat := ((List.range n).filter fun i => !seen.contains i).length
theorem c3c {n i : Nat} {seen : List Nat} (hi : i < n) (hs : seen.contains i = false) : leftN n (seen ++ [i]) < leftN n seen := by
  unfold leftN
  have h1 : (List.range n).filter (fun j => !(seen ++ [i]).contains j) = ((List.range n).filter fun j => !seen.contains j).filter fun j => !(j == i) := by
    rw [List.filter_filter]
    congr 1
    funext j
    simp only [List.contains_append, Bool.not_or]
    rw [Bool.and_comm]
    congr 2
    rw [Bool.eq_iff_iff]
    simp
  rw [h1]
  have hm : i ∈ (List.range n).filter fun j => !seen.contains j := by simp [hi]; simpa using hs
  exact List.length_filter_lt_length_iff_exists.2 ⟨i, hm, by simp⟩

theorem b6v (hh : HR E I ν H w) {iid mid n : Nat} {seen : List Nat} {es : List (AV × AV)} (hI : H[iid]? = some (.iter mid n seen)) (hH : H[mid]? = some (.map es)) (hn : n = es.length) {v : Value} (h : VR w I ν (.op iid 0) v) :
    ∃ r b en, v = .pointer (some ⟨r, 0, none⟩) ∧ E.base ≤ r ∧ r ≠ b ∧ ν.val iid 0 = .pointer (some ⟨r, 0, none⟩) ∧ ν.val mid 0 = .map (some b) ∧ mid < ν.n ∧ mid < iid ∧ w.heap[r]? = some (.mapIter (some b) (List.length en) seen.toArray en.length) ∧ w.heap[b]? = some (.map en.toArray en.length) ∧ MapRel w I es en ∧ BornRel en := by
  cases h with
  | pure h => cases h
  | op _ _ r hi hs =>
    cases hh.obj iid _ hI with
    | iter _ _ _ r' b hv hb hm hmv hhp hlt =>
      rw [hs] at hv
      injection hv with hv; injection hv with hv; injection hv with hv
      subst hv
      cases hh.obj mid _ hH with
      | map _ _ b' en ck hv' hb' hhp' hr hbn =>
        obtain ⟨rfl, hbr⟩ := hbn rfl
        rw [hmv] at hv'
        injection hv' with hv'; injection hv' with hv'
        subst hv'
        rw [hn, hr.1] at hhp
        exact ⟨r, b, en, rfl, hb, (fun e => by rw [e, hhp'] at hhp; cases hhp), hs, hmv, hm, hlt, hhp, hhp', hr, hbr⟩

theorem c6n {it : Operand} {iid mid n : Nat} {seen : List Nat} {es : List (AV × AV)} {H' : Nat → List AO} {ty : TypeId} {pos : String} {after : Array Edge} {d : Nat} (hit : ev sl it = some (.op iid 0)) (hI : H[iid]? = some (.iter mid n seen)) (hH : H[mid]? = some (.map es)) (hn : n = es.length)
    (hU : ∀ i, Upd iid H (.iter mid n seen) (.iter mid n (seen ++ [i])) (H' i)) (hd : Nat.blt d N = true)
    (h0 : (∀ i, i < es.length → seen.contains i = true) → AL E N ops Q rest ⟨(d, .tup [.bool false]) :: sl, H⟩)
    (h1 : ∀ i p, es[i]? = some p → seen.contains i = false → AL E N ops Q rest ⟨(d, .tup [.bool true, p.1, p.2]) :: sl, H' i⟩) :
    AL E N ops Q (⟨some d, .next it false, ty, pos, after, none⟩ :: rest) ⟨sl, H⟩ := by
  intro I ν a w hs w0 I0 ν0 o0 hf0
  have hh := hs.hr
  have hit' := a2q hs.sl hit
  obtain ⟨iv, hiv⟩ : ∃ v, a.eval it = v := ⟨_, rfl⟩
  rw [hiv] at hit'
  obtain ⟨r, b, en, rfl, hb, hne, hval, hmv, hmn, hlt, hhr, hhb, hr, hbr⟩ := b6v hh hI hH hn hit'
  refine wpList_plain rfl fun K hK => ?_
  unfold Oper.wp
  have hborn : ∀ (i : Nat) e, en[i]? = some e → e.born = i := hbr
  rcases run_next_at (P := E.P) w ty r b en.length en.length seen.toArray en.toArray en.length hhr hhb (fun x hx => by
    obtain ⟨i, hi⟩ := List.mem_iff_getElem?.1 hx
    rw [hborn i x hi]
    exact (List.getElem?_eq_some_iff.1 hi).1) (Nat.le_refl _) with ⟨hz, hrun⟩ | ⟨e, he, w1, hw1, hrun⟩
  · have hall : ∀ i, i < es.length → seen.contains i = true := fun i hi => by
      have hi' : i < en.length := by rw [← hr.1]; exact hi
      have := all_seen en.toArray seen.toArray hz en[i] (by simp)
      rw [hborn i _ (List.getElem?_eq_getElem hi')] at this
      simpa using this
    have hx : (execOp a.eval ⟨some d, .next it false, ty, pos, after, none⟩).run E.P w = .ok (.value (.tuple #[.bool false])) w := by simp [execOp, hiv, hrun]
    rw [hx]
    exact hK _ _ (h0 hall I ν _ w ⟨hh, hs.sl.put d (.tup [.bool false] [.bool false] rfl (fun j x v h1 h2 => by
      cases j with
      | zero => simp at h1 h2; subst h1; subst h2; exact .pure (.bool _)
      | succ j => simp at h1)) (by rw [hs.nt]; simpa [Nat.blt_eq] using hd), hs.df, by simp [Act.put, hs.nt]⟩ w0 I0 ν0 o0 hf0)
  · obtain ⟨hem, hes⟩ := mem_left he
    obtain ⟨i, hi⟩ := List.mem_iff_getElem?.1 hem
    have hi : en[i]? = some e := by simpa using hi
    have hie := hborn i e hi
    have hilt : i < es.length := by rw [hr.1]; exact (List.getElem?_eq_some_iff.1 hi).1
    obtain ⟨p, hp⟩ : ∃ p, es[i]? = some p := ⟨_, List.getElem?_eq_getElem hilt⟩
    obtain ⟨hk, hv⟩ := hr.2 i p e hp hi
    obtain ⟨hid, hset⟩ := (hU i).eq
    have hwh : w1.heap = w.heap := by rcases hw1 with rfl | rfl <;> rfl
    have hb1 : Below w.heap.size w w1 := by
      rcases hw1 with rfl | rfl
      · exact Below.refl _ _
      · exact (Below.refl _ _).drew
    obtain ⟨w2, hw2⟩ : ∃ w2, w2 = ChangeMaps.setBlock w1 r (.mapIter (some b) en.length (seen.toArray.push e.born) en.length) := ⟨_, rfl⟩
    rw [← hw2] at hrun
    have hset2 := MapKept.heap_set (o' := .mapIter (some b) en.length (seen.toArray.push e.born) en.length) hhr
    have hh2 : w2.heap[r]? = some (.mapIter (some b) en.length (seen ++ [i]).toArray en.length) := by
      rw [hw2]
      show (w1.heap.setIfInBounds r _)[r]? = _
      rw [hwh, hset2.1, hie]
      simp
    have hfar : ∀ k, k ≠ r → w2.heap[k]? = w.heap[k]? := fun k hk => by
      rw [hw2]
      show (w1.heap.setIfInBounds r _)[k]? = _
      rw [hwh]
      exact hset2.2 k hk
    have hsz : w2.heap.size = w.heap.size := by
      rw [hw2]
      show (w1.heap.setIfInBounds r _).size = _
      rw [hwh]
      simp
    have hOB : OB ν iid (.iter mid n seen) r := by simp only [OB, OB1, hval]
    have hbel : Below E.base E.w0 w2 := by
      refine (hh.below.trans (hb1.mono hh.base)).trans ?_
      rw [hw2]
      exact ⟨rfl, rfl, rfl, by simp [ChangeMaps.setBlock], fun k hk => by
        show (w1.heap.setIfInBounds r _)[k]? = _
        simp [show r ≠ k by omega]⟩
    have hIm : ImmLe w I w2 I := ImmLe.heap hh fun k hk ⟨o, ho⟩ => hfar k fun e => by
      subst e
      obtain ⟨u, hu⟩ := hh.imm k o ho
      simp [World.cell?, hhr] at hu
    have hnew := hh.set (o' := .iter mid n (seen ++ [i])) (w' := w2) hI (fun e => by cases e) (Nu.le.refl ν) rfl (fun _ _ => rfl) hbel (by omega) (fun k _ hk => hfar k (fun e => hk (by rw [e]; exact hOB))) hIm
      (.iter mid n (seen ++ [i]) r b hval hb hmn hmv (by rw [hn, hr.1]; exact hh2) hlt) (fun b' h => .inl (by simpa only [OB, OB1, hval] using h))
    rw [← hset] at hnew
    have hx : (execOp a.eval ⟨some d, .next it false, ty, pos, after, none⟩).run E.P w = .ok (.value (.tuple #[.bool true, e.key, e.val])) w2 := by simp [execOp, hiv, hrun]
    rw [hx]
    refine hK _ _ (h1 i p hp (by rw [hie] at hes; simpa using hes) I ν _ w2 ⟨hnew.1, (hs.sl.mono hnew.2.imm (Nu.le.refl ν)).put d (.tup [.bool true, p.1, p.2] [.bool true, e.key, e.val] rfl (fun j x v h1 h2 => ?_)) (by rw [hs.nt]; simpa [Nat.blt_eq] using hd), hs.df, by simp [Act.put, hs.nt]⟩ w0 I0 ν0 o0 (hf0.trans hnew.2))
    match j, h1, h2 with
    | 0, h1, h2 => simp at h1 h2; subst h1; subst h2; exact .pure (.bool _)
    | 1, h1, h2 => simp at h1 h2; subst h1; subst h2; exact hk.mono hIm (b0x ν)
    | 2, h1, h2 => simp at h1 h2; subst h1; subst h2; exact hv.mono hIm (b0x ν)
    | j + 3, h1, h2 => simp at h1

theorem c2x {it : Operand} {iid mid n i : Nat} {seen : List Nat} {es : List (AV × AV)} {p : AV × AV} (hit : ev sl it = some (.op iid 0)) (hI : H[iid]? = some (.iter mid n (seen ++ [i]))) (hH : H[mid]? = some (.map es)) (hn : n = es.length) (hp : es[i]? = some p) :
    OV E sl H (.entry it) (.tup [p.1, p.2]) := by
  intro I ν a w hh hs
  have hit' := a2q hs hit
  obtain ⟨iv, hiv⟩ : ∃ v, a.eval it = v := ⟨_, rfl⟩
  rw [hiv] at hit'
  obtain ⟨r, b, en, rfl, hb, hne, hval, hmv, hmn, hlt, hhr, hhb, hr, hbr⟩ := b6v hh hI hH hn hit'
  have hborn : ∀ (i : Nat) e, en[i]? = some e → e.born = i := hbr
  have hi : i < en.length := by rw [← hr.1]; exact (List.getElem?_eq_some_iff.1 hp).1
  have he : en[i]? = some en[i] := List.getElem?_eq_getElem hi
  have h1 := hborn i _ he
  obtain ⟨h2, h3⟩ := hr.2 i p _ hp he
  refine ⟨_, .tup [p.1, p.2] [en[i].key, en[i].val] rfl (fun j x v k1 k2 => ?_), fun o w' ho hbel => ?_⟩
  · match j, k1, k2 with
    | 0, k1, k2 => simp at k1 k2; subst k1; subst k2; exact h2.mono (ImmLe.refl _ _) (b0x ν)
    | 1, k1, k2 => simp at k1 k2; subst k1; subst k2; exact h3.mono (ImmLe.refl _ _) (b0x ν)
  · have hr' := (hbel.obj iid _ r hI (by simp only [OB, OB1, hval])).trans hhr
    have hb' := (hbel.obj mid _ b hH (by simp only [OB, OB1, hmv])).trans hhb
    have hrun := run_entry_at (P := E.P) w' r b en.length seen.toArray en.toArray en.length en[i] (by rw [hr', h1]; simp) hb' (by simp) (by
      have : en.map (·.born) = List.range en.length := by
        apply List.ext_getElem?
        intro x
        rw [List.getElem?_map]
        rcases Nat.lt_or_ge x en.length with hx | hx
        · rw [List.getElem?_eq_getElem hx, List.getElem?_range hx]
          simp only [Option.map_some]
          rw [hborn x _ (List.getElem?_eq_getElem hx)]
        · rw [List.getElem?_eq_none hx, List.getElem?_eq_none (by simpa using hx)]
          rfl
      show (en.map (·.born)).Nodup
      rw [this]
      exact List.nodup_range)
    simp [execOp, ho, hiv, hrun]
end
end Go.Proofs.YtkljmljkiodnpaaGreatDoor.L

namespace Go.Proofs.YtkljmljkiodnpaaGreatDoor.L
open Go Go.RowKit

section
variable {P : Program} {ops : Array Oper} {Q : Exit → Act → World → Prop} {md : Region.Mode} {S S' : Array Bool → World → Prop}

def wpAnyP (P : Program) (md : Region.Mode) (ops : Array Oper) (Q : Exit → Act → World → Prop) (S : Array Bool → World → Prop) : Nat → Array Bool → Act → World → Prop
  | 0, L, a, w => Region.ready md ops L = [] ∧ Q .normal a w
  | n + 1, L, a, w => (Region.ready md ops L = [] → Q .normal a w) ∧
    ∀ i ∈ Region.ready md ops L, wpOp P ops Q i (fun a' w' => S (L.setIfInBounds i true) w' ∧ wpAnyP P md ops Q S n (L.setIfInBounds i true) a' w') a w

theorem b0p : ∀ (n : Nat) (L : Array Bool) (a : Act) (w : World), wpAnyP P md ops Q S n L a w → wpAny P md ops Q n L a w
  | 0, _, _, _, h => h
  | n + 1, _, _, _, h => ⟨h.1, fun i hi => wpOp_mono (fun a' w' h' => b0p n _ a' w' h'.2) (h.2 i hi)⟩

def LLe (L L' : Array Bool) : Prop := ∀ k, L.getD k true = true → L'.getD k true = true
theorem LLe.set (L : Array Bool) (i : Nat) : LLe L (L.setIfInBounds i true) := fun k h => by
  by_cases e : i = k
  · subst e
    by_cases hi : i < L.size
    · simp [hi]
    · simp [hi]
  · rw [getD_set_ne true e]; exact h
theorem b6g (L : Array Bool) (i : Nat) : (L.setIfInBounds i true).getD i true = true := by
  by_cases hi : i < L.size
  · simp [hi]
  · simp [hi]

theorem a6l : ∀ (n : Nat) (L : Array Bool) (a : Act) (w : World), (∀ L' w', LLe L L' → S L' w' → S' L' w') → wpAnyP P md ops Q S n L a w → wpAnyP P md ops Q S' n L a w
  | 0, _, _, _, _, h => h
  | n + 1, L, _, _, hS, h => ⟨h.1, fun i hi => wpOp_mono (fun a' w' h' => ⟨hS _ _ (LLe.set L i) h'.1, a6l n _ a' w' (fun L' w' hl hs => hS L' w' (fun k hk => hl k (LLe.set L i k hk)) hs) h'.2⟩) (h.2 i hi)⟩

theorem b2m {i : Nat} {oi : Oper} {v : Value} {R : Array Bool} (hi : ops[i]? = some oi) (hsel : ∀ (j : Nat) (o : Oper) cs b, ops[j]? = some o → o.op ≠ .select cs b)
    (hQ : ∀ c a w, Q (.panic c) (a.put oi.dst v) w → Q (.panic c) a w) (hRs : R.size = ops.size) (hR : ∀ j ∈ Region.ready md ops R, j = i) (hS : ∀ L w, S (L.setIfInBounds i true) w ↔ S L w) :
    ∀ (n : Nat) (L : Array Bool) (a : Act) (w : World), L.size = ops.size → LLe L R →
      (∀ j oj, ops[j]? = some oj → j ≠ i → L.getD j true = false → (∀ e ∈ oj.after, Region.binds md e = true → e.on ≠ i) → oi.apart ops oj = true) →
      i ∈ Region.ready md ops L → YieldsIf P ops (fun w' => ∃ L', LLe L L' ∧ LLe L' R ∧ S L' w') oi v a → S L w →
      wpAnyP P md ops Q S n (L.setIfInBounds i true) (a.put oi.dst v) w → wpAnyP P md ops Q S (n + 1) L a w := by
  intro n
  induction n with
  | zero =>
    intro L a w hLs hLR _ hr hy hSL H
    refine ⟨fun h => (by rw [h] at hr; cases hr), fun j hj => ?_⟩
    by_cases hji : j = i
    · subst hji; exact hy.wpOp hi ⟨L, fun _ h => h, hLR, hSL⟩ ⟨(hS L w).2 hSL, H⟩
    · have := ready_mono hj hji
      rw [H.1] at this
      cases this
  | succ n ih =>
    intro L a w hLs hLR hfree hr hy hSL H
    refine ⟨fun h => (by rw [h] at hr; cases hr), fun j hj => ?_⟩
    by_cases hji : j = i
    · subst hji; exact hy.wpOp hi ⟨L, fun _ h => h, hLR, hSL⟩ ⟨(hS L w).2 hSL, H⟩
    · have h1 := H.2 j (ready_mono hj hji)
      obtain ⟨hjun, oj, hoj, hall⟩ := mem_ready.1 hj
      have hjs : j < L.size := by rw [hLs]; exact (Array.getElem?_eq_some_iff.1 hoj).1
      have hnot : ∀ e ∈ oj.after, Region.binds md e = true → e.on ≠ i := fun e he hb heq => by
        have h1 := hall e he hb
        have h0 := (mem_ready.1 hr).1
        rw [heq] at h1
        rcases Nat.lt_or_ge i L.size with h' | h'
        · simp [h'] at h0 h1; rw [h0] at h1; cases h1
        · simp [Array.getElem?_eq_none h'] at h1
      have hjR : R.getD j true = true := by
        cases hRj : R.getD j true with
        | true => rfl
        | false =>
          refine absurd (hR j (mem_ready.2 ⟨hRj, oj, hoj, fun e he hb => ?_⟩)) hji
          have h2 := hall e he hb
          have hlt : e.on < L.size := by
            rcases Nat.lt_or_ge e.on L.size with h' | h'
            · exact h'
            · simp [Array.getElem?_eq_none h'] at h2
          have h3 : L.getD e.on true = true := by simpa [hlt] using h2
          have h4 := hLR _ h3
          have hlt' : e.on < R.size := by rw [hRs, ← hLs]; exact hlt
          simpa [hlt'] using h4
      have hLR' : LLe (L.setIfInBounds j true) R := fun k hk => by
        by_cases e : j = k
        · subst e; exact hjR
        · rw [getD_set_ne true e] at hk; exact hLR k hk
      have h2 := wpOp_putIf hoj (hfree j oj hoj hji hjun hnot) (fun cs b => hsel i oi cs b hi) (fun cs b => hsel j oj cs b hoj) hQ hy h1
      refine wpOp_mono (fun a' w' h3 => ?_) h2
      have hc : (L.setIfInBounds i true).setIfInBounds j true = (L.setIfInBounds j true).setIfInBounds i true := Array.setIfInBounds_comm _ _ (Ne.symm hji)
      obtain ⟨k1, k2, k3⟩ := h3
      rw [hc] at k2 k3
      have k4 := (hS _ _).1 k2
      refine ⟨k4, ih (L.setIfInBounds j true) a' w' (by simpa using hLs) hLR' (fun k ok hk hki hun hno => ?_) (ready_mono hr (Ne.symm hji)) ?_ k4 k3⟩
      · refine hfree k ok hk hki ?_ hno
        by_cases hjk : j = k
        · subst hjk; exact hjun
        · rw [getD_set_ne true hjk] at hun; exact hun
      · exact k1.imp (fun ⟨g1, g2⟩ => ⟨g1, fun w2 ⟨L', l1, l2, l3⟩ => g2 w2 ⟨L', fun k hk => l1 k (LLe.set L j k hk), l2, l3⟩⟩) id

theorem c2b {o : Oper} {a : Act} {w : World} {K : Act → World → Prop} {Q' : Exit → Act → World → Prop} (h : ∀ e a w, e ≠ .normal → Q e a w → Q' e a w) (hh : o.wp P a w K Q) : o.wp P a w K Q' := by
  unfold Oper.wp at *
  generalize (execOp a.eval o).run P w = r at *
  cases r with
  | ok n w' =>
    cases n <;> simp only [Oper.upon] at hh ⊢ <;>
      first
        | exact hh
        | exact h _ _ _ (by simp) hh
        | exact Calls.mono hh (fun e w'' he => by cases e <;> first | exact he | exact h _ _ _ (by simp) he | exact he.imp fun a he => he.imp fun w he => h _ _ _ (by simp) he)
        | exact Rows.mono hh (fun _ _ he => he)
  | halt x w' => cases x <;> simp only [Oper.upon] at hh ⊢ <;> first | exact hh | exact h _ _ _ (by simp) hh
end

def inl (n : Nat) : List Nat → Bool
  | [] => false
  | x :: r => match Nat.beq x n with
    | true => true
    | false => inl n r
def gnl (G : List Nat) : Nat → List AO → List AO
  | _, [] => []
  | i, h :: hs => (match inl i G with
    | true => .gone
    | false => h) :: gnl G (i + 1) hs
def mkl (T : List Nat) : Nat → List AO → List AO
  | _, [] => []
  | i, h :: hs => (match inl i T with
    | true => h
    | false => .gone) :: mkl T (i + 1) hs
def rsl (T : List Nat) : Nat → List AO → List AO → List AO
  | _, [], ys => ys
  | _, _ :: _, [] => []
  | i, h :: hs, y :: ys => (match inl i T with
    | true => y
    | false => h) :: rsl T (i + 1) hs ys

theorem c0s (G : List Nat) : ∀ (H : List AO) (i k : Nat) o, (gnl G i H)[k]? = some o → o = .gone ∨ (inl (i + k) G = false ∧ H[k]? = some o) := by
  intro H
  induction H with
  | nil => intro i k o h; simp [gnl] at h
  | cons x r ih =>
    intro i k o h
    cases k with
    | zero =>
      simp only [gnl, List.getElem?_cons_zero, Option.some.injEq] at h
      split at h
      · exact .inl h.symm
      · rename_i e; subst h; exact .inr ⟨e, rfl⟩
    | succ k =>
      simp only [gnl, List.getElem?_cons_succ] at h
      rcases ih _ _ _ h with h | ⟨h1, h2⟩
      · exact .inl h
      · exact .inr ⟨by rw [← h1]; congr 1; omega, h2⟩
theorem c6c (G : List Nat) : ∀ (H : List AO) (i : Nat), (gnl G i H).length = H.length := by
  intro H
  induction H with
  | nil => intro i; rfl
  | cons x r ih => intro i; simp [gnl, ih]
theorem c5w (T : List Nat) : ∀ (H : List AO) (i : Nat), (mkl T i H).length = H.length := by
  intro H
  induction H with
  | nil => intro i; rfl
  | cons x r ih => intro i; simp [mkl, ih]
theorem c0f (T : List Nat) : ∀ (H : List AO) (i k : Nat) o, (mkl T i H)[k]? = some o → o = .gone ∨ (inl (i + k) T = true ∧ H[k]? = some o) := by
  intro H
  induction H with
  | nil => intro i k o h; simp [mkl] at h
  | cons x r ih =>
    intro i k o h
    cases k with
    | zero =>
      simp only [mkl, List.getElem?_cons_zero, Option.some.injEq] at h
      split at h
      · rename_i e; subst h; exact .inr ⟨e, rfl⟩
      · exact .inl h.symm
    | succ k =>
      simp only [mkl, List.getElem?_cons_succ] at h
      rcases ih _ _ _ h with h | ⟨h1, h2⟩
      · exact .inl h
      · exact .inr ⟨by rw [← h1]; congr 1; omega, h2⟩
theorem c3a (T : List Nat) : ∀ (H : List AO) (i k : Nat), k < H.length → inl (i + k) T = false → (mkl T i H)[k]? = some .gone := by
  intro H
  induction H with
  | nil => intro i k h; simp at h
  | cons x r ih =>
    intro i k h he
    cases k with
    | zero =>
      rw [Nat.add_zero] at he
      simp [mkl, he]
    | succ k =>
      simp only [mkl, List.getElem?_cons_succ]
      exact ih _ _ (by simpa using h) (by rw [← he]; congr 1; omega)
theorem c0e (T : List Nat) : ∀ (H : List AO) (i k : Nat), H[k]? = some .gone → (mkl T i H)[k]? = some .gone := by
  intro H
  induction H with
  | nil => intro i k h; simp at h
  | cons x r ih =>
    intro i k h
    cases k with
    | zero =>
      simp only [List.getElem?_cons_zero, Option.some.injEq] at h
      subst h
      simp only [mkl, List.getElem?_cons_zero, Option.some.injEq]
      split <;> rfl
    | succ k =>
      simp only [mkl, List.getElem?_cons_succ]
      exact ih _ _ (by simpa using h)
theorem c5n (T : List Nat) : ∀ (H ys : List AO) (i : Nat), H.length ≤ ys.length → (rsl T i H ys).length = ys.length := by
  intro H
  induction H with
  | nil => intro ys i _; simp [rsl]
  | cons x r ih =>
    intro ys i h
    cases ys with
    | nil => simp at h
    | cons y ys => simp [rsl, ih ys (i + 1) (by simpa using h)]
theorem b4o (T : List Nat) : ∀ (H ys : List AO) (i k : Nat), H.length ≤ ys.length → (k < H.length ∧ inl (i + k) T = false ∧ (rsl T i H ys)[k]? = H[k]?) ∨ ((H.length ≤ k ∨ inl (i + k) T = true) ∧ (rsl T i H ys)[k]? = ys[k]?) := by
  intro H
  induction H with
  | nil => intro ys i k _; exact .inr ⟨.inl (Nat.zero_le _), by simp [rsl]⟩
  | cons x r ih =>
    intro ys i k h
    cases ys with
    | nil => simp at h
    | cons y ys =>
      cases k with
      | zero =>
        rw [Nat.add_zero]
        cases e : inl i T with
        | true => exact .inr ⟨.inr rfl, by simp [rsl, e]⟩
        | false => exact .inl ⟨by simp, rfl, by simp [rsl, e]⟩
      | succ k =>
        have e : i + 1 + k = i + (k + 1) := by omega
        rcases ih ys (i + 1) k (by simpa using h) with ⟨h1, h2, h3⟩ | ⟨h1, h3⟩
        · exact .inl ⟨by simpa using h1, by rw [← e]; exact h2, by simpa [rsl] using h3⟩
        · refine .inr ⟨?_, by simpa [rsl] using h3⟩
          rcases h1 with h1 | h1
          · exact .inl (by simpa using h1)
          · exact .inr (by rw [← e]; exact h1)

section
variable {E : Env} {I I1 : Imm} {ν ν1 : Nu} {w w1 : World} {H H1 : List AO}

theorem HR.less {H' : List AO} (hh : HR E I ν H w) (hl : H'.length = H.length) (hm : ∀ (id : Nat) o, H'[id]? = some o → o = .gone ∨ H[id]? = some o) : HR E I ν H' w := by
  refine ⟨by rw [hl]; exact hh.n, hh.below, hh.base, hh.imm, fun id o h => ?_, fun id id' o o' b h1 h2 e1 e2 => ?_⟩
  · rcases hm id o h with rfl | h
    · exact .gone
    · exact hh.obj id o h
  · rcases hm id o h1 with rfl | h1
    · simp [OB, OB1] at e1
    · rcases hm id' o' h2 with rfl | h2
      · simp [OB, OB1] at e2
      · exact hh.disj id id' o o' b h1 h2 e1 e2

theorem unmask (T : List Nat) (hh : HR E I ν H w) (hh1 : HR (E.at H.length) I1 ν1 H1 w1) (fr : FR H.length w I ν (mkl T 0 H) w1 I1 ν1 H1) :
    HR E I1 ν1 (rsl T 0 H H1) w1 ∧ FR E.k w I ν H w1 I1 ν1 (rsl T 0 H H1) ∧ ν.le ν1 ∧
      ∀ (id : Nat) o b, H[id]? = some o → inl id T = false → OB ν id o b → w1.heap[b]? = w.heap[b]? ∧ (rsl T 0 H H1)[id]? = some o ∧ OB ν1 id o b := by
  have hn : ∀ id, id < H.length → id < ν.n := fun id h => by rw [hh.n]; exact h
  have hlen : H.length ≤ H1.length := by
    rcases Nat.eq_zero_or_pos H.length with h | h
    · omega
    · have := (fr.ag (H.length - 1) (by omega) (hn _ (by omega))).1
      rw [hh1.n] at this
      omega
  have hle : ν.le ν1 := ⟨by rw [hh.n, hh1.n]; exact hlen, fun id hi => (fr.ag id (by rw [← hh.n]; exact hi) hi).2.1, fun id ver hi hv => (fr.ag id (by rw [← hh.n]; exact hi) hi).2.2 ver hv⟩
  have hFm : ∀ b, FB ν (mkl T 0 H) b → ∃ (id : Nat) (o : AO), inl id T = true ∧ H[id]? = some o ∧ OB ν id o b := by
    rintro b ⟨id, o, h1, h2⟩
    rcases c0f T H 0 id o h1 with rfl | ⟨h3, h4⟩
    · simp [OB, OB1] at h2
    · exact ⟨id, o, by simpa using h3, h4, h2⟩
  have hfree : ∀ (id : Nat) o b, H[id]? = some o → inl id T = false → OB ν id o b → ¬ FB ν (mkl T 0 H) b := fun id o b h1 h2 h3 hf => by
    obtain ⟨id', o', g1, g2, g3⟩ := hFm b hf
    have := hh.disj id id' o o' b h1 g2 h3 g3
    subst this
    rw [h2] at g1
    cases g1
  have hOB : ∀ (id : Nat) o, H[id]? = some o → OB ν1 id o = OB ν id o := fun id o h => b0h (hh.obj id o h) hle (hh.idlt h)
  have hcase : ∀ (id : Nat) o, (rsl T 0 H H1)[id]? = some o → (inl id T = false ∧ H[id]? = some o) ∨ H1[id]? = some o := fun id o h => by
    rcases b4o T H H1 0 id hlen with ⟨h1, h2, h3⟩ | ⟨_, h3⟩
    · exact .inl ⟨by simpa using h2, by rw [← h3]; exact h⟩
    · exact .inr (by rw [← h3]; exact h)
  have hun : ∀ (id : Nat) o, H[id]? = some o → inl id T = false → (rsl T 0 H H1)[id]? = some o := fun id o h h2 => by
    rcases b4o T H H1 0 id hlen with ⟨_, _, h3⟩ | ⟨h1, _⟩
    · rw [h3]; exact h
    · rcases h1 with h1 | h1
      · have := (List.getElem?_eq_some_iff.1 h).1; omega
      · rw [Nat.zero_add, h2] at h1; cases h1
  have hold : ∀ (id : Nat) o b, H[id]? = some o → inl id T = false → OB ν id o b → w1.heap[b]? = w.heap[b]? := fun id o b h1 h2 h3 => fr.keep b (a5j (hh.obj id o h1) h3).1 (hfree id o b h1 h2 h3)
  have hapart : ∀ (id id' : Nat) o o' b, inl id T = false → H[id]? = some o → H1[id']? = some o' → OB ν id o b → OB ν1 id' o' b → False := fun id id' o o' b g1 g2 g3 g4 g5 => by
    rcases fr.foot b ⟨id', o', g3, g5⟩ with h | h
    · exact hfree id o b g2 g1 g4 h
    · have := (a5j (hh.obj id o g2) g4).1; omega
  refine ⟨⟨by rw [c5n T H H1 0 hlen]; exact hh1.n, hh1.below, hh1.base, hh1.imm, fun id o h => ?_, fun id id' o o' b h1 h2 e1 e2 => ?_⟩,
    ⟨fr.imm, fr.size, fun b o h => ?_, fun b hb hnf => fr.keep b hb fun hf => ?_, fun b ⟨id, o, h, h2⟩ => ?_, fun id _ hi => fr.ag id (by rw [← hh.n]; exact hi) hi, fun id _ h => ?_⟩, hle, fun id o b h1 h2 h3 => ⟨hold id o b h1 h2 h3, hun id o h1 h2, (hOB id o h1).symm ▸ h3⟩⟩
  · rcases hcase id o h with ⟨h1, h2⟩ | h2
    · have hlt := (List.getElem?_eq_some_iff.1 h2).1
      refine (hh.obj id o h2).mono fr.imm hle (hh.idlt h2) (fr.gone id hlt (c3a T H 0 id hlt (by simpa using h1))).1 (fun b hb => hold id o b h2 h1 hb) (fun b o' hb hi => ?_)
      rcases fr.new b o' hi with k | k | k
      · exact k
      · exact absurd k (hfree id o b h2 h1 hb)
      · have := (a5j (hh.obj id o h2) hb).1; omega
    · exact OR.env (E := E.at H.length) (F := E) rfl (hh1.obj id o h2)
  · rcases hcase id o h1 with ⟨k1, k2⟩ | k2 <;> rcases hcase id' o' h2 with ⟨l1, l2⟩ | l2
    · rw [hOB id o k2] at e1
      rw [hOB id' o' l2] at e2
      exact hh.disj id id' o o' b k2 l2 e1 e2
    · rw [hOB id o k2] at e1
      exact absurd (hapart id id' o o' b k1 k2 l2 e1 e2) (fun h => h)
    · rw [hOB id' o' l2] at e2
      exact absurd (hapart id' id o' o b l1 l2 k2 e2 e1) (fun h => h)
    · exact hh1.disj id id' o o' b k2 l2 e1 e2
  · rcases fr.new b o h with h | h | h
    · exact .inl h
    · obtain ⟨id', o', _, g2, g3⟩ := hFm b h
      exact .inr (.inl ⟨id', o', g2, g3⟩)
    · exact .inr (.inr h)
  · obtain ⟨id', o', _, g2, g3⟩ := hFm b hf
    exact hnf ⟨id', o', g2, g3⟩
  · rcases hcase id o h with ⟨h1, h3⟩ | h3
    · rw [hOB id o h3] at h2
      exact .inl ⟨id, o, h3, h2⟩
    · rcases fr.foot b ⟨id, o, h3, h2⟩ with k | k
      · obtain ⟨id', o', _, g2, g3⟩ := hFm b k
        exact .inl ⟨id', o', g2, g3⟩
      · exact .inr k
  · have hlt := (List.getElem?_eq_some_iff.1 h).1
    obtain ⟨g1, g2⟩ := fr.gone id hlt (c0e T H 0 id h)
    refine ⟨g1, ?_⟩
    rcases b4o T H H1 0 id hlen with ⟨_, _, h3⟩ | ⟨_, h3⟩
    · rw [h3]; exact h
    · rw [h3]; exact g2
end
end Go.Proofs.YtkljmljkiodnpaaGreatDoor.L

namespace Go.Proofs.YtkljmljkiodnpaaGreatDoor.L
open Go Go.RowKit

structure PS where
  i : Nat
  q : Bool
  G : List Nat
  R : List Bool
def tau : List (Nat × List Nat) → Nat → List Nat
  | [], _ => []
  | (j, T) :: r, i => match Nat.beq j i with
    | true => T
    | false => tau r i
def allIn : List Nat → List Nat → Bool
  | [], _ => true
  | t :: r, G => match inl t G with
    | true => allIn r G
    | false => false
theorem c1n : ∀ {T G : List Nat}, allIn T G = true → ∀ t, inl t T = true → inl t G = true := by
  intro T
  induction T with
  | nil => intro G _ t h; simp [inl] at h
  | cons x r ih =>
    intro G h t ht
    simp only [allIn] at h
    split at h
    · rename_i hx
      simp only [inl] at ht
      split at ht
      · rename_i e
        rw [← Nat.eq_of_beq_eq_true e]; exact hx
      · exact ih h t ht
    · cases h
def bl : Nat → Nat → List Bool
  | 0, _ => []
  | n + 1, m => Nat.beq (m % 2) 1 :: bl n (m / 2)
def qOK (ops : Array Oper) (τ : List (Nat × List Nat)) (L R : List Bool) (i : Nat) (G : List Nat) : Bool :=
  Region.free .any ops L.toArray i && (Region.ready .any ops L.toArray).contains i && Nat.beq R.length ops.size && (Region.ready .any ops R.toArray).all (fun j => Nat.beq j i) && (tau τ i).isEmpty &&
    (List.range ops.size).all fun j => (!L.toArray.getD j true || R.toArray.getD j true) && (!R.toArray.getD j true || (L.toArray.getD j true || allIn (tau τ j) G))
def planOK (ops : Array Oper) (τ : List (Nat × List Nat)) : List Bool → List PS → Bool
  | L, [] => (Region.ready .any ops L.toArray).isEmpty
  | L, p :: r => (match p.q with
    | true => qOK ops τ L p.R p.i p.G
    | false => Region.ready .any ops L.toArray == [p.i]) && planOK ops τ (L.set p.i true) r

def SS (τ : List (Nat × List Nat)) (L : Array Bool) (I : Imm) (ν : Nu) (H : List AO) (w : World) : Array Bool → World → Prop := fun L' w' =>
  w.heap.size ≤ w'.heap.size ∧ (∀ b o, I b o → w'.cell? ⟨b, o, none⟩ = w.cell? ⟨b, o, none⟩) ∧
    ∀ (id : Nat) o b, H[id]? = some o → OB ν id o b → (∀ j, inl id (tau τ j) = true → L'.getD j true = true → L.getD j true = true) → w'.heap[b]? = w.heap[b]?

def LN (E : Env) (N : Nat) (w : World) (I : Imm) (ν : Nu) (objs : List AO) (Q : Exit → St → Prop) : Exit → Act → World → Prop := fun e a' w' => e = .normal ∧ Lift E N w I ν objs Q .normal a' w'

def HL (E : Env) (N : Nat) (ops : Array Oper) (τ : List (Nat × List Nat)) (Q : Exit → St → Prop) (pl : List PS) (σ : St) : Prop :=
  Region.noSelect ops = true → ∀ L : List Bool, L.length = ops.size → planOK ops τ L pl = true → ∀ I ν a w, SR E N I ν σ a w → ∀ w0 I0 ν0 o0, FR E.k w0 I0 ν0 o0 w I ν σ.objs →
    wpAnyP E.P .any ops (LN E N w0 I0 ν0 o0 Q) (SS τ L.toArray I ν σ.objs w) pl.length L.toArray a w
def HO (E : Env) (N : Nat) (ops : Array Oper) (τ : List (Nat × List Nat)) (Q : Exit → St → Prop) (p : PS) (pl : List PS) (o : Oper) (σ : St) : Prop :=
  ops[p.i]? = some o → HL E N ops τ Q (p :: pl) σ
def HW (E : Env) (N : Nat) (ops : Array Oper) (τ : List (Nat × List Nat)) (Q : Exit → St → Prop) (p : PS) (pl : List PS) (d : Option Nat) (op : Op) (ty : TypeId) (pos : String) (after : Array Edge) (σ : St) : Prop :=
  ∀ g : Option (Nat × Bool), (∀ I ν a w, SR E N I ν σ a w → Region.wanted ⟨d, op, ty, pos, after, g⟩ (yielded ops a.tmps) = true) → HO E N ops τ Q p pl ⟨d, op, ty, pos, after, g⟩ σ

theorem a3b {E : Env} {N : Nat} {Q : Exit → St → Prop} {id : Nat} {l : List Oper} {σ : St} (τ : List (Nat × List Nat)) (pl : List PS) (hm : E.P.follows .mixedOrders = true) (hn : Region.noSelect l.toArray = true) (hl : Nat.beq pl.length l.length = true)
    (hp : planOK l.toArray τ (List.replicate l.length false) pl = true) (h : HL E N l.toArray τ Q pl σ) : AWp E N (.region id l.toArray true) Q σ := by
  intro I ν a w hs
  obtain ⟨h1, h2, h3⟩ := hs.hr.later (w' := { w with drawn := w.drawn + 1 }) ((Below.refl _ _).drew)
  have := h hn (List.replicate l.length false) (by simp) hp I ν a _ ⟨h1, hs.sl.mono h3 (Nu.le.refl ν), hs.df, hs.nt⟩ w I ν σ.objs h2
  have h4 := b0p _ _ _ _ this
  rw [Nat.eq_of_beq_eq_true hl] at h4
  have h5 := wp_region_any (P := E.P) (ops := l.toArray) (id := id) (a := a) (w := w) (Q := LN E N w I ν σ.objs Q) hm (by simpa using h4)
  exact Code.wp_mono (fun e a' w' ⟨he, k⟩ => by subst he; exact k) h5

section
variable {E : Env} {N : Nat} {ops : Array Oper} {τ : List (Nat × List Nat)} {Q : Exit → St → Prop} {p : PS} {pl : List PS} {sl : Slots} {H : List AO}

theorem a4o {o : Oper} {σ : St} (hi : ops[p.i]? = some o) (h : HO E N ops τ Q p pl o σ) : HL E N ops τ Q (p :: pl) σ := h hi

theorem a3r (h : Q .normal ⟨sl, H⟩) : HL E N ops τ Q [] ⟨sl, H⟩ := by
  intro hns L hL hp I ν a w hs w0 I0 ν0 o0 hf
  simp only [planOK, List.isEmpty_iff] at hp
  exact ⟨hp, rfl, ⟨sl, H⟩, I, ν, h, hs, hf⟩

theorem LN.panic {E : Env} {N : Nat} {w : World} {I : Imm} {ν : Nu} {objs : List AO} {Q : Exit → St → Prop} {e : Exit} {a : Act} {w' : World} (hn : e ≠ .normal) (h : LN E N w I ν objs Q e a w') {p : Prop} : p := absurd h.1 hn

theorem b6w {L : List Bool} (hL : L.length = ops.size) (hns : Region.noSelect ops = true) (hp : planOK ops τ L (p :: pl) = true) (hq : p.q = true) {o : Oper} (hi : ops[p.i]? = some o) {v : Value} {σ σ' : St} {I : Imm} {ν : Nu} {a : Act} {w w0 : World} {I0 : Imm} {ν0 : Nu} {o0 : List AO}
    (hH : σ'.objs = σ.objs) (hs : SR E N I ν σ a w) (hf : FR E.k w0 I0 ν0 o0 w I ν σ.objs)
    (hy : (Region.wanted o (yielded ops a.tmps) = true ∧ ∀ w', Still ν (gnl p.G 0 σ.objs) I w w' → (execOp a.eval o).run E.P w' = .ok (.value v) w') ∨ (Region.wanted o (yielded ops a.tmps) = false ∧ v = undef))
    (hs' : SR E N I ν σ' (a.put o.dst v) w) (h : HL E N ops τ Q pl σ') : wpAnyP E.P .any ops (LN E N w0 I0 ν0 o0 Q) (SS τ L.toArray I ν σ.objs w) (p :: pl).length L.toArray a w := by
  simp only [planOK, hq, Bool.and_eq_true] at hp
  obtain ⟨hq1, hp'⟩ := hp
  simp only [qOK, Bool.and_eq_true, List.all_eq_true, List.mem_range] at hq1
  obtain ⟨⟨⟨⟨⟨g1, g2⟩, g3⟩, g4⟩, g5⟩, g6⟩ := hq1
  have hRs : p.R.length = ops.size := Nat.eq_of_beq_eq_true g3
  have hti : tau τ p.i = [] := by simpa [List.isEmpty_iff] using g5
  have hLR : LLe L.toArray p.R.toArray := fun k hk => by
    rcases Nat.lt_or_ge k ops.size with h1 | h1
    · have := (g6 k h1).1
      simpa [hk] using this
    · have : p.R.length ≤ k := by omega
      simp [this]
  have hh := h hns (L.set p.i true) (by simpa using hL) hp' I ν _ w hs' w0 I0 ν0 o0 (by rw [hH]; exact hf)
  rw [hH] at hh
  have hset : (L.set p.i true).toArray = L.toArray.setIfInBounds p.i true := by simp
  rw [hset] at hh
  refine b2m (R := p.R.toArray) hi (Region.noSelect_spec hns) (fun c a w hh => LN.panic (by simp) hh) (by simpa using hRs) (fun j hj => ?_) (fun L' w' => ?_) _ _ _ _ (by simpa using hL) hLR (Region.free_spec hi g1) (by simpa using g2) ?_ ?_ (a6l _ _ _ _ (fun L' w' hl hs => ?_) hh)
  · exact Nat.eq_of_beq_eq_true (g4 j hj)
  · refine ⟨fun ⟨a1, a2, a3⟩ => ⟨a1, a2, fun id o b h1 h2 h3 => a3 id o b h1 h2 fun j hj hl => h3 j hj ?_⟩, fun ⟨a1, a2, a3⟩ => ⟨a1, a2, fun id o b h1 h2 h3 => a3 id o b h1 h2 fun j hj hl => h3 j hj (LLe.set L' p.i j hl)⟩⟩
    by_cases e : p.i = j
    · subst e; rw [hti] at hj; simp [inl] at hj
    · rw [getD_set_ne true e] at hl; exact hl
  · rcases hy with ⟨y1, y2⟩ | hy
    · refine .inl ⟨y1, fun w' ⟨L', l1, l2, a1, a2, a3⟩ => y2 w' ⟨a1, a2, fun id o b h1 h2 => ?_⟩⟩
      rcases c0s p.G σ.objs 0 id o h1 with rfl | ⟨h3, h4⟩
      · simp [OB, OB1] at h2
      · refine a3 id o b h4 h2 fun j hj hl => ?_
        cases hLj : L.toArray.getD j true with
        | true => rfl
        | false =>
          have hjs : j < ops.size := by
            rcases Nat.lt_or_ge j ops.size with h5 | h5
            · exact h5
            · have : L.length ≤ j := by omega
              simp [this] at hLj
          have := (g6 j hjs).2
          rw [l2 j hl, hLj] at this
          have := c1n (by simpa using this) id hj
          rw [Nat.zero_add, this] at h3
          cases h3
    · exact .inr hy
  · exact ⟨Nat.le_refl _, fun _ _ _ => rfl, fun _ _ _ _ _ _ => rfl⟩
  · obtain ⟨a1, a2, a3⟩ := hs
    exact ⟨a1, a2, fun id o b h1 h2 h3 => a3 id o b h1 h2 fun j hj hl => LLe.set _ _ _ (h3 j hj hl)⟩

theorem b8o {P : Program} {ops : Array Oper} {Q : Exit → Act → World → Prop} {i : Nat} {o : Oper} {K : Act → World → Prop} {a : Act} {w : World} (hi : ops[i]? = some o) (hw : Region.wanted o (yielded ops a.tmps) = false) (h : K (a.put o.dst undef) w) : wpOp P ops Q i K a w := by
  unfold wpOp
  simp only [hi, hw, Bool.false_eq_true, if_false]
  exact h
theorem b8p {P : Program} {ops : Array Oper} {Q : Exit → Act → World → Prop} {i : Nat} {o : Oper} {K : Act → World → Prop} {a : Act} {w : World} (hi : ops[i]? = some o) (hw : Region.wanted o (yielded ops a.tmps) = true) (h : o.wp P a w K Q) : wpOp P ops Q i K a w := by
  unfold wpOp
  simp only [hi, hw, if_true]
  exact .inl h

theorem c0o {L : List Bool} (hL : L.length = ops.size) (hns : Region.noSelect ops = true) (hp : planOK ops τ L (p :: pl) = true) (hq : p.q = false) {o : Oper} (hi : ops[p.i]? = some o) {σ : St} {I : Imm} {ν : Nu} {a : Act} {w w0 : World} {I0 : Imm} {ν0 : Nu} {o0 : List AO}
    (hs : SR E N I ν σ a w) (hf : FR E.k w0 I0 ν0 o0 w I ν σ.objs)
    (h : wpOp E.P ops (LN E N w0 I0 ν0 o0 Q) p.i (fun a' w' => ∃ σ' I' ν', HL E N ops τ Q pl σ' ∧ SR E N I' ν' σ' a' w' ∧ FR E.k w I ν σ.objs w' I' ν' σ'.objs ∧
      ∀ (id : Nat) o b, σ.objs[id]? = some o → inl id (tau τ p.i) = false → OB ν id o b → w'.heap[b]? = w.heap[b]? ∧ σ'.objs[id]? = some o ∧ OB ν' id o b) a w) :
    wpAnyP E.P .any ops (LN E N w0 I0 ν0 o0 Q) (SS τ L.toArray I ν σ.objs w) (p :: pl).length L.toArray a w := by
  simp only [planOK, hq, Bool.and_eq_true, beq_iff_eq] at hp
  obtain ⟨hr, hp'⟩ := hp
  refine ⟨fun h0 => (by rw [hr] at h0; cases h0), fun j hj => ?_⟩
  have hrd : p.i ∈ Region.ready .any ops L.toArray := by rw [hr]; simp
  rw [hr] at hj
  obtain rfl : j = p.i := by simpa using hj
  refine wpOp_mono (fun a' w' ⟨σ', I', ν', k1, k2, k3, k4⟩ => ?_) h
  have hun : L.toArray.getD p.i true = false := (mem_ready.1 hrd).1
  have hset : (L.set p.i true).toArray = L.toArray.setIfInBounds p.i true := by simp
  have hnt : ∀ (L' : Array Bool) (id : Nat), L'.getD p.i true = true → (∀ j, inl id (tau τ j) = true → L'.getD j true = true → L.toArray.getD j true = true) → inl id (tau τ p.i) = false := fun L' id h1 h2 => by
    cases e : inl id (tau τ p.i) with
    | false => rfl
    | true => have := h2 p.i e h1; rw [hun] at this; cases this
  refine ⟨⟨k3.size, k3.imm.2, fun id o b h1 h2 h3 => (k4 id o b h1 (hnt _ id (b6g _ _) h3) h2).1⟩, ?_⟩
  have hh := k1 hns (L.set p.i true) (by simpa using hL) hp' I' ν' a' w' k2 w0 I0 ν0 o0 (hf.trans k3)
  rw [hset] at hh
  refine a6l _ _ _ _ (fun L' w2 hl hs2 => ?_) hh
  obtain ⟨a1, a2, a3⟩ := hs2
  refine ⟨Nat.le_trans k3.size a1, fun b o hb => (a2 b o (k3.imm.1 b o hb)).trans (k3.imm.2 b o hb), fun id o b h1 h2 h3 => ?_⟩
  obtain ⟨m1, m2, m3⟩ := k4 id o b h1 (hnt L' id (hl _ (b6g _ _)) h3) h2
  exact (a3 id o b m2 m3 fun j hj hl' => LLe.set _ _ _ (h3 j hj hl')).trans m1

theorem a7q {d : Option Nat} {op : Op} {ty : TypeId} {pos : String} {after : Array Edge} {σ : St} (h : HW E N ops τ Q p pl d op ty pos after σ) : HO E N ops τ Q p pl ⟨d, op, ty, pos, after, none⟩ σ := h none fun _ _ _ _ _ => by simp [Region.wanted]
theorem b5f {d : Option Nat} {op : Op} {ty : TypeId} {pos : String} {after : Array Edge} {j t : Nat} {want b : Bool} (hj : (ops[j]?).bind (·.dst) = some t) (hb : lk sl t = some (.bool b)) (hw : b = want) (h : HW E N ops τ Q p pl d op ty pos after ⟨sl, H⟩) :
    HO E N ops τ Q p pl ⟨d, op, ty, pos, after, some (j, want)⟩ ⟨sl, H⟩ := h _ fun I ν a w hs => by
  subst hw
  simp [Region.wanted, a4g hs.sl hj hb]

theorem b5e {d : Nat} {op : Op} {ty : TypeId} {pos : String} {after : Array Edge} {g : Option (Nat × Bool)} (hw : ∀ I ν a w, SR E N I ν ⟨sl, H⟩ a w → Region.wanted ⟨some d, op, ty, pos, after, g⟩ (yielded ops a.tmps) = false) (hd : Nat.blt d N = true)
    (h : HL E N ops τ Q pl ⟨(d, .und) :: sl, H⟩) : HO E N ops τ Q p pl ⟨some d, op, ty, pos, after, g⟩ ⟨sl, H⟩ := by
  intro hi hns L hL hp I ν a w hs w0 I0 ν0 o0 hf
  have hs' : SR E N I ν ⟨(d, .und) :: sl, H⟩ (a.put (some d) undef) w := a5o hs hd (.und _ rfl)
  cases hq : p.q with
  | true => exact b6w (σ := ⟨sl, H⟩) (σ' := ⟨(d, .und) :: sl, H⟩) hL hns hp hq hi rfl hs hf (.inr ⟨hw I ν a w hs, rfl⟩) hs' h
  | false =>
    refine c0o hL hns hp hq hi hs hf ?_
    refine b8o hi (hw I ν a w hs) ?_
    exact ⟨⟨(d, .und) :: sl, H⟩, I, ν, h, hs', FR.refl _ _ _ _, fun id o b h1 _ h2 => ⟨rfl, h1, h2⟩⟩
theorem c7p {op : Op} {ty : TypeId} {pos : String} {after : Array Edge} {d j t : Nat} {b : Bool} (hj : (ops[j]?).bind (·.dst) = some t) (hb : lk sl t = some (.bool b)) (hw : b = false) (hd : Nat.blt d N = true) (h : HL E N ops τ Q pl ⟨(d, .und) :: sl, H⟩) :
    HO E N ops τ Q p pl ⟨some d, op, ty, pos, after, some (j, true)⟩ ⟨sl, H⟩ := b5e (fun I ν a w hs => by subst hw; simp [Region.wanted, a4g hs.sl hj hb]) hd h
theorem a9n {op : Op} {ty : TypeId} {pos : String} {after : Array Edge} {d j t : Nat} {b : Bool} (hj : (ops[j]?).bind (·.dst) = some t) (hb : lk sl t = some (.bool b)) (hw : b = true) (hd : Nat.blt d N = true) (h : HL E N ops τ Q pl ⟨(d, .und) :: sl, H⟩) :
    HO E N ops τ Q p pl ⟨some d, op, ty, pos, after, some (j, false)⟩ ⟨sl, H⟩ := b5e (fun I ν a w hs => by subst hw; simp [Region.wanted, a4g hs.sl hj hb]) hd h
theorem c8p {op : Op} {ty : TypeId} {pos : String} {after : Array Edge} {d j t : Nat} {want : Bool} (hj : (ops[j]?).bind (·.dst) = some t) (hb : lk sl t = some .und) (hd : Nat.blt d N = true) (h : HL E N ops τ Q pl ⟨(d, .und) :: sl, H⟩) :
    HO E N ops τ Q p pl ⟨some d, op, ty, pos, after, some (j, want)⟩ ⟨sl, H⟩ := b5e (fun I ν a w hs => by simp [Region.wanted, a5m (ops := ops) hs.sl hj hb]) hd h

theorem a2c {op : Op} {ty : TypeId} {pos : String} {after : Array Edge} {d : Nat} {x : AV} (hv : OV E sl (gnl p.G 0 H) op x) (hd : Nat.blt d N = true) (h : HL E N ops τ Q pl ⟨(d, x) :: sl, H⟩) (hq : p.q = true := by rfl) :
    HW E N ops τ Q p pl (some d) op ty pos after ⟨sl, H⟩ := by
  intro g hg hi hns L hL hp I ν a w hs w0 I0 ν0 o0 hf
  obtain ⟨v, hx, hr⟩ := hv I ν a w (hs.hr.less (c6c _ _ _) fun id o h => (c0s p.G H 0 id o h).imp (fun e => e) (fun e => e.2)) hs.sl
  exact b6w (σ := ⟨sl, H⟩) (σ' := ⟨(d, x) :: sl, H⟩) hL hns hp hq hi rfl hs hf (.inl ⟨hg I ν a w hs, fun w' hw => hr _ w' rfl hw⟩) (a5o hs hd hx) h

def HQ (E : Env) (N : Nat) (ops : Array Oper) (τ : List (Nat × List Nat)) (Q : Exit → St → Prop) (T : List Nat) (H : List AO) (pl : List PS) : Exit → St → Prop := fun e s => e = .normal ∧ HL E N ops τ Q pl ⟨s.sl, rsl T 0 H s.objs⟩
theorem a3j {T : List Nat} {H1 : List AO} (h : HL E N ops τ Q pl ⟨sl, rsl T 0 H H1⟩) : HQ E N ops τ Q T H pl .normal ⟨sl, H1⟩ := ⟨rfl, h⟩

theorem a7p {op : Op} {ty : TypeId} {pos : String} {after : Array Edge} {d : Option Nat} (hq : p.q = false) (h : AL (E.at H.length) N ops (HQ E N ops τ Q (tau τ p.i) H pl) [⟨d, op, ty, pos, after, none⟩] ⟨sl, mkl (tau τ p.i) 0 H⟩) :
    HW E N ops τ Q p pl d op ty pos after ⟨sl, H⟩ := by
  intro g hg hi hns L hL hp I ν a w hs w0 I0 ν0 o0 hf
  refine c0o hL hns hp hq hi hs hf ?_
  have hm : HR E I ν (mkl (tau τ p.i) 0 H) w := hs.hr.less (c5w _ _ _) fun id o h => (c0f _ H 0 id o h).imp (fun e => e) (fun e => e.2)
  have := h I ν a w ⟨HR.env (E := E) (F := E.at H.length) rfl rfl hm, hs.sl, hs.df, hs.nt⟩ w I ν _ (FR.refl _ _ _ _)
  unfold wpList at this
  rw [if_pos (by simp [Region.wanted])] at this
  refine b8p hi (hg I ν a w hs) ?_
  rcases this with this | ⟨_, a', w', σ', _, _, ⟨e, _⟩, _⟩
  · refine c2b (fun e a' w' he ⟨σ', I', ν', ⟨h1, _⟩, _⟩ => absurd h1 he) (Oper.wp_mono (fun a' w' hk => ?_) this)
    obtain ⟨σ', I', ν', ⟨_, h2⟩, hs2, hf2⟩ := hk
    obtain ⟨u1, u2, u3, u4⟩ := unmask (E := E) (tau τ p.i) hs.hr hs2.hr hf2
    exact ⟨⟨σ'.sl, rsl (tau τ p.i) 0 H σ'.objs⟩, I', ν', h2, ⟨u1, hs2.sl, hs2.df, hs2.nt⟩, u2, u4⟩
  · cases e
theorem a7n {d : Option Nat} {op : Op} {ty : TypeId} {pos : String} {after : Array Edge} {σ : St} (h : HW E N ops τ Q p pl d op ty pos after σ) : HW E N ops τ Q p pl d op ty pos after σ := h
theorem a7o {o : Oper} {σ : St} (h : HO E N ops τ Q p pl o σ) : HO E N ops τ Q p pl o σ := h
end
end Go.Proofs.YtkljmljkiodnpaaGreatDoor.L

namespace Go.Proofs.YtkljmljkiodnpaaGreatDoor.L
open Go Go.RowKit

section
variable {E : Env} {N : Nat} {sl : Slots} {H : List AO}
theorem b6p {t e : Nat} {n b n' b' : Nat} {z z' : Value} {dd : Bool} [ti : TI E.P t (.slice e) n b z] [te : TZ E.P e dd n' b' z'] {x lo : Operand} {xs : List (List AV)} {k : IntKind} {l : Int}
    (hx : ev sl x = some (.rs xs)) (hlo : ev sl lo = some (.int k l)) (h0 : 0 ≤ l) (h2 : l ≤ (xs.length : Int)) (hsz : ∀ (i : Nat) row, xs[i]? = some row → row.length = n') : OV E sl H (.slice t x (some lo) none none) (.rs (xs.drop l.toNat)) := by
  have := b4v (E := E) (sl := sl) (H := H) (t := t) (e := e) hx hsz (l := l.toNat) (h := xs.length) (by omega) (Nat.le_refl _) (.inr ⟨lo, k, rfl, by rw [hlo, Int.toNat_of_nonneg h0]⟩) (.inl ⟨rfl, rfl⟩)
  rw [List.take_length] at this
  exact this
end
end Go.Proofs.YtkljmljkiodnpaaGreatDoor.L

namespace Go.Proofs.YtkljmljkiodnpaaGreatDoor.L
open Go Go.RowKit

section
variable {E : Env} {I : Imm} {ν : Nu} {w w' : World} {H : List AO}
theorem b7n {sz i off : Nat} {xs xs' : List (List AV)} {inner vs : List Value} {c c' cs : List AV} (hr : RowRel w I sz xs inner) (hi : xs[i]? = some c) (hP : PutN off c cs c') (hxs : xs' = xs.set i c') (hvl : cs.length = vs.length) (hI : ImmLe w I w' I)
    (hv : ∀ (j : Nat) x v, cs[j]? = some x → vs[j]? = some v → VP w I x v) : RowRel w' I sz xs' (inner.take (i * sz + off) ++ vs ++ inner.drop (i * sz + off + vs.length)) ∧ i * sz + off + vs.length ≤ xs.length * sz := by
  obtain ⟨hpl, hpe⟩ := hP.eq
  have hil := (List.getElem?_eq_some_iff.1 hi).1
  have hcl := (hr.2 i c hi).1
  have hmul : (i + 1) * sz ≤ xs.length * sz := Nat.mul_le_mul_right _ hil
  rw [Nat.add_mul, Nat.one_mul] at hmul
  have hp : i * sz + off + vs.length ≤ inner.length := by rw [hr.1]; omega
  refine ⟨⟨?_, fun k row hk => ?_⟩, by omega⟩
  · rw [hxs]
    simp only [List.length_append, List.length_take, List.length_drop, List.length_set]
    rw [hr.1] at hp ⊢
    omega
  rw [hxs] at hk
  have hnew : ∀ n : Nat, (inner.take (i * sz + off) ++ vs ++ inner.drop (i * sz + off + vs.length))[n]? = if n < i * sz + off then inner[n]? else if n < i * sz + off + vs.length then vs[n - (i * sz + off)]? else inner[n]? := by
    intro n
    by_cases c1 : n < i * sz + off
    · rw [if_pos c1, List.append_assoc, List.getElem?_append_left (by simp; omega), List.getElem?_take_of_lt c1]
    · rw [if_neg c1]
      by_cases c2 : n < i * sz + off + vs.length
      · rw [if_pos c2, List.append_assoc, List.getElem?_append_right (by simp; omega), List.getElem?_append_left (by simp; omega)]
        simp only [List.length_take, Nat.min_eq_left (show i * sz + off ≤ inner.length by omega)]
      · rw [if_neg c2, List.getElem?_append_right (by simp; omega)]
        simp only [List.length_append, List.length_take, Nat.min_eq_left (show i * sz + off ≤ inner.length by omega), List.getElem?_drop]
        congr 1
        omega
  by_cases e : i = k
  · subst e
    rw [List.getElem?_set_self hil] at hk
    injection hk with hk
    subst hk
    refine ⟨by rw [hpe]; simp; omega, fun j x hj => ?_⟩
    have hjl : j < sz := by
      have := (List.getElem?_eq_some_iff.1 hj).1
      rw [hpe] at this
      simp at this
      omega
    rw [hpe] at hj
    rw [hnew]
    by_cases c1 : j < off
    · rw [if_pos (by omega)]
      rw [List.append_assoc, List.getElem?_append_left (by simp; omega), List.getElem?_take_of_lt c1] at hj
      obtain ⟨u, h1, h2⟩ := (hr.2 i c hi).2 j x hj
      exact ⟨u, h1, h2.mono hI⟩
    · rw [if_neg (by omega)]
      by_cases c2 : j < off + cs.length
      · rw [if_pos (by omega)]
        rw [List.append_assoc, List.getElem?_append_right (by simp; omega), List.getElem?_append_left (by simp; omega)] at hj
        simp only [List.length_take, Nat.min_eq_left (show off ≤ c.length by omega)] at hj
        have hjv : j - off < vs.length := by omega
        refine ⟨vs[j - off], ?_, (hv _ x _ hj (List.getElem?_eq_getElem hjv)).mono hI⟩
        rw [show i * sz + j - (i * sz + off) = j - off by omega]
        exact List.getElem?_eq_getElem hjv
      · rw [if_neg (by omega)]
        rw [List.getElem?_append_right (by simp; omega)] at hj
        simp only [List.length_append, List.length_take, Nat.min_eq_left (show off ≤ c.length by omega), List.getElem?_drop] at hj
        rw [show off + cs.length + (j - (off + cs.length)) = j by omega] at hj
        obtain ⟨u, h1, h2⟩ := (hr.2 i c hi).2 j x hj
        exact ⟨u, h1, h2.mono hI⟩
  · rw [List.getElem?_set_ne e] at hk
    obtain ⟨h1, h2⟩ := hr.2 k row hk
    refine ⟨h1, fun j x hj => ?_⟩
    obtain ⟨u, h3, h4⟩ := h2 j x hj
    have hjl : j < sz := by rw [← h1]; exact (List.getElem?_eq_some_iff.1 hj).1
    refine ⟨u, ?_, h4.mono hI⟩
    rw [hnew]
    have hcase : k * sz + j < i * sz + off ∨ i * sz + off + vs.length ≤ k * sz + j := by
      rcases Nat.lt_or_ge k i with h5 | h5
      · have : (k + 1) * sz ≤ i * sz := Nat.mul_le_mul_right _ h5
        rw [Nat.add_mul, Nat.one_mul] at this
        exact .inl (by omega)
      · have : (i + 1) * sz ≤ k * sz := Nat.mul_le_mul_right _ (by omega)
        rw [Nat.add_mul, Nat.one_mul] at this
        exact .inr (by omega)
    rcases hcase with h5 | h5
    · rw [if_pos h5]; exact h3
    · rw [if_neg (by omega), if_neg (by omega)]; exact h3
end

section
variable {E : Env} {N : Nat} {ops : Array Oper} {Q : Exit → St → Prop} {rest : List Oper} {sl : Slots} {H H' : List AO}
end
end Go.Proofs.YtkljmljkiodnpaaGreatDoor.L

namespace Go.Proofs.YtkljmljkiodnpaaGreatDoor.L
open Go Go.RowKit

def immNew (w w' : World) (I : Imm) : Imm := fun b o => I b o ∨ (w.heap.size ≤ b ∧ ∃ v, w'.cell? ⟨b, o, none⟩ = some v)
theorem b5d {E : Env} {I : Imm} {ν : Nu} {H : List AO} {w w' : World} (hh : HR E I ν H w) (hb : Below w.heap.size w w') : ImmLe w I w' (immNew w w' I) :=
  ⟨fun b o h => .inl h, fun b o h => (hh.later hb).2.2.2 b o h⟩

theorem a9e {E : Env} {f : Nat} {args : List AV} {R : AV → Prop} (h : ∀ I ν w (vs : List Value), HR E I ν [] w → args.length = vs.length → (∀ (j : Nat) x v, args[j]? = some x → vs[j]? = some v → VR w I ν x v) →
      Calls E.P f vs.toArray w fun e w' => ∃ rv v, R rv ∧ clB 0 rv = true ∧ e = .returned v ∧ Below w.heap.size w w' ∧ VR w' (immNew w w' I) ν rv v) : PCalls E f args R := by
  intro I ν w vs hh hl hv
  refine (h I ν w vs hh hl hv).mono ?_
  rintro e w' ⟨rv, v, hR, hc, rfl, hb, hvr⟩
  have hI := b5d hh hb
  refine ⟨rv, [], immNew w w' I, ν, v, ⟨hR, hc⟩, rfl, hvr, ⟨hh.n, hh.below.trans (hb.mono hh.base), Nat.le_trans hh.base hb.size, fun b o hi => ?_, fun id o h => by simp at h, fun id id' o o' b h => by simp at h⟩,
    ⟨hI, hb.size, fun b o hi => ?_, fun b hk _ => hb.block b hk, fun b ⟨id, o, h, _⟩ => by simp at h, fun id hk _ => by simp at hk, fun id hk _ => by simp at hk⟩⟩
  · rcases hi with hi | ⟨_, hi⟩
    · obtain ⟨u, hu⟩ := hh.imm b o hi
      exact ⟨u, (hI.2 b o hi).trans hu⟩
    · exact hi
  · rcases hi with hi | ⟨hi, _⟩
    · exact .inl hi
    · exact .inr (.inr hi)

theorem a3n {E : Env} {f : Nat} {args : List AV} {c : AV} (hc : clB 0 c = true) (h : ∀ I ν w (vs : List Value), HR E I ν [] w → args.length = vs.length → (∀ (j : Nat) x v, args[j]? = some x → vs[j]? = some v → VR w I ν x v) →
      ∃ u, (∀ w I, VR w I ν c u) ∧ Calls E.P f vs.toArray w fun e w' => e = .returned u ∧ Below w.heap.size w w') : PCalls E f args fun rv => rv = c := by
  refine a9e fun I ν w vs hh hl hv => ?_
  obtain ⟨u, h1, h2⟩ := h I ν w vs hh hl hv
  exact h2.mono fun e w' ⟨he, hb⟩ => ⟨c, u, rfl, hc, he, hb, h1 _ _⟩

theorem FR.same {k k' : Nat} {w w' : World} {I I' : Imm} {ν : Nu} {objs objs' : List AO} (h : FR k w I ν objs w' I' ν objs') (hg : ∀ id, id < k' → objs[id]? = some .gone → objs'[id]? = some .gone) : FR k' w I ν objs w' I' ν objs' :=
  ⟨h.imm, h.size, h.new, h.keep, h.foot, (Nu.le.refl ν).ag _, fun id hk h1 => ⟨rfl, hg id hk h1⟩⟩

def row1 (enc : AV) : List AV := [enc]
end Go.Proofs.YtkljmljkiodnpaaGreatDoor.L

namespace Go.Proofs.YtkljmljkiodnpaaGreatDoor.L
open Go Go.RowKit

abbrev bytesAV (l : List UInt8) : List (List AV) := l.map fun b => [.int .u8 (b.toNat : Int)]
def isPtr : AV → Bool
  | .op _ _ => true
  | .rp _ => true
  | .ad _ _ => true
  | .er _ _ _ _ _ => true
  | _ => false
theorem VR.ptr {w : World} {I : Imm} {ν : Nu} {x : AV} {v : Value} (h : VR w I ν x v) (hp : isPtr x = true) : ∃ a : Addr, v = .pointer (some a) := by
  cases h with
  | op id off b hi h => exact ⟨_, rfl⟩
  | er id ver sz i off g n c hi hv h => exact ⟨_, rfl⟩
  | pure h => cases h <;> first | exact ⟨_, rfl⟩ | simp [isPtr] at hp
  | _ => simp [isPtr] at hp

section
variable {E : Env} {N : Nat} {ops : Array Oper} {Q : Exit → St → Prop} {rest : List Oper} {sl : Slots} {H H' : List AO}
theorem VR.nilp_inv {w : World} {I : Imm} {ν : Nu} {v : Value} (h : VR w I ν .nilp v) : v = .pointer none := by
  cases h with
  | pure h => cases h; rfl
theorem a9f {t t' e : Nat} {n b : Nat} {z : Value} [ti : TI E.P t (.pointer e) n b z] {x y : Operand} (hx : ev sl x = some .nilp) (hy : ev sl y = some .nilp) : OV E sl H (.binOp .eql t x y t') (.bool true) := by
  intro I ν a w hh hs
  have e1 := (a2q hs hx).nilp_inv
  have e2 := (a2q hs hy).nilp_inv
  refine ⟨_, .pure (.bool true), fun o w' ho _ => ?_⟩
  have h : ∀ d : Nat, (Op.equalIn (d + 1) t (.pointer none) (.pointer none)).run E.P w' = .ok true w' := fun d => by simp [Op.equalIn, run_underlying ti.u]
  simp [execOp, ho, e1, e2, eqGuard, binOp, Op.equal, Op.maxDepth, h 9999]
theorem a2y {t t' e : Nat} {n b : Nat} {z : Value} [ti : TI E.P t (.pointer e) n b z] {x y : Operand} {pv : AV} (hx : ev sl x = some pv) (hp : isPtr pv = true) (hy : ev sl y = some .nilp) : OV E sl H (.binOp .eql t x y t') (.bool false) := by
  intro I ν a w hh hs
  obtain ⟨p, e1⟩ := (a2q hs hx).ptr hp
  have e2 := (a2q hs hy).nilp_inv
  refine ⟨_, .pure (.bool false), fun o w' ho _ => ?_⟩
  have h : ∀ d : Nat, (Op.equalIn (d + 1) t (.pointer (some p)) (.pointer none)).run E.P w' = .ok false w' := fun d => by simp [Op.equalIn, run_underlying ti.u]
  simp [execOp, ho, e1, e2, eqGuard, binOp, Op.equal, Op.maxDepth, h 9999]
theorem b4w {t t' e : Nat} {n b n' b' : Nat} {z z' : Value} {dd : Bool} [ti : TI E.P t (.pointer e) n b z] [te : TZ E.P e dd n' b' z'] {x y : Operand} {id off : Nat} (hx : ev sl x = some (.op id off)) (hy : ev sl y = some (.op id off)) : OV E sl H (.binOp .neq t x y t') (.bool false) := by
  intro I ν a w hh hs
  have e1 := a2q hs hx
  have e2 := a2q hs hy
  obtain ⟨v1, h1⟩ : ∃ v, a.eval x = v := ⟨_, rfl⟩
  obtain ⟨v2, h2⟩ : ∃ v, a.eval y = v := ⟨_, rfl⟩
  rw [h1] at e1
  rw [h2] at e2
  obtain ⟨j, hj, _⟩ := te.bytes
  cases e1 with
  | pure h => cases h
  | op _ _ b1 hi1 hb1 =>
    cases e2 with
    | pure h => cases h
    | op _ _ b2 hi2 hb2 =>
      rw [hb1] at hb2
      injection hb2 with hb2; injection hb2 with hb2; injection hb2 with hb2
      subst hb2
      refine ⟨_, .pure (.bool false), fun o w' ho _ => ?_⟩
      have := Lib.run_neq_ptr_same (P := E.P) (w := w') (tp := t) ⟨b1, off, none⟩ ti.u hj
      simp [execOp, ho, h1, h2, eqGuard, this]

theorem b3z {I : Imm} {ν : Nu} {w : World} (hh : HR E I ν H w) {id T : Nat} {cells : List AV} (hH : H[id]? = some (.box cells (some T))) {off : Nat} {v : Value} (hv : VR w I ν (.op id off) v) : ∃ b, v = .pointer (some ⟨b, off, none⟩) ∧ ∀ w', Still ν H I w w' → w'.shape? b = some (T, cells.length) := by
  cases hv with
  | pure h => cases h
  | op _ _ b hi hb =>
    cases hh.obj id _ hH with
    | box _ _ b' vs ty hv' hbase hheap hl hx hI hty =>
      rw [hb] at hv'
      injection hv' with e; injection e with e; injection e with e
      subst e
      have hT := hty T rfl
      subst hT
      refine ⟨b, rfl, fun w' hw => ?_⟩
      have := (hw.obj id _ b hH (by simp only [OB, OB1, hb])).trans hheap
      simp [World.shape?, this, hl]
theorem b7r {src dst t n b n' b' n2 b2 : Nat} {z z' z2 : Value} {dd : Bool} [ts : TI E.P src (.pointer t) n b z] [td : TI E.P dst .unsafePointer n' b' z'] [te : TZ E.P t dd n2 b2 z2] {x : Operand} {id off T : Nat} {cells : List AV} (hx : ev sl x = some (.op id off)) (hH : H[id]? = some (.box cells (some T))) (hn : n2 ≠ 0) (ho : off < cells.length) :
    OV E sl H (.convert src dst x) (.op id off) := by
  intro I ν a w hh hs
  obtain ⟨bk, hv, hsh⟩ := b3z hh hH (a2q hs hx)
  obtain ⟨j, hj1, hj2, hj3, _⟩ := te.bytes
  refine ⟨_, a2q hs hx, fun o w' ho' hw => ?_⟩
  have := Lib.run_to_unsafe (P := E.P) (w := w') (src := src) (dst := dst) ⟨bk, off, none⟩ ts.u td.u hj1 (by omega) (hsh w' hw) ho
  simp [execOp, ho', hv, this]
theorem b3i {src dst u n b n' b' n2 b2 : Nat} {z z' z2 : Value} {dd : Bool} [ts : TI E.P src .unsafePointer n b z] [td : TI E.P dst (.pointer u) n' b' z'] [te : TZ E.P u dd n2 b2 z2] {x : Operand} {id off T : Nat} {cells : List AV} (hx : ev sl x = some (.op id off)) (hH : H[id]? = some (.box cells (some T))) (hl : liesAt E.P E.P.depth T (cells.length / E.P.cellsOf T) off u 1 = true) :
    OV E sl H (.convert src dst x) (.op id off) := by
  intro I ν a w hh hs
  obtain ⟨bk, hv, hsh⟩ := b3z hh hH (a2q hs hx)
  obtain ⟨j, hj1, _⟩ := te.bytes
  refine ⟨_, a2q hs hx, fun o w' ho' hw => ?_⟩
  have := Lib.run_from_unsafe (P := E.P) (w := w') (src := src) (dst := dst) ⟨bk, off, none⟩ ts.u td.u hj1 (hsh w' hw) hl
  simp [execOp, ho', hv, this]
theorem c5r {g : Nat} (hf : ∀ x w, (callFunc g #[x]).run E.P w = .ok (.value x) w) {x : Operand} {xv : AV} (hx : ev sl x = some xv) {tys : Array TypeId} : OV E sl H (.call { callee := .value (.func g), args := #[x], argTypes := tys }) xv := by
  intro I ν a w hh hs
  refine ⟨_, a2q hs hx, fun o w' ho _ => ?_⟩
  have e1 : a.eval (.func g) = .func (.func g) #[] #[] := rfl
  simp [execOp, ho, resolve, e1, Deferred.ofValue, invoke, hf]

theorem c1k {l : List UInt8} {i : Nat} {row : List AV} (h : (bytesAV l)[i]? = some row) : ∃ b, l[i]? = some b ∧ row = [.int .u8 (b.toNat : Int)] := by
  rw [List.getElem?_map] at h
  obtain ⟨z, h1, h2⟩ := Option.map_eq_some_iff.1 h
  exact ⟨z, h1, h2.symm⟩
theorem a8d {w : World} {I : Imm} {l : List UInt8} : RowRel w I 1 (bytesAV l) (l.map fun b => Value.int .u8 (b.toNat : Int)) := by
  refine ⟨by simp, fun i c hc => ?_⟩
  obtain ⟨z, h1, rfl⟩ := c1k hc
  refine ⟨rfl, fun j x hj => ?_⟩
  cases j with
  | zero =>
    simp at hj
    subst hj
    exact ⟨_, by simp [h1], .int .u8 _⟩
  | succ j => simp at hj
theorem a5h {w : World} {I : Imm} {l : List UInt8} {inner : List Value} (h : RowRel w I 1 (bytesAV l) inner) : inner = l.map fun b => Value.int .u8 (b.toNat : Int) := by
  refine List.ext_getElem? fun i => ?_
  rw [List.getElem?_map]
  rcases Nat.lt_or_ge i l.length with hi | hi
  · obtain ⟨u, h1, h2⟩ := (h.2 i [.int .u8 (l[i].toNat : Int)] (by simp [hi])).2 0 _ rfl
    rw [Nat.mul_one, Nat.add_zero] at h1
    rw [h1, List.getElem?_eq_getElem hi]
    cases h2
    rfl
  · rw [List.getElem?_eq_none (by rw [h.1]; simpa using hi), List.getElem?_eq_none hi]
    rfl

inductive IsBytes (l : List UInt8) (ver : Nat) : AO → Prop where
  | row (e fz : Nat) : IsBytes l ver (.row e 1 ver fz (bytesAV l))
  | arr (e : Nat) (wr : Bool) : IsBytes l ver (.arr e 1 ver (bytesAV l) wr)
theorem a9w {I : Imm} {ν : Nu} {w : World} (hh : HR E I ν H w) {id ver : Nat} {l : List UInt8} {o : AO} (hH : H[id]? = some o) (hb : IsBytes l ver o) {v : Value} (hv : VR w I ν (.os id ver) v) :
    v = ν.val id ver ∧ ((v = .slice none 0 0 ∧ l = []) ∨ ∃ g c cur e fr, v = .slice (some ⟨g, 0, none⟩) l.length c ∧ l.length ≤ c ∧ OB ν id o g ∧ w.heap[g]? = some (.cells cur e fr) ∧ l.length ≤ cur.size ∧ cur.toList.take l.length = l.map fun b => Value.int .u8 (b.toNat : Int)) := by
  cases hv with
  | pure h => cases h
  | os _ _ A n c hi hver hs =>
  refine ⟨hs.symm, ?_⟩
  cases hb with
  | row e fz =>
    cases hh.obj id _ hH with
    | row _ _ _ _ _ inner ht h0 ho hr hf hI =>
      have hin := a5h hr
      subst hin
      rw [hs] at ho
      have hbl : (bytesAV l).length = l.length := List.length_map _
      rcases ho.2 with ⟨h1, h2⟩ | ⟨g, cap, cur, h1, h2, h3, h4, h5, h6, h7⟩
      · exact .inl ⟨h1, List.eq_nil_of_length_eq_zero (by omega)⟩
      · rw [Nat.mul_one] at h6 h7
        refine .inr ⟨g, cap, cur, e, _, by rw [h1, hbl], by omega, by simp only [OB, OB1, hs, h1, Value.ownBlock], h3, by omega, by rw [← hbl]; exact h7⟩
  | arr e wr =>
    cases hh.obj id _ hH with
    | arr _ _ _ _ _ g c' cur fr ht h0 hv hb hheap hfr hl hcc hr hI =>
      have hin := a5h hr
      have hbl : (bytesAV l).length = l.length := List.length_map _
      rw [Nat.mul_one, hbl] at hin hl
      rw [hs] at hv
      exact .inr ⟨g, c', cur, e, fr, by rw [hv, hbl], by omega, by simp only [OB, OB1, hs, hv, Value.ownBlock], hheap, hl, hin⟩

theorem b1d {w : World} {g : Nat} {cur : Array Value} {e : TypeId} {fr : Nat × Nat} {l : List UInt8} (h : w.heap[g]? = some (.cells cur e fr)) (ht : cur.toList.take l.length = l.map fun b => Value.int .u8 (b.toNat : Int)) {j : Nat} {x : UInt8} (hj : l[j]? = some x) : w.cell? ((⟨g, 0, none⟩ : Addr).add j) = some (.int .u8 (x.toNat : Int)) := by
  rw [a4s]
  have h1 : (cur.toList.take l.length)[j]? = some (.int .u8 (x.toNat : Int)) := by rw [ht]; simp [hj]
  rw [List.getElem?_take] at h1
  split at h1
  · simp only [World.cell?, h, Nat.zero_add]
    simpa using h1
  · cases h1

theorem a6u {src dst e n b n' b' n2 b2 : Nat} {z z' z2 : Value} [ts : TI E.P src (.slice e) n b z] [td : TI E.P dst .string n' b' z'] [te : TI E.P e (.int .u8) n2 b2 z2] {x : Operand} {id ver : Nat} {l : List UInt8} {o : AO} (hx : ev sl x = some (.os id ver)) (hH : H[id]? = some o) (hb : IsBytes l ver o) :
    OV E sl H (.convert src dst x) (.str l) := by
  intro I ν a w hh hs
  obtain ⟨_, hv⟩ := a9w hh hH hb (a2q hs hx)
  refine ⟨_, .pure (.str l), fun o' w' ho hw => ?_⟩
  rcases hv with ⟨hv, rfl⟩ | ⟨g, c, cur, e', fr, hv, hlc, hob, hheap, hl, ht⟩
  · have := run_convert_bytes_string (P := E.P) w' src dst e none 0 0 ts.u te.u td.u
    simp [execOp, ho, hv, this, Conv.bytesToString]
    rfl
  · have hheap' := (hw.obj id _ g hH hob).trans hheap
    have := run_convert_bytes_back (P := E.P) w' src dst e ⟨g, 0, none⟩ c l ts.u te.u td.u (fun j hj => b1d hheap' ht (List.getElem?_eq_getElem hj))
    simp [execOp, ho, hv, this]

theorem b5x {src dst e n b n' b' n2 b2 : Nat} {z z' z2 : Value} [ts : TI E.P src .string n b z] [td : TI E.P dst (.slice e) n' b' z'] [te : TI E.P e (.int .u8) n2 b2 z2] {x : Operand} {s : List UInt8} {ty : TypeId} {pos : String} {after : Array Edge} {d m : Nat} (hx : ev sl x = some (.str s)) (hm : H.length = m) (hH : Snoc H (.arr e 1 0 (bytesAV s) true) H') (hd : Nat.blt d N = true)
    (h : AL E N ops Q rest ⟨(d, .os m 0) :: sl, H'⟩) : AL E N ops Q (⟨some d, .convert src dst x, ty, pos, after, none⟩ :: rest) ⟨sl, H⟩ := by
  subst hm
  rw [hH.eq] at h
  refine a6c hd (fun I ν a w hh hs => ?_) h
  have e1 := (a2q hs hx).str_inv
  obtain ⟨w', hw'⟩ : ∃ w', w' = Lib.bytesWorld w e ⟨s.toArray⟩ := ⟨_, rfl⟩
  have hrun := Lib.run_convert_string_bytes (P := E.P) w src dst e ⟨s.toArray⟩ ts.u td.u te.u
  rw [← hw'] at hrun
  have hold : ∀ k, k < w.heap.size → w'.heap[k]? = w.heap[k]? := fun k hk => by rw [hw']; exact Lib.bytesWorld_at_old w e _ k hk
  have hnew : w'.heap[w.heap.size]? = some (.cells (Lib.bytesCells w e ⟨s.toArray⟩) e ((Lib.bytesCells w e ⟨s.toArray⟩).size, (Lib.bytesCells w e ⟨s.toArray⟩).size + 1)) := by rw [hw']; exact Lib.bytesWorld_at_new w e _
  have hbs : s.length ≤ (Lib.bytesCells w e ⟨s.toArray⟩).size := by simp [Lib.bytesCells]
  have hbel : Below E.base E.w0 w' := by
    refine hh.below.trans ⟨?_, ?_, ?_, ?_, fun k hk => hold k (Nat.lt_of_lt_of_le hk hh.base)⟩
    all_goals rw [hw']
    · simp [Lib.bytesWorld, World.freeze, World.alloc, World.drew, -World.alloc_eq, -World.drew_eq]
    · simp [Lib.bytesWorld, World.freeze, World.alloc, World.drew, -World.alloc_eq, -World.drew_eq]
    · simp [Lib.bytesWorld, World.freeze, World.alloc, World.drew, -World.alloc_eq, -World.drew_eq]
    · rw [Lib.bytesWorld_size]; omega
  have hbl : (bytesAV s).length = s.length := List.length_map _
  have hp := hh.push (o := .arr e 1 0 (bytesAV s) true) (t := 0) (f := fun _ => .slice (some ⟨w.heap.size, 0, none⟩) s.length (grownCap w s.length 0 e)) (w' := w') hbel (by rw [hw', Lib.bytesWorld_size]; omega) hold
    (.arr e 1 0 (bytesAV s) true w.heap.size _ _ _ (Nat.zero_le _) (by decide) (by simp [Nu.add]; rfl) hh.base hnew (fun _ => by rw [hbl]; simpa using hbs) (by rw [hbl]; simpa using hbs) (by rw [hbl]; exact grownCap_ge w s.length 0 e) (by
      rw [hbl, Nat.mul_one]
      have : (Lib.bytesCells w e ⟨s.toArray⟩).toList.take s.length = s.map fun b => Value.int .u8 (b.toNat : Int) := by
        simp only [Lib.bytesCells, Array.toList_append]
        rw [List.take_append_of_le_length (by simp)]
        rw [List.take_of_length_le (by simp)]
        simp
      rw [this]
      exact a8d) (fun o ho => by
        obtain ⟨v, hv⟩ := hh.imm _ _ ho
        have := World.block_lt_of_cell? w _ hv
        simp at this))
    (fun b hb => by simp [OB, OB1, Nu.add, Value.ownBlock] at hb; omega)
  refine ⟨_, _, _, fun o ho => ?_, hp.1, hp.2.1, ν.add_le _ _, .os _ 0 (some ⟨w.heap.size, 0, none⟩) s.length (grownCap w s.length 0 e) (by simp [Nu.add, hh.n]) (by simp [Nu.add, hh.n]) (by simp [Nu.add, hh.n])⟩
  simp [execOp, ho, e1, hrun]
  exact ⟨rfl, rfl⟩
end
end Go.Proofs.YtkljmljkiodnpaaGreatDoor.L

namespace Go.Proofs.YtkljmljkiodnpaaGreatDoor.L
open Go Go.RowKit

section
variable {E : Env} {N : Nat} {ops : Array Oper} {Q : Exit → St → Prop} {rest : List Oper} {sl : Slots} {H H' : List AO}
theorem c1m {I : Imm} {ν : Nu} {w : World} (hh : HR E I ν H w) {id ver sz e : Nat} {wr : Bool} {xs : List (List AV)} (hH : H[id]? = some (.arr e sz ver xs wr)) {v : Value} (hv : VR w I ν (.os id ver) v) :
    ∃ g c, v = .slice (some ⟨g, 0, none⟩) xs.length c ∧ ν.val id ver = v ∧ id < ν.n ∧ ver ≤ ν.top id := by
  cases hv with
  | pure h => cases h
  | os _ _ A n c hi hver hs =>
    cases hh.obj id _ hH with
    | arr _ _ _ _ _ g c' cur fr ht h0 hv hb hheap hfr hl hcc hr hI =>
      rw [hs] at hv
      exact ⟨g, c', hv, hs, hi, hver⟩
theorem a5t {t e : Nat} {n b n' b' : Nat} {z z' : Value} {d' : Bool} [ti : TI E.P t (.slice e) n b z] [te : TZ E.P e d' n' b' z'] {x i : Operand} {id ver ver' sz e' : Nat} {wr : Bool} {xs : List (List AV)} {k : IntKind} {m : Int}
    (hx : ev sl x = some (.os id ver)) (hi : ev sl i = some (.int k m)) (hH : H[id]? = some (.arr e' sz ver' xs wr)) (hver : ver = ver') (hsz : sz = n') (h0 : 0 ≤ m) (h1 : m < (xs.length : Int)) : OV E sl H (.indexAddr t x i) (.er id ver sz m.toNat 0) := by
  intro I ν a w hh hs
  have hi' := (a2q hs hi).int_inv
  subst hver; subst hsz
  obtain ⟨g, c, hv, hval, hid, hle⟩ := c1m hh hH (a2q hs hx)
  refine ⟨.pointer (some ⟨g, m.toNat * sz + 0, none⟩), .er id ver sz m.toNat 0 g xs.length c hid hle (hval.trans hv), fun o w' ho hb => ?_⟩
  simp [execOp, ho, hv, hi', Instr.indexAt, asIntOf, ti.und, h0, h1, te.size, a4s]
theorem a7j {t e : Nat} {n b : Nat} {z : Value} [ti : TI E.P t (.slice e) n b z] {x : Operand} {id ver ver' sz e' : Nat} {wr : Bool} {xs : List (List AV)} (hx : ev sl x = some (.os id ver)) (hH : H[id]? = some (.arr e' sz ver' xs wr)) (hver : ver = ver') :
    OV E sl H (.call { callee := .builtin .len, args := #[x], argTypes := #[t] }) (.int .i64 (xs.length : Int)) := by
  intro I ν a w hh hs
  subst hver
  obtain ⟨g, c, hv, hval, hid, hle⟩ := c1m hh hH (a2q hs hx)
  refine ⟨_, .pure (.int .i64 _), fun o w' ho hb => ?_⟩
  simp [execOp, ho, hv, resolve, invoke, builtin, Builtin.len_, ti.und, goInt]

theorem b4g {t : Nat} {dd : Bool} {b : Nat} {z : Value} [ti : TZ E.P t dd 1 b z] {p x : Operand} {id ver ver' e i : Nat} {xs xs' : List (List AV)} {c : List AV} {xv : AV} {ty : TypeId} {pos : String} {after : Array Edge}
    (hp : ev sl p = some (.er id ver 1 i 0)) (hx : ev sl x = some xv) (hpu : xv.pu = true) (hce : xv.cell = true)
    (hU : Upd id H (.arr e 1 ver' xs true) (.arr e 1 ver' xs' true) H') (hv : ver = ver') (hi : xs[i]? = some c) (hxs : xs' = xs.set i [xv])
    (h : AL E N ops Q rest ⟨sl, H'⟩) : AL E N ops Q (⟨none, .store t p x, ty, pos, after, none⟩ :: rest) ⟨sl, H⟩ := by
  obtain ⟨hid, hset⟩ := hU.eq
  subst hset; subst hv
  refine b2j (fun I ν a w hh hs => ?_) h
  have hxv := a2q hs hx
  obtain ⟨hcv, hone⟩ := hxv.cell1 hce
  have hxp := hxv.pu hpu
  have hp' := a2q hs hp
  obtain ⟨pv, hpv⟩ : ∃ v, a.eval p = v := ⟨_, rfl⟩
  rw [hpv] at hp'
  cases hp' with
  | pure hp' => cases hp'
  | er _ _ _ _ _ g nn cc hidl hver hval =>
  cases hh.obj id _ hid with
  | arr _ _ _ _ _ g' c' cur fr ht h0 hv' hb hheap hfr hl hcc hr hI =>
  rw [hval] at hv'
  injection hv' with e1 e2 e3
  injection e1 with e1
  injection e1 with e1
  subst e1
  rw [Nat.mul_one] at hl hfr hr
  have hil := (List.getElem?_eq_some_iff.1 hi).1
  obtain ⟨u, hu⟩ : ∃ u, a.eval x = u := ⟨_, rfl⟩
  rw [hu] at hxp hcv hone hxv
  have hcl : c = [c.getD 0 .any] := by
    have := (hr.2 i c hi).1
    match c, this with
    | [y], _ => rfl
  have hP : PutN 0 c [xv] [xv] := by rw [hcl]; exact .here .done
  obtain ⟨w', hw'⟩ : ∃ w', w' = w.setCell ⟨g, i, none⟩ u := ⟨_, rfl⟩
  have hcell : w.cell? ⟨g, i, none⟩ = some (cur[i]'(by omega)) := by simp [World.cell?, hheap]
  have hfz : w.frozen? ⟨g, i, none⟩ = false := by
    have := hfr rfl
    simp [World.frozen?, hheap]
    intro h
    omega
  have hst := run_store E.P w ⟨g, i, none⟩ u .plain hone
  rw [hcell] at hst
  simp only [hfz, Bool.false_eq_true, if_false] at hst
  rw [← hw'] at hst
  have hheap' : w'.heap[g]? = some (.cells (cur.setIfInBounds i u) e fr) := by
    rw [hw']
    simp [World.setCell, Array.getElem?_modify, hheap]
  have hfar : ∀ k, k ≠ g → w'.heap[k]? = w.heap[k]? := fun k hk => by
    rw [hw']
    simp [World.setCell, Array.getElem?_modify, Ne.symm hk]
  have hsz : w'.heap.size = w.heap.size := by rw [hw']; simp [World.setCell]
  have hIm : ImmLe w I w' I := ImmLe.heap hh fun k _ ⟨o, ho⟩ => hfar k fun e => hI o (e ▸ ho)
  obtain ⟨hrel, hin⟩ := b7n (w' := w') (vs := [u]) hr hi hP hxs rfl hIm (fun j y v h1 h2 => by
    cases j with
    | zero => simp at h1 h2; subst h1; subst h2; exact hxp
    | succ j => simp at h1)
  rw [Nat.mul_one, Nat.add_zero] at hrel
  have htake : (cur.setIfInBounds i u).toList.take xs'.length = (cur.toList.take xs.length).take i ++ [u] ++ (cur.toList.take xs.length).drop (i + [u].length) := by
    have hlx : xs'.length = xs.length := by rw [hxs]; simp
    rw [hlx]
    refine List.ext_getElem? fun k => ?_
    rw [List.getElem?_take, Array.getElem?_toList, Array.getElem?_setIfInBounds]
    by_cases k1 : k < i
    · rw [List.append_assoc, List.getElem?_append_left (by simp; omega), List.getElem?_take_of_lt k1, List.getElem?_take_of_lt (by omega), if_pos (by omega), if_neg (by omega), Array.getElem?_toList]
    · by_cases k2 : k = i
      · subst k2
        rw [if_pos hil, if_pos rfl, if_pos (by omega), List.append_assoc, List.getElem?_append_right (by simp; omega)]
        simp only [List.length_take, Array.length_toList, List.singleton_append]
        rw [show k - min k (min xs.length cur.size) = 0 by omega]
        rfl
      · rw [List.getElem?_append_right (by simp; omega)]
        have e : ((cur.toList.take xs.length).take i ++ [u]).length = i + 1 := by simp; omega
        rw [e, List.getElem?_drop, show i + [u].length + (k - (i + 1)) = k by simp; omega, List.getElem?_take, if_neg (Ne.symm k2), Array.getElem?_toList]
  have hlx : xs'.length = xs.length := by rw [hxs]; simp
  have hOB : OB ν id (.arr e 1 ver xs true) g := by simp only [OB, OB1, hval, Value.ownBlock]
  have hbel : Below E.base E.w0 w' := by
    refine hh.below.trans ⟨?_, ?_, ?_, by omega, fun k hk => hfar k (by omega)⟩
    all_goals rw [hw']; rfl
  have := hh.set (o' := .arr e 1 ver xs' true) (w' := w') hid (fun e => by cases e) (Nu.le.refl ν) rfl (fun _ _ => rfl) hbel (by omega) (fun k _ hk => hfar k (fun e => hk (by rw [e]; exact hOB))) hIm
    (.arr e 1 ver xs' true g c' (cur.setIfInBounds i u) fr ht (by decide) (by rw [hval, hlx, e2, e3]) hb hheap' (fun _ => by rw [hlx, Nat.mul_one]; exact hfr rfl) (by rw [hlx, Nat.mul_one]; simpa using hl) (by omega) (by rw [Nat.mul_one, htake]; exact hrel) hI)
    (fun b' hb' => by simp only [OB, OB1, hval, Value.ownBlock, Option.some.injEq] at hb'; exact .inl (by rw [← hb']; exact hOB))
  refine ⟨w', ν, fun o ho => ?_, this.1, this.2, Nu.le.refl ν⟩
  simp [execOp, ho, Instr.storeAt, Instr.sureAddr, hpv, storeVar, hu, hcv, ti.size, storeCells, Addr.add, hst]

theorem VR.os_id {w : World} {I : Imm} {ν : Nu} {id ver : Nat} {v : Value} (h : VR w I ν (.os id ver) v) : id < ν.n ∧ ver ≤ ν.top id := by
  cases h with
  | pure h => cases h
  | os _ _ A n c hi hver hs => exact ⟨hi, hver⟩
theorem c4f {x : Operand} {id ver : Nat} {l : List UInt8} {o : AO} {tys : Array TypeId} (hx : ev sl x = some (.os id ver)) (hH : H[id]? = some o) (hb : IsBytes l ver o) (hne : l ≠ []) :
    OV E sl H (.call { callee := .builtin .unsafeSliceData, args := #[x], argTypes := tys }) (.er id ver 1 0 0) := by
  intro I ν a w hh hs
  have hos := a2q hs hx
  obtain ⟨hval, hv⟩ := a9w hh hH hb hos
  rcases hv with ⟨_, e⟩ | ⟨g, c, cur, e', fr, hv, hlc, hob, hheap, hl, ht⟩
  · exact absurd e hne
  have hlp : 0 < l.length := List.length_pos_iff.2 hne
  obtain ⟨hid, hle⟩ := hos.os_id
  refine ⟨.pointer (some ⟨g, 0 * 1 + 0, none⟩), .er id ver 1 0 0 g l.length c hid hle (by rw [← hval, hv]), fun o' w' ho hw => ?_⟩
  have := Lib.run_unsafeSliceData_row (P := E.P) (w := w') tys o'.type ⟨g, 0, none⟩ l.length c (by omega)
  simp [execOp, ho, hv, resolve, invoke, builtin, this]
theorem c2c {I : Imm} {ν : Nu} {a : Act} {w : World} {x : Operand} {id ver e : Nat} {n b : Nat} {z : Value} {o : AO} {tys : Array TypeId} {ty : TypeId} [ti : TI E.P ty (.pointer e) n b z] (hh : HR E I ν H w) (hs : SlR w I ν sl a) (hx : ev sl x = some (.os id ver)) (hH : H[id]? = some o) (hb : IsBytes [] ver o) (d : Option Nat) (pos : String) (after : Array Edge) (g : Option (Nat × Bool)) :
    ∃ w' q, (execOp a.eval ⟨d, .call { callee := .builtin .unsafeSliceData, args := #[x], argTypes := tys }, ty, pos, after, g⟩).run E.P w = .ok (.value (.pointer q)) w' ∧ Below w.heap.size w w' ∧ ∀ A, q = some A → ∃ g, A = ⟨g, 0, none⟩ := by
  obtain ⟨hval, hv⟩ := a9w hh hH hb (a2q hs hx)
  rcases hv with ⟨hv, _⟩ | ⟨g, c, cur, e', fr, hv, hlc, hob, hheap, hl, ht⟩
  · have := Lib.run_unsafeSliceData_nil (P := E.P) (w := w) tys ty 0 0
    exact ⟨w, none, by simp [execOp, hv, resolve, invoke, builtin, this], Below.refl _ _, fun A h => by cases h⟩
  · by_cases hc : c = 0
    · subst hc
      have := Lib.run_unsafeSliceData_zero (P := E.P) (w := w) tys ty e ti.u ⟨g, 0, none⟩ 0 (e', cur.size) (by simp [World.shape?, hheap])
      exact ⟨w.alloc (.view ⟨g, 0, none⟩ e), some ⟨w.heap.size, 0, none⟩, by simp [execOp, hv, resolve, invoke, builtin, this], Below.alloc (Below.refl _ _) (Nat.le_refl _) _, fun A h => ⟨_, by injection h with h; exact h.symm⟩⟩
    · have := Lib.run_unsafeSliceData_row (P := E.P) (w := w) tys ty ⟨g, 0, none⟩ 0 c hc
      exact ⟨w, some ⟨g, 0, none⟩, by simp [execOp, hv, resolve, invoke, builtin, this], Below.refl _ _, fun A h => ⟨_, by injection h with h; exact h.symm⟩⟩
theorem b8q {I : Imm} {ν : Nu} {w w' : World} {q : Option Addr} (hh : HR E I ν H w) (hb : Below w.heap.size w w') (hq : ∀ A, q = some A → ∃ g, A = ⟨g, 0, none⟩) : ∃ ν' pv, (isPtr pv = true ∨ pv = .nilp) ∧ HR E I ν' (H ++ [AO.gone]) w' ∧ FR E.k w I ν H w' I ν' (H ++ [AO.gone]) ∧ ν.le ν' ∧ VR w' I ν' pv (.pointer q) := by
  have hp := hh.push (o := .gone) (t := 0) (f := fun _ => .pointer q) (w' := w') (hh.below.trans (hb.mono hh.base)) hb.size (fun k hk => hb.block k hk) .gone (fun b h => by simp [OB, OB1] at h)
  cases q with
  | none => exact ⟨_, .nilp, .inr rfl, hp.1, hp.2.1, ν.add_le _ _, .pure .nilp⟩
  | some A =>
    obtain ⟨g, rfl⟩ := hq A rfl
    exact ⟨_, .op H.length 0, .inl rfl, hp.1, hp.2.1, ν.add_le _ _, .op _ 0 g (by simp [Nu.add, hh.n]) (by simp [Nu.add, hh.n])⟩
theorem c0m {τ : List (Nat × List Nat)} {p : PS} {pl : List PS} {x : Operand} {id ver e : Nat} {n b : Nat} {z : Value} {o : AO} {tys : Array TypeId} {ty : TypeId} [ti : TI E.P ty (.pointer e) n b z] {pos : String} {after : Array Edge} {d : Nat} (hx : ev sl x = some (.os id ver)) (hH : H[id]? = some o) (hb : IsBytes [] ver o) (hS : Snoc H .gone H') (hd : Nat.blt d N = true) (hq : p.q = false)
    (h : ∀ pv, isPtr pv = true ∨ pv = .nilp → HL E N ops τ Q pl ⟨(d, pv) :: sl, H'⟩) : HW E N ops τ Q p pl (some d) (.call { callee := .builtin .unsafeSliceData, args := #[x], argTypes := tys }) ty pos after ⟨sl, H⟩ := by
  rw [hS.eq] at h
  intro g hg hi hns L hL hp I ν a w hs w0 I0 ν0 o0 hf
  refine c0o hL hns hp hq hi hs hf ?_
  obtain ⟨w', q, hrun, hbel, hqq⟩ := c2c (tys := tys) (ty := ty) hs.hr hs.sl hx hH hb (some d) pos after g
  obtain ⟨ν', pv, hpv, p1, p2, p3, p4⟩ := b8q hs.hr hbel hqq
  refine b8p hi (hg I ν a w hs) ?_
  unfold Oper.wp
  rw [hrun]
  refine ⟨⟨(d, pv) :: sl, H ++ [AO.gone]⟩, I, ν', h pv hpv, ⟨p1, (hs.sl.mono p2.imm p3).put d p4 (by rw [hs.nt]; simpa [Nat.blt_eq] using hd), hs.df, by simp [Act.put, hs.nt]⟩, p2, fun id o b h1 _ h2 => ⟨hbel.block b (a5j (hs.hr.obj id o h1) h2).1, ?_, ?_⟩⟩
  · exact (List.getElem?_append_left (List.getElem?_eq_some_iff.1 h1).1).trans h1
  · rw [b0h (hs.hr.obj id o h1) p3 (hs.hr.idlt h1)]; exact h2
theorem b6o {p n : Operand} {pv : AV} {pt it : Nat} (hp : ev sl p = some pv) (hpp : isPtr pv = true ∨ pv = .nilp) (hn : ev sl n = some (.int .i64 0)) :
    OV E sl H (.call { callee := .builtin .unsafeString, args := #[p, n], argTypes := #[pt, it] }) (.str []) := by
  intro I ν a w hh hs
  have e2 := (a2q hs hn).int_inv
  obtain ⟨q, e1⟩ : ∃ q, a.eval p = .pointer q := by
    rcases hpp with h | rfl
    · obtain ⟨A, hA⟩ := (a2q hs hp).ptr h
      exact ⟨_, hA⟩
    · exact ⟨_, (a2q hs hp).nilp_inv⟩
  refine ⟨_, .pure (.str []), fun o w' ho hw => ?_⟩
  have := Lib.run_unsafeString_none (P := E.P) (w := w') pt it o.type q
  simp [execOp, ho, e1, e2, resolve, invoke, builtin, this]
  rfl

inductive Shares (l : List UInt8) (ver : Nat) : AO → AO → Prop where
  | row (e : Nat) : Shares l ver (.row e 1 ver 0 (bytesAV l)) (.arr e 1 ver (bytesAV l) false)
  | arr (e : Nat) (wr : Bool) : Shares l ver (.arr e 1 ver (bytesAV l) wr) (.arr e 1 ver (bytesAV l) false)
end
end Go.Proofs.YtkljmljkiodnpaaGreatDoor.L

namespace Go.Proofs.YtkljmljkiodnpaaGreatDoor.L
open Go Go.RowKit

theorem c0v {w : World} {g n : Nat} {cur : Array Value} {e : TypeId} {fr : Nat × Nat} (h : w.heap[g]? = some (.cells cur e fr)) : ∃ fr', (w.freeze ⟨g, 0, none⟩ n).heap[g]? = some (.cells cur e fr') := by
  unfold World.freeze
  split
  · exact ⟨fr, h⟩
  · simp only [Array.getElem?_modify, if_true, h, Option.map_some]
    exact ⟨_, rfl⟩
theorem b7y {w : World} {g n k : Nat} (hk : k ≠ g) : (w.freeze ⟨g, 0, none⟩ n).heap[k]? = w.heap[k]? := by
  unfold World.freeze
  split
  · rfl
  · simp only [Array.getElem?_modify]
    rw [if_neg (Ne.symm hk)]
theorem b5h {w : World} {g n : Nat} : (w.freeze ⟨g, 0, none⟩ n).heap.size = w.heap.size := by
  unfold World.freeze
  split
  · rfl
  · simp
section
variable {E : Env} {N : Nat} {ops : Array Oper} {Q : Exit → St → Prop} {rest : List Oper} {sl : Slots} {H H' : List AO}
theorem c1o {p n : Operand} {id ver e : Nat} {l : List UInt8} {o o' : AO} {pt it : Nat} {nn b : Nat} {z : Value} [ti : TI E.P pt (.pointer e) nn b z] {ty : TypeId} {pos : String} {after : Array Edge} {d : Nat} (hce : E.P.cellsOf e = 1)
    (hp : ev sl p = some (.er id ver 1 0 0)) (hn : ev sl n = some (.int .i64 (l.length : Int))) (hU : Upd id H o o' H') (hsh : (o = .row e 1 ver 0 (bytesAV l) ∨ ∃ wr, o = .arr e 1 ver (bytesAV l) wr) ∧ o' = .arr e 1 ver (bytesAV l) false) (hne : l ≠ []) (hlen : l.length ≤ 9223372036854775807) (hd : Nat.blt d N = true)
    (h : AL E N ops Q rest ⟨(d, .str l) :: sl, H'⟩) : AL E N ops Q (⟨some d, .call { callee := .builtin .unsafeString, args := #[p, n], argTypes := #[pt, it] }, ty, pos, after, none⟩ :: rest) ⟨sl, H⟩ := by
  obtain ⟨hid, hset⟩ := hU.eq
  subst hset
  obtain ⟨ho, rfl⟩ := hsh
  refine a6c hd (fun I ν a w hh hs => ?_) h
  have e2 := (a2q hs hn).int_inv
  have hp' := a2q hs hp
  obtain ⟨pv, hpv⟩ : ∃ v, a.eval p = v := ⟨_, rfl⟩
  rw [hpv] at hp'
  have hbl : (bytesAV l).length = l.length := List.length_map _
  have hlp : 0 < l.length := List.length_pos_iff.2 hne
  cases hp' with
  | pure hp' => cases hp'
  | er _ _ _ _ _ g n2 c hidl hver hval =>
  have key : ∃ cur fr, w.heap[g]? = some (.cells cur e fr) ∧ l.length ≤ cur.size ∧ n2 = l.length ∧ l.length ≤ c ∧ cur.toList.take l.length = (l.map fun b => Value.int .u8 (b.toNat : Int)) ∧ (∀ o, ¬ I g o) ∧ OB ν id o g ∧ o ≠ .gone ∧ E.base ≤ g := by
    rcases ho with rfl | ⟨wr, rfl⟩
    · cases hh.obj id _ hid with
      | row _ _ _ _ _ inner ht h0 hown hr hf hI =>
        have hin := a5h hr
        subst hin
        rw [hval] at hown hI
        rcases hown.2 with ⟨e1, e2⟩ | ⟨g', cap, cur, h1, h2, h3, h4, h5, h6, h7⟩
        · cases e1
        · injection h1 with h1 h1b h1c
          injection h1 with h1; injection h1 with h1
          subst h1
          rw [Nat.mul_one] at h6 h7
          refine ⟨cur, _, h3, by omega, by omega, by omega, by rw [← hbl]; exact h7, fun o hio => ?_, by simp only [OB, OB1, hval, Value.ownBlock], (fun e => by cases e), h2⟩
          have := hI g o rfl hio
          omega
    · cases hh.obj id _ hid with
      | arr _ _ _ _ _ g' c' cur fr ht h0 hv' hb hheap hfr hl hcc hr hI =>
        rw [hval] at hv'
        injection hv' with e1 e2 e3
        injection e1 with e1
        injection e1 with e1
        subst e1
        have hin := a5h hr
        rw [Nat.mul_one, hbl] at hl hin
        exact ⟨cur, fr, hheap, hl, by omega, by omega, hin, hI, by simp only [OB, OB1, hval, Value.ownBlock], (fun e => by cases e), hb⟩
  obtain ⟨cur, fr, hheap, hl, hn2, hlc, ht, hI, hOB, hng, hbase⟩ := key
  obtain ⟨w', hw'⟩ : ∃ w', w' = w.freeze ⟨g, 0, none⟩ l.length := ⟨_, rfl⟩
  obtain ⟨fr', hheap'⟩ := c0v (n := l.length) hheap
  rw [← hw'] at hheap'
  have hfar : ∀ k, k ≠ g → w'.heap[k]? = w.heap[k]? := fun k hk => by rw [hw']; exact b7y hk
  have hsz : w'.heap.size = w.heap.size := by rw [hw']; exact b5h
  have hIm : ImmLe w I w' I := ImmLe.heap hh fun k _ ⟨o, ho⟩ => hfar k fun e => hI o (e ▸ ho)
  have hrun := Lib.run_unsafeString_row (P := E.P) (w := w) pt it ty e ti.u hce g cur.size (by simp [World.shape?, hheap]) l hne hl hlen (fun j x hj => b1d hheap ht hj)
  rw [← hw'] at hrun
  have hbel : Below E.base E.w0 w' := by rw [hw']; exact Lib.below_freeze hh.below hbase _
  have htop : ver ≤ ν.top id := hver
  have := hh.set (o' := .arr e 1 ver (bytesAV l) false) (w' := w') hid hng (Nu.le.refl ν) rfl (fun _ _ => rfl) hbel (by omega) (fun k _ hk => hfar k (fun e => hk (by rw [e]; exact hOB))) hIm
    (.arr e 1 ver (bytesAV l) false g c cur fr' htop (by decide) (by rw [hval, hn2, hbl]) hbase hheap' (fun h => by cases h) (by rw [hbl, Nat.mul_one]; exact hl) (by rw [hbl]; exact hlc) (by rw [hbl, Nat.mul_one, ht]; exact a8d) hI)
    (fun b' hb' => by simp only [OB, OB1, hval, Value.ownBlock, Option.some.injEq] at hb'; exact .inl (by rw [← hb']; exact hOB))
  refine ⟨_, w', ν, fun o ho => ?_, this.1, this.2, Nu.le.refl ν, .pure (.str l)⟩
  have hz : (⟨g, 0 * 1 + 0, none⟩ : Addr) = ⟨g, 0, none⟩ := rfl
  have : (Builtin.unsafeString_ #[pt, it] o.type #[.pointer (some ⟨g, 0 * 1 + 0, none⟩), .int .i64 l.length]).run E.P w = .ok (.string ⟨l.toArray⟩) w' := hrun
  simp [execOp, ho, hpv, e2, resolve, invoke, builtin]
  simp at this
  rw [this]
  rfl

theorem b5y {I : Imm} {ν : Nu} {a : Act} {w : World} {id k e sz : Nat} {cells : List AV} {tyo : Option Nat} (hs : SR E N I ν ⟨sl, H⟩ a w) (hH : H[id]? = some (.box cells tyo)) (hk : cells[k]? = some .nilsl) (h0 : 0 < sz) :
    ∃ ν', SR E N I ν' ⟨sl, (H ++ [AO.row e sz 0 0 []]).set id (.box (cells.set k (.os H.length 0)) tyo)⟩ a w ∧ FR E.k w I ν H w I ν' ((H ++ [AO.row e sz 0 0 []]).set id (.box (cells.set k (.os H.length 0)) tyo)) := by
  have hh := hs.hr
  obtain ⟨ν', p1, p2, p3, p4⟩ := a8m (w' := w) hh (xs := []) (v := .slice none 0 0) (inner := []) (e := e) (n := 0) h0 rfl (World.ownsRow_nil w E.base e sz) ⟨by simp, fun i c h => by simp at h⟩ hh.below (Nat.le_refl _) (fun _ _ => rfl) (fun b hb => by simp [Value.ownBlock] at hb)
  have hlt : id < H.length := (List.getElem?_eq_some_iff.1 hH).1
  have hH' : (H ++ [AO.row e sz 0 0 []])[id]? = some (.box cells tyo) := by rw [List.getElem?_append_left hlt]; exact hH
  have hset := (show HR E I ν' ((H ++ [AO.row e sz 0 0 []]).set id (.box (cells.set k (.os H.length 0)) tyo)) w ∧ FR E.k w I ν' (H ++ [AO.row e sz 0 0 []]) w I ν' ((H ++ [AO.row e sz 0 0 []]).set id (.box (cells.set k (.os H.length 0)) tyo)) by
    cases p1.obj id _ hH' with
    | box _ _ b vs ty hv hb hheap hl hx hI hty =>
      have hOB : OB ν' id (.box cells tyo) b := by simp only [OB, OB1, hv]
      have hkl : k < cells.length := (List.getElem?_eq_some_iff.1 hk).1
      refine p1.set (o' := .box (cells.set k (.os H.length 0)) tyo) hH' (fun e => by cases e) (Nu.le.refl ν') rfl (fun _ _ => rfl) p1.below (Nat.le_refl _) (fun _ _ _ => rfl) (ImmLe.refl _ _)
        (.box _ tyo b vs ty hv hb hheap (by simpa using hl) (fun j x v h1 h2 => ?_) hI hty) (fun b' hb' => by simp only [OB, OB1, hv, Option.some.injEq] at hb'; exact .inl (by rw [← hb']; exact hOB))
      by_cases e1 : j = k
      · subst e1
        rw [List.getElem?_set_self hkl] at h1
        injection h1 with h1
        subst h1
        have := (hx j .nilsl v hk h2).nilsl_inv
        rw [this]
        exact p4
      · rw [List.getElem?_set_ne (Ne.symm e1)] at h1
        exact hx j x v h1 h2)
  exact ⟨ν', ⟨hset.1, hs.sl.mono p2.imm p3, hs.df, hs.nt⟩, p2.trans hset.2⟩
theorem Wkn.adoptBox {id k e sz m : Nat} {cells cells' : List AV} {tyo : Option Nat} {H1 : List AO} (hH : H[id]? = some (.box cells tyo)) (hk : cells[k]? = some .nilsl) (h0 : 0 < sz) (hm : H.length = m) (hc : cells' = cells.set k (.os m 0)) (h1 : H1 = (H ++ [AO.row e sz 0 0 []]).set id (.box cells' tyo)) : Wkn E N ⟨sl, H⟩ ⟨sl, H1⟩ := fun I ν a w hs => by
  subst hm; subst hc; subst h1
  obtain ⟨ν', h2, h3⟩ := b5y (e := e) (sz := sz) hs hH hk h0
  exact ⟨I, ν', h2, h3⟩
end
end Go.Proofs.YtkljmljkiodnpaaGreatDoor.L

namespace Go.Proofs.YtkljmljkiodnpaaGreatDoor.L
open Go Go.RowKit

def NoG (Q : Exit → St → Prop) : Exit → St → Prop
  | .goto _, _ => False
  | e, σ => Q e σ
section
variable {E : Env} {N : Nat} {ops : Array Oper} {Q : Exit → St → Prop} {rest : List Oper} {sl : Slots} {H H' : List AO}
theorem a6a {c : Code} {σ : St} (h : AWp E N c (NoG Q) σ) : AWp E N (.scope c) Q σ := by
  intro I ν a w hs
  refine wp_scope_straight (Code.wp_mono (fun e a' w' hk => ?_) (h I ν a w hs))
  obtain ⟨σ', I', ν', hq, hs', hf⟩ := hk
  cases e with
  | goto l => exact hq.elim
  | normal => exact ⟨σ', I', ν', hq, hs', hf⟩
  | exit id => exact ⟨σ', I', ν', hq, hs', hf⟩
  | ret => exact ⟨σ', I', ν', hq, hs', hf⟩
  | panic ch => exact ⟨σ', I', ν', hq, hs', hf⟩
  | outgrown => exact ⟨σ', I', ν', hq, hs', hf⟩
theorem c8n {σ : St} (h : Q .normal σ) : NoG Q .normal σ := h
theorem a9i {σ : St} (h : Q .ret σ) : NoG Q .ret σ := h
theorem c2z {σ : St} {id : Nat} (h : Q (.exit id) σ) : NoG Q (.exit id) σ := h

structure DecF (s : List UInt8) (pos c wd : Nat) : Prop where
  wd1 : 1 ≤ wd
  kind : (∃ b : UInt8, s[pos]? = some b ∧ b.toNat < 128 ∧ c = b.toNat ∧ wd = 1) ∨ (128 ≤ c ∧ ∀ (k : Nat) (b : UInt8), k < wd → s[pos + k]? = some b → 128 ≤ b.toNat)
theorem get!_mk (s : List UInt8) (i : Nat) (b : UInt8) (h : s[i]? = some b) : (ByteArray.mk s.toArray).get! i = b := by
  have hlt := (List.getElem?_eq_some_iff.1 h).1
  have h2 := (List.getElem?_eq_some_iff.1 h).2
  show s.toArray[i]! = b
  simp [hlt, h2]
theorem decF (s : List UInt8) (pos : Nat) (h : pos < s.length) : DecF s pos (Utf8.decode ⟨s.toArray⟩ pos).1 (Utf8.decode ⟨s.toArray⟩ pos).2 := by
  have hb : s[pos]? = some s[pos] := List.getElem?_eq_getElem h
  have e0 := get!_mk s pos _ hb
  have hsz : (ByteArray.mk s.toArray).size = s.length := rfl
  have cont : ∀ (k : Nat) (b : UInt8), s[pos + k]? = some b → ((ByteArray.mk s.toArray).get! (pos + k)).toNat = b.toNat := fun k b hk => by rw [get!_mk s _ b hk]
  obtain ⟨b0, hb0⟩ : ∃ b, s[pos] = b := ⟨_, rfl⟩
  rw [hb0] at hb e0
  have big : ¬ b0.toNat < 128 → 128 ≤ b0.toNat := fun h => by omega
  have one : ¬ b0.toNat < 128 → ∀ (k : Nat) (b : UInt8), k < 1 → s[pos + k]? = some b → 128 ≤ b.toNat := fun hn k b hk hbk => by
    obtain rfl : k = 0 := by omega
    rw [Nat.add_zero, hb] at hbk
    injection hbk with hbk
    subst hbk
    omega
  unfold Utf8.decode
  simp only [Nat.add_zero, e0, hsz]
  have re : (128 : Nat) ≤ Utf8.runeError := by decide
  split
  · rename_i h1
    exact ⟨Nat.le_refl _, .inl ⟨b0, hb, h1, rfl, rfl⟩⟩
  rename_i h1
  split
  · rename_i h2
    simp only [Bool.and_eq_true, decide_eq_true_eq, beq_iff_eq] at h2
    split
    · rename_i h3
      refine ⟨by dsimp only; omega, .inr ⟨h3, fun k b hk hbk => ?_⟩⟩
      rcases (show k = 0 ∨ k = 1 by omega) with rfl | rfl
      · exact one h1 0 b (by decide) hbk
      · have := cont 1 b hbk; omega
    · exact ⟨Nat.le_refl _, .inr ⟨re, one h1⟩⟩
  · split
    · rename_i h2
      simp only [Bool.and_eq_true, decide_eq_true_eq, beq_iff_eq] at h2
      split
      · rename_i h3
        simp only [Bool.and_eq_true, decide_eq_true_eq] at h3
        refine ⟨by dsimp only; omega, .inr ⟨by omega, fun k b hk hbk => ?_⟩⟩
        rcases (show k = 0 ∨ k = 1 ∨ k = 2 by omega) with rfl | rfl | rfl
        · exact one h1 0 b (by decide) hbk
        · have := cont 1 b hbk; omega
        · have := cont 2 b hbk; omega
      · exact ⟨Nat.le_refl _, .inr ⟨re, one h1⟩⟩
    · split
      · rename_i h2
        simp only [Bool.and_eq_true, decide_eq_true_eq, beq_iff_eq] at h2
        split
        · rename_i h3
          simp only [Bool.and_eq_true, decide_eq_true_eq] at h3
          refine ⟨by dsimp only; omega, .inr ⟨by omega, fun k b hk hbk => ?_⟩⟩
          rcases (show k = 0 ∨ k = 1 ∨ k = 2 ∨ k = 3 by omega) with rfl | rfl | rfl | rfl
          · exact one h1 0 b (by decide) hbk
          · have := cont 1 b hbk; omega
          · have := cont 2 b hbk; omega
          · have := cont 3 b hbk; omega
        · exact ⟨Nat.le_refl _, .inr ⟨re, one h1⟩⟩
      · exact ⟨Nat.le_refl _, .inr ⟨re, one h1⟩⟩

theorem a8i {t : Nat} {n b : Nat} {z : Value} [ti : TI E.P t .string n b z] {x : Operand} {s : List UInt8} {m : Nat} {ty : TypeId} {pos : String} {after : Array Edge} {d : Nat} (hx : ev sl x = some (.str s)) (hm : H.length = m) (hS : Snoc H (.siter s 0) H') (hd : Nat.blt d N = true)
    (h : AL E N ops Q rest ⟨(d, .op m 0) :: sl, H'⟩) : AL E N ops Q (⟨some d, .range t x, ty, pos, after, none⟩ :: rest) ⟨sl, H⟩ := by
  subst hm
  rw [hS.eq] at h
  refine a6c hd (fun I ν a w hh hs => ?_) h
  have e1 := (a2q hs hx).str_inv
  have := hh.push (o := .siter s 0) (t := 0) (f := fun _ => .pointer (some ⟨w.heap.size, 0, none⟩)) (w' := w.iter ⟨s.toArray⟩ 0) (hh.below.alloc hh.base _) (by simp [World.iter]) (fun k hk => Below.heap_alloc w _ k hk)
    (.siter s 0 w.heap.size (by simp [Nu.add]) hh.base (World.iter_heap w _ 0)) (fun b hb => by simp [OB, OB1, Nu.add] at hb; omega)
  refine ⟨_, _, _, fun o ho => ?_, this.1, this.2.1, ν.add_le _ _, .op _ 0 w.heap.size (by simp [Nu.add, hh.n]) (by simp [Nu.add, hh.n])⟩
  have hrun := run_range_string (P := E.P) w t ⟨s.toArray⟩ ti.u
  simp [execOp, ho, e1, hrun]

theorem b0f {it : Operand} {id pos : Nat} {s : List UInt8} {ty : TypeId} {p : String} {after : Array Edge} {d : Nat} {Hf : Nat → List AO} (hit : ev sl it = some (.op id 0)) (hI : H[id]? = some (.siter s pos)) (hU : ∀ wd, Upd id H (.siter s pos) (.siter s (pos + wd)) (Hf wd)) (hd : Nat.blt d N = true)
    (h0 : s.length ≤ pos → AL E N ops Q rest ⟨(d, .tup [.bool false]) :: sl, H⟩) (h1 : ∀ c wd, pos < s.length → DecF s pos c wd → AL E N ops Q rest ⟨(d, .tup [.bool true, .int .i64 (pos : Int), .int .i32 (c : Int)]) :: sl, Hf wd⟩) :
    AL E N ops Q (⟨some d, .next it true, ty, p, after, none⟩ :: rest) ⟨sl, H⟩ := by
  intro I ν a w hs w0 I0 ν0 o0 hf0
  have hh := hs.hr
  have hit' := a2q hs.sl hit
  obtain ⟨iv, hiv⟩ : ∃ v, a.eval it = v := ⟨_, rfl⟩
  rw [hiv] at hit'
  cases hit' with
  | pure h => cases h
  | op _ _ r hi hval =>
  cases hh.obj id _ hI with
  | siter _ _ r' hv hb hheap =>
  rw [hval] at hv
  injection hv with e; injection e with e; injection e with e
  subst e
  refine wpList_plain rfl fun K hK => ?_
  unfold Oper.wp
  have hsz : (ByteArray.mk s.toArray).size = s.length := rfl
  by_cases hp : pos < s.length
  · obtain ⟨w', hw'⟩ : ∃ w', w' = { w with heap := w.heap.setIfInBounds r (.stringIter ⟨s.toArray⟩ (pos + (Utf8.decode ⟨s.toArray⟩ pos).2)) } := ⟨_, rfl⟩
    have hrl : r < w.heap.size := (Array.getElem?_eq_some_iff.1 hheap).1
    have hrun : (execOp a.eval ⟨some d, .next it true, ty, p, after, none⟩).run E.P w = .ok (.value (.tuple #[.bool true, .int .i64 (pos : Int), .int .i32 ((Utf8.decode ⟨s.toArray⟩ pos).1 : Int)])) w' := by
      have hr : w.heap[r] = .stringIter ⟨s.toArray⟩ pos := (Array.getElem?_eq_some_iff.1 hheap).2
      simp [execOp, hiv, Instr.next, getObj, setObj, Sem.run, hheap, hsz, hp, goInt, hw']
    rw [hrun]
    have hnew : w'.heap[r]? = some (.stringIter ⟨s.toArray⟩ (pos + (Utf8.decode ⟨s.toArray⟩ pos).2)) := by rw [hw']; simp [hrl]
    have hfar : ∀ k, k ≠ r → w'.heap[k]? = w.heap[k]? := fun k hk => by rw [hw']; simp [Array.getElem?_setIfInBounds, Ne.symm hk]
    have hszw : w'.heap.size = w.heap.size := by rw [hw']; simp
    have hOB : OB ν id (.siter s pos) r := by simp only [OB, OB1, hval]
    obtain ⟨hid, hset⟩ := (hU (Utf8.decode ⟨s.toArray⟩ pos).2).eq
    have hnoI : ∀ o, ¬ I r o := fun o ho => by
      obtain ⟨v, hv⟩ := hh.imm r o ho
      simp [World.cell?, hheap] at hv
    have hIm : ImmLe w I w' I := ImmLe.heap hh fun k _ ⟨o, ho⟩ => hfar k fun e => hnoI o (e ▸ ho)
    have hbel : Below E.base E.w0 w' := by
      refine hh.below.trans ⟨?_, ?_, ?_, by omega, fun k hk => hfar k (by omega)⟩
      all_goals rw [hw']
    have := hh.set (o' := .siter s (pos + (Utf8.decode ⟨s.toArray⟩ pos).2)) (w' := w') hid (fun e => by cases e) (Nu.le.refl ν) rfl (fun _ _ => rfl) hbel (by omega) (fun k _ hk => hfar k (fun e => hk (by rw [e]; exact hOB))) hIm
      (.siter _ _ r hval hb hnew) (fun b' hb' => by simp only [OB, OB1, hval, Option.some.injEq] at hb'; exact .inl (by rw [← hb']; exact hOB))
    have hal := h1 _ _ hp (decF s pos hp)
    rw [hset] at hal
    exact hK _ _ (hal I ν _ w' ⟨this.1, (hs.sl.mono hIm (Nu.le.refl ν)).put d (.tup [.bool true, .int .i64 (pos : Int), .int .i32 ((Utf8.decode ⟨s.toArray⟩ pos).1 : Int)] [.bool true, .int .i64 (pos : Int), .int .i32 ((Utf8.decode ⟨s.toArray⟩ pos).1 : Int)] rfl (fun j x v k1 k2 => by
      match j, k1, k2 with
      | 0, k1, k2 => simp at k1 k2; subst k1; subst k2; exact .pure (.bool _)
      | 1, k1, k2 => simp at k1 k2; subst k1; subst k2; exact .pure (.int _ _)
      | 2, k1, k2 => simp at k1 k2; subst k1; subst k2; exact .pure (.int _ _)
      | j + 3, k1, k2 => simp at k1)) (by rw [hs.nt]; simpa [Nat.blt_eq] using hd), hs.df, by simp [Act.put, hs.nt]⟩ w0 I0 ν0 o0 (hf0.trans this.2))
  · have hrun : (execOp a.eval ⟨some d, .next it true, ty, p, after, none⟩).run E.P w = .ok (.value (.tuple #[.bool false])) w := by
      simp [execOp, hiv, Instr.next, getObj, Sem.run, hheap, hsz, hp]
    rw [hrun]
    exact hK _ _ (h0 (by omega) I ν _ w ⟨hh, hs.sl.put d (.tup [.bool false] [.bool false] rfl (fun j x v k1 k2 => by
      match j, k1, k2 with
      | 0, k1, k2 => simp at k1 k2; subst k1; subst k2; exact .pure (.bool _)
      | j + 1, k1, k2 => simp at k1)) (by rw [hs.nt]; simpa [Nat.blt_eq] using hd), hs.df, by simp [Act.put, hs.nt]⟩ w0 I0 ν0 o0 hf0)

theorem c5s {src dst n b n' b' : Nat} {k k' : IntKind} {z z' : Value} [ts : TI E.P src (.int k) n b z] [td : TI E.P dst .string n' b' z'] {x : Operand} {m : Int} (hx : ev sl x = some (.int k' m)) : OV E sl H (.convert src dst x) (.str (Utf8.encode m).data.toList) := by
  intro I ν a w hh hs
  have e1 := (a2q hs hx).int_inv
  refine ⟨_, .pure (.str _), fun o w' ho hw => ?_⟩
  simp [execOp, ho, e1, convert, run_underlying ts.u, run_underlying td.u, Conv.intToString]
theorem b8c {c : Nat} (h : 128 ≤ c) : ∃ (l : List UInt8) (b : UInt8), (Utf8.encode (c : Int)).data.toList = l ++ [b] ∧ 1 ≤ l.length ∧ l.length ≤ 3 ∧ 128 ≤ b.toNat := by
  unfold Utf8.encode
  obtain ⟨d, hd⟩ : ∃ d, d = if Utf8.valid (c : Int) = true then (c : Int).toNat else Utf8.runeError := ⟨_, rfl⟩
  have hd' : 128 ≤ d := by
    rw [hd]
    split
    · simpa using h
    · decide
  simp only [← hd]
  have key : 128 ≤ (UInt8.ofNat (128 + d % 64)).toNat := by
    rw [UInt8.toNat_ofNat']
    omega
  rw [if_neg (by omega)]
  split
  · exact ⟨[_], _, rfl, by simp, by simp, key⟩
  · split
    · exact ⟨[_, _], _, rfl, by simp, by simp, key⟩
    · exact ⟨[_, _, _], _, rfl, by simp, by simp, key⟩
end
end Go.Proofs.YtkljmljkiodnpaaGreatDoor.L

namespace Go.Proofs.YtkljmljkiodnpaaGreatDoor.L
open Go Go.RowKit Go.Proofs

section
variable {E : Env} {N : Nat} {sl : Slots} {H : List AO}
theorem boxTell {I : Imm} {ν : Nu} {w : World} {id : Nat} {cells cells' : List AV} {tyo : Option Nat} (hh : HR E I ν H w) (hH : H[id]? = some (.box cells tyo)) (hl : cells.length = cells'.length)
    (hc : ∀ (j : Nat) y, cells'[j]? = some y → ∃ x, cells[j]? = some x ∧ ∀ v, VR w I ν x v → VR w I ν y v) : HR E I ν (H.set id (.box cells' tyo)) w ∧ FR E.k w I ν H w I ν (H.set id (.box cells' tyo)) := by
  cases hh.obj id _ hH with
  | box _ _ b vs ty hv hb hheap hll hx hI hty =>
    refine hh.set (o' := .box cells' tyo) hH (fun e => by cases e) (Nu.le.refl ν) rfl (fun _ _ => rfl) hh.below (Nat.le_refl _) (fun _ _ _ => rfl) (ImmLe.refl _ _)
      (.box _ tyo b vs ty hv hb hheap (by omega) (fun j y v h1 h2 => ?_) hI hty) (fun b' hb' => .inl (by simpa only [OB, OB1, hv] using hb'))
    obtain ⟨x, h3, h4⟩ := hc j y h1
    exact h4 v (hx j x v h3 h2)
theorem Wkn.boxLe {id : Nat} {cells : List AV} (cells' : List AV) {tyo : Option Nat} {H' : List AO} (hH : H[id]? = some (.box cells tyo)) (hc : AvLeL cells cells') (h1 : H' = H.set id (.box cells' tyo)) : Wkn E N ⟨sl, H⟩ ⟨sl, H'⟩ := fun I ν a w hs => by
  subst h1
  have := boxTell hs.hr hH hc.get.1 fun j y hy => by
    obtain ⟨x, h2, h3⟩ := hc.get.2 j y hy
    exact ⟨x, h2, fun v hv => h3.vr hv⟩
  exact ⟨I, ν, ⟨this.1, hs.sl, hs.df, hs.nt⟩, this.2⟩
theorem Wkn.boxFreeze {ib k id ver fz e sz : Nat} {cells cells' : List AV} {tyo : Option Nat} {xs : List (List AV)} {H' H1 : List AO} (hB : H[ib]? = some (.box cells tyo)) (hk : cells[k]? = some (.os id ver)) (hne : Nat.beq ib id = false) (hN : Nat.blt 0 N = true)
    (hU : Upd id H (.row e sz ver fz xs) (.row e sz ver xs.length xs) H') (hc : cells' = cells.set k (.rs xs)) (h1 : H1 = H'.set ib (.box cells' tyo)) : Wkn E N ⟨sl, H⟩ ⟨sl, H1⟩ := fun I ν a w hs => by
  subst hc; subst h1
  have hN' : 0 < N := Nat.le_of_ble_eq_true hN
  have hne' : ib ≠ id := fun e => by subst e; simp at hne
  have hkl : k < cells.length := (List.getElem?_eq_some_iff.1 hk).1
  obtain ⟨v, hv, hvk⟩ : ∃ v, VR w I ν (.os id ver) v ∧ ∀ b vs ty, ν.val ib 0 = .pointer (some ⟨b, 0, none⟩) → w.heap[b]? = some (.cells vs ty (0, 0)) → vs[k]? = some v := by
    cases hs.hr.obj ib _ hB with
    | box _ _ b vs ty hv hb hheap hll hx hI hty =>
      obtain ⟨v, hvk⟩ : ∃ v, vs[k]? = some v := ⟨_, List.getElem?_eq_getElem (by omega)⟩
      refine ⟨v, hx k _ v hk hvk, fun b' vs' ty' e1 e2 => ?_⟩
      rw [hv] at e1
      injection e1 with e1; injection e1 with e1; injection e1 with e1
      subst e1
      rw [hheap] at e2
      injection e2 with e2; injection e2 with e2
      subst e2
      simpa using hvk
  obtain ⟨ν0, hh0, fr0⟩ : ∃ I', SR E N I' ν ⟨(0, .rs xs) :: (0, .os id ver) :: sl, H'⟩ (a.put (some 0) v) w ∧ FR E.k w I ν H w I' ν H' :=
    b3q (sl := (0, .os id ver) :: sl) ⟨hs.hr, hs.sl.put 0 hv (by rw [hs.nt]; exact hN'), hs.df, by rw [← hs.nt]; simp [Act.put]⟩ rfl hU
  have hrs : VR w ν0 ν (.rs xs) v := by
    have := hh0.sl 0 (.rs xs) rfl
    simpa [Act.put, Array.getD_eq_getD_getElem?, Array.getElem?_setIfInBounds, hs.nt, hN'] using this
  obtain ⟨hid, hset⟩ := hU.eq
  have hB' : H'[ib]? = some (.box cells tyo) := by rw [hset, List.getElem?_set_ne (Ne.symm hne')]; exact hB
  have key : HR E ν0 ν (H'.set ib (.box (cells.set k (.rs xs)) tyo)) w ∧ FR E.k w ν0 ν H' w ν0 ν (H'.set ib (.box (cells.set k (.rs xs)) tyo)) := by
    cases hh0.hr.obj ib _ hB' with
    | box _ _ b vs ty hv' hb hheap hll hx hI hty =>
      refine hh0.hr.set (o' := .box (cells.set k (.rs xs)) tyo) hB' (fun e => by cases e) (Nu.le.refl ν) rfl (fun _ _ => rfl) hh0.hr.below (Nat.le_refl _) (fun _ _ _ => rfl) (ImmLe.refl _ _)
        (.box _ tyo b vs ty hv' hb hheap (by simpa using hll) (fun j y u h1 h2 => ?_) hI hty) (fun b' hb' => .inl (by simpa only [OB, OB1, hv'] using hb'))
      by_cases e1 : j = k
      · subst e1
        rw [List.getElem?_set_self hkl] at h1
        injection h1 with h1
        subst h1
        have := hvk b _ ty hv' hheap
        have h3 : vs[j]? = some v := by simpa using this
        rw [h3] at h2
        injection h2 with h2
        subst h2
        exact hrs
      · rw [List.getElem?_set_ne (Ne.symm e1)] at h1
        exact hx j y u h1 h2
  exact ⟨ν0, ν, ⟨key.1, hs.sl.mono fr0.imm (Nu.le.refl ν), hs.df, hs.nt⟩, fr0.trans key.2⟩
end
end Go.Proofs.YtkljmljkiodnpaaGreatDoor.L

namespace Go.Proofs.YtkljmljkiodnpaaGreatDoor.L
open Go Go.RowKit
section
variable {E : Env} {sl : Slots} {H : List AO}
end
end Go.Proofs.YtkljmljkiodnpaaGreatDoor.L

namespace Go.Proofs.YtkljmljkiodnpaaGreatDoor.L
open Go Go.RowKit

def lblC (c : Code) (l : Nat) : Code := match findLabel c l with
  | some (.seq _ b) => b
  | _ => .skip
def JmpQ (E : Env) (N : Nat) {α : Type} (inv : α → St) (lab : α → Nat) (ok : α → Prop) (m : α → Nat) (b : Nat) (Q : Exit → St → Prop) : Exit → St → Prop
  | .goto l, σ => ∃ y, lab y = l ∧ ok y ∧ m y < b ∧ Wkn E N σ (inv y)
  | e, σ => Q e σ
def jmpW {ι : Type} (J : ι → Act → World → Prop) (lab : ι → Nat) (μ : ι → Nat) (B : Nat) (Q : Exit → Act → World → Prop) : Exit → Act → World → Prop
  | .goto l, a, w => ∃ x, lab x = l ∧ μ x < B ∧ J x a w
  | e, a, w => Q e a w
theorem a8v {P : Program} {a : Act} {w : World} {Q : Exit → Act → World → Prop} {c : Code} {ι : Type} (J : ι → Act → World → Prop) (lab : ι → Nat) (rest : ι → Code) (μ : ι → Nat) (B : Nat)
    (hf : ∀ x a w, J x a w → findLabel c (lab x) = some (rest x)) (first : c.wp P (jmpW J lab μ B Q) a w)
    (pass : ∀ x a w, J x a w → (rest x).wp P (jmpW J lab μ (μ x) Q) a w) : (Code.scope c).wp P Q a w := by
  intro b k cs
  have hg : ∀ x a w, J x a w → gotoIn (lab x) (.inScope c :: k) = some (.code (rest x) :: .inScope c :: k) := fun x a w h => by simp [gotoIn, hf x a w h]
  have key : ∀ n x a w, μ x = n → J x a w → ∃ e a' w', Q e a' w' ∧ Arrives P (lone (b.at a (.code (rest x) :: .inScope c :: k)) cs w) b k cs e a' w' := by
    intro n
    induction n using Nat.strongRecOn with
    | _ n ih =>
      intro x a w hn hJ
      obtain ⟨e, a₁, w₁, hq, harr⟩ := pass x a w hJ b (.inScope c :: k) cs
      cases e with
      | normal => exact ⟨.normal, a₁, w₁, hq, Steps.trans harr (.one step_inScope)⟩
      | exit id => exact ⟨.exit id, a₁, w₁, hq, fun k' hk => harr k' (by simp [exitTo, hk])⟩
      | goto l' =>
        obtain ⟨y, rfl, hlt, hJ'⟩ := hq
        obtain ⟨e₂, a₂, w₂, hq₂, harr₂⟩ := ih _ (by omega) y a₁ w₁ rfl hJ'
        exact ⟨e₂, a₂, w₂, hq₂, .of_steps (harr _ (hg y _ _ hJ')) harr₂⟩
      | ret => exact ⟨_, a₁, w₁, hq, harr⟩
      | panic ch => exact ⟨_, a₁, w₁, hq, harr⟩
      | outgrown => exact ⟨_, a₁, w₁, hq, harr⟩
  obtain ⟨e, a₁, w₁, hq, harr⟩ := first b (.inScope c :: k) cs
  cases e with
  | normal => exact ⟨.normal, a₁, w₁, hq, .head step_scope (Steps.trans harr (.one step_inScope))⟩
  | exit id => exact ⟨.exit id, a₁, w₁, hq, fun k' hk => .head step_scope (harr k' (by simp [exitTo, hk]))⟩
  | goto l' =>
    obtain ⟨y, rfl, hlt, hJ'⟩ := hq
    obtain ⟨e₂, a₂, w₂, hq₂, harr₂⟩ := key _ y a₁ w₁ rfl hJ'
    exact ⟨e₂, a₂, w₂, hq₂, .of_steps (.head step_scope (harr _ (hg y _ _ hJ'))) harr₂⟩
  | ret => exact ⟨_, a₁, w₁, hq, .of_steps (.one step_scope) harr⟩
  | panic ch => exact ⟨_, a₁, w₁, hq, .of_steps (.one step_scope) harr⟩
  | outgrown => exact ⟨_, a₁, w₁, hq, .of_steps (.one step_scope) harr⟩
section
variable {E : Env} {N : Nat} {Q : Exit → St → Prop} {α : Type} {inv : α → St} {lab : α → Nat} {ok : α → Prop} {m : α → Nat} {b : Nat} {σ : St}
theorem b6u {I : Imm} {ν : Nu} {w : World} {I1 : Imm} {ν1 : Nu} {o1 : List AO} {w1 : World} (hf1 : FR E.k w I ν σ.objs w1 I1 ν1 o1) {e : Exit} {a' : Act} {w' : World} (hk : Lift E N w1 I1 ν1 o1 (JmpQ E N inv lab ok m b Q) e a' w') :
    jmpW (fun x a' w' => ok x ∧ ∃ I' ν', SR E N I' ν' (inv x) a' w' ∧ FR E.k w I ν σ.objs w' I' ν' (inv x).objs) lab m b (Lift E N w I ν σ.objs Q) e a' w' := by
  obtain ⟨σ', I', ν', hq, hs', hf⟩ := hk
  cases e with
  | normal => exact ⟨σ', I', ν', hq, hs', hf1.trans hf⟩
  | exit id => exact ⟨σ', I', ν', hq, hs', hf1.trans hf⟩
  | goto l =>
    obtain ⟨y, hl, hy, hm, hw⟩ := hq
    obtain ⟨I2, ν2, k1, k2⟩ := hw I' ν' a' w' hs'
    exact ⟨y, hl, hm, hy, I2, ν2, k1, (hf1.trans hf).trans k2⟩
  | ret => exact ⟨σ', I', ν', hq, hs', hf1.trans hf⟩
  | panic ch => exact ⟨σ', I', ν', hq, hs', hf1.trans hf⟩
  | outgrown => exact ⟨σ', I', ν', hq, hs', hf1.trans hf⟩
theorem b4d {c : Code} (inv : α → St) (lab : α → Nat) (ok : α → Prop) (m : α → Nat) (B : Nat) (hb : ∀ x, ok x → findLabel c (lab x) = some (.seq .skip (lblC c (lab x))))
    (pass : ∀ x, ok x → AWp E N (lblC c (lab x)) (JmpQ E N inv lab ok m (m x) Q) (inv x)) (first : AWp E N c (JmpQ E N inv lab ok m B Q) σ) : AWp E N (.scope c) Q σ := by
  intro I ν a w hs
  refine a8v (fun x a' w' => ok x ∧ ∃ I' ν', SR E N I' ν' (inv x) a' w' ∧ FR E.k w I ν σ.objs w' I' ν' (inv x).objs) lab (fun x => .seq .skip (lblC c (lab x))) m B (fun x a w h => hb x h.1) ?_ ?_
  · exact Code.wp_mono (fun e a' w' hk => b6u (FR.refl _ _ _ _) hk) (first I ν a w hs)
  · rintro x a1 w1 ⟨hx, I1, ν1, hs1, hf1⟩
    have h := a0c (Q := JmpQ E N inv lab ok m (m x) Q) (x := .skip) (y := lblC c (lab x)) (σ := inv x) (a0k (a1n (pass x hx)))
    exact Code.wp_mono (fun e a' w' hk => b6u hf1 hk) (h I1 ν1 a1 w1 hs1)
theorem b1e {c : Code} (inv : α → St) (lab : α → Nat) (ok : α → Prop) (m : α → Nat) (B L : Nat) (hb : ∀ x, ok x → findLabel c (lab x) = some (.seq .skip (lblC c (lab x)))) (hL : ∀ x, ok x → lab x ≤ L)
    (pass : ∀ x, ok x → (∀ y, ok y → lab x < lab y → AWp E N (lblC c (lab y)) (JmpQ E N inv lab ok m (m y) Q) (inv y)) → AWp E N (lblC c (lab x)) (JmpQ E N inv lab ok m (m x) Q) (inv x))
    (first : (∀ y, ok y → AWp E N (lblC c (lab y)) (JmpQ E N inv lab ok m (m y) Q) (inv y)) → AWp E N c (JmpQ E N inv lab ok m B Q) σ) : AWp E N (.scope c) Q σ := by
  have key : ∀ n x, L - lab x ≤ n → ok x → AWp E N (lblC c (lab x)) (JmpQ E N inv lab ok m (m x) Q) (inv x) := by
    intro n
    induction n with
    | zero => intro x hn hx; exact pass x hx fun y hy hlt => absurd (hL y hy) (by omega)
    | succ n ih => intro x hn hx; exact pass x hx fun y hy hlt => ih y (by omega) hy
  exact b4d inv lab ok m B hb (fun x hx => key _ x (Nat.le_refl _) hx) (first fun y hy => key _ y (Nat.le_refl _) hy)
theorem b2i {c : Code} (x : α) (pass : AWp E N (lblC c (lab x)) (JmpQ E N inv lab ok m (m x) Q) (inv x)) (hm : m x ≤ b) (hw : Wkn E N σ (inv x)) : AWp E N (lblC c (lab x)) (JmpQ E N inv lab ok m b Q) σ := by
  refine a4y hw (a8q pass fun e s h => ?_)
  cases e with
  | goto l => obtain ⟨y, h1, h2, h3, h4⟩ := h; exact ⟨y, h1, h2, by omega, h4⟩
  | _ => exact h
theorem b5a (y : α) {l : Nat} (hl : lab y = l) (hw : Wkn E N σ (inv y)) (hk : ok y) (hm : m y < b) : JmpQ E N inv lab ok m b Q (.goto l) σ := ⟨y, hl, hk, hm, hw⟩
theorem a8n (h : Q .normal σ) : JmpQ E N inv lab ok m b Q .normal σ := h
theorem a3w (h : Q .ret σ) : JmpQ E N inv lab ok m b Q .ret σ := h
theorem c5z {id : Nat} (h : Q (.exit id) σ) : JmpQ E N inv lab ok m b Q (.exit id) σ := h
end
def MidQ (E : Env) (N : Nat) {ι : Type} (J : ι → St) (ok : ι → Prop) (Q : Exit → St → Prop) : Exit → St → Prop
  | .normal, σ => ∃ j, ok j ∧ Wkn E N σ (J j)
  | e, σ => Q e σ
section
variable {E : Env} {N : Nat} {Q : Exit → St → Prop} {ι : Type} {σ : St} {J : ι → St} {ok : ι → Prop}
theorem c6l {x y : Code} (J : ι → St) (ok : ι → Prop) (tail : ∀ j, ok j → AWp E N y Q (J j)) (head : AWp E N x (MidQ E N J ok Q) σ) : AWp E N (.seq x y) Q σ := by
  refine a0c (a8q head fun e s h => ?_)
  cases e with
  | normal => obtain ⟨j, hj, hw⟩ := h; exact a1n (a4y hw (tail j hj))
  | _ => exact h
theorem b2h {r c d : Code} {o : Operand} {y : Code} (J : ι → St) (ok : ι → Prop) (tail : ∀ j, ok j → AWp E N y Q (J j)) (head : True → AWp E N (.seq r (.cond o (.scope c) d)) (MidQ E N J ok Q) σ) : AWp E N (.seq (.seq r (.cond o (.scope c) d)) y) Q σ := c6l J ok tail (head trivial)
theorem a6v (j : ι) (hj : ok j) (hw : Wkn E N σ (J j)) : MidQ E N J ok Q .normal σ := ⟨j, hj, hw⟩
theorem a2v (h : Q .ret σ) : MidQ E N J ok Q .ret σ := h
theorem c3b {id : Nat} (h : Q (.exit id) σ) : MidQ E N J ok Q (.exit id) σ := h
end
section
variable {E : Env} {sl : Slots} {H : List AO}
theorem a4v {t t' e : Nat} {n b : Nat} {z : Value} [ti : TI E.P t (.pointer e) n b z] {x y : Operand} (hx : ev sl x = some .nilp) (hy : ev sl y = some .nilp) : OV E sl H (.binOp .neq t x y t') (.bool false) := by
  intro I ν a w hh hs
  have e1 := (a2q hs hx).nilp_inv
  have e2 := (a2q hs hy).nilp_inv
  refine ⟨_, .pure (.bool false), fun o w' ho _ => ?_⟩
  have h : ∀ d : Nat, (Op.equalIn (d + 1) t (.pointer none) (.pointer none)).run E.P w' = .ok true w' := fun d => by simp [Op.equalIn, run_underlying ti.u]
  simp [execOp, ho, e1, e2, eqGuard, binOp, Op.equal, Op.maxDepth, h 9999]
theorem a5x {t t' e : Nat} {n b : Nat} {z : Value} [ti : TI E.P t (.pointer e) n b z] {x y : Operand} {pv : AV} (hx : ev sl x = some pv) (hp : isPtr pv = true) (hy : ev sl y = some .nilp) : OV E sl H (.binOp .neq t x y t') (.bool true) := by
  intro I ν a w hh hs
  obtain ⟨p, e1⟩ := (a2q hs hx).ptr hp
  have e2 := (a2q hs hy).nilp_inv
  refine ⟨_, .pure (.bool true), fun o w' ho _ => ?_⟩
  have h : ∀ d : Nat, (Op.equalIn (d + 1) t (.pointer (some p)) (.pointer none)).run E.P w' = .ok false w' := fun d => by simp [Op.equalIn, run_underlying ti.u]
  simp [execOp, ho, e1, e2, eqGuard, binOp, Op.equal, Op.maxDepth, h 9999]
end
end Go.Proofs.YtkljmljkiodnpaaGreatDoor.L

namespace Go.Proofs.YtkljmljkiodnpaaGreatDoor.L
open Go Go.RowKit

def preOK (ops : Array Oper) (τ : List (Nat × List Nat)) (i j : Nat) (A B : List PS) : List Bool → List PS → Bool
  | L, [] => (Region.ready .any ops L.toArray == [i, j]) && (planOK ops τ (L.set i true) A && (planOK ops τ (L.set j true) B && Nat.beq A.length B.length))
  | L, p :: r => (p.q && qOK ops τ L p.R p.i p.G) && preOK ops τ i j A B (L.set p.i true) r
def HF (E : Env) (N : Nat) (ops : Array Oper) (τ : List (Nat × List Nat)) (Q : Exit → St → Prop) (i j : Nat) (A B pl : List PS) (σ : St) : Prop :=
  Region.noSelect ops = true → ∀ L : List Bool, L.length = ops.size → preOK ops τ i j A B L pl = true → ∀ I ν a w, SR E N I ν σ a w → ∀ w0 I0 ν0 o0, FR E.k w0 I0 ν0 o0 w I ν σ.objs →
    wpAnyP E.P .any ops (LN E N w0 I0 ν0 o0 Q) (SS τ L.toArray I ν σ.objs w) (pl.length + (A.length + 1)) L.toArray a w
section
variable {E : Env} {N : Nat} {ops : Array Oper} {τ : List (Nat × List Nat)} {Q : Exit → St → Prop} {i j : Nat} {A B : List PS} {p : PS} {pl : List PS} {sl : Slots} {H : List AO}
end
theorem a3u {E : Env} {f : Nat} {args : List AV} {objs : List AO} {R R' : AV → List AO → Prop} (h : ACalls E f args objs R') (hd : ∀ rv os, R' rv os → ∃ os1 ex, os = os1 ++ ex ∧ R rv os1 ∧ clB os1.length rv = true ∧ ClOs os1.length os1 ∧ objs.length ≤ os1.length) : ACalls E f args objs R := by
  intro I ν w vs hh hl hv
  refine (h I ν w vs hh hl hv).mono ?_
  rintro e w' ⟨rv, os, I', ν', v, hr, he, hvr, hhr, hfr⟩
  obtain ⟨os1, ex, rfl, hR, hc, ho, hk⟩ := hd rv os hr
  obtain ⟨k1, k2⟩ := HR.cut (E := E.at objs.length) (HR.env (E := E) (F := E.at objs.length) rfl rfl hhr) ho hk
  exact ⟨rv, os1, I', _, v, hR, he, VR.cut (k := os1.length) (ν := ν') (ν' := { ν' with n := os1.length }) ⟨Nat.le_refl _, fun _ _ => Nat.le_refl _, fun _ _ _ _ => rfl⟩ hvr hc, HR.env (E := E.at objs.length) (F := E) rfl rfl k1, hfr.trans k2⟩
end Go.Proofs.YtkljmljkiodnpaaGreatDoor.L

namespace Go.Proofs.YtkljmljkiodnpaaGreatDoor.L
open Go Go.RowKit

inductive SubR (r : Nat → Nat) (sl : Slots) : Slots → Prop where
  | nil : SubR r sl []
  | cons {t : Nat} {x y : AV} {s : Slots} (h : lk sl t = some y) (e : Rn r x y) (k : SubR r sl s) : SubR r sl ((t, x) :: s)
theorem SubR.get {r : Nat → Nat} {sl s : Slots} (h : SubR r sl s) : ∀ t x, lk s t = some x → ∃ y, lk sl t = some y ∧ Rn r x y := by
  induction h with
  | nil => intro t x h; simp [lk] at h
  | @cons t x y s h e k ih =>
    intro t' x' h'
    rw [a4x] at h'
    by_cases q : t = t'
    · subst q
      rw [if_pos rfl] at h'
      injection h' with h'
      subst h'
      exact ⟨y, h, e⟩
    · rw [if_neg q] at h'
      exact ih t' x' h'
def keeps (ρ : List Nat) : Nat → Bool
  | 0 => true
  | k + 1 => match ρ[k]? with
    | some j => Nat.beq j k && keeps ρ k
    | none => false
theorem b3m {ρ : List Nat} : ∀ {k : Nat}, keeps ρ k = true → ∀ i, i < k → ρ[i]? = some i := by
  intro k
  induction k with
  | zero => intro _ i h; exact absurd h (Nat.not_lt_zero _)
  | succ k ih =>
    intro h i hi
    rw [keeps] at h
    split at h
    · rename_i j hj
      rw [Bool.and_eq_true] at h
      have := Nat.eq_of_beq_eq_true h.1
      subst this
      rcases Nat.lt_or_ge i j with h2 | h2
      · exact ih h.2 i h2
      · obtain rfl : i = j := by omega
        exact hj
    · cases h
section
variable {E : Env} {N : Nat}
theorem Wkn.pick (ρ : List Nat) {sl sl' : Slots} {H os : List AO} (hp : PickO (rn ρ H.length) H ρ os) (hn : ndup ρ = true) (hk : keeps ρ E.k = true) (hs' : SubR (rn ρ H.length) sl sl') : Wkn E N ⟨sl, H⟩ ⟨sl', os⟩ := by
  intro I ν a w hs
  obtain ⟨h1, h2⟩ := c8o hs.hr hp hn
  obtain ⟨g1, g2⟩ := hp.get
  refine ⟨I, nuC ρ ν, ⟨HR.env (E := E.at 0) (F := E) rfl rfl h1, fun t x hx => ?_, hs.df, hs.nt⟩, ⟨ImmLe.refl _ _, Nat.le_refl _, fun _ _ h => .inl h, fun _ _ _ => rfl, fun b hb => ?_, fun id hi hn' => ?_, fun id hi hg => ?_⟩⟩
  · obtain ⟨y, hy, hxy⟩ := hs'.get t x hx
    exact c8i hs.hr.n (hs.sl t y hy) hxy
  · obtain ⟨i, j, o', _, k2, k3⟩ := h2 b hb
    exact .inl ⟨j, o', k2, k3⟩
  · have hr := b3m hk id hi
    have hl : id < ρ.length := (List.getElem?_eq_some_iff.1 hr).1
    refine ⟨hl, ?_, fun ver _ => ?_⟩
    · simp only [nuC, hr, Option.getD_some]; exact Nat.le_refl _
    · simp only [nuC, hr, Option.getD_some]
  · have hr := b3m hk id hi
    have hl : id < ρ.length := (List.getElem?_eq_some_iff.1 hr).1
    have hos : id < os.length := by omega
    refine ⟨by simp only [nuC, hr, Option.getD_some], ?_⟩
    show os[id]? = some .gone
    obtain ⟨j, o', k1, k2, k3⟩ := g2 id (os[id]'hos) (List.getElem?_eq_getElem hos)
    rw [hr] at k1
    injection k1 with k1
    subst k1
    rw [List.getElem?_eq_getElem hos]
    have : o' = .gone := Option.some.inj (k2.symm.trans hg)
    subst this
    revert k3
    generalize os[id]'hos = q
    intro k3
    cases k3
    rfl
variable {sl : Slots} {H : List AO}
theorem a3p {t e : Nat} {n b : Nat} {z : Value} [ti : TI E.P t (.slice e) n b z] {x : Operand} {xs : List (List AV)} (k : Nat) (hx : ev sl x = some (.rs xs)) (hk : xs.length = k) : OV E sl H (.call { callee := .builtin .len, args := #[x], argTypes := #[t] }) (.int .i64 (k : Int)) := by
  subst hk
  exact a2f hx
end
end Go.Proofs.YtkljmljkiodnpaaGreatDoor.L

namespace Go.Proofs.YtkljmljkiodnpaaGreatDoor.L
open Go Go.RowKit
theorem stm {P Q : Prop} (h : Q) (k : Q → P := by intro h;repeat1' (first|(refine a2k ?_;first|refine a0b (a0l rfl) rfl ?_|(refine k_g ?_;first|refine a1j rfl rfl (by with_reducible rfl) ?_|refine a1w rfl rfl (by with_reducible rfl) rfl ?_|refine a1t rfl rfl (by with_reducible rfl) rfl ?_|refine c6o rfl rfl (by with_reducible rfl) ?_|refine c6p rfl rfl (by with_reducible rfl) ?_|refine a4a rfl rfl rfl ?_|refine c7w rfl rfl ?_)|refine a0b (a0f rfl rfl) rfl ?_|(refine a1g ?_;first|refine a0b (a0w rfl rfl) rfl ?_|refine a0b (a0m rfl rfl rfl) rfl ?_)|(refine a1i ?_;first|refine a0b (a0j rfl (by with_reducible rfl) rfl) rfl ?_|refine a0b (a0i rfl (by with_reducible rfl) rfl) rfl ?_)|refine a0b (a0e rfl) rfl ?_|refine a0b (a0s rfl rfl) rfl ?_|refine a0u ?_|refine a0b (a0y rfl (by with_reducible rfl)) rfl ?_|refine a0b (a1r rfl (by with_reducible rfl)) rfl ?_)|(first|refine a1n ?_));exact h) : P := k h
theorem stp {P Q : Prop} (h : Q) (k : Q → P := by intro h;first|(refine a2k ?_;first|(refine a1a ?_;first|(exact a0b (a1h rfl rfl rfl) rfl h)|(exact a0b (a4m rfl rfl (by first|omega|(simp only [List.length_append,List.length_cons,List.length_nil];omega)|(simp;omega))) rfl h)|(exact a0b (a1p rfl rfl (by (first|exact w64 (by omega) (by omega)|exact w8 (by omega) (by omega)|rfl))) rfl h)|(exact a0b (a2s rfl rfl (by (first|exact w64 (by omega) (by omega)|exact w8 (by omega) (by omega)|rfl))) rfl h)|(exact a0b (a8f rfl rfl (by (first|exact w64 (by omega) (by omega)|exact w8 (by omega) (by omega)|rfl))) rfl h)|(exact a0b (c7i rfl rfl (by decide) rfl) rfl h)|(exact a0b (a2t rfl rfl) rfl h)|(exact a0b (a3l rfl rfl) rfl h)|(exact a0b (c4i rfl rfl) rfl h)|(exact a0b (c4h rfl rfl) rfl h)|(exact a0b (b9y rfl rfl (by repeat constructor) (by repeat constructor)) rfl h)|(exact a0b (b9x rfl rfl (by repeat constructor) (by repeat constructor)) rfl h))|(refine a0d ?_;first|(exact a0b (a2f rfl) rfl h)|(exact a0b (a0p rfl) rfl h)|(exact a0b (b0w rfl) rfl h)|(exact a0b (a3m rfl rfl rfl) rfl h))|(exact a2g rfl rfl rfl (by first|exact ln0|exact ln1|exact ln2|exact ln3|exact ln4|exact ln5|exact ln6|exact ln7) (by repeat constructor) rfl h)|(exact a0z rfl rfl rfl (by first|exact ln0|exact ln1|exact ln2|exact ln3|exact ln4|exact ln5|exact ln6|exact ln7) (by repeat constructor) rfl h)|(exact a1c rfl rfl rfl rfl rfl (by repeat constructor) (by repeat constructor) h)|(exact a0b (a1x rfl rfl rfl (by repeat constructor)) rfl h)|(exact a2e (by rfl) (by rfl) (by rfl) (by rfl) (by decide) (by decide) (by rfl) (by rfl) (by repeat constructor) (by rfl) (by repeat constructor) (by rfl) (by first|exact ln0|exact ln1|exact ln2|exact ln3|exact ln4|exact ln5|exact ln6|exact ln7) (by repeat constructor) rfl h)|(exact a0b (a3h rfl) rfl h)|(exact a0b (a2z rfl rfl) rfl h)|(exact a0b (a1u rfl rfl (by omega) (by omega)) rfl h)|(exact a7y (by first|exact ln0|exact ln1|exact ln2|exact ln3|exact ln4|exact ln5|exact ln6|exact ln7) (by repeat constructor) rfl h))|(first|(refine a1o ?_;first|(exact a0c (a0a h))|(exact a0c h)|(exact a0a h)|(refine a0x ?_;first|(exact a0g rfl (by with_reducible rfl) h)|(exact a0h rfl (by with_reducible rfl) h))|(exact a0n h)|(exact a6a h)|(exact a0o h)|(exact a0k h)|(exact a1f h)|(exact a2x h)|(exact a3e h))|(exact a0t h)|(exact a1q h)|(exact a2b h)|(exact a1d h)|(exact a1v h)|(exact a1b h)|(exact a1e h)|(exact a5g rfl h)|(exact a3d h)|(exact c3e h)|(exact a8n h)|(exact a3w h)|(exact c5z h)|(exact a2v h)|(exact c3b h)|(exact c8n h)|(exact a9i h)|(exact c2z h))) : P := k h
theorem stq {P Q : Prop} (h : Q) (k : Q → P := by intro h;first|(first|(exact a4c (a0l rfl) rfl h)|(exact a4c (a0e rfl) rfl h)|(exact a4c (a0f rfl rfl) rfl h)|(exact a4c (a0w rfl rfl) rfl h)|(exact a4c (a0m rfl rfl rfl) rfl h)|(exact c8j rfl rfl (by with_reducible rfl) h)|(exact c7e rfl rfl (by with_reducible rfl) rfl h)|(exact c7f rfl rfl (by with_reducible rfl) rfl h)|(exact a4c (a1h rfl rfl rfl) rfl h)|(exact a4c (a0j rfl (by with_reducible rfl) rfl) rfl h)|(exact a4c (a0i rfl (by with_reducible rfl) rfl) rfl h)|(exact a4c (a2f rfl) rfl h)|(exact a4c (a0p rfl) rfl h)|(exact a4c (a2t rfl rfl) rfl h)|(exact a4c (a3l rfl rfl) rfl h)|(exact a4c (b9y rfl rfl (by repeat constructor) (by repeat constructor)) rfl h)|(exact a4c (b9x rfl rfl (by repeat constructor) (by repeat constructor)) rfl h)|(exact a4c (a0s rfl rfl) rfl h)|(exact a4c (a1u rfl rfl (by omega) (by omega)) rfl h)|(exact a4c (a1p rfl rfl (by (first|exact w64 (by omega) (by omega)|exact w8 (by omega) (by omega)|rfl))) rfl h)|(exact a4c (a2s rfl rfl (by (first|exact w64 (by omega) (by omega)|exact w8 (by omega) (by omega)|rfl))) rfl h)|(exact a4c (a0y rfl (by with_reducible rfl)) rfl h)|(exact a4c (a1r rfl (by with_reducible rfl)) rfl h)|(exact a4c (a3h rfl) rfl h)|(exact a4c (a2z rfl rfl) rfl h)|(exact c8k rfl rfl rfl h)|(exact a4c (a4m rfl rfl (by first|omega|(simp only [List.length_append,List.length_cons,List.length_nil];omega)|(simp;omega))) rfl h)|(exact b0u h))) : P := k h
theorem sth {P Q : Prop} (h : Q) (k : Q → P := by intro h;first|(first|(refine a7n ?_;first|(exact a7p rfl h)|(exact a2c (a0l rfl) rfl h)|(exact a2c (a0e rfl) rfl h)|(exact a2c (a0f rfl rfl) rfl h)|(exact a2c (a0w rfl rfl) rfl h)|(exact a2c (a0m rfl rfl rfl) rfl h)|(exact a2c (a1h rfl rfl rfl) rfl h)|(exact a2c (a0j rfl (by with_reducible rfl) rfl) rfl h)|(exact a2c (a0i rfl (by with_reducible rfl) rfl) rfl h)|(exact a2c (a2f rfl) rfl h)|(exact a2c (a0p rfl) rfl h)|(exact a2c (b0w rfl) rfl h)|(exact a2c (a3m rfl rfl rfl) rfl h)|(exact a2c (a2t rfl rfl) rfl h)|(exact a2c (a3l rfl rfl) rfl h)|(exact a2c (b9y rfl rfl (by repeat constructor) (by repeat constructor)) rfl h)|(exact a2c (b9x rfl rfl (by repeat constructor) (by repeat constructor)) rfl h)|(exact a2c (a0s rfl rfl) rfl h)|(exact a2c (a1u rfl rfl (by omega) (by omega)) rfl h)|(exact a2c (a1p rfl rfl (by (first|exact w64 (by omega) (by omega)|exact w8 (by omega) (by omega)|rfl))) rfl h)|(exact a2c (a2s rfl rfl (by (first|exact w64 (by omega) (by omega)|exact w8 (by omega) (by omega)|rfl))) rfl h)|(exact a2c (a0y rfl (by with_reducible rfl)) rfl h)|(exact a2c (a1r rfl (by with_reducible rfl)) rfl h)|(exact a2c (a3h rfl) rfl h)|(exact a2c (a2z rfl rfl) rfl h)|(exact a2c (a1x rfl rfl rfl (by repeat constructor)) rfl h)|(exact a2c (a4m rfl rfl (by first|omega|(simp only [List.length_append,List.length_cons,List.length_nil];omega)|(simp;omega))) rfl h)|(exact a2c (c4i rfl rfl) rfl h)|(exact a2c (c4h rfl rfl) rfl h))|(exact a4o rfl h)|(refine a7o ?_;first|(exact a7q h)|(exact b5f rfl rfl (by with_reducible rfl) h)|(exact c7p rfl rfl (by with_reducible rfl) rfl h)|(exact a9n rfl rfl (by with_reducible rfl) rfl h)|(exact c8p rfl rfl rfl h))|(exact a3r h)|(exact a3j h))) : P := k h
end Go.Proofs.YtkljmljkiodnpaaGreatDoor.L

namespace Go.Proofs.YtkljmljkiodnpaaGreatDoor.L
open Go Go.Proofs
theorem iz3 : (Tryz.prog.info? 3).map (fun i => (i.zero, i.size, i.bytes)) = some (some (.int .i64 0), 1, 8) := by kernel_rfl
instance : TI Tryz.prog 3 (.int .i64) 1 8 (.int .i64 0) := ⟨Tryz.underlying3, iz3⟩
instance : TZ Tryz.prog 3 false 1 8 (.int .i64 0) := ⟨iz3, a3o Tryz.underlying3 rfl⟩
theorem iz4 : (Tryz.prog.info? 4).map (fun i => (i.zero, i.size, i.bytes)) = some (some (.bool false), 1, 1) := by kernel_rfl
instance : TZ Tryz.prog 4 false 1 1 (.bool false) := ⟨iz4, a3o Tryz.underlying4 rfl⟩
theorem iz5 : (Tryz.prog.info? 5).map (fun i => (i.zero, i.size, i.bytes)) = some (some (.int .u8 0), 1, 1) := by kernel_rfl
instance : TI Tryz.prog 5 (.int .u8) 1 1 (.int .u8 0) := ⟨Tryz.underlying5, iz5⟩
instance : TZ Tryz.prog 5 false 1 1 (.int .u8 0) := ⟨iz5, a3o Tryz.underlying5 rfl⟩
theorem iz9 : (Tryz.prog.info? 9).map (fun i => (i.zero, i.size, i.bytes)) = some (some (.string ⟨#[]⟩), 1, 16) := by kernel_rfl
instance : TI Tryz.prog 9 .string 1 16 (.string ⟨#[]⟩) := ⟨Tryz.underlying9, iz9⟩
instance : TZ Tryz.prog 9 false 1 16 (.string ⟨#[]⟩) := ⟨iz9, a3o Tryz.underlying9 rfl⟩
theorem iz21 : (Tryz.prog.info? 21).map (fun i => (i.zero, i.size, i.bytes)) = some (some (.int .i32 0), 1, 4) := by kernel_rfl
instance : TI Tryz.prog 21 (.int .i32) 1 4 (.int .i32 0) := ⟨Tryz.underlying21, iz21⟩
instance : FO Tryz.prog 23 0 0 1 := ⟨_, _, Tryz.underlying23, rfl, rfl, a2a iz3, by decide⟩
instance : FO Tryz.prog 23 1 1 1 := ⟨_, _, Tryz.underlying23, rfl, rfl, a2a iz3, by decide⟩
instance : FO Tryz.prog 23 2 2 1 := ⟨_, _, Tryz.underlying23, rfl, rfl, a2a iz3, by decide⟩
theorem iz24 : (Tryz.prog.info? 24).map (fun i => (i.zero, i.size, i.bytes)) = some (some (.slice none 0 0), 1, 24) := by kernel_rfl
instance : TI Tryz.prog 24 (.slice 34) 1 24 (.slice none 0 0) := ⟨Tryz.underlying24, iz24⟩
theorem iz25 : (Tryz.prog.info? 25).map (fun i => (i.zero, i.size, i.bytes)) = some (some (.pointer none), 1, 8) := by kernel_rfl
instance : TI Tryz.prog 25 (.pointer 72) 1 8 (.pointer none) := ⟨Tryz.underlying25, iz25⟩
theorem iz26 : (Tryz.prog.info? 26).map (fun i => (i.zero, i.size, i.bytes)) = some (some (.int .i64 0), 1, 8) := by kernel_rfl
instance : TZ Tryz.prog 26 false 1 8 (.int .i64 0) := ⟨iz26, a3o Tryz.underlying26 rfl⟩
theorem iz30 : (Tryz.prog.info? 30).map (fun i => (i.zero, i.size, i.bytes)) = some (some (.slice none 0 0), 1, 24) := by kernel_rfl
instance : TI Tryz.prog 30 (.slice 90) 1 24 (.slice none 0 0) := ⟨Tryz.underlying30, iz30⟩
instance : TZ Tryz.prog 30 false 1 24 (.slice none 0 0) := ⟨iz30, a3o Tryz.underlying30 rfl⟩
theorem iz32 : (Tryz.prog.info? 32).map (fun i => (i.zero, i.size, i.bytes)) = some (some (.agg #[(.int .i64 0), (.slice none 0 0), (.string ⟨#[]⟩), (.bool false)]), 4, 56) := by kernel_rfl
instance : TZ Tryz.prog 32 true 4 56 (.agg #[(.int .i64 0), (.slice none 0 0), (.string ⟨#[]⟩), (.bool false)]) := ⟨iz32, a3o Tryz.underlying32 rfl⟩
instance : FO Tryz.prog 32 0 0 1 := ⟨_, _, Tryz.underlying32, rfl, rfl, a2a iz3, by decide⟩
instance : FO Tryz.prog 32 1 1 1 := ⟨_, _, Tryz.underlying32, rfl, rfl, a2a iz30, by decide⟩
instance : FO Tryz.prog 32 2 2 1 := ⟨_, _, Tryz.underlying32, rfl, rfl, a2a iz9, by decide⟩
instance : FO Tryz.prog 32 3 3 1 := ⟨_, _, Tryz.underlying32, rfl, rfl, a2a iz4, by decide⟩
instance : FT Tryz.prog 32 [(0, 1), (1, 1), (2, 1), (3, 1)] := ⟨_, Tryz.underlying32, .cons (a2a iz3) (.cons (a2a iz30) (.cons (a2a iz9) (.cons (a2a iz4) (.nil))))⟩
theorem iz34 : (Tryz.prog.info? 34).map (fun i => (i.zero, i.size, i.bytes)) = some (some (.agg #[(.int .i64 0), (.int .i64 0), (.int .i64 0), (.string ⟨#[]⟩), (.int .i64 0), (.slice none 0 0), (.string ⟨#[]⟩), (.bool false)]), 8, 96) := by kernel_rfl
instance : TZ Tryz.prog 34 true 8 96 (.agg #[(.int .i64 0), (.int .i64 0), (.int .i64 0), (.string ⟨#[]⟩), (.int .i64 0), (.slice none 0 0), (.string ⟨#[]⟩), (.bool false)]) := ⟨iz34, a3o Tryz.underlying34 rfl⟩
instance : FO Tryz.prog 34 0 0 1 := ⟨_, _, Tryz.underlying34, rfl, rfl, a2a iz3, by decide⟩
instance : FO Tryz.prog 34 1 1 1 := ⟨_, _, Tryz.underlying34, rfl, rfl, a2a iz3, by decide⟩
instance : FO Tryz.prog 34 2 2 1 := ⟨_, _, Tryz.underlying34, rfl, rfl, a2a iz3, by decide⟩
instance : FO Tryz.prog 34 3 3 1 := ⟨_, _, Tryz.underlying34, rfl, rfl, a2a iz9, by decide⟩
instance : FO Tryz.prog 34 4 4 4 := ⟨_, _, Tryz.underlying34, rfl, rfl, a2a iz32, by decide⟩
theorem iz40 : (Tryz.prog.info? 40).map (fun i => (i.zero, i.size, i.bytes)) = some (some (.agg #[(.string ⟨#[]⟩), (.string ⟨#[]⟩), (.int .i64 0), (.slice none 0 0)]), 4, 64) := by kernel_rfl
instance : TZ Tryz.prog 40 true 4 64 (.agg #[(.string ⟨#[]⟩), (.string ⟨#[]⟩), (.int .i64 0), (.slice none 0 0)]) := ⟨iz40, a3o Tryz.underlying40 rfl⟩
instance : FO Tryz.prog 40 0 0 1 := ⟨_, _, Tryz.underlying40, rfl, rfl, a2a iz9, by decide⟩
instance : FO Tryz.prog 40 1 1 1 := ⟨_, _, Tryz.underlying40, rfl, rfl, a2a iz9, by decide⟩
instance : FO Tryz.prog 40 2 2 1 := ⟨_, _, Tryz.underlying40, rfl, rfl, a2a iz3, by decide⟩
instance : FO Tryz.prog 40 3 3 1 := ⟨_, _, Tryz.underlying40, rfl, rfl, a2a iz30, by decide⟩
instance : FT Tryz.prog 40 [(0, 1), (1, 1), (2, 1), (3, 1)] := ⟨_, Tryz.underlying40, .cons (a2a iz9) (.cons (a2a iz9) (.cons (a2a iz3) (.cons (a2a iz30) (.nil))))⟩
theorem iz42 : (Tryz.prog.info? 42).map (fun i => (i.zero, i.size, i.bytes)) = some (some (.agg #[(.string ⟨#[]⟩), (.string ⟨#[]⟩), (.int .i64 0), (.slice none 0 0), (.string ⟨#[]⟩), (.slice none 0 0), (.string ⟨#[]⟩), (.bool false)]), 8, 128) := by kernel_rfl
instance : TZ Tryz.prog 42 true 8 128 (.agg #[(.string ⟨#[]⟩), (.string ⟨#[]⟩), (.int .i64 0), (.slice none 0 0), (.string ⟨#[]⟩), (.slice none 0 0), (.string ⟨#[]⟩), (.bool false)]) := ⟨iz42, a3o Tryz.underlying42 rfl⟩
instance : FO Tryz.prog 42 0 0 4 := ⟨_, _, Tryz.underlying42, rfl, rfl, a2a iz40, by decide⟩
instance : FO Tryz.prog 42 1 4 1 := ⟨_, _, Tryz.underlying42, rfl, rfl, a2a iz9, by decide⟩
instance : FO Tryz.prog 42 3 6 1 := ⟨_, _, Tryz.underlying42, rfl, rfl, a2a iz9, by decide⟩
instance : FO Tryz.prog 42 4 7 1 := ⟨_, _, Tryz.underlying42, rfl, rfl, a2a iz4, by decide⟩
instance : FT Tryz.prog 42 [(0, 4), (4, 1), (5, 1), (6, 1), (7, 1)] := ⟨_, Tryz.underlying42, .cons (a2a iz40) (.cons (a2a iz9) (.cons (a2a iz30) (.cons (a2a iz9) (.cons (a2a iz4) (.nil)))))⟩
theorem iz44 : (Tryz.prog.info? 44).map (fun i => (i.zero, i.size, i.bytes)) = some (some (.agg #[(.int .i64 0), (.string ⟨#[]⟩), (.bool false), (.int .i64 0), (.string ⟨#[]⟩), (.string ⟨#[]⟩), (.string ⟨#[]⟩), (.string ⟨#[]⟩), (.string ⟨#[]⟩), (.int .i64 0), (.slice none 0 0), (.string ⟨#[]⟩), (.slice none 0 0), (.string ⟨#[]⟩), (.bool false)]), 15, 216) := by kernel_rfl
instance : TZ Tryz.prog 44 true 15 216 (.agg #[(.int .i64 0), (.string ⟨#[]⟩), (.bool false), (.int .i64 0), (.string ⟨#[]⟩), (.string ⟨#[]⟩), (.string ⟨#[]⟩), (.string ⟨#[]⟩), (.string ⟨#[]⟩), (.int .i64 0), (.slice none 0 0), (.string ⟨#[]⟩), (.slice none 0 0), (.string ⟨#[]⟩), (.bool false)]) := ⟨iz44, a3o Tryz.underlying44 rfl⟩
instance : FO Tryz.prog 44 0 0 1 := ⟨_, _, Tryz.underlying44, rfl, rfl, a2a iz3, by decide⟩
instance : FO Tryz.prog 44 1 1 1 := ⟨_, _, Tryz.underlying44, rfl, rfl, a2a iz9, by decide⟩
instance : FO Tryz.prog 44 3 3 1 := ⟨_, _, Tryz.underlying44, rfl, rfl, a2a iz3, by decide⟩
instance : FT Tryz.prog 44 [(0, 1), (1, 1), (2, 1), (3, 1), (4, 1), (5, 1), (6, 1), (7, 8)] := ⟨_, Tryz.underlying44, .cons (a2a iz3) (.cons (a2a iz9) (.cons (a2a iz4) (.cons (a2a iz3) (.cons (a2a iz9) (.cons (a2a iz9) (.cons (a2a iz9) (.cons (a2a iz42) (.nil))))))))⟩
theorem iz52 : (Tryz.prog.info? 52).map (fun i => (i.zero, i.size, i.bytes)) = some (some (.slice none 0 0), 1, 24) := by kernel_rfl
instance : TI Tryz.prog 52 (.slice 9) 1 24 (.slice none 0 0) := ⟨Tryz.underlying52, iz52⟩
theorem iz69 : (Tryz.prog.info? 69).map (fun i => (i.zero, i.size, i.bytes)) = some (some (.map none), 1, 8) := by kernel_rfl
instance : TI Tryz.prog 69 (.map 3 76) 1 8 (.map none) := ⟨Tryz.underlying69, iz69⟩
instance : TZ Tryz.prog 69 false 1 8 (.map none) := ⟨iz69, a3o Tryz.underlying69 rfl⟩
theorem iz70 : (Tryz.prog.info? 70).map (fun i => (i.zero, i.size, i.bytes)) = some (some (.map none), 1, 8) := by kernel_rfl
instance : TI Tryz.prog 70 (.map 9 3) 1 8 (.map none) := ⟨Tryz.underlying70, iz70⟩
instance : TZ Tryz.prog 70 false 1 8 (.map none) := ⟨iz70, a3o Tryz.underlying70 rfl⟩
theorem iz72 : (Tryz.prog.info? 72).map (fun i => (i.zero, i.size, i.bytes)) = some (some (.agg #[(.int .i64 0), (.int .i64 0), (.int .i64 0), (.map none), (.map none)]), 5, 40) := by kernel_rfl
instance : TZ Tryz.prog 72 true 5 40 (.agg #[(.int .i64 0), (.int .i64 0), (.int .i64 0), (.map none), (.map none)]) := ⟨iz72, a3o Tryz.underlying72 rfl⟩
instance : FO Tryz.prog 72 0 0 1 := ⟨_, _, Tryz.underlying72, rfl, rfl, a2a iz3, by decide⟩
instance : FO Tryz.prog 72 1 1 1 := ⟨_, _, Tryz.underlying72, rfl, rfl, a2a iz3, by decide⟩
instance : FO Tryz.prog 72 2 2 1 := ⟨_, _, Tryz.underlying72, rfl, rfl, a2a iz3, by decide⟩
instance : FO Tryz.prog 72 3 3 1 := ⟨_, _, Tryz.underlying72, rfl, rfl, a2a iz69, by decide⟩
instance : FO Tryz.prog 72 4 4 1 := ⟨_, _, Tryz.underlying72, rfl, rfl, a2a iz70, by decide⟩
instance : FT Tryz.prog 72 [(0, 1), (1, 1), (2, 1), (3, 1), (4, 1)] := ⟨_, Tryz.underlying72, .cons (a2a iz3) (.cons (a2a iz3) (.cons (a2a iz3) (.cons (a2a iz69) (.cons (a2a iz70) (.nil)))))⟩
theorem iz76 : (Tryz.prog.info? 76).map (fun i => (i.zero, i.size, i.bytes)) = some (some (.pointer none), 1, 8) := by kernel_rfl
instance : TI Tryz.prog 76 (.pointer 81) 1 8 (.pointer none) := ⟨Tryz.underlying76, iz76⟩
instance : TZ Tryz.prog 76 false 1 8 (.pointer none) := ⟨iz76, a3o Tryz.underlying76 rfl⟩
theorem iz77 : (Tryz.prog.info? 77).map (fun i => (i.zero, i.size, i.bytes)) = some (some (.pointer none), 1, 8) := by kernel_rfl
instance : TI Tryz.prog 77 (.pointer 102) 1 8 (.pointer none) := ⟨Tryz.underlying77, iz77⟩
instance : TZ Tryz.prog 77 false 1 8 (.pointer none) := ⟨iz77, a3o Tryz.underlying77 rfl⟩
theorem iz79 : (Tryz.prog.info? 79).map (fun i => (i.zero, i.size, i.bytes)) = some (some (.pointer none), 1, 8) := by kernel_rfl
instance : TI Tryz.prog 79 (.pointer 32) 1 8 (.pointer none) := ⟨Tryz.underlying79, iz79⟩
instance : TZ Tryz.prog 79 false 1 8 (.pointer none) := ⟨iz79, a3o Tryz.underlying79 rfl⟩
theorem iz81 : (Tryz.prog.info? 81).map (fun i => (i.zero, i.size, i.bytes)) = some (some (.agg #[(.pointer none), (.int .i64 0), (.bool false), (.bool false), (.bool false), (.int .i64 0), (.bool false), (.pointer none)]), 8, 48) := by kernel_rfl
instance : TZ Tryz.prog 81 true 8 48 (.agg #[(.pointer none), (.int .i64 0), (.bool false), (.bool false), (.bool false), (.int .i64 0), (.bool false), (.pointer none)]) := ⟨iz81, a3o Tryz.underlying81 rfl⟩
instance : FO Tryz.prog 81 0 0 1 := ⟨_, _, Tryz.underlying81, rfl, rfl, a2a iz77, by decide⟩
instance : FO Tryz.prog 81 1 1 1 := ⟨_, _, Tryz.underlying81, rfl, rfl, a2a iz3, by decide⟩
instance : FO Tryz.prog 81 2 2 1 := ⟨_, _, Tryz.underlying81, rfl, rfl, a2a iz4, by decide⟩
instance : FO Tryz.prog 81 3 3 1 := ⟨_, _, Tryz.underlying81, rfl, rfl, a2a iz4, by decide⟩
instance : FO Tryz.prog 81 4 4 1 := ⟨_, _, Tryz.underlying81, rfl, rfl, a2a iz4, by decide⟩
instance : FO Tryz.prog 81 5 5 1 := ⟨_, _, Tryz.underlying81, rfl, rfl, a2a iz3, by decide⟩
instance : FO Tryz.prog 81 6 6 1 := ⟨_, _, Tryz.underlying81, rfl, rfl, a2a iz4, by decide⟩
instance : FO Tryz.prog 81 7 7 1 := ⟨_, _, Tryz.underlying81, rfl, rfl, a2a iz79, by decide⟩
instance : FT Tryz.prog 81 [(0, 1), (1, 1), (2, 1), (3, 1), (4, 1), (5, 1), (6, 1), (7, 1)] := ⟨_, Tryz.underlying81, .cons (a2a iz77) (.cons (a2a iz3) (.cons (a2a iz4) (.cons (a2a iz4) (.cons (a2a iz4) (.cons (a2a iz3) (.cons (a2a iz4) (.cons (a2a iz79) (.nil))))))))⟩
theorem iz90 : (Tryz.prog.info? 90).map (fun i => (i.zero, i.size, i.bytes)) = some (some (.agg #[(.string ⟨#[]⟩), (.string ⟨#[]⟩)]), 2, 32) := by kernel_rfl
instance : TZ Tryz.prog 90 true 2 32 (.agg #[(.string ⟨#[]⟩), (.string ⟨#[]⟩)]) := ⟨iz90, a3o Tryz.underlying90 rfl⟩
instance : FO Tryz.prog 90 0 0 1 := ⟨_, _, Tryz.underlying90, rfl, rfl, a2a iz9, by decide⟩
instance : FO Tryz.prog 90 1 1 1 := ⟨_, _, Tryz.underlying90, rfl, rfl, a2a iz9, by decide⟩
instance : FT Tryz.prog 90 [(0, 1), (1, 1)] := ⟨_, Tryz.underlying90, .cons (a2a iz9) (.cons (a2a iz9) (.nil))⟩
theorem iz102 : (Tryz.prog.info? 102).map (fun i => (i.zero, i.size, i.bytes)) = some (some (.agg #[(.bool false), (.string ⟨#[]⟩), (.int .i64 0)]), 3, 32) := by kernel_rfl
instance : TZ Tryz.prog 102 true 3 32 (.agg #[(.bool false), (.string ⟨#[]⟩), (.int .i64 0)]) := ⟨iz102, a3o Tryz.underlying102 rfl⟩
instance : FO Tryz.prog 102 0 0 1 := ⟨_, _, Tryz.underlying102, rfl, rfl, a2a iz4, by decide⟩
instance : FO Tryz.prog 102 1 1 1 := ⟨_, _, Tryz.underlying102, rfl, rfl, a2a iz9, by decide⟩
instance : FO Tryz.prog 102 2 2 1 := ⟨_, _, Tryz.underlying102, rfl, rfl, a2a iz3, by decide⟩
instance : FT Tryz.prog 102 [(0, 1), (1, 1), (2, 1)] := ⟨_, Tryz.underlying102, .cons (a2a iz4) (.cons (a2a iz9) (.cons (a2a iz3) (.nil)))⟩
theorem iz125 : (Tryz.prog.info? 125).map (fun i => (i.zero, i.size, i.bytes)) = some (some (.pointer none), 1, 8) := by kernel_rfl
instance : TI Tryz.prog 125 (.pointer 128) 1 8 (.pointer none) := ⟨Tryz.underlying125, iz125⟩
instance : TZ Tryz.prog 125 false 1 8 (.pointer none) := ⟨iz125, a3o Tryz.underlying125 rfl⟩
theorem iz126 : (Tryz.prog.info? 126).map (fun i => (i.zero, i.size, i.bytes)) = some (some (.slice none 0 0), 1, 24) := by kernel_rfl
instance : TI Tryz.prog 126 (.slice 5) 1 24 (.slice none 0 0) := ⟨Tryz.underlying126, iz126⟩
instance : TZ Tryz.prog 126 false 1 24 (.slice none 0 0) := ⟨iz126, a3o Tryz.underlying126 rfl⟩
theorem iz128 : (Tryz.prog.info? 128).map (fun i => (i.zero, i.size, i.bytes)) = some (some (.agg #[(.pointer none), (.slice none 0 0)]), 2, 32) := by kernel_rfl
instance : TZ Tryz.prog 128 true 2 32 (.agg #[(.pointer none), (.slice none 0 0)]) := ⟨iz128, a3o Tryz.underlying128 rfl⟩
instance : FO Tryz.prog 128 0 0 1 := ⟨_, _, Tryz.underlying128, rfl, rfl, a2a iz125, by decide⟩
instance : FO Tryz.prog 128 1 1 1 := ⟨_, _, Tryz.underlying128, rfl, rfl, a2a iz126, by decide⟩
theorem iz135 : (Tryz.prog.info? 135).map (fun i => (i.zero, i.size, i.bytes)) = some (some .nilFunc, 1, 8) := by kernel_rfl
instance : TZ Tryz.prog 135 false 1 8 .nilFunc := ⟨iz135, a3o Tryz.underlying135 rfl⟩
theorem iz137 : (Tryz.prog.info? 137).map (fun i => (i.zero, i.size, i.bytes)) = some (some (.agg #[.nilFunc]), 1, 8) := by kernel_rfl
instance : TZ Tryz.prog 137 true 1 8 (.agg #[.nilFunc]) := ⟨iz137, a3o Tryz.underlying137 rfl⟩
instance : FO Tryz.prog 137 0 0 1 := ⟨_, _, Tryz.underlying137, rfl, rfl, a2a iz135, by decide⟩
instance : FT Tryz.prog 137 [(0, 1)] := ⟨_, Tryz.underlying137, .cons (a2a iz135) (.nil)⟩
theorem iz138 : (Tryz.prog.info? 138).map (fun i => (i.zero, i.size, i.bytes)) = some (some (.slice none 0 0), 1, 24) := by kernel_rfl
instance : TI Tryz.prog 138 (.slice 137) 1 24 (.slice none 0 0) := ⟨Tryz.underlying138, iz138⟩
theorem iz164 : (Tryz.prog.info? 164).map (fun i => (i.zero, i.size, i.bytes)) = some (some (.slice none 0 0), 1, 24) := by kernel_rfl
instance : TI Tryz.prog 164 (.slice 167) 1 24 (.slice none 0 0) := ⟨Tryz.underlying164, iz164⟩
theorem iz167 : (Tryz.prog.info? 167).map (fun i => (i.zero, i.size, i.bytes)) = some (some (.agg #[(.int .i64 0), (.string ⟨#[]⟩)]), 2, 24) := by kernel_rfl
instance : TZ Tryz.prog 167 true 2 24 (.agg #[(.int .i64 0), (.string ⟨#[]⟩)]) := ⟨iz167, a3o Tryz.underlying167 rfl⟩
instance : FO Tryz.prog 167 0 0 1 := ⟨_, _, Tryz.underlying167, rfl, rfl, a2a iz3, by decide⟩
instance : FO Tryz.prog 167 1 1 1 := ⟨_, _, Tryz.underlying167, rfl, rfl, a2a iz9, by decide⟩
instance : FT Tryz.prog 167 [(0, 1), (1, 1)] := ⟨_, Tryz.underlying167, .cons (a2a iz3) (.cons (a2a iz9) (.nil))⟩
theorem iz168 : (Tryz.prog.info? 168).map (fun i => (i.zero, i.size, i.bytes)) = some (some (.pointer none), 1, 8) := by kernel_rfl
instance : TI Tryz.prog 168 (.pointer 5) 1 8 (.pointer none) := ⟨Tryz.underlying168, iz168⟩
theorem iz190 : (Tryz.prog.info? 190).map (fun i => (i.zero, i.size, i.bytes)) = some (some (.pointer none), 1, 8) := by kernel_rfl
instance : TI Tryz.prog 190 .unsafePointer 1 8 (.pointer none) := ⟨Tryz.underlying190, iz190⟩
instance : FN Tryz.prog 8 := ⟨_, Tryz.func8, by kernel_rfl, by kernel_rfl⟩ -- cloister/demux.New
instance : FN Tryz.prog 9 := ⟨_, Tryz.func9, by kernel_rfl, by kernel_rfl⟩ -- cloister/cloisterlaw18.awake
instance : FN Tryz.prog 10 := ⟨_, Tryz.func10, by kernel_rfl, by kernel_rfl⟩ -- (*cloister/demux.Demux).Arrive
instance : FN Tryz.prog 11 := ⟨_, Tryz.func11, by kernel_rfl, by kernel_rfl⟩ -- (*cloister/demux.Demux).Counts
instance : FN Tryz.prog 12 := ⟨_, Tryz.func12, by kernel_rfl, by kernel_rfl⟩ -- (*cloister/demux.Demux).Waits
instance : FN Tryz.prog 13 := ⟨_, Tryz.func13, by kernel_rfl, by kernel_rfl⟩ -- (*cloister/demux.Demux).Pick
instance : FN Tryz.prog 14 := ⟨_, Tryz.func14, by kernel_rfl, by kernel_rfl⟩ -- cloister/cloisterref09.Parse
instance : FN Tryz.prog 15 := ⟨_, Tryz.func15, by kernel_rfl, by kernel_rfl⟩ -- (*cloister/demux.Demux).Bind
instance : FN Tryz.prog 16 := ⟨_, Tryz.func16, by kernel_rfl, by kernel_rfl⟩ -- (*cloister/demux.Demux).Answer
instance : FN Tryz.prog 19 := ⟨_, Tryz.func19, by kernel_rfl, by kernel_rfl⟩ -- (*cloister/demux.Demux).User
instance : FN Tryz.prog 24 := ⟨_, Tryz.func24, by kernel_rfl, by kernel_rfl⟩ -- (*cloister/demux.Demux).Open
instance : FN Tryz.prog 26 := ⟨_, Tryz.func26, by kernel_rfl, by kernel_rfl⟩ -- (*cloister/demux.Demux).is
instance : FN Tryz.prog 27 := ⟨_, Tryz.func27, by kernel_rfl, by kernel_rfl⟩ -- cloister/parse.New
instance : FN Tryz.prog 28 := ⟨_, Tryz.func28, by kernel_rfl, by kernel_rfl⟩ -- (*cloister/parse.Parser).Feed
instance : FN Tryz.prog 29 := ⟨_, Tryz.func29, by kernel_rfl, by kernel_rfl⟩ -- (*cloister/demux.Demux).given
instance : FN Tryz.prog 30 := ⟨_, Tryz.func30, by kernel_rfl, by kernel_rfl⟩ -- (*cloister/demux.conn).emits
instance : FN Tryz.prog 31 := ⟨_, Tryz.func31, by kernel_rfl, by kernel_rfl⟩ -- cloister/reply.Plain
instance : FN Tryz.prog 32 := ⟨_, Tryz.func32, by kernel_rfl, by kernel_rfl⟩ -- (*cloister/parse.Parser).Next
instance : FN Tryz.prog 33 := ⟨_, Tryz.func33, by kernel_rfl, by kernel_rfl⟩ -- (*cloister/demux.Demux).request
instance : FN Tryz.prog 34 := ⟨_, Tryz.func34, by kernel_rfl, by kernel_rfl⟩ -- cloister/cloisterref09.digits
instance : FN Tryz.prog 35 := ⟨_, Tryz.func35, by kernel_rfl, by kernel_rfl⟩ -- cloister/cloisterref07.End
instance : FN Tryz.prog 36 := ⟨_, Tryz.func36, by kernel_rfl, by kernel_rfl⟩ -- cloister/cloisterref09.Print
instance : FN Tryz.prog 41 := ⟨_, Tryz.func41, by kernel_rfl, by kernel_rfl⟩ -- (*cloister/parse.Parser).given
instance : FN Tryz.prog 42 := ⟨_, Tryz.func42, by kernel_rfl, by kernel_rfl⟩ -- cloister/reply.Print
instance : FN Tryz.prog 43 := ⟨_, Tryz.func43, by kernel_rfl, by kernel_rfl⟩ -- (*cloister/parse.Parser).Broken
instance : FN Tryz.prog 44 := ⟨_, Tryz.func44, by kernel_rfl, by kernel_rfl⟩ -- strings.Index
instance : FN Tryz.prog 45 := ⟨_, Tryz.func45, by kernel_rfl, by kernel_rfl⟩ -- (*cloister/parse.Parser).breaks
instance : FN Tryz.prog 46 := ⟨_, Tryz.func46, by kernel_rfl, by kernel_rfl⟩ -- cloister/head.Parse
instance : FN Tryz.prog 47 := ⟨_, Tryz.func47, by kernel_rfl, by kernel_rfl⟩ -- cloister/head.Body
instance : FN Tryz.prog 48 := ⟨_, Tryz.func48, by kernel_rfl, by kernel_rfl⟩ -- cloister/parse.Chunks
instance : FN Tryz.prog 49 := ⟨_, Tryz.func49, by kernel_rfl, by kernel_rfl⟩ -- cloister/uri.Target
instance : FN Tryz.prog 50 := ⟨_, Tryz.func50, by kernel_rfl, by kernel_rfl⟩ -- cloister/head.Closes
instance : FN Tryz.prog 51 := ⟨_, Tryz.func51, by kernel_rfl, by kernel_rfl⟩ -- (*cloister/demux.conn).login
instance : FN Tryz.prog 52 := ⟨_, Tryz.func52, by kernel_rfl, by kernel_rfl⟩ -- cloister/demux.token
instance : FN Tryz.prog 53 := ⟨_, Tryz.func53, by kernel_rfl, by kernel_rfl⟩ -- (*cloister/demux.conn).hands
instance : FN Tryz.prog 54 := ⟨_, Tryz.func54, by kernel_rfl, by kernel_rfl⟩ -- cloister/cloisterref09.May
instance : FN Tryz.prog 55 := ⟨_, Tryz.func55, by kernel_rfl, by kernel_rfl⟩ -- cloister/cloisterref09.Reason
instance : FN Tryz.prog 56 := ⟨_, Tryz.func56, by kernel_rfl, by kernel_rfl⟩ -- strconv.Itoa
instance : FN Tryz.prog 64 := ⟨_, Tryz.func64, by kernel_rfl, by kernel_rfl⟩ -- cloister/reply.may
instance : FN Tryz.prog 65 := ⟨_, Tryz.func65, by kernel_rfl, by kernel_rfl⟩ -- cloister/reply.Reason
instance : FN Tryz.prog 66 := ⟨_, Tryz.func66, by kernel_rfl, by kernel_rfl⟩ -- (*strings.Builder).WriteString
instance : FN Tryz.prog 67 := ⟨_, Tryz.func67, by kernel_rfl, by kernel_rfl⟩ -- cloister/reply.end
instance : FN Tryz.prog 68 := ⟨_, Tryz.func68, by kernel_rfl, by kernel_rfl⟩ -- (*strings.Builder).String
instance : FN Tryz.prog 70 := ⟨_, Tryz.func70, by kernel_rfl, by kernel_rfl⟩ -- cloister/head.request
instance : FN Tryz.prog 71 := ⟨_, Tryz.func71, by kernel_rfl, by kernel_rfl⟩ -- cloister/head.field
instance : FN Tryz.prog 72 := ⟨_, Tryz.func72, by kernel_rfl, by kernel_rfl⟩ -- strings.Cut
instance : FN Tryz.prog 73 := ⟨_, Tryz.func73, by kernel_rfl, by kernel_rfl⟩ -- strings.ContainsAny
instance : FN Tryz.prog 74 := ⟨_, Tryz.func74, by kernel_rfl, by kernel_rfl⟩ -- cloister/head.Values
instance : FN Tryz.prog 75 := ⟨_, Tryz.func75, by kernel_rfl, by kernel_rfl⟩ -- cloister/head.small
instance : FN Tryz.prog 76 := ⟨_, Tryz.func76, by kernel_rfl, by kernel_rfl⟩ -- cloister/head.all
instance : FN Tryz.prog 77 := ⟨_, Tryz.func77, by kernel_rfl, by kernel_rfl⟩ -- cloister/head.digit
instance : FN Tryz.prog 78 := ⟨_, Tryz.func78, by kernel_rfl, by kernel_rfl⟩ -- slices.ContainsFunc[[]string,string]
instance : FN Tryz.prog 79 := ⟨_, Tryz.func79, by kernel_rfl, by kernel_rfl⟩ -- cloister/head.Body$1
instance : FN Tryz.prog 80 := ⟨_, Tryz.func80, by kernel_rfl, by kernel_rfl⟩ -- strconv.Atoi
instance : FN Tryz.prog 81 := ⟨_, Tryz.func81, by kernel_rfl, by kernel_rfl⟩ -- cloister/parse.hex
instance : FN Tryz.prog 82 := ⟨_, Tryz.func82, by kernel_rfl, by kernel_rfl⟩ -- cloister/parse.newline
instance : FN Tryz.prog 83 := ⟨_, Tryz.func83, by kernel_rfl, by kernel_rfl⟩ -- (*strings.Builder).Len
instance : FN Tryz.prog 84 := ⟨_, Tryz.func84, by kernel_rfl, by kernel_rfl⟩ -- strings.HasPrefix
instance : FN Tryz.prog 85 := ⟨_, Tryz.func85, by kernel_rfl, by kernel_rfl⟩ -- cloister/uri.odd
instance : FN Tryz.prog 86 := ⟨_, Tryz.func86, by kernel_rfl, by kernel_rfl⟩ -- cloister/uri.Decode
instance : FN Tryz.prog 87 := ⟨_, Tryz.func87, by kernel_rfl, by kernel_rfl⟩ -- cloister/uri.Form
instance : FN Tryz.prog 88 := ⟨_, Tryz.func88, by kernel_rfl, by kernel_rfl⟩ -- strings.Split
instance : FN Tryz.prog 89 := ⟨_, Tryz.func89, by kernel_rfl, by kernel_rfl⟩ -- strings.Trim
instance : FN Tryz.prog 90 := ⟨_, Tryz.func90, by kernel_rfl, by kernel_rfl⟩ -- slices.Contains[[]string,string]
instance : FN Tryz.prog 91 := ⟨_, Tryz.func91, by kernel_rfl, by kernel_rfl⟩ -- cloister/uri.Get
instance : FN Tryz.prog 92 := ⟨_, Tryz.func92, by kernel_rfl, by kernel_rfl⟩ -- cloister/uri.Cookies
instance : FN Tryz.prog 93 := ⟨_, Tryz.func93, by kernel_rfl, by kernel_rfl⟩ -- cloister/cloisterref07.Name
instance : FN Tryz.prog 94 := ⟨_, Tryz.func94, by kernel_rfl, by kernel_rfl⟩ -- cloister/cloisterref07.Small
instance : FN Tryz.prog 95 := ⟨_, Tryz.func95, by kernel_rfl, by kernel_rfl⟩ -- cloister/cloisterref09.value
instance : FN Tryz.prog 106 := ⟨_, Tryz.func106, by kernel_rfl, by kernel_rfl⟩ -- cloister/cloisterref06.Trim
instance : FN Tryz.prog 107 := ⟨_, Tryz.func107, by kernel_rfl, by kernel_rfl⟩ -- cloister/reply.name
instance : FN Tryz.prog 108 := ⟨_, Tryz.func108, by kernel_rfl, by kernel_rfl⟩ -- cloister/reply.value
instance : FN Tryz.prog 109 := ⟨_, Tryz.func109, by kernel_rfl, by kernel_rfl⟩ -- cloister/reply.reasons
instance : FN Tryz.prog 110 := ⟨_, Tryz.func110, by kernel_rfl, by kernel_rfl⟩ -- (*strings.Builder).copyCheck
instance : FN Tryz.prog 115 := ⟨_, Tryz.func115, by kernel_rfl, by kernel_rfl⟩ -- cloister/head.large
instance : FN Tryz.prog 116 := ⟨_, Tryz.func116, by kernel_rfl, by kernel_rfl⟩ -- cloister/head.visible
instance : FN Tryz.prog 117 := ⟨_, Tryz.func117, by kernel_rfl, by kernel_rfl⟩ -- cloister/head.version
instance : FN Tryz.prog 118 := ⟨_, Tryz.func118, by kernel_rfl, by kernel_rfl⟩ -- cloister/head.token
instance : FN Tryz.prog 119 := ⟨_, Tryz.func119, by kernel_rfl, by kernel_rfl⟩ -- cloister/head.loose
instance : FN Tryz.prog 121 := ⟨_, Tryz.func121, by kernel_rfl, by kernel_rfl⟩ -- strings.IndexAny
instance : FN Tryz.prog 122 := ⟨_, Tryz.func122, by kernel_rfl, by kernel_rfl⟩ -- slices.IndexFunc[[]string,string]
instance : FN Tryz.prog 126 := ⟨_, Tryz.func126, by kernel_rfl, by kernel_rfl⟩ -- cloister/uri.digit
instance : FN Tryz.prog 127 := ⟨_, Tryz.func127, by kernel_rfl, by kernel_rfl⟩ -- (*strings.Builder).WriteByte
instance : FN Tryz.prog 128 := ⟨_, Tryz.func128, by kernel_rfl, by kernel_rfl⟩ -- cloister/uri.parts
instance : FN Tryz.prog 129 := ⟨_, Tryz.func129, by kernel_rfl, by kernel_rfl⟩ -- cloister/uri.Form$1
instance : FN Tryz.prog 138 := ⟨_, Tryz.func138, by kernel_rfl, by kernel_rfl⟩ -- slices.Index[[]string,string]
instance : FN Tryz.prog 139 := ⟨_, Tryz.func139, by kernel_rfl, by kernel_rfl⟩ -- cloister/uri.Cookies$1
instance : FN Tryz.prog 147 := ⟨_, Tryz.func147, by kernel_rfl, by kernel_rfl⟩ -- strings.IndexByte
instance : FN Tryz.prog 151 := ⟨_, Tryz.func151, by kernel_rfl, by kernel_rfl⟩ -- strings.IndexRune
instance : FN Tryz.prog 152 := ⟨_, Tryz.func152, by kernel_rfl, by kernel_rfl⟩ -- strings.shouldUseASCIISet
instance : FN Tryz.prog 168 := ⟨_, Tryz.func168, by kernel_rfl, by kernel_rfl⟩ -- unicode/utf8.ValidRune
end Go.Proofs.YtkljmljkiodnpaaGreatDoor.L
