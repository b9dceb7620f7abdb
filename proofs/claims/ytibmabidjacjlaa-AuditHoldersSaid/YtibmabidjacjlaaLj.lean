/- The logic, part 10: functions entered and left; calls of functions that are given no object; states cut down. -/
import Derived.Test.YtibmabidjacjlaaLi
namespace Go.Proofs.Ytibmabidjacjlaa.L
open Go Go.RowKit
set_option linter.unusedVariables false
set_option linter.unusedSimpArgs false

/-! ### which ids occur -/
mutual
def clB (n : Nat) : AV → Bool
  | .op id _ => Nat.blt id n
  | .os id _ => Nat.blt id n
  | .er id _ _ _ _ => Nat.blt id n
  | .mp id => Nat.blt id n
  | .fn _ caps => clL n caps
  | .agg cs => clL n cs
  | .tup vs => clL n vs
  | .any => true
  | .und => true
  | .bool _ => true
  | .int _ _ => true
  | .str _ => true
  | .nilsl => true
  | .nilp => true
  | .nilfn => true
  | .nilif => true
  | .iface => true
  | .rs _ => true
  | .rp _ => true
def clL (n : Nat) : List AV → Bool
  | [] => true
  | x :: r => match clB n x with
    | true => clL n r
    | false => false
end
theorem clL_get {n : Nat} : ∀ {xs : List AV}, clL n xs = true → ∀ (j : Nat) x, xs[j]? = some x → clB n x = true := by
  intro xs
  induction xs with
  | nil => intro _ j x h; simp at h
  | cons y r ih =>
    intro h j x hj
    simp only [clL] at h
    split at h
    · rename_i hy
      cases j with
      | zero => simp only [List.getElem?_cons_zero, Option.some.injEq] at hj; subst hj; exact hy
      | succ j => exact ih h j x (by simpa using hj)
    · cases h

/-- ν' tells the same of the first k ids. -/
structure Nu.agree (k : Nat) (ν ν' : Nu) : Prop where
  n : k ≤ ν'.n
  top : ∀ id, id < k → ν.top id ≤ ν'.top id
  val : ∀ id ver, id < k → ver ≤ ν.top id → ν'.val id ver = ν.val id ver
theorem VR.cut {w : World} {I : Imm} {ν ν' : Nu} {k : Nat} (hk : Nu.agree k ν ν') {x : AV} {v : Value} (h : VR w I ν x v) : clB k x = true → VR w I ν' x v := by
  have lt : ∀ {a b : Nat}, Nat.blt a b = true → a < b := fun h => by simpa [Nat.blt_eq] using h
  induction h with
  | any v => exact fun _ => .any v
  | und v h => exact fun _ => .und v h
  | pure h => exact fun _ => .pure h
  | rp cs b off us h => exact fun _ => .rp cs b off us h
  | op id off b hi h =>
    intro hc
    have := lt (by simpa only [clB] using hc)
    exact .op id off b (Nat.lt_of_lt_of_le this hk.n) ((hk.val id 0 this (Nat.zero_le _)).trans h)
  | os id ver A n c hi hv hs =>
    intro hc
    have := lt (by simpa only [clB] using hc)
    exact .os id ver A n c (Nat.lt_of_lt_of_le this hk.n) (Nat.le_trans hv (hk.top id this)) ((hk.val id ver this hv).trans hs)
  | er id ver sz i off g n c hi hv h =>
    intro hc
    have := lt (by simpa only [clB] using hc)
    exact .er id ver sz i off g n c (Nat.lt_of_lt_of_le this hk.n) (Nat.le_trans hv (hk.top id this)) ((hk.val id ver this hv).trans h)
  | mp id r hi hs =>
    intro hc
    have := lt (by simpa only [clB] using hc)
    exact .mp id r (Nat.lt_of_lt_of_le this hk.n) ((hk.val id 0 this (Nat.zero_le _)).trans hs)
  | fn f caps vs hl h ih =>
    intro hc
    exact .fn f caps vs hl fun j x v h1 h2 => ih j x v h1 h2 (clL_get (by simpa only [clB] using hc) j x h1)
  | agg cs vs hl h ih =>
    intro hc
    exact .agg cs vs hl fun j x v h1 h2 => ih j x v h1 h2 (clL_get (by simpa only [clB] using hc) j x h1)
  | tup cs vs hl h ih =>
    intro hc
    exact .tup cs vs hl fun j x v h1 h2 => ih j x v h1 h2 (clL_get (by simpa only [clB] using hc) j x h1)

/-- An object in which only the first k ids occur. -/
def ClO (k : Nat) : AO → Prop
  | .gone => True
  | .box cells => clL k cells = true
  | .row _ _ _ _ _ => True
  | .map _ => True
  | .iter _ _ _ => True
inductive ClOs (k : Nat) : List AO → Prop where
  | nil : ClOs k []
  | cons {o : AO} {r : List AO} (h : ClO k o) (t : ClOs k r) : ClOs k (o :: r)
theorem ClOs.get {k : Nat} {os : List AO} (h : ClOs k os) : ∀ (i : Nat) o, os[i]? = some o → ClO k o := by
  induction h with
  | nil => intro i o h; simp at h
  | cons h t ih =>
    intro i o hi
    cases i with
    | zero => simp only [List.getElem?_cons_zero, Option.some.injEq] at hi; subst hi; exact h
    | succ i => exact ih i o (by simpa using hi)
def clS (k : Nat) : Slots → Bool
  | [] => true
  | (_, x) :: r => match clB k x with
    | true => clS k r
    | false => false
theorem clS_get {k : Nat} : ∀ {sl : Slots}, clS k sl = true → ∀ t x, lk sl t = some x → clB k x = true := by
  intro sl
  induction sl with
  | nil => intro _ t x h; simp [lk] at h
  | cons p r ih =>
    obtain ⟨t0, y⟩ := p
    intro h t x hx
    simp only [clS] at h
    rw [lk_cons] at hx
    split at h
    · rename_i hy
      by_cases e : t0 = t
      · rw [if_pos e] at hx
        injection hx with hx
        subst hx
        exact hy
      · rw [if_neg e] at hx
        exact ih h t x hx
    · cases h

theorem OR.cut {E : Env} {w : World} {I : Imm} {ν ν' : Nu} {k id : Nat} {o : AO} (h : OR E w I ν id o) (hk : Nu.agree k ν ν') (hid : id < k) (ht : ν'.top id = ν.top id) (hc : ClO k o) : OR E w I ν' id o := by
  cases h with
  | gone => exact .gone
  | box cells b vs ty hv hb hh hl hx hI => exact .box cells b vs ty ((hk.val id 0 hid (Nat.zero_le _)).trans hv) hb hh hl (fun j x v h1 h2 => (hx j x v h1 h2).cut hk (clL_get hc j x h1)) hI
  | row e sz ver fz xs inner ht' h0 ho hr hf hI =>
    have hval := hk.val id ver hid (by rw [ht']; exact Nat.le_refl _)
    exact .row e sz ver fz xs inner (ht.trans ht') h0 (by rw [hval]; exact ho) hr hf (by rw [hval]; exact hI)
  | map es b en hv hb hh hr => exact .map es b en ((hk.val id 0 hid (Nat.zero_le _)).trans hv) hb hh hr
  | iter mid n seen r b hv hb hm hmv hh hlt => exact .iter mid n seen r b ((hk.val id 0 hid (Nat.zero_le _)).trans hv) hb (by have := hk.n; omega) ((hk.val mid 0 (by omega) (Nat.zero_le _)).trans hmv) hh hlt
theorem OB_cut {E : Env} {w : World} {I : Imm} {ν ν' : Nu} {k id : Nat} {o : AO} (h : OR E w I ν id o) (hk : Nu.agree k ν ν') (hid : id < k) : OB ν' id o = OB ν id o := by
  cases h with
  | gone => rfl
  | box cells b vs ty hv hb hh hl hx hI => simp only [OB, hk.val id 0 hid (Nat.zero_le _)]
  | row e sz ver fz xs inner ht' h0 ho hr hf hI => simp only [OB, hk.val id ver hid (by rw [ht']; exact Nat.le_refl _)]
  | map es b en hv hb hh hr => simp only [OB, hk.val id 0 hid (Nat.zero_le _)]
  | iter mid n seen r b hv hb hm hmv hh hlt => simp only [OB, hk.val id 0 hid (Nat.zero_le _)]

/-- Objects at the end are forgotten. -/
theorem HR.cut {E : Env} {w : World} {I : Imm} {ν : Nu} {os ex : List AO} (hh : HR E I ν (os ++ ex) w) (hc : ClOs os.length os) (hk0 : E.k ≤ os.length) : HR E I { ν with n := os.length } os w ∧ FR E.k w I ν (os ++ ex) w I { ν with n := os.length } os := by
  have hk : Nu.agree os.length ν { ν with n := os.length } := ⟨Nat.le_refl _, fun _ _ => Nat.le_refl _, fun _ _ _ _ => rfl⟩
  have hold : ∀ (id : Nat) o, os[id]? = some o → (os ++ ex)[id]? = some o ∧ id < os.length := fun id o h => by
    have hlt := (List.getElem?_eq_some_iff.1 h).1
    exact ⟨by rw [List.getElem?_append_left hlt]; exact h, hlt⟩
  refine ⟨⟨rfl, hh.below, hh.base, hh.imm, fun id o h => ?_, fun id id' o o' b h1 h2 e1 e2 => ?_⟩, ⟨ImmLe.refl _ _, Nat.le_refl _, fun _ _ h => .inl h, fun _ _ _ => rfl, fun b ⟨id, o, h, h2⟩ => ?_, fun id h1 _ => ⟨Nat.lt_of_lt_of_le h1 hk0, Nat.le_refl _, fun _ _ => rfl⟩, fun id h1 h => ⟨rfl, by
    rw [List.getElem?_append_left (Nat.lt_of_lt_of_le h1 hk0)] at h; exact h⟩⟩⟩
  · obtain ⟨h1, h2⟩ := hold id o h
    exact (hh.obj id o h1).cut hk h2 rfl (hc.get id o h)
  · obtain ⟨k1, l1⟩ := hold id o h1
    obtain ⟨k2, l2⟩ := hold id' o' h2
    rw [OB_cut (hh.obj id o k1) hk l1] at e1
    rw [OB_cut (hh.obj id' o' k2) hk l2] at e2
    exact hh.disj id id' o o' b k1 k2 e1 e2
  · obtain ⟨h1, h3⟩ := hold id o h
    rw [OB_cut (hh.obj id o h1) hk h3] at h2
    exact .inl ⟨id, o, h1, h2⟩

inductive SubS (sl : Slots) : Slots → Prop where
  | nil : SubS sl []
  | cons {t : Nat} {x : AV} {r : Slots} (h : lk sl t = some x) (k : SubS sl r) : SubS sl ((t, x) :: r)
theorem SubS.get {sl r : Slots} (h : SubS sl r) : ∀ t x, lk r t = some x → lk sl t = some x := by
  induction h with
  | nil => intro t x h; simp [lk] at h
  | cons h k ih =>
    intro t x hx
    rw [lk_cons] at hx
    split at hx
    · rename_i e
      subst e
      rw [← hx]
      exact h
    · exact ih t x hx

section
variable {E : Env} {N : Nat} {Q : Exit → St → Prop}
/-- A state that says less. -/
inductive Wk' (k : Nat) : St → St → Prop where
  | refl {σ : St} : Wk' k σ σ
  | same {sl sl' : Slots} {H : List AO} (h : SubS sl sl') : Wk' k ⟨sl, H⟩ ⟨sl', H⟩
  | drop {sl sl' : Slots} {H ex : List AO} (h : SubS sl sl') (hs : clS H.length sl' = true) (ho : ClOs H.length H) (hk : Nat.ble k H.length = true) : Wk' k ⟨sl, H ++ ex⟩ ⟨sl', H⟩
theorem Wk'.sr {σ σ' : St} {I : Imm} {ν : Nu} {a : Act} {w : World} (h : Wk' E.k σ σ') (hs : SR E N I ν σ a w) : ∃ ν', SR E N I ν' σ' a w ∧ FR E.k w I ν σ.objs w I ν' σ'.objs := by
  cases h with
  | refl => exact ⟨ν, hs, FR.refl _ _ _ _⟩
  | same h => exact ⟨ν, ⟨hs.hr, fun t x hx => hs.sl t x (h.get t x hx), hs.df, hs.nt⟩, FR.refl _ _ _ _⟩
  | @drop sl sl' H ex h h1 h2 h3 =>
    obtain ⟨k1, k2⟩ := HR.cut hs.hr h2 (Nat.le_of_ble_eq_true h3)
    exact ⟨_, ⟨k1, fun t x hx => VR.cut (k := H.length) (ν := ν) (ν' := { ν with n := H.length }) ⟨Nat.le_refl _, fun _ _ => Nat.le_refl _, fun _ _ _ _ => rfl⟩ (hs.sl t x (h.get t x hx)) (clS_get h1 t x hx), hs.df, hs.nt⟩, k2⟩
/-- A state that says less, by whatever reason. -/
def Wkn (E : Env) (N : Nat) (σ σ' : St) : Prop := ∀ I ν a w, SR E N I ν σ a w → ∃ I' ν', SR E N I' ν' σ' a w ∧ FR E.k w I ν σ.objs w I' ν' σ'.objs
theorem Wkn.of {σ σ' : St} (h : Wk' E.k σ σ') : Wkn E N σ σ' := fun I ν a w hs => let ⟨ν', h1, h2⟩ := h.sr hs; ⟨I, ν', h1, h2⟩
theorem Wkn.refl (σ : St) : Wkn E N σ σ := fun I ν a w hs => ⟨I, ν, hs, FR.refl _ _ _ _⟩
theorem Wkn.trans {σ σ' σ2 : St} (h : Wkn E N σ σ') (k : Wkn E N σ' σ2) : Wkn E N σ σ2 := fun I ν a w hs =>
  let ⟨I1, ν1, h1, h2⟩ := h I ν a w hs
  let ⟨I2, ν2, h3, h4⟩ := k I1 ν1 a w h1
  ⟨I2, ν2, h3, h2.trans h4⟩
theorem Wkn.freeze {sl : Slots} {H H' : List AO} (t : Nat) {id ver fz e sz : Nat} {xs : List (List AV)} (ht : lk sl t = some (.os id ver)) (hU : Upd id H (.row e sz ver fz xs) (.row e sz ver xs.length xs) H') :
    Wkn E N ⟨sl, H⟩ ⟨(t, .rs xs) :: sl, H'⟩ := fun I ν a w hs => let ⟨I', h1, h2⟩ := freeze_sr hs ht hU; ⟨I', ν, h1, h2⟩
theorem Wkn.nil {sl : Slots} {H : List AO} (t : Nat) (ht : lk sl t = some .nilsl) : Wkn E N ⟨sl, H⟩ ⟨(t, .rs []) :: sl, H⟩ := fun I ν a w hs => by
  refine ⟨I, ν, ⟨hs.hr, fun t' x hx => ?_, hs.df, hs.nt⟩, FR.refl _ _ _ _⟩
  rw [lk_cons] at hx
  by_cases et : t = t'
  · subst et
    rw [if_pos rfl] at hx
    obtain rfl : AV.rs [] = x := by simpa using hx
    have := (hs.sl t _ ht).nilsl_inv
    rw [this]
    exact .pure (.rs0 none 0)
  · rw [if_neg et] at hx
    exact hs.sl t' x hx
theorem Wkn.spell {sl : Slots} {H : List AO} (t : Nat) {x : AV} (y : AV) (ht : lk sl t = some x) (e : x = y) : Wkn E N ⟨sl, H⟩ ⟨(t, y) :: sl, H⟩ := fun I ν a w hs => by
  subst e
  refine ⟨I, ν, ⟨hs.hr, fun t' x' hx => ?_, hs.df, hs.nt⟩, FR.refl _ _ _ _⟩
  rw [lk_cons] at hx
  by_cases et : t = t'
  · subst et
    rw [if_pos rfl] at hx
    obtain rfl : x = x' := by simpa using hx
    exact hs.sl t _ ht
  · rw [if_neg et] at hx
    exact hs.sl t' x' hx
theorem awp_wkn {c : Code} {σ σ' : St} (h : Wkn E N σ σ') (k : AWp E N c Q σ') : AWp E N c Q σ := by
  intro I ν a w hs
  obtain ⟨I', ν', h1, h2⟩ := h I ν a w hs
  exact Code.wp_mono (fun e a' w' k => Lift.step h2 k) (k I' ν' a w h1)
theorem al_wkn {ops : Array Oper} {l : List Oper} {σ σ' : St} (h : Wkn E N σ σ') (k : AL E N ops Q l σ') : AL E N ops Q l σ := by
  intro I ν a w hs w0 I0 ν0 o0 hf
  obtain ⟨I', ν', h1, h2⟩ := h I ν a w hs
  exact k I' ν' a w h1 w0 I0 ν0 o0 (hf.trans h2)
theorem awp_wk' {c : Code} {σ σ' : St} (h : Wk' E.k σ σ') (k : AWp E N c Q σ') : AWp E N c Q σ := by
  intro I ν a w hs
  obtain ⟨ν', h1, h2⟩ := h.sr hs
  exact Code.wp_mono (fun e a' w' k => Lift.step h2 k) (k I ν' a w h1)

/-- A loop, as awp_loop; the objects that a round leaves behind are forgotten. -/
theorem awp_loop' {α : Type} {c : Code} {σ : St} (inv : α → St) (ok : α → Prop) (m : α → Nat) (x0 : α) (h0 : Wkn E N σ (inv x0)) (k0 : ok x0)
    (round : ∀ x, ok x → AWp E N c (fun e σ' => match e with
      | .normal => ∃ y, ok y ∧ m y < m x ∧ Wkn E N σ' (inv y)
      | e => Q e σ') (inv x)) : AWp E N (.loop c) Q σ := by
  refine awp_wkn h0 ?_
  intro I ν a w hs
  refine wp_loop_at (fun x a' w' => ∃ I' ν', ok x ∧ SR E N I' ν' (inv x) a' w' ∧ FR E.k w I ν (inv x0).objs w' I' ν' (inv x).objs) m x0 ⟨I, ν, k0, hs, FR.refl _ _ _ _⟩ ?_
  rintro x a1 w1 ⟨I1, ν1, hx, hs1, hf1⟩
  refine Code.wp_mono (fun e a' w' hk => ?_) (round x hx I1 ν1 a1 w1 hs1)
  obtain ⟨σ', I', ν', hq, hs', hf⟩ := hk
  cases e with
  | normal =>
    obtain ⟨y, hy, hm, hw⟩ := hq
    obtain ⟨I2, ν2, k1, k2⟩ := hw I' ν' a' w' hs'
    exact ⟨y, hm, I2, ν2, hy, k1, (hf1.trans hf).trans k2⟩
  | exit id => exact ⟨σ', I', ν', hq, hs', hf1.trans hf⟩
  | goto l => exact ⟨σ', I', ν', hq, hs', hf1.trans hf⟩
  | ret => exact ⟨σ', I', ν', hq, hs', hf1.trans hf⟩
  | panic ch => exact ⟨σ', I', ν', hq, hs', hf1.trans hf⟩
  | outgrown => exact ⟨σ', I', ν', hq, hs', hf1.trans hf⟩

/-! ### a call -/
theorem OR.env {E F : Env} (hb : E.base = F.base) {w : World} {I : Imm} {ν : Nu} {id : Nat} {o : AO} (h : OR E w I ν id o) : OR F w I ν id o := by
  cases h with
  | gone => exact .gone
  | box cells b vs ty hv hb' hh hl hx hI => exact .box cells b vs ty hv (hb ▸ hb') hh hl hx hI
  | row e sz ver fz xs inner ht' h0 ho hr hf hI => exact .row e sz ver fz xs inner ht' h0 (hb ▸ ho) hr hf hI
  | map es b en hv hb' hh hr => exact .map es b en hv (hb ▸ hb') hh hr
  | iter mid n seen r b hv hb' hm hmv hh hlt => exact .iter mid n seen r b hv (hb ▸ hb') hm hmv hh hlt
theorem HR.env {E F : Env} (hb : E.base = F.base) (hw : E.w0 = F.w0) {I : Imm} {ν : Nu} {H : List AO} {w : World} (h : HR E I ν H w) : HR F I ν H w :=
  ⟨h.n, by have := h.below; rw [hb, hw] at this; exact this, hb ▸ h.base, h.imm, fun id o ho => (h.obj id o ho).env hb, h.disj⟩
/-- The same program and row; so many objects of the caller's. -/
abbrev Env.at (E : Env) (k : Nat) : Env := ⟨E.P, E.w0, E.base, k⟩

def ACalls (E : Env) (f : Nat) (args : List AV) (objs : List AO) (R : AV → List AO → Prop) : Prop :=
  ∀ I ν w (vs : List Value), HR E I ν objs w → args.length = vs.length → (∀ (j : Nat) x v, args[j]? = some x → vs[j]? = some v → VR w I ν x v) →
    Calls E.P f vs.toArray w fun e w' => ∃ rv objs' I' ν' v, R rv objs' ∧ e = .returned v ∧ VR w' I' ν' rv v ∧ HR E I' ν' objs' w' ∧ FR objs.length w I ν objs w' I' ν' objs'

/-- A call of a function that is given no object and hands none back. -/
def PCalls (E : Env) (f : Nat) (args : List AV) (R : AV → Prop) : Prop := ACalls E f args [] fun rv _ => R rv ∧ clB 0 rv = true

inductive Args : Nat → List AV → Slots → Prop where
  | nil {i : Nat} : Args i [] []
  | cons {i : Nat} {x : AV} {xs : List AV} {sl : Slots} (h : Args (i + 1) xs sl) : Args i (x :: xs) ((i, x) :: sl)
theorem Args.get {i : Nat} {xs : List AV} {sl : Slots} (h : Args i xs sl) : ∀ t x, lk sl t = some x → i ≤ t ∧ xs[t - i]? = some x := by
  induction h with
  | nil => intro t x h; simp [lk] at h
  | @cons i x xs sl h ih =>
    intro t y hy
    rw [lk_cons] at hy
    split at hy
    · rename_i e
      subst e
      simpa using hy
    · rename_i e
      obtain ⟨h1, h2⟩ := ih t y hy
      refine ⟨by omega, ?_⟩
      rw [show t - i = (t - (i + 1)) + 1 by omega]
      simpa using h2

/-- What a function hands back. -/
inductive ResV (P : Program) (sl : Slots) (H : List AO) : List ResultVar → List AV → Prop where
  | nil : ResV P sl H [] []
  | tmp {t : Nat} {x : AV} {rs : List ResultVar} {xs : List AV} (h : lk sl t = some x) (k : ResV P sl H rs xs) : ResV P sl H (.tmp t :: rs) (x :: xs)
  | agg {p ty : Nat} {pv : AV} {cs : List AV} {n b : Nat} {z : Value} {rs : List ResultVar} {xs : List AV} [ti : TZ P ty true n b z] (h : lk sl p = some pv) (hc : cellsAt H pv = some cs) (hn : Nat.ble n cs.length = true) (k : ResV P sl H rs xs) :
      ResV P sl H (.cell p ty :: rs) (.agg (cs.take n) :: xs)
  | one {p ty : Nat} {pv x : AV} {cs : List AV} {n b : Nat} {z : Value} {rs : List ResultVar} {xs : List AV} [ti : TZ P ty false n b z] (h : lk sl p = some pv) (hc : cellsAt H pv = some (x :: cs)) (k : ResV P sl H rs xs) :
      ResV P sl H (.cell p ty :: rs) (x :: xs)
def packV : List AV → AV
  | [x] => x
  | xs => .tup xs

theorem load_pure {E : Env} {I : Imm} {ν : Nu} {w : World} {sl : Slots} {H : List AO} {a : Act} (hh : HR E I ν H w) (hs : SlR w I ν sl a) {t p : Nat} {x : AV} (h : OV E sl H (.load t (.tmp p)) x) : ∃ v, VR w I ν x v ∧ (do loadVar t (← asAddr (a.tmps.getD p undef)) : Sem Value).run E.P w = .ok v w := by
  obtain ⟨v, hx, hr⟩ := h I ν a w hh hs
  refine ⟨v, hx, ?_⟩
  have := hr ⟨none, .load t (.tmp p), 0, "", #[], none⟩ w rfl (Still.refl _ _ _ _)
  simp only [execOp, Instr.loadAt, Act.eval] at this
  obtain ⟨u, hu⟩ : ∃ u, a.tmps.getD p undef = u := ⟨_, rfl⟩
  rw [hu] at this ⊢
  cases u with
  | pointer ad =>
    cases ad with
    | some ad =>
      simp only [Instr.sureAddr, asAddr, Sem.run_bind, Sem.run_pure, Result.andThen_ok] at this ⊢
      cases hl : (loadVar t ad).run E.P w with
      | ok q w' => rw [hl] at this; simp at this; rw [this.1, this.2]
      | halt q w' => rw [hl] at this; simp at this
    | none => simp [Instr.sureAddr, stuck, Sem.run] at this
  | _ => simp [Instr.sureAddr, stuck, Sem.run] at this

def resOf (a : Act) : ResultVar → Sem Value
  | .tmp t => pure (a.tmps.getD t undef)
  | .cell p t => do loadVar t (← asAddr (a.tmps.getD p undef))
theorem ResV.run {E : Env} {I : Imm} {ν : Nu} {w : World} {sl : Slots} {H : List AO} {a : Act} (hh : HR E I ν H w) (hs : SlR w I ν sl a) {rs : List ResultVar} {xs : List AV} (h : ResV E.P sl H rs xs) :
    ∃ vs : List Value, xs.length = vs.length ∧ (∀ (j : Nat) x v, xs[j]? = some x → vs[j]? = some v → VR w I ν x v) ∧
      (rs.mapM (resOf a)).run E.P w = .ok vs w := by
  induction h with
  | nil => exact ⟨[], rfl, by simp, by simp⟩
  | @tmp t x rs xs h k ih =>
    obtain ⟨vs, h1, h2, h3⟩ := ih
    refine ⟨a.tmps.getD t undef :: vs, by simp [h1], fun j y u hy hu => ?_, by rw [List.mapM_cons]; simp only [resOf, Sem.run_bind, Sem.run_pure, Result.andThen_ok, h3]⟩
    cases j with
    | zero => simp only [List.getElem?_cons_zero, Option.some.injEq] at hy hu; subst hy; subst hu; exact hs t x h
    | succ j => exact h2 j y u (by simpa using hy) (by simpa using hu)
  | @agg p ty pv cs n b z rs xs ti h hc hn k ih =>
    obtain ⟨vs, h1, h2, h3⟩ := ih
    obtain ⟨v, hv, hr⟩ := load_pure hh hs (ov_load_agg (t := ty) (ti := ti) (p := .tmp p) h hc hn)
    refine ⟨v :: vs, by simp [h1], fun j y u hy hu => ?_, by rw [List.mapM_cons, Sem.run_bind, show resOf a (.cell p ty) = (do loadVar ty (← asAddr (a.tmps.getD p undef))) from rfl, hr]; simp only [Sem.run_bind, Sem.run_pure, Result.andThen_ok, h3]⟩
    cases j with
    | zero => simp only [List.getElem?_cons_zero, Option.some.injEq] at hy hu; subst hy; subst hu; exact hv
    | succ j => exact h2 j y u (by simpa using hy) (by simpa using hu)
  | @one p ty pv x cs n b z rs xs ti h hc k ih =>
    obtain ⟨vs, h1, h2, h3⟩ := ih
    obtain ⟨v, hv, hr⟩ := load_pure hh hs (ov_load (t := ty) (ti := ti) (p := .tmp p) h hc)
    refine ⟨v :: vs, by simp [h1], fun j y u hy hu => ?_, by rw [List.mapM_cons, Sem.run_bind, show resOf a (.cell p ty) = (do loadVar ty (← asAddr (a.tmps.getD p undef))) from rfl, hr]; simp only [Sem.run_bind, Sem.run_pure, Result.andThen_ok, h3]⟩
    cases j with
    | zero => simp only [List.getElem?_cons_zero, Option.some.injEq] at hy hu; subst hy; subst hu; exact hv
    | succ j => exact h2 j y u (by simpa using hy) (by simpa using hu)

theorem packV_ok {I : Imm} {ν : Nu} {w : World} {xs : List AV} {vs : List Value} (hl : xs.length = vs.length) (h : ∀ (j : Nat) x v, xs[j]? = some x → vs[j]? = some v → VR w I ν x v) :
    VR w I ν (packV xs) (if h : vs.toArray.size = 1 then vs.toArray[0] else .tuple vs.toArray) := by
  match xs, vs, hl with
  | [], [], _ => exact .tup [] [] rfl (by simp)
  | [x], [v], _ => simpa [packV] using h 0 x v rfl rfl
  | x :: y :: r, v :: u :: s, hl => simp only [packV, List.size_toArray, List.length_cons]; rw [dif_neg (by omega)]; exact .tup _ _ (by simpa using hl) h

/-- How a function ends. -/
def RetQ (E : Env) (N : Nat) (fn : Func) (R : AV → List AO → Prop) : Exit → St → Prop := fun e σ =>
  (e = .normal ∨ e = .ret) ∧ ∃ σ' rs xs, Wkn E N σ σ' ∧ fn.results = rs.toArray ∧ ResV E.P σ'.sl σ'.objs rs xs ∧ R (packV xs) σ'.objs

theorem acalls_of {f N : Nat} {fn : Func} {c : Code} {args : List AV} {objs : List AO} {R : AV → List AO → Prop} {sl : Slots} (hf : E.P.funcs[f]? = some fn) (hb : fn.body = some c) (hN : fn.ntmps = N) (hl : Nat.ble args.length N = true) (ha : Args 0 args sl)
    (h : AWp (E.at objs.length) N c (RetQ (E.at objs.length) N fn R) ⟨sl, objs⟩) : ACalls E f args objs R := by
  intro I ν w vs hh hlen hv
  have hl' : args.length ≤ N := Nat.le_of_ble_eq_true hl
  refine calls_of_wp hf hb (Code.wp_mono (fun e a' w' hk => ?_) (h I ν _ w ⟨HR.env (E := E) (F := E.at objs.length) rfl rfl hh, fun t x hx => ?_, rfl, ?_⟩))
  · obtain ⟨σ', I', ν', ⟨he, σ2, rs, xs, hwk, hres, hrv, hR⟩, hs', hf'⟩ := hk
    obtain ⟨I2, ν2, hs2, hf2⟩ := hwk I' ν' a' w' hs'
    obtain ⟨us, h1, h2, h3⟩ := hrv.run hs2.hr hs2.sl
    have hpost : a'.defers = [] ∧ ∃ v, (results fn a'.tmps).run E.P w' = .ok v w' ∧ ∃ rv objs' I' ν' v', R rv objs' ∧ Ending.returned v = .returned v' ∧ VR w' I' ν' rv v' ∧ HR E I' ν' objs' w' ∧ FR objs.length w I ν objs w' I' ν' objs' := by
      refine ⟨hs2.df, _, ?_, packV xs, σ2.objs, I2, ν2, _, hR, rfl, packV_ok h1 h2, HR.env (E := E.at objs.length) (F := E) rfl rfl hs2.hr, hf'.trans hf2⟩
      unfold results
      rw [hres, List.mapM_toArray]
      simp only [Sem.run_bind, Sem.run_map]
      have h4 : ∀ g : ResultVar → Sem Value, (∀ x, g x = resOf a' x) → rs.mapM g = rs.mapM (resOf a') := fun g hg => by
        rw [show g = resOf a' from funext hg]
      rw [h4 _ (fun x => by cases x <;> rfl), h3]
      rfl
    rcases he with rfl | rfl
    · exact hpost
    · exact hpost
  · obtain ⟨_, h2⟩ := ha.get t x hx
    simp only [Nat.sub_zero] at h2
    have hlt : t < vs.length := by rw [← hlen]; exact (List.getElem?_eq_some_iff.1 h2).1
    have h3 : vs[t]? = some vs[t] := List.getElem?_eq_getElem hlt
    have := hv t x _ h2 h3
    simpa [Array.getD_eq_getD_getElem?, Array.getElem?_append, hlt] using this
  · simp only [Array.size_append, List.size_toArray, Array.size_replicate]
    omega

theorem acalls_mono {f : Nat} {args : List AV} {objs : List AO} {R R' : AV → List AO → Prop} (h : ACalls E f args objs R) (hr : ∀ rv o, R rv o → R' rv o) : ACalls E f args objs R' :=
  fun I ν w vs h1 h2 h3 => (h I ν w vs h1 h2 h3).mono fun e w' ⟨rv, o, I', ν', v, k, r⟩ => ⟨rv, o, I', ν', v, hr _ _ k, r⟩

/-- A function that can be called. -/
class FN (P : Program) (f : Nat) : Prop where
  out : ∃ fn, P.funcs[f]? = some fn ∧ (fn.name == "runtime.NumGoroutine") = false ∧ fn.body.isNone = false

theorem run_callFunc {P : Program} {f : Nat} [h : FN P f] (args : Array Value) (w : World) : (callFunc f args).run P w = .ok (.enter f args) w := by
  obtain ⟨fn, h1, h2, h3⟩ := h.out
  have h4 : ¬ (fn.name = "runtime.NumGoroutine") := by intro e; rw [e] at h2; simp at h2
  have h5 : ¬ (fn.body = none) := by intro e; rw [e] at h3; simp at h3
  simp [callFunc, program, Sem.run, bind, Sem.bind, h1, h4, h5, pure]

section
variable {ops : Array Oper} {rest : List Oper} {sl : Slots} {H : List AO}

theorem fn_inv {I : Imm} {ν : Nu} {w : World} {f : Nat} {caps : List AV} {v : Value} (h : VR w I ν (.fn f caps) v) : ∃ vs : List Value, v = .func (.func f) #[] vs.toArray ∧ caps.length = vs.length ∧ ∀ (j : Nat) x u, caps[j]? = some x → vs[j]? = some u → VR w I ν x u := by
  cases h with
  | pure h => cases h; exact ⟨[], rfl, rfl, by simp⟩
  | fn _ _ vs hl h => exact ⟨vs, rfl, hl, h⟩

theorem append_get {α : Type} {p q : List α} {r s : List Value} {T : α → Value → Prop} (h1 : p.length = r.length) (h2 : ∀ (j : Nat) x v, p[j]? = some x → r[j]? = some v → T x v) (h3 : ∀ (j : Nat) x v, q[j]? = some x → s[j]? = some v → T x v) :
    ∀ (j : Nat) x v, (p ++ q)[j]? = some x → (r ++ s)[j]? = some v → T x v := by
  intro j x v hx hv
  rcases Nat.lt_or_ge j p.length with hj | hj
  · rw [List.getElem?_append_left hj] at hx
    rw [List.getElem?_append_left (by omega)] at hv
    exact h2 j x v hx hv
  · rw [List.getElem?_append_right hj] at hx
    rw [List.getElem?_append_right (by omega), ← h1] at hv
    exact h3 _ x v hx hv

theorem al_call {f : Operand} {as : List Operand} {tys : Array TypeId} {g : Nat} [fn : FN E.P g] {caps xs : List AV} {R : AV → Prop} {ty : TypeId} {pos : String} {after : Array Edge} {d : Nat}
    (hf : ev sl f = some (.fn g caps)) (ha : evs sl as = some xs) (hc : clL 0 (xs ++ caps) = true) (hd : Nat.blt d N = true) (spec : PCalls (E.at 0) g (xs ++ caps) R)
    (h : ∀ rv, R rv → AL E N ops Q rest ⟨(d, rv) :: sl, H⟩) : AL E N ops Q (⟨some d, .call { callee := .value f, args := as.toArray, argTypes := tys }, ty, pos, after, none⟩ :: rest) ⟨sl, H⟩ := by
  intro I ν a w hs w0 I0 ν0 o0 hf0
  obtain ⟨cvs, e1, e2, e3⟩ := fn_inv (ev_ok hs.sl hf)
  obtain ⟨e4, e5⟩ := evs_ok hs.sl as ha
  refine wpList_plain rfl fun K hK => ?_
  unfold Oper.wp
  have hrun : (execOp a.eval ⟨some d, .call { callee := .value f, args := as.toArray, argTypes := tys }, ty, pos, after, none⟩).run E.P w = .ok (.enter g (as.map a.eval ++ cvs).toArray) w := by
    simp [execOp, resolve, e1, Deferred.ofValue, invoke, run_callFunc]
  rw [hrun, Oper.upon_enter]
  have hargs := append_get (T := VR w I ν) (p := xs) (q := caps) (r := as.map a.eval) (s := cvs) (by simp [e4]) e5 e3
  have hz : Nu.agree 0 ν ⟨0, fun _ => 0, fun _ _ => undef⟩ := ⟨Nat.le_refl _, fun _ h => by omega, fun _ _ h => by omega⟩
  have hh := hs.hr
  refine (spec I ⟨0, fun _ => 0, fun _ _ => undef⟩ w (as.map a.eval ++ cvs) ⟨rfl, hh.below, hh.base, hh.imm, fun id o h => by simp at h, fun id id' o o' b h => by simp at h⟩ (by simp [e4, e2]) (fun j x v h1 h2 => (hargs j x v h1 h2).cut hz (clL_get hc j x h1))).mono ?_
  rintro e w' ⟨rv, objs', I', ν', v, ⟨hR, hcl⟩, rfl, hv, hh', hfr⟩
  replace hh' := HR.env (E := E.at 0) (F := E) rfl rfl hh'
  have hnof : ∀ b, ¬ FB (⟨0, fun _ => 0, fun _ _ => undef⟩ : Nu) [] b := fun b ⟨id, o, h, _⟩ => by simp at h
  have hkeep : ∀ k, k < w.heap.size → w'.heap[k]? = w.heap[k]? := fun k hk => hfr.keep k hk (hnof k)
  have hnew : ∀ b o, I' b o → I b o ∨ w.heap.size ≤ b := fun b o h => by
    rcases hfr.new b o h with h | h | h
    · exact .inl h
    · exact absurd h (hnof b)
    · exact .inr h
  have hv2 : VR w' I' ν rv v := hv.cut (k := 0) ⟨Nat.zero_le _, fun _ h => by omega, fun _ _ h => by omega⟩ hcl
  have hr2 : HR E I' ν H w' := ⟨hh.n, hh'.below, Nat.le_trans hh.base hfr.size, hh'.imm, fun id o h => (hh.obj id o h).mono hfr.imm (Nu.le.refl ν) (hh.idlt h) rfl (fun b hb => hkeep b (OB_lt (hh.obj id o h) hb).1) (fun b o' hb hi => by
    rcases hnew b o' hi with h1 | h1
    · exact h1
    · have := (OB_lt (hh.obj id o h) hb).1
      omega), hh.disj⟩
  have hf2 : FR E.k w I ν H w' I' ν H := ⟨hfr.imm, hfr.size, fun b o h => by
    rcases hnew b o h with h1 | h1
    · exact .inl h1
    · exact .inr (.inr h1), fun b hb _ => hkeep b hb, fun b h => .inl h, (Nu.le.refl ν).ag _, fun _ _ h => ⟨rfl, h⟩⟩
  exact hK _ _ (h rv hR I' ν _ w' ⟨hr2, (hs.sl.mono hfr.imm (Nu.le.refl ν)).put d hv2 (by rw [hs.nt]; simpa [Nat.blt_eq] using hd), hs.df, by simp [Act.put, hs.nt]⟩ w0 I0 ν0 o0 (hf0.trans hf2))
end
end
end Go.Proofs.Ytibmabidjacjlaa.L
