/- The logic, part 2: what is said of code (AWp), of a list of operations (AL), of a call (ACalls); the rules of control. -/
import Derived.Test.YtibmabidjacjlaaLa
namespace Go.Proofs.Ytibmabidjacjlaa.L
open Go Go.RowKit
set_option linter.unusedVariables false
set_option linter.unusedSimpArgs false

/-- The post of real code that an abstract post stands for. -/
def Lift (E : Env) (N : Nat) (w : World) (I : Imm) (ν : Nu) (objs : List AO) (Q : Exit → St → Prop) : Exit → Act → World → Prop :=
  fun e a' w' => ∃ σ' I' ν', Q e σ' ∧ SR E N I' ν' σ' a' w' ∧ FR E.k w I ν objs w' I' ν' σ'.objs

theorem Lift.step {E : Env} {N : Nat} {w w1 : World} {I I1 : Imm} {ν ν1 : Nu} {o o1 : List AO} {Q : Exit → St → Prop} (h : FR E.k w I ν o w1 I1 ν1 o1) {e : Exit} {a : Act} {w' : World}
    (k : Lift E N w1 I1 ν1 o1 Q e a w') : Lift E N w I ν o Q e a w' :=
  let ⟨σ', I', ν', hq, hs, hf⟩ := k; ⟨σ', I', ν', hq, hs, h.trans hf⟩

def AWp (E : Env) (N : Nat) (c : Code) (Q : Exit → St → Prop) (σ : St) : Prop :=
  ∀ I ν a w, SR E N I ν σ a w → c.wp E.P (Lift E N w I ν σ.objs Q) a w

def AL (E : Env) (N : Nat) (ops : Array Oper) (Q : Exit → St → Prop) (l : List Oper) (σ : St) : Prop :=
  ∀ I ν a w, SR E N I ν σ a w → ∀ w0 I0 ν0 o0, FR E.k w0 I0 ν0 o0 w I ν σ.objs → wpList E.P ops (Lift E N w0 I0 ν0 o0 Q) l a w

section
variable {E : Env} {N : Nat} {Q Q' : Exit → St → Prop} {σ σ' : St}

theorem awp_mono {c : Code} (h : AWp E N c Q σ) (hq : ∀ e σ, Q e σ → Q' e σ) : AWp E N c Q' σ :=
  fun I ν a w hs => Code.wp_mono (fun e a' w' ⟨σ', I', ν', k, r⟩ => ⟨σ', I', ν', hq _ _ k, r⟩) (h I ν a w hs)

def Thn (E : Env) (N : Nat) (y : Code) (Q : Exit → St → Prop) : Exit → St → Prop
  | .normal, σ => AWp E N y Q σ
  | e, σ => Q e σ

theorem awp_seq {x y : Code} (h : AWp E N x (Thn E N y Q) σ) : AWp E N (.seq x y) Q σ := by
  intro I ν a w hs
  refine wp_seq (Code.wp_mono (fun e a' w' hk => ?_) (h I ν a w hs))
  obtain ⟨σ', I', ν', hq, hs', hf⟩ := hk
  cases e with
  | normal => exact Code.wp_mono (fun e a2 w2 k => Lift.step hf k) (hq I' ν' a' w' hs')
  | exit id => exact ⟨σ', I', ν', hq, hs', hf⟩
  | goto l => exact ⟨σ', I', ν', hq, hs', hf⟩
  | ret => exact ⟨σ', I', ν', hq, hs', hf⟩
  | panic ch => exact ⟨σ', I', ν', hq, hs', hf⟩
  | outgrown => exact ⟨σ', I', ν', hq, hs', hf⟩

theorem lift_now {I : Imm} {ν : Nu} {a : Act} {w : World} (hs : SR E N I ν σ a w) {e : Exit} (hq : Q e σ) : Lift E N w I ν σ.objs Q e a w := ⟨σ, I, ν, hq, hs, FR.refl _ _ _ _⟩

theorem awp_skip (h : Q .normal σ) : AWp E N .skip Q σ := fun I ν a w hs => wp_skip (lift_now hs h)
theorem awp_label {l : Nat} (h : Q .normal σ) : AWp E N (.label l) Q σ := fun I ν a w hs => wp_label (lift_now hs h)
theorem awp_exit {id : Nat} (h : Q (.exit id) σ) : AWp E N (.exit id) Q σ := fun I ν a w hs => wp_exit (lift_now hs h)
theorem awp_goto {l : Nat} (h : Q (.goto l) σ) : AWp E N (.goto l) Q σ := fun I ν a w hs => wp_goto (lift_now hs h)
theorem awp_ret (h : Q .ret σ) : AWp E N .ret Q σ := fun I ν a w hs => wp_ret (lift_now hs h)

def InB (id : Nat) (Q : Exit → St → Prop) : Exit → St → Prop
  | .exit id', σ => match Nat.beq id' id with
    | true => Q .normal σ
    | false => Q (.exit id') σ
  | e, σ => Q e σ

theorem beq_if {α : Sort _} (a b : Nat) (x y : α) : (match Nat.beq a b with | true => x | false => y) = if a = b then x else y := by
  by_cases h : a = b
  · subst h; simp
  · rw [if_neg h]
    cases hb : Nat.beq a b with
    | true => exact absurd (Nat.eq_of_beq_eq_true hb) h
    | false => rfl

theorem awp_block {id : Nat} {c : Code} (h : AWp E N c (InB id Q) σ) : AWp E N (.block id c) Q σ := by
  intro I ν a w hs
  refine wp_block (Code.wp_mono (fun e a' w' hk => ?_) (h I ν a w hs))
  obtain ⟨σ', I', ν', hq, hs', hf⟩ := hk
  cases e with
  | exit id' =>
    simp only [InB, beq_if] at hq
    simp only [Exit.inBlock]
    by_cases e : id' = id
    · rw [if_pos e] at hq ⊢; exact ⟨σ', I', ν', hq, hs', hf⟩
    · rw [if_neg e] at hq ⊢; exact ⟨σ', I', ν', hq, hs', hf⟩
  | normal => exact ⟨σ', I', ν', hq, hs', hf⟩
  | goto l => exact ⟨σ', I', ν', hq, hs', hf⟩
  | ret => exact ⟨σ', I', ν', hq, hs', hf⟩
  | panic ch => exact ⟨σ', I', ν', hq, hs', hf⟩
  | outgrown => exact ⟨σ', I', ν', hq, hs', hf⟩

/-- The value of an operand, abstractly. -/
def cellAV : Value → Option AV
  | .bool b => some (.bool b)
  | .int k n => some (.int k n)
  | .string s => some (.str s.data.toList)
  | .slice none 0 0 => some .nilsl
  | .pointer none => some .nilp
  | .nilFunc => some .nilfn
  | .nilIface => some .nilif
  | _ => none
def cellsAV : List Value → Option (List AV)
  | [] => some []
  | v :: r => match cellAV v with
    | none => none
    | some x => match cellsAV r with
      | none => none
      | some xs => some (x :: xs)
def constAV : Value → Option AV
  | .agg cs => match cellsAV cs.toList with
    | some xs => some (.agg xs)
    | none => none
  | .map none => some .any
  | v => cellAV v
def ev (sl : Slots) : Operand → Option AV
  | .tmp t => lk sl t
  | .const v => constAV v
  | .func f => some (.fn f [])
  | .global _ => none

theorem cellAV_ok {w : World} {I : Imm} : ∀ {v : Value} {x : AV}, cellAV v = some x → VP w I x v := by
  intro v x h
  unfold cellAV at h
  split at h <;> first | (injection h with h; subst h) | contradiction
  · exact .bool _
  · exact .int _ _
  · exact .str _
  · exact .nilsl
  · exact .nilp
  · exact .nilfn
  · exact .nilif
theorem cellsAV_ok {w : World} {I : Imm} : ∀ (vs : List Value) {xs : List AV}, cellsAV vs = some xs → xs.length = vs.length ∧ ∀ (j : Nat) x v, xs[j]? = some x → vs[j]? = some v → VP w I x v := by
  intro vs
  induction vs with
  | nil => intro xs h; simp only [cellsAV, Option.some.injEq] at h; subst h; simp
  | cons v r ih =>
    intro xs h
    simp only [cellsAV] at h
    split at h
    · contradiction
    · rename_i x hx
      split at h
      · contradiction
      · rename_i ys hy
        injection h with h
        subst h
        obtain ⟨h1, h2⟩ := ih hy
        refine ⟨by simp [h1], fun j x' v' hj hv => ?_⟩
        cases j with
        | zero => simp only [List.getElem?_cons_zero, Option.some.injEq] at hj hv; subst hj; subst hv; exact cellAV_ok hx
        | succ j => exact h2 j x' v' (by simpa using hj) (by simpa using hv)
theorem constAV_ok {w : World} {I : Imm} {ν : Nu} {v : Value} {x : AV} (h : constAV v = some x) : VR w I ν x v := by
  unfold constAV at h
  split at h
  · rename_i cs
    split at h
    · rename_i xs hx
      injection h with h
      subst h
      obtain ⟨h1, h2⟩ := cellsAV_ok (w := w) (I := I) cs.toList hx
      have := VR.agg (w := w) (I := I) (ν := ν) xs cs.toList h1 (fun j x v hj hv => .pure (h2 j x v hj hv))
      simpa using this
    · contradiction
  · injection h with h
    subst h
    exact .any _
  · exact .pure (cellAV_ok h)
theorem ev_ok {w : World} {I : Imm} {ν : Nu} {sl : Slots} {a : Act} (h : SlR w I ν sl a) {o : Operand} {x : AV} (hx : ev sl o = some x) : VR w I ν x (a.eval o) := by
  cases o with
  | tmp t => exact h t x hx
  | const v => exact constAV_ok hx
  | func f => simp only [ev, Option.some.injEq] at hx; subst hx; exact .pure (.fn f)
  | global g => simp [ev] at hx

theorem VR.bool_inv {w : World} {I : Imm} {ν : Nu} {b : Bool} {v : Value} (h : VR w I ν (.bool b) v) : v = .bool b := by
  cases h with
  | pure h => cases h; rfl
theorem VR.int_inv {w : World} {I : Imm} {ν : Nu} {k : IntKind} {n : Int} {v : Value} (h : VR w I ν (.int k n) v) : v = .int k n := by
  cases h with
  | pure h => cases h; rfl
theorem VR.str_inv {w : World} {I : Imm} {ν : Nu} {s : List UInt8} {v : Value} (h : VR w I ν (.str s) v) : v = .string ⟨s.toArray⟩ := by
  cases h with
  | pure h => cases h; rfl

theorem awp_cond {c : Operand} {x y : Code} (b : Bool) (hc : ev σ.sl c = some (.bool b)) (ht : b = true → AWp E N x Q σ) (hf : b = false → AWp E N y Q σ) : AWp E N (.cond c x y) Q σ := by
  intro I ν a w hs
  have hv := (ev_ok hs.sl hc).bool_inv
  refine wp_cond (t := b) hv ?_
  cases b with
  | true => exact ht rfl I ν a w hs
  | false => exact hf rfl I ν a w hs

/-- A state that says less. -/
structure Wk (σ σ' : St) : Prop where
  sl : ∀ t x, lk σ'.sl t = some x → lk σ.sl t = some x
  objs : σ'.objs = σ.objs
theorem Wk.sr {I : Imm} {ν : Nu} {a : Act} {w : World} (h : Wk σ σ') (hs : SR E N I ν σ a w) : SR E N I ν σ' a w :=
  ⟨by rw [h.objs]; exact hs.hr, fun t x hx => hs.sl t x (h.sl t x hx), hs.df, hs.nt⟩
theorem awp_wk {c : Code} (h : Wk σ σ') (k : AWp E N c Q σ') : AWp E N c Q σ := by
  intro I ν a w hs
  have := k I ν a w (h.sr hs)
  rw [h.objs] at this
  exact this

theorem wp_loop_at {P : Program} {α : Type} {c : Code} {R : Exit → Act → World → Prop} (J : α → Act → World → Prop) (m : α → Nat) (x0 : α) {a : Act} {w : World} (h0 : J x0 a w)
    (round : ∀ x a w, J x a w → c.wp P (Exit.then (fun a' w' => ∃ y, m y < m x ∧ J y a' w') R) a w) : (Code.loop c).wp P R a w := by
  intro b k cs
  have key : ∀ n x a w, m x = n → J x a w → ∃ e a' w', R e a' w' ∧ Arrives P (lone (b.at a (.code c :: .inLoop c :: k)) cs w) b k cs e a' w' := by
    intro n
    induction n using Nat.strongRecOn with
    | _ n ih =>
      intro x a w hn hI
      obtain ⟨e, a₁, w₁, hq, harr⟩ := round x a w hI b (.inLoop c :: k) cs
      cases e with
      | normal =>
        obtain ⟨y, hlt, hJ⟩ := hq
        obtain ⟨e₂, a₂, w₂, hq₂, harr₂⟩ := ih (m y) (hn ▸ hlt) y a₁ w₁ rfl hJ
        exact ⟨e₂, a₂, w₂, hq₂, .of_steps (Steps.trans harr (.one step_inLoop)) harr₂⟩
      | exit id => exact ⟨_, a₁, w₁, hq, .pass (x := .inLoop c) rfl (fun _ _ => .inl (by simp)) harr⟩
      | goto l => exact ⟨_, a₁, w₁, hq, .pass (x := .inLoop c) rfl (fun _ _ => .inl (by simp)) harr⟩
      | ret => exact ⟨_, a₁, w₁, hq, .pass (x := .inLoop c) rfl (fun _ _ => .inl (by simp)) harr⟩
      | panic ch => exact ⟨_, a₁, w₁, hq, .pass (x := .inLoop c) rfl (fun _ _ => .inl (by simp)) harr⟩
      | outgrown => exact ⟨_, a₁, w₁, hq, .pass (x := .inLoop c) rfl (fun _ _ => .inl (by simp)) harr⟩
  obtain ⟨e, a', w', hq, harr⟩ := key _ x0 a w rfl h0
  exact ⟨e, a', w', hq, .of_steps (.one step_loop) harr⟩

/-- A loop: the states at its head, one for each x; a measure. -/
theorem awp_loop {α : Type} {c : Code} (inv : α → St) (ok : α → Prop) (m : α → Nat) (x0 : α) (h0 : Wk σ (inv x0)) (k0 : ok x0)
    (round : ∀ x, ok x → AWp E N c (fun e σ' => match e with
      | .normal => ∃ y, ok y ∧ m y < m x ∧ Wk σ' (inv y)
      | e => Q e σ') (inv x)) : AWp E N (.loop c) Q σ := by
  refine awp_wk h0 ?_
  intro I ν a w hs
  refine wp_loop_at (fun x a' w' => ∃ I' ν', ok x ∧ SR E N I' ν' (inv x) a' w' ∧ FR E.k w I ν (inv x0).objs w' I' ν' (inv x).objs) m x0 ⟨I, ν, k0, hs, FR.refl _ _ _ _⟩ ?_
  rintro x a1 w1 ⟨I1, ν1, hx, hs1, hf1⟩
  refine Code.wp_mono (fun e a' w' hk => ?_) (round x hx I1 ν1 a1 w1 hs1)
  obtain ⟨σ', I', ν', hq, hs', hf⟩ := hk
  cases e with
  | normal =>
    obtain ⟨y, hy, hm, hw⟩ := hq
    exact ⟨y, hm, I', ν', hy, hw.sr hs', by rw [hw.objs]; exact hf1.trans hf⟩
  | exit id => exact ⟨σ', I', ν', hq, hs', hf1.trans hf⟩
  | goto l => exact ⟨σ', I', ν', hq, hs', hf1.trans hf⟩
  | ret => exact ⟨σ', I', ν', hq, hs', hf1.trans hf⟩
  | panic ch => exact ⟨σ', I', ν', hq, hs', hf1.trans hf⟩
  | outgrown => exact ⟨σ', I', ν', hq, hs', hf1.trans hf⟩
end
end Go.Proofs.Ytibmabidjacjlaa.L
