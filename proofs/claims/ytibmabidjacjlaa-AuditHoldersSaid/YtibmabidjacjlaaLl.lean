/- The logic, part 12: regions that draw their order, when all they do is look. -/
import Derived.Test.YtibmabidjacjlaaLk
import Derived.KernelRfl
namespace Go.Proofs.Ytibmabidjacjlaa.L
open Go Go.RowKit
set_option linter.unusedVariables false
set_option linter.unusedSimpArgs false

theorem HR.later {E : Env} {I : Imm} {ν : Nu} {H : List AO} {w w' : World} (hh : HR E I ν H w) (hb : Below w.heap.size w w') : HR E I ν H w' ∧ FR E.k w I ν H w' I ν H ∧ ImmLe w I w' I := by
  have hI : ImmLe w I w' I := ImmLe.heap hh fun k hk _ => hb.block k hk
  refine ⟨⟨hh.n, hh.below.trans (hb.mono hh.base), Nat.le_trans hh.base hb.size, fun b o h => ?_, fun id o h => ?_, hh.disj⟩, ⟨hI, hb.size, fun b o h => .inl h, fun b hk _ => hb.block b hk, fun b h => .inl h, (Nu.le.refl ν).ag _, fun _ _ h => ⟨rfl, h⟩⟩, hI⟩
  · obtain ⟨v, hv⟩ := hh.imm b o h
    exact ⟨v, (hI.2 b o h).trans hv⟩
  · exact (hh.obj id o h).mono hI (Nu.le.refl ν) (hh.idlt h) rfl (fun b hk => hb.block b (OB_lt (hh.obj id o h) hk).1) (fun _ _ _ h => h)

theorem HR.still {E : Env} {I : Imm} {ν : Nu} {H : List AO} {w w' : World} (hh : HR E I ν H w) (hb : Below w.heap.size w w') : Still ν H I w w' :=
  ⟨hb.size, fun b o h => (hh.later hb).2.2.2 b o h, fun id o b h1 h2 => hb.block b (OB_lt (hh.obj id o h1) h2).1⟩

def QL (E : Env) (N : Nat) (ops : Array Oper) (Q : Exit → St → Prop) (l : List Oper) (σ : St) : Prop :=
  ∀ I ν a w, SR E N I ν σ a w → wpQuiet E.P ops (fun w' => Below w.heap.size w w') (fun a' => ∀ w', Below w.heap.size w w' → Lift E N w I ν σ.objs Q .normal a' w') l a

section
variable {E : Env} {N : Nat} {ops : Array Oper} {Q : Exit → St → Prop} {rest : List Oper} {sl : Slots} {H : List AO}

theorem awp_draw {id : Nat} {l : List Oper} {σ : St} (hm : E.P.follows .mixedOrders = true) (hB : Region.lexB .any l.toArray = true) (h : QL E N l.toArray Q l σ) : AWp E N (.region id l.toArray true) Q σ := by
  intro I ν a w hs
  exact wp_region_quiet (C := fun w' => Below w.heap.size w w') hm hB ((Below.refl _ _).drew) (by simpa using h I ν a w hs)

theorem ql_nil (h : Q .normal ⟨sl, H⟩) : QL E N ops Q [] ⟨sl, H⟩ := by
  intro I ν a w hs
  refine wpQuiet_nil fun w' hb => ?_
  obtain ⟨h1, h2, h3⟩ := hs.hr.later hb
  exact ⟨⟨sl, H⟩, I, ν, h, ⟨h1, hs.sl.mono h3 (Nu.le.refl ν), hs.df, hs.nt⟩, h2⟩

theorem ql_v {op : Op} {ty : TypeId} {pos : String} {after : Array Edge} {d : Nat} {x : AV} (hv : OV E sl H op x) (hd : Nat.blt d N = true) (h : QL E N ops Q rest ⟨(d, x) :: sl, H⟩) :
    QL E N ops Q (⟨some d, op, ty, pos, after, none⟩ :: rest) ⟨sl, H⟩ := by
  intro I ν a w hs
  obtain ⟨v, hx, hr⟩ := hv I ν a w hs.hr hs.sl
  refine wpQuiet_step fun K hK => ?_
  rw [if_pos (by simp [Region.wanted])]
  refine ⟨v, fun w' hb => ?_, hK _ (h I ν _ w (put_dst hs hd hx))⟩
  unfold Oper.quietAt
  rw [hr _ w' rfl (hs.hr.still hb)]
  exact ⟨rfl, rfl⟩

theorem ql_gy {op : Op} {ty : TypeId} {pos : String} {after : Array Edge} {d : Option Nat} {j t : Nat} {want b : Bool} (hj : (ops[j]?).bind (·.dst) = some t) (hb : lk sl t = some (.bool b)) (hw : b = want)
    (h : QL E N ops Q (⟨d, op, ty, pos, after, none⟩ :: rest) ⟨sl, H⟩) : QL E N ops Q (⟨d, op, ty, pos, after, some (j, want)⟩ :: rest) ⟨sl, H⟩ := by
  subst hw
  intro I ν a w hs
  have hy := yielded_of hs.sl hj hb
  have := h I ν a w hs
  unfold wpQuiet at this ⊢
  rw [if_pos (by simp [Region.wanted])] at this
  rw [if_pos (by simp [Region.wanted, hy])]
  exact this
theorem ql_gn {op : Op} {ty : TypeId} {pos : String} {after : Array Edge} {d j t : Nat} {want b : Bool} (hj : (ops[j]?).bind (·.dst) = some t) (hb : lk sl t = some (.bool b)) (hw : (b == want) = false) (hd : Nat.blt d N = true)
    (h : QL E N ops Q rest ⟨(d, .und) :: sl, H⟩) : QL E N ops Q (⟨some d, op, ty, pos, after, some (j, want)⟩ :: rest) ⟨sl, H⟩ := by
  intro I ν a w hs
  have hy := yielded_of hs.sl hj hb
  unfold wpQuiet
  rw [if_neg (by simp only [Region.wanted, hy]; intro e; rw [show (some b == some want) = (b == want) from rfl, hw] at e; cases e)]
  exact h I ν _ w (put_dst hs hd (.und _ rfl))
theorem ql_gnt {op : Op} {ty : TypeId} {pos : String} {after : Array Edge} {d j t : Nat} {b : Bool} (hj : (ops[j]?).bind (·.dst) = some t) (hb : lk sl t = some (.bool b)) (hw : b = false) (hd : Nat.blt d N = true)
    (h : QL E N ops Q rest ⟨(d, .und) :: sl, H⟩) : QL E N ops Q (⟨some d, op, ty, pos, after, some (j, true)⟩ :: rest) ⟨sl, H⟩ := by subst hw; exact ql_gn hj hb rfl hd h
theorem ql_gnf {op : Op} {ty : TypeId} {pos : String} {after : Array Edge} {d j t : Nat} {b : Bool} (hj : (ops[j]?).bind (·.dst) = some t) (hb : lk sl t = some (.bool b)) (hw : b = true) (hd : Nat.blt d N = true)
    (h : QL E N ops Q rest ⟨(d, .und) :: sl, H⟩) : QL E N ops Q (⟨some d, op, ty, pos, after, some (j, false)⟩ :: rest) ⟨sl, H⟩ := by subst hw; exact ql_gn hj hb rfl hd h
theorem ql_gu {op : Op} {ty : TypeId} {pos : String} {after : Array Edge} {d j t : Nat} {want : Bool} (hj : (ops[j]?).bind (·.dst) = some t) (hb : lk sl t = some .und) (hd : Nat.blt d N = true)
    (h : QL E N ops Q rest ⟨(d, .und) :: sl, H⟩) : QL E N ops Q (⟨some d, op, ty, pos, after, some (j, want)⟩ :: rest) ⟨sl, H⟩ := by
  intro I ν a w hs
  have hy := yielded_und (ops := ops) hs.sl hj hb
  unfold wpQuiet
  rw [if_neg (by simp [Region.wanted, hy])]
  exact h I ν _ w (put_dst hs hd (.und _ rfl))
theorem ql_know {l : List Oper} {t : Nat} (b : Bool) (hb : lk sl t = some (.bool b)) (hy : b = true → QL E N ops Q l ⟨(t, .bool true) :: sl, H⟩) (hn : b = false → QL E N ops Q l ⟨(t, .bool false) :: sl, H⟩) : QL E N ops Q l ⟨sl, H⟩ := by
  have key : ∀ I ν a w, SR E N I ν ⟨sl, H⟩ a w → SR E N I ν ⟨(t, .bool b) :: sl, H⟩ a w := fun I ν a w hs => ⟨hs.hr, fun t' x hx => by
    rw [lk_cons] at hx
    by_cases e : t = t'
    · subst e; rw [if_pos rfl] at hx; obtain rfl : AV.bool b = x := by simpa using hx
      exact hs.sl t _ hb
    · rw [if_neg e] at hx; exact hs.sl t' x hx, hs.df, hs.nt⟩
  intro I ν a w hs
  cases b with
  | true => exact hy rfl I ν a w (key I ν a w hs)
  | false => exact hn rfl I ν a w (key I ν a w hs)
theorem ql_gsp {op : Op} {ty : TypeId} {pos : String} {after : Array Edge} {d : Option Nat} {j t : Nat} {want : Bool} {p : Prop} [Decidable p] (hj : (ops[j]?).bind (·.dst) = some t) (hb : lk sl t = some (.bool (decide p)))
    (hy : p → QL E N ops Q (⟨d, op, ty, pos, after, some (j, want)⟩ :: rest) ⟨(t, .bool true) :: sl, H⟩) (hn : ¬ p → QL E N ops Q (⟨d, op, ty, pos, after, some (j, want)⟩ :: rest) ⟨(t, .bool false) :: sl, H⟩) :
    QL E N ops Q (⟨d, op, ty, pos, after, some (j, want)⟩ :: rest) ⟨sl, H⟩ :=
  ql_know (decide p) hb (fun h => hy (of_decide_eq_true h)) (fun h => hn (of_decide_eq_false h))
theorem ql_gsb {op : Op} {ty : TypeId} {pos : String} {after : Array Edge} {d : Option Nat} {j t : Nat} {want b : Bool} (hj : (ops[j]?).bind (·.dst) = some t) (hb : lk sl t = some (.bool b))
    (hy : b = true → QL E N ops Q (⟨d, op, ty, pos, after, some (j, want)⟩ :: rest) ⟨(t, .bool true) :: sl, H⟩) (hn : b = false → QL E N ops Q (⟨d, op, ty, pos, after, some (j, want)⟩ :: rest) ⟨(t, .bool false) :: sl, H⟩) :
    QL E N ops Q (⟨d, op, ty, pos, after, some (j, want)⟩ :: rest) ⟨sl, H⟩ :=
  ql_know b hb hy hn

/-- A number, a truth, a text: one value says it, in every world. -/
def svalue : AV → Option Value
  | .bool b => some (.bool b)
  | .int k n => some (.int k n)
  | .str s => some (.string ⟨s.toArray⟩)
  | _ => none
theorem svalue_of {w : World} {I : Imm} {ν : Nu} {x : AV} {v u : Value} (hs : svalue x = some u) (h : VR w I ν x v) : v = u := by
  cases x <;> simp only [svalue, Option.some.injEq, reduceCtorEq] at hs <;> subst hs
  · exact h.bool_inv
  · exact h.int_inv
  · exact h.str_inv
theorem svalue_vr {w : World} {I : Imm} {ν : Nu} {x : AV} {u : Value} (hs : svalue x = some u) : VR w I ν x u := by
  cases x <;> simp only [svalue, Option.some.injEq, reduceCtorEq] at hs <;> subst hs
  · exact .pure (.bool _)
  · exact .pure (.int _ _)
  · exact .pure (.str _)

theorem pcall_run {I : Imm} {ν : Nu} {w : World} (hh : HR E I ν H w) {g : Nat} {xs : List AV} {R : AV → Prop} (spec : PCalls (E.at 0) g xs R) (hc : clL 0 xs = true) {vs : List Value} (hl : xs.length = vs.length) (hv : ∀ (j : Nat) x v, xs[j]? = some x → vs[j]? = some v → VR w I ν x v) :
    Calls E.P g vs.toArray w fun e w' => ∃ rv I' v, R rv ∧ e = .returned v ∧ VR w' I' ν rv v ∧ HR E I' ν H w' ∧ FR E.k w I ν H w' I' ν H ∧ Below w.heap.size w w' := by
  have hz : Nu.agree 0 ν ⟨0, fun _ => 0, fun _ _ => undef⟩ := ⟨Nat.le_refl _, fun _ h => by omega, fun _ _ h => by omega⟩
  refine (spec I ⟨0, fun _ => 0, fun _ _ => undef⟩ w vs ⟨rfl, hh.below, hh.base, hh.imm, fun id o h => by simp at h, fun id id' o o' b h => by simp at h⟩ hl (fun j x v h1 h2 => (hv j x v h1 h2).cut hz (clL_get hc j x h1))).mono ?_
  rintro e w' ⟨rv, objs', I', ν', v, ⟨hR, hcl⟩, rfl, hv', hh', hfr⟩
  replace hh' := HR.env (E := E.at 0) (F := E) rfl rfl hh'
  have hnof : ∀ b, ¬ FB (⟨0, fun _ => 0, fun _ _ => undef⟩ : Nu) [] b := fun b ⟨id, o, h, _⟩ => by simp at h
  have hkeep : ∀ k, k < w.heap.size → w'.heap[k]? = w.heap[k]? := fun k hk => hfr.keep k hk (hnof k)
  have hnew : ∀ b o, I' b o → I b o ∨ w.heap.size ≤ b := fun b o h => by
    rcases hfr.new b o h with h | h | h
    · exact .inl h
    · exact absurd h (hnof b)
    · exact .inr h
  refine ⟨rv, I', v, hR, rfl, hv'.cut (k := 0) ⟨Nat.zero_le _, fun _ h => by omega, fun _ _ h => by omega⟩ hcl, ?_, ?_, ?_⟩
  · exact ⟨hh.n, hh'.below, Nat.le_trans hh.base hfr.size, hh'.imm, fun id o h => (hh.obj id o h).mono hfr.imm (Nu.le.refl ν) (hh.idlt h) rfl (fun b hb => hkeep b (OB_lt (hh.obj id o h) hb).1) (fun b o' hb hi => by
      rcases hnew b o' hi with h1 | h1
      · exact h1
      · have := (OB_lt (hh.obj id o h) hb).1
        omega), hh.disj⟩
  · exact ⟨hfr.imm, hfr.size, fun b o h => by
      rcases hnew b o h with h1 | h1
      · exact .inl h1
      · exact .inr (.inr h1), fun b hb _ => hkeep b hb, fun b h => .inl h, (Nu.le.refl ν).ag _, fun _ _ h => ⟨rfl, h⟩⟩
  · exact ⟨hh'.below.os.trans hh.below.os.symm, hh'.below.tape.trans hh.below.tape.symm, hh'.below.output.trans hh.below.output.symm, hfr.size, hkeep⟩

theorem ql_call {f : Operand} {as : List Operand} {tys : Array TypeId} {g : Nat} [fn : FN E.P g] {caps xs : List AV} {c : AV} {u : Value} {ty : TypeId} {pos : String} {after : Array Edge} {d : Nat}
    (hf : ev sl f = some (.fn g caps)) (ha : evs sl as = some xs) (hc : clL 0 (xs ++ caps) = true) (hd : Nat.blt d N = true) (spec : PCalls (E.at 0) g (xs ++ caps) (fun rv => rv = c)) (hu : svalue c = some u)
    (h : QL E N ops Q rest ⟨(d, c) :: sl, H⟩) : QL E N ops Q (⟨some d, .call { callee := .value f, args := as.toArray, argTypes := tys }, ty, pos, after, none⟩ :: rest) ⟨sl, H⟩ := by
  intro I ν a w hs
  obtain ⟨cvs, e1, e2, e3⟩ := fn_inv (ev_ok hs.sl hf)
  obtain ⟨e4, e5⟩ := evs_ok hs.sl as ha
  have hargs := append_get (T := VR w I ν) (p := xs) (q := caps) (r := as.map a.eval) (s := cvs) (by simp [e4]) e5 e3
  refine wpQuiet_step fun K hK => ?_
  rw [if_pos (by simp [Region.wanted])]
  refine ⟨u, fun w' hb => ?_, hK _ (h I ν _ w (put_dst hs hd (svalue_vr hu)))⟩
  have hrun : (execOp a.eval ⟨some d, .call { callee := .value f, args := as.toArray, argTypes := tys }, ty, pos, after, none⟩).run E.P w' = .ok (.enter g (as.map a.eval ++ cvs).toArray) w' := by
    simp [execOp, resolve, e1, Deferred.ofValue, invoke, run_callFunc]
  unfold Oper.quietAt
  rw [hrun]
  refine ⟨rfl, ?_⟩
  obtain ⟨h1, h2, h3⟩ := hs.hr.later hb
  refine (pcall_run h1 spec hc (by simp [e4, e2]) (fun j x v p q => (hargs j x v p q).mono h3 (Nu.le.refl ν))).mono ?_
  rintro e w2 ⟨rv, I', v, rfl, rfl, hv, _, _, hb2⟩
  exact ⟨by rw [svalue_of hu hv], hb.trans (hb2.mono hb.size)⟩
end
end Go.Proofs.Ytibmabidjacjlaa.L
