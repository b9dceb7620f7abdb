/- The logic, part 3: operations that yield a value and leave the world alone; lists of operations. -/
import Derived.Test.YtibmabidjacjlaaLb
import Derived.Laws.BitsLemmas
import Derived.Laws.Entries
import Derived.Laws.Strings
namespace Go.Proofs.Ytibmabidjacjlaa.L
open Go Go.RowKit
set_option linter.unusedVariables false
set_option linter.unusedSimpArgs false

/-- An operation yields a value that reads as x, the same in every later world, and leaves the world alone. -/
def OV (E : Env) (sl : Slots) (H : List AO) (op : Op) (x : AV) : Prop :=
  ∀ I ν a w, HR E I ν H w → SlR w I ν sl a → ∃ v, VR w I ν x v ∧ ∀ (o : Oper) w', o.op = op → Still ν H I w w' → (execOp a.eval o).run E.P w' = .ok (.value v) w'

section
variable {E : Env} {N : Nat} {ops : Array Oper} {Q : Exit → St → Prop} {rest : List Oper} {sl : Slots} {H : List AO}

theorem al_nil (h : Q .normal ⟨sl, H⟩) : AL E N ops Q [] ⟨sl, H⟩ := fun I ν a w hs w0 I0 ν0 o0 hf => ⟨⟨sl, H⟩, I, ν, h, hs, hf⟩

theorem awp_region {id : Nat} {l : List Oper} {σ : St} (h : AL E N l.toArray Q l σ) : AWp E N (.region id l.toArray false) Q σ :=
  fun I ν a w hs => wp_region_lit (h I ν a w hs w I ν σ.objs (FR.refl _ _ _ _))

theorem put_dst {E : Env} {N : Nat} {I : Imm} {ν : Nu} {a : Act} {w : World} (hs : SR E N I ν ⟨sl, H⟩ a w) {d : Nat} (hd : Nat.blt d N = true) {x : AV} {v : Value} (hx : VR w I ν x v) : SR E N I ν ⟨(d, x) :: sl, H⟩ (a.put (some d) v) w :=
  ⟨hs.hr, hs.sl.put d hx (by rw [hs.nt]; simpa [Nat.blt_eq] using hd), hs.df, by simp [Act.put, hs.nt]⟩

theorem al_v {op : Op} {ty : TypeId} {pos : String} {after : Array Edge} {d : Nat} {x : AV} (hv : OV E sl H op x) (hd : Nat.blt d N = true) (h : AL E N ops Q rest ⟨(d, x) :: sl, H⟩) :
    AL E N ops Q (⟨some d, op, ty, pos, after, none⟩ :: rest) ⟨sl, H⟩ := by
  intro I ν a w hs w0 I0 ν0 o0 hf
  obtain ⟨v, hx, hr⟩ := hv I ν a w hs.hr hs.sl
  refine wpList_plain rfl fun K hK => ?_
  unfold Oper.wp
  rw [hr _ w rfl (Still.refl _ _ _ _)]
  exact hK _ _ (h I ν _ w (put_dst hs hd hx) w0 I0 ν0 o0 hf)

theorem yielded_of {I : Imm} {ν : Nu} {a : Act} {w : World} (hs : SlR w I ν sl a) {j t : Nat} {b : Bool} (hj : (ops[j]?).bind (·.dst) = some t) (hb : lk sl t = some (.bool b)) : yielded ops a.tmps j = some b := by
  have h := (hs t _ hb).bool_inv
  have h2 : a.tmps[t]? = some (.bool b) := by
    rw [Array.getD_eq_getD_getElem?] at h
    cases ht : a.tmps[t]? with
    | none => rw [ht] at h; simp [undef] at h
    | some v => rw [ht] at h; simpa using h
  simp [yielded, hj, h2]

/-- A guarded operation: carried out. -/
theorem al_gy {op : Op} {ty : TypeId} {pos : String} {after : Array Edge} {d : Option Nat} {j t : Nat} {want : Bool} (hj : (ops[j]?).bind (·.dst) = some t) (hb : lk sl t = some (.bool want))
    (h : AL E N ops Q (⟨d, op, ty, pos, after, none⟩ :: rest) ⟨sl, H⟩) : AL E N ops Q (⟨d, op, ty, pos, after, some (j, want)⟩ :: rest) ⟨sl, H⟩ := by
  intro I ν a w hs w0 I0 ν0 o0 hf
  have hy := yielded_of hs.sl hj hb
  have := h I ν a w hs w0 I0 ν0 o0 hf
  unfold wpList at this ⊢
  rw [if_pos (by simp [Region.wanted])] at this
  rw [if_pos (by simp [Region.wanted, hy])]
  exact this
/-- A guarded operation: passed over. -/
theorem al_gn {op : Op} {ty : TypeId} {pos : String} {after : Array Edge} {d j t : Nat} {want b : Bool} (hj : (ops[j]?).bind (·.dst) = some t) (hb : lk sl t = some (.bool b)) (hw : (b == want) = false) (hd : Nat.blt d N = true)
    (h : AL E N ops Q rest ⟨(d, .und) :: sl, H⟩) : AL E N ops Q (⟨some d, op, ty, pos, after, some (j, want)⟩ :: rest) ⟨sl, H⟩ := by
  intro I ν a w hs w0 I0 ν0 o0 hf
  have hy := yielded_of hs.sl hj hb
  unfold wpList
  rw [if_neg (by simp only [Region.wanted, hy]; intro e; rw [show (some b == some want) = (b == want) from rfl, hw] at e; cases e)]
  exact h I ν _ w (put_dst hs hd (.und _ rfl)) w0 I0 ν0 o0 hf
theorem al_gn0 {op : Op} {ty : TypeId} {pos : String} {after : Array Edge} {j t : Nat} {want b : Bool} (hj : (ops[j]?).bind (·.dst) = some t) (hb : lk sl t = some (.bool b)) (hw : (b == want) = false)
    (h : AL E N ops Q rest ⟨sl, H⟩) : AL E N ops Q (⟨none, op, ty, pos, after, some (j, want)⟩ :: rest) ⟨sl, H⟩ := by
  intro I ν a w hs w0 I0 ν0 o0 hf
  have hy := yielded_of hs.sl hj hb
  unfold wpList
  rw [if_neg (by simp only [Region.wanted, hy]; intro e; rw [show (some b == some want) = (b == want) from rfl, hw] at e; cases e)]
  exact h I ν a w hs w0 I0 ν0 o0 hf
theorem yielded_und {I : Imm} {ν : Nu} {a : Act} {w : World} (hs : SlR w I ν sl a) {j t : Nat} (hj : (ops[j]?).bind (·.dst) = some t) (hb : lk sl t = some .und) : yielded ops a.tmps j = none := by
  have h := hs t _ hb
  cases h with
  | pure h => cases h
  | und _ h =>
    simp only [yielded, hj, Option.bind_some]
    cases ht : a.tmps[t]? with
    | none => rfl
    | some v =>
      have : v = undef := by rw [Array.getD_eq_getD_getElem?, ht] at h; exact h
      subst this
      rfl
/-- A guarded operation whose guard was passed over: passed over. -/
theorem al_gu {op : Op} {ty : TypeId} {pos : String} {after : Array Edge} {d j t : Nat} {want : Bool} (hj : (ops[j]?).bind (·.dst) = some t) (hb : lk sl t = some .und) (hd : Nat.blt d N = true)
    (h : AL E N ops Q rest ⟨(d, .und) :: sl, H⟩) : AL E N ops Q (⟨some d, op, ty, pos, after, some (j, want)⟩ :: rest) ⟨sl, H⟩ := by
  intro I ν a w hs w0 I0 ν0 o0 hf
  have hy := yielded_und (ops := ops) hs.sl hj hb
  unfold wpList
  rw [if_neg (by simp [Region.wanted, hy])]
  exact h I ν _ w (put_dst hs hd (.und _ rfl)) w0 I0 ν0 o0 hf
theorem al_gu0 {op : Op} {ty : TypeId} {pos : String} {after : Array Edge} {j t : Nat} {want : Bool} (hj : (ops[j]?).bind (·.dst) = some t) (hb : lk sl t = some .und)
    (h : AL E N ops Q rest ⟨sl, H⟩) : AL E N ops Q (⟨none, op, ty, pos, after, some (j, want)⟩ :: rest) ⟨sl, H⟩ := by
  intro I ν a w hs w0 I0 ν0 o0 hf
  have hy := yielded_und (ops := ops) hs.sl hj hb
  unfold wpList
  rw [if_neg (by simp [Region.wanted, hy])]
  exact h I ν a w hs w0 I0 ν0 o0 hf
/-- A slot's truth, once it is known. -/
theorem al_know {l : List Oper} {t : Nat} (b : Bool) (hb : lk sl t = some (.bool b)) (hy : b = true → AL E N ops Q l ⟨(t, .bool true) :: sl, H⟩) (hn : b = false → AL E N ops Q l ⟨(t, .bool false) :: sl, H⟩) : AL E N ops Q l ⟨sl, H⟩ := by
  have key : ∀ I ν a w, SR E N I ν ⟨sl, H⟩ a w → SR E N I ν ⟨(t, .bool b) :: sl, H⟩ a w := fun I ν a w hs => ⟨hs.hr, fun t' x hx => by
    rw [lk_cons] at hx
    by_cases e : t = t'
    · subst e; rw [if_pos rfl] at hx; obtain rfl : AV.bool b = x := by simpa using hx
      exact hs.sl t _ hb
    · rw [if_neg e] at hx; exact hs.sl t' x hx, hs.df, hs.nt⟩
  intro I ν a w hs
  cases b with
  | true => exact hy rfl I ν a w (key I ν a w hs)
  | false => exact hn rfl I ν a w (key I ν a w hs)
/-- What is known of a slot is spelled otherwise. -/
theorem al_spell {l : List Oper} {t : Nat} {x : AV} (y : AV) (hb : lk sl t = some x) (e : x = y) (h : AL E N ops Q l ⟨(t, y) :: sl, H⟩) : AL E N ops Q l ⟨sl, H⟩ := by
  subst e
  intro I ν a w hs
  refine h I ν a w ⟨hs.hr, fun t' x' hx => ?_, hs.df, hs.nt⟩
  rw [lk_cons] at hx
  by_cases e : t = t'
  · subst e; rw [if_pos rfl] at hx; obtain rfl : x = x' := by simpa using hx
    exact hs.sl t _ hb
  · rw [if_neg e] at hx; exact hs.sl t' x' hx

/-! ### moves, tests, arithmetic -/
theorem ov_move {x : Operand} {v : AV} (h : ev sl x = some v) : OV E sl H (.move x) v := fun I ν a w hh hs => ⟨_, ev_ok hs h, fun o w' ho _ => by simp [execOp, ho]⟩
theorem ov_assign {x : Operand} {v : AV} (h : ev sl x = some v) : OV E sl H (.assign x) v := fun I ν a w hh hs => ⟨_, ev_ok hs h, fun o w' ho _ => by simp [execOp, ho]⟩
theorem ov_pick_t {c x y : Operand} {v : AV} (hc : ev sl c = some (.bool true)) (h : ev sl x = some v) : OV E sl H (.pick c x y) v := fun I ν a w hh hs =>
  ⟨_, ev_ok hs h, fun o w' ho _ => by have := (ev_ok hs hc).bool_inv; simp [execOp, ho, this, asBool]⟩
theorem ov_pick_f {c x y : Operand} {v : AV} (hc : ev sl c = some (.bool false)) (h : ev sl y = some v) : OV E sl H (.pick c x y) v := fun I ν a w hh hs =>
  ⟨_, ev_ok hs h, fun o w' ho _ => by have := (ev_ok hs hc).bool_inv; simp [execOp, ho, this, asBool]⟩

theorem ov_int2 {op : BinOp} {t t' : TypeId} {x y : Operand} {k : IntKind} {m n : Int} {r : AV} {v : Value} (hx : ev sl x = some (.int k m)) (hy : ev sl y = some (.int k n))
    (hr : ∀ w I ν, VR w I ν r v) (hrun : ∀ w, (binOp op t (.int k m) (.int k n)).run E.P w = .ok v w) : OV E sl H (.binOp op t x y t') r := fun I ν a w hh hs =>
  ⟨v, hr _ _ _, fun o w' ho _ => by
    have e1 := (ev_ok hs hx).int_inv
    have e2 := (ev_ok hs hy).int_inv
    have := hrun w'
    simp [execOp, ho, e1, e2, eqGuard, this]⟩
theorem ov_add {t t' : TypeId} {x y : Operand} {k : IntKind} {m n c : Int} (hx : ev sl x = some (.int k m)) (hy : ev sl y = some (.int k n)) (hc : k.wrap (m + n) = c) : OV E sl H (.binOp .add t x y t') (.int k c) :=
  ov_int2 hx hy (fun _ _ _ => .pure (.int k c)) fun w => by subst hc; simp [binOp, Op.intArith]
theorem ov_sub {t t' : TypeId} {x y : Operand} {k : IntKind} {m n c : Int} (hx : ev sl x = some (.int k m)) (hy : ev sl y = some (.int k n)) (hc : k.wrap (m - n) = c) : OV E sl H (.binOp .sub t x y t') (.int k c) :=
  ov_int2 hx hy (fun _ _ _ => .pure (.int k c)) fun w => by subst hc; simp [binOp, Op.intArith]
theorem ov_mul {t t' : TypeId} {x y : Operand} {k : IntKind} {m n c : Int} (hx : ev sl x = some (.int k m)) (hy : ev sl y = some (.int k n)) (hc : k.wrap (m * n) = c) : OV E sl H (.binOp .mul t x y t') (.int k c) :=
  ov_int2 hx hy (fun _ _ _ => .pure (.int k c)) fun w => by subst hc; simp [binOp, Op.intArith]
theorem ov_quo {t t' : TypeId} {x y : Operand} {k : IntKind} {m n c : Int} (hx : ev sl x = some (.int k m)) (hy : ev sl y = some (.int k n)) (h0 : n ≠ 0) (hc : k.wrap (m.tdiv n) = c) : OV E sl H (.binOp .quo t x y t') (.int k c) :=
  ov_int2 hx hy (fun _ _ _ => .pure (.int k c)) fun w => by subst hc; simp [binOp, Op.intDiv, h0]
theorem ov_rem {t t' : TypeId} {x y : Operand} {k : IntKind} {m n c : Int} (hx : ev sl x = some (.int k m)) (hy : ev sl y = some (.int k n)) (h0 : n ≠ 0) (hc : m.tmod n = c) : OV E sl H (.binOp .rem t x y t') (.int k c) :=
  ov_int2 hx hy (fun _ _ _ => .pure (.int k c)) fun w => by subst hc; simp [binOp, Op.intDiv, h0]
theorem ov_bits {op : BinOp} {t t' : TypeId} {x y : Operand} {k : IntKind} {m n c : Int} (hx : ev sl x = some (.int k m)) (hy : ev sl y = some (.int k n)) (ho : op = .and ∨ op = .or ∨ op = .xor) (hc : bits op k m n = c) : OV E sl H (.binOp op t x y t') (.int k c) :=
  ov_int2 hx hy (fun _ _ _ => .pure (.int k c)) fun w => by subst hc; rcases ho with rfl | rfl | rfl <;> simp [binOp, intBits_and, intBits_or, intBits_xor]
theorem ov_shl {t t' : TypeId} {x y : Operand} {k k' : IntKind} {m n c : Int} (hx : ev sl x = some (.int k m)) (hy : ev sl y = some (.int k' n)) (h0 : 0 ≤ n) (hc : k.wrap (m * 2 ^ (min n.toNat k.bits)) = c) : OV E sl H (.binOp .shl t x y t') (.int k c) := fun I ν a w hh hs =>
  ⟨_, .pure (.int k c), fun o w' ho _ => by
    have e1 := (ev_ok hs hx).int_inv
    have e2 := (ev_ok hs hy).int_inv
    subst hc
    simp [execOp, ho, e1, e2, eqGuard, binOp, Op.shift, show ¬ n < 0 by omega]⟩
theorem ov_shr {t t' : TypeId} {x y : Operand} {k k' : IntKind} {m n c : Int} (hx : ev sl x = some (.int k m)) (hy : ev sl y = some (.int k' n)) (h0 : 0 ≤ n) (hc : m.fdiv (2 ^ (min n.toNat k.bits)) = c) : OV E sl H (.binOp .shr t x y t') (.int k c) := fun I ν a w hh hs =>
  ⟨_, .pure (.int k c), fun o w' ho _ => by
    have e1 := (ev_ok hs hx).int_inv
    have e2 := (ev_ok hs hy).int_inv
    subst hc
    simp [execOp, ho, e1, e2, eqGuard, binOp, Op.shift, show ¬ n < 0 by omega]⟩

/-- A comparison of whole numbers, as a Bool. -/
def cmpI : BinOp → Int → Int → Option Bool
  | .eql, m, n => some (decide (m = n))
  | .neq, m, n => some (decide (m ≠ n))
  | .lss, m, n => some (decide (m < n))
  | .leq, m, n => some (decide (m ≤ n))
  | .gtr, m, n => some (decide (n < m))
  | .geq, m, n => some (decide (n ≤ m))
  | _, _, _ => none
theorem ov_cmp {op : BinOp} {t t' : TypeId} {x y : Operand} {k : IntKind} {m n : Int} {b : Bool} (hx : ev sl x = some (.int k m)) (hy : ev sl y = some (.int k n)) (hb : cmpI op m n = some b) : OV E sl H (.binOp op t x y t') (.bool b) :=
  ov_int2 hx hy (fun _ _ _ => .pure (.bool b)) fun w => by
    cases op <;> simp only [cmpI, Option.some.injEq, reduceCtorEq] at hb <;> subst hb <;> simp [binOp, Op.intCmp] <;> (rw [Bool.eq_iff_iff]; simp)
theorem ov_not {t : TypeId} {x : Operand} {b c : Bool} (hx : ev sl x = some (.bool b)) (hc : (!b) = c) : OV E sl H (.unOp .not t x) (.bool c) := fun I ν a w hh hs =>
  ⟨_, .pure (.bool c), fun o w' ho _ => by
    have e1 := (ev_ok hs hx).bool_inv
    subst hc
    simp [execOp, ho, e1, Op.unary]⟩
theorem ov_neg {t : TypeId} {x : Operand} {k : IntKind} {m c : Int} (hx : ev sl x = some (.int k m)) (hc : k.wrap (0 - m) = c) : OV E sl H (.unOp .neg t x) (.int k c) := fun I ν a w hh hs =>
  ⟨_, .pure (.int k c), fun o w' ho _ => by
    have e1 := (ev_ok hs hx).int_inv
    subst hc
    simp [execOp, ho, e1, Op.unary, Op.intArith]⟩

/-! ### bools and strings compared; strings joined -/
theorem toList_mk (s : List UInt8) : (ByteArray.mk s.toArray).toList = s := by
  rw [ByteArray.toList_eq]
theorem ov_str2 {op : BinOp} {t t' : TypeId} {x y : Operand} {m n : List UInt8} {r : AV} {v : Value} (hx : ev sl x = some (.str m)) (hy : ev sl y = some (.str n))
    (hr : ∀ w I ν, VR w I ν r v) (hrun : ∀ w, (binOp op t (.string ⟨m.toArray⟩) (.string ⟨n.toArray⟩)).run E.P w = .ok v w) : OV E sl H (.binOp op t x y t') r := fun I ν a w hh hs =>
  ⟨v, hr _ _ _, fun o w' ho _ => by
    have e1 := (ev_ok hs hx).str_inv
    have e2 := (ev_ok hs hy).str_inv
    have := hrun w'
    simp [execOp, ho, e1, e2, eqGuard, this]⟩
theorem ov_cat {t t' : TypeId} {x y : Operand} {m n : List UInt8} (hx : ev sl x = some (.str m)) (hy : ev sl y = some (.str n)) (hl : m.length + n.length ≤ 9223372036854775807) : OV E sl H (.binOp .add t x y t') (.str (m ++ n)) :=
  ov_str2 hx hy (fun _ _ _ => .pure (.str (m ++ n))) fun w => by
    have e : (ByteArray.mk m.toArray ++ ByteArray.mk n.toArray) = ByteArray.mk (m ++ n).toArray := by
      apply ByteArray.ext
      simp
    have h2 : ¬ (((ByteArray.mk m.toArray).size + (ByteArray.mk n.toArray).size : Nat) : Int) > IntKind.i64.max := by
      simp [ByteArray.size, IntKind.max, IntKind.bits, IntKind.signed]
      omega
    simp only [binOp, Op.stringOp]
    rw [if_neg h2, e]
    simp
theorem ov_seq {t t' : TypeId} {x y : Operand} {m n : List UInt8} (hx : ev sl x = some (.str m)) (hy : ev sl y = some (.str n)) : OV E sl H (.binOp .eql t x y t') (.bool (decide (m = n))) :=
  ov_str2 hx hy (fun _ _ _ => .pure (.bool _)) fun w => by
    simp [binOp, Op.stringOp, toList_mk]
    try (rw [Bool.eq_iff_iff]; simp)
theorem ov_sne {t t' : TypeId} {x y : Operand} {m n : List UInt8} (hx : ev sl x = some (.str m)) (hy : ev sl y = some (.str n)) : OV E sl H (.binOp .neq t x y t') (.bool (decide (m ≠ n))) :=
  ov_str2 hx hy (fun _ _ _ => .pure (.bool _)) fun w => by
    simp [binOp, Op.stringOp, toList_mk]
    try (rw [Bool.eq_iff_iff]; simp)
end
end Go.Proofs.Ytibmabidjacjlaa.L
