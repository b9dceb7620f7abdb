/- The logic, part 11: rules that part ways; small help for what rules ask. -/
import Derived.Test.YtibmabidjacjlaaLj
import Derived.RowKit
namespace Go.Proofs.Ytibmabidjacjlaa.L
open Go Go.RowKit
set_option linter.unusedVariables false
set_option linter.unusedSimpArgs false

theorem w64 {n : Int} (h1 : -9223372036854775808 ≤ n) (h2 : n ≤ 9223372036854775807) : IntKind.i64.wrap n = n := by rw [IntKind.wrap_i64]; omega
theorem w8 {n : Int} (h1 : 0 ≤ n) (h2 : n ≤ 255) : IntKind.u8.wrap n = n := by rw [IntKind.wrap_u8]; omega

section
variable {E : Env} {N : Nat} {ops : Array Oper} {Q : Exit → St → Prop} {rest : List Oper} {sl : Slots} {H : List AO}

theorem al_gsp {op : Op} {ty : TypeId} {pos : String} {after : Array Edge} {d : Option Nat} {j t : Nat} {want : Bool} {p : Prop} [Decidable p] (hj : (ops[j]?).bind (·.dst) = some t) (hb : lk sl t = some (.bool (decide p)))
    (hy : p → AL E N ops Q (⟨d, op, ty, pos, after, some (j, want)⟩ :: rest) ⟨(t, .bool true) :: sl, H⟩) (hn : ¬ p → AL E N ops Q (⟨d, op, ty, pos, after, some (j, want)⟩ :: rest) ⟨(t, .bool false) :: sl, H⟩) :
    AL E N ops Q (⟨d, op, ty, pos, after, some (j, want)⟩ :: rest) ⟨sl, H⟩ :=
  al_know (decide p) hb (fun h => hy (of_decide_eq_true h)) (fun h => hn (of_decide_eq_false h))
theorem al_gsb {op : Op} {ty : TypeId} {pos : String} {after : Array Edge} {d : Option Nat} {j t : Nat} {want b : Bool} (hj : (ops[j]?).bind (·.dst) = some t) (hb : lk sl t = some (.bool b))
    (hy : b = true → AL E N ops Q (⟨d, op, ty, pos, after, some (j, want)⟩ :: rest) ⟨(t, .bool true) :: sl, H⟩) (hn : b = false → AL E N ops Q (⟨d, op, ty, pos, after, some (j, want)⟩ :: rest) ⟨(t, .bool false) :: sl, H⟩) :
    AL E N ops Q (⟨d, op, ty, pos, after, some (j, want)⟩ :: rest) ⟨sl, H⟩ :=
  al_know b hb hy hn
theorem awp_cond_t {c : Operand} {x y : Code} {σ : St} (hc : ev σ.sl c = some (.bool true)) (h : AWp E N x Q σ) : AWp E N (.cond c x y) Q σ := awp_cond true hc (fun _ => h) (fun e => by cases e)
theorem awp_cond_f {c : Operand} {x y : Code} {σ : St} (hc : ev σ.sl c = some (.bool false)) (h : AWp E N y Q σ) : AWp E N (.cond c x y) Q σ := awp_cond false hc (fun e => by cases e) (fun _ => h)
theorem awp_cond_p {c : Operand} {x y : Code} {σ : St} {p : Prop} [Decidable p] (hc : ev σ.sl c = some (.bool (decide p))) (ht : p → AWp E N x Q σ) (hf : ¬ p → AWp E N y Q σ) : AWp E N (.cond c x y) Q σ :=
  awp_cond (decide p) hc (fun h => ht (of_decide_eq_true h)) (fun h => hf (of_decide_eq_false h))

theorem al_gy' {op : Op} {ty : TypeId} {pos : String} {after : Array Edge} {d : Option Nat} {j t : Nat} {want b : Bool} (hj : (ops[j]?).bind (·.dst) = some t) (hb : lk sl t = some (.bool b)) (hw : b = want)
    (h : AL E N ops Q (⟨d, op, ty, pos, after, none⟩ :: rest) ⟨sl, H⟩) : AL E N ops Q (⟨d, op, ty, pos, after, some (j, want)⟩ :: rest) ⟨sl, H⟩ := by
  subst hw
  exact al_gy hj hb h
theorem al_gnt {op : Op} {ty : TypeId} {pos : String} {after : Array Edge} {d j t : Nat} {b : Bool} (hj : (ops[j]?).bind (·.dst) = some t) (hb : lk sl t = some (.bool b)) (hw : b = false) (hd : Nat.blt d N = true)
    (h : AL E N ops Q rest ⟨(d, .und) :: sl, H⟩) : AL E N ops Q (⟨some d, op, ty, pos, after, some (j, true)⟩ :: rest) ⟨sl, H⟩ := by
  subst hw
  exact al_gn hj hb rfl hd h
theorem al_gnf {op : Op} {ty : TypeId} {pos : String} {after : Array Edge} {d j t : Nat} {b : Bool} (hj : (ops[j]?).bind (·.dst) = some t) (hb : lk sl t = some (.bool b)) (hw : b = true) (hd : Nat.blt d N = true)
    (h : AL E N ops Q rest ⟨(d, .und) :: sl, H⟩) : AL E N ops Q (⟨some d, op, ty, pos, after, some (j, false)⟩ :: rest) ⟨sl, H⟩ := by
  subst hw
  exact al_gn hj hb rfl hd h
theorem al_gnt0 {op : Op} {ty : TypeId} {pos : String} {after : Array Edge} {j t : Nat} {b : Bool} (hj : (ops[j]?).bind (·.dst) = some t) (hb : lk sl t = some (.bool b)) (hw : b = false)
    (h : AL E N ops Q rest ⟨sl, H⟩) : AL E N ops Q (⟨none, op, ty, pos, after, some (j, true)⟩ :: rest) ⟨sl, H⟩ := by
  subst hw
  exact al_gn0 hj hb rfl h
theorem al_gnf0 {op : Op} {ty : TypeId} {pos : String} {after : Array Edge} {j t : Nat} {b : Bool} (hj : (ops[j]?).bind (·.dst) = some t) (hb : lk sl t = some (.bool b)) (hw : b = true)
    (h : AL E N ops Q rest ⟨sl, H⟩) : AL E N ops Q (⟨none, op, ty, pos, after, some (j, false)⟩ :: rest) ⟨sl, H⟩ := by
  subst hw
  exact al_gn0 hj hb rfl h
theorem ov_pick_t' {c x y : Operand} {v : AV} {b : Bool} (hc : ev sl c = some (.bool b)) (hb : b = true) (h : ev sl x = some v) : OV E sl H (.pick c x y) v := by subst hb; exact ov_pick_t hc h
theorem ov_pick_f' {c x y : Operand} {v : AV} {b : Bool} (hc : ev sl c = some (.bool b)) (hb : b = false) (h : ev sl y = some v) : OV E sl H (.pick c x y) v := by subst hb; exact ov_pick_f hc h
theorem ov_not_t {t : TypeId} {x : Operand} {b : Bool} (hx : ev sl x = some (.bool b)) (hb : b = true) : OV E sl H (.unOp .not t x) (.bool false) := by subst hb; exact ov_not hx rfl
theorem ov_not_f {t : TypeId} {x : Operand} {b : Bool} (hx : ev sl x = some (.bool b)) (hb : b = false) : OV E sl H (.unOp .not t x) (.bool true) := by subst hb; exact ov_not hx rfl
theorem ov_not_p {t : TypeId} {x : Operand} {p : Prop} [Decidable p] (hx : ev sl x = some (.bool (decide p))) : OV E sl H (.unOp .not t x) (.bool (decide (¬ p))) := ov_not hx (by simp)
theorem awp_cond_t' {c : Operand} {x y : Code} {σ : St} {b : Bool} (hc : ev σ.sl c = some (.bool b)) (hb : b = true) (h : AWp E N x Q σ) : AWp E N (.cond c x y) Q σ := by subst hb; exact awp_cond_t hc h
theorem awp_cond_f' {c : Operand} {x y : Code} {σ : St} {b : Bool} (hc : ev σ.sl c = some (.bool b)) (hb : b = false) (h : AWp E N y Q σ) : AWp E N (.cond c x y) Q σ := by subst hb; exact awp_cond_f hc h

theorem awp_cond_b {c : Operand} {x y : Code} {σ : St} {b : Bool} (hc : ev σ.sl c = some (.bool b)) (ht : b = true → AWp E N x Q σ) (hf : b = false → AWp E N y Q σ) : AWp E N (.cond c x y) Q σ := awp_cond b hc ht hf
theorem thn_n {y : Code} {σ : St} (h : AWp E N y Q σ) : Thn E N y Q .normal σ := h
theorem thn_ret {y : Code} {σ : St} (h : Q .ret σ) : Thn E N y Q .ret σ := h
theorem thn_exit {y : Code} {σ : St} {id : Nat} (h : Q (.exit id) σ) : Thn E N y Q (.exit id) σ := h
theorem thn_goto {y : Code} {σ : St} {id : Nat} (h : Q (.goto id) σ) : Thn E N y Q (.goto id) σ := h
theorem inb_n {id : Nat} {σ : St} (h : Q .normal σ) : InB id Q .normal σ := h
theorem inb_ret {id : Nat} {σ : St} (h : Q .ret σ) : InB id Q .ret σ := h
theorem inb_goto {id l : Nat} {σ : St} (h : Q (.goto l) σ) : InB id Q (.goto l) σ := h
theorem inb_here {id : Nat} {σ : St} (h : Q .normal σ) : InB id Q (.exit id) σ := by simp only [InB, beq_if, if_true]; exact h
theorem inb_out {id id' : Nat} {σ : St} (e : Nat.beq id' id = false) (h : Q (.exit id') σ) : InB id Q (.exit id') σ := by simp only [InB, e]; exact h

/-- An operation that is guarded by what is not known is preceded by a part of ways. -/
theorem al_pick_p {c x y : Operand} {ty : TypeId} {pos : String} {after : Array Edge} {d t : Nat} {p : Prop} [Decidable p] (hc : lk sl t = some (.bool (decide p)))
    (hy : p → AL E N ops Q (⟨some d, .pick (.tmp t) x y, ty, pos, after, none⟩ :: rest) ⟨(t, .bool true) :: sl, H⟩) (hn : ¬ p → AL E N ops Q (⟨some d, .pick (.tmp t) x y, ty, pos, after, none⟩ :: rest) ⟨(t, .bool false) :: sl, H⟩) :
    AL E N ops Q (⟨some d, .pick (.tmp t) x y, ty, pos, after, none⟩ :: rest) ⟨sl, H⟩ :=
  al_know (decide p) hc (fun h => hy (of_decide_eq_true h)) (fun h => hn (of_decide_eq_false h))
end
section
variable {E : Env} {N : Nat} {ops : Array Oper} {Q : Exit → St → Prop} {rest : List Oper} {σ : St}
/-! what kind of operation comes next: these change nothing -/
theorem k_g {op : Op} {ty : TypeId} {pos : String} {after : Array Edge} {d : Option Nat} {g : Nat × Bool} (h : AL E N ops Q (⟨d, op, ty, pos, after, some g⟩ :: rest) σ) : AL E N ops Q (⟨d, op, ty, pos, after, some g⟩ :: rest) σ := h
theorem k_bin {o : BinOp} {t t' : TypeId} {x y : Operand} {ty : TypeId} {pos : String} {after : Array Edge} {d : Option Nat} (h : AL E N ops Q (⟨d, .binOp o t x y t', ty, pos, after, none⟩ :: rest) σ) : AL E N ops Q (⟨d, .binOp o t x y t', ty, pos, after, none⟩ :: rest) σ := h
theorem k_call {c : Call} {ty : TypeId} {pos : String} {after : Array Edge} {d : Option Nat} (h : AL E N ops Q (⟨d, .call c, ty, pos, after, none⟩ :: rest) σ) : AL E N ops Q (⟨d, .call c, ty, pos, after, none⟩ :: rest) σ := h
theorem k_pick {x y z : Operand} {ty : TypeId} {pos : String} {after : Array Edge} {d : Option Nat} (h : AL E N ops Q (⟨d, .pick x y z, ty, pos, after, none⟩ :: rest) σ) : AL E N ops Q (⟨d, .pick x y z, ty, pos, after, none⟩ :: rest) σ := h
theorem k_load {x : Operand} {t ty : TypeId} {pos : String} {after : Array Edge} {d : Option Nat} (h : AL E N ops Q (⟨d, .load t x, ty, pos, after, none⟩ :: rest) σ) : AL E N ops Q (⟨d, .load t x, ty, pos, after, none⟩ :: rest) σ := h
theorem k_slice {x : Operand} {l h m : Option Operand} {t ty : TypeId} {pos : String} {after : Array Edge} {d : Option Nat} (k : AL E N ops Q (⟨d, .slice t x l h m, ty, pos, after, none⟩ :: rest) σ) : AL E N ops Q (⟨d, .slice t x l h m, ty, pos, after, none⟩ :: rest) σ := k
theorem k_ixa {x i : Operand} {t ty : TypeId} {pos : String} {after : Array Edge} {d : Option Nat} (k : AL E N ops Q (⟨d, .indexAddr t x i, ty, pos, after, none⟩ :: rest) σ) : AL E N ops Q (⟨d, .indexAddr t x i, ty, pos, after, none⟩ :: rest) σ := k
theorem k_al {l : List Oper} (h : AL E N ops Q l σ) : AL E N ops Q l σ := h
theorem k_awp {c : Code} (h : AWp E N c Q σ) : AWp E N c Q σ := h
theorem k_cond {c : Operand} {x y : Code} (h : AWp E N (.cond c x y) Q σ) : AWp E N (.cond c x y) Q σ := h
end
theorem retq_wkn {E : Env} {N : Nat} {fn : Func} {R : AV → List AO → Prop} {e : Exit} {σ σ' : St} (h : Wkn E N σ σ') (k : RetQ E N fn R e σ') : RetQ E N fn R e σ :=
  let ⟨he, σ2, rs, xs, h1, h2, h3, h4⟩ := k; ⟨he, σ2, rs, xs, h.trans h1, h2, h3, h4⟩
theorem ret0 {E : Env} {N : Nat} {fn : Func} {R : AV → List AO → Prop} {e : Exit} {σ : St} (he : e = .normal ∨ e = .ret) (h2 : fn.results = #[]) (hR : R (.tup []) σ.objs) : RetQ E N fn R e σ :=
  ⟨he, σ, [], [], .refl _, h2, .nil, hR⟩
theorem ret1 {E : Env} {N : Nat} {fn : Func} {R : AV → List AO → Prop} {e : Exit} {σ : St} {t : Nat} {x : AV} (he : e = .normal ∨ e = .ret) (h2 : fn.results = #[.tmp t]) (h : lk σ.sl t = some x) (hR : R x σ.objs) : RetQ E N fn R e σ :=
  ⟨he, σ, [.tmp t], [x], .refl _, h2, .tmp h .nil, hR⟩
theorem ret2 {E : Env} {N : Nat} {fn : Func} {R : AV → List AO → Prop} {e : Exit} {σ : St} {t u : Nat} {x y : AV} (he : e = .normal ∨ e = .ret) (h2 : fn.results = #[.tmp t, .tmp u]) (h : lk σ.sl t = some x) (k : lk σ.sl u = some y) (hR : R (.tup [x, y]) σ.objs) : RetQ E N fn R e σ :=
  ⟨he, σ, [.tmp t, .tmp u], [x, y], .refl _, h2, .tmp h (.tmp k .nil), hR⟩
theorem ret3 {E : Env} {N : Nat} {fn : Func} {R : AV → List AO → Prop} {e : Exit} {σ : St} {t u v : Nat} {x y z : AV} (he : e = .normal ∨ e = .ret) (h2 : fn.results = #[.tmp t, .tmp u, .tmp v]) (h : lk σ.sl t = some x) (k : lk σ.sl u = some y) (l : lk σ.sl v = some z) (hR : R (.tup [x, y, z]) σ.objs) : RetQ E N fn R e σ :=
  ⟨he, σ, [.tmp t, .tmp u, .tmp v], [x, y, z], .refl _, h2, .tmp h (.tmp k (.tmp l .nil)), hR⟩
theorem retQ_mk {E : Env} {N : Nat} {fn : Func} {R : AV → List AO → Prop} {e : Exit} {σ : St} (he : e = .normal ∨ e = .ret) (σ' : St) (rs : List ResultVar) (xs : List AV) (h1 : Wkn E N σ σ') (h2 : fn.results = rs.toArray) (h3 : ResV E.P σ'.sl σ'.objs rs xs) (h4 : R (packV xs) σ'.objs) : RetQ E N fn R e σ :=
  ⟨he, σ', rs, xs, h1, h2, h3, h4⟩

end Go.Proofs.Ytibmabidjacjlaa.L
