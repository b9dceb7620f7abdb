/- The logic, part 5: elements, lengths, pieces; values put together and taken apart. -/
import Derived.Test.YtibmabidjacjlaaLd
import Derived.Laws.OwnMore
import Derived.Deep.AppendLies
namespace Go.Proofs.Ytibmabidjacjlaa.L
open Go Go.RowKit
set_option linter.unusedVariables false
set_option linter.unusedSimpArgs false

section
variable {E : Env} {I : Imm} {ν : Nu} {w : World} {sl : Slots} {H : List AO}

theorem VR.rs_inv {xs : List (List AV)} {v : Value} (h : VR w I ν (.rs xs) v) : VP w I (.rs xs) v := by
  cases h with
  | pure h => exact h
theorem VP.rs_slice {xs : List (List AV)} {v : Value} (h : VP w I (.rs xs) v) : ∃ A c, v = .slice A xs.length c := by
  cases h with
  | rs0 A c => exact ⟨A, c, rfl⟩
  | rs _ sz b off c us => exact ⟨_, c, rfl⟩
theorem VR.nilsl_inv {v : Value} (h : VR w I ν .nilsl v) : v = .slice none 0 0 := by
  cases h with
  | pure h => cases h; rfl

theorem size_mk (s : List UInt8) : (ByteArray.mk s.toArray).size = s.length := rfl

theorem ov_indexAddr {t e : Nat} {n b n' b' : Nat} {z z' : Value} {d' : Bool} [ti : TI E.P t (.slice e) n b z] [te : TZ E.P e d' n' b' z'] {x i : Operand} {xs : List (List AV)} {k : IntKind} {m : Int} {row : List AV}
    (hx : ev sl x = some (.rs xs)) (hi : ev sl i = some (.int k m)) (h0 : 0 ≤ m) (hr : xs[m.toNat]? = some row) (hl : row.length = n') : OV E sl H (.indexAddr t x i) (.rp row) := by
  intro I ν a w hh hs
  have hi' := (ev_ok hs hi).int_inv
  have hx' := (ev_ok hs hx).rs_inv
  obtain ⟨v, hv⟩ : ∃ v, a.eval x = v := ⟨_, rfl⟩
  rw [hv] at hx'
  cases hx' with
  | rs0 A c => simp at hr
  | rs _ sz bk off c us hsz hc hm hs' hu hxx =>
    have hlt : m.toNat < xs.length := (List.getElem?_eq_some_iff.1 hr).1
    have hsz' : sz = n' := by rw [← hs' _ _ hr]; exact hl
    subst hsz'
    refine ⟨.pointer (some ⟨bk, off + m.toNat * sz, none⟩), .rp row bk _ (fun j => us (m.toNat * sz + j)) (fun j y hy => ?_), fun o w' ho hb => ?_⟩
    · have hj : j < sz := by rw [← hs' _ _ hr]; exact (List.getElem?_eq_some_iff.1 hy).1
      have hlt2 : m.toNat * sz + j < xs.length * sz := by
        have h1 : (m.toNat + 1) * sz ≤ xs.length * sz := Nat.mul_le_mul_right _ hlt
        rw [Nat.add_mul, Nat.one_mul] at h1
        omega
      have := hu _ hlt2
      rw [Nat.add_assoc]
      exact ⟨this.1, this.2, hxx _ _ _ _ hr hy⟩
    · have h1 : m < (xs.length : Int) := by omega
      simp [execOp, ho, hv, hi', Instr.indexAt, asIntOf, ti.und, h0, h1, te.size, add_none]

theorem ov_indexAddr_os {t e : Nat} {n b n' b' : Nat} {z z' : Value} {d' : Bool} [ti : TI E.P t (.slice e) n b z] [te : TZ E.P e d' n' b' z'] {x i : Operand} {id ver ver' fz sz e' : Nat} {xs : List (List AV)} {k : IntKind} {m : Int}
    (hx : ev sl x = some (.os id ver)) (hi : ev sl i = some (.int k m)) (hH : H[id]? = some (.row e' sz ver' fz xs)) (hver : ver = ver') (hsz : sz = n') (h0 : 0 ≤ m) (h1 : m < (xs.length : Int)) : OV E sl H (.indexAddr t x i) (.er id ver sz m.toNat 0) := by
  intro I ν a w hh hs
  have hi' := (ev_ok hs hi).int_inv
  have hx' := ev_ok hs hx
  subst hver; subst hsz
  obtain ⟨v, hv⟩ : ∃ v, a.eval x = v := ⟨_, rfl⟩
  rw [hv] at hx'
  cases hh.obj id _ hH with
  | row _ _ _ _ _ inner ht hp ho hr hf hI =>
    cases hx' with
    | pure hx' => cases hx'
    | os _ _ A0 n0 c0 hid hver hs0 =>
      obtain ⟨g, c, hval, _, _⟩ := ho.form (by omega)
      rw [← hs0] at hv
      refine ⟨.pointer (some ⟨g, m.toNat * sz + 0, none⟩), .er id ver sz m.toNat 0 g xs.length c hid hver hval, fun o w' ho hb => ?_⟩
      rw [hval] at hv
      simp [execOp, ho, hv, hi', Instr.indexAt, asIntOf, ti.und, h0, h1, te.size, add_none]

/-- A byte of a text. -/
def byteAt (s : List UInt8) (m : Int) : Int := ((s.getD m.toNat 0).toNat : Int)
theorem ov_index {t : Nat} {n b : Nat} {z : Value} [ti : TI E.P t .string n b z] {x i : Operand} {s : List UInt8} {k : IntKind} {m : Int}
    (hx : ev sl x = some (.str s)) (hi : ev sl i = some (.int k m)) (h0 : 0 ≤ m) (h1 : m < (s.length : Int)) : OV E sl H (.index t x i) (.int .u8 (byteAt s m)) := by
  intro I ν a w hh hs
  have hi' := (ev_ok hs hi).int_inv
  have hx' := (ev_ok hs hx).str_inv
  have hlt : m.toNat < s.length := by omega
  refine ⟨_, .pure (.int .u8 _), fun o w' ho hb => ?_⟩
  have e : (ByteArray.mk s.toArray)[m.toNat]? = some s[m.toNat] := getElem?_pos (ByteArray.mk s.toArray) m.toNat hlt
  simp [execOp, ho, hx', hi', Instr.index, asIntOf, ti.und, h0, e, byteAt, List.getD_eq_getElem?_getD, hlt]

theorem extract_mk (s : List UInt8) (l h : Nat) : (ByteArray.mk s.toArray).extract l h = ByteArray.mk ((s.take h).drop l).toArray := by
  apply ByteArray.ext
  simp [ByteArray.data_extract, List.extract_toArray, List.extract_eq_take_drop]
  rw [List.drop_take]

/-- A piece of a text; an end that isn't given is 0, or the text's. -/
theorem ov_slice {t : Nat} {n b : Nat} {z : Value} [ti : TI E.P t .string n b z] {x lo hi : Operand} {s : List UInt8} {k k' : IntKind} {l h : Int}
    (hx : ev sl x = some (.str s)) (hlo : ev sl lo = some (.int k l)) (hhi : ev sl hi = some (.int k' h)) (h0 : 0 ≤ l) (h1 : l ≤ h) (h2 : h ≤ (s.length : Int)) : OV E sl H (.slice t x (some lo) (some hi) none) (.str ((s.take h.toNat).drop l.toNat)) := by
  intro I ν a w hh hs
  have e1 := (ev_ok hs hx).str_inv
  have e2 := (ev_ok hs hlo).int_inv
  have e3 := (ev_ok hs hhi).int_inv
  refine ⟨_, .pure (.str _), fun o w' ho hb => ?_⟩
  have h3 : 0 ≤ h := by omega
  have h4 : l ≤ max h 0 := by omega
  simp [execOp, ho, e1, e2, e3, Instr.sliceAt, Instr.slice, Instr.sliceBounds, Instr.sliceBound, asIntOf, ti.und, size_mk, h0, h2, h3, h4, extract_mk]
theorem ov_slice_lo {t : Nat} {n b : Nat} {z : Value} [ti : TI E.P t .string n b z] {x lo : Operand} {s : List UInt8} {k : IntKind} {l : Int}
    (hx : ev sl x = some (.str s)) (hlo : ev sl lo = some (.int k l)) (h0 : 0 ≤ l) (h2 : l ≤ (s.length : Int)) : OV E sl H (.slice t x (some lo) none none) (.str (s.drop l.toNat)) := by
  intro I ν a w hh hs
  have e1 := (ev_ok hs hx).str_inv
  have e2 := (ev_ok hs hlo).int_inv
  refine ⟨_, .pure (.str _), fun o w' ho hb => ?_⟩
  have e3 := extract_mk s l.toNat s.length
  rw [List.take_length] at e3
  simp [execOp, ho, e1, e2, Instr.sliceAt, Instr.slice, Instr.sliceBounds, Instr.sliceBound, asIntOf, ti.und, size_mk, h0, h2, e3]
theorem ov_slice_hi {t : Nat} {n b : Nat} {z : Value} [ti : TI E.P t .string n b z] {x hi : Operand} {s : List UInt8} {k : IntKind} {h : Int}
    (hx : ev sl x = some (.str s)) (hhi : ev sl hi = some (.int k h)) (h0 : 0 ≤ h) (h2 : h ≤ (s.length : Int)) : OV E sl H (.slice t x none (some hi) none) (.str (s.take h.toNat)) := by
  intro I ν a w hh hs
  have e1 := (ev_ok hs hx).str_inv
  have e2 := (ev_ok hs hhi).int_inv
  refine ⟨_, .pure (.str _), fun o w' ho hb => ?_⟩
  simp [execOp, ho, e1, e2, Instr.sliceAt, Instr.slice, Instr.sliceBounds, Instr.sliceBound, asIntOf, ti.und, size_mk, h0, h2, extract_mk]

/-! ### lengths -/
theorem ov_len_str {t : Nat} {n b : Nat} {z : Value} [ti : TI E.P t .string n b z] {x : Operand} {s : List UInt8} (hx : ev sl x = some (.str s)) :
    OV E sl H (.call { callee := .builtin .len, args := #[x], argTypes := #[t] }) (.int .i64 (s.length : Int)) := by
  intro I ν a w hh hs
  have e1 := (ev_ok hs hx).str_inv
  refine ⟨_, .pure (.int .i64 _), fun o w' ho hb => ?_⟩
  simp [execOp, ho, e1, resolve, invoke, builtin, Builtin.len_, ti.und, size_mk, goInt]
theorem ov_len_rs {t e : Nat} {n b : Nat} {z : Value} [ti : TI E.P t (.slice e) n b z] {x : Operand} {xs : List (List AV)} (hx : ev sl x = some (.rs xs)) :
    OV E sl H (.call { callee := .builtin .len, args := #[x], argTypes := #[t] }) (.int .i64 (xs.length : Int)) := by
  intro I ν a w hh hs
  obtain ⟨A, c, e1⟩ := (ev_ok hs hx).rs_inv.rs_slice
  refine ⟨_, .pure (.int .i64 _), fun o w' ho hb => ?_⟩
  simp [execOp, ho, e1, resolve, invoke, builtin, Builtin.len_, ti.und, goInt]
theorem ov_len_nil {t e : Nat} {n b : Nat} {z : Value} [ti : TI E.P t (.slice e) n b z] {x : Operand} (hx : ev sl x = some .nilsl) :
    OV E sl H (.call { callee := .builtin .len, args := #[x], argTypes := #[t] }) (.int .i64 0) := by
  intro I ν a w hh hs
  have e1 := (ev_ok hs hx).nilsl_inv
  refine ⟨_, .pure (.int .i64 _), fun o w' ho hb => ?_⟩
  simp [execOp, ho, e1, resolve, invoke, builtin, Builtin.len_, ti.und, goInt]
theorem ov_len_os {t e : Nat} {n b : Nat} {z : Value} [ti : TI E.P t (.slice e) n b z] {x : Operand} {id ver ver' fz sz e' : Nat} {xs : List (List AV)} (hx : ev sl x = some (.os id ver)) (hH : H[id]? = some (.row e' sz ver' fz xs)) (hver : ver = ver') :
    OV E sl H (.call { callee := .builtin .len, args := #[x], argTypes := #[t] }) (.int .i64 (xs.length : Int)) := by
  intro I ν a w hh hs
  subst hver
  have hx' := ev_ok hs hx
  obtain ⟨v, hv⟩ : ∃ v, a.eval x = v := ⟨_, rfl⟩
  rw [hv] at hx'
  cases hh.obj id _ hH with
  | row _ _ _ _ _ inner ht hp ho hr hf hI =>
    cases hx' with
    | pure hx' => cases hx'
    | os _ _ A0 n0 c0 hid hver hs0 =>
      rw [← hs0] at hv
      have : ∃ A c, ν.val id ver = .slice A xs.length c := by
        rcases ho.2 with ⟨h1, h2⟩ | ⟨g, cap, cur, h1, _⟩
        · exact ⟨none, 0, by rw [h1, h2]⟩
        · exact ⟨_, cap, h1⟩
      obtain ⟨A, c, e1⟩ := this
      rw [e1] at hv
      refine ⟨_, .pure (.int .i64 _), fun o w' ho hb => ?_⟩
      simp [execOp, ho, hv, resolve, invoke, builtin, Builtin.len_, ti.und, goInt]

/-! ### tuples, structs, functions, kinds of numbers -/
theorem ov_extract {x : Operand} {vs : List AV} {i : Nat} {y : AV} (hx : ev sl x = some (.tup vs)) (hy : vs[i]? = some y) : OV E sl H (.extract x i) y := by
  intro I ν a w hh hs
  have hx' := ev_ok hs hx
  obtain ⟨v, hv⟩ : ∃ v, a.eval x = v := ⟨_, rfl⟩
  rw [hv] at hx'
  cases hx' with
  | pure h => cases h
  | tup _ us hl h =>
    have hi : i < us.length := by rw [← hl]; exact (List.getElem?_eq_some_iff.1 hy).1
    refine ⟨us[i], h i y _ hy (List.getElem?_eq_getElem hi), fun o w' ho hb => ?_⟩
    simp [execOp, ho, hv, Instr.extract, hi]

theorem ov_field {s f off n : Nat} [fo : FO E.P s f off n] {ft : Nat} {n' b : Nat} {z : Value} {x : Operand} {cs : List AV} {y : AV} (hx : ev sl x = some (.agg cs)) (hy : cs[off]? = some y)
    (hft : ∃ fs fld, E.P.underlying s = some (.struct fs) ∧ fs[f]? = some fld ∧ fld.type = ft) [ti : TZ E.P ft false n' b z] : OV E sl H (.field s x f) y := by
  intro I ν a w hh hs
  have hx' := ev_ok hs hx
  obtain ⟨v, hv⟩ : ∃ v, a.eval x = v := ⟨_, rfl⟩
  rw [hv] at hx'
  cases hx' with
  | pure h => cases h
  | agg _ us hl h =>
    have hi : off < us.length := by rw [← hl]; exact (List.getElem?_eq_some_iff.1 hy).1
    refine ⟨us[off], h off y _ hy (List.getElem?_eq_getElem hi), fun o w' ho hb => ?_⟩
    obtain ⟨fs, fld, hu, hf, ho', hn, h0⟩ := fo.out
    obtain ⟨fs', fld', hu', hf', hft'⟩ := hft
    rw [hu] at hu'
    injection hu' with hu'
    injection hu' with hu'
    subst hu'
    rw [hf] at hf'
    injection hf' with hf'
    subst hf'
    have e1 : (underlying s).run E.P w' = .ok (.struct fs) w' := by simp [underlying, program, Sem.run, bind, Sem.bind, hu, pure]
    have e2 := ti.isAgg (w := w')
    rw [← hft'] at e2
    simp [execOp, ho, hv, Instr.field, e1, hf, asAgg, part, e2, ho', hi]

def evs (sl : Slots) : List Operand → Option (List AV)
  | [] => some []
  | o :: r => match ev sl o with
    | none => none
    | some x => match evs sl r with
      | none => none
      | some xs => some (x :: xs)
theorem evs_ok {a : Act} (hs : SlR w I ν sl a) : ∀ (l : List Operand) {xs : List AV}, evs sl l = some xs → xs.length = l.length ∧ ∀ (j : Nat) x v, xs[j]? = some x → (l.map a.eval)[j]? = some v → VR w I ν x v := by
  intro l
  induction l with
  | nil => intro xs h; simp only [evs, Option.some.injEq] at h; subst h; simp
  | cons o r ih =>
    intro xs h
    simp only [evs] at h
    split at h
    · contradiction
    · rename_i x hx
      split at h
      · contradiction
      · rename_i ys hy
        injection h with h
        subst h
        obtain ⟨h1, h2⟩ := ih hy
        refine ⟨by simp [h1], fun j x' v' hj hv => ?_⟩
        cases j with
        | zero =>
          simp only [List.getElem?_cons_zero, Option.some.injEq, List.map_cons] at hj hv
          subst hj; subst hv
          exact ev_ok hs hx
        | succ j => exact h2 j x' v' (by simpa using hj) (by simpa using hv)
theorem ov_makeFunc {f : Nat} {l : List Operand} {caps : List AV} (hc : evs sl l = some caps) : OV E sl H (.makeFunc (.func f) #[] l.toArray) (.fn f caps) := by
  intro I ν a w hh hs
  obtain ⟨h1, h2⟩ := evs_ok hs l hc
  exact ⟨_, .fn f caps (l.map a.eval) (by simp [h1]) h2, fun o w' ho hb => by simp [execOp, ho, Instr.makeFunc]⟩

theorem ov_conv_int {src dst : Nat} {k k' : IntKind} {k0 : TypeDesc} {n b n' b' : Nat} {z z' : Value} [ts : TI E.P src k0 n' b' z'] [ti : TI E.P dst (.int k) n b z] {x : Operand} {m c : Int} (hx : ev sl x = some (.int k' m)) (hc : k.wrap m = c) : OV E sl H (.convert src dst x) (.int k c) := by
  intro I ν a w hh hs
  have e1 := (ev_ok hs hx).int_inv
  subst hc
  refine ⟨_, .pure (.int k _), fun o w' ho hb => ?_⟩
  simp [execOp, ho, e1, convert, ts.und, ti.und, Conv.intToInt]

/-! ### structs put together -/
/-- Where a struct's fields lie and how many cells they have. -/
class FS (P : Program) (t : Nat) (pl : outParam (List (Nat × Nat))) : Prop where
  out : ∃ fs : Array Field, P.underlying t = some (.struct fs) ∧ pl.length = fs.size ∧ ∀ (i : Nat) f, fs[i]? = some f → ∃ n, pl[i]? = some (f.offset, n) ∧ (P.info? f.type).map (·.size) = some n
def AV.cells : AV → List AV
  | .agg cs => cs
  | x => [x]
def setAt (cs : List AV) (off : Nat) : List AV → List AV
  | [] => cs
  | x :: r => setAt (cs.set off x) (off + 1) r
end
end Go.Proofs.Ytibmabidjacjlaa.L
