/- The logic, part 4: reading memory; strings and slices taken apart; structs built. -/
import Derived.Test.YtibmabidjacjlaaLc
namespace Go.Proofs.Ytibmabidjacjlaa.L
open Go Go.RowKit
set_option linter.unusedVariables false
set_option linter.unusedSimpArgs false

/-- What a type is: its description, cells, bytes, zero value. Instances are laid for each translation. -/
class TI (P : Program) (t : Nat) (d : outParam TypeDesc) (n : outParam Nat) (b : outParam Nat) (z : outParam Value) : Prop where
  u : P.underlying t = some d
  i : (P.info? t).map (fun i => (i.zero, i.size, i.bytes)) = some (some z, n, b)
/-- Is a type's value an aggregate; its cells, bytes, zero value. -/
class TZ (P : Program) (t : Nat) (agg : outParam Bool) (n : outParam Nat) (b : outParam Nat) (z : outParam Value) : Prop where
  i : (P.info? t).map (fun i => (i.zero, i.size, i.bytes)) = some (some z, n, b)
  a : ∀ w, (isAgg t).run P w = .ok agg w
/-- Where a struct's field lies, how many cells it has. -/
class FO (P : Program) (s f : Nat) (off : outParam Nat) (n : outParam Nat) : Prop where
  out : ∃ fs fld, P.underlying s = some (.struct fs) ∧ fs[f]? = some fld ∧ fld.offset = off ∧ (P.info? fld.type).map (·.size) = some n ∧ n ≠ 0

def aggD : TypeDesc → Bool
  | .struct _ => true
  | .array _ _ => true
  | _ => false

theorem add_none (b off j : Nat) : (⟨b, off, none⟩ : Addr).add j = ⟨b, off + j, none⟩ := by unfold Addr.add; split <;> simp_all

section
variable {P : Program} {w : World}
theorem run_typeInfo' {t : Nat} {i : TypeInfo} (h : P.info? t = some i) : (typeInfo t).run P w = .ok i w := by simp [typeInfo, program, Sem.run, bind, Sem.bind, h, pure]
theorem TI.size {t : Nat} {d : TypeDesc} {n b : Nat} {z : Value} (h : TI P t d n b z) : (sizeOf t).run P w = .ok n w := by
  obtain ⟨i, hi, hz⟩ := Option.map_eq_some_iff.1 h.i
  simp only [Prod.mk.injEq] at hz
  simp [sizeOf, run_typeInfo' hi, hz.2.1]
theorem TI.bytes {t : Nat} {d : TypeDesc} {n b : Nat} {z : Value} (h : TI P t d n b z) : ∃ i, P.info? t = some i ∧ i.zero = some z ∧ i.size = n ∧ i.bytes = b := by
  obtain ⟨i, hi, hz⟩ := Option.map_eq_some_iff.1 h.i
  simp only [Prod.mk.injEq] at hz
  exact ⟨i, hi, hz.1, hz.2.1, hz.2.2⟩
theorem TI.zero {t : Nat} {d : TypeDesc} {n b : Nat} {z : Value} (h : TI P t d n b z) : (zeroValue t).run P w = .ok z w := by
  obtain ⟨i, hi, hz, _⟩ := h.bytes
  simp [zeroValue, run_typeInfo' hi, hz]
theorem TI.und {t : Nat} {d : TypeDesc} {n b : Nat} {z : Value} (h : TI P t d n b z) : (underlying t).run P w = .ok d w := by
  simp [underlying, program, Sem.run, bind, Sem.bind, h.u, pure]
theorem TI.isAgg {t : Nat} {d : TypeDesc} {n b : Nat} {z : Value} (h : TI P t d n b z) : (isAgg t).run P w = .ok (aggD d) w := by
  unfold Go.isAgg
  simp only [Sem.run_bind, h.und, Result.andThen_ok]
  cases d <;> simp [aggD]
theorem iz_size {t n b : Nat} {z : Value} (h : (P.info? t).map (fun i => (i.zero, i.size, i.bytes)) = some (some z, n, b)) : (P.info? t).map (·.size) = some n := by
  obtain ⟨i, hi, hz⟩ := Option.map_eq_some_iff.1 h
  simp only [Prod.mk.injEq] at hz
  simp [hi, hz.2.1]
theorem tz_agg {t : Nat} {d : TypeDesc} {a : Bool} (h : P.underlying t = some d) (ha : aggD d = a) : ∀ w, (isAgg t).run P w = .ok a w := by
  intro w
  subst ha
  unfold Go.isAgg
  have e : (underlying t).run P w = .ok d w := by simp [underlying, program, Sem.run, bind, Sem.bind, h, pure]
  simp only [Sem.run_bind, e, Result.andThen_ok]
  cases d <;> simp [aggD]
theorem TZ.size {t : Nat} {a : Bool} {n b : Nat} {z : Value} (h : TZ P t a n b z) : (sizeOf t).run P w = .ok n w := by
  obtain ⟨i, hi, hz⟩ := Option.map_eq_some_iff.1 h.i
  simp only [Prod.mk.injEq] at hz
  simp [sizeOf, run_typeInfo' hi, hz.2.1]
theorem TZ.bytes {t : Nat} {a : Bool} {n b : Nat} {z : Value} (h : TZ P t a n b z) : ∃ i, P.info? t = some i ∧ i.zero = some z ∧ i.size = n ∧ i.bytes = b := by
  obtain ⟨i, hi, hz⟩ := Option.map_eq_some_iff.1 h.i
  simp only [Prod.mk.injEq] at hz
  exact ⟨i, hi, hz.1, hz.2.1, hz.2.2⟩
theorem TZ.zero {t : Nat} {a : Bool} {n b : Nat} {z : Value} (h : TZ P t a n b z) : (zeroValue t).run P w = .ok z w := by
  obtain ⟨i, hi, hz, _⟩ := h.bytes
  simp [zeroValue, run_typeInfo' hi, hz]
theorem TZ.isAgg {t : Nat} {a : Bool} {n b : Nat} {z : Value} (h : TZ P t a n b z) : (isAgg t).run P w = .ok a w := h.a w
theorem run_load1 {a : Addr} {v : Value} (h : w.cell? a = some v) : (load a).run P w = .ok v w := by simp [load, Sem.run, h]
theorem run_loadFrom (b off : Nat) (us : List Value) : ∀ (n i : Nat) (acc : Array Value), n + i = us.length → (∀ j u, us[j]? = some u → w.cell? ⟨b, off + j, none⟩ = some u) →
    (loadCellsFrom ⟨b, off, none⟩ i n acc).run P w = .ok (acc ++ (us.drop i).toArray) w := by
  intro n
  induction n with
  | zero => intro i acc hn _; simp [loadCellsFrom, List.drop_eq_nil_of_le (show us.length ≤ i by omega)]
  | succ n ih =>
    intro i acc hn h
    have hi : i < us.length := by omega
    have h1 := h i us[i] (List.getElem?_eq_getElem hi)
    simp only [loadCellsFrom, add_none, Sem.run_bind, run_load1 h1, Result.andThen_ok]
    rw [ih (i + 1) _ (by omega) h, List.drop_eq_getElem_cons hi]
    congr 1
    apply Array.ext'
    simp
theorem run_loadN (b off : Nat) (us : List Value) (h : ∀ (j : Nat) u, us[j]? = some u → w.cell? ⟨b, off + j, none⟩ = some u) : (loadCells ⟨b, off, none⟩ us.length).run P w = .ok us.toArray w := by
  unfold loadCells
  rw [run_loadFrom b off us us.length 0 #[] (by omega) h]
  simp
end

/-- The cells from where a pointer points on. -/
def cellsAt (H : List AO) : AV → Option (List AV)
  | .op id off => match H[id]? with
    | some (.box cells) => some (cells.drop off)
    | _ => none
  | .rp cs => some cs
  | .er id ver sz i off => match H[id]? with
    | some (.row e sz' ver' fz xs) => match Nat.beq ver ver', Nat.beq sz sz' with
      | true, true => match xs[i]? with
        | some c => some (c.drop off)
        | none => none
      | _, _ => none
    | _ => none
  | _ => none

section
variable {E : Env} {I : Imm} {ν : Nu} {w : World} {sl : Slots} {H : List AO}
theorem cellsAt_ok (hh : HR E I ν H w) {p : AV} {v : Value} (hp : VR w I ν p v) {xs : List AV} (h : cellsAt H p = some xs) :
    ∃ b off, v = .pointer (some ⟨b, off, none⟩) ∧ ∀ (j : Nat) x, xs[j]? = some x → ∃ u, (w.cell? ⟨b, off + j, none⟩ = some u ∧ VR w I ν x u) ∧ ∀ w', Still ν H I w w' → w'.cell? ⟨b, off + j, none⟩ = some u := by
  cases p with
  | op id off =>
    simp only [cellsAt] at h
    cases hp with
    | pure hp => cases hp
    | op _ _ b hi hv =>
      split at h
      · rename_i cells hc
        injection h with h
        subst h
        refine ⟨b, off, rfl, fun j x hx => ?_⟩
        have hob := hh.obj id _ hc
        cases hob with
        | box _ b' vs ty hv' hb hheap hl hxx hI =>
          rw [hv] at hv'
          injection hv' with e; injection e with e; injection e with e
          subst e
          rw [List.getElem?_drop] at hx
          have hlt : off + j < cells.length := (List.getElem?_eq_some_iff.1 hx).1
          have hv2 : vs[off + j]? = some (vs[off + j]'(by omega)) := List.getElem?_eq_getElem _
          refine ⟨vs[off + j]'(by omega), ⟨?_, hxx _ _ _ hx hv2⟩, fun w' hw => ?_⟩
          · simp [World.cell?, hheap, hv2]
          · have := (hw.obj id _ b hc (by simp only [OB, hv])).trans hheap
            simp [World.cell?, this, hv2]
      · contradiction
  | rp cs =>
    simp only [cellsAt, Option.some.injEq] at h
    subst h
    cases hp with
    | pure hp => cases hp
    | rp _ b off us hu => exact ⟨b, off, rfl, fun j x hx => ⟨us j, ⟨(hu j x hx).1, .pure (hu j x hx).2.2⟩, fun w' hw => (hw.imm _ _ (hu j x hx).2.1).trans (hu j x hx).1⟩⟩
  | er id ver sz i off =>
    simp only [cellsAt] at h
    cases hp with
    | pure hp => cases hp
    | er _ _ _ _ _ g n c hi hver hv =>
      split at h
      · rename_i e sz' ver' fz xs' hc
        split at h
        · rename_i hb1 hb2
          have e1 := Nat.eq_of_beq_eq_true hb1
          have e2 := Nat.eq_of_beq_eq_true hb2
          subst e1; subst e2
          split at h
          · rename_i c' hc'
            injection h with h
            subst h
            refine ⟨g, i * sz + off, rfl, fun j x hx => ?_⟩
            cases hh.obj id _ hc with
            | row _ _ _ _ _ inner ht h0 ho hr hf hI =>
              rw [List.getElem?_drop] at hx
              obtain ⟨hcl, hcx⟩ := hr.2 i c' hc'
              obtain ⟨u, hu, hvr⟩ := hcx (off + j) x hx
              have h1 : w.cell? ⟨g, i * sz + off + j, none⟩ = some u := by
                have := ho.cells (g := g) (by rw [hv]; rfl) (i * sz + (off + j)) u hu
                rw [add_none] at this
                rw [show i * sz + off + j = 0 + (i * sz + (off + j)) by omega]
                exact this
              refine ⟨u, ⟨h1, .pure hvr⟩, fun w' hw => ?_⟩
              have h2 := hw.obj id _ g hc (by simp only [OB, hv, Value.ownBlock])
              rw [← h1]
              exact World.cell?_of_block (a := ⟨g, i * sz + off + j, none⟩) h2
          · contradiction
        · contradiction
      · contradiction
  | _ => simp [cellsAt] at h

theorem ov_load {t : Nat} {n b : Nat} {z : Value} [ti : TZ E.P t false n b z] {p : Operand} {pv x : AV} {r : List AV} (hp : ev sl p = some pv) (hc : cellsAt H pv = some (x :: r)) : OV E sl H (.load t p) x := by
  intro I ν a w hh hs
  obtain ⟨bk, off, hv, hx⟩ := cellsAt_ok hh (ev_ok hs hp) hc
  obtain ⟨u, ⟨hu, hvr⟩, hst⟩ := hx 0 x rfl
  refine ⟨u, hvr, fun o w' ho hb => ?_⟩
  have := hst w' hb
  simp only [Nat.add_zero] at this
  simp [execOp, ho, hv, Instr.loadAt, Instr.sureAddr, loadVar, ti.isAgg, this]

theorem ov_load_agg {t : Nat} {n b : Nat} {z : Value} [ti : TZ E.P t true n b z] {p : Operand} {pv : AV} {xs : List AV} (hp : ev sl p = some pv) (hc : cellsAt H pv = some xs) (hn : Nat.ble n xs.length = true) : OV E sl H (.load t p) (.agg (xs.take n)) := by
  intro I ν a w hh hs
  obtain ⟨bk, off, hv, hx⟩ := cellsAt_ok hh (ev_ok hs hp) hc
  have hn' : n ≤ xs.length := Nat.le_of_ble_eq_true hn
  have hch : ∃ us : List Value, us.length = n ∧ ∀ (j : Nat) x u, (xs.take n)[j]? = some x → us[j]? = some u → (w.cell? ⟨bk, off + j, none⟩ = some u ∧ VR w I ν x u) ∧ ∀ w', Still ν H I w w' → w'.cell? ⟨bk, off + j, none⟩ = some u := by
    clear hn hc hp hv ti
    induction n with
    | zero => exact ⟨[], rfl, fun j x u h => by simp at h⟩
    | succ n ih =>
      obtain ⟨us, h1, h2⟩ := ih (by omega)
      obtain ⟨u, ⟨hu, hvr⟩, hst⟩ := hx n xs[n] (List.getElem?_eq_getElem (by omega))
      refine ⟨us ++ [u], by simp [h1], fun j x u' hj hu' => ?_⟩
      by_cases hjn : j < n
      · rw [List.getElem?_append_left (by omega)] at hu'
        rw [List.getElem?_take_of_lt (by omega)] at hj
        exact h2 j x u' (by rw [List.getElem?_take_of_lt hjn]; exact hj) hu'
      · have hj2 : j = n := by
          have := (List.getElem?_eq_some_iff.1 hu').1
          simp [h1] at this
          omega
        subst hj2
        rw [List.getElem?_append_right (by omega), h1] at hu'
        simp at hu'
        subst hu'
        rw [List.getElem?_take_of_lt (by omega), List.getElem?_eq_getElem (by omega)] at hj
        injection hj with hj
        subst hj
        exact ⟨⟨hu, hvr⟩, hst⟩
  obtain ⟨us, h1, h2⟩ := hch
  have htl : (xs.take n).length = n := by simp; omega
  refine ⟨.agg us.toArray, .agg _ us (by omega) (fun j x v hj hv => (h2 j x v hj hv).1.2), fun o w' ho hb => ?_⟩
  have hl := run_loadN (P := E.P) (w := w') bk off us (fun j u hu => (by
    have hjn : j < n := by have := (List.getElem?_eq_some_iff.1 hu).1; omega
    exact (h2 j _ u (List.getElem?_eq_getElem (by omega)) hu).2 w' hb))
  rw [h1] at hl
  simp [execOp, ho, hv, Instr.loadAt, Instr.sureAddr, loadVar, ti.isAgg, ti.size, hl]

/-- A pointer to a part. -/
def addOff : AV → Nat → Option AV
  | .op id off, n => some (.op id (off + n))
  | .rp cs, n => some (.rp (cs.drop n))
  | .er id ver sz i off, n => some (.er id ver sz i (off + n))
  | _, _ => none
theorem addOff_ok {p q : AV} {n : Nat} {v : Value} (h : addOff p n = some q) (hp : VR w I ν p v) : ∃ b off, v = .pointer (some ⟨b, off, none⟩) ∧ VR w I ν q (.pointer (some ⟨b, off + n, none⟩)) := by
  cases p with
  | op id off =>
    simp only [addOff, Option.some.injEq] at h
    subst h
    cases hp with
    | pure hp => cases hp
    | op _ _ b hi hv => exact ⟨b, off, rfl, .op id _ b hi hv⟩
  | rp cs =>
    simp only [addOff, Option.some.injEq] at h
    subst h
    cases hp with
    | pure hp => cases hp
    | rp _ b off us hu => exact ⟨b, off, rfl, .rp _ b (off + n) (fun j => us (n + j)) (fun j x hx => by
        rw [List.getElem?_drop] at hx
        have := hu _ x hx
        rwa [show off + (n + j) = off + n + j by omega] at this)⟩
  | er id ver sz i off =>
    simp only [addOff, Option.some.injEq] at h
    subst h
    cases hp with
    | pure hp => cases hp
    | er _ _ _ _ _ g m c hi hver hv => exact ⟨g, i * sz + off, rfl, by rw [show i * sz + off + n = i * sz + (off + n) by omega]; exact .er id ver sz i (off + n) g m c hi hver hv⟩
  | _ => simp [addOff] at h

theorem ov_fieldAddr {s f off n : Nat} [fo : FO E.P s f off n] {p : Operand} {pv q : AV} (hp : ev sl p = some pv) (hq : addOff pv off = some q) : OV E sl H (.fieldAddr s p f) q := by
  intro I ν a w hh hs
  obtain ⟨b, o, hv, hr⟩ := addOff_ok hq (ev_ok hs hp)
  refine ⟨_, hr, fun oo w' ho hb => ?_⟩
  obtain ⟨fs, fld, hu, hf, ho', hn, h0⟩ := fo.out
  obtain ⟨i, hi, hz⟩ := Option.map_eq_some_iff.1 hn
  have e1 : (underlying s).run E.P w' = .ok (.struct fs) w' := by simp [underlying, program, Sem.run, bind, Sem.bind, hu, pure]
  have e2 : (sizeOf fld.type).run E.P w' = .ok n w' := by simp [sizeOf, run_typeInfo' hi, hz]
  simp [execOp, ho, hv, Instr.fieldAt, Instr.sureAddr, e1, hf, fieldPlace, e2, h0, ho', add_none]

theorem ov_nilCheck {p : Operand} {pv : AV} {n : Nat} {q : AV} (hp : ev sl p = some pv) (hq : addOff pv n = some q) : OV E sl H (.nilCheck p) pv := by
  intro I ν a w hh hs
  obtain ⟨b, o, hv, hr⟩ := addOff_ok hq (ev_ok hs hp)
  exact ⟨_, ev_ok hs hp, fun oo w' ho hb => by simp [execOp, ho, hv]⟩
theorem ov_nilCheck_fn {p : Operand} {f : Nat} {caps : List AV} (hp : ev sl p = some (.fn f caps)) : OV E sl H (.nilCheck p) (.fn f caps) := by
  intro I ν a w hh hs
  have h := ev_ok hs hp
  refine ⟨_, h, fun oo w' ho hb => ?_⟩
  obtain ⟨v, hv⟩ : ∃ v, a.eval p = v := ⟨_, rfl⟩
  rw [hv] at h
  cases h with
  | pure h => cases h; simp [execOp, ho, hv]
  | fn _ _ vs hl hx => simp [execOp, ho, hv]
end
end Go.Proofs.Ytibmabidjacjlaa.L
