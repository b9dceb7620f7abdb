/- The logic, part 17: maps of the call's own. -/
import Derived.Test.YtibmabidjacjlaaLp
import Derived.MapKept
import Derived.WideKeyRuns
import Derived.ChangeKeysEq
import Derived.Maps.RangeRun
import Derived.Laws.IdiomRangeMap
namespace Go.Proofs.Ytibmabidjacjlaa.L
open Go Go.RowKit
set_option linter.unusedVariables false
set_option linter.unusedSimpArgs false

/-- A kind of key. -/
inductive KD where
  | one (k : SK)
  | agg (ks : List SK)
class KK (P : Program) (t : Nat) (kd : outParam KD) : Prop where
  out : match kd with
    | .one (.int k) => P.underlying t = some (.int k)
    | .one .bool => P.underlying t = some .bool
    | .one .str => P.underlying t = some .string
    | .agg ks => EQ P t ks
instance {P : Program} {t n b : Nat} {k : IntKind} {z : Value} [ti : TI P t (.int k) n b z] : KK P t (.one (.int k)) := ⟨ti.u⟩
instance {P : Program} {t n b : Nat} {z : Value} [ti : TI P t .string n b z] : KK P t (.one .str) := ⟨ti.u⟩
instance {P : Program} {t : Nat} {ks : List SK} [e : EQ P t ks] : KK P t (.agg ks) := ⟨e⟩

inductive OKk : KD → AV → Prop where
  | int {k : IntKind} {n : Int} : OKk (.one (.int k)) (.int k n)
  | bool {b : Bool} : OKk (.one .bool) (.bool b)
  | str {s : List UInt8} : OKk (.one .str) (.str s)
  | agg {ks : List SK} {cs : List AV} (h : OfK ks cs) : OKk (.agg ks) (.agg cs)

def keq : AV → AV → Bool
  | .int _ m, .int _ n => decide (m = n)
  | .bool m, .bool n => decide (m = n)
  | .str m, .str n => decide (m = n)
  | .agg cs, .agg ds => eqC cs ds
  | _, _ => false

theorem eqC_eq {ks : List SK} : ∀ {cs ds : List AV}, OfK ks cs → OfK ks ds → eqC cs ds = true → cs = ds := by
  induction ks with
  | nil => intro cs ds h1 h2 _; cases h1; cases h2; rfl
  | cons k ks ih =>
    intro cs ds h1 h2 h
    cases h1 with
    | int h1 => cases h2 with
      | int h2 => simp only [eqC, Bool.and_eq_true, decide_eq_true_eq] at h; rw [h.1, ih h1 h2 h.2]
    | bool h1 => cases h2 with
      | bool h2 => simp only [eqC, Bool.and_eq_true, decide_eq_true_eq] at h; rw [h.1, ih h1 h2 h.2]
    | str h1 => cases h2 with
      | str h2 => simp only [eqC, Bool.and_eq_true, decide_eq_true_eq] at h; rw [h.1, ih h1 h2 h.2]
theorem eqC_refl {ks : List SK} : ∀ {cs : List AV}, OfK ks cs → eqC cs cs = true := by
  induction ks with
  | nil => intro cs h1; cases h1; rfl
  | cons k ks ih =>
    intro cs h1
    cases h1 with
    | int h1 => simp [eqC, ih h1]
    | bool h1 => simp [eqC, ih h1]
    | str h1 => simp [eqC, ih h1]
theorem keq_eq {kd : KD} {x y : AV} (hx : OKk kd x) (hy : OKk kd y) (h : keq x y = true) : x = y := by
  cases hx with
  | int => cases hy with
    | int => simp only [keq, decide_eq_true_eq] at h; rw [h]
  | bool => cases hy with
    | bool => simp only [keq, decide_eq_true_eq] at h; rw [h]
  | str => cases hy with
    | str => simp only [keq, decide_eq_true_eq] at h; rw [h]
  | agg hx => cases hy with
    | agg hy => rw [eqC_eq hx hy h]
theorem keq_refl {kd : KD} {x : AV} (hx : OKk kd x) : keq x x = true := by
  cases hx with
  | int => simp [keq]
  | bool => simp [keq]
  | str => simp [keq]
  | agg hx => exact eqC_refl hx

/-- A key's value. -/
inductive KV : KD → AV → Value → Prop where
  | int {k : IntKind} {n : Int} : KV (.one (.int k)) (.int k n) (.int k n)
  | bool {b : Bool} : KV (.one .bool) (.bool b) (.bool b)
  | str {s : List UInt8} : KV (.one .str) (.str s) (.string ⟨s.toArray⟩)
  | agg {ks : List SK} {cs : List AV} {vs : List Value} (h : OfK ks cs) (hl : cs.length = vs.length) (hx : ∀ (w : World) (I : Imm) (j : Nat) x v, cs[j]? = some x → vs[j]? = some v → VR w I nu0 x v) : KV (.agg ks) (.agg cs) (.agg vs.toArray)

theorem OfK.get {ks : List SK} : ∀ {cs : List AV}, OfK ks cs → ∀ (j : Nat) x, cs[j]? = some x → (∃ k n, x = .int k n) ∨ (∃ b, x = .bool b) ∨ ∃ s, x = .str s := by
  induction ks with
  | nil => intro cs h j x hx; cases h; simp at hx
  | cons k ks ih =>
    intro cs h j x hx
    cases h with
    | int h => cases j with
      | zero => simp at hx; subst hx; exact .inl ⟨_, _, rfl⟩
      | succ j => exact ih h j x (by simpa using hx)
    | bool h => cases j with
      | zero => simp at hx; subst hx; exact .inr (.inl ⟨_, rfl⟩)
      | succ j => exact ih h j x (by simpa using hx)
    | str h => cases j with
      | zero => simp at hx; subst hx; exact .inr (.inr ⟨_, rfl⟩)
      | succ j => exact ih h j x (by simpa using hx)

theorem kv_of {w : World} {I : Imm} {ν : Nu} {kd : KD} {x : AV} {v : Value} (hx : OKk kd x) (hv : VR w I ν x v) : KV kd x v := by
  cases hx with
  | int => rw [hv.int_inv]; exact .int
  | bool => rw [hv.bool_inv]; exact .bool
  | str => rw [hv.str_inv]; exact .str
  | agg hx =>
    obtain ⟨vs, rfl, hl, h⟩ := agg_inv hv
    refine .agg hx hl fun w' I' j x v h1 h2 => ?_
    have h3 := h j x v h1 h2
    rcases hx.get j x h1 with ⟨k, n, rfl⟩ | ⟨b, rfl⟩ | ⟨s, rfl⟩
    · rw [h3.int_inv]; exact .pure (.int _ _)
    · rw [h3.bool_inv]; exact .pure (.bool _)
    · rw [h3.str_inv]; exact .pure (.str _)
theorem KV.ok {kd : KD} {x : AV} {v : Value} (h : KV kd x v) : OKk kd x := by
  cases h with
  | int => exact .int
  | bool => exact .bool
  | str => exact .str
  | agg h _ _ => exact .agg h
theorem KV.vr {kd : KD} {x : AV} {v : Value} (h : KV kd x v) (w : World) (I : Imm) : VR w I nu0 x v := by
  cases h with
  | int => exact .pure (.int _ _)
  | bool => exact .pure (.bool _)
  | str => exact .pure (.str _)
  | agg h hl hx => exact .agg _ _ hl (hx w I)
theorem KV.det {kd : KD} {x : AV} {v u : Value} (h : KV kd x v) (k : KV kd x u) : v = u := by
  cases h with
  | int => cases k; rfl
  | bool => cases k; rfl
  | str => cases k; rfl
  | @agg ks cs vs h hl hx =>
    cases k with
    | @agg _ _ us _ hl' hx' =>
      have : vs = us := by
        apply List.ext_getElem?
        intro j
        rcases Nat.lt_or_ge j cs.length with hj | hj
        · have e1 := List.getElem?_eq_getElem hj
          have e2 : vs[j]? = some vs[j] := List.getElem?_eq_getElem (by omega)
          have e3 : us[j]? = some us[j] := List.getElem?_eq_getElem (by omega)
          have p := hx default (fun _ _ => False) j _ _ e1 e2
          have q := hx' default (fun _ _ => False) j _ _ e1 e3
          rw [e2, e3]
          rcases h.get j _ e1 with ⟨k, n, e⟩ | ⟨b, e⟩ | ⟨s, e⟩ <;> rw [e] at p q
          · rw [p.int_inv, q.int_inv]
          · rw [p.bool_inv, q.bool_inv]
          · rw [p.str_inv, q.str_inv]
        · rw [List.getElem?_eq_none (by omega), List.getElem?_eq_none (by omega)]
      rw [this]
theorem KV.bits {kd : KD} {x : AV} {v : Value} (h : KV kd x v) : Instr.sameBits 10000 v v = true := by
  cases h with
  | int => simp [Instr.sameBits]
  | bool => simp [Instr.sameBits]
  | str => simp only [Instr.sameBits]; rw [MapKept.bytes_beq]
  | @agg ks cs vs h hl hx =>
    simp only [Instr.sameBits, beq_self_eq_true, Bool.true_and, List.toList_toArray, List.all_eq_true]
    rintro ⟨p, q⟩ hpq
    obtain ⟨j, hj⟩ := List.mem_iff_getElem?.1 hpq
    rw [List.getElem?_zip_eq_some] at hj
    obtain ⟨h1, h2⟩ := hj
    rw [h1] at h2
    injection h2 with h2
    simp only at h2
    subst h2
    have hlt : j < cs.length := by rw [hl]; exact (List.getElem?_eq_some_iff.1 h1).1
    have e1 := List.getElem?_eq_getElem hlt
    have p := hx default (fun _ _ => False) j _ _ e1 h1
    rcases h.get j _ e1 with ⟨k, n, e⟩ | ⟨b, e⟩ | ⟨s, e⟩ <;> rw [e] at p
    · have p := p.int_inv; simp only at p; subst p; simp [Instr.sameBits]
    · have p := p.bool_inv; simp only at p; subst p; simp [Instr.sameBits]
    · have p := p.str_inv; simp only at p; subst p; simp only [Instr.sameBits]; rw [MapKept.bytes_beq]

theorem ck_fields {P : Program} {w : World} {em : Bool} {i m : Nat} {fs : List Field} {ks : List SK} (h : EqF P i fs ks) : ∀ {cs : List AV} {xs : List Value}, OfK ks cs →
    (∀ (j : Nat) x, cs[j]? = some x → ∃ v, xs[i + j]? = some v ∧ VR w (fun _ _ => False) nu0 x v) →
    (forIn fs PUnit.unit fun f _ => (do if f.name ≠ "_" then Instr.checkKey em (m + 1) f.type (← part f.type xs.toArray f.offset)
                                        pure (ForInStep.yield PUnit.unit) : Sem (ForInStep PUnit))).run P w = .ok PUnit.unit w := by
  have one : ∀ {f : Field} {fs : List Field} {dd : TypeDesc} {v : Value} {xs : List Value}, (f.name == "_") = false → P.underlying f.type = some dd → aggD dd = false → xs[f.offset]? = some v → MapKept.IsKey dd v →
      (forIn fs PUnit.unit fun f _ => (do if f.name ≠ "_" then Instr.checkKey em (m + 1) f.type (← part f.type xs.toArray f.offset)
                                          pure (ForInStep.yield PUnit.unit) : Sem (ForInStep PUnit))).run P w = .ok PUnit.unit w →
      (forIn (f :: fs) PUnit.unit fun f _ => (do if f.name ≠ "_" then Instr.checkKey em (m + 1) f.type (← part f.type xs.toArray f.offset)
                                                 pure (ForInStep.yield PUnit.unit) : Sem (ForInStep PUnit))).run P w = .ok PUnit.unit w := by
    intro f fs dd v xs hn hu hg hv hk hr
    have hn' : f.name ≠ "_" := by simpa using hn
    have hp : (part f.type xs.toArray f.offset).run P w = .ok v w := by
      have hi : (isAgg f.type).run P w = .ok false w := tz_agg hu hg w
      simp only [part, Sem.run_bind, hi, Result.andThen_ok, Bool.false_eq_true, if_false]
      simp [hv]
    rw [List.forIn_cons]
    simp only [hn', ne_eq, not_false_eq_true, if_true, Sem.run_bind, hp, Result.andThen_ok, MapKept.run_checkKey hu hk em m, Sem.run_pure]
    exact hr
  induction h with
  | nil => intro cs xs hc _; simp
  | @int i f fs ks k hn ho ht h ih =>
    intro cs xs hc h1
    cases hc with
    | int hc =>
    obtain ⟨v, p1, p2⟩ := h1 0 _ rfl
    have p3 := p2.int_inv
    subst p3; subst ho
    exact one (v := .int k _) hn ht rfl (by simpa using p1) (by simp [MapKept.IsKey]) (ih hc fun j x hj => by
      have := h1 (j + 1) x (by simpa using hj); rwa [show f.offset + (j + 1) = f.offset + 1 + j by omega] at this)
  | @bool i f fs ks hn ho ht h ih =>
    intro cs xs hc h1
    cases hc with
    | bool hc =>
    obtain ⟨v, p1, p2⟩ := h1 0 _ rfl
    have p3 := p2.bool_inv
    subst p3; subst ho
    exact one (v := .bool _) hn ht rfl (by simpa using p1) (by simp [MapKept.IsKey]) (ih hc fun j x hj => by
      have := h1 (j + 1) x (by simpa using hj); rwa [show f.offset + (j + 1) = f.offset + 1 + j by omega] at this)
  | @str i f fs ks hn ho ht h ih =>
    intro cs xs hc h1
    cases hc with
    | str hc =>
    obtain ⟨v, p1, p2⟩ := h1 0 _ rfl
    have p3 := p2.str_inv
    subst p3; subst ho
    exact one (v := .string _) hn ht rfl (by simpa using p1) (by simp [MapKept.IsKey]) (ih hc fun j x hj => by
      have := h1 (j + 1) x (by simpa using hj); rwa [show f.offset + (j + 1) = f.offset + 1 + j by omega] at this)

theorem check_run {P : Program} {t : Nat} {kd : KD} [h : KK P t kd] {x : AV} {v : Value} (hv : KV kd x v) (em : Bool) (w : World) : (Instr.checkKey em 10000 t v).run P w = .ok () w := by
  have ho := h.out
  cases hv with
  | int => exact MapKept.run_checkKey ho (by simp [MapKept.IsKey]) em 9999
  | bool => exact MapKept.run_checkKey ho (by simp [MapKept.IsKey]) em 9999
  | str => exact MapKept.run_checkKey ho (by simp [MapKept.IsKey]) em 9999
  | @agg ks cs vs hc hl hx =>
    have ho : EQ P t ks := ho
    obtain ⟨fs, hu, he⟩ := ho.out
    rw [show (10000 : Nat) = 9999 + 1 from rfl, Instr.checkKey]
    simp only [Sem.run_bind, run_underlying hu, Result.andThen_ok]
    rw [← Array.forIn_toList]
    have := ck_fields (w := w) (em := em) (m := 9998) he (xs := vs) hc fun j x hj => by
      have hlt : j < vs.length := by rw [← hl]; exact (List.getElem?_eq_some_iff.1 hj).1
      exact ⟨_, by rw [Nat.zero_add]; exact List.getElem?_eq_getElem hlt, hx w _ j x _ hj (List.getElem?_eq_getElem hlt)⟩
    simp at this ⊢
    rw [this]
    rfl

/-- Where a key lies. -/
def mfind (x : AV) : List (AV × AV) → Nat → Option Nat
  | [], _ => none
  | p :: r, i => if keq x p.1 = true then some i else mfind x r (i + 1)
/-- A key's value. -/
def mget (x : AV) : List (AV × AV) → Option AV
  | [] => none
  | p :: r => if keq x p.1 = true then some p.2 else mget x r
/-- A key set. -/
def mset (x y : AV) : List (AV × AV) → List (AV × AV)
  | [] => [(x, y)]
  | p :: r => if keq x p.1 = true then (p.1, y) :: r else p :: mset x y r
theorem mfind_get (x : AV) : ∀ (es : List (AV × AV)) (i : Nat), (match mfind x es i with
    | none => mget x es = none ∧ ∀ y, mset x y es = es ++ [(x, y)]
    | some j => ∃ k p, j = i + k ∧ es[k]? = some p ∧ keq x p.1 = true ∧ mget x es = some p.2 ∧ ∀ y, mset x y es = es.set k (p.1, y)) := by
  intro es
  induction es with
  | nil => intro i; exact ⟨rfl, fun y => rfl⟩
  | cons p r ih =>
    intro i
    unfold mfind mget
    by_cases h : keq x p.1 = true
    · rw [if_pos h]
      simp only []
      exact ⟨0, p, rfl, rfl, h, by rw [if_pos h], fun y => by simp [mset, h]⟩
    · rw [if_neg h]
      have := ih (i + 1)
      split at this
      · rename_i e
        exact ⟨by rw [if_neg h]; exact this.1, fun y => by simp [mset, h, this.2 y]⟩
      · rename_i j e
        obtain ⟨k, q, h1, h2, h3, h4, h5⟩ := this
        exact ⟨k + 1, q, by omega, by simpa using h2, h3, by rw [if_neg h]; exact h4, fun y => by simp [mset, h, h5 y]⟩

theorem find_run {P : Program} {t : Nat} {kd : KD} [h : KK P t kd] {w0 : World} {I : Imm} {x : AV} {v : Value} (hv : KV kd x v) (w : World) {es : List (AV × AV)} {en : List MapEntry} (hr : MapRel w0 I es en) (hk : ∀ p ∈ es, OKk kd p.1) :
    (match mfind x es 0 with
    | none => (Instr.findKey t v en).run P w = .ok none w
    | some i => ∃ p e, es[i]? = some p ∧ en[i]? = some e ∧ keq x p.1 = true ∧ (Instr.findKey t v en).run P w = .ok (some (i, e.val)) w) := by
  have ho := h.out
  have rel : ∀ (i : Nat) p e, es[i]? = some p → en[i]? = some e → KV kd p.1 e.key := fun i p e h1 h2 => kv_of (hk p (List.mem_of_getElem? h1)) (hr.2 i p e h1 h2).2.1
  have hlen := hr.1
  have scal : ∀ (dd : TypeDesc), P.underlying t = some dd → (∀ y u, KV kd y u → Instr.sameNow dd v u = some (keq x y)) → (match mfind x es 0 with
    | none => (Instr.findKey t v en).run P w = .ok none w
    | some i => ∃ p e, es[i]? = some p ∧ en[i]? = some e ∧ keq x p.1 = true ∧ (Instr.findKey t v en).run P w = .ok (some (i, e.val)) w) := by
    intro dd hu hs
    have key : ∀ (es : List (AV × AV)) (en : List MapEntry) (i : Nat), es.length = en.length → (∀ (i : Nat) p e, es[i]? = some p → en[i]? = some e → KV kd p.1 e.key) → (match mfind x es i with
        | none => Instr.findNow dd v en i = some none
        | some j => ∃ k p e, j = i + k ∧ es[k]? = some p ∧ en[k]? = some e ∧ keq x p.1 = true ∧ Instr.findNow dd v en i = some (some (j, e.val))) := by
      intro es
      induction es with
      | nil => intro en i hl _; cases en with
        | nil => rfl
        | cons e en => simp at hl
      | cons p r ih =>
        intro en i hl hr
        cases en with
        | nil => simp at hl
        | cons e en =>
          have h1 := hs _ _ (hr 0 p e rfl rfl)
          unfold mfind
          by_cases hq : keq x p.1 = true
          · rw [if_pos hq]
            rw [hq] at h1
            exact ⟨0, p, e, rfl, rfl, rfl, hq, by simp [Instr.findNow, h1]⟩
          · rw [if_neg hq]
            have hq' : keq x p.1 = false := by simpa using hq
            rw [hq'] at h1
            have := ih en (i + 1) (by simpa using hl) (fun i p e a b => hr (i + 1) p e (by simpa using a) (by simpa using b))
            split at this
            · rename_i e1
              simpa [Instr.findNow, h1] using this
            · rename_i j e1
              obtain ⟨k, q, e2, a1, a2, a3, a4, a5⟩ := this
              exact ⟨k + 1, q, e2, by omega, by simpa using a2, by simpa using a3, a4, by simpa [Instr.findNow, h1] using a5⟩
    have := key es en 0 hlen rel
    split at this
    · rename_i e1
      exact MapKept.run_findKey hu this
    · rename_i j e1
      obtain ⟨k, p, e, a1, a2, a3, a4, a5⟩ := this
      rw [Nat.zero_add] at a1
      subst a1
      exact ⟨p, e, a2, a3, a4, MapKept.run_findKey hu a5⟩
  cases hv with
  | @int k n => exact scal _ ho fun y u hy => by cases hy; simp [Instr.sameNow, keq]; rw [Bool.eq_iff_iff]; simp
  | @bool b => exact scal _ ho fun y u hy => by cases hy; simp [Instr.sameNow, keq]; rw [Bool.eq_iff_iff]; simp
  | @str s => exact scal _ ho fun y u hy => by cases hy; simp only [Instr.sameNow, keq, Option.some.injEq]; rw [Bool.eq_iff_iff, MapKept.bytes_beq]; simp
  | @agg ks cs vs hc hl hx =>
    have ho : EQ P t ks := ho
    obtain ⟨fs, hu, he⟩ := ho.out
    have key : ∀ (es : List (AV × AV)) (en : List MapEntry) (i : Nat), es.length = en.length → (∀ (i : Nat) p e, es[i]? = some p → en[i]? = some e → KV (.agg ks) p.1 e.key) → (match mfind (.agg cs) es i with
        | none => (Instr.findAsking t (.agg vs.toArray) en i).run P w = .ok none w
        | some j => ∃ k p e, j = i + k ∧ es[k]? = some p ∧ en[k]? = some e ∧ keq (.agg cs) p.1 = true ∧ (Instr.findAsking t (.agg vs.toArray) en i).run P w = .ok (some (j, e.val)) w) := by
      intro es
      induction es with
      | nil => intro en i hl _; cases en with
        | nil => simp [mfind, Instr.findAsking]
        | cons e en => simp at hl
      | cons p r ih =>
        intro en i hl' hr
        cases en with
        | nil => simp at hl'
        | cons e en =>
          have hkv := hr 0 p e rfl rfl
          obtain ⟨p1, p2⟩ := p
          obtain ⟨ek, ev, eb⟩ := e
          simp only at hkv
          cases hkv with
          | @agg _ ds us hd hdl hdx =>
          have h1 : (Op.equal t (.agg vs.toArray) (.agg us.toArray)).run P w = .ok (eqC cs ds) w := ho.run (w := w) (w0 := w) (I := fun _ _ => False) (ν := nu0) hc hd hl hdl (hx w _) (hdx w _)
          unfold mfind
          by_cases hq : keq (.agg cs) (.agg ds) = true
          · rw [if_pos hq]
            have hq2 : eqC cs ds = true := hq
            rw [hq2] at h1
            exact ⟨0, _, _, rfl, rfl, rfl, hq, by simp [Instr.findAsking, h1]⟩
          · rw [if_neg hq]
            have hq' : eqC cs ds = false := by simpa [keq] using hq
            rw [hq'] at h1
            have := ih en (i + 1) (by simpa using hl') (fun i p e a b => hr (i + 1) p e (by simpa using a) (by simpa using b))
            split at this
            · rename_i e1
              simpa [Instr.findAsking, h1] using this
            · rename_i j e1
              obtain ⟨k, q, e2, a1, a2, a3, a4, a5⟩ := this
              exact ⟨k + 1, q, e2, by omega, by simpa using a2, by simpa using a3, a4, by simpa [Instr.findAsking, h1] using a5⟩
    have hfk : (Instr.findKey t (.agg vs.toArray) en).run P w = (Instr.findAsking t (.agg vs.toArray) en).run P w := run_findKey_eq w (by simp [hu]) _ _
    have := key es en 0 hlen rel
    rw [hfk]
    split at this
    · rename_i e1
      exact this
    · rename_i j e1
      obtain ⟨k, p, e, a1, a2, a3, a4, a5⟩ := this
      rw [Nat.zero_add] at a1
      subst a1
      exact ⟨p, e, a2, a3, a4, a5⟩
end Go.Proofs.Ytibmabidjacjlaa.L
