/- The logic, part 13: structs and rows put together, structs compared, nil rows taken over, loops closed. -/
import Derived.Test.YtibmabidjacjlaaLl
import Derived.Laws.StructEq
namespace Go.Proofs.Ytibmabidjacjlaa.L
open Go Go.RowKit
set_option linter.unusedVariables false
set_option linter.unusedSimpArgs false

/-! ### fill -/
theorem fold_put (off : Nat) : ∀ (vs : List Value) (k : Nat) (us : List Value), off + k + vs.length ≤ us.length →
    (vs.zipIdx k).foldl (fun (cs : Array Value) (p : Value × Nat) => cs.setIfInBounds (off + p.2) p.1) us.toArray = (us.take (off + k) ++ vs ++ us.drop (off + k + vs.length)).toArray := by
  intro vs
  induction vs with
  | nil => intro k us h; simp
  | cons v r ih =>
    intro k us h
    simp only [List.length_cons] at h
    simp only [List.zipIdx_cons, List.foldl_cons]
    rw [List.setIfInBounds_toArray, ih (k + 1) _ (by simp; omega)]
    congr 1
    have h1 : off + k < us.length := by omega
    rw [show off + (k + 1) = off + k + 1 by omega, show off + k + 1 + r.length = off + k + (r.length + 1) by omega]
    rw [List.take_set, List.drop_set, if_pos (by omega), List.take_succ_eq_append_getElem h1]
    have e : (List.take (off + k) us ++ [us[off + k]]).set (off + k) v = List.take (off + k) us ++ [v] := by
      rw [List.set_append]
      simp [Nat.min_eq_left (show off + k ≤ us.length by omega)]
    rw [e]
    simp

/-- The parts of a literal, laid where they belong. -/
inductive FillA (sl : Slots) (pl : List (Nat × Nat)) : List AV → List (Nat × Operand) → List AV → Prop where
  | nil {cells : List AV} : FillA sl pl cells [] cells
  | cons {cells cells1 cells' cs : List AV} {i off : Nat} {o : Operand} {xv : AV} {rest : List (Nat × Operand)} (h1 : ev sl o = some xv) (h2 : xv.cells = cs) (h3 : allCell cs = true) (h4 : pl[i]? = some (off, cs.length)) (h5 : PutN off cells cs cells1)
      (h6 : FillA sl pl cells1 rest cells') : FillA sl pl cells ((i, o) :: rest) cells'

theorem fillA_ok {w : World} {I : Imm} {ν : Nu} {sl : Slots} {a : Act} (hs : SlR w I ν sl a) {pl : List (Nat × Nat)} (place : Nat → Option (Nat × Nat)) (hpl : ∀ i p, pl[i]? = some p → place i = some p)
    {cells cells' : List AV} {parts : List (Nat × Operand)} (h : FillA sl pl cells parts cells') : ∀ (us : List Value), cells.length = us.length → (∀ (j : Nat) y u, cells[j]? = some y → us[j]? = some u → VR w I ν y u) → (∀ u ∈ us, u.oneCell' = true) →
    ∃ us' : List Value, Instr.fill place us.toArray (parts.map fun p => (p.1, a.eval p.2)) = some us'.toArray ∧ cells'.length = us'.length ∧ (∀ (j : Nat) y u, cells'[j]? = some y → us'[j]? = some u → VR w I ν y u) ∧ ∀ u ∈ us', u.oneCell' = true := by
  induction h with
  | nil => intro us hl hx h1; exact ⟨us, rfl, hl, hx, h1⟩
  | @cons cells cells1 cells' cs i off o xv rest h1 h2 h3 h4 h5 h6 ih =>
    intro us hl hx hone
    obtain ⟨vs, hv, hvl, hvx, hv1⟩ := (ev_ok hs h1).cells_ok h2 h3
    obtain ⟨p1, p2⟩ := h5.eq
    obtain ⟨us', r1, r2, r3, r4⟩ := ih (us.take off ++ vs ++ us.drop (off + vs.length)) (by rw [p2]; simp; omega) (fun j y u g1 g2 => by
      rw [p2] at g1
      by_cases c1 : j < off
      · rw [List.append_assoc, List.getElem?_append_left (by simp; omega), List.getElem?_take_of_lt c1] at g1 g2
        exact hx j y u g1 g2
      · by_cases c2 : j < off + cs.length
        · rw [List.append_assoc, List.getElem?_append_right (by simp; omega), List.getElem?_append_left (by simp; omega)] at g1 g2
          simp only [List.length_take, Nat.min_eq_left (show off ≤ cells.length by omega), Nat.min_eq_left (show off ≤ us.length by omega)] at g1 g2
          exact hvx _ y u g1 g2
        · rw [List.getElem?_append_right (by simp; omega)] at g1 g2
          simp only [List.length_append, List.length_take, Nat.min_eq_left (show off ≤ cells.length by omega), Nat.min_eq_left (show off ≤ us.length by omega), List.getElem?_drop] at g1 g2
          rw [← hvl] at g2
          exact hx _ y u g1 g2) (fun u hu => by
      simp only [List.mem_append] at hu
      rcases hu with (hu | hu) | hu
      · exact hone u (List.mem_of_mem_take hu)
      · exact hv1 u hu
      · exact hone u (List.mem_of_mem_drop hu))
    refine ⟨us', ?_, r2, r3, r4⟩
    rw [← r1]
    simp only [List.map_cons, Instr.fill, hpl i _ h4, hv]
    have e : (vs.toArray.size ≠ cs.length || decide (off + vs.toArray.size > us.toArray.size)) = false := by
      simp
      omega
    rw [if_neg (by rw [e]; simp)]
    congr 1
    have := fold_put off vs 0 us (by omega)
    simp only [Nat.add_zero] at this
    rw [← this, ← Array.foldl_toList]
    simp

inductive FSL (P : Program) : List Field → List (Nat × Nat) → Prop where
  | nil : FSL P [] []
  | cons {f : Field} {fs : List Field} {pl : List (Nat × Nat)} {n : Nat} (h : (P.info? f.type).map (·.size) = some n) (k : FSL P fs pl) : FSL P (f :: fs) ((f.offset, n) :: pl)
theorem FSL.run {P : Program} {w : World} {fs : List Field} {pl : List (Nat × Nat)} (h : FSL P fs pl) : (fs.mapM fun f => (do pure (f.offset, ← sizeOf f.type) : Sem (Nat × Nat))).run P w = .ok pl w := by
  induction h with
  | nil => simp
  | @cons f fs pl n h k ih =>
    obtain ⟨i, hi, hz⟩ := Option.map_eq_some_iff.1 h
    have e : (sizeOf f.type).run P w = .ok n w := by simp [sizeOf, run_typeInfo' hi, hz]
    rw [List.mapM_cons]
    simp only [Sem.run_bind, e, Result.andThen_ok, Sem.run_pure, ih]
/-- Where a struct's fields lie and how many cells they have. -/
class FT (P : Program) (t : Nat) (pl : outParam (List (Nat × Nat))) : Prop where
  out : ∃ fs : List Field, P.underlying t = some (.struct fs.toArray) ∧ FSL P fs pl

section
variable {E : Env} {N : Nat} {ops : Array Oper} {Q : Exit → St → Prop} {rest : List Oper} {sl : Slots} {H H' : List AO}

theorem zeros_ok {w : World} {I : Imm} {ν : Nu} {z : Value} {zv : AV} {zs : List AV} (hz : constAV z = some zv) (hzs : zv.cells = zs) (ha : allCell zs = true) :
    ∃ us : List Value, z.cells = us.toArray ∧ zs.length = us.length ∧ (∀ (j : Nat) y u, zs[j]? = some y → us[j]? = some u → VR w I ν y u) ∧ ∀ u ∈ us, u.oneCell' = true :=
  (constAV_ok (w := w) (I := I) (ν := ν) hz).cells_ok hzs ha

theorem ov_build {t : Nat} {dd : Bool} {n b : Nat} {z : Value} [tz : TZ E.P t dd n b z] {pl : List (Nat × Nat)} [ft : FT E.P t pl] {zv : AV} {zs cs : List AV} {parts : List (Nat × Operand)} (hz : constAV z = some zv) (hzs : zv.cells = zs) (ha : allCell zs = true)
    (hf : FillA sl pl zs parts cs) : OV E sl H (.build t parts.toArray) (.agg cs) := by
  intro I ν a w hh hs
  obtain ⟨us, g1, g2, g3, g4⟩ := zeros_ok (w := w) (I := I) (ν := ν) hz hzs ha
  obtain ⟨us', r1, r2, r3, r4⟩ := fillA_ok hs (fun i => pl.toArray[i]?) (fun i p h => by simpa using h) hf us g2 g3 g4
  refine ⟨.agg us'.toArray, .agg cs us' r2 r3, fun o w' ho hb => ?_⟩
  obtain ⟨fs, hu, hfs⟩ := ft.out
  have e1 : (underlying t).run E.P w' = .ok (.struct fs.toArray) w' := by simp [underlying, program, Sem.run, bind, Sem.bind, hu, pure]
  have e2 := hfs.run (w := w')
  have e3 : (fs.toArray.mapM fun f => (do pure (f.offset, ← sizeOf f.type) : Sem (Nat × Nat))).run E.P w' = .ok pl.toArray w' := by
    rw [List.mapM_toArray, Sem.run_map, e2]
    rfl
  have e4 : (Instr.build t ((parts.map fun p => (p.1, a.eval p.2)).toArray)).run E.P w' = .ok (.agg us'.toArray) w' := by
    unfold Instr.build
    simp only [Sem.run_bind, tz.zero, Result.andThen_ok, e1, e3, g1, List.toList_toArray, r1, Sem.run_pure]
  simp only [execOp, ho]
  rw [List.map_toArray]
  simp [e4]

/-- A row out of its cells, so many a piece. -/
inductive Sp {α : Type} : Nat → List α → List α → List α → Prop where
  | zero {l : List α} : Sp 0 l [] l
  | succ {n : Nat} {x : α} {l a b : List α} (h : Sp n l a b) : Sp (n + 1) (x :: l) (x :: a) b
theorem Sp.eq {α : Type} {n : Nat} {l a b : List α} (h : Sp n l a b) : l = a ++ b ∧ a.length = n := by
  induction h with
  | zero => simp
  | succ h ih => simp [ih.1, ih.2]
inductive Chunk {α : Type} (n : Nat) : List α → List (List α) → Prop where
  | nil : Chunk n [] []
  | cons {l a b : List α} {r : List (List α)} (h : Sp n l a b) (k : Chunk n b r) : Chunk n l (a :: r)
theorem Chunk.get {α : Type} {n : Nat} {l : List α} {r : List (List α)} (h : Chunk n l r) : l.length = r.length * n ∧ ∀ (i : Nat) c, r[i]? = some c → c.length = n ∧ ∀ (j : Nat) x, c[j]? = some x → l[i * n + j]? = some x := by
  induction h with
  | nil => simp
  | @cons l a b r h k ih =>
    obtain ⟨h1, h2⟩ := h.eq
    obtain ⟨h3, h4⟩ := ih
    subst h1
    refine ⟨by simp [h2, h3, Nat.add_mul, Nat.add_comm], fun i c hc => ?_⟩
    cases i with
    | zero =>
      simp only [List.getElem?_cons_zero, Option.some.injEq] at hc
      subst hc
      refine ⟨h2, fun j x hx => ?_⟩
      rw [Nat.zero_mul, Nat.zero_add, List.getElem?_append_left (List.getElem?_eq_some_iff.1 hx).1]
      exact hx
    | succ i =>
      obtain ⟨g1, g2⟩ := h4 i c (by simpa using hc)
      refine ⟨g1, fun j x hx => ?_⟩
      rw [show (i + 1) * n + j = a.length + (i * n + j) by rw [h2, Nat.add_mul]; omega, List.getElem?_append_right (by omega), Nat.add_sub_cancel_left]
      exact g2 j x hx

theorem range_zero (zs : List Value) (n : Nat) (h0 : 0 < zs.length) : (Array.range (n * zs.length)).map (fun i => zs.toArray[i % zs.toArray.size]!) = (List.replicate n zs).flatten.toArray := by
  apply Array.ext'
  apply List.ext_getElem?
  intro i
  have key : ∀ (n i : Nat), (List.replicate n zs).flatten[i]? = if i < n * zs.length then zs[i % zs.length]? else none := by
    intro n
    induction n with
    | zero => intro i; simp
    | succ n ih =>
      intro i
      rw [List.replicate_succ, List.flatten_cons]
      by_cases hi : i < zs.length
      · rw [List.getElem?_append_left hi, if_pos (by rw [Nat.add_mul]; omega), Nat.mod_eq_of_lt hi]
      · rw [List.getElem?_append_right (by omega), ih]
        have e : (i - zs.length) % zs.length = i % zs.length := by
          conv => rhs; rw [show i = i - zs.length + zs.length by omega]
          rw [Nat.add_mod_right]
        rw [e]
        by_cases c : i < (n + 1) * zs.length
        · rw [if_pos c, if_pos (by rw [Nat.add_mul] at c; omega)]
        · rw [if_neg c, if_neg (by rw [Nat.add_mul] at c; omega)]
  rw [show (List.replicate n zs).flatten.toArray.toList = (List.replicate n zs).flatten from rfl, key]
  simp only [Array.toList_map, Array.toList_range, List.getElem?_map]
  by_cases c : i < n * zs.length
  · rw [if_pos c, List.getElem?_range c]
    have : i % zs.length < zs.length := Nat.mod_lt _ h0
    simp [this]
  · rw [if_neg c, List.getElem?_eq_none (by simpa using c)]
    rfl

theorem replicate_ok {w : World} {I : Imm} {ν : Nu} {zs : List AV} {us : List Value} (hl : zs.length = us.length) (hx : ∀ (j : Nat) y u, zs[j]? = some y → us[j]? = some u → VR w I ν y u) (h1 : ∀ u ∈ us, u.oneCell' = true) (n : Nat) :
    ((List.replicate n zs).flatten).length = ((List.replicate n us).flatten).length ∧ (∀ (j : Nat) y u, (List.replicate n zs).flatten[j]? = some y → (List.replicate n us).flatten[j]? = some u → VR w I ν y u) ∧ ∀ u ∈ (List.replicate n us).flatten, u.oneCell' = true := by
  induction n with
  | zero => simp
  | succ n ih =>
    obtain ⟨a1, a2, a3⟩ := ih
    simp only [List.replicate_succ, List.flatten_cons]
    refine ⟨by simp [hl, a1], append_get hl hx a2, fun u hu => ?_⟩
    rcases List.mem_append.1 hu with hu | hu
    · exact h1 u hu
    · exact a3 u hu

theorem rowRel_of {w : World} {I : Imm} {ν : Nu} {sz : Nat} {cells : List AV} {us : List Value} {rows : List (List AV)} (hp : allPu cells = true) (hc : Chunk sz cells rows) (hl : cells.length = us.length) (hx : ∀ (j : Nat) y u, cells[j]? = some y → us[j]? = some u → VR w I ν y u) : RowRel w I sz rows us := by
  obtain ⟨h1, h2⟩ := hc.get
  refine ⟨by rw [← hl, h1], fun i c hi => ⟨(h2 i c hi).1, fun j x hj => ?_⟩⟩
  have := (h2 i c hi).2 j x hj
  have hlt : i * sz + j < us.length := by rw [← hl]; exact (List.getElem?_eq_some_iff.1 this).1
  exact ⟨us[i * sz + j], List.getElem?_eq_getElem hlt, (hx _ _ _ this (List.getElem?_eq_getElem hlt)).pu (allPu_get hp _ x this)⟩

theorem al_buildSlice {t e : Nat} {n b sz bytes : Nat} {z0 z : Value} {d0 : Bool} [ti : TI E.P t (.slice e) n b z0] [te : TZ E.P e d0 sz bytes z] {len m : Nat} {parts : List (Nat × Operand)} {zv : AV} {zs cells0 cells : List AV} {rows : List (List AV)} {pl : List (Nat × Nat)} {ty : TypeId} {pos : String} {after : Array Edge} {d : Nat}
    (hz : constAV z = some zv) (hzs : zv.cells = zs) (ha : allCell zs = true) (hzl : zs.length = sz) (h0 : 0 < sz) (hlen : len * sz ≤ 16777216) (hpl : (List.range len).map (fun i => (i * sz, sz)) = pl) (hc0 : (List.replicate len zs).flatten = cells0)
    (hf : FillA sl pl cells0 parts cells) (hpu : allPu cells = true) (hch : Chunk sz cells rows) (hrl : rows.length = len) (hm : H.length = m) (hH : Snoc H (.row e sz 0 0 rows) H') (hd : Nat.blt d N = true)
    (h : AL E N ops Q rest ⟨(d, .os m 0) :: sl, H'⟩) : AL E N ops Q (⟨some d, .buildSlice t len parts.toArray, ty, pos, after, none⟩ :: rest) ⟨sl, H⟩ := by
  subst hm
  subst hpl
  subst hc0
  rw [hH.eq] at h
  refine al_mem hd (fun I ν a w hh hs => ?_) h
  obtain ⟨us, g1, g2, g3, g4⟩ := zeros_ok (w := w) (I := I) (ν := ν) hz hzs ha
  obtain ⟨q1, q2, q3⟩ := replicate_ok g2 g3 g4 len
  have hul : us.length = sz := by omega
  obtain ⟨us', r1, r2, r3, r4⟩ := fillA_ok hs (fun i => some (i * sz, sz)) (fun i p hi => by
    rw [List.getElem?_map] at hi
    obtain ⟨k, hk, rfl⟩ := Option.map_eq_some_iff.1 hi
    have := List.getElem?_eq_some_iff.1 hk
    obtain ⟨_, e⟩ := this
    rw [List.getElem_range] at e
    rw [e]) hf _ q1 q2 q3
  have hR := rowRel_of hpu hch r2 r3
  have hl' : us'.length = len * sz := by rw [← r2, (hch.get).1, hrl]
  have hown : (w.alloc (.cells us'.toArray e)).ownsRow E.base e sz (.slice (some ⟨w.heap.size, 0, none⟩) len len) len us' :=
    ⟨hl', .inr ⟨w.heap.size, len, us'.toArray, rfl, hh.base, heap_alloc_new w _, Nat.le_refl _, by
      have : len ≤ len * sz := Nat.le_mul_of_pos_right _ h0
      simp only [maxLen]; omega, by simp [hl'], by simp [← hl']⟩⟩
  obtain ⟨ν', p1, p2, p3, p4⟩ := row_push hh h0 hrl hown hR (hh.below.alloc hh.base _) (by simp) (fun k hk => heap_alloc_old w _ k hk) (fun b hb => by simp [Value.ownBlock] at hb; omega)
  refine ⟨_, _, ν', fun o ho => ?_, p1, p2, p3, p4⟩
  have e4 : (Instr.buildSlice t len ((parts.map fun p => (p.1, a.eval p.2)).toArray)).run E.P w = .ok (.slice (some ⟨w.heap.size, 0, none⟩) len len) (w.alloc (.cells us'.toArray e)) := by
    unfold Instr.buildSlice
    have e5 : ¬ (len * sz > 2 ^ 24) := by omega
    have e6 : ∀ x : Array Value, (newRow e x).run E.P w = .ok ⟨w.heap.size, 0, none⟩ (w.alloc (.cells x e)) := fun x => by simp [newRow, newObj, Sem.run, bind, Sem.bind, pure]
    simp only [Sem.run_bind, ti.und, Result.andThen_ok, te.size, if_neg e5, Sem.run_pure]
    by_cases hl0 : len * sz = 0
    · have hlen0 : len = 0 := by
        rcases Nat.eq_zero_or_pos len with h | h
        · exact h
        · have := Nat.mul_pos h h0; omega
      subst hlen0
      simp only [Nat.zero_mul, if_true, pure_bind]
      have : (Array.range 0).map (fun i => (#[] : Array Value)[i % (#[] : Array Value).size]!) = (List.replicate 0 us).flatten.toArray := by simp
      rw [this, r1]
      simp only [Sem.run_bind, e6, Result.andThen_ok, Sem.run_pure]
    · simp only [if_neg hl0, Sem.run_bind, te.zero, Result.andThen_ok, Sem.run_pure, g1]
      rw [← hul, range_zero us len (by omega), hul, r1]
      simp only [Sem.run_bind, e6, Result.andThen_ok, Sem.run_pure]
  simp only [execOp, ho]
  rw [List.map_toArray]
  simp [e4]

theorem mem_get {P : List AV → Prop} {xs : List (List AV)} (h : ∀ row ∈ xs, P row) : ∀ (i : Nat) row, xs[i]? = some row → P row := fun i row hi => h row (List.mem_of_getElem? hi)

/-! ### a nil row is taken for an own one -/
theorem adopt_sr {I : Imm} {ν : Nu} {a : Act} {w : World} {t e sz : Nat} (hs : SR E N I ν ⟨sl, H⟩ a w) (ht : lk sl t = some .nilsl) (h0 : 0 < sz) (hH : Snoc H (.row e sz 0 0 []) H') :
    ∃ ν', SR E N I ν' ⟨(t, .os H.length 0) :: sl, H'⟩ a w ∧ FR E.k w I ν H w I ν' H' := by
  have hv := (hs.sl t _ ht).nilsl_inv
  rw [hH.eq]
  obtain ⟨ν', p1, p2, p3, p4⟩ := row_push (w' := w) hs.hr (xs := []) (v := .slice none 0 0) (inner := []) (e := e) (n := 0) h0 rfl (World.ownsRow_nil w E.base e sz) ⟨by simp, fun i c h => by simp at h⟩ hs.hr.below (Nat.le_refl _) (fun _ _ => rfl) (fun b hb => by simp [Value.ownBlock] at hb)
  refine ⟨ν', ⟨p1, fun t' x hx => ?_, hs.df, hs.nt⟩, p2⟩
  rw [lk_cons] at hx
  by_cases et : t = t'
  · subst et
    rw [if_pos rfl] at hx
    obtain rfl : AV.os H.length 0 = x := by simpa using hx
    rw [hv]
    exact p4
  · rw [if_neg et] at hx
    exact (hs.sl t' x hx).mono p2.imm p3
theorem awp_adopt {c : Code} (t e sz : Nat) {m : Nat} (ht : lk sl t = some .nilsl) (h0 : 0 < sz) (hm : H.length = m) (hH : Snoc H (.row e sz 0 0 []) H') (h : AWp E N c Q ⟨(t, .os m 0) :: sl, H'⟩) : AWp E N c Q ⟨sl, H⟩ := by
  subst hm
  intro I ν a w hs
  obtain ⟨ν', h1, h2⟩ := adopt_sr hs ht h0 hH
  exact Code.wp_mono (fun e a' w' k => Lift.step h2 k) (h I ν' a w h1)
theorem al_adopt {l : List Oper} (t e sz : Nat) {m : Nat} (ht : lk sl t = some .nilsl) (h0 : 0 < sz) (hm : H.length = m) (hH : Snoc H (.row e sz 0 0 []) H') (h : AL E N ops Q l ⟨(t, .os m 0) :: sl, H'⟩) : AL E N ops Q l ⟨sl, H⟩ := by
  subst hm
  intro I ν a w hs w0 I0 ν0 o0 hf
  obtain ⟨ν', h1, h2⟩ := adopt_sr hs ht h0 hH
  exact h I ν' a w h1 w0 I0 ν0 o0 (hf.trans h2)

/-! ### structs compared -/
inductive SK where
  | int (k : IntKind)
  | bool
  | str
def eqC : List AV → List AV → Bool
  | [], [] => true
  | .int _ m :: r, .int _ n :: s => decide (m = n) && eqC r s
  | .bool m :: r, .bool n :: s => decide (m = n) && eqC r s
  | .str m :: r, .str n :: s => decide (m = n) && eqC r s
  | _, _ => false
inductive OfK : List SK → List AV → Prop where
  | nil : OfK [] []
  | int {k : IntKind} {n : Int} {ks : List SK} {r : List AV} (h : OfK ks r) : OfK (.int k :: ks) (.int k n :: r)
  | bool {b : Bool} {ks : List SK} {r : List AV} (h : OfK ks r) : OfK (.bool :: ks) (.bool b :: r)
  | str {s : List UInt8} {ks : List SK} {r : List AV} (h : OfK ks r) : OfK (.str :: ks) (.str s :: r)
inductive EqF (P : Program) : Nat → List Field → List SK → Prop where
  | nil {i : Nat} : EqF P i [] []
  | int {i : Nat} {f : Field} {fs : List Field} {ks : List SK} {k : IntKind} (hn : (f.name == "_") = false) (ho : f.offset = i) (ht : P.underlying f.type = some (.int k)) (h : EqF P (i + 1) fs ks) : EqF P i (f :: fs) (.int k :: ks)
  | bool {i : Nat} {f : Field} {fs : List Field} {ks : List SK} (hn : (f.name == "_") = false) (ho : f.offset = i) (ht : P.underlying f.type = some .bool) (h : EqF P (i + 1) fs ks) : EqF P i (f :: fs) (.bool :: ks)
  | str {i : Nat} {f : Field} {fs : List Field} {ks : List SK} (hn : (f.name == "_") = false) (ho : f.offset = i) (ht : P.underlying f.type = some .string) (h : EqF P (i + 1) fs ks) : EqF P i (f :: fs) (.str :: ks)
theorem eqf1 {P : Program} {w : World} {d : Nat} {xs ys : Array Value} {f : Field} {fs : List Field} {a b : Value} {r s : Bool} {dd : TypeDesc} (hn : (f.name == "_") = false) (hu : P.underlying f.type = some dd) (hg : aggD dd = false) (ha : xs[f.offset]? = some a) (hb : ys[f.offset]? = some b)
    (he : (Op.equalIn d f.type a b).run P w = .ok r w) (hr : (Op.eqFields d xs ys fs).run P w = .ok s w) : (Op.eqFields d xs ys (f :: fs)).run P w = .ok (r && s) w := by
  have hn' : f.name ≠ "_" := by simpa using hn
  have hagg := tz_agg hu hg w
  have pa : (part f.type xs f.offset).run P w = .ok a w := by simp [part, hagg, ha]
  have pb : (part f.type ys f.offset).run P w = .ok b w := by simp [part, hagg, hb]
  rw [Op.eqFields]
  simp only [if_pos hn', Sem.run_bind, pa, pb, he, Result.andThen_ok]
  cases r
  · simp
  · simpa using hr
theorem eqf_run {P : Program} {w w0 : World} {I : Imm} {ν : Nu} {d : Nat} {i : Nat} {fs : List Field} {ks : List SK} (h : EqF P i fs ks) : ∀ {cs ds : List AV} {xs ys : List Value}, OfK ks cs → OfK ks ds →
    (∀ (j : Nat) x, cs[j]? = some x → ∃ v, xs[i + j]? = some v ∧ VR w0 I ν x v) → (∀ (j : Nat) x, ds[j]? = some x → ∃ v, ys[i + j]? = some v ∧ VR w0 I ν x v) → (Op.eqFields (d + 1) xs.toArray ys.toArray fs).run P w = .ok (eqC cs ds) w := by
  induction h with
  | nil => intro cs ds xs ys hc hd _ _; cases hc; cases hd; simp [Op.eqFields, eqC]
  | @int i f fs ks k hn ho ht h ih =>
    intro cs ds xs ys hc hd h1 h2
    cases hc with
    | int hc =>
    cases hd with
    | int hd =>
    obtain ⟨v, p1, p2⟩ := h1 0 _ rfl
    obtain ⟨u, q1, q2⟩ := h2 0 _ rfl
    have p3 := p2.int_inv
    have q3 := q2.int_inv
    subst p3; subst q3
    subst ho
    have := eqf1 (d := d + 1) hn ht rfl (xs := xs.toArray) (ys := ys.toArray) (by simpa using p1) (by simpa using q1) (run_equalIn_int w d f.type k k _ _ ht) (ih hc hd (fun j x hj => by
      have := h1 (j + 1) x (by simpa using hj); rwa [show f.offset + (j + 1) = f.offset + 1 + j by omega] at this) (fun j x hj => by
      have := h2 (j + 1) x (by simpa using hj); rwa [show f.offset + (j + 1) = f.offset + 1 + j by omega] at this))
    rw [this]
    simp only [eqC]
    congr 2
    all_goals (rw [Bool.eq_iff_iff]; simp)
  | @bool i f fs ks hn ho ht h ih =>
    intro cs ds xs ys hc hd h1 h2
    cases hc with
    | bool hc =>
    cases hd with
    | bool hd =>
    obtain ⟨v, p1, p2⟩ := h1 0 _ rfl
    obtain ⟨u, q1, q2⟩ := h2 0 _ rfl
    have p3 := p2.bool_inv
    have q3 := q2.bool_inv
    subst p3; subst q3
    subst ho
    have := eqf1 (d := d + 1) hn ht rfl (xs := xs.toArray) (ys := ys.toArray) (by simpa using p1) (by simpa using q1) (run_equalIn_bool' w d f.type _ _ ht) (ih hc hd (fun j x hj => by
      have := h1 (j + 1) x (by simpa using hj); rwa [show f.offset + (j + 1) = f.offset + 1 + j by omega] at this) (fun j x hj => by
      have := h2 (j + 1) x (by simpa using hj); rwa [show f.offset + (j + 1) = f.offset + 1 + j by omega] at this))
    rw [this]
    simp only [eqC]
    congr 2
    all_goals (rw [Bool.eq_iff_iff]; simp)
  | @str i f fs ks hn ho ht h ih =>
    intro cs ds xs ys hc hd h1 h2
    cases hc with
    | str hc =>
    cases hd with
    | str hd =>
    obtain ⟨v, p1, p2⟩ := h1 0 _ rfl
    obtain ⟨u, q1, q2⟩ := h2 0 _ rfl
    have p3 := p2.str_inv
    have q3 := q2.str_inv
    subst p3; subst q3
    subst ho
    have := eqf1 (d := d + 1) hn ht rfl (xs := xs.toArray) (ys := ys.toArray) (by simpa using p1) (by simpa using q1) (run_equalIn_string w d f.type _ _ ht) (ih hc hd (fun j x hj => by
      have := h1 (j + 1) x (by simpa using hj); rwa [show f.offset + (j + 1) = f.offset + 1 + j by omega] at this) (fun j x hj => by
      have := h2 (j + 1) x (by simpa using hj); rwa [show f.offset + (j + 1) = f.offset + 1 + j by omega] at this))
    rw [this]
    simp only [eqC, toList_mk]
    congr 2
    all_goals (rw [Bool.eq_iff_iff]; simp)

/-- A struct whose values can be compared cell by cell. -/
class EQ (P : Program) (t : Nat) (ks : outParam (List SK)) : Prop where
  held : P.stoodInHeld t = false
  guard : P.eqGuardType P.depth t = false
  out : ∃ fs : List Field, P.underlying t = some (.struct fs.toArray) ∧ EqF P 0 fs ks
theorem EQ.run {P : Program} {t : Nat} {ks : List SK} (h : EQ P t ks) {w w0 : World} {I : Imm} {ν : Nu} {cs ds : List AV} {xs ys : List Value} (hc : OfK ks cs) (hd : OfK ks ds) (hl : cs.length = xs.length) (hl' : ds.length = ys.length) (h1 : ∀ (j : Nat) x v, cs[j]? = some x → xs[j]? = some v → VR w0 I ν x v) (h2 : ∀ (j : Nat) x v, ds[j]? = some x → ys[j]? = some v → VR w0 I ν x v) :
    (Op.equalIn 10000 t (.agg xs.toArray) (.agg ys.toArray)).run P w = .ok (eqC cs ds) w := by
  obtain ⟨fs, hu, he⟩ := h.out
  have hf : P.fieldsOf t = fs.toArray := by simp [Program.fieldsOf, hu]
  rw [run_equalIn_struct (P := P) w 9999 t _ _ (by rw [hf]; exact hu) h.held, hf]
  refine eqf_run (w0 := w0) (I := I) (ν := ν) he hc hd (fun j x hj => ?_) (fun j x hj => ?_)
  · have hlt : j < xs.length := by rw [← hl]; exact (List.getElem?_eq_some_iff.1 hj).1
    exact ⟨xs[j], by simp [hlt], h1 j x _ hj (List.getElem?_eq_getElem hlt)⟩
  · have hlt : j < ys.length := by rw [← hl']; exact (List.getElem?_eq_some_iff.1 hj).1
    exact ⟨ys[j], by simp [hlt], h2 j x _ hj (List.getElem?_eq_getElem hlt)⟩
theorem agg_inv {w : World} {I : Imm} {ν : Nu} {cs : List AV} {v : Value} (h : VR w I ν (.agg cs) v) : ∃ vs : List Value, v = .agg vs.toArray ∧ cs.length = vs.length ∧ ∀ (j : Nat) x u, cs[j]? = some x → vs[j]? = some u → VR w I ν x u := by
  cases h with
  | pure h => cases h
  | agg _ vs hl h => exact ⟨vs, rfl, hl, h⟩
theorem ov_aeq {t t' : Nat} {ks : List SK} [eq : EQ E.P t ks] {x y : Operand} {cs ds : List AV} (hx : ev sl x = some (.agg cs)) (hy : ev sl y = some (.agg ds)) (hc : OfK ks cs) (hd : OfK ks ds) : OV E sl H (.binOp .eql t x y t') (.bool (eqC cs ds)) := by
  intro I ν a w hh hs
  obtain ⟨xs, e1, l1, r1⟩ := agg_inv (ev_ok hs hx)
  obtain ⟨ys, e2, l2, r2⟩ := agg_inv (ev_ok hs hy)
  refine ⟨_, .pure (.bool _), fun o w' ho hb => ?_⟩
  have := eq.run (w := w') hc hd l1 l2 r1 r2
  simp [execOp, ho, e1, e2, run_eqGuard_agg w' _ t _ _ _ _ eq.guard, run_eql_struct, this]
theorem ov_ane {t t' : Nat} {ks : List SK} [eq : EQ E.P t ks] {x y : Operand} {cs ds : List AV} (hx : ev sl x = some (.agg cs)) (hy : ev sl y = some (.agg ds)) (hc : OfK ks cs) (hd : OfK ks ds) : OV E sl H (.binOp .neq t x y t') (.bool (!eqC cs ds)) := by
  intro I ν a w hh hs
  obtain ⟨xs, e1, l1, r1⟩ := agg_inv (ev_ok hs hx)
  obtain ⟨ys, e2, l2, r2⟩ := agg_inv (ev_ok hs hy)
  refine ⟨_, .pure (.bool _), fun o w' ho hb => ?_⟩
  have := eq.run (w := w') hc hd l1 l2 r1 r2
  simp [execOp, ho, e1, e2, run_eqGuard_agg w' _ t _ _ _ _ eq.guard, run_neq_struct, this]
theorem ov_beq {t t' : Nat} {n b : Nat} {z : Value} [ti : TI E.P t .bool n b z] {x y : Operand} {p q : Bool} (hx : ev sl x = some (.bool p)) (hy : ev sl y = some (.bool q)) : OV E sl H (.binOp .eql t x y t') (.bool (decide (p = q))) := by
  intro I ν a w hh hs
  have e1 := (ev_ok hs hx).bool_inv
  have e2 := (ev_ok hs hy).bool_inv
  refine ⟨_, .pure (.bool _), fun o w' ho hb => ?_⟩
  have := run_equalIn_bool' (P := E.P) w' 9999 t p q ti.u
  simp [execOp, ho, e1, e2, eqGuard, binOp, Op.equal, Op.maxDepth, this]
  rw [Bool.eq_iff_iff]; simp
theorem ov_bne {t t' : Nat} {n b : Nat} {z : Value} [ti : TI E.P t .bool n b z] {x y : Operand} {p q : Bool} (hx : ev sl x = some (.bool p)) (hy : ev sl y = some (.bool q)) : OV E sl H (.binOp .neq t x y t') (.bool (decide (p ≠ q))) := by
  intro I ν a w hh hs
  have e1 := (ev_ok hs hx).bool_inv
  have e2 := (ev_ok hs hy).bool_inv
  refine ⟨_, .pure (.bool _), fun o w' ho hb => ?_⟩
  have := run_equalIn_bool' (P := E.P) w' 9999 t p q ti.u
  simp [execOp, ho, e1, e2, eqGuard, binOp, Op.equal, Op.maxDepth, this]
  rw [Bool.eq_iff_iff]; simp

/-! ### a part of an immutable row -/
theorem ov_slice_rs {t e : Nat} {n b n' b' : Nat} {z z' : Value} {d' : Bool} [ti : TI E.P t (.slice e) n b z] [te : TZ E.P e d' n' b' z'] {x : Operand} {xs : List (List AV)} {lo hi : Option Operand} {l h : Nat}
    (hx : ev sl x = some (.rs xs)) (hsz : ∀ (i : Nat) row, xs[i]? = some row → row.length = n') (h1 : l ≤ h) (h2 : h ≤ xs.length)
    (hlo : (lo = none ∧ l = 0) ∨ ∃ o k, lo = some o ∧ ev sl o = some (.int k (l : Int))) (hhi : (hi = none ∧ h = xs.length) ∨ ∃ o k, hi = some o ∧ ev sl o = some (.int k (h : Int))) : OV E sl H (.slice t x lo hi none) (.rs ((xs.take h).drop l)) := by
  intro I ν a w hh hs
  have hx' := (ev_ok hs hx).rs_inv
  obtain ⟨v, hv⟩ : ∃ v, a.eval x = v := ⟨_, rfl⟩
  rw [hv] at hx'
  have hfin : ∀ A c, v = .slice A xs.length c → xs.length ≤ c → ∀ (o : Oper) w', o.op = .slice t x lo hi none → (execOp a.eval o).run E.P w' = .ok (.value (.slice (if c = l then A else A.map (·.add (l * n'))) (h - l) (c - l))) w' := by
    intro A c hvv hcc o w' ho
    subst hvv
    have g2 : h ≤ c := by omega
    rcases hlo with ⟨rfl, rfl⟩ | ⟨p, k, rfl, hp⟩ <;> rcases hhi with ⟨rfl, rfl⟩ | ⟨q, k', rfl, hq⟩
    · simp [execOp, ho, hv, Instr.sliceAt, Instr.slice, Instr.sliceBounds, ti.und, te.size]
    · have e2 := (ev_ok hs hq).int_inv
      simp [execOp, ho, hv, e2, Instr.sliceAt, Instr.slice, Instr.sliceBounds, Instr.sliceBound, asIntOf, ti.und, te.size, g2]
    · have e1 := (ev_ok hs hp).int_inv
      simp [execOp, ho, hv, e1, Instr.sliceAt, Instr.slice, Instr.sliceBounds, Instr.sliceBound, asIntOf, ti.und, te.size, h1]
    · have e1 := (ev_ok hs hp).int_inv
      have e2 := (ev_ok hs hq).int_inv
      simp [execOp, ho, hv, e1, e2, Instr.sliceAt, Instr.slice, Instr.sliceBounds, Instr.sliceBound, asIntOf, ti.und, te.size, h1, g2]
  cases hx' with
  | rs0 A c =>
    have hl0 : l = 0 := by simp at h2; omega
    have hh0 : h = 0 := by simpa using h2
    subst hl0; subst hh0
    exact ⟨_, .pure (.rs0 _ _), fun o w' ho hb => hfin A c (by simp) (Nat.zero_le _) o w' ho⟩
  | rs _ sz bk off c us hsz0 hc hm hs' hu hxx =>
    refine ⟨_, ?_, fun o w' ho hb => hfin _ c rfl hc o w' ho⟩
    by_cases hlh : l = h
    · subst hlh
      rw [Nat.sub_self, List.drop_eq_nil_of_le (by simp; omega)]
      exact .pure (.rs0 _ _)
    · have hlt : l < xs.length := by omega
      have hsz' : sz = n' := by
        have := List.getElem?_eq_getElem hlt
        rw [← hs' _ _ this, hsz _ _ this]
      subst hsz'
      have hlen : ((xs.take h).drop l).length = h - l := by simp [Nat.min_eq_left h2]
      have key : ∀ i : Nat, ((xs.take h).drop l)[i]? = if l + i < h then xs[l + i]? else none := by
        intro i
        rw [List.getElem?_drop, List.getElem?_take]
      rw [if_neg (by omega), Option.map_some, add_none, ← hlen]
      refine .pure (.rs _ sz bk (off + l * sz) (c - l) (fun j => us (l * sz + j)) hsz0 (by rw [hlen]; omega) (by omega) (fun i row hi => ?_) (fun j hj => ?_) (fun i j row x hi hj => ?_))
      · rw [key] at hi
        split at hi
        · exact hs' _ _ hi
        · cases hi
      · rw [hlen] at hj
        have hj2 : l * sz + j < xs.length * sz := by
          have e1 : (h - l) * sz + l * sz = h * sz := by rw [← Nat.add_mul]; congr 1; omega
          have e2 : h * sz ≤ xs.length * sz := Nat.mul_le_mul_right _ h2
          omega
        have := hu _ hj2
        rw [Nat.add_assoc]
        exact this
      · rw [key] at hi
        split at hi
        · have := hxx _ j row x hi hj
          rwa [show (l + i) * sz + j = l * sz + (i * sz + j) by rw [Nat.add_mul]; omega] at this
        · cases hi
end

/-! ### loops closed -/
def LoopQ (E : Env) (N : Nat) {α : Type} (inv : α → St) (ok : α → Prop) (m : α → Nat) (x : α) (Q : Exit → St → Prop) : Exit → St → Prop
  | .normal, σ => ∃ y, ok y ∧ m y < m x ∧ Wkn E N σ (inv y)
  | e, σ => Q e σ
section
variable {E : Env} {N : Nat} {Q : Exit → St → Prop} {α : Type} {inv : α → St} {ok : α → Prop} {m : α → Nat} {x : α} {σ : St}
theorem awp_loopq {c : Code} (inv : α → St) (ok : α → Prop) (m : α → Nat) (x0 : α) (h0 : Wkn E N σ (inv x0)) (k0 : ok x0) (round : ∀ x, ok x → AWp E N c (LoopQ E N inv ok m x Q) (inv x)) : AWp E N (.loop c) Q σ :=
  awp_loop' inv ok m x0 h0 k0 fun x hx => awp_mono (round x hx) fun e σ h => by cases e <;> exact h
theorem lq_back (y : α) (hw : Wkn E N σ (inv y)) (hk : ok y) (hm : m y < m x) : LoopQ E N inv ok m x Q .normal σ := ⟨y, hk, hm, hw⟩
theorem lq_wkn {σ' : St} (h : Wkn E N σ σ') (k : LoopQ E N inv ok m x Q .normal σ') : LoopQ E N inv ok m x Q .normal σ := let ⟨y, h1, h2, h3⟩ := k; ⟨y, h1, h2, h.trans h3⟩
theorem lq_exit {id : Nat} (h : Q (.exit id) σ) : LoopQ E N inv ok m x Q (.exit id) σ := h
theorem lq_ret (h : Q .ret σ) : LoopQ E N inv ok m x Q .ret σ := h
theorem lq_goto {l : Nat} (h : Q (.goto l) σ) : LoopQ E N inv ok m x Q (.goto l) σ := h
theorem wk_drop {sl sl' : Slots} {H H' : List AO} (ex : List AO) (e : H' = H ++ ex) (h : SubS sl sl') (hs : clS H.length sl' = true) (ho : ClOs H.length H) (hk : Nat.ble E.k H.length = true) : Wk' E.k ⟨sl, H'⟩ ⟨sl', H⟩ := by subst e; exact .drop h hs ho hk
end
end Go.Proofs.Ytibmabidjacjlaa.L
