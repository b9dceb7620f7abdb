/- The logic, part 7: operations that make or change memory. -/
import Derived.Test.YtibmabidjacjlaaLf
import Derived.Deep.AppendSrc
import Derived.Laws.CopyRow
namespace Go.Proofs.Ytibmabidjacjlaa.L
open Go Go.RowKit
set_option linter.unusedVariables false
set_option linter.unusedSimpArgs false

inductive Snoc {α : Type} : List α → α → List α → Prop where
  | nil {o : α} : Snoc [] o [o]
  | cons {a o : α} {l l' : List α} (h : Snoc l o l') : Snoc (a :: l) o (a :: l')
theorem Snoc.eq {α : Type} {l l' : List α} {o : α} (h : Snoc l o l') : l' = l ++ [o] := by induction h <;> simp [*]
inductive Upd {α : Type} : Nat → List α → α → α → List α → Prop where
  | zero {o o' : α} {l : List α} : Upd 0 (o :: l) o o' (o' :: l)
  | succ {n : Nat} {a o o' : α} {l l' : List α} (h : Upd n l o o' l') : Upd (n + 1) (a :: l) o o' (a :: l')
theorem Upd.eq {α : Type} {n : Nat} {l l' : List α} {o o' : α} (h : Upd n l o o' l') : l[n]? = some o ∧ l' = l.set n o' := by induction h <;> simp [*]
inductive PutN {α : Type} : Nat → List α → List α → List α → Prop where
  | done {l : List α} : PutN 0 l [] l
  | here {a c : α} {l cs l' : List α} (h : PutN 0 l cs l') : PutN 0 (a :: l) (c :: cs) (c :: l')
  | skip {n : Nat} {a : α} {l cs l' : List α} (h : PutN n l cs l') : PutN (n + 1) (a :: l) cs (a :: l')
theorem PutN.eq {α : Type} {n : Nat} {l cs l' : List α} (h : PutN n l cs l') : n + cs.length ≤ l.length ∧ l' = l.take n ++ cs ++ l.drop (n + cs.length) := by
  induction h with
  | done => simp
  | here h ih => obtain ⟨h1, h2⟩ := ih; subst h2; simp at h1 ⊢; exact h1
  | skip h ih =>
    obtain ⟨h1, h2⟩ := ih
    subst h2
    simp only [List.length_cons, List.take_succ_cons, List.cons_append]
    refine ⟨by omega, ?_⟩
    rw [Nat.add_right_comm, List.drop_succ_cons]

section
variable {E : Env} {N : Nat} {ops : Array Oper} {Q : Exit → St → Prop} {rest : List Oper} {sl : Slots} {H H' : List AO}

/-- The step that a rule of memory makes. -/
theorem al_mem {op : Op} {ty : TypeId} {pos : String} {after : Array Edge} {d : Nat} {x : AV} (hd : Nat.blt d N = true)
    (hv : ∀ I ν a w, HR E I ν H w → SlR w I ν sl a → ∃ v w' ν', (∀ o : Oper, o.op = op → (execOp a.eval o).run E.P w = .ok (.value v) w') ∧ HR E I ν' H' w' ∧ FR E.k w I ν H w' I ν' H' ∧ ν.le ν' ∧ VR w' I ν' x v)
    (h : AL E N ops Q rest ⟨(d, x) :: sl, H'⟩) : AL E N ops Q (⟨some d, op, ty, pos, after, none⟩ :: rest) ⟨sl, H⟩ := by
  intro I ν a w hs w0 I0 ν0 o0 hf
  obtain ⟨v, w', ν', hr, hh, hfr, hν, hx⟩ := hv I ν a w hs.hr hs.sl
  refine wpList_plain rfl fun K hK => ?_
  unfold Oper.wp
  rw [hr _ rfl]
  refine hK _ _ (h I ν' _ w' ⟨hh, (hs.sl.mono hfr.imm hν).put d hx (by rw [hs.nt]; simpa [Nat.blt_eq] using hd), hs.df, by simp [Act.put, hs.nt]⟩ w0 I0 ν0 o0 (hf.trans hfr))
theorem al_mem0 {op : Op} {ty : TypeId} {pos : String} {after : Array Edge}
    (hv : ∀ I ν a w, HR E I ν H w → SlR w I ν sl a → ∃ w' ν', (∀ o : Oper, o.op = op → (execOp a.eval o).run E.P w = .ok .skip w') ∧ HR E I ν' H' w' ∧ FR E.k w I ν H w' I ν' H' ∧ ν.le ν')
    (h : AL E N ops Q rest ⟨sl, H'⟩) : AL E N ops Q (⟨none, op, ty, pos, after, none⟩ :: rest) ⟨sl, H⟩ := by
  intro I ν a w hs w0 I0 ν0 o0 hf
  obtain ⟨w', ν', hr, hh, hfr, hν⟩ := hv I ν a w hs.hr hs.sl
  refine wpList_plain rfl fun K hK => ?_
  unfold Oper.wp
  rw [hr _ rfl]
  exact hK _ _ (h I ν' _ w' ⟨hh, hs.sl.mono hfr.imm hν, hs.df, hs.nt⟩ w0 I0 ν0 o0 (hf.trans hfr))

theorem run_newVar (P : Program) (w : World) (e : TypeId) (v : Value) : (newVar e v).run P w = .ok ⟨w.heap.size, 0, none⟩ (w.alloc (.cells v.cells e)) := by
  simp [newVar, newRow, newObj, Sem.run, bind, Sem.bind, pure]

/-- A new box. -/
theorem box_push {I : Imm} {ν : Nu} {w : World} (hh : HR E I ν H w) {cs : List AV} {vs : List Value} {e : TypeId} (hl : cs.length = vs.length) (hx : ∀ (j : Nat) y u, cs[j]? = some y → vs[j]? = some u → VR w I ν y u) :
    ∃ ν', HR E I ν' (H ++ [.box cs]) (w.alloc (.cells vs.toArray e)) ∧ FR E.k w I ν H (w.alloc (.cells vs.toArray e)) I ν' (H ++ [.box cs]) ∧ ν.le ν' ∧ VR (w.alloc (.cells vs.toArray e)) I ν' (.op H.length 0) (.pointer (some ⟨w.heap.size, 0, none⟩)) := by
  have hle := ν.add_le 0 fun _ => .pointer (some ⟨w.heap.size, 0, none⟩)
  have hk : ∀ k, k < w.heap.size → (w.alloc (.cells vs.toArray e)).heap[k]? = w.heap[k]? := fun k h => heap_alloc_old w _ k h
  have hI : ImmLe w I (w.alloc (.cells vs.toArray e)) I := ImmLe.heap hh fun k h _ => hk k h
  have := hh.push (o := .box cs) (t := 0) (f := fun _ => .pointer (some ⟨w.heap.size, 0, none⟩)) (w' := w.alloc (.cells vs.toArray e)) (hh.below.alloc hh.base _) (by simp) hk
    (.box cs w.heap.size vs e (by simp [Nu.add]) hh.base (heap_alloc_new w _) hl (fun j y u h1 h2 => (hx j y u h1 h2).mono hI hle) (fun o ho => by
      obtain ⟨v, hv⟩ := hh.imm _ _ ho
      have := World.block_lt_of_cell? w _ hv
      simp at this))
    (fun b hb => by simp only [OB, Nu.add, if_true, Option.some.injEq] at hb; omega)
  refine ⟨_, this.1, this.2.1, hle, ?_⟩
  exact .op _ 0 w.heap.size (by simp [Nu.add, hh.n]) (by simp [Nu.add, hh.n])

theorem al_box {e : TypeId} {x : Operand} {xv : AV} {cs : List AV} {ty : TypeId} {pos : String} {after : Array Edge} {d n : Nat} (hx : ev sl x = some xv) (hc : xv.cells = cs) (ha : allCell cs = true) (hn : H.length = n) (hH : Snoc H (.box cs) H') (hd : Nat.blt d N = true)
    (h : AL E N ops Q rest ⟨(d, .op n 0) :: sl, H'⟩) : AL E N ops Q (⟨some d, .box e x, ty, pos, after, none⟩ :: rest) ⟨sl, H⟩ := by
  subst hn
  rw [hH.eq] at h
  refine al_mem hd (fun I ν a w hh hs => ?_) h
  obtain ⟨vs, hv, hl, hxx, _⟩ := (ev_ok hs hx).cells_ok hc ha
  obtain ⟨ν', h1, h2, h3, h4⟩ := box_push (e := e) hh hl hxx
  exact ⟨_, _, ν', fun o ho => by simp [execOp, ho, Instr.box, run_newVar, hv], h1, h2, h3, h4⟩

theorem al_alloc {e : Nat} {dd : Bool} {n' b : Nat} {z : Value} [ti : TZ E.P e dd n' b z] {zv : AV} {cs : List AV} {ty : TypeId} {pos : String} {after : Array Edge} {d n : Nat} (hz : constAV z = some zv) (hc : zv.cells = cs) (ha : allCell cs = true) (hn : H.length = n) (hH : Snoc H (.box cs) H') (hd : Nat.blt d N = true)
    (h : AL E N ops Q rest ⟨(d, .op n 0) :: sl, H'⟩) : AL E N ops Q (⟨some d, .alloc e, ty, pos, after, none⟩ :: rest) ⟨sl, H⟩ := by
  subst hn
  rw [hH.eq] at h
  refine al_mem hd (fun I ν a w hh hs => ?_) h
  obtain ⟨vs, hv, hl, hxx, _⟩ := (constAV_ok (w := w) (I := I) (ν := ν) hz).cells_ok hc ha
  obtain ⟨ν', h1, h2, h3, h4⟩ := box_push (e := e) hh hl hxx
  exact ⟨_, _, ν', fun o ho => by simp [execOp, ho, Instr.alloc, run_newVar, hv, ti.zero], h1, h2, h3, h4⟩

/-- A store into a box. -/
theorem al_store {t : Nat} {dd : Bool} {n b : Nat} {z : Value} [ti : TZ E.P t dd n b z] {p x : Operand} {id off : Nat} {xv : AV} {cs cells cells' : List AV} {ty : TypeId} {pos : String} {after : Array Edge} (hp : ev sl p = some (.op id off)) (hx : ev sl x = some xv) (hc : xv.cells = cs) (ha : allCell cs = true) (hn : cs.length = n)
    (hU : Upd id H (.box cells) (.box cells') H') (hP : PutN off cells cs cells')
    (h : AL E N ops Q rest ⟨sl, H'⟩) : AL E N ops Q (⟨none, .store t p x, ty, pos, after, none⟩ :: rest) ⟨sl, H⟩ := by
  obtain ⟨hid, hset⟩ := hU.eq
  subst hset
  obtain ⟨hpl, hpe⟩ := hP.eq
  refine al_mem0 (fun I ν a w hh hs => ?_) h
  obtain ⟨vs, hv, hl, hxx, hone⟩ := (ev_ok hs hx).cells_ok hc ha
  have hp' := ev_ok hs hp
  obtain ⟨pv, hpv⟩ : ∃ v, a.eval p = v := ⟨_, rfl⟩
  rw [hpv] at hp'
  cases hp' with
  | pure hp' => cases hp'
  | op _ _ bk hi hval =>
  have hob := hh.obj id _ hid
  cases hob with
  | box _ b' us ty' hv' hb' hheap hl' hx' hI' =>
  rw [hval] at hv'
  injection hv' with e1; injection e1 with e1; injection e1 with e1
  subst e1
  have hst := run_storeCells_at E.P bk off ty' vs 0 us.toArray w hheap (by simp; omega) hone
  simp only [Nat.add_zero] at hst
  obtain ⟨us', hus⟩ : ∃ us', us' = us.take off ++ vs ++ us.drop (off + vs.length) := ⟨_, rfl⟩
  rw [show (us.toArray.toList.take off ++ vs ++ us.toArray.toList.drop (off + vs.length)).toArray = us'.toArray by simp [hus]] at hst
  obtain ⟨w', hw'⟩ : ∃ w', w' = w.setRow bk us'.toArray := ⟨_, rfl⟩
  rw [← hw'] at hst
  have hheap' : w'.heap[bk]? = some (.cells us'.toArray ty' (0, 0)) := by rw [hw']; exact setRow_heap w bk _ _ ty' _ hheap
  have hfar : ∀ k, k ≠ bk → w'.heap[k]? = w.heap[k]? := fun k hk => by rw [hw']; exact setRow_other w bk k _ hk
  have hI : ImmLe w I w' I := ImmLe.heap hh fun k _ ⟨o, ho⟩ => hfar k (fun e => hI' o (e ▸ ho))
  have hOB : OB ν id (.box cells) = some bk := by simp only [OB, hval]
  have hbel : Below E.base E.w0 w' := by
    rw [hw']
    refine hh.below.trans ⟨rfl, rfl, rfl, by simp [World.setRow], fun k hk => ?_⟩
    exact setRow_other w bk k _ (by omega)
  have := hh.set (o' := .box cells') (w' := w') hid (fun e => by cases e) (Nu.le.refl ν) rfl (fun _ _ => rfl) hbel (by rw [hw']; simp [World.setRow])
    (fun k _ hk => hfar k (fun e => hk (by rw [hOB, e]))) hI
    (.box cells' bk us' ty' hval hb' hheap' (by rw [hpe, hus]; simp; omega) (fun j y u h1 h2 => by
      rw [hpe] at h1
      rw [hus] at h2
      have hle : us.length = cells.length := hl'.symm
      by_cases c1 : j < off
      · rw [List.append_assoc, List.getElem?_append_left (by simp; omega), List.getElem?_take_of_lt c1] at h1 h2
        exact (hx' j y u h1 h2).mono hI (Nu.le.refl ν)
      · by_cases c2 : j < off + cs.length
        · rw [List.append_assoc, List.getElem?_append_right (by simp; omega), List.getElem?_append_left (by simp; omega)] at h1 h2
          simp only [List.length_take, Nat.min_eq_left (show off ≤ cells.length by omega), Nat.min_eq_left (show off ≤ us.length by omega)] at h1 h2
          exact (hxx _ y u h1 h2).mono hI (Nu.le.refl ν)
        · rw [List.getElem?_append_right (by simp; omega)] at h1 h2
          simp only [List.length_append, List.length_take, Nat.min_eq_left (show off ≤ cells.length by omega), Nat.min_eq_left (show off ≤ us.length by omega), List.getElem?_drop] at h1 h2
          rw [← hl] at h2
          exact (hx' _ y u h1 h2).mono hI (Nu.le.refl ν)) hI')
    (fun b' hb => by simp only [OB, hval, Option.some.injEq] at hb; exact .inl (by rw [hOB, ← hb]))
  refine ⟨w', ν, fun o ho => ?_, this.1, this.2, Nu.le.refl ν⟩
  simp [execOp, ho, Instr.storeAt, Instr.sureAddr, hpv, storeVar, hv, ti.size, show vs.length = n by omega, hst]
end
end Go.Proofs.Ytibmabidjacjlaa.L
