/- The logic, part 15: make. -/
import Derived.Test.YtibmabidjacjlaaLn
import Derived.Laws.MakeOwn
namespace Go.Proofs.Ytibmabidjacjlaa.L
open Go Go.RowKit
set_option linter.unusedVariables false
set_option linter.unusedSimpArgs false
variable {E : Env} {N : Nat} {ops : Array Oper} {Q : Exit → St → Prop} {sl : Slots} {H H' : List AO} {rest : List Oper}

theorem allPu_append : ∀ {xs ys : List AV}, allPu xs = true → allPu ys = true → allPu (xs ++ ys) = true := by
  intro xs
  induction xs with
  | nil => intro ys _ h; exact h
  | cons x xs ih =>
    intro ys h k
    simp only [allPu] at h
    split at h
    · rename_i hx
      simp only [List.cons_append, allPu, hx]
      exact ih h k
    · cases h
theorem allPu_rep {zs : List AV} (h : allPu zs = true) (n : Nat) : allPu (List.replicate n zs).flatten = true := by
  induction n with
  | zero => rfl
  | succ n ih => rw [List.replicate_succ, List.flatten_cons]; exact allPu_append h ih
theorem Sp.of {α : Type} {a b : List α} : Sp a.length (a ++ b) a b := by
  induction a with
  | nil => exact .zero
  | cons x a ih => exact .succ ih
theorem Chunk.rep {α : Type} (zs : List α) (n : Nat) : Chunk zs.length (List.replicate n zs).flatten (List.replicate n zs) := by
  induction n with
  | zero => exact .nil
  | succ n ih => rw [List.replicate_succ, List.flatten_cons]; exact .cons Sp.of ih

theorem al_makeSlice {t e : Nat} {n b sz bytes : Nat} {z0 z : Value} {d0 : Bool} [ti : TI E.P t (.slice e) n b z0] [te : TZ E.P e d0 sz bytes z] {l c : Operand} {kl kc : IntKind} {ln cn : Int} {m : Nat} {zv : AV} {zs : List AV} {rows : List (List AV)} {ty : TypeId} {pos : String} {after : Array Edge} {d : Nat}
    (hl : ev sl l = some (.int kl ln)) (hc : ev sl c = some (.int kc cn)) (hz : constAV z = some zv) (hzs : zv.cells = zs) (ha : allCell zs = true) (hzl : zs.length = sz) (h0 : 0 < sz) (hpu : allPu zs = true)
    (h1 : 0 ≤ ln) (h2 : ln ≤ cn) (h3 : (bytes : Int) * cn ≤ 281474976710656) (h63 : cn ≤ 9223372036854775807) (hr : List.replicate ln.toNat zs = rows) (hm : H.length = m) (hH : Snoc H (.row e sz 0 0 rows) H') (hd : Nat.blt d N = true)
    (h : AL E N ops Q rest ⟨(d, .os m 0) :: sl, H'⟩) : AL E N ops Q (⟨some d, .makeSlice t l c, ty, pos, after, none⟩ :: rest) ⟨sl, H⟩ := by
  subst hm
  subst hr
  rw [hH.eq] at h
  refine al_mem hd (fun I ν a w hh hs => ?_) h
  have el := (ev_ok hs hl).int_inv
  have ec := (ev_ok hs hc).int_inv
  obtain ⟨us, g1, g2, g3, g4⟩ := zeros_ok (w := w) (I := I) (ν := ν) hz hzs ha
  obtain ⟨q1, q2, q3⟩ := replicate_ok g2 g3 g4 ln.toNat
  have hul : us.length = sz := by omega
  have hch : Chunk sz (List.replicate ln.toNat zs).flatten (List.replicate ln.toNat zs) := by rw [← hzl]; exact Chunk.rep zs _
  have hR := rowRel_of (allPu_rep hpu _) hch q1 q2
  have hl' : (List.replicate ln.toNat us).flatten.length = ln.toNat * sz := by simp [hul]
  have e1 : madeCells z.cells (cn.toNat * sz) = (List.replicate cn.toNat us).flatten.toArray := by
    unfold madeCells
    rw [← range_zero us cn.toNat (by omega), hul, g1]
  have hown : (w.alloc (.cells (madeCells z.cells (cn.toNat * sz)) e)).ownsRow E.base e sz (.slice (some ⟨w.heap.size, 0, none⟩) ln.toNat cn.toNat) ln.toNat (List.replicate ln.toNat us).flatten :=
    ⟨hl', .inr ⟨w.heap.size, cn.toNat, _, rfl, hh.base, heap_alloc_new w _, by omega, by simp only [maxLen]; omega, size_madeCells _ _, by
      rw [e1]
      have e2 : List.replicate cn.toNat us = List.replicate ln.toNat us ++ List.replicate (cn.toNat - ln.toNat) us := by
        rw [List.replicate_append_replicate]
        congr 1
        omega
      have e3 : (List.replicate cn.toNat us).flatten = (List.replicate ln.toNat us).flatten ++ (List.replicate (cn.toNat - ln.toNat) us).flatten := by rw [e2, List.flatten_append]
      simp only [List.toList_toArray]
      rw [e3, ← hl', List.take_left]⟩⟩
  obtain ⟨ν', p1, p2, p3, p4⟩ := row_push hh h0 (by simp) hown hR (hh.below.alloc hh.base _) (by simp) (fun k hk => heap_alloc_old w _ k hk) (fun b hb => by simp [Value.ownBlock] at hb; omega)
  refine ⟨_, _, ν', fun o ho => ?_, p1, p2, p3, p4⟩
  obtain ⟨i, hi, hzz, hss, hbb⟩ := te.bytes
  have hrun := run_make (P := E.P) w t e i z ti.u hi hzz kl kc ln cn h1 h2 (by rw [hbb]; exact h3) h63
  rw [hss] at hrun
  simp only [execOp, ho]
  rw [el, ec]
  simp [hrun]

/-- A value that says less. -/
inductive AvLe1 : AV → AV → Prop where
  | refl (x : AV) : AvLe1 x x
  | nil : AvLe1 .nilsl (.rs [])
  | any (x : AV) : AvLe1 x .any
inductive AvLeL : List AV → List AV → Prop where
  | nil : AvLeL [] []
  | cons {x y : AV} {xs ys : List AV} (h : AvLe1 x y) (r : AvLeL xs ys) : AvLeL (x :: xs) (y :: ys)
inductive AvLe : AV → AV → Prop where
  | one {x y : AV} (h : AvLe1 x y) : AvLe x y
  | agg {xs ys : List AV} (h : AvLeL xs ys) : AvLe (.agg xs) (.agg ys)
theorem AvLe1.vr {w : World} {I : Imm} {ν : Nu} {x y : AV} (h : AvLe1 x y) {v : Value} (k : VR w I ν x v) : VR w I ν y v := by
  cases h with
  | refl => exact k
  | nil => rw [k.nilsl_inv]; exact .pure (.rs0 none 0)
  | any => exact .any v
theorem AvLeL.get {xs ys : List AV} (h : AvLeL xs ys) : xs.length = ys.length ∧ ∀ (j : Nat) y, ys[j]? = some y → ∃ x, xs[j]? = some x ∧ AvLe1 x y := by
  induction h with
  | nil => exact ⟨rfl, fun j y h => by simp at h⟩
  | @cons x y xs ys h r ih =>
    refine ⟨by simp [ih.1], fun j z hz => ?_⟩
    cases j with
    | zero => simp at hz; subst hz; exact ⟨x, rfl, h⟩
    | succ j => exact ih.2 j z (by simpa using hz)
theorem AvLe.vr {w : World} {I : Imm} {ν : Nu} {x y : AV} (h : AvLe x y) {v : Value} (k : VR w I ν x v) : VR w I ν y v := by
  cases h with
  | one h => exact h.vr k
  | agg h =>
    obtain ⟨vs, rfl, hl, hx⟩ := agg_inv k
    obtain ⟨g1, g2⟩ := h.get
    exact .agg _ vs (by omega) fun j y v hy hv => by
      obtain ⟨x, h1, h2⟩ := g2 j y hy
      exact h2.vr (hx j x v h1 hv)
theorem Wkn.le {sl : Slots} {H : List AO} (t : Nat) (y : AV) {x : AV} (ht : lk sl t = some x) (e : AvLe x y) : Wkn E N ⟨sl, H⟩ ⟨(t, y) :: sl, H⟩ := fun I ν a w hs =>
  ⟨I, ν, ⟨hs.hr, fun k z hz => by
    rw [lk_cons] at hz
    split at hz
    · rename_i h
      subst h
      injection hz with hz; subst hz
      exact e.vr (hs.sl t x ht)
    · exact hs.sl k z hz, hs.df, hs.nt⟩, FR.refl _ _ _ _⟩
end Go.Proofs.Ytibmabidjacjlaa.L
