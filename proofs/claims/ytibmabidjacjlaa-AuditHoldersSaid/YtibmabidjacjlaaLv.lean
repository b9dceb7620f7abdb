/- The logic, part 22: stores into own rows. -/
import Derived.Test.YtibmabidjacjlaaLu
namespace Go.Proofs.Ytibmabidjacjlaa.L
open Go Go.RowKit
set_option linter.unusedVariables false
set_option linter.unusedSimpArgs false

section
variable {E : Env} {I : Imm} {ν : Nu} {w w' : World} {H : List AO}
/-- A row holds something else. -/
theorem row_set (hh : HR E I ν H w) {id ver fz e sz : Nat} {xs xs' : List (List AV)} {inner' : List Value} (hid : H[id]? = some (.row e sz ver fz xs)) (hl : xs'.length = xs.length) (ho' : w'.ownsRow E.base e sz (ν.val id ver) xs'.length inner') (hr' : RowRel w' I sz xs' inner')
    (hb : Below E.base E.w0 w') (hs : w.heap.size ≤ w'.heap.size) (hk : ∀ k, k < w.heap.size → (ν.val id ver).ownBlock ≠ some k → w'.heap[k]? = w.heap[k]?) (hI : ImmLe w I w' I) :
    HR E I ν (H.set id (.row e sz ver fz xs')) w' ∧ FR E.k w I ν H w' I ν (H.set id (.row e sz ver fz xs')) := by
  cases hh.obj id _ hid with
  | row _ _ _ _ _ inner ht h0 ho hr hf hI0 =>
  exact hh.set (o' := .row e sz ver fz xs') hid (fun e => by cases e) (Nu.le.refl ν) rfl (fun _ _ => rfl) hb hs (fun k h1 h2 => hk k h1 (by simpa only [OB] using h2)) hI
    (.row e sz ver fz xs' inner' ht h0 ho' hr' (by omega) hI0) (fun b h => .inl (by simpa only [OB] using h))

/-- Which cells of a list of rows are put anew. -/
theorem rowRel_put {sz i off : Nat} {xs xs' : List (List AV)} {inner vs : List Value} {c c' cs : List AV} (hr : RowRel w I sz xs inner) (hi : xs[i]? = some c) (hP : PutN off c cs c') (hxs : xs' = xs.set i c') (hvl : cs.length = vs.length) (hI : ImmLe w I w' I)
    (hv : ∀ (j : Nat) x v, cs[j]? = some x → vs[j]? = some v → VP w I x v) : RowRel w' I sz xs' (inner.take (i * sz + off) ++ vs ++ inner.drop (i * sz + off + vs.length)) ∧ i * sz + off + vs.length ≤ xs.length * sz := by
  obtain ⟨hpl, hpe⟩ := hP.eq
  have hil := (List.getElem?_eq_some_iff.1 hi).1
  have hcl := (hr.2 i c hi).1
  have hmul : (i + 1) * sz ≤ xs.length * sz := Nat.mul_le_mul_right _ hil
  rw [Nat.add_mul, Nat.one_mul] at hmul
  have hp : i * sz + off + vs.length ≤ inner.length := by rw [hr.1]; omega
  refine ⟨⟨?_, fun k row hk => ?_⟩, by omega⟩
  · rw [hxs]
    simp only [List.length_append, List.length_take, List.length_drop, List.length_set]
    rw [hr.1] at hp ⊢
    omega
  rw [hxs] at hk
  have hnew : ∀ n : Nat, (inner.take (i * sz + off) ++ vs ++ inner.drop (i * sz + off + vs.length))[n]? = if n < i * sz + off then inner[n]? else if n < i * sz + off + vs.length then vs[n - (i * sz + off)]? else inner[n]? := by
    intro n
    by_cases c1 : n < i * sz + off
    · rw [if_pos c1, List.append_assoc, List.getElem?_append_left (by simp; omega), List.getElem?_take_of_lt c1]
    · rw [if_neg c1]
      by_cases c2 : n < i * sz + off + vs.length
      · rw [if_pos c2, List.append_assoc, List.getElem?_append_right (by simp; omega), List.getElem?_append_left (by simp; omega)]
        simp only [List.length_take, Nat.min_eq_left (show i * sz + off ≤ inner.length by omega)]
      · rw [if_neg c2, List.getElem?_append_right (by simp; omega)]
        simp only [List.length_append, List.length_take, Nat.min_eq_left (show i * sz + off ≤ inner.length by omega), List.getElem?_drop]
        congr 1
        omega
  by_cases e : i = k
  · subst e
    rw [List.getElem?_set_self hil] at hk
    injection hk with hk
    subst hk
    refine ⟨by rw [hpe]; simp; omega, fun j x hj => ?_⟩
    have hjl : j < sz := by
      have := (List.getElem?_eq_some_iff.1 hj).1
      rw [hpe] at this
      simp at this
      omega
    rw [hpe] at hj
    rw [hnew]
    by_cases c1 : j < off
    · rw [if_pos (by omega)]
      rw [List.append_assoc, List.getElem?_append_left (by simp; omega), List.getElem?_take_of_lt c1] at hj
      obtain ⟨u, h1, h2⟩ := (hr.2 i c hi).2 j x hj
      exact ⟨u, h1, h2.mono hI⟩
    · rw [if_neg (by omega)]
      by_cases c2 : j < off + cs.length
      · rw [if_pos (by omega)]
        rw [List.append_assoc, List.getElem?_append_right (by simp; omega), List.getElem?_append_left (by simp; omega)] at hj
        simp only [List.length_take, Nat.min_eq_left (show off ≤ c.length by omega)] at hj
        have hjv : j - off < vs.length := by omega
        refine ⟨vs[j - off], ?_, (hv _ x _ hj (List.getElem?_eq_getElem hjv)).mono hI⟩
        rw [show i * sz + j - (i * sz + off) = j - off by omega]
        exact List.getElem?_eq_getElem hjv
      · rw [if_neg (by omega)]
        rw [List.getElem?_append_right (by simp; omega)] at hj
        simp only [List.length_append, List.length_take, Nat.min_eq_left (show off ≤ c.length by omega), List.getElem?_drop] at hj
        rw [show off + cs.length + (j - (off + cs.length)) = j by omega] at hj
        obtain ⟨u, h1, h2⟩ := (hr.2 i c hi).2 j x hj
        exact ⟨u, h1, h2.mono hI⟩
  · rw [List.getElem?_set_ne e] at hk
    obtain ⟨h1, h2⟩ := hr.2 k row hk
    refine ⟨h1, fun j x hj => ?_⟩
    obtain ⟨u, h3, h4⟩ := h2 j x hj
    have hjl : j < sz := by rw [← h1]; exact (List.getElem?_eq_some_iff.1 hj).1
    refine ⟨u, ?_, h4.mono hI⟩
    rw [hnew]
    have hcase : k * sz + j < i * sz + off ∨ i * sz + off + vs.length ≤ k * sz + j := by
      rcases Nat.lt_or_ge k i with h5 | h5
      · have : (k + 1) * sz ≤ i * sz := Nat.mul_le_mul_right _ h5
        rw [Nat.add_mul, Nat.one_mul] at this
        exact .inl (by omega)
      · have : (i + 1) * sz ≤ k * sz := Nat.mul_le_mul_right _ (by omega)
        rw [Nat.add_mul, Nat.one_mul] at this
        exact .inr (by omega)
    rcases hcase with h5 | h5
    · rw [if_pos h5]; exact h3
    · rw [if_neg (by omega), if_neg (by omega)]; exact h3
end

section
variable {E : Env} {N : Nat} {ops : Array Oper} {Q : Exit → St → Prop} {rest : List Oper} {sl : Slots} {H H' : List AO}
/-- A store into an element of an own row. -/
theorem al_store_er {t : Nat} {dd : Bool} {n b : Nat} {z : Value} [ti : TZ E.P t dd n b z] {p x : Operand} {id ver ver' sz sz' fz e i off : Nat} {xs xs' : List (List AV)} {c c' : List AV} {xv : AV} {cs : List AV} {ty : TypeId} {pos : String} {after : Array Edge}
    (hp : ev sl p = some (.er id ver sz i off)) (hx : ev sl x = some xv) (hc : xv.cells = cs) (ha : allPu cs = true) (ha' : allCell cs = true) (hn : cs.length = n)
    (hU : Upd id H (.row e sz' ver' fz xs) (.row e sz' ver' fz xs') H') (hv : ver = ver') (hsz : sz = sz') (hfz : fz ≤ i) (hi : xs[i]? = some c) (hP : PutN off c cs c') (hxs : xs' = xs.set i c')
    (h : AL E N ops Q rest ⟨sl, H'⟩) : AL E N ops Q (⟨none, .store t p x, ty, pos, after, none⟩ :: rest) ⟨sl, H⟩ := by
  obtain ⟨hid, hset⟩ := hU.eq
  subst hset; subst hv; subst hsz
  refine al_mem0 (fun I ν a w hh hs => ?_) h
  obtain ⟨vs, hvv, hl, hxx, hone⟩ := (ev_ok hs hx).cells_ok hc ha'
  have hp' := ev_ok hs hp
  obtain ⟨pv, hpv⟩ : ∃ v, a.eval p = v := ⟨_, rfl⟩
  rw [hpv] at hp'
  cases hp' with
  | pure hp' => cases hp'
  | er _ _ _ _ _ g nn cc hidl hver hval =>
  have hob := hh.obj id _ hid
  cases hob with
  | row _ _ _ _ _ inner ht h0 ho hr hf hI0 =>
  have hil := (List.getElem?_eq_some_iff.1 hi).1
  have hpu : ∀ (j : Nat) y u, cs[j]? = some y → vs[j]? = some u → VP w I y u := fun j y u h1 h2 => (hxx j y u h1 h2).pu (allPu_get ha j y h1)
  obtain ⟨g', cap, hval', _, _⟩ := ho.form (by omega)
  rcases ho.2 with ⟨e1, e2⟩ | ⟨g2, cap2, cur, e1, hbase, hheap, hncap, hcm, hcs, htake⟩
  · omega
  rw [hval] at e1
  injection e1 with e1 e1b e1c
  injection e1 with e1
  injection e1 with e1
  subst e1; subst e1b; subst e1c
  have hob1 : (ν.val id ver).ownBlock = some g := by rw [hval]; rfl
  obtain ⟨hrel0, hin⟩ := rowRel_put (w' := w) hr hi hP hxs hl (ImmLe.refl w I) hpu
  have hinn : inner.length = xs.length * sz := hr.1
  have hcap : xs.length * sz ≤ cc * sz := Nat.mul_le_mul_right _ hncap
  have hst := run_storeCells_at E.P g (i * sz + off) e vs 0 cur w hheap (by omega) hone
  simp only [Nat.add_zero] at hst
  obtain ⟨cur', hcur⟩ : ∃ cur', cur' = cur.toList.take (i * sz + off) ++ vs ++ cur.toList.drop (i * sz + off + vs.length) := ⟨_, rfl⟩
  rw [← hcur] at hst
  obtain ⟨w', hw'⟩ : ∃ w', w' = w.setRow g cur'.toArray := ⟨_, rfl⟩
  rw [← hw'] at hst
  have hheap' : w'.heap[g]? = some (.cells cur'.toArray e (0, 0)) := by rw [hw']; exact setRow_heap w g _ _ e _ hheap
  have hfar : ∀ k, k ≠ g → w'.heap[k]? = w.heap[k]? := fun k hk => by rw [hw']; exact setRow_other w g k _ hk
  have hI : ImmLe w I w' I := ⟨fun _ _ h => h, fun b o hb => by
    by_cases e : b = g
    · subst e
      have hlt := hI0 b o hob1 hb
      have hlt2 : o < i * sz + off := by
        have : fz * sz ≤ i * sz := Nat.mul_le_mul_right _ hfz
        omega
      rw [cell_of_row _ b o _ _ _ hheap', cell_of_row _ b o _ _ _ hheap, hcur]
      simp only [List.getElem?_toArray, List.append_assoc]
      rw [List.getElem?_append_left (by simp; omega), List.getElem?_take_of_lt hlt2, Array.getElem?_toList]
    · exact World.cell?_of_block (w := w) (a := ⟨b, o, none⟩) (hfar b e)⟩
  have hrel := (rowRel_put (w' := w') hr hi hP hxs hl hI hpu).1
  have hbel : Below E.base E.w0 w' := by
    rw [hw']
    refine hh.below.trans ⟨rfl, rfl, rfl, by simp [World.setRow], fun k hk => ?_⟩
    exact setRow_other w g k _ (by omega)
  have hlx : xs'.length = xs.length := by rw [hxs]; simp
  have := row_set (w' := w') hh hid hlx (inner' := inner.take (i * sz + off) ++ vs ++ inner.drop (i * sz + off + vs.length)) (by
    rw [hlx]
    refine ⟨by rw [hrel0.1, hlx], .inr ⟨g, cc, cur'.toArray, hval, hbase, hheap', hncap, hcm, ?_, ?_⟩⟩
    · rw [hcur]
      simp only [List.size_toArray, List.length_append, List.length_take, List.length_drop, Array.length_toList]
      omega
    · rw [hcur]
      simp only []
      rw [← htake]
      rw [List.take_append, List.take_append, List.take_take, List.take_take]
      have a1 : min (xs.length * sz) (i * sz + off) = i * sz + off := by omega
      have a2 : min (i * sz + off) (xs.length * sz) = i * sz + off := by omega
      have a3 : (cur.toList.take (i * sz + off)).length = i * sz + off := by simp; omega
      rw [a1, a2, a3]
      have a4 : (cur.toList.take (i * sz + off) ++ vs).length = i * sz + off + vs.length := by simp; omega
      rw [a4, List.take_of_length_le (l := vs) (by omega)]
      congr 1
      rw [List.take_drop]
      congr 2
      omega) hrel hbel (by rw [hw']; simp [World.setRow]) (fun k _ hk => hfar k (fun e => hk (by rw [hob1, e]))) hI
  refine ⟨w', ν, fun o ho' => ?_, this.1, this.2, Nu.le.refl ν⟩
  simp [execOp, ho', Instr.storeAt, Instr.sureAddr, hpv, storeVar, hvv, ti.size, show vs.length = n by omega, hst]
end
end Go.Proofs.Ytibmabidjacjlaa.L
