/- The logic, part 6: how the state of memory moves on: an object more, an object changed. -/
import Derived.Test.YtibmabidjacjlaaLe
namespace Go.Proofs.Ytibmabidjacjlaa.L
open Go Go.RowKit
set_option linter.unusedVariables false
set_option linter.unusedSimpArgs false

section
variable {E : Env} {I I' : Imm} {ν ν' : Nu} {w w' : World} {sl : Slots} {H : List AO}

theorem OB_lt {id : Nat} {o : AO} (h : OR E w I ν id o) {b : Nat} (hb : OB ν id o = some b) : b < w.heap.size ∧ E.base ≤ b := by
  cases h with
  | gone => simp [OB] at hb
  | box cells b' vs ty hv hb' hh hl hx hI =>
    simp only [OB, hv, Option.some.injEq] at hb
    subst hb
    exact ⟨(Array.getElem?_eq_some_iff.1 hh).1, hb'⟩
  | row e sz ver fz xs inner ht h0 ho hr hf hI =>
    have := ho.lt b hb
    exact ⟨this.2, this.1⟩
  | map es b' en hv hb' hh hr =>
    simp only [OB, hv, Option.some.injEq] at hb
    subst hb
    exact ⟨(Array.getElem?_eq_some_iff.1 hh).1, hb'⟩
  | iter mid n seen r b' hv hb' hm hmv hh hk =>
    simp only [OB, hv, Option.some.injEq] at hb
    subst hb
    exact ⟨(Array.getElem?_eq_some_iff.1 hh).1, hb'⟩

theorem MapRel.mono {es : List (AV × AV)} {en : List MapEntry} (h : MapRel w I es en) (hI : ImmLe w I w' I') : MapRel w' I' es en :=
  ⟨h.1, fun i p x hp hx => ⟨(h.2 i p x hp hx).1, (h.2 i p x hp hx).2.1.mono hI (Nu.le.refl _), (h.2 i p x hp hx).2.2.mono hI (Nu.le.refl _)⟩⟩

theorem OB_same {id : Nat} {o : AO} (h : OR E w I ν id o) (hν : ν.le ν') (hid : id < ν.n) : OB ν' id o = OB ν id o := by
  cases h with
  | gone => rfl
  | box cells b' vs ty hv hb' hh hl hx hI => simp only [OB, hν.val id 0 hid (Nat.zero_le _)]
  | row e sz ver fz xs inner ht h0 ho hr hf hI => simp only [OB, hν.val id ver hid (by rw [ht]; exact Nat.le_refl _)]
  | map es b' en hv hb' hh hr => simp only [OB, hν.val id 0 hid (Nat.zero_le _)]
  | iter mid n seen r b' hv hb' hm hmv hh hk => simp only [OB, hν.val id 0 hid (Nat.zero_le _)]

theorem OR.mono {id : Nat} {o : AO} (h : OR E w I ν id o) (hI : ImmLe w I w' I') (hν : ν.le ν') (hid : id < ν.n) (ht : ν'.top id = ν.top id) (hb : ∀ b, OB ν id o = some b → w'.heap[b]? = w.heap[b]?)
    (hn : ∀ b o', OB ν id o = some b → I' b o' → I b o') : OR E w' I' ν' id o := by
  cases h with
  | gone => exact .gone
  | box cells b vs ty hv hb' hh hl hx hI' =>
    have hob : OB ν id (.box cells) = some b := by simp only [OB, hv]
    exact .box cells b vs ty ((hν.val id 0 hid (Nat.zero_le _)).trans hv) hb' ((hb b hob).trans hh) hl (fun j x v h1 h2 => (hx j x v h1 h2).mono hI hν) (fun o ho => hI' o (hn b o hob ho))
  | row e sz ver fz xs inner ht' h0 ho hr hf hI' =>
    have hval := hν.val id ver hid (by rw [ht']; exact Nat.le_refl _)
    refine .row e sz ver fz xs inner (ht.trans ht') h0 ?_ ⟨hr.1, fun i c hc => ⟨(hr.2 i c hc).1, fun j x hx => ?_⟩⟩ hf (fun b o hb' hi => ?_)
    · rw [hval]
      refine ⟨ho.1, ?_⟩
      rcases ho.2 with h1 | ⟨g, cap, cur, h1, h2, h3, h4⟩
      · exact .inl h1
      · exact .inr ⟨g, cap, cur, h1, h2, (hb g (by simp only [OB, h1, Value.ownBlock])).trans h3, h4⟩
    · obtain ⟨u, hu, hvr⟩ := (hr.2 i c hc).2 j x hx
      exact ⟨u, hu, hvr.mono hI⟩
    · rw [hval] at hb'
      exact hI' b o hb' (hn b o hb' hi)
  | map es b' en hv hb' hh hr =>
    exact .map es b' en ((hν.val id 0 hid (Nat.zero_le _)).trans hv) hb' ((hb b' (by simp only [OB, hv])).trans hh) (hr.mono hI)
  | iter mid n seen r b' hv hb' hm hmv hh hk =>
    exact .iter mid n seen r b' ((hν.val id 0 hid (Nat.zero_le _)).trans hv) hb' (Nat.lt_of_lt_of_le hm hν.n) ((hν.val mid 0 hm (Nat.zero_le _)).trans hmv) ((hb r (by simp only [OB, hv])).trans hh) hk

theorem HR.idlt (hh : HR E I ν H w) {id : Nat} {o : AO} (h : H[id]? = some o) : id < ν.n := by
  rw [hh.n]; exact (List.getElem?_eq_some_iff.1 h).1

theorem ImmLe.heap (hh : HR E I ν H w) (hk : ∀ k, k < w.heap.size → (∃ o, I k o) → w'.heap[k]? = w.heap[k]?) : ImmLe w I w' I := by
  refine ⟨fun _ _ h => h, fun b o h => ?_⟩
  obtain ⟨v, hv⟩ := hh.imm b o h
  exact World.cell?_of_block (w := w) (a := ⟨b, o, none⟩) (hk b (World.block_lt_of_cell? w _ hv) ⟨o, h⟩)

/-- One id more. -/
def Nu.add (ν : Nu) (t : Nat) (f : Nat → Value) : Nu :=
  ⟨ν.n + 1, fun i => if i = ν.n then t else ν.top i, fun i v => if i = ν.n then f v else ν.val i v⟩
theorem Nu.add_le (ν : Nu) (t : Nat) (f : Nat → Value) : ν.le (ν.add t f) :=
  ⟨by simp [Nu.add], fun id h => by simp [Nu.add, Nat.ne_of_lt h], fun id ver h _ => by simp [Nu.add, Nat.ne_of_lt h]⟩

theorem HR.push (hh : HR E I ν H w) {o : AO} {t : Nat} {f : Nat → Value} (hb : Below E.base E.w0 w') (hs : w.heap.size ≤ w'.heap.size) (hk : ∀ k, k < w.heap.size → w'.heap[k]? = w.heap[k]?)
    (ho : OR E w' I (ν.add t f) ν.n o) (hB : ∀ b, OB (ν.add t f) ν.n o = some b → w.heap.size ≤ b) :
    HR E I (ν.add t f) (H ++ [o]) w' ∧ FR E.k w I ν H w' I (ν.add t f) (H ++ [o]) ∧ ImmLe w I w' I := by
  have hI : ImmLe w I w' I := ImmLe.heap hh fun k h _ => hk k h
  have hle := ν.add_le t f
  have hold : ∀ (id : Nat) o', (H ++ [o])[id]? = some o' → (H[id]? = some o' ∧ id < ν.n) ∨ (id = ν.n ∧ o' = o) := by
    intro id o' h
    rcases Nat.lt_or_ge id H.length with hlt | hge
    · rw [List.getElem?_append_left hlt] at h
      exact .inl ⟨h, by rw [hh.n]; exact hlt⟩
    · rw [List.getElem?_append_right hge] at h
      have : id - H.length = 0 := by
        rcases Nat.eq_zero_or_pos (id - H.length) with h0 | h0
        · exact h0
        · rw [List.getElem?_eq_none (by simp; omega)] at h; cases h
      rw [this] at h
      simp at h
      exact .inr ⟨by rw [hh.n]; omega, h.symm⟩
  have hOB : ∀ (id : Nat) o', H[id]? = some o' → OB (ν.add t f) id o' = OB ν id o' := fun id o' h => OB_same (hh.obj id o' h) hle (hh.idlt h)
  refine ⟨⟨by simp [Nu.add, hh.n], hb, Nat.le_trans hh.base hs, fun b o' h => ?_, fun id o' h => ?_, ?_⟩, ⟨hI, hs, fun b o' h => .inl h, fun b h _ => hk b h, fun b ⟨id, o', h, h2⟩ => ?_, hle.ag _, fun id _ h => ⟨by simp [Nu.add, Nat.ne_of_lt (hh.idlt h)], by rw [List.getElem?_append_left (List.getElem?_eq_some_iff.1 h).1]; exact h⟩⟩, hI⟩
  · obtain ⟨v, hv⟩ := hh.imm b o' h
    exact ⟨v, (hI.2 b o' h).trans hv⟩
  · rcases hold id o' h with ⟨h1, h2⟩ | ⟨rfl, rfl⟩
    · exact (hh.obj id o' h1).mono hI hle h2 (by simp [Nu.add, Nat.ne_of_lt h2]) (fun b hb' => hk b (OB_lt (hh.obj id o' h1) hb').1) (fun _ _ _ h => h)
    · exact ho
  · intro id id' o1 o2 b h1 h2 e1 e2
    rcases hold id o1 h1 with ⟨k1, l1⟩ | ⟨rfl, rfl⟩ <;> rcases hold id' o2 h2 with ⟨k2, l2⟩ | ⟨rfl, rfl⟩
    · rw [hOB id o1 k1] at e1
      rw [hOB id' o2 k2] at e2
      exact hh.disj id id' o1 o2 b k1 k2 e1 e2
    · rw [hOB id o1 k1] at e1
      have := (OB_lt (hh.obj id o1 k1) e1).1
      have := hB b e2
      omega
    · rw [hOB id' o2 k2] at e2
      have := (OB_lt (hh.obj id' o2 k2) e2).1
      have := hB b e1
      omega
    · rfl
  · rcases hold id o' h with ⟨k1, l1⟩ | ⟨rfl, rfl⟩
    · rw [hOB id o' k1] at h2
      exact .inl ⟨id, o', k1, h2⟩
    · exact .inr (hB b h2)

theorem HR.set (hh : HR E I ν H w) {id : Nat} {o o' : AO} (hid : H[id]? = some o) (hgo : o ≠ .gone) (hν : ν.le ν') (hn : ν'.n = ν.n) (ht : ∀ j, j ≠ id → ν'.top j = ν.top j)
    (hb : Below E.base E.w0 w') (hs : w.heap.size ≤ w'.heap.size) (hk : ∀ k, k < w.heap.size → OB ν id o ≠ some k → w'.heap[k]? = w.heap[k]?) (hI : ImmLe w I w' I)
    (ho : OR E w' I ν' id o') (hB : ∀ b, OB ν' id o' = some b → OB ν id o = some b ∨ w.heap.size ≤ b) :
    HR E I ν' (H.set id o') w' ∧ FR E.k w I ν H w' I ν' (H.set id o') := by
  have hlt : id < H.length := (List.getElem?_eq_some_iff.1 hid).1
  have hold : ∀ (j : Nat) q, (H.set id o')[j]? = some q → (j ≠ id ∧ H[j]? = some q) ∨ (j = id ∧ q = o') := by
    intro j q h
    by_cases e : j = id
    · subst e
      rw [List.getElem?_set_self hlt] at h
      exact .inr ⟨rfl, by simpa using h.symm⟩
    · rw [List.getElem?_set_ne (Ne.symm e)] at h
      exact .inl ⟨e, h⟩
  have hOB : ∀ (j : Nat) q, H[j]? = some q → OB ν' j q = OB ν j q := fun j q h => OB_same (hh.obj j q h) hν (hh.idlt h)
  have hne : ∀ (j : Nat) q b, j ≠ id → H[j]? = some q → OB ν j q = some b → OB ν id o ≠ some b := fun j q b hj h e1 e2 => hj (hh.disj j id q o b h hid e1 e2)
  refine ⟨⟨by rw [hn, hh.n]; simp, hb, Nat.le_trans hh.base hs, fun b q h => ?_, fun j q h => ?_, ?_⟩, ⟨hI, hs, fun b q h => .inl h, fun b h h2 => hk b h (fun e => h2 ⟨id, o, hid, e⟩), fun b ⟨j, q, h, h2⟩ => ?_, hν.ag _, fun j _ h => ?_⟩⟩
  · obtain ⟨v, hv⟩ := hh.imm b q h
    exact ⟨v, (hI.2 b q h).trans hv⟩
  · rcases hold j q h with ⟨h1, h2⟩ | ⟨rfl, rfl⟩
    · exact (hh.obj j q h2).mono hI hν (hh.idlt h2) (ht j h1) (fun b hb' => hk b (OB_lt (hh.obj j q h2) hb').1 (hne j q b h1 h2 hb')) (fun _ _ _ h => h)
    · exact ho
  · intro i j o1 o2 b h1 h2 e1 e2
    rcases hold i o1 h1 with ⟨k1, l1⟩ | ⟨rfl, rfl⟩ <;> rcases hold j o2 h2 with ⟨k2, l2⟩ | ⟨rfl, rfl⟩
    · rw [hOB i o1 l1] at e1
      rw [hOB j o2 l2] at e2
      exact hh.disj i j o1 o2 b l1 l2 e1 e2
    · rw [hOB i o1 l1] at e1
      rcases hB b e2 with h3 | h3
      · exact absurd h3 (hne i o1 b k1 l1 e1)
      · have := (OB_lt (hh.obj i o1 l1) e1).1
        omega
    · rw [hOB j o2 l2] at e2
      rcases hB b e1 with h3 | h3
      · exact absurd h3 (hne j o2 b k2 l2 e2)
      · have := (OB_lt (hh.obj j o2 l2) e2).1
        omega
    · rfl
  · rcases hold j q h with ⟨h1, h3⟩ | ⟨rfl, rfl⟩
    · rw [hOB j q h3] at h2
      exact .inl ⟨j, q, h3, h2⟩
    · rcases hB b h2 with h3 | h3
      · exact .inl ⟨j, o, hid, h3⟩
      · exact .inr h3
  · have hj : j ≠ id := fun e => by
      subst e
      rw [hid] at h
      injection h with h
      exact hgo h
    exact ⟨ht j hj, by rw [List.getElem?_set_ne (Ne.symm hj)]; exact h⟩

/-! ### what stands in one cell; what stands in several -/
def AV.cell : AV → Bool
  | .any => false
  | .und => false
  | .agg _ => false
  | .tup _ => false
  | _ => true
theorem VR.cell1 {x : AV} {v : Value} (h : VR w I ν x v) (hc : x.cell = true) : v.cells = #[v] ∧ v.oneCell' = true := by
  cases h with
  | any v => simp [AV.cell] at hc
  | und v e => simp [AV.cell] at hc
  | agg cs vs hl h => simp [AV.cell] at hc
  | tup cs vs hl h => simp [AV.cell] at hc
  | pure h => cases h <;> exact ⟨rfl, rfl⟩
  | _ => exact ⟨rfl, rfl⟩
/-- Are these all cells? -/
def allCell : List AV → Bool
  | [] => true
  | x :: r => match x.cell with
    | true => allCell r
    | false => false
theorem allCell_get : ∀ {xs : List AV}, allCell xs = true → ∀ (j : Nat) x, xs[j]? = some x → x.cell = true := by
  intro xs
  induction xs with
  | nil => intro _ j x h; simp at h
  | cons y r ih =>
    intro h j x hj
    simp only [allCell] at h
    split at h
    · rename_i hy
      cases j with
      | zero => simp only [List.getElem?_cons_zero, Option.some.injEq] at hj; subst hj; exact hy
      | succ j => exact ih h j x (by simpa using hj)
    · cases h
/-- A value's cells. -/
theorem VR.cells_ok {x : AV} {v : Value} (h : VR w I ν x v) {cs : List AV} (hc : x.cells = cs) (ha : allCell cs = true) :
    ∃ vs : List Value, v.cells = vs.toArray ∧ cs.length = vs.length ∧ (∀ (j : Nat) y u, cs[j]? = some y → vs[j]? = some u → VR w I ν y u) ∧ ∀ u ∈ vs, u.oneCell' = true := by
  subst hc
  cases h with
  | agg cs vs hl h =>
    refine ⟨vs, rfl, hl, h, fun u hu => ?_⟩
    obtain ⟨j, hj, rfl⟩ := List.mem_iff_getElem.1 hu
    have h1 : cs[j]? = some (cs[j]'(by omega)) := List.getElem?_eq_getElem _
    exact ((h j _ _ h1 (List.getElem?_eq_getElem hj)).cell1 (allCell_get ha j _ h1)).2
  | tup cs vs hl h => simp [AV.cells, allCell, AV.cell] at ha
  | any v => simp [AV.cells, allCell, AV.cell] at ha
  | und v e => simp [AV.cells, allCell, AV.cell] at ha
  | pure h =>
    refine ⟨[v], ?_, ?_, ?_, ?_⟩ <;> cases h <;> first | rfl | (intro j y u hy hu; cases j <;> simp [AV.cells] at hy hu; subst hy; subst hu; constructor; constructor <;> assumption) | (intro u hu; simp at hu; subst hu; rfl) | skip
  | rp cs b off us h => exact ⟨[_], rfl, rfl, fun j y u hy hu => by cases j <;> simp [AV.cells] at hy hu; subst hy; subst hu; exact .rp cs b off us h, fun u hu => by simp at hu; subst hu; rfl⟩
  | op id off b hi h => exact ⟨[_], rfl, rfl, fun j y u hy hu => by cases j <;> simp [AV.cells] at hy hu; subst hy; subst hu; exact .op id off b hi h, fun u hu => by simp at hu; subst hu; rfl⟩
  | os id ver A n c hi hv hs => exact ⟨[_], rfl, rfl, fun j y u hy hu => by cases j <;> simp [AV.cells] at hy hu; subst hy; subst hu; exact .os id ver A n c hi hv hs, fun u hu => by simp at hu; subst hu; rfl⟩
  | er id ver sz i off g n c hi hv h => exact ⟨[_], rfl, rfl, fun j y u hy hu => by cases j <;> simp [AV.cells] at hy hu; subst hy; subst hu; exact .er id ver sz i off g n c hi hv h, fun u hu => by simp at hu; subst hu; rfl⟩
  | mp id r hi hs => exact ⟨[_], rfl, rfl, fun j y u hy hu => by cases j <;> simp [AV.cells] at hy hu; subst hy; subst hu; exact .mp id r hi hs, fun u hu => by simp at hu; subst hu; rfl⟩
  | fn f caps vs hl h => exact ⟨[_], rfl, rfl, fun j y u hy hu => by cases j <;> simp [AV.cells] at hy hu; subst hy; subst hu; exact .fn f caps vs hl h, fun u hu => by simp at hu; subst hu; rfl⟩
end
end Go.Proofs.Ytibmabidjacjlaa.L
