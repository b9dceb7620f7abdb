/- The logic, part 9: append, as states see it; rows that are made, frozen, read as immutable ones. -/
import Derived.Test.YtibmabidjacjlaaLh
namespace Go.Proofs.Ytibmabidjacjlaa.L
open Go Go.RowKit
set_option linter.unusedVariables false
set_option linter.unusedSimpArgs false

theorem VP.one {w : World} {I : Imm} {x : AV} {v : Value} (h : VP w I x v) : v.oneCell' = true := by cases h <;> rfl

/-- What is appended: as real cells. -/
def SrcV (E : Env) (H : List AO) (sz tx : Nat) (xv : AV) (ys : List (List AV)) : Prop :=
  ∀ I ν w v, HR E I ν H w → VR w I ν xv v → ∃ news, Src E.P sz tx v ys.length news w ∧ RowRel w I sz ys news

section
variable {E : Env} {N : Nat} {ops : Array Oper} {Q : Exit → St → Prop} {rest : List Oper} {sl : Slots} {H H' : List AO}

theorem div_lt {i n sz : Nat} (h : i < n * sz) (h0 : 0 < sz) : i / sz < n ∧ i % sz < sz ∧ i / sz * sz + i % sz = i := by
  refine ⟨?_, Nat.mod_lt _ h0, ?_⟩
  · rw [Nat.div_lt_iff_lt_mul h0]; exact h
  · rw [Nat.mul_comm]; exact Nat.div_add_mod i sz

theorem src_rs {tx e : Nat} {n b : Nat} {z : Value} [ti : TI E.P tx (.slice e) n b z] {sz : Nat} {ys : List (List AV)} (hsz : ∀ (i : Nat) row, ys[i]? = some row → row.length = sz) : SrcV E H sz tx (.rs ys) ys := by
  intro I ν w v hh hv
  cases hv.rs_inv with
  | rs0 A c =>
    rcases A with _ | a
    · exact ⟨[], Src.ofNil w ti.u c, by simp, fun i c h => by simp at h⟩
    · exact ⟨[], Src.ofSlice w ti.u a 0 c [] (by simp) (fun j u h => by simp at h) (fun u h => by cases h), by simp, fun i c h => by simp at h⟩
  | rs _ sz' bk off c us h0 hc hm hs hu hx =>
    by_cases hy : ys.length = 0
    · have : ys = [] := List.eq_nil_of_length_eq_zero hy
      subst this
      exact ⟨[], Src.ofSlice w ti.u _ 0 c [] (by simp) (fun j u h => by simp at h) (fun u h => by cases h), by simp, fun i c h => by simp at h⟩
    · have h1 : ys[0]? = some (ys[0]'(by omega)) := List.getElem?_eq_getElem _
      have : sz' = sz := by rw [← hs _ _ h1, hsz _ _ h1]
      subst this
      have hval : ∀ j, j < ys.length * sz' → ∃ x, VP w I x (us j) := by
        intro j hj
        obtain ⟨d1, d2, d3⟩ := div_lt hj h0
        have h2 : ys[j / sz']? = some (ys[j / sz']'d1) := List.getElem?_eq_getElem _
        have h3 : (ys[j / sz']'d1)[j % sz']? = some ((ys[j / sz']'d1)[j % sz']'(by rw [hs _ _ h2]; exact d2)) := List.getElem?_eq_getElem _
        have := hx _ _ _ _ h2 h3
        rw [d3] at this
        exact ⟨_, this⟩
      refine ⟨(List.range (ys.length * sz')).map us, Src.ofSlice w ti.u ⟨bk, off, none⟩ ys.length c _ (by simp) (fun j u h => ?_) (fun u h => ?_), by simp, fun i row hr => ⟨hsz i row hr, fun j x hj => ?_⟩⟩
      · rw [List.getElem?_map] at h
        rcases Nat.lt_or_ge j (ys.length * sz') with hj | hj
        · rw [List.getElem?_range hj] at h
          simp at h
          subst h
          rw [add_none]
          exact (hu j hj).1
        · rw [List.getElem?_eq_none (by simpa using hj)] at h
          simp at h
      · obtain ⟨j, hj, rfl⟩ := List.mem_map.1 h
        obtain ⟨x, hx'⟩ := hval j (List.mem_range.1 hj)
        exact hx'.one
      · have hi : i < ys.length := (List.getElem?_eq_some_iff.1 hr).1
        have hjl : j < sz' := by rw [← hsz i row hr]; exact (List.getElem?_eq_some_iff.1 hj).1
        have hlt : i * sz' + j < ys.length * sz' := by
          have h1 : (i + 1) * sz' ≤ ys.length * sz' := Nat.mul_le_mul_right _ hi
          rw [Nat.add_mul, Nat.one_mul] at h1
          omega
        exact ⟨us (i * sz' + j), by rw [List.getElem?_map, List.getElem?_range hlt]; rfl, hx i j row x hr hj⟩

theorem src_nil {tx e : Nat} {n b : Nat} {z : Value} [ti : TI E.P tx (.slice e) n b z] {sz : Nat} : SrcV E H sz tx .nilsl [] := by
  intro I ν w v hh hv
  have := hv.nilsl_inv
  subst this
  exact ⟨[], Src.ofNil w ti.u 0, by simp, fun i c h => by simp at h⟩

theorem ownsRow_one {w : World} {I : Imm} {sz : Nat} {xs : List (List AV)} {inner : List Value} (hr : RowRel w I sz xs inner) (h0 : 0 < sz) : ∀ u ∈ inner, u.oneCell' = true := by
  intro u hu
  obtain ⟨j, hj, rfl⟩ := List.mem_iff_getElem.1 hu
  rw [hr.1] at hj
  obtain ⟨d1, d2, d3⟩ := div_lt hj h0
  have h2 : xs[j / sz]? = some (xs[j / sz]'d1) := List.getElem?_eq_getElem _
  obtain ⟨hl, hx⟩ := hr.2 _ _ h2
  have h3 : (xs[j / sz]'d1)[j % sz]? = some ((xs[j / sz]'d1)[j % sz]'(by rw [hl]; exact d2)) := List.getElem?_eq_getElem _
  obtain ⟨u', hu', hvr⟩ := hx _ _ h3
  rw [d3] at hu'
  have h4 : inner[j]'(by rw [hr.1]; exact hj) = u' := (List.getElem?_eq_some_iff.1 hu').2
  rw [h4]
  exact hvr.one

theorem src_os {tx e : Nat} {n b : Nat} {z : Value} [ti : TI E.P tx (.slice e) n b z] {sz id ver ver' fz e' : Nat} {ys : List (List AV)} (hH : H[id]? = some (.row e' sz ver' fz ys)) (hver : ver = ver') : SrcV E H sz tx (.os id ver) ys := by
  subst hver
  intro I ν w v hh hv
  cases hh.obj id _ hH with
  | row _ _ _ _ _ inner ht h0 ho hr hf hI =>
  cases hv with
  | pure hv => cases hv
  | os _ _ A n c hi hv' hs =>
    rw [hs] at ho
    have hone := ownsRow_one hr h0
    rcases ho.2 with ⟨h1, h2⟩ | ⟨g, cap, cur, h1, h2, h3, h4⟩
    · rw [h1]
      have : ys = [] := List.eq_nil_of_length_eq_zero h2
      subst this
      exact ⟨[], Src.ofNil w ti.u 0, by simp, fun i c h => by simp at h⟩
    · rw [h1] at ho ⊢
      exact ⟨inner, Src.ofSlice w ti.u _ ys.length cap inner hr.1 (ho.cells (g := g) rfl) hone, hr⟩

theorem src_str {tx : Nat} {n b : Nat} {z : Value} [ti : TI E.P tx .string n b z] {s : List UInt8} : SrcV E H 1 tx (.str s) (s.map fun b => [.int .u8 (b.toNat : Int)]) := by
  intro I ν w v hh hv
  have := hv.str_inv
  subst this
  refine ⟨byteCells ⟨s.toArray⟩, ?_, ?_, fun i row hr => ?_⟩
  · have := Src.ofString (P := E.P) w ti.u ⟨s.toArray⟩
    simpa [size_mk] using this
  · simp [byteCells_length, size_mk]
  · rw [List.getElem?_map] at hr
    obtain ⟨c, hc, rfl⟩ := Option.map_eq_some_iff.1 hr
    refine ⟨rfl, fun j x hx => ?_⟩
    cases j with
    | zero =>
      simp at hx
      subst hx
      exact ⟨.int .u8 (c.toNat : Int), by simp [byteCells, hc], .int _ _⟩
    | succ j => simp at hx

/-- A row's newest version. -/
def Nu.bump (ν : Nu) (id ver : Nat) (v : Value) : Nu :=
  ⟨ν.n, fun i => if i = id then ver else ν.top i, fun i k => if i = id ∧ k = ver then v else ν.val i k⟩
theorem Nu.bump_le (ν : Nu) (id ver : Nat) (v : Value) (h : ν.top id < ver) : ν.le (ν.bump id ver v) :=
  ⟨Nat.le_refl _, fun i hi => by
    simp only [Nu.bump]
    split
    · rename_i e; subst e; omega
    · exact Nat.le_refl _, fun i k hi hk => by
    simp only [Nu.bump]
    rw [if_neg]
    rintro ⟨rfl, rfl⟩
    omega⟩

theorem RowRel.mono {w w' : World} {I I' : Imm} (hI : ImmLe w I w' I') {sz : Nat} {xs : List (List AV)} {inner : List Value} (h : RowRel w I sz xs inner) : RowRel w' I' sz xs inner :=
  ⟨h.1, fun i c hc => ⟨(h.2 i c hc).1, fun j x hx => let ⟨u, hu, hv⟩ := (h.2 i c hc).2 j x hx; ⟨u, hu, hv.mono hI⟩⟩⟩
theorem RowRel.append {w : World} {I : Imm} {sz : Nat} {xs ys : List (List AV)} {a b : List Value} (h : RowRel w I sz xs a) (k : RowRel w I sz ys b) : RowRel w I sz (xs ++ ys) (a ++ b) := by
  refine ⟨by simp [h.1, k.1, Nat.add_mul], fun i c hc => ?_⟩
  rcases Nat.lt_or_ge i xs.length with hi | hi
  · rw [List.getElem?_append_left hi] at hc
    obtain ⟨h1, h2⟩ := h.2 i c hc
    refine ⟨h1, fun j x hx => ?_⟩
    obtain ⟨u, hu, hv⟩ := h2 j x hx
    exact ⟨u, by rw [List.getElem?_append_left (List.getElem?_eq_some_iff.1 hu).1]; exact hu, hv⟩
  · rw [List.getElem?_append_right hi] at hc
    obtain ⟨h1, h2⟩ := k.2 _ c hc
    refine ⟨h1, fun j x hx => ?_⟩
    obtain ⟨u, hu, hv⟩ := h2 j x hx
    refine ⟨u, ?_, hv⟩
    have e : i * sz + j = a.length + ((i - xs.length) * sz + j) := by
      rw [h.1, ← Nat.add_assoc, ← Nat.add_mul]
      congr 2
      omega
    rw [e, List.getElem?_append_right (by omega)]
    rw [Nat.add_sub_cancel_left]
    exact hu

theorem execAppend {a : Act} {o : Oper} {s x : Operand} {t tx : TypeId} (ho : o.op = .call { callee := .builtin .append, args := #[s, x], argTypes := #[t, tx] }) {P : Program} {w w' : World} {v : Value}
    (h : (Builtin.append_ #[t, tx] o.type #[a.eval s, a.eval x]).run P w = .ok v w') : (execOp a.eval o).run P w = .ok (.value v) w' := by
  simp [execOp, ho, resolve, invoke, builtin, h]

theorem al_append {t tx e : Nat} {n b sz bytes : Nat} {z0 z : Value} {d0 : Bool} [ti : TI E.P t (.slice e) n b z0] [te : TZ E.P e d0 sz bytes z] {s x : Operand} {id ver fz : Nat} {xs ys : List (List AV)} {xv : AV} {ty : TypeId} {pos : String} {after : Array Edge} {d : Nat}
    (hs : ev sl s = some (.os id ver)) (hx : ev sl x = some xv) (hU : Upd id H (.row e sz ver fz xs) (.row e sz (ver + 1) fz (xs ++ ys)) H') (hsrc : SrcV E H sz tx xv ys)
    (hz : z.cells.size = sz) (hb0 : 0 < bytes) (hb : (xs.length + ys.length) * bytes ≤ 140737488355328) (hd : Nat.blt d N = true)
    (h : AL E N ops Q rest ⟨(d, .os id (ver + 1)) :: sl, H'⟩) : AL E N ops Q (⟨some d, .call { callee := .builtin .append, args := #[s, x], argTypes := #[t, tx] }, ty, pos, after, none⟩ :: rest) ⟨sl, H⟩ := by
  obtain ⟨hid, hset⟩ := hU.eq
  subst hset
  refine al_mem hd (fun I ν a w hh hsl => ?_) h
  obtain ⟨news, hS, hR⟩ := hsrc I ν w _ hh (ev_ok hsl hx)
  have hs' := ev_ok hsl hs
  obtain ⟨v, hv⟩ : ∃ v, a.eval s = v := ⟨_, rfl⟩
  rw [hv] at hs'
  cases hh.obj id _ hid with
  | row _ _ _ _ _ inner ht h0 ho hr hf hI =>
  cases hs' with
  | pure hs' => cases hs'
  | os _ _ A m c hi hver hval =>
  obtain ⟨i, hi1, hi2, hi3, hi4⟩ := te.bytes
  have hlen : xs.length + ys.length ≤ 140737488355328 := Nat.le_trans (Nat.le_mul_of_pos_right _ hb0) hb
  have hrun : ∀ ty, ∃ v' w', (Builtin.append_ #[t, tx] ty #[.slice A m c, a.eval x]).run E.P w = .ok v' w' ∧ w'.ownsRow E.base e sz v' (xs.length + ys.length) (inner ++ news) ∧ w.grownBy w' (ν.val id ver).ownBlock ∧
      (∀ g o, (ν.val id ver).ownBlock = some g → o < xs.length * sz → w'.cell? ⟨g, o, none⟩ = w.cell? ⟨g, o, none⟩) ∧ (v'.ownBlock = (ν.val id ver).ownBlock ∨ ∃ b, v'.ownBlock = some b ∧ w.heap.size ≤ b) := fun ty => by
    have := append_real (ty := ty) ti.u hi1 hi2 hi3 hi4 hz h0 ho hS (by simp only [maxLen]; omega) hb hh.base
    rw [hval] at this ⊢
    exact this
  have hsame : ∀ ty ty', Builtin.append_ #[t, tx] ty #[.slice A m c, a.eval x] = Builtin.append_ #[t, tx] ty' #[.slice A m c, a.eval x] := fun _ _ => rfl
  obtain ⟨v', w', hr1, hown, hg, hkeep, hblk⟩ := hrun 0
  have hle := ν.bump_le id (ver + 1) v' (by omega)
  have hOB : OB ν id (.row e sz ver fz xs) = (ν.val id ver).ownBlock := rfl
  have hIm : ImmLe w I w' I := by
    refine ⟨fun _ _ h => h, fun bb oo hbo => ?_⟩
    by_cases hbk : (ν.val id ver).ownBlock = some bb
    · have h1 := hI bb oo hbk hbo
      exact hkeep bb oo hbk (Nat.lt_of_lt_of_le h1 (Nat.mul_le_mul_right _ hf))
    · obtain ⟨u, hu⟩ := hh.imm bb oo hbo
      exact World.cell?_of_block (w := w) (a := ⟨bb, oo, none⟩) (hg.block bb (World.block_lt_of_cell? w _ hu) (fun e => hbk e.symm))
  have hsl' : ∃ A' c', v' = .slice A' (xs.length + ys.length) c' := by
    rcases hown.2 with ⟨h1, h2⟩ | ⟨g, cap, cur, h1, _⟩
    · exact ⟨none, 0, by rw [h1, h2]⟩
    · exact ⟨_, cap, h1⟩
  have hset := hh.set (ν' := ν.bump id (ver + 1) v') (o' := .row e sz (ver + 1) fz (xs ++ ys)) (w' := w') hid (fun e => by cases e) hle rfl (fun j hj => by simp [Nu.bump, hj])
    (hh.below.grown hg hh.base (fun k hk => (OB_lt (hh.obj id _ hid) (by rw [hOB]; exact hk)).2)) hg.size (fun k hk hne => hg.block k hk (fun e => hne (by rw [hOB]; exact e.symm))) hIm
    (.row e sz (ver + 1) fz (xs ++ ys) (inner ++ news) (by simp [Nu.bump]) h0 (by simpa [Nu.bump] using hown) ((hr.mono hIm).append (hR.mono hIm)) (by simp; omega) (fun bb oo hbk hbo => by
      simp only [Nu.bump, and_self, if_true] at hbk
      rcases hblk with h1 | ⟨b', h1, h2⟩
      · exact hI bb oo (by rw [← h1]; exact hbk) hbo
      · rw [hbk] at h1
        injection h1 with h1
        obtain ⟨u, hu⟩ := hh.imm bb oo hbo
        have := World.block_lt_of_cell? w _ hu
        simp at this
        omega))
    (fun bb hbk => by
      simp only [OB, Nu.bump, and_self, if_true] at hbk
      rw [hOB]
      rcases hblk with h1 | ⟨b', h1, h2⟩
      · exact .inl (by rw [← h1]; exact hbk)
      · rw [hbk] at h1
        injection h1 with h1
        exact .inr (by omega))
  refine ⟨v', w', _, fun o ho' => execAppend ho' (by rw [hv]; exact hr1), hset.1, hset.2, hle, ?_⟩
  obtain ⟨A', c', hv'⟩ := hsl'
  subst hv'
  exact .os id (ver + 1) A' _ c' (by simpa [Nu.bump] using hi) (by simp [Nu.bump]) (by simp [Nu.bump])

/-- A new row. -/
theorem row_push {I : Imm} {ν : Nu} {w w' : World} (hh : HR E I ν H w) {e sz n : Nat} {xs : List (List AV)} {inner : List Value} {v : Value} (h0 : 0 < sz) (hn : xs.length = n) (ho : w'.ownsRow E.base e sz v n inner) (hr : RowRel w I sz xs inner)
    (hb : Below E.base E.w0 w') (hs : w.heap.size ≤ w'.heap.size) (hk : ∀ k, k < w.heap.size → w'.heap[k]? = w.heap[k]?) (hB : ∀ b, v.ownBlock = some b → w.heap.size ≤ b) :
    ∃ ν', HR E I ν' (H ++ [.row e sz 0 0 xs]) w' ∧ FR E.k w I ν H w' I ν' (H ++ [.row e sz 0 0 xs]) ∧ ν.le ν' ∧ VR w' I ν' (.os H.length 0) v := by
  subst hn
  have hle := ν.add_le 0 fun _ => v
  have hI : ImmLe w I w' I := ImmLe.heap hh fun k h _ => hk k h
  have := hh.push (o := .row e sz 0 0 xs) (t := 0) (f := fun _ => v) (w' := w') hb hs hk
    (.row e sz 0 0 xs inner (by simp [Nu.add]) h0 (by simpa [Nu.add] using ho) (hr.mono hI) (Nat.zero_le _) (fun b o hb' hbo => by
      simp only [Nu.add, if_true] at hb'
      have := hB b hb'
      obtain ⟨u, hu⟩ := hh.imm b o hbo
      have := World.block_lt_of_cell? w _ hu
      simp at this
      omega))
    (fun b hb' => hB b (by simpa [OB, Nu.add] using hb'))
  refine ⟨_, this.1, this.2.1, hle, ?_⟩
  have hsl' : ∃ A' c', v = .slice A' xs.length c' := by
    rcases ho.2 with ⟨h1, h2⟩ | ⟨g, cap, cur, h1, _⟩
    · exact ⟨none, 0, by rw [h1, h2]⟩
    · exact ⟨_, cap, h1⟩
  obtain ⟨A', c', rfl⟩ := hsl'
  exact .os _ 0 A' _ c' (by simp [Nu.add, hh.n]) (by simp [Nu.add, hh.n]) (by simp [Nu.add, hh.n])

theorem al_append_nil {t tx e : Nat} {n b sz bytes : Nat} {z0 z : Value} {d0 : Bool} [ti : TI E.P t (.slice e) n b z0] [te : TZ E.P e d0 sz bytes z] {s x : Operand} {ys : List (List AV)} {xv : AV} {ty : TypeId} {pos : String} {after : Array Edge} {d m : Nat}
    (hs : ev sl s = some .nilsl) (hx : ev sl x = some xv) (hsrc : SrcV E H sz tx xv ys) (hm : H.length = m) (hH : Snoc H (.row e sz 0 0 ys) H')
    (hz : z.cells.size = sz) (h0 : 0 < sz) (hb0 : 0 < bytes) (hb : ys.length * bytes ≤ 140737488355328) (hd : Nat.blt d N = true)
    (h : AL E N ops Q rest ⟨(d, .os m 0) :: sl, H'⟩) : AL E N ops Q (⟨some d, .call { callee := .builtin .append, args := #[s, x], argTypes := #[t, tx] }, ty, pos, after, none⟩ :: rest) ⟨sl, H⟩ := by
  subst hm
  rw [hH.eq] at h
  refine al_mem hd (fun I ν a w hh hsl => ?_) h
  obtain ⟨news, hS, hR⟩ := hsrc I ν w _ hh (ev_ok hsl hx)
  have hv := (ev_ok hsl hs).nilsl_inv
  obtain ⟨i, hi1, hi2, hi3, hi4⟩ := te.bytes
  have hlen : ys.length ≤ 140737488355328 := Nat.le_trans (Nat.le_mul_of_pos_right _ hb0) hb
  obtain ⟨v', w', hr1, hown, hg, hkeep, hblk⟩ := append_real (ty := 0) ti.u hi1 hi2 hi3 hi4 hz h0 (World.ownsRow_nil w E.base e sz) hS (by simp only [maxLen]; omega) (by simpa using hb) hh.base
  simp only [Nat.zero_add, List.nil_append] at hown
  obtain ⟨ν', p1, p2, p3, p4⟩ := row_push hh h0 rfl hown hR (hh.below.grown hg hh.base (fun k hk => by simp [Value.ownBlock] at hk)) hg.size (fun k hk => hg.block k hk (by simp [Value.ownBlock])) (fun b hb' => by
    rcases hblk with h1 | ⟨b', h1, h2⟩
    · rw [hb'] at h1; simp [Value.ownBlock] at h1
    · rw [hb'] at h1; injection h1 with h1; omega)
  exact ⟨v', w', ν', fun o ho' => execAppend ho' (by rw [hv]; exact hr1), p1, p2, p3, p4⟩

/-! ### an own row is frozen -/
def AV.pu : AV → Bool
  | .bool _ => true
  | .int _ _ => true
  | .str _ => true
  | .nilsl => true
  | .nilp => true
  | .nilfn => true
  | .nilif => true
  | .iface => true
  | .rs _ => true
  | _ => false
theorem VR.pu {w : World} {I : Imm} {ν : Nu} {x : AV} {v : Value} (h : VR w I ν x v) (hp : x.pu = true) : VP w I x v := by
  cases h with
  | pure h => exact h
  | _ => simp [AV.pu] at hp
def allPu : List AV → Bool
  | [] => true
  | x :: r => match x.pu with
    | true => allPu r
    | false => false
theorem allPu_get : ∀ {xs : List AV}, allPu xs = true → ∀ (j : Nat) x, xs[j]? = some x → x.pu = true := by
  intro xs
  induction xs with
  | nil => intro _ j x h; simp at h
  | cons y r ih =>
    intro h j x hj
    simp only [allPu] at h
    split at h
    · rename_i hy
      cases j with
      | zero => simp only [List.getElem?_cons_zero, Option.some.injEq] at hj; subst hj; exact hy
      | succ j => exact ih h j x (by simpa using hj)
    · cases h

theorem freeze_sr {I : Imm} {ν : Nu} {a : Act} {w : World} {t id ver fz e sz : Nat} {xs : List (List AV)} (hs : SR E N I ν ⟨sl, H⟩ a w) (ht : lk sl t = some (.os id ver)) (hU : Upd id H (.row e sz ver fz xs) (.row e sz ver xs.length xs) H') :
    ∃ I', SR E N I' ν ⟨(t, .rs xs) :: sl, H'⟩ a w ∧ FR E.k w I ν H w I' ν H' := by
  obtain ⟨hid, hset⟩ := hU.eq
  subst hset
  have hh := hs.hr
  have hs' := hs.sl t _ ht
  cases hh.obj id _ hid with
  | row _ _ _ _ _ inner htop h0 ho hr hf hI =>
  obtain ⟨v, hv⟩ : ∃ v, a.tmps.getD t undef = v := ⟨_, rfl⟩
  rw [hv] at hs'
  cases hs' with
  | pure hs' => cases hs'
  | os _ _ A m c hi hver hval =>
  have hOB : OB ν id (.row e sz ver fz xs) = (ν.val id ver).ownBlock := rfl
  -- the cells that are frozen now
  obtain ⟨I', hI'⟩ : ∃ I' : Imm, I' = fun b o => I b o ∨ ((ν.val id ver).ownBlock = some b ∧ o < xs.length * sz) := ⟨_, rfl⟩
  have hIm : ImmLe w I w I' := ⟨fun b o h => by rw [hI']; exact .inl h, fun _ _ _ => rfl⟩
  have hlt : id < H.length := (List.getElem?_eq_some_iff.1 hid).1
  have hold : ∀ (j : Nat) q, (H.set id (.row e sz ver xs.length xs))[j]? = some q → (j ≠ id ∧ H[j]? = some q) ∨ (j = id ∧ q = .row e sz ver xs.length xs) := by
    intro j q h
    by_cases e : j = id
    · subst e
      rw [List.getElem?_set_self hlt] at h
      exact .inr ⟨rfl, by simpa using h.symm⟩
    · rw [List.getElem?_set_ne (Ne.symm e)] at h
      exact .inl ⟨e, h⟩
  have hFB : ∀ b, FB ν (H.set id (.row e sz ver xs.length xs)) b → FB ν H b := by
    rintro b ⟨j, q, h1, h2⟩
    rcases hold j q h1 with ⟨h3, h4⟩ | ⟨rfl, rfl⟩
    · exact ⟨j, q, h4, h2⟩
    · exact ⟨_, _, hid, h2⟩
  have hcells : ∀ g, (ν.val id ver).ownBlock = some g → ∀ j u, inner[j]? = some u → w.cell? ⟨g, j, none⟩ = some u := by
    intro g hg j u hu
    have := ho.cells hg j u hu
    rw [add_none] at this
    simpa using this
  refine ⟨I', ⟨⟨by rw [hh.n]; simp, hh.below, hh.base, fun b o h => ?_, fun j q h => ?_, ?_⟩, fun t' x hx => ?_, hs.df, hs.nt⟩, ⟨hIm, Nat.le_refl _, fun b o h => ?_, fun _ _ _ => rfl, fun b h => .inl (hFB b h), (Nu.le.refl ν).ag _, fun j _ h => ⟨rfl, by
    rw [List.getElem?_set_ne (fun e => by subst e; rw [hid] at h; cases h)]; exact h⟩⟩⟩
  · rw [hI'] at h
    rcases h with h | ⟨h1, h2⟩
    · exact hh.imm b o h
    · have : o < inner.length := by rw [hr.1]; exact h2
      exact ⟨inner[o], hcells b h1 o _ (List.getElem?_eq_getElem this)⟩
  · rcases hold j q h with ⟨h3, h4⟩ | ⟨rfl, rfl⟩
    · refine (hh.obj j q h4).mono hIm (Nu.le.refl ν) (hh.idlt h4) rfl (fun _ _ => rfl) (fun b o hb hbo => ?_)
      rw [hI'] at hbo
      rcases hbo with hbo | ⟨h1, _⟩
      · exact hbo
      · exact absurd (hh.disj j id q _ b h4 hid hb (by rw [hOB]; exact h1)) h3
    · refine .row e sz ver xs.length xs inner htop h0 ho (hr.mono hIm) (Nat.le_refl _) (fun b o hb hbo => ?_)
      rw [hI'] at hbo
      rcases hbo with hbo | ⟨_, h2⟩
      · exact Nat.lt_of_lt_of_le (hI b o hb hbo) (Nat.mul_le_mul_right _ hf)
      · exact h2
  · intro i j o1 o2 b h1 h2 e1 e2
    have k1 : ∃ q, H[i]? = some q ∧ OB ν i q = some b := by
      rcases hold i o1 h1 with ⟨h3, h4⟩ | ⟨rfl, rfl⟩
      · exact ⟨o1, h4, e1⟩
      · exact ⟨_, hid, e1⟩
    have k2 : ∃ q, H[j]? = some q ∧ OB ν j q = some b := by
      rcases hold j o2 h2 with ⟨h3, h4⟩ | ⟨rfl, rfl⟩
      · exact ⟨o2, h4, e2⟩
      · exact ⟨_, hid, e2⟩
    obtain ⟨q1, g1, f1⟩ := k1
    obtain ⟨q2, g2, f2⟩ := k2
    exact hh.disj i j q1 q2 b g1 g2 f1 f2
  · rw [lk_cons] at hx
    by_cases et : t = t'
    · subst et
      rw [if_pos rfl] at hx
      obtain rfl : AV.rs xs = x := by simpa using hx
      rw [hv]
      refine .pure ?_
      rw [hval] at ho hcells hI'
      rcases ho.2 with ⟨h1, h2⟩ | ⟨g, cap, cur, h1, h2, h3, h4, h5, _⟩
      · have : xs = [] := List.eq_nil_of_length_eq_zero h2
        subst this
        rw [h1]
        exact .rs0 none 0
      · rw [h1] at hcells hI' ⊢
        refine .rs xs sz g 0 cap (fun j => inner.getD j undef) h0 h4 h5 (fun i row hr' => (hr.2 i row hr').1) (fun j hj => ?_) (fun i j row x hr' hj => ?_)
        · have hjl : j < inner.length := by rw [hr.1]; exact hj
          rw [Nat.zero_add]
          refine ⟨?_, ?_⟩
          · rw [hcells g rfl j _ (List.getElem?_eq_getElem hjl)]
            simp [List.getD_eq_getElem?_getD, hjl]
          · rw [hI']
            exact .inr ⟨rfl, hj⟩
        · obtain ⟨u, hu, hvr⟩ := (hr.2 i row hr').2 j x hj
          rw [List.getD_eq_getElem?_getD, hu]
          exact hvr.mono hIm
    · rw [if_neg et] at hx
      exact (hs.sl t' x hx).mono hIm (Nu.le.refl ν)
  · rw [hI'] at h
    rcases h with h | ⟨h1, _⟩
    · exact .inl h
    · exact .inr (.inl ⟨id, _, hid, by rw [hOB]; exact h1⟩)

theorem al_freeze {l : List Oper} (t : Nat) {id ver fz e sz : Nat} {xs : List (List AV)} (ht : lk sl t = some (.os id ver)) (hU : Upd id H (.row e sz ver fz xs) (.row e sz ver xs.length xs) H')
    (h : AL E N ops Q l ⟨(t, .rs xs) :: sl, H'⟩) : AL E N ops Q l ⟨sl, H⟩ := by
  intro I ν a w hs w0 I0 ν0 o0 hf
  obtain ⟨I', h1, h2⟩ := freeze_sr hs ht hU
  exact h I' ν a w h1 w0 I0 ν0 o0 (hf.trans h2)
theorem awp_freeze {c : Code} (t : Nat) {id ver fz e sz : Nat} {xs : List (List AV)} (ht : lk sl t = some (.os id ver)) (hU : Upd id H (.row e sz ver fz xs) (.row e sz ver xs.length xs) H')
    (h : AWp E N c Q ⟨(t, .rs xs) :: sl, H'⟩) : AWp E N c Q ⟨sl, H⟩ := by
  intro I ν a w hs
  obtain ⟨I', h1, h2⟩ := freeze_sr hs ht hU
  exact Code.wp_mono (fun e a' w' k => Lift.step h2 k) (h I' ν a w h1)
end
end Go.Proofs.Ytibmabidjacjlaa.L
