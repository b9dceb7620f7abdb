/- The logic, part 20: held regions, walked by a plan. -/
import Derived.Test.YtibmabidjacjlaaLs
import Derived.KernelRfl
namespace Go.Proofs.Ytibmabidjacjlaa.L
open Go Go.RowKit
set_option linter.unusedVariables false
set_option linter.unusedSimpArgs false

/-- A step of a plan: which operation; does it only look; which objects may change before it comes up; what may have come up before it. -/
structure PS where
  i : Nat
  q : Bool
  G : List Nat
  R : List Bool
/-- Which objects an operation changes. -/
def tau : List (Nat × List Nat) → Nat → List Nat
  | [], _ => []
  | (j, T) :: r, i => match Nat.beq j i with
    | true => T
    | false => tau r i
def allIn : List Nat → List Nat → Bool
  | [], _ => true
  | t :: r, G => match inl t G with
    | true => allIn r G
    | false => false
theorem allIn_get : ∀ {T G : List Nat}, allIn T G = true → ∀ t, inl t T = true → inl t G = true := by
  intro T
  induction T with
  | nil => intro G _ t h; simp [inl] at h
  | cons x r ih =>
    intro G h t ht
    simp only [allIn] at h
    split at h
    · rename_i hx
      simp only [inl] at ht
      split at ht
      · rename_i e
        rw [← Nat.eq_of_beq_eq_true e]; exact hx
      · exact ih h t ht
    · cases h
/-- n truths, by their bits. -/
def bl : Nat → Nat → List Bool
  | 0, _ => []
  | n + 1, m => Nat.beq (m % 2) 1 :: bl n (m / 2)
def qOK (ops : Array Oper) (τ : List (Nat × List Nat)) (L R : List Bool) (i : Nat) (G : List Nat) : Bool :=
  Region.free .any ops L.toArray i && (Region.ready .any ops L.toArray).contains i && Nat.beq R.length ops.size && (Region.ready .any ops R.toArray).all (fun j => Nat.beq j i) && (tau τ i).isEmpty &&
    (List.range ops.size).all fun j => (!L.toArray.getD j true || R.toArray.getD j true) && (!R.toArray.getD j true || (L.toArray.getD j true || allIn (tau τ j) G))
def planOK (ops : Array Oper) (τ : List (Nat × List Nat)) : List Bool → List PS → Bool
  | L, [] => (Region.ready .any ops L.toArray).isEmpty
  | L, p :: r => (match p.q with
    | true => qOK ops τ L p.R p.i p.G
    | false => Region.ready .any ops L.toArray == [p.i]) && planOK ops τ (L.set p.i true) r

/-- What stays as it is, as long as nothing comes up that changes it. -/
def SS (τ : List (Nat × List Nat)) (L : Array Bool) (I : Imm) (ν : Nu) (H : List AO) (w : World) : Array Bool → World → Prop := fun L' w' =>
  w.heap.size ≤ w'.heap.size ∧ (∀ b o, I b o → w'.cell? ⟨b, o, none⟩ = w.cell? ⟨b, o, none⟩) ∧
    ∀ (id : Nat) o b, H[id]? = some o → OB ν id o = some b → (∀ j, inl id (tau τ j) = true → L'.getD j true = true → L.getD j true = true) → w'.heap[b]? = w.heap[b]?

def LN (E : Env) (N : Nat) (w : World) (I : Imm) (ν : Nu) (objs : List AO) (Q : Exit → St → Prop) : Exit → Act → World → Prop := fun e a' w' => e = .normal ∧ Lift E N w I ν objs Q .normal a' w'

def HL (E : Env) (N : Nat) (ops : Array Oper) (τ : List (Nat × List Nat)) (Q : Exit → St → Prop) (pl : List PS) (σ : St) : Prop :=
  Region.noSelect ops = true → ∀ L : List Bool, L.length = ops.size → planOK ops τ L pl = true → ∀ I ν a w, SR E N I ν σ a w → ∀ w0 I0 ν0 o0, FR E.k w0 I0 ν0 o0 w I ν σ.objs →
    wpAnyP E.P .any ops (LN E N w0 I0 ν0 o0 Q) (SS τ L.toArray I ν σ.objs w) pl.length L.toArray a w
/-- The next operation is o. -/
def HO (E : Env) (N : Nat) (ops : Array Oper) (τ : List (Nat × List Nat)) (Q : Exit → St → Prop) (p : PS) (pl : List PS) (o : Oper) (σ : St) : Prop :=
  ops[p.i]? = some o → HL E N ops τ Q (p :: pl) σ
/-- The next operation is this one, and it is carried out. -/
def HW (E : Env) (N : Nat) (ops : Array Oper) (τ : List (Nat × List Nat)) (Q : Exit → St → Prop) (p : PS) (pl : List PS) (d : Option Nat) (op : Op) (ty : TypeId) (pos : String) (after : Array Edge) (σ : St) : Prop :=
  ∀ g : Option (Nat × Bool), (∀ I ν a w, SR E N I ν σ a w → Region.wanted ⟨d, op, ty, pos, after, g⟩ (yielded ops a.tmps) = true) → HO E N ops τ Q p pl ⟨d, op, ty, pos, after, g⟩ σ

theorem awp_held {E : Env} {N : Nat} {Q : Exit → St → Prop} {id : Nat} {l : List Oper} {σ : St} (τ : List (Nat × List Nat)) (pl : List PS) (hm : E.P.follows .mixedOrders = true) (hn : Region.noSelect l.toArray = true) (hl : Nat.beq pl.length l.length = true)
    (hp : planOK l.toArray τ (List.replicate l.length false) pl = true) (h : HL E N l.toArray τ Q pl σ) : AWp E N (.region id l.toArray true) Q σ := by
  intro I ν a w hs
  obtain ⟨h1, h2, h3⟩ := hs.hr.later (w' := { w with drawn := w.drawn + 1 }) ((Below.refl _ _).drew)
  have := h hn (List.replicate l.length false) (by simp) hp I ν a _ ⟨h1, hs.sl.mono h3 (Nu.le.refl ν), hs.df, hs.nt⟩ w I ν σ.objs h2
  have h4 := wpAny_of_P _ _ _ _ this
  rw [Nat.eq_of_beq_eq_true hl] at h4
  have h5 := wp_region_any (P := E.P) (ops := l.toArray) (id := id) (a := a) (w := w) (Q := LN E N w I ν σ.objs Q) hm (by simpa using h4)
  exact Code.wp_mono (fun e a' w' ⟨he, k⟩ => by subst he; exact k) h5

section
variable {E : Env} {N : Nat} {ops : Array Oper} {τ : List (Nat × List Nat)} {Q : Exit → St → Prop} {p : PS} {pl : List PS} {sl : Slots} {H : List AO}

theorem hl_op {o : Oper} {σ : St} (hi : ops[p.i]? = some o) (h : HO E N ops τ Q p pl o σ) : HL E N ops τ Q (p :: pl) σ := h hi

theorem hl_nil (h : Q .normal ⟨sl, H⟩) : HL E N ops τ Q [] ⟨sl, H⟩ := by
  intro hns L hL hp I ν a w hs w0 I0 ν0 o0 hf
  simp only [planOK, List.isEmpty_iff] at hp
  exact ⟨hp, rfl, ⟨sl, H⟩, I, ν, h, hs, hf⟩

theorem LN.panic {E : Env} {N : Nat} {w : World} {I : Imm} {ν : Nu} {objs : List AO} {Q : Exit → St → Prop} {e : Exit} {a : Act} {w' : World} (hn : e ≠ .normal) (h : LN E N w I ν objs Q e a w') {p : Prop} : p := absurd h.1 hn

/-- What only looks, or is passed over, is taken first. -/
theorem hl_first {L : List Bool} (hL : L.length = ops.size) (hns : Region.noSelect ops = true) (hp : planOK ops τ L (p :: pl) = true) (hq : p.q = true) {o : Oper} (hi : ops[p.i]? = some o) {v : Value} {σ σ' : St} {I : Imm} {ν : Nu} {a : Act} {w w0 : World} {I0 : Imm} {ν0 : Nu} {o0 : List AO}
    (hH : σ'.objs = σ.objs) (hs : SR E N I ν σ a w) (hf : FR E.k w0 I0 ν0 o0 w I ν σ.objs)
    (hy : (Region.wanted o (yielded ops a.tmps) = true ∧ ∀ w', Still ν (gnl p.G 0 σ.objs) I w w' → (execOp a.eval o).run E.P w' = .ok (.value v) w') ∨ (Region.wanted o (yielded ops a.tmps) = false ∧ v = undef))
    (hs' : SR E N I ν σ' (a.put o.dst v) w) (h : HL E N ops τ Q pl σ') : wpAnyP E.P .any ops (LN E N w0 I0 ν0 o0 Q) (SS τ L.toArray I ν σ.objs w) (p :: pl).length L.toArray a w := by
  simp only [planOK, hq, Bool.and_eq_true] at hp
  obtain ⟨hq1, hp'⟩ := hp
  simp only [qOK, Bool.and_eq_true, List.all_eq_true, List.mem_range] at hq1
  obtain ⟨⟨⟨⟨⟨g1, g2⟩, g3⟩, g4⟩, g5⟩, g6⟩ := hq1
  have hRs : p.R.length = ops.size := Nat.eq_of_beq_eq_true g3
  have hti : tau τ p.i = [] := by simpa [List.isEmpty_iff] using g5
  have hLR : LLe L.toArray p.R.toArray := fun k hk => by
    rcases Nat.lt_or_ge k ops.size with h1 | h1
    · have := (g6 k h1).1
      simpa [hk] using this
    · have : p.R.length ≤ k := by omega
      simp [this]
  have hh := h hns (L.set p.i true) (by simpa using hL) hp' I ν _ w hs' w0 I0 ν0 o0 (by rw [hH]; exact hf)
  rw [hH] at hh
  have hset : (L.set p.i true).toArray = L.toArray.setIfInBounds p.i true := by simp
  rw [hset] at hh
  refine wpAnyP_first (R := p.R.toArray) hi (Region.noSelect_spec hns) (fun c a w hh => LN.panic (by simp) hh) (by simpa using hRs) (fun j hj => ?_) (fun L' w' => ?_) _ _ _ _ (by simpa using hL) hLR (Region.free_spec hi g1) (by simpa using g2) ?_ ?_ (wpAnyP_mono _ _ _ _ (fun L' w' hl hs => ?_) hh)
  · exact Nat.eq_of_beq_eq_true (g4 j hj)
  · refine ⟨fun ⟨a1, a2, a3⟩ => ⟨a1, a2, fun id o b h1 h2 h3 => a3 id o b h1 h2 fun j hj hl => h3 j hj ?_⟩, fun ⟨a1, a2, a3⟩ => ⟨a1, a2, fun id o b h1 h2 h3 => a3 id o b h1 h2 fun j hj hl => h3 j hj (LLe.set L' p.i j hl)⟩⟩
    by_cases e : p.i = j
    · subst e; rw [hti] at hj; simp [inl] at hj
    · rw [getD_set_ne true e] at hl; exact hl
  · rcases hy with ⟨y1, y2⟩ | hy
    · refine .inl ⟨y1, fun w' ⟨L', l1, l2, a1, a2, a3⟩ => y2 w' ⟨a1, a2, fun id o b h1 h2 => ?_⟩⟩
      rcases gnl_get p.G σ.objs 0 id o h1 with rfl | ⟨h3, h4⟩
      · simp [OB] at h2
      · refine a3 id o b h4 h2 fun j hj hl => ?_
        cases hLj : L.toArray.getD j true with
        | true => rfl
        | false =>
          have hjs : j < ops.size := by
            rcases Nat.lt_or_ge j ops.size with h5 | h5
            · exact h5
            · have : L.length ≤ j := by omega
              simp [this] at hLj
          have := (g6 j hjs).2
          rw [l2 j hl, hLj] at this
          have := allIn_get (by simpa using this) id hj
          rw [Nat.zero_add, this] at h3
          cases h3
    · exact .inr hy
  · exact ⟨Nat.le_refl _, fun _ _ _ => rfl, fun _ _ _ _ _ _ => rfl⟩
  · obtain ⟨a1, a2, a3⟩ := hs
    exact ⟨a1, a2, fun id o b h1 h2 h3 => a3 id o b h1 h2 fun j hj hl => LLe.set _ _ _ (h3 j hj hl)⟩

theorem wpOp_skip {P : Program} {ops : Array Oper} {Q : Exit → Act → World → Prop} {i : Nat} {o : Oper} {K : Act → World → Prop} {a : Act} {w : World} (hi : ops[i]? = some o) (hw : Region.wanted o (yielded ops a.tmps) = false) (h : K (a.put o.dst undef) w) : wpOp P ops Q i K a w := by
  unfold wpOp
  simp only [hi, hw, Bool.false_eq_true, if_false]
  exact h
theorem wpOp_do {P : Program} {ops : Array Oper} {Q : Exit → Act → World → Prop} {i : Nat} {o : Oper} {K : Act → World → Prop} {a : Act} {w : World} (hi : ops[i]? = some o) (hw : Region.wanted o (yielded ops a.tmps) = true) (h : o.wp P a w K Q) : wpOp P ops Q i K a w := by
  unfold wpOp
  simp only [hi, hw, if_true]
  exact .inl h

/-- The one that may come up. -/
theorem hl_one {L : List Bool} (hL : L.length = ops.size) (hns : Region.noSelect ops = true) (hp : planOK ops τ L (p :: pl) = true) (hq : p.q = false) {o : Oper} (hi : ops[p.i]? = some o) {σ : St} {I : Imm} {ν : Nu} {a : Act} {w w0 : World} {I0 : Imm} {ν0 : Nu} {o0 : List AO}
    (hs : SR E N I ν σ a w) (hf : FR E.k w0 I0 ν0 o0 w I ν σ.objs)
    (h : wpOp E.P ops (LN E N w0 I0 ν0 o0 Q) p.i (fun a' w' => ∃ σ' I' ν', HL E N ops τ Q pl σ' ∧ SR E N I' ν' σ' a' w' ∧ FR E.k w I ν σ.objs w' I' ν' σ'.objs ∧
      ∀ (id : Nat) o b, σ.objs[id]? = some o → inl id (tau τ p.i) = false → OB ν id o = some b → w'.heap[b]? = w.heap[b]? ∧ σ'.objs[id]? = some o ∧ OB ν' id o = some b) a w) :
    wpAnyP E.P .any ops (LN E N w0 I0 ν0 o0 Q) (SS τ L.toArray I ν σ.objs w) (p :: pl).length L.toArray a w := by
  simp only [planOK, hq, Bool.and_eq_true, beq_iff_eq] at hp
  obtain ⟨hr, hp'⟩ := hp
  refine ⟨fun h0 => (by rw [hr] at h0; cases h0), fun j hj => ?_⟩
  have hrd : p.i ∈ Region.ready .any ops L.toArray := by rw [hr]; simp
  rw [hr] at hj
  obtain rfl : j = p.i := by simpa using hj
  refine wpOp_mono (fun a' w' ⟨σ', I', ν', k1, k2, k3, k4⟩ => ?_) h
  have hun : L.toArray.getD p.i true = false := (mem_ready.1 hrd).1
  have hset : (L.set p.i true).toArray = L.toArray.setIfInBounds p.i true := by simp
  have hnt : ∀ (L' : Array Bool) (id : Nat), L'.getD p.i true = true → (∀ j, inl id (tau τ j) = true → L'.getD j true = true → L.toArray.getD j true = true) → inl id (tau τ p.i) = false := fun L' id h1 h2 => by
    cases e : inl id (tau τ p.i) with
    | false => rfl
    | true => have := h2 p.i e h1; rw [hun] at this; cases this
  refine ⟨⟨k3.size, k3.imm.2, fun id o b h1 h2 h3 => (k4 id o b h1 (hnt _ id (set_self _ _) h3) h2).1⟩, ?_⟩
  have hh := k1 hns (L.set p.i true) (by simpa using hL) hp' I' ν' a' w' k2 w0 I0 ν0 o0 (hf.trans k3)
  rw [hset] at hh
  refine wpAnyP_mono _ _ _ _ (fun L' w2 hl hs2 => ?_) hh
  obtain ⟨a1, a2, a3⟩ := hs2
  refine ⟨Nat.le_trans k3.size a1, fun b o hb => (a2 b o (k3.imm.1 b o hb)).trans (k3.imm.2 b o hb), fun id o b h1 h2 h3 => ?_⟩
  obtain ⟨m1, m2, m3⟩ := k4 id o b h1 (hnt L' id (hl _ (set_self _ _)) h3) h2
  exact (a3 id o b m2 m3 fun j hj hl' => LLe.set _ _ _ (h3 j hj hl')).trans m1

/-! ### guards -/
theorem ho_n {d : Option Nat} {op : Op} {ty : TypeId} {pos : String} {after : Array Edge} {σ : St} (h : HW E N ops τ Q p pl d op ty pos after σ) : HO E N ops τ Q p pl ⟨d, op, ty, pos, after, none⟩ σ := h none fun _ _ _ _ _ => by simp [Region.wanted]
theorem ho_gy {d : Option Nat} {op : Op} {ty : TypeId} {pos : String} {after : Array Edge} {j t : Nat} {want b : Bool} (hj : (ops[j]?).bind (·.dst) = some t) (hb : lk sl t = some (.bool b)) (hw : b = want) (h : HW E N ops τ Q p pl d op ty pos after ⟨sl, H⟩) :
    HO E N ops τ Q p pl ⟨d, op, ty, pos, after, some (j, want)⟩ ⟨sl, H⟩ := h _ fun I ν a w hs => by
  subst hw
  simp [Region.wanted, yielded_of hs.sl hj hb]

theorem ho_skip {d : Nat} {op : Op} {ty : TypeId} {pos : String} {after : Array Edge} {g : Option (Nat × Bool)} (hw : ∀ I ν a w, SR E N I ν ⟨sl, H⟩ a w → Region.wanted ⟨some d, op, ty, pos, after, g⟩ (yielded ops a.tmps) = false) (hd : Nat.blt d N = true)
    (h : HL E N ops τ Q pl ⟨(d, .und) :: sl, H⟩) : HO E N ops τ Q p pl ⟨some d, op, ty, pos, after, g⟩ ⟨sl, H⟩ := by
  intro hi hns L hL hp I ν a w hs w0 I0 ν0 o0 hf
  have hs' : SR E N I ν ⟨(d, .und) :: sl, H⟩ (a.put (some d) undef) w := put_dst hs hd (.und _ rfl)
  cases hq : p.q with
  | true => exact hl_first (σ := ⟨sl, H⟩) (σ' := ⟨(d, .und) :: sl, H⟩) hL hns hp hq hi rfl hs hf (.inr ⟨hw I ν a w hs, rfl⟩) hs' h
  | false =>
    refine hl_one hL hns hp hq hi hs hf ?_
    refine wpOp_skip hi (hw I ν a w hs) ?_
    exact ⟨⟨(d, .und) :: sl, H⟩, I, ν, h, hs', FR.refl _ _ _ _, fun id o b h1 _ h2 => ⟨rfl, h1, h2⟩⟩
theorem ho_skip0 {op : Op} {ty : TypeId} {pos : String} {after : Array Edge} {g : Option (Nat × Bool)} (hw : ∀ I ν a w, SR E N I ν ⟨sl, H⟩ a w → Region.wanted ⟨none, op, ty, pos, after, g⟩ (yielded ops a.tmps) = false) (hq : p.q = false)
    (h : HL E N ops τ Q pl ⟨sl, H⟩) : HO E N ops τ Q p pl ⟨none, op, ty, pos, after, g⟩ ⟨sl, H⟩ := by
  intro hi hns L hL hp I ν a w hs w0 I0 ν0 o0 hf
  refine hl_one hL hns hp hq hi hs hf ?_
  refine wpOp_skip hi (hw I ν a w hs) ?_
  exact ⟨⟨sl, H⟩, I, ν, h, by simpa [Act.put] using hs, FR.refl _ _ _ _, fun id o b h1 _ h2 => ⟨rfl, h1, h2⟩⟩
theorem ho_gnt {op : Op} {ty : TypeId} {pos : String} {after : Array Edge} {d j t : Nat} {b : Bool} (hj : (ops[j]?).bind (·.dst) = some t) (hb : lk sl t = some (.bool b)) (hw : b = false) (hd : Nat.blt d N = true) (h : HL E N ops τ Q pl ⟨(d, .und) :: sl, H⟩) :
    HO E N ops τ Q p pl ⟨some d, op, ty, pos, after, some (j, true)⟩ ⟨sl, H⟩ := ho_skip (fun I ν a w hs => by subst hw; simp [Region.wanted, yielded_of hs.sl hj hb]) hd h
theorem ho_gnf {op : Op} {ty : TypeId} {pos : String} {after : Array Edge} {d j t : Nat} {b : Bool} (hj : (ops[j]?).bind (·.dst) = some t) (hb : lk sl t = some (.bool b)) (hw : b = true) (hd : Nat.blt d N = true) (h : HL E N ops τ Q pl ⟨(d, .und) :: sl, H⟩) :
    HO E N ops τ Q p pl ⟨some d, op, ty, pos, after, some (j, false)⟩ ⟨sl, H⟩ := ho_skip (fun I ν a w hs => by subst hw; simp [Region.wanted, yielded_of hs.sl hj hb]) hd h
theorem ho_gu {op : Op} {ty : TypeId} {pos : String} {after : Array Edge} {d j t : Nat} {want : Bool} (hj : (ops[j]?).bind (·.dst) = some t) (hb : lk sl t = some .und) (hd : Nat.blt d N = true) (h : HL E N ops τ Q pl ⟨(d, .und) :: sl, H⟩) :
    HO E N ops τ Q p pl ⟨some d, op, ty, pos, after, some (j, want)⟩ ⟨sl, H⟩ := ho_skip (fun I ν a w hs => by simp [Region.wanted, yielded_und (ops := ops) hs.sl hj hb]) hd h

theorem ho_know {o : Oper} {t : Nat} (b : Bool) (hb : lk sl t = some (.bool b)) (hy : b = true → HO E N ops τ Q p pl o ⟨(t, .bool true) :: sl, H⟩) (hn : b = false → HO E N ops τ Q p pl o ⟨(t, .bool false) :: sl, H⟩) : HO E N ops τ Q p pl o ⟨sl, H⟩ := by
  have key : ∀ I ν a w, SR E N I ν ⟨sl, H⟩ a w → SR E N I ν ⟨(t, .bool b) :: sl, H⟩ a w := fun I ν a w hs => ⟨hs.hr, fun t' x hx => by
    rw [lk_cons] at hx
    by_cases e : t = t'
    · subst e; rw [if_pos rfl] at hx; obtain rfl : AV.bool b = x := by simpa using hx
      exact hs.sl t _ hb
    · rw [if_neg e] at hx; exact hs.sl t' x hx, hs.df, hs.nt⟩
  intro hi hns L hL hp I ν a w hs
  cases b with
  | true => exact hy rfl hi hns L hL hp I ν a w (key I ν a w hs)
  | false => exact hn rfl hi hns L hL hp I ν a w (key I ν a w hs)
theorem ho_gsp {op : Op} {ty : TypeId} {pos : String} {after : Array Edge} {d : Option Nat} {j t : Nat} {want : Bool} {q : Prop} [Decidable q] (hj : (ops[j]?).bind (·.dst) = some t) (hb : lk sl t = some (.bool (decide q)))
    (hy : q → HO E N ops τ Q p pl ⟨d, op, ty, pos, after, some (j, want)⟩ ⟨(t, .bool true) :: sl, H⟩) (hn : ¬ q → HO E N ops τ Q p pl ⟨d, op, ty, pos, after, some (j, want)⟩ ⟨(t, .bool false) :: sl, H⟩) :
    HO E N ops τ Q p pl ⟨d, op, ty, pos, after, some (j, want)⟩ ⟨sl, H⟩ := ho_know (decide q) hb (fun h => hy (of_decide_eq_true h)) (fun h => hn (of_decide_eq_false h))
theorem ho_gsb {op : Op} {ty : TypeId} {pos : String} {after : Array Edge} {d : Option Nat} {j t : Nat} {want b : Bool} (hj : (ops[j]?).bind (·.dst) = some t) (hb : lk sl t = some (.bool b))
    (hy : b = true → HO E N ops τ Q p pl ⟨d, op, ty, pos, after, some (j, want)⟩ ⟨(t, .bool true) :: sl, H⟩) (hn : b = false → HO E N ops τ Q p pl ⟨d, op, ty, pos, after, some (j, want)⟩ ⟨(t, .bool false) :: sl, H⟩) :
    HO E N ops τ Q p pl ⟨d, op, ty, pos, after, some (j, want)⟩ ⟨sl, H⟩ := ho_know b hb hy hn

/-! ### what only looks; what changes something -/
theorem hw_v {op : Op} {ty : TypeId} {pos : String} {after : Array Edge} {d : Nat} {x : AV} (hv : OV E sl (gnl p.G 0 H) op x) (hd : Nat.blt d N = true) (h : HL E N ops τ Q pl ⟨(d, x) :: sl, H⟩) (hq : p.q = true := by rfl) :
    HW E N ops τ Q p pl (some d) op ty pos after ⟨sl, H⟩ := by
  intro g hg hi hns L hL hp I ν a w hs w0 I0 ν0 o0 hf
  obtain ⟨v, hx, hr⟩ := hv I ν a w (hs.hr.less (gnl_len _ _ _) fun id o h => (gnl_get p.G H 0 id o h).imp (fun e => e) (fun e => e.2)) hs.sl
  exact hl_first (σ := ⟨sl, H⟩) (σ' := ⟨(d, x) :: sl, H⟩) hL hns hp hq hi rfl hs hf (.inl ⟨hg I ν a w hs, fun w' hw => hr _ w' rfl hw⟩) (put_dst hs hd hx) h

def HQ (E : Env) (N : Nat) (ops : Array Oper) (τ : List (Nat × List Nat)) (Q : Exit → St → Prop) (T : List Nat) (H : List AO) (pl : List PS) : Exit → St → Prop := fun e s => e = .normal ∧ HL E N ops τ Q pl ⟨s.sl, rsl T 0 H s.objs⟩
theorem hq_back {T : List Nat} {H1 : List AO} (h : HL E N ops τ Q pl ⟨sl, rsl T 0 H H1⟩) : HQ E N ops τ Q T H pl .normal ⟨sl, H1⟩ := ⟨rfl, h⟩

/-- What changes something: it is walked with no objects but those that it may change. -/
theorem hw_s {op : Op} {ty : TypeId} {pos : String} {after : Array Edge} {d : Option Nat} (hq : p.q = false) (h : AL (E.at H.length) N ops (HQ E N ops τ Q (tau τ p.i) H pl) [⟨d, op, ty, pos, after, none⟩] ⟨sl, mkl (tau τ p.i) 0 H⟩) :
    HW E N ops τ Q p pl d op ty pos after ⟨sl, H⟩ := by
  intro g hg hi hns L hL hp I ν a w hs w0 I0 ν0 o0 hf
  refine hl_one hL hns hp hq hi hs hf ?_
  have hm : HR E I ν (mkl (tau τ p.i) 0 H) w := hs.hr.less (mkl_len _ _ _) fun id o h => (mkl_get _ H 0 id o h).imp (fun e => e) (fun e => e.2)
  have := h I ν a w ⟨HR.env (E := E) (F := E.at H.length) rfl rfl hm, hs.sl, hs.df, hs.nt⟩ w I ν _ (FR.refl _ _ _ _)
  unfold wpList at this
  rw [if_pos (by simp [Region.wanted])] at this
  refine wpOp_do hi (hg I ν a w hs) ?_
  rcases this with this | ⟨_, a', w', σ', _, _, ⟨e, _⟩, _⟩
  · refine wp_monoQ (fun e a' w' he ⟨σ', I', ν', ⟨h1, _⟩, _⟩ => absurd h1 he) (Oper.wp_mono (fun a' w' hk => ?_) this)
    obtain ⟨σ', I', ν', ⟨_, h2⟩, hs2, hf2⟩ := hk
    obtain ⟨u1, u2, u3, u4⟩ := unmask (E := E) (tau τ p.i) hs.hr hs2.hr hf2
    exact ⟨⟨σ'.sl, rsl (tau τ p.i) 0 H σ'.objs⟩, I', ν', h2, ⟨u1, hs2.sl, hs2.df, hs2.nt⟩, u2, u4⟩
  · cases e
theorem k_hw {d : Option Nat} {op : Op} {ty : TypeId} {pos : String} {after : Array Edge} {σ : St} (h : HW E N ops τ Q p pl d op ty pos after σ) : HW E N ops τ Q p pl d op ty pos after σ := h
theorem k_ho {o : Oper} {σ : St} (h : HO E N ops τ Q p pl o σ) : HO E N ops τ Q p pl o σ := h
end
end Go.Proofs.Ytibmabidjacjlaa.L
