/- The logic, part 19: regions that draw their order and change something: what changes something waits for all that is left; what only looks may come up earlier or later. -/
import Derived.Test.YtibmabidjacjlaaLr
import Derived.OrdersHeld
namespace Go.Proofs.Ytibmabidjacjlaa.L
open Go Go.RowKit
set_option linter.unusedVariables false
set_option linter.unusedSimpArgs false

section
variable {P : Program} {ops : Array Oper} {Q : Exit → Act → World → Prop} {md : Region.Mode} {S S' : Array Bool → World → Prop}

/-- Whatever order is picked, and S holds behind each operation: S may speak of what has come up. -/
def wpAnyP (P : Program) (md : Region.Mode) (ops : Array Oper) (Q : Exit → Act → World → Prop) (S : Array Bool → World → Prop) : Nat → Array Bool → Act → World → Prop
  | 0, L, a, w => Region.ready md ops L = [] ∧ Q .normal a w
  | n + 1, L, a, w => (Region.ready md ops L = [] → Q .normal a w) ∧
    ∀ i ∈ Region.ready md ops L, wpOp P ops Q i (fun a' w' => S (L.setIfInBounds i true) w' ∧ wpAnyP P md ops Q S n (L.setIfInBounds i true) a' w') a w

theorem wpAny_of_P : ∀ (n : Nat) (L : Array Bool) (a : Act) (w : World), wpAnyP P md ops Q S n L a w → wpAny P md ops Q n L a w
  | 0, _, _, _, h => h
  | n + 1, _, _, _, h => ⟨h.1, fun i hi => wpOp_mono (fun a' w' h' => wpAny_of_P n _ a' w' h'.2) (h.2 i hi)⟩

def LLe (L L' : Array Bool) : Prop := ∀ k, L.getD k true = true → L'.getD k true = true
theorem LLe.set (L : Array Bool) (i : Nat) : LLe L (L.setIfInBounds i true) := fun k h => by
  by_cases e : i = k
  · subst e
    by_cases hi : i < L.size
    · simp [hi]
    · simp [hi]
  · rw [getD_set_ne true e]; exact h
theorem set_self (L : Array Bool) (i : Nat) : (L.setIfInBounds i true).getD i true = true := by
  by_cases hi : i < L.size
  · simp [hi]
  · simp [hi]

theorem wpAnyP_mono : ∀ (n : Nat) (L : Array Bool) (a : Act) (w : World), (∀ L' w', LLe L L' → S L' w' → S' L' w') → wpAnyP P md ops Q S n L a w → wpAnyP P md ops Q S' n L a w
  | 0, _, _, _, _, h => h
  | n + 1, L, _, _, hS, h => ⟨h.1, fun i hi => wpOp_mono (fun a' w' h' => ⟨hS _ _ (LLe.set L i) h'.1, wpAnyP_mono n _ a' w' (fun L' w' hl hs => hS L' w' (fun k hk => hl k (LLe.set L i k hk)) hs) h'.2⟩) (h.2 i hi)⟩

theorem wpAnyP_first {i : Nat} {oi : Oper} {v : Value} {R : Array Bool} (hi : ops[i]? = some oi) (hsel : ∀ (j : Nat) (o : Oper) cs b, ops[j]? = some o → o.op ≠ .select cs b)
    (hQ : ∀ c a w, Q (.panic c) (a.put oi.dst v) w → Q (.panic c) a w) (hRs : R.size = ops.size) (hR : ∀ j ∈ Region.ready md ops R, j = i) (hS : ∀ L w, S (L.setIfInBounds i true) w ↔ S L w) :
    ∀ (n : Nat) (L : Array Bool) (a : Act) (w : World), L.size = ops.size → LLe L R →
      (∀ j oj, ops[j]? = some oj → j ≠ i → L.getD j true = false → (∀ e ∈ oj.after, Region.binds md e = true → e.on ≠ i) → oi.apart ops oj = true) →
      i ∈ Region.ready md ops L → YieldsIf P ops (fun w' => ∃ L', LLe L L' ∧ LLe L' R ∧ S L' w') oi v a → S L w →
      wpAnyP P md ops Q S n (L.setIfInBounds i true) (a.put oi.dst v) w → wpAnyP P md ops Q S (n + 1) L a w := by
  intro n
  induction n with
  | zero =>
    intro L a w hLs hLR _ hr hy hSL H
    refine ⟨fun h => (by rw [h] at hr; cases hr), fun j hj => ?_⟩
    by_cases hji : j = i
    · subst hji; exact hy.wpOp hi ⟨L, fun _ h => h, hLR, hSL⟩ ⟨(hS L w).2 hSL, H⟩
    · have := ready_mono hj hji
      rw [H.1] at this
      cases this
  | succ n ih =>
    intro L a w hLs hLR hfree hr hy hSL H
    refine ⟨fun h => (by rw [h] at hr; cases hr), fun j hj => ?_⟩
    by_cases hji : j = i
    · subst hji; exact hy.wpOp hi ⟨L, fun _ h => h, hLR, hSL⟩ ⟨(hS L w).2 hSL, H⟩
    · have h1 := H.2 j (ready_mono hj hji)
      obtain ⟨hjun, oj, hoj, hall⟩ := mem_ready.1 hj
      have hjs : j < L.size := by rw [hLs]; exact (Array.getElem?_eq_some_iff.1 hoj).1
      have hnot : ∀ e ∈ oj.after, Region.binds md e = true → e.on ≠ i := fun e he hb heq => by
        have h1 := hall e he hb
        have h0 := (mem_ready.1 hr).1
        rw [heq] at h1
        rcases Nat.lt_or_ge i L.size with h' | h'
        · simp [h'] at h0 h1; rw [h0] at h1; cases h1
        · simp [Array.getElem?_eq_none h'] at h1
      have hjR : R.getD j true = true := by
        cases hRj : R.getD j true with
        | true => rfl
        | false =>
          refine absurd (hR j (mem_ready.2 ⟨hRj, oj, hoj, fun e he hb => ?_⟩)) hji
          have h2 := hall e he hb
          have hlt : e.on < L.size := by
            rcases Nat.lt_or_ge e.on L.size with h' | h'
            · exact h'
            · simp [Array.getElem?_eq_none h'] at h2
          have h3 : L.getD e.on true = true := by simpa [hlt] using h2
          have h4 := hLR _ h3
          have hlt' : e.on < R.size := by rw [hRs, ← hLs]; exact hlt
          simpa [hlt'] using h4
      have hLR' : LLe (L.setIfInBounds j true) R := fun k hk => by
        by_cases e : j = k
        · subst e; exact hjR
        · rw [getD_set_ne true e] at hk; exact hLR k hk
      have h2 := wpOp_putIf hoj (hfree j oj hoj hji hjun hnot) (fun cs b => hsel i oi cs b hi) (fun cs b => hsel j oj cs b hoj) hQ hy h1
      refine wpOp_mono (fun a' w' h3 => ?_) h2
      have hc : (L.setIfInBounds i true).setIfInBounds j true = (L.setIfInBounds j true).setIfInBounds i true := Array.setIfInBounds_comm _ _ (Ne.symm hji)
      obtain ⟨k1, k2, k3⟩ := h3
      rw [hc] at k2 k3
      have k4 := (hS _ _).1 k2
      refine ⟨k4, ih (L.setIfInBounds j true) a' w' (by simpa using hLs) hLR' (fun k ok hk hki hun hno => ?_) (ready_mono hr (Ne.symm hji)) ?_ k4 k3⟩
      · refine hfree k ok hk hki ?_ hno
        by_cases hjk : j = k
        · subst hjk; exact hjun
        · rw [getD_set_ne true hjk] at hun; exact hun
      · exact k1.imp (fun ⟨g1, g2⟩ => ⟨g1, fun w2 ⟨L', l1, l2, l3⟩ => g2 w2 ⟨L', fun k hk => l1 k (LLe.set L j k hk), l2, l3⟩⟩) id

theorem wp_monoQ {o : Oper} {a : Act} {w : World} {K : Act → World → Prop} {Q' : Exit → Act → World → Prop} (h : ∀ e a w, e ≠ .normal → Q e a w → Q' e a w) (hh : o.wp P a w K Q) : o.wp P a w K Q' := by
  unfold Oper.wp at *
  generalize (execOp a.eval o).run P w = r at *
  cases r with
  | ok n w' =>
    cases n <;> simp only [Oper.upon] at hh ⊢ <;>
      first
        | exact hh
        | exact h _ _ _ (by simp) hh
        | exact Calls.mono hh (fun e w'' he => by cases e <;> first | exact he | exact h _ _ _ (by simp) he | exact he.imp fun a he => he.imp fun w he => h _ _ _ (by simp) he)
        | exact Rows.mono hh (fun _ _ he => he)
  | halt x w' => cases x <;> simp only [Oper.upon] at hh ⊢ <;> first | exact hh | exact h _ _ _ (by simp) hh
end

/-! ### ids in lists; objects left out, put back -/
def inl (n : Nat) : List Nat → Bool
  | [] => false
  | x :: r => match Nat.beq x n with
    | true => true
    | false => inl n r
/-- Those of G are left out. -/
def gnl (G : List Nat) : Nat → List AO → List AO
  | _, [] => []
  | i, h :: hs => (match inl i G with
    | true => .gone
    | false => h) :: gnl G (i + 1) hs
/-- All but those of T are left out. -/
def mkl (T : List Nat) : Nat → List AO → List AO
  | _, [] => []
  | i, h :: hs => (match inl i T with
    | true => h
    | false => .gone) :: mkl T (i + 1) hs
/-- All but those of T are put back. -/
def rsl (T : List Nat) : Nat → List AO → List AO → List AO
  | _, [], ys => ys
  | _, _ :: _, [] => []
  | i, h :: hs, y :: ys => (match inl i T with
    | true => y
    | false => h) :: rsl T (i + 1) hs ys

theorem gnl_get (G : List Nat) : ∀ (H : List AO) (i k : Nat) o, (gnl G i H)[k]? = some o → o = .gone ∨ (inl (i + k) G = false ∧ H[k]? = some o) := by
  intro H
  induction H with
  | nil => intro i k o h; simp [gnl] at h
  | cons x r ih =>
    intro i k o h
    cases k with
    | zero =>
      simp only [gnl, List.getElem?_cons_zero, Option.some.injEq] at h
      split at h
      · exact .inl h.symm
      · rename_i e; subst h; exact .inr ⟨e, rfl⟩
    | succ k =>
      simp only [gnl, List.getElem?_cons_succ] at h
      rcases ih _ _ _ h with h | ⟨h1, h2⟩
      · exact .inl h
      · exact .inr ⟨by rw [← h1]; congr 1; omega, h2⟩
theorem gnl_len (G : List Nat) : ∀ (H : List AO) (i : Nat), (gnl G i H).length = H.length := by
  intro H
  induction H with
  | nil => intro i; rfl
  | cons x r ih => intro i; simp [gnl, ih]
theorem mkl_len (T : List Nat) : ∀ (H : List AO) (i : Nat), (mkl T i H).length = H.length := by
  intro H
  induction H with
  | nil => intro i; rfl
  | cons x r ih => intro i; simp [mkl, ih]
theorem mkl_get (T : List Nat) : ∀ (H : List AO) (i k : Nat) o, (mkl T i H)[k]? = some o → o = .gone ∨ (inl (i + k) T = true ∧ H[k]? = some o) := by
  intro H
  induction H with
  | nil => intro i k o h; simp [mkl] at h
  | cons x r ih =>
    intro i k o h
    cases k with
    | zero =>
      simp only [mkl, List.getElem?_cons_zero, Option.some.injEq] at h
      split at h
      · rename_i e; subst h; exact .inr ⟨e, rfl⟩
      · exact .inl h.symm
    | succ k =>
      simp only [mkl, List.getElem?_cons_succ] at h
      rcases ih _ _ _ h with h | ⟨h1, h2⟩
      · exact .inl h
      · exact .inr ⟨by rw [← h1]; congr 1; omega, h2⟩
theorem mkl_gone (T : List Nat) : ∀ (H : List AO) (i k : Nat), k < H.length → inl (i + k) T = false → (mkl T i H)[k]? = some .gone := by
  intro H
  induction H with
  | nil => intro i k h; simp at h
  | cons x r ih =>
    intro i k h he
    cases k with
    | zero =>
      rw [Nat.add_zero] at he
      simp [mkl, he]
    | succ k =>
      simp only [mkl, List.getElem?_cons_succ]
      exact ih _ _ (by simpa using h) (by rw [← he]; congr 1; omega)
theorem mkl_gone' (T : List Nat) : ∀ (H : List AO) (i k : Nat), H[k]? = some .gone → (mkl T i H)[k]? = some .gone := by
  intro H
  induction H with
  | nil => intro i k h; simp at h
  | cons x r ih =>
    intro i k h
    cases k with
    | zero =>
      simp only [List.getElem?_cons_zero, Option.some.injEq] at h
      subst h
      simp only [mkl, List.getElem?_cons_zero, Option.some.injEq]
      split <;> rfl
    | succ k =>
      simp only [mkl, List.getElem?_cons_succ]
      exact ih _ _ (by simpa using h)
theorem rsl_len (T : List Nat) : ∀ (H ys : List AO) (i : Nat), H.length ≤ ys.length → (rsl T i H ys).length = ys.length := by
  intro H
  induction H with
  | nil => intro ys i _; simp [rsl]
  | cons x r ih =>
    intro ys i h
    cases ys with
    | nil => simp at h
    | cons y ys => simp [rsl, ih ys (i + 1) (by simpa using h)]
theorem rsl_get (T : List Nat) : ∀ (H ys : List AO) (i k : Nat), H.length ≤ ys.length → (k < H.length ∧ inl (i + k) T = false ∧ (rsl T i H ys)[k]? = H[k]?) ∨ ((H.length ≤ k ∨ inl (i + k) T = true) ∧ (rsl T i H ys)[k]? = ys[k]?) := by
  intro H
  induction H with
  | nil => intro ys i k _; exact .inr ⟨.inl (Nat.zero_le _), by simp [rsl]⟩
  | cons x r ih =>
    intro ys i k h
    cases ys with
    | nil => simp at h
    | cons y ys =>
      cases k with
      | zero =>
        rw [Nat.add_zero]
        cases e : inl i T with
        | true => exact .inr ⟨.inr rfl, by simp [rsl, e]⟩
        | false => exact .inl ⟨by simp, rfl, by simp [rsl, e]⟩
      | succ k =>
        have e : i + 1 + k = i + (k + 1) := by omega
        rcases ih ys (i + 1) k (by simpa using h) with ⟨h1, h2, h3⟩ | ⟨h1, h3⟩
        · exact .inl ⟨by simpa using h1, by rw [← e]; exact h2, by simpa [rsl] using h3⟩
        · refine .inr ⟨?_, by simpa [rsl] using h3⟩
          rcases h1 with h1 | h1
          · exact .inl (by simpa using h1)
          · exact .inr (by rw [← e]; exact h1)

section
variable {E : Env} {I I1 : Imm} {ν ν1 : Nu} {w w1 : World} {H H1 : List AO}

theorem HR.less {H' : List AO} (hh : HR E I ν H w) (hl : H'.length = H.length) (hm : ∀ (id : Nat) o, H'[id]? = some o → o = .gone ∨ H[id]? = some o) : HR E I ν H' w := by
  refine ⟨by rw [hl]; exact hh.n, hh.below, hh.base, hh.imm, fun id o h => ?_, fun id id' o o' b h1 h2 e1 e2 => ?_⟩
  · rcases hm id o h with rfl | h
    · exact .gone
    · exact hh.obj id o h
  · rcases hm id o h1 with rfl | h1
    · simp [OB] at e1
    · rcases hm id' o' h2 with rfl | h2
      · simp [OB] at e2
      · exact hh.disj id id' o o' b h1 h2 e1 e2

theorem unmask (T : List Nat) (hh : HR E I ν H w) (hh1 : HR (E.at H.length) I1 ν1 H1 w1) (fr : FR H.length w I ν (mkl T 0 H) w1 I1 ν1 H1) :
    HR E I1 ν1 (rsl T 0 H H1) w1 ∧ FR E.k w I ν H w1 I1 ν1 (rsl T 0 H H1) ∧ ν.le ν1 ∧
      ∀ (id : Nat) o b, H[id]? = some o → inl id T = false → OB ν id o = some b → w1.heap[b]? = w.heap[b]? ∧ (rsl T 0 H H1)[id]? = some o ∧ OB ν1 id o = some b := by
  have hn : ∀ id, id < H.length → id < ν.n := fun id h => by rw [hh.n]; exact h
  have hlen : H.length ≤ H1.length := by
    rcases Nat.eq_zero_or_pos H.length with h | h
    · omega
    · have := (fr.ag (H.length - 1) (by omega) (hn _ (by omega))).1
      rw [hh1.n] at this
      omega
  have hle : ν.le ν1 := ⟨by rw [hh.n, hh1.n]; exact hlen, fun id hi => (fr.ag id (by rw [← hh.n]; exact hi) hi).2.1, fun id ver hi hv => (fr.ag id (by rw [← hh.n]; exact hi) hi).2.2 ver hv⟩
  have hFm : ∀ b, FB ν (mkl T 0 H) b → ∃ (id : Nat) (o : AO), inl id T = true ∧ H[id]? = some o ∧ OB ν id o = some b := by
    rintro b ⟨id, o, h1, h2⟩
    rcases mkl_get T H 0 id o h1 with rfl | ⟨h3, h4⟩
    · simp [OB] at h2
    · exact ⟨id, o, by simpa using h3, h4, h2⟩
  have hfree : ∀ (id : Nat) o b, H[id]? = some o → inl id T = false → OB ν id o = some b → ¬ FB ν (mkl T 0 H) b := fun id o b h1 h2 h3 hf => by
    obtain ⟨id', o', g1, g2, g3⟩ := hFm b hf
    have := hh.disj id id' o o' b h1 g2 h3 g3
    subst this
    rw [h2] at g1
    cases g1
  have hOB : ∀ (id : Nat) o, H[id]? = some o → OB ν1 id o = OB ν id o := fun id o h => OB_same (hh.obj id o h) hle (hh.idlt h)
  have hcase : ∀ (id : Nat) o, (rsl T 0 H H1)[id]? = some o → (inl id T = false ∧ H[id]? = some o) ∨ H1[id]? = some o := fun id o h => by
    rcases rsl_get T H H1 0 id hlen with ⟨h1, h2, h3⟩ | ⟨_, h3⟩
    · exact .inl ⟨by simpa using h2, by rw [← h3]; exact h⟩
    · exact .inr (by rw [← h3]; exact h)
  have hun : ∀ (id : Nat) o, H[id]? = some o → inl id T = false → (rsl T 0 H H1)[id]? = some o := fun id o h h2 => by
    rcases rsl_get T H H1 0 id hlen with ⟨_, _, h3⟩ | ⟨h1, _⟩
    · rw [h3]; exact h
    · rcases h1 with h1 | h1
      · have := (List.getElem?_eq_some_iff.1 h).1; omega
      · rw [Nat.zero_add, h2] at h1; cases h1
  have hold : ∀ (id : Nat) o b, H[id]? = some o → inl id T = false → OB ν id o = some b → w1.heap[b]? = w.heap[b]? := fun id o b h1 h2 h3 => fr.keep b (OB_lt (hh.obj id o h1) h3).1 (hfree id o b h1 h2 h3)
  have hapart : ∀ (id id' : Nat) o o' b, inl id T = false → H[id]? = some o → H1[id']? = some o' → OB ν id o = some b → OB ν1 id' o' = some b → False := fun id id' o o' b g1 g2 g3 g4 g5 => by
    rcases fr.foot b ⟨id', o', g3, g5⟩ with h | h
    · exact hfree id o b g2 g1 g4 h
    · have := (OB_lt (hh.obj id o g2) g4).1; omega
  refine ⟨⟨by rw [rsl_len T H H1 0 hlen]; exact hh1.n, hh1.below, hh1.base, hh1.imm, fun id o h => ?_, fun id id' o o' b h1 h2 e1 e2 => ?_⟩,
    ⟨fr.imm, fr.size, fun b o h => ?_, fun b hb hnf => fr.keep b hb fun hf => ?_, fun b ⟨id, o, h, h2⟩ => ?_, fun id _ hi => fr.ag id (by rw [← hh.n]; exact hi) hi, fun id _ h => ?_⟩, hle, fun id o b h1 h2 h3 => ⟨hold id o b h1 h2 h3, hun id o h1 h2, (hOB id o h1).trans h3⟩⟩
  · rcases hcase id o h with ⟨h1, h2⟩ | h2
    · have hlt := (List.getElem?_eq_some_iff.1 h2).1
      refine (hh.obj id o h2).mono fr.imm hle (hh.idlt h2) (fr.gone id hlt (mkl_gone T H 0 id hlt (by simpa using h1))).1 (fun b hb => hold id o b h2 h1 hb) (fun b o' hb hi => ?_)
      rcases fr.new b o' hi with k | k | k
      · exact k
      · exact absurd k (hfree id o b h2 h1 hb)
      · have := (OB_lt (hh.obj id o h2) hb).1; omega
    · exact OR.env (E := E.at H.length) (F := E) rfl (hh1.obj id o h2)
  · rcases hcase id o h1 with ⟨k1, k2⟩ | k2 <;> rcases hcase id' o' h2 with ⟨l1, l2⟩ | l2
    · rw [hOB id o k2] at e1
      rw [hOB id' o' l2] at e2
      exact hh.disj id id' o o' b k2 l2 e1 e2
    · rw [hOB id o k2] at e1
      exact absurd (hapart id id' o o' b k1 k2 l2 e1 e2) (fun h => h)
    · rw [hOB id' o' l2] at e2
      exact absurd (hapart id' id o' o b l1 l2 k2 e2 e1) (fun h => h)
    · exact hh1.disj id id' o o' b k2 l2 e1 e2
  · rcases fr.new b o h with h | h | h
    · exact .inl h
    · obtain ⟨id', o', _, g2, g3⟩ := hFm b h
      exact .inr (.inl ⟨id', o', g2, g3⟩)
    · exact .inr (.inr h)
  · obtain ⟨id', o', _, g2, g3⟩ := hFm b hf
    exact hnf ⟨id', o', g2, g3⟩
  · rcases hcase id o h with ⟨h1, h3⟩ | h3
    · rw [hOB id o h3] at h2
      exact .inl ⟨id, o, h3, h2⟩
    · rcases fr.foot b ⟨id, o, h3, h2⟩ with k | k
      · obtain ⟨id', o', _, g2, g3⟩ := hFm b k
        exact .inl ⟨id', o', g2, g3⟩
      · exact .inr k
  · have hlt := (List.getElem?_eq_some_iff.1 h).1
    obtain ⟨g1, g2⟩ := fr.gone id hlt (mkl_gone' T H 0 id h)
    refine ⟨g1, ?_⟩
    rcases rsl_get T H H1 0 id hlen with ⟨_, _, h3⟩ | ⟨_, h3⟩
    · rw [h3]; exact h
    · rw [h3]; exact g2
end
end Go.Proofs.Ytibmabidjacjlaa.L
