/- Part 7 of the texts behind the theorem of this claim: The logic, part 33: objects renamed and dropped; string(b) of bytes that never change; an and of bits -/
import Derived.Test.YtffcgpkbibijpaaGreatDoorQc6
set_option linter.unusedVariables false
set_option linter.unusedSimpArgs false
namespace Go.Proofs.YtffcgpkbibijpaaGreatDoor.L
open Go Go.RowKit
set_option linter.unusedVariables false
set_option linter.unusedSimpArgs false

/-- Slots as they are called behind a renaming. -/
inductive SubR (r : Nat → Nat) (sl : Slots) : Slots → Prop where
  | nil : SubR r sl []
  | cons {t : Nat} {x y : AV} {s : Slots} (h : lk sl t = some y) (e : Rn r x y) (k : SubR r sl s) : SubR r sl ((t, x) :: s)
theorem SubR.get {r : Nat → Nat} {sl s : Slots} (h : SubR r sl s) : ∀ t x, lk s t = some x → ∃ y, lk sl t = some y ∧ Rn r x y := by
  induction h with
  | nil => intro t x h; simp [lk] at h
  | @cons t x y s h e k ih =>
    intro t' x' h'
    rw [lk_cons] at h'
    by_cases q : t = t'
    · subst q
      rw [if_pos rfl] at h'
      injection h' with h'
      subst h'
      exact ⟨y, h, e⟩
    · rw [if_neg q] at h'
      exact ih t' x' h'
/-- The first k ids keep their names. -/
def keeps (ρ : List Nat) : Nat → Bool
  | 0 => true
  | k + 1 => match ρ[k]? with
    | some j => Nat.beq j k && keeps ρ k
    | none => false
theorem keeps_get {ρ : List Nat} : ∀ {k : Nat}, keeps ρ k = true → ∀ i, i < k → ρ[i]? = some i := by
  intro k
  induction k with
  | zero => intro _ i h; exact absurd h (Nat.not_lt_zero _)
  | succ k ih =>
    intro h i hi
    rw [keeps] at h
    split at h
    · rename_i j hj
      rw [Bool.and_eq_true] at h
      have := Nat.eq_of_beq_eq_true h.1
      subst this
      rcases Nat.lt_or_ge i j with h2 | h2
      · exact ih h.2 i h2
      · obtain rfl : i = j := by omega
        exact hj
    · cases h
section
variable {E : Env} {N : Nat}
/-- Objects renamed; those that ρ does not name are forgotten. -/
theorem Wkn.pick (ρ : List Nat) {sl sl' : Slots} {H os : List AO} (hp : PickO (rn ρ H.length) H ρ os) (hn : ndup ρ = true) (hk : keeps ρ E.k = true) (hs' : SubR (rn ρ H.length) sl sl') : Wkn E N ⟨sl, H⟩ ⟨sl', os⟩ := by
  intro I ν a w hs
  obtain ⟨h1, h2⟩ := hr_A hs.hr hp hn
  obtain ⟨g1, g2⟩ := hp.get
  refine ⟨I, nuC ρ ν, ⟨HR.env (E := E.at 0) (F := E) rfl rfl h1, fun t x hx => ?_, hs.df, hs.nt⟩, ⟨ImmLe.refl _ _, Nat.le_refl _, fun _ _ h => .inl h, fun _ _ _ => rfl, fun b hb => ?_, fun id hi hn' => ?_, fun id hi hg => ?_⟩⟩
  · obtain ⟨y, hy, hxy⟩ := hs'.get t x hx
    exact rn_A hs.hr.n (hs.sl t y hy) hxy
  · obtain ⟨i, j, o', _, k2, k3⟩ := h2 b hb
    exact .inl ⟨j, o', k2, k3⟩
  · have hr := keeps_get hk id hi
    have hl : id < ρ.length := (List.getElem?_eq_some_iff.1 hr).1
    refine ⟨hl, ?_, fun ver _ => ?_⟩
    · simp only [nuC, hr, Option.getD_some]; exact Nat.le_refl _
    · simp only [nuC, hr, Option.getD_some]
  · have hr := keeps_get hk id hi
    have hl : id < ρ.length := (List.getElem?_eq_some_iff.1 hr).1
    have hos : id < os.length := by omega
    refine ⟨by simp only [nuC, hr, Option.getD_some], ?_⟩
    show os[id]? = some .gone
    obtain ⟨j, o', k1, k2, k3⟩ := g2 id (os[id]'hos) (List.getElem?_eq_getElem hos)
    rw [hr] at k1
    injection k1 with k1
    subst k1
    rw [List.getElem?_eq_getElem hos]
    have : o' = .gone := Option.some.inj (k2.symm.trans hg)
    subst this
    revert k3
    generalize os[id]'hos = q
    intro k3
    cases k3
    rfl
theorem boxRp_sr {sl : Slots} {H H' : List AO} {I : Imm} {ν : Nu} {a : Act} {w : World} {t id : Nat} {cells : List AV} {tyo : Option Nat} (hs : SR E N I ν ⟨sl, H⟩ a w) (ht : lk sl t = some (.op id 0)) (hU : Upd id H (.box cells tyo) .gone H') (hp : allPu cells = true) :
    ∃ I', SR E N I' ν ⟨(t, .rp cells) :: sl, H'⟩ a w ∧ FR E.k w I ν H w I' ν H' := by
  obtain ⟨hid, hset⟩ := hU.eq
  subst hset
  have hh := hs.hr
  have hs' := hs.sl t _ ht
  cases hh.obj id _ hid with
  | box _ _ b vs ty hv hb hheap hl hx hI hty =>
  obtain ⟨v, hvv⟩ : ∃ v, a.tmps.getD t undef = v := ⟨_, rfl⟩
  rw [hvv] at hs'
  cases hs' with
  | pure hs' => cases hs'
  | op _ _ b' hi hval =>
  obtain rfl : b' = b := by
    rw [hv] at hval
    injection hval with e; injection e with e; injection e with e
    exact e.symm
  have hOB : OB ν id (.box cells tyo) = some b' := by simp only [OB, hv]
  have hlt : id < H.length := (List.getElem?_eq_some_iff.1 hid).1
  have hcell : ∀ o u, vs[o]? = some u → w.cell? ⟨b', o, none⟩ = some u := fun o u hu => by simp [World.cell?, hheap, hu]
  obtain ⟨I', hI'⟩ : ∃ I' : Imm, I' = fun b o => I b o ∨ (b = b' ∧ o < cells.length) := ⟨_, rfl⟩
  have hIm : ImmLe w I w I' := ⟨fun b o h => by rw [hI']; exact .inl h, fun _ _ _ => rfl⟩
  have hold : ∀ (j : Nat) q, (H.set id .gone)[j]? = some q → (j ≠ id ∧ H[j]? = some q) ∨ (j = id ∧ q = .gone) := by
    intro j q h
    by_cases e : j = id
    · subst e
      rw [List.getElem?_set_self hlt] at h
      exact .inr ⟨rfl, by simpa using h.symm⟩
    · rw [List.getElem?_set_ne (Ne.symm e)] at h
      exact .inl ⟨e, h⟩
  have hFB : ∀ b, FB ν (H.set id .gone) b → FB ν H b := by
    rintro b ⟨j, q, h1, h2⟩
    rcases hold j q h1 with ⟨h3, h4⟩ | ⟨rfl, rfl⟩
    · exact ⟨j, q, h4, h2⟩
    · simp [OB] at h2
  refine ⟨I', ⟨⟨by rw [hh.n]; simp, hh.below, hh.base, fun b o h => ?_, fun j q h => ?_, ?_⟩, fun t' x hx' => ?_, hs.df, hs.nt⟩, ⟨hIm, Nat.le_refl _, fun b o h => ?_, fun _ _ _ => rfl, fun b h => .inl (hFB b h), (Nu.le.refl ν).ag _, fun j _ h => ⟨rfl, ?_⟩⟩⟩
  · rw [hI'] at h
    rcases h with h | ⟨rfl, h2⟩
    · exact hh.imm b o h
    · exact ⟨_, hcell o _ (List.getElem?_eq_getElem (by omega))⟩
  · rcases hold j q h with ⟨h3, h4⟩ | ⟨rfl, rfl⟩
    · refine (hh.obj j q h4).mono hIm (Nu.le.refl ν) (hh.idlt h4) rfl (fun _ _ => rfl) (fun c o hc hbo => ?_)
      rw [hI'] at hbo
      rcases hbo with hbo | ⟨rfl, _⟩
      · exact hbo
      · exact absurd (hh.disj j id q _ _ h4 hid hc hOB) h3
    · exact .gone
  · intro i j o1 o2 b h1 h2 e1 e2
    rcases hold i o1 h1 with ⟨_, h4⟩ | ⟨rfl, rfl⟩
    · rcases hold j o2 h2 with ⟨_, h5⟩ | ⟨rfl, rfl⟩
      · exact hh.disj i j o1 o2 b h4 h5 e1 e2
      · simp [OB] at e2
    · simp [OB] at e1
  · rw [lk_cons] at hx'
    by_cases et : t = t'
    · subst et
      rw [if_pos rfl] at hx'
      obtain rfl : AV.rp cells = x := by simpa using hx'
      show VR w I' ν (.rp cells) (a.tmps.getD t undef)
      rw [hvv]
      refine .pure (.rp cells b' 0 (fun j => vs.getD j undef) (fun j x hj => ?_) (fun j x hj => ?_))
      · have hjl : j < cells.length := (List.getElem?_eq_some_iff.1 hj).1
        rw [Nat.zero_add]
        refine ⟨?_, ?_⟩
        · rw [hcell j _ (List.getElem?_eq_getElem (by omega)), List.getD_eq_getElem?_getD, List.getElem?_eq_getElem (by omega)]
          rfl
        · rw [hI']
          exact .inr ⟨rfl, hjl⟩
      · have hjl : j < cells.length := (List.getElem?_eq_some_iff.1 hj).1
        have := hx j x _ hj (List.getElem?_eq_getElem (by omega))
        rw [List.getD_eq_getElem?_getD, List.getElem?_eq_getElem (by omega)]
        exact (this.pu (allPu_get hp j x hj)).mono hIm
    · rw [if_neg et] at hx'
      exact (hs.sl t' x hx').mono hIm (Nu.le.refl ν)
  · rw [hI'] at h
    rcases h with h | ⟨rfl, _⟩
    · exact .inl h
    · exact .inr (.inl ⟨id, _, hid, hOB⟩)
  · rw [List.getElem?_set_ne (fun e => by subst e; rw [hid] at h; cases h)]
    exact h
/-- A box of plain things is never written again. -/
theorem Wkn.boxRp {sl : Slots} {H H' : List AO} (t : Nat) {id : Nat} {cells : List AV} {tyo : Option Nat} (ht : lk sl t = some (.op id 0)) (hU : Upd id H (.box cells tyo) .gone H') (hp : allPu cells = true) : Wkn E N ⟨sl, H⟩ ⟨(t, .rp cells) :: sl, H'⟩ := fun I ν a w hs =>
  let ⟨I', h1, h2⟩ := boxRp_sr hs ht hU hp
  ⟨I', ν, h1, h2⟩
variable {sl : Slots} {H : List AO}
/-- string(b), of bytes that never change. -/
theorem ov_conv_rs {src dst e n b n' b' n2 b2 : Nat} {z z' z2 : Value} [ts : TI E.P src (.slice e) n b z] [td : TI E.P dst .string n' b' z'] [te : TI E.P e (.int .u8) n2 b2 z2] {x : Operand} {l : List UInt8} (hx : ev sl x = some (.rs (bytesAV l))) :
    OV E sl H (.convert src dst x) (.str l) := by
  intro I ν a w hh hs
  have hx' := (ev_ok hs hx).rs_inv
  obtain ⟨v, hv⟩ : ∃ v, a.eval x = v := ⟨_, rfl⟩
  rw [hv] at hx'
  have hbl : (bytesAV l).length = l.length := List.length_map _
  refine ⟨_, .pure (.str l), fun o' w' ho hw => ?_⟩
  generalize hy : bytesAV l = ys at hx'
  cases hx' with
  | rs0 A c =>
    have hl0 : l = [] := List.eq_nil_of_length_eq_zero (by rw [← hbl, hy]; rfl)
    subst hl0
    have := run_convert_bytes_string (P := E.P) w' src dst e A 0 c ts.u te.u td.u
    cases A with
    | none =>
      simp [execOp, ho, hv, this, Conv.bytesToString]
      rfl
    | some A =>
      simp [execOp, ho, hv, this, Conv.bytesToString, loadCells, loadCellsFrom]
      rfl
  | rs _ sz bk off c us hsz0 hc hm hs2 hu hxx =>
    subst hy
    by_cases h0 : l = []
    · subst h0
      have := run_convert_bytes_string (P := E.P) w' src dst e (some ⟨bk, off, none⟩) 0 c ts.u te.u td.u
      simp [execOp, ho, hv, this, Conv.bytesToString, bytesAV, loadCells, loadCellsFrom]
      rfl
    · have hpos : 0 < l.length := List.length_pos_iff.2 h0
      have hsz : sz = 1 := by
        have h1 := List.getElem?_eq_getElem (l := bytesAV l) (i := 0) (by omega)
        have h2 := hs2 _ _ h1
        rw [← h2]
        exact bytes_row _ _ h1
      subst hsz
      have hcell : ∀ (j : Nat) (x : UInt8), l[j]? = some x → w'.cell? ((⟨bk, off, none⟩ : Addr).add j) = some (.int .u8 (x.toNat : Int)) := by
        intro j x hj
        have hjl : j < l.length := (List.getElem?_eq_some_iff.1 hj).1
        have hrow : (bytesAV l)[j]? = some [.int .u8 (x.toNat : Int)] := by unfold bytesAV; rw [List.getElem?_map, hj]; rfl
        have hu' := hu j (by rw [hbl]; omega)
        have hp := hxx j 0 _ _ hrow rfl
        rw [Nat.mul_one, Nat.add_zero] at hp
        rw [add_none, hw.imm _ _ hu'.2, hu'.1]
        generalize us j = q at hp
        cases hp
        rfl
      have := run_convert_bytes_back (P := E.P) w' src dst e ⟨bk, off, none⟩ c l ts.u te.u td.u (fun j hj => hcell j _ (List.getElem?_eq_getElem hj))
      rw [hbl] at hv
      simp [execOp, ho, hv, this]
theorem ov_conv_rsE {src dst e n b n' b' n2 b2 : Nat} {z z' z2 : Value} [ts : TI E.P src (.slice e) n b z] [td : TI E.P dst .string n' b' z'] [te : TI E.P e (.int .u8) n2 b2 z2] {x : Operand} {l : List UInt8} {xs : List (List AV)} (hx : ev sl x = some (.rs xs)) (he : xs = bytesAV l) :
    OV E sl H (.convert src dst x) (.str l) := ov_conv_rs (hx.trans (by rw [he]))
end
end Go.Proofs.YtffcgpkbibijpaaGreatDoor.L
