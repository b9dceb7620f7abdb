/- Part 4 of the texts behind the theorem of this claim: Layer 9 (reply): read, the program's; Layer 9 (reply): Parse, the program's; responses that are the same; awake; Layer 9 (reply): the law ReplyLine -/
import Derived.Test.YtnjolbnbpfjdiaaDoorQc3
import Derived.Lib.ItoaLen
set_option linter.unusedVariables false
set_option linter.unusedSimpArgs false
namespace Go.Proofs.YtnjolbnbpfjdiaaDoor.L
open Go Go.RowKit Go.Proofs
set_option linter.unusedVariables false
set_option linter.unusedSimpArgs false
set_option maxRecDepth 100000
attribute [local irreducible] AL QL AWp Thn InB RetQ ACalls LoopQ HL HO HW HQ NoG JmpQ MidQ HF

section
variable {E : Env} {sl : Slots} {H : List AO}
theorem ov_ine_nn {t t' : Nat} {ms : Array (String × TypeId)} (hu : E.P.underlying t = some (.interface ms)) {x : Operand} (hx : ev sl x = some .nilif) : OV E sl H (.binOp .neq t x (.const .nilIface) t') (.bool false) := by
  intro I ν a w hh hs
  have e1 := (ev_ok hs hx).nilif_inv
  have e2 : a.eval (.const .nilIface) = .nilIface := rfl
  refine ⟨_, .pure (.bool false), fun o w' ho _ => ?_⟩
  have h : ∀ d : Nat, (Op.equalIn (d + 1) t .nilIface .nilIface).run E.P w' = .ok true w' := fun d => by simp [Op.equalIn, run_underlying hu]
  simp [execOp, ho, e1, e2, eqGuard, binOp, Op.equal, Op.maxDepth, h 9999]
theorem ov_ine_in {t t' : Nat} {ms : Array (String × TypeId)} (hu : E.P.underlying t = some (.interface ms)) {x y : Operand} (hx : ev sl x = some .iface) (hy : ev sl y = some .nilif) : OV E sl H (.binOp .neq t x y t') (.bool true) := by
  intro I ν a w hh hs
  obtain ⟨q, u, e1⟩ := (ev_ok hs hx).iface_inv
  have e2 := (ev_ok hs hy).nilif_inv
  refine ⟨_, .pure (.bool true), fun o w' ho _ => ?_⟩
  have h : ∀ d : Nat, (Op.equalIn (d + 1) t (.iface q u) .nilIface).run E.P w' = .ok false w' := fun d => by simp [Op.equalIn, run_underlying hu]
  simp [execOp, ho, e1, e2, eqGuard, binOp, Op.equal, Op.maxDepth, h 9999]
end
/-- A response that is empty. -/
def rp0 (st : Int) (fs : Fs) : Rp := ⟨st, fs, [], false⟩
/-- What read answers. -/
def ReadY (s : List UInt8) (rv : AV) : Prop := ∃ (r : Rp) (ok : Bool), rv = .tup [.agg (rpC r), .bool ok] ∧ RpFit r ∧ ∀ r', readP s = some r' → r = r' ∧ ok = true
theorem readP_cut {s : List UInt8} {r : Rp} (h : readP s = some r) : (Lib.cut s [13, 10]).2.2 = true := by
  unfold readP at h
  split at h
  · cases h
  · rename_i hh; simpa using hh
theorem readP_three {s : List UInt8} {r : Rp} (h : readP s = some r) : ∃ a w b g, split3 (Lib.cut s [13, 10]).1 = [a, w, b] ∧ Lib.atoiAll w = .ok r.st ∧ fieldsP ((Lib.cut s [13, 10]).2.1.length + 1) (Lib.cut s [13, 10]).2.1 [] = some g ∧ r = ⟨r.st, g.1, g.2.1, g.2.2⟩ := by
  unfold readP at h
  split at h
  · cases h
  · split at h
    · split at h
      · split at h
        · rename_i e1 _ st e2 _ g e3
          injection h with h
          subst h
          exact ⟨_, _, _, g, e1, e2, e3, rfl⟩
        · cases h
      · cases h
    · cases h
/-- Where a round of reading stands. -/
structure RInv (s : List UInt8) (st : Int) (rest : List UInt8) (out : Fs) : Prop where
  len : rest.length + out.length ≤ s.length
  each : ∀ p ∈ out, p.1.length ≤ s.length ∧ p.2.length ≤ s.length
  eq : ∀ r', readP s = some r' → ∃ f g, rest.length < f ∧ fieldsP f rest out = some g ∧ r' = ⟨st, g.1, g.2.1, g.2.2⟩
section
variable {w0 : World} {base : Nat}
set_option maxHeartbeats 8000000 in
theorem s_readY {s : List UInt8} (hG : Tabs w0 base) (hs : s.length ≤ 1073741824) : PCalls (EE w0 base) 33 [.str s] (ReadY s) := by
  have hC := s_cut (w0 := w0) (base := base) (s := s) (p := [13, 10]) hG.g (by omega)
  have hroom := @cutY_room s [13, 10]
  have hnot := @cutY_not s [13, 10]
  have hpc := @readP_cut s
  have hpt := @readP_three s
  obtain ⟨first, rest0, e1, hcut⟩ : ∃ first rest e, Lib.cut s [13, 10] = (first, rest, e) := ⟨_, _, _, rfl⟩
  rw [hcut] at hC hroom hnot hpc hpt
  dsimp only at hC hroom hnot hpc hpt
  have hfl : first.length ≤ s.length := by
    cases e1 with
    | true => have := hroom rfl; omega
    | false => rw [(hnot rfl).1]; exact Nat.le_refl _
  have hSp := s_splitN3 (w0 := w0) (base := base) (s := first) hG.g (by omega)
  obtain ⟨L, hL⟩ : ∃ L, L = split3 first := ⟨_, rfl⟩
  rw [← hL] at hSp hpt
  have hlen : (txtAV L).length = L.length := txtAV_len L
  refine acalls_of Tryd.func33 rfl rfl rfl (.cons .nil) ?_
  cases e1 with
  | false =>
    repeat' (first|(first|(refine k_call ?_;refine al_call rfl rfl rfl rfl hC ?_;rintro _ rfl)|(refine k_call ?_;refine al_call rfl rfl rfl rfl hSp ?_;rintro _ rfl))|(refine k_al ?_;first|(refine al_v (ov_move rfl) rfl ?_)|(refine k_g ?_;first|(refine al_gy' rfl rfl (by with_reducible rfl) ?_)|(refine al_gnf rfl rfl (by with_reducible rfl) rfl ?_))|(refine al_v (ov_fieldAddr rfl rfl) rfl ?_)|(refine k_load ?_;first|(refine al_v (ov_load rfl rfl) rfl ?_)|(refine al_v (ov_load_agg rfl rfl rfl) rfl ?_))|(refine k_bin ?_;first|(refine al_v (ov_seq rfl rfl) rfl ?_))|(refine k_pick ?_;first|(refine al_v (ov_pick_t' rfl (by with_reducible rfl) rfl) rfl ?_)|(refine al_v (ov_pick_f' rfl (by with_reducible rfl) rfl) rfl ?_))|(refine al_v (ov_assign rfl) rfl ?_)|(refine k_call ?_;first|(refine al_v (ov_len_str rfl) rfl ?_))|(refine al_v (ov_extract rfl rfl) rfl ?_)|(refine al_nil ?_)|(refine al_alloc rfl rfl rfl (by first|exact ln0|exact ln2) (by repeat constructor) rfl ?_)|(refine al_store rfl rfl rfl rfl rfl (by repeat constructor) (by repeat constructor) ?_)|(refine al_v (ov_build rfl rfl rfl (by repeat constructor)) rfl ?_)|(refine al_buildSlice (by rfl) (by rfl) (by rfl) (by rfl) (by decide) (by decide) (by rfl) (by rfl) (by repeat constructor) (by rfl) (by repeat constructor) (by rfl) (by first|exact ln0|exact ln2) (by repeat constructor) rfl ?_)|(refine al_v (ov_not_t rfl (by with_reducible rfl)) rfl ?_)|(refine al_v (ov_not_f rfl (by with_reducible rfl)) rfl ?_))|(first|(refine thn_n ?_)|(refine k_awp ?_;first|(refine awp_seq (awp_region ?_))|(refine awp_seq ?_)|(refine awp_region ?_)|(refine k_cond ?_;first|(refine awp_cond_t' rfl (by with_reducible rfl) ?_)|(refine awp_cond_f' rfl (by with_reducible rfl) ?_))|(refine awp_block ?_)|(refine awp_ret ?_)|(refine awp_skip ?_))|(refine thn_ret ?_)|(refine lq_ret ?_)|(refine inb_n ?_)|(refine inb_ret ?_)))
    refine retq_wkn (.boxLe (id := 0) [.int .i64 0, .rs [], .str [], .bool false] rfl (.cons (.refl _) (.cons .nil (.cons (.refl _) (.cons (.refl _) .nil)))) rfl) ?_
    refine retc1 (by first | exact .inr rfl | exact .inl rfl) rfl rfl rfl rfl rfl ?_
    exact ⟨⟨rp0 0 [], false, rfl, ⟨by simp [rp0], (fun p h => by cases h), by simp [rp0]⟩, fun r' h => by have := hpc h; cases this⟩, rfl⟩
  | true =>
    have hroom := hroom rfl
    simp only [List.length_cons, List.length_nil] at hroom
    by_cases h3 : L.length = 3
    · obtain ⟨a, w, b, rfl⟩ : ∃ a w b, L = [a, w, b] := by
        match L, h3 with
        | [a, w, b], _ => exact ⟨a, w, b, rfl⟩
      have hwl : w.length ≤ first.length := by
        have hh : ∀ (k : Nat) (t x : List UInt8), x ∈ Lib.splitK [32] 0 k t → x.length ≤ t.length := by
          intro k
          induction k with
          | zero => intro t x hx; rw [Lib.splitK] at hx; rw [List.mem_singleton.1 hx]; exact Nat.le_refl _
          | succ k ih =>
            intro t x hx
            rw [Lib.splitK] at hx
            split at hx
            · rw [List.mem_singleton.1 hx]; exact Nat.le_refl _
            · rcases List.mem_cons.1 hx with rfl | hx
              · simp only [List.length_take]; omega
              · have := ih _ _ hx
                rw [List.length_drop] at this
                omega
        have hm : w ∈ split3 first := by rw [← hL]; simp
        exact hh _ _ _ hm
      have hAt := s_atoiA (w0 := w0) (base := base) (l := w) hG (by omega)
      have hA1 : PCalls (EE w0 base) 60 [.str w] fun rv => ∃ st x, rv = .tup [.int .i64 st, x] ∧ ∀ v, Lib.atoiAll w = .ok v → st = v := acalls_mono hAt fun rv os h => ⟨by
        rcases h.1 with ⟨u, h1, h2⟩ | ⟨h1, n, h2⟩
        · exact ⟨u, _, h2, fun v hv => by rw [h1] at hv; injection hv⟩
        · exact ⟨n, _, h2, fun v hv => absurd hv (h1 v)⟩, h.2⟩
      have hrow : (txtAV [a, w, b])[(1 : Int).toNat]? = some [.str w] := rfl
      repeat' (first|(first|(refine k_call ?_;refine al_call rfl rfl rfl rfl hC ?_;rintro _ rfl)|(refine k_call ?_;refine al_call rfl rfl rfl rfl hSp ?_;rintro _ rfl)|(refine k_call ?_;refine al_v (ov_len_c 3 rfl hlen) rfl ?_)|(refine k_bin ?_;first|(refine al_v (ov_cmp_t rfl rfl rfl (by omega)) rfl ?_)|(refine al_v (ov_cmp_f rfl rfl rfl (by omega)) rfl ?_))|(refine al_v (ov_indexAddr rfl rfl (by omega) hrow rfl) rfl ?_)|(refine k_call ?_;refine al_call rfl rfl rfl rfl hA1 ?_;rintro _ ⟨st, x, rfl, hst⟩))|(refine k_al ?_;first|(refine al_v (ov_move rfl) rfl ?_)|(refine k_g ?_;first|(refine al_gy' rfl rfl (by with_reducible rfl) ?_)|(refine al_gnf rfl rfl (by with_reducible rfl) rfl ?_))|(refine al_v (ov_fieldAddr rfl rfl) rfl ?_)|(refine k_load ?_;first|(refine al_v (ov_load rfl rfl) rfl ?_)|(refine al_v (ov_load_agg rfl rfl rfl) rfl ?_))|(refine k_bin ?_;first|(refine al_v (ov_seq rfl rfl) rfl ?_))|(refine k_pick ?_;first|(refine al_v (ov_pick_t' rfl (by with_reducible rfl) rfl) rfl ?_)|(refine al_v (ov_pick_f' rfl (by with_reducible rfl) rfl) rfl ?_))|(refine al_v (ov_assign rfl) rfl ?_)|(refine k_call ?_;first|(refine al_v (ov_len_str rfl) rfl ?_))|(refine al_v (ov_extract rfl rfl) rfl ?_)|(refine al_nil ?_)|(refine al_alloc rfl rfl rfl (by first|exact ln0|exact ln2) (by repeat constructor) rfl ?_)|(refine al_store rfl rfl rfl rfl rfl (by repeat constructor) (by repeat constructor) ?_)|(refine al_v (ov_build rfl rfl rfl (by repeat constructor)) rfl ?_)|(refine al_buildSlice (by rfl) (by rfl) (by rfl) (by rfl) (by decide) (by decide) (by rfl) (by rfl) (by repeat constructor) (by rfl) (by repeat constructor) (by rfl) (by first|exact ln0|exact ln2) (by repeat constructor) rfl ?_)|(refine al_v (ov_not_t rfl (by with_reducible rfl)) rfl ?_)|(refine al_v (ov_not_f rfl (by with_reducible rfl)) rfl ?_))|(first|(refine thn_n ?_)|(refine k_awp ?_;first|(refine awp_seq (awp_region ?_))|(refine awp_seq ?_)|(refine awp_region ?_)|(refine k_cond ?_;first|(refine awp_cond_t' rfl (by with_reducible rfl) ?_)|(refine awp_cond_f' rfl (by with_reducible rfl) ?_))|(refine awp_block ?_)|(refine awp_ret ?_)|(refine awp_skip ?_))|(refine thn_ret ?_)|(refine lq_ret ?_)|(refine inb_n ?_)|(refine inb_ret ?_)))
      refine awp_wkn (.adoptBox (id := 0) (k := 1) (e := 61) (sz := 2) rfl rfl (by decide) rfl rfl rfl) ?_
      refine awp_loopq (fun q : List UInt8 × Fs × Nat × List (List AV) => ⟨[(2, .op 0 0), (5, .str q.1)], [.box [.int .i64 st, .os 1 q.2.2.1, .str [], .bool false], .row 61 2 q.2.2.1 0 q.2.2.2]⟩)
        (fun q => q.2.2.2 = q.2.1.map prAV ∧ RInv s st q.1 q.2.1) (fun q => q.1.length) (rest0, [], 0, []) (.of (.same (by repeat constructor))) ⟨rfl, by simp only [List.length_nil]; omega, (fun p h => by cases h), fun r' h => by
          obtain ⟨a', w', b', g, e1, e2, e3, e4⟩ := hpt h
          injection e1 with _ e1
          injection e1 with e1 _
          subst e1
          exact ⟨_, g, Nat.lt_succ_self _, e3, by rw [hst _ e2]; exact e4⟩⟩ ?_
      rintro ⟨rest, out, ver, xs⟩ ⟨hxs, hI⟩
      dsimp only at hxs hI ⊢
      subst hxs
      obtain ⟨hIl, hIe, hIq⟩ := hI
      have hol : (out.map prAV).length = out.length := List.length_map _
      have hC2 := s_cut (w0 := w0) (base := base) (s := rest) (p := [13, 10]) hG.g (by omega)
      have hroom2 := @cutY_room rest [13, 10]
      have hnot2 := @cutY_not rest [13, 10]
      have hstep : ∀ r', readP s = some r' → ∃ f g, rest.length ≤ f ∧ fieldsP (f + 1) rest out = some g ∧ r' = ⟨st, g.1, g.2.1, g.2.2⟩ := fun r' h => by
        obtain ⟨f, g, h1, h2, h3⟩ := hIq r' h
        exact ⟨f - 1, g, by omega, by rw [Nat.sub_add_cancel (by omega)]; exact h2, h3⟩
      simp only [fieldsP] at hstep
      obtain ⟨line, rest2, e2, hcut2⟩ : ∃ x y z, Lib.cut rest [13, 10] = (x, y, z) := ⟨_, _, _, rfl⟩
      rw [hcut2] at hC2 hroom2 hnot2 hstep
      dsimp only at hC2 hroom2 hnot2 hstep
      have hfit : RpFit (rp0 st out) := ⟨by simp only [rp0]; omega, fun p h => by have := hIe p h; omega, by simp [rp0]⟩
      cases e2 with
      | false =>
        repeat' (first|(first|(refine k_call ?_;refine al_call rfl rfl rfl rfl hC2 ?_;rintro _ rfl))|(refine k_al ?_;first|(refine al_v (ov_move rfl) rfl ?_)|(refine k_g ?_;first|(refine al_gy' rfl rfl (by with_reducible rfl) ?_)|(refine al_gnf rfl rfl (by with_reducible rfl) rfl ?_))|(refine al_v (ov_fieldAddr rfl rfl) rfl ?_)|(refine k_load ?_;first|(refine al_v (ov_load rfl rfl) rfl ?_)|(refine al_v (ov_load_agg rfl rfl rfl) rfl ?_))|(refine k_bin ?_;first|(refine al_v (ov_seq rfl rfl) rfl ?_))|(refine k_pick ?_;first|(refine al_v (ov_pick_t' rfl (by with_reducible rfl) rfl) rfl ?_)|(refine al_v (ov_pick_f' rfl (by with_reducible rfl) rfl) rfl ?_))|(refine al_v (ov_assign rfl) rfl ?_)|(refine k_call ?_;first|(refine al_v (ov_len_str rfl) rfl ?_))|(refine al_v (ov_extract rfl rfl) rfl ?_)|(refine al_nil ?_)|(refine al_alloc rfl rfl rfl (by first|exact ln0|exact ln2) (by repeat constructor) rfl ?_)|(refine al_store rfl rfl rfl rfl rfl (by repeat constructor) (by repeat constructor) ?_)|(refine al_v (ov_build rfl rfl rfl (by repeat constructor)) rfl ?_)|(refine al_buildSlice (by rfl) (by rfl) (by rfl) (by rfl) (by decide) (by decide) (by rfl) (by rfl) (by repeat constructor) (by rfl) (by repeat constructor) (by rfl) (by first|exact ln0|exact ln2) (by repeat constructor) rfl ?_)|(refine al_v (ov_not_t rfl (by with_reducible rfl)) rfl ?_)|(refine al_v (ov_not_f rfl (by with_reducible rfl)) rfl ?_))|(first|(refine thn_n ?_)|(refine k_awp ?_;first|(refine awp_seq (awp_region ?_))|(refine awp_seq ?_)|(refine awp_region ?_)|(refine k_cond ?_;first|(refine awp_cond_t' rfl (by with_reducible rfl) ?_)|(refine awp_cond_f' rfl (by with_reducible rfl) ?_))|(refine awp_block ?_)|(refine awp_ret ?_)|(refine awp_skip ?_))|(refine thn_ret ?_)|(refine lq_ret ?_)|(refine inb_n ?_)|(refine inb_ret ?_)))
        refine retq_wkn (.boxFreeze (ib := 0) (k := 1) (id := 1) rfl rfl rfl rfl (by repeat constructor) rfl rfl) ?_
        refine retc1 (by first | exact .inr rfl | exact .inl rfl) rfl rfl rfl rfl rfl ?_
        exact ⟨⟨rp0 st out, false, rfl, hfit, fun r' h => by obtain ⟨f, g, _, h2, _⟩ := hstep r' h; rw [if_pos rfl] at h2; cases h2⟩, rfl⟩
      | true =>
        have hroom2 := hroom2 rfl
        simp only [List.length_cons, List.length_nil] at hroom2
        have hC3 := s_cut (w0 := w0) (base := base) (s := line) (p := [58, 32]) hG.g (by omega)
        have hroom3 := @cutY_room line [58, 32]
        have hnot3 := @cutY_not line [58, 32]
        obtain ⟨k, v, e3, hcut3⟩ : ∃ k v e, Lib.cut line [58, 32] = (k, v, e) := ⟨_, _, _, rfl⟩
        rw [hcut3] at hC3 hroom3 hnot3 hstep
        dsimp only at hC3 hroom3 hnot3 hstep
        cases e3 with
        | false =>
          repeat' (first|(first|(refine k_call ?_;refine al_call rfl rfl rfl rfl hC2 ?_;rintro _ rfl)|(refine k_call ?_;refine al_call rfl rfl rfl rfl hC3 ?_;rintro _ rfl))|(refine k_al ?_;first|(refine al_v (ov_move rfl) rfl ?_)|(refine k_g ?_;first|(refine al_gy' rfl rfl (by with_reducible rfl) ?_)|(refine al_gnf rfl rfl (by with_reducible rfl) rfl ?_))|(refine al_v (ov_fieldAddr rfl rfl) rfl ?_)|(refine k_load ?_;first|(refine al_v (ov_load rfl rfl) rfl ?_)|(refine al_v (ov_load_agg rfl rfl rfl) rfl ?_))|(refine k_bin ?_;first|(refine al_v (ov_seq rfl rfl) rfl ?_))|(refine k_pick ?_;first|(refine al_v (ov_pick_t' rfl (by with_reducible rfl) rfl) rfl ?_)|(refine al_v (ov_pick_f' rfl (by with_reducible rfl) rfl) rfl ?_))|(refine al_v (ov_assign rfl) rfl ?_)|(refine k_call ?_;first|(refine al_v (ov_len_str rfl) rfl ?_))|(refine al_v (ov_extract rfl rfl) rfl ?_)|(refine al_nil ?_)|(refine al_alloc rfl rfl rfl (by first|exact ln0|exact ln2) (by repeat constructor) rfl ?_)|(refine al_store rfl rfl rfl rfl rfl (by repeat constructor) (by repeat constructor) ?_)|(refine al_v (ov_build rfl rfl rfl (by repeat constructor)) rfl ?_)|(refine al_buildSlice (by rfl) (by rfl) (by rfl) (by rfl) (by decide) (by decide) (by rfl) (by rfl) (by repeat constructor) (by rfl) (by repeat constructor) (by rfl) (by first|exact ln0|exact ln2) (by repeat constructor) rfl ?_)|(refine al_v (ov_not_t rfl (by with_reducible rfl)) rfl ?_)|(refine al_v (ov_not_f rfl (by with_reducible rfl)) rfl ?_))|(first|(refine thn_n ?_)|(refine k_awp ?_;first|(refine awp_seq (awp_region ?_))|(refine awp_seq ?_)|(refine awp_region ?_)|(refine k_cond ?_;first|(refine awp_cond_t' rfl (by with_reducible rfl) ?_)|(refine awp_cond_f' rfl (by with_reducible rfl) ?_))|(refine awp_block ?_)|(refine awp_ret ?_)|(refine awp_skip ?_))|(refine thn_ret ?_)|(refine lq_ret ?_)|(refine inb_n ?_)|(refine inb_ret ?_)))
          refine retq_wkn (.boxFreeze (ib := 0) (k := 1) (id := 1) rfl rfl rfl rfl (by repeat constructor) rfl rfl) ?_
          refine retc1 (by first | exact .inr rfl | exact .inl rfl) rfl rfl rfl rfl rfl ?_
          exact ⟨⟨rp0 st out, false, rfl, hfit, fun r' h => by obtain ⟨f, g, _, h2, _⟩ := hstep r' h; rw [if_neg (by decide), if_pos rfl] at h2; cases h2⟩, rfl⟩
        | true =>
          have hroom3 := hroom3 rfl
          simp only [List.length_cons, List.length_nil] at hroom3
          by_cases hk : k = clN
          · have hAt2 := s_atoiA (w0 := w0) (base := base) (l := v) hG (by omega)
            have hC4 := s_cut (w0 := w0) (base := base) (s := rest2) (p := [13, 10, 13, 10]) hG.g (by omega)
            have hroom4 := @cutY_room rest2 [13, 10, 13, 10]
            have hnot4 := @cutY_not rest2 [13, 10, 13, 10]
            obtain ⟨l3, rest3, e4, hcut4⟩ : ∃ k v e, Lib.cut rest2 [13, 10, 13, 10] = (k, v, e) := ⟨_, _, _, rfl⟩
            rw [hcut4] at hC4 hroom4 hnot4 hstep
            dsimp only at hC4 hroom4 hnot4 hstep
            cases hx : Lib.atoiAll v with
            | ok n =>
              have hA2 : PCalls (EE w0 base) 60 [.str v] fun rv => rv = .tup [.int .i64 n, .nilif] := acalls_mono hAt2 fun rv os h => ⟨by
                rcases h.1 with ⟨u, h1, h2⟩ | ⟨h1, _⟩
                · rw [hx] at h1; injection h1 with h1; subst h1; exact h2
                · exact absurd hx (h1 n), h.2⟩
              by_cases hg : e4 = true ∧ 0 ≤ n ∧ n ≤ (rest3.length : Int)
              · obtain ⟨rfl, hn0, hn1⟩ := hg
                have hroom4 := hroom4 rfl
                repeat' (first|(first|(refine awp_held (id := 18) [(6, [0]), (8, [0])] [⟨0, true, [], bl 9 28⟩, ⟨1, true, [], bl 9 29⟩, ⟨2, true, [0], bl 9 107⟩, ⟨3, true, [0], bl 9 103⟩, ⟨4, true, [0], bl 9 111⟩, ⟨5, true, [], bl 9 31⟩, ⟨6, false, [], []⟩, ⟨7, true, [], bl 9 127⟩, ⟨8, false, [], []⟩] (by kernel_rfl) (by kernel_rfl) rfl (by kernel_rfl) ?_)|(refine k_call ?_;refine al_call rfl rfl rfl rfl hC2 ?_;rintro _ rfl)|(refine k_call ?_;refine al_call rfl rfl rfl rfl hC3 ?_;rintro _ rfl)|(refine k_call ?_;refine al_call rfl rfl rfl rfl hC4 ?_;rintro _ rfl)|(refine k_call ?_;refine al_call rfl rfl rfl rfl hA2 ?_;rintro _ rfl)|(refine k_bin ?_;first|(refine al_v (ov_seq_t hk rfl rfl) rfl ?_)|(refine al_v (ov_cmp_t rfl rfl rfl (by omega)) rfl ?_)|(refine al_v (ov_cmp_f rfl rfl rfl (by omega)) rfl ?_))|(refine k_bin ?_;refine al_v (ov_ine_nn Tryd.underlying56 rfl) rfl ?_)|(refine hw_v (ov_slice_hi rfl rfl (by omega) (by omega)) rfl ?_))|(refine k_al ?_;first|(refine al_v (ov_move rfl) rfl ?_)|(refine k_g ?_;first|(refine al_gy' rfl rfl (by with_reducible rfl) ?_)|(refine al_gnf rfl rfl (by with_reducible rfl) rfl ?_))|(refine al_v (ov_fieldAddr rfl rfl) rfl ?_)|(refine k_load ?_;first|(refine al_v (ov_load rfl rfl) rfl ?_)|(refine al_v (ov_load_agg rfl rfl rfl) rfl ?_))|(refine k_bin ?_;first|(refine al_v (ov_seq rfl rfl) rfl ?_))|(refine k_pick ?_;first|(refine al_v (ov_pick_t' rfl (by with_reducible rfl) rfl) rfl ?_)|(refine al_v (ov_pick_f' rfl (by with_reducible rfl) rfl) rfl ?_))|(refine al_v (ov_assign rfl) rfl ?_)|(refine k_call ?_;first|(refine al_v (ov_len_str rfl) rfl ?_))|(refine al_v (ov_extract rfl rfl) rfl ?_)|(refine al_nil ?_)|(refine al_alloc rfl rfl rfl (by first|exact ln0|exact ln2) (by repeat constructor) rfl ?_)|(refine al_store rfl rfl rfl rfl rfl (by repeat constructor) (by repeat constructor) ?_)|(refine al_v (ov_build rfl rfl rfl (by repeat constructor)) rfl ?_)|(refine al_buildSlice (by rfl) (by rfl) (by rfl) (by rfl) (by decide) (by decide) (by rfl) (by rfl) (by repeat constructor) (by rfl) (by repeat constructor) (by rfl) (by first|exact ln0|exact ln2) (by repeat constructor) rfl ?_)|(refine al_v (ov_not_t rfl (by with_reducible rfl)) rfl ?_)|(refine al_v (ov_not_f rfl (by with_reducible rfl)) rfl ?_))|(first|(refine thn_n ?_)|(refine k_awp ?_;first|(refine awp_seq (awp_region ?_))|(refine awp_seq ?_)|(refine awp_region ?_)|(refine k_cond ?_;first|(refine awp_cond_t' rfl (by with_reducible rfl) ?_)|(refine awp_cond_f' rfl (by with_reducible rfl) ?_))|(refine awp_block ?_)|(refine awp_ret ?_)|(refine awp_skip ?_))|(refine thn_ret ?_)|(refine lq_ret ?_)|(refine inb_n ?_)|(refine inb_ret ?_))|(first|(refine k_hw ?_;first|(refine hw_s rfl ?_)|(refine hw_v (ov_move rfl) rfl ?_)|(refine hw_v (ov_assign rfl) rfl ?_)|(refine hw_v (ov_fieldAddr rfl rfl) rfl ?_)|(refine hw_v (ov_load rfl rfl) rfl ?_)|(refine hw_v (ov_load_agg rfl rfl rfl) rfl ?_)|(refine hw_v (ov_pick_t' rfl (by with_reducible rfl) rfl) rfl ?_)|(refine hw_v (ov_pick_f' rfl (by with_reducible rfl) rfl) rfl ?_)|(refine hw_v (ov_len_str rfl) rfl ?_)|(refine hw_v (ov_seq rfl rfl) rfl ?_)|(refine hw_v (ov_extract rfl rfl) rfl ?_)|(refine hw_v (ov_not_t rfl (by with_reducible rfl)) rfl ?_)|(refine hw_v (ov_not_f rfl (by with_reducible rfl)) rfl ?_)|(refine hw_v (ov_build rfl rfl rfl (by repeat constructor)) rfl ?_))|(refine hl_op rfl ?_)|(refine k_ho ?_;first|(refine ho_n ?_))|(refine hl_nil ?_)|(refine hq_back ?_)))
                refine retq_wkn (.boxFreeze (ib := 0) (k := 1) (id := 1) rfl rfl rfl rfl (by repeat constructor) rfl rfl) ?_
                refine retc1 (by first | exact .inr rfl | exact .inl rfl) rfl rfl rfl rfl rfl ?_
                refine ⟨⟨⟨st, out, rest3.take n.toNat, decide (l3 = tx "connection: close")⟩, true, rfl, ⟨by dsimp only; omega, fun p h => by have := hIe p h; omega, by simp only [List.length_take, List.length_cons, List.length_nil] at *; omega⟩, fun r' h => ⟨?_, rfl⟩⟩, rfl⟩
                obtain ⟨f, g, _, h2, h3⟩ := hstep r' h
                rw [if_neg (by decide), if_neg (by decide), if_pos hk, hx] at h2
                dsimp only at h2
                rw [if_pos ⟨rfl, hn0, hn1⟩] at h2
                injection h2 with h2
                rw [h3, ← h2]
              · have hbad : ∀ r', readP s = some r' → False := fun r' h => by
                  obtain ⟨f, g, _, h2, h3⟩ := hstep r' h
                  rw [if_neg (by decide), if_neg (by decide), if_pos hk, hx] at h2
                  dsimp only at h2
                  rw [if_neg hg] at h2
                  cases h2
                cases e4 with
                | false =>
                  repeat' (first|(first|(refine awp_held (id := 18) [(6, [0]), (8, [0])] [⟨0, true, [], bl 9 28⟩, ⟨1, true, [], bl 9 29⟩, ⟨2, true, [0], bl 9 107⟩, ⟨3, true, [0], bl 9 103⟩, ⟨4, true, [0], bl 9 111⟩, ⟨5, true, [], bl 9 31⟩, ⟨6, false, [], []⟩, ⟨7, true, [], bl 9 127⟩, ⟨8, false, [], []⟩] (by kernel_rfl) (by kernel_rfl) rfl (by kernel_rfl) ?_)|(refine k_call ?_;refine al_call rfl rfl rfl rfl hC2 ?_;rintro _ rfl)|(refine k_call ?_;refine al_call rfl rfl rfl rfl hC3 ?_;rintro _ rfl)|(refine k_call ?_;refine al_call rfl rfl rfl rfl hC4 ?_;rintro _ rfl)|(refine k_call ?_;refine al_call rfl rfl rfl rfl hA2 ?_;rintro _ rfl)|(refine k_bin ?_;first|(refine al_v (ov_seq_t hk rfl rfl) rfl ?_)|(refine al_v (ov_cmp_t rfl rfl rfl (by omega)) rfl ?_)|(refine al_v (ov_cmp_f rfl rfl rfl (by omega)) rfl ?_))|(refine k_bin ?_;refine al_v (ov_ine_nn Tryd.underlying56 rfl) rfl ?_))|(refine k_al ?_;first|(refine al_v (ov_move rfl) rfl ?_)|(refine k_g ?_;first|(refine al_gy' rfl rfl (by with_reducible rfl) ?_)|(refine al_gnf rfl rfl (by with_reducible rfl) rfl ?_))|(refine al_v (ov_fieldAddr rfl rfl) rfl ?_)|(refine k_load ?_;first|(refine al_v (ov_load rfl rfl) rfl ?_)|(refine al_v (ov_load_agg rfl rfl rfl) rfl ?_))|(refine k_bin ?_;first|(refine al_v (ov_seq rfl rfl) rfl ?_))|(refine k_pick ?_;first|(refine al_v (ov_pick_t' rfl (by with_reducible rfl) rfl) rfl ?_)|(refine al_v (ov_pick_f' rfl (by with_reducible rfl) rfl) rfl ?_))|(refine al_v (ov_assign rfl) rfl ?_)|(refine k_call ?_;first|(refine al_v (ov_len_str rfl) rfl ?_))|(refine al_v (ov_extract rfl rfl) rfl ?_)|(refine al_nil ?_)|(refine al_alloc rfl rfl rfl (by first|exact ln0|exact ln2) (by repeat constructor) rfl ?_)|(refine al_store rfl rfl rfl rfl rfl (by repeat constructor) (by repeat constructor) ?_)|(refine al_v (ov_build rfl rfl rfl (by repeat constructor)) rfl ?_)|(refine al_buildSlice (by rfl) (by rfl) (by rfl) (by rfl) (by decide) (by decide) (by rfl) (by rfl) (by repeat constructor) (by rfl) (by repeat constructor) (by rfl) (by first|exact ln0|exact ln2) (by repeat constructor) rfl ?_)|(refine al_v (ov_not_t rfl (by with_reducible rfl)) rfl ?_)|(refine al_v (ov_not_f rfl (by with_reducible rfl)) rfl ?_))|(first|(refine thn_n ?_)|(refine k_awp ?_;first|(refine awp_seq (awp_region ?_))|(refine awp_seq ?_)|(refine awp_region ?_)|(refine k_cond ?_;first|(refine awp_cond_t' rfl (by with_reducible rfl) ?_)|(refine awp_cond_f' rfl (by with_reducible rfl) ?_))|(refine awp_block ?_)|(refine awp_ret ?_)|(refine awp_skip ?_))|(refine thn_ret ?_)|(refine lq_ret ?_)|(refine inb_n ?_)|(refine inb_ret ?_))|(first|(refine k_hw ?_;first|(refine hw_s rfl ?_)|(refine hw_v (ov_move rfl) rfl ?_)|(refine hw_v (ov_assign rfl) rfl ?_)|(refine hw_v (ov_fieldAddr rfl rfl) rfl ?_)|(refine hw_v (ov_load rfl rfl) rfl ?_)|(refine hw_v (ov_load_agg rfl rfl rfl) rfl ?_)|(refine hw_v (ov_pick_t' rfl (by with_reducible rfl) rfl) rfl ?_)|(refine hw_v (ov_pick_f' rfl (by with_reducible rfl) rfl) rfl ?_)|(refine hw_v (ov_len_str rfl) rfl ?_)|(refine hw_v (ov_seq rfl rfl) rfl ?_)|(refine hw_v (ov_extract rfl rfl) rfl ?_)|(refine hw_v (ov_not_t rfl (by with_reducible rfl)) rfl ?_)|(refine hw_v (ov_not_f rfl (by with_reducible rfl)) rfl ?_)|(refine hw_v (ov_build rfl rfl rfl (by repeat constructor)) rfl ?_))|(refine hl_op rfl ?_)|(refine k_ho ?_;first|(refine ho_n ?_))|(refine hl_nil ?_)|(refine hq_back ?_)))
                  all_goals
                    refine retq_wkn (.boxFreeze (ib := 0) (k := 1) (id := 1) rfl rfl rfl rfl (by repeat constructor) rfl rfl) ?_
                    refine retc1 (by first | exact .inr rfl | exact .inl rfl) rfl rfl rfl rfl rfl ?_
                    exact ⟨⟨rp0 st out, false, rfl, hfit, fun r' h => (hbad r' h).elim⟩, rfl⟩
                | true =>
                  have hg2 : n < 0 ∨ (0 ≤ n ∧ (rest3.length : Int) < n) := by
                    rcases Int.lt_or_le n 0 with h | h
                    · exact .inl h
                    · right
                      refine ⟨h, ?_⟩
                      rcases Int.lt_or_le (rest3.length : Int) n with h2 | h2
                      · exact h2
                      · exact absurd ⟨rfl, h, h2⟩ hg
                  rcases hg2 with hg2 | ⟨hg2, hg3⟩
                  all_goals
                    repeat' (first|(first|(refine awp_held (id := 18) [(6, [0]), (8, [0])] [⟨0, true, [], bl 9 28⟩, ⟨1, true, [], bl 9 29⟩, ⟨2, true, [0], bl 9 107⟩, ⟨3, true, [0], bl 9 103⟩, ⟨4, true, [0], bl 9 111⟩, ⟨5, true, [], bl 9 31⟩, ⟨6, false, [], []⟩, ⟨7, true, [], bl 9 127⟩, ⟨8, false, [], []⟩] (by kernel_rfl) (by kernel_rfl) rfl (by kernel_rfl) ?_)|(refine k_call ?_;refine al_call rfl rfl rfl rfl hC2 ?_;rintro _ rfl)|(refine k_call ?_;refine al_call rfl rfl rfl rfl hC3 ?_;rintro _ rfl)|(refine k_call ?_;refine al_call rfl rfl rfl rfl hC4 ?_;rintro _ rfl)|(refine k_call ?_;refine al_call rfl rfl rfl rfl hA2 ?_;rintro _ rfl)|(refine k_bin ?_;first|(refine al_v (ov_seq_t hk rfl rfl) rfl ?_)|(refine al_v (ov_cmp_t rfl rfl rfl (by omega)) rfl ?_)|(refine al_v (ov_cmp_f rfl rfl rfl (by omega)) rfl ?_))|(refine k_bin ?_;refine al_v (ov_ine_nn Tryd.underlying56 rfl) rfl ?_))|(refine k_al ?_;first|(refine al_v (ov_move rfl) rfl ?_)|(refine k_g ?_;first|(refine al_gy' rfl rfl (by with_reducible rfl) ?_)|(refine al_gnf rfl rfl (by with_reducible rfl) rfl ?_))|(refine al_v (ov_fieldAddr rfl rfl) rfl ?_)|(refine k_load ?_;first|(refine al_v (ov_load rfl rfl) rfl ?_)|(refine al_v (ov_load_agg rfl rfl rfl) rfl ?_))|(refine k_bin ?_;first|(refine al_v (ov_seq rfl rfl) rfl ?_))|(refine k_pick ?_;first|(refine al_v (ov_pick_t' rfl (by with_reducible rfl) rfl) rfl ?_)|(refine al_v (ov_pick_f' rfl (by with_reducible rfl) rfl) rfl ?_))|(refine al_v (ov_assign rfl) rfl ?_)|(refine k_call ?_;first|(refine al_v (ov_len_str rfl) rfl ?_))|(refine al_v (ov_extract rfl rfl) rfl ?_)|(refine al_nil ?_)|(refine al_alloc rfl rfl rfl (by first|exact ln0|exact ln2) (by repeat constructor) rfl ?_)|(refine al_store rfl rfl rfl rfl rfl (by repeat constructor) (by repeat constructor) ?_)|(refine al_v (ov_build rfl rfl rfl (by repeat constructor)) rfl ?_)|(refine al_buildSlice (by rfl) (by rfl) (by rfl) (by rfl) (by decide) (by decide) (by rfl) (by rfl) (by repeat constructor) (by rfl) (by repeat constructor) (by rfl) (by first|exact ln0|exact ln2) (by repeat constructor) rfl ?_)|(refine al_v (ov_not_t rfl (by with_reducible rfl)) rfl ?_)|(refine al_v (ov_not_f rfl (by with_reducible rfl)) rfl ?_))|(first|(refine thn_n ?_)|(refine k_awp ?_;first|(refine awp_seq (awp_region ?_))|(refine awp_seq ?_)|(refine awp_region ?_)|(refine k_cond ?_;first|(refine awp_cond_t' rfl (by with_reducible rfl) ?_)|(refine awp_cond_f' rfl (by with_reducible rfl) ?_))|(refine awp_block ?_)|(refine awp_ret ?_)|(refine awp_skip ?_))|(refine thn_ret ?_)|(refine lq_ret ?_)|(refine inb_n ?_)|(refine inb_ret ?_))|(first|(refine k_hw ?_;first|(refine hw_s rfl ?_)|(refine hw_v (ov_move rfl) rfl ?_)|(refine hw_v (ov_assign rfl) rfl ?_)|(refine hw_v (ov_fieldAddr rfl rfl) rfl ?_)|(refine hw_v (ov_load rfl rfl) rfl ?_)|(refine hw_v (ov_load_agg rfl rfl rfl) rfl ?_)|(refine hw_v (ov_pick_t' rfl (by with_reducible rfl) rfl) rfl ?_)|(refine hw_v (ov_pick_f' rfl (by with_reducible rfl) rfl) rfl ?_)|(refine hw_v (ov_len_str rfl) rfl ?_)|(refine hw_v (ov_seq rfl rfl) rfl ?_)|(refine hw_v (ov_extract rfl rfl) rfl ?_)|(refine hw_v (ov_not_t rfl (by with_reducible rfl)) rfl ?_)|(refine hw_v (ov_not_f rfl (by with_reducible rfl)) rfl ?_)|(refine hw_v (ov_build rfl rfl rfl (by repeat constructor)) rfl ?_))|(refine hl_op rfl ?_)|(refine k_ho ?_;first|(refine ho_n ?_))|(refine hl_nil ?_)|(refine hq_back ?_)))
                  all_goals
                    refine retq_wkn (.boxFreeze (ib := 0) (k := 1) (id := 1) rfl rfl rfl rfl (by repeat constructor) rfl rfl) ?_
                    refine retc1 (by first | exact .inr rfl | exact .inl rfl) rfl rfl rfl rfl rfl ?_
                    exact ⟨⟨rp0 st out, false, rfl, hfit, fun r' h => (hbad r' h).elim⟩, rfl⟩
            | _ =>
              have hA2 : PCalls (EE w0 base) 60 [.str v] fun rv => ∃ n, rv = .tup [.int .i64 n, .iface] := acalls_mono hAt2 fun rv os h => ⟨by
                rcases h.1 with ⟨u, h1, h2⟩ | ⟨_, h2⟩
                · rw [hx] at h1; cases h1
                · exact h2, h.2⟩
              have hbad : ∀ r', readP s = some r' → False := fun r' h => by
                obtain ⟨f, g, _, h2, h3⟩ := hstep r' h
                rw [if_neg (by decide), if_neg (by decide), if_pos hk, hx] at h2
                cases h2
              repeat' (first|(first|(refine awp_held (id := 18) [(6, [0]), (8, [0])] [⟨0, true, [], bl 9 28⟩, ⟨1, true, [], bl 9 29⟩, ⟨2, true, [0], bl 9 107⟩, ⟨3, true, [0], bl 9 103⟩, ⟨4, true, [0], bl 9 111⟩, ⟨5, true, [], bl 9 31⟩, ⟨6, false, [], []⟩, ⟨7, true, [], bl 9 127⟩, ⟨8, false, [], []⟩] (by kernel_rfl) (by kernel_rfl) rfl (by kernel_rfl) ?_)|(refine k_call ?_;refine al_call rfl rfl rfl rfl hC2 ?_;rintro _ rfl)|(refine k_call ?_;refine al_call rfl rfl rfl rfl hC3 ?_;rintro _ rfl)|(refine k_call ?_;refine al_call rfl rfl rfl rfl hC4 ?_;rintro _ rfl)|(refine k_call ?_;refine al_call rfl rfl rfl rfl hA2 ?_;rintro _ ⟨n, rfl⟩)|(refine k_bin ?_;first|(refine al_v (ov_seq_t hk rfl rfl) rfl ?_))|(refine k_bin ?_;refine al_v (ov_ine_in Tryd.underlying56 rfl rfl) rfl ?_))|(refine k_al ?_;first|(refine al_v (ov_move rfl) rfl ?_)|(refine k_g ?_;first|(refine al_gy' rfl rfl (by with_reducible rfl) ?_)|(refine al_gnf rfl rfl (by with_reducible rfl) rfl ?_))|(refine al_v (ov_fieldAddr rfl rfl) rfl ?_)|(refine k_load ?_;first|(refine al_v (ov_load rfl rfl) rfl ?_)|(refine al_v (ov_load_agg rfl rfl rfl) rfl ?_))|(refine k_bin ?_;first|(refine al_v (ov_seq rfl rfl) rfl ?_))|(refine k_pick ?_;first|(refine al_v (ov_pick_t' rfl (by with_reducible rfl) rfl) rfl ?_)|(refine al_v (ov_pick_f' rfl (by with_reducible rfl) rfl) rfl ?_))|(refine al_v (ov_assign rfl) rfl ?_)|(refine k_call ?_;first|(refine al_v (ov_len_str rfl) rfl ?_))|(refine al_v (ov_extract rfl rfl) rfl ?_)|(refine al_nil ?_)|(refine al_alloc rfl rfl rfl (by first|exact ln0|exact ln2) (by repeat constructor) rfl ?_)|(refine al_store rfl rfl rfl rfl rfl (by repeat constructor) (by repeat constructor) ?_)|(refine al_v (ov_build rfl rfl rfl (by repeat constructor)) rfl ?_)|(refine al_buildSlice (by rfl) (by rfl) (by rfl) (by rfl) (by decide) (by decide) (by rfl) (by rfl) (by repeat constructor) (by rfl) (by repeat constructor) (by rfl) (by first|exact ln0|exact ln2) (by repeat constructor) rfl ?_)|(refine al_v (ov_not_t rfl (by with_reducible rfl)) rfl ?_)|(refine al_v (ov_not_f rfl (by with_reducible rfl)) rfl ?_))|(first|(refine thn_n ?_)|(refine k_awp ?_;first|(refine awp_seq (awp_region ?_))|(refine awp_seq ?_)|(refine awp_region ?_)|(refine k_cond ?_;first|(refine awp_cond_t' rfl (by with_reducible rfl) ?_)|(refine awp_cond_f' rfl (by with_reducible rfl) ?_))|(refine awp_block ?_)|(refine awp_ret ?_)|(refine awp_skip ?_))|(refine thn_ret ?_)|(refine lq_ret ?_)|(refine inb_n ?_)|(refine inb_ret ?_))|(first|(refine k_hw ?_;first|(refine hw_s rfl ?_)|(refine hw_v (ov_move rfl) rfl ?_)|(refine hw_v (ov_assign rfl) rfl ?_)|(refine hw_v (ov_fieldAddr rfl rfl) rfl ?_)|(refine hw_v (ov_load rfl rfl) rfl ?_)|(refine hw_v (ov_load_agg rfl rfl rfl) rfl ?_)|(refine hw_v (ov_pick_t' rfl (by with_reducible rfl) rfl) rfl ?_)|(refine hw_v (ov_pick_f' rfl (by with_reducible rfl) rfl) rfl ?_)|(refine hw_v (ov_len_str rfl) rfl ?_)|(refine hw_v (ov_seq rfl rfl) rfl ?_)|(refine hw_v (ov_extract rfl rfl) rfl ?_)|(refine hw_v (ov_not_t rfl (by with_reducible rfl)) rfl ?_)|(refine hw_v (ov_not_f rfl (by with_reducible rfl)) rfl ?_)|(refine hw_v (ov_build rfl rfl rfl (by repeat constructor)) rfl ?_))|(refine hl_op rfl ?_)|(refine k_ho ?_;first|(refine ho_n ?_))|(refine hl_nil ?_)|(refine hq_back ?_)))
              all_goals
                refine retq_wkn (.boxFreeze (ib := 0) (k := 1) (id := 1) rfl rfl rfl rfl (by repeat constructor) rfl rfl) ?_
                refine retc1 (by first | exact .inr rfl | exact .inl rfl) rfl rfl rfl rfl rfl ?_
                exact ⟨⟨rp0 st out, false, rfl, hfit, fun r' h => (hbad r' h).elim⟩, rfl⟩
          · repeat' (first|(first|(refine k_call ?_;refine al_call rfl rfl rfl rfl hC2 ?_;rintro _ rfl)|(refine k_call ?_;refine al_call rfl rfl rfl rfl hC3 ?_;rintro _ rfl)|(refine k_bin ?_;first|(refine al_v (ov_seq_f hk rfl rfl) rfl ?_))|(refine k_call ?_;refine al_append rfl rfl (by repeat constructor) (src_os rfl rfl) rfl (by decide) (by simp only [List.length_cons, List.length_nil];omega) rfl ?_))|(refine k_al ?_;first|(refine al_v (ov_move rfl) rfl ?_)|(refine k_g ?_;first|(refine al_gy' rfl rfl (by with_reducible rfl) ?_)|(refine al_gnf rfl rfl (by with_reducible rfl) rfl ?_))|(refine al_v (ov_fieldAddr rfl rfl) rfl ?_)|(refine k_load ?_;first|(refine al_v (ov_load rfl rfl) rfl ?_)|(refine al_v (ov_load_agg rfl rfl rfl) rfl ?_))|(refine k_bin ?_;first|(refine al_v (ov_seq rfl rfl) rfl ?_))|(refine k_pick ?_;first|(refine al_v (ov_pick_t' rfl (by with_reducible rfl) rfl) rfl ?_)|(refine al_v (ov_pick_f' rfl (by with_reducible rfl) rfl) rfl ?_))|(refine al_v (ov_assign rfl) rfl ?_)|(refine k_call ?_;first|(refine al_v (ov_len_str rfl) rfl ?_))|(refine al_v (ov_extract rfl rfl) rfl ?_)|(refine al_nil ?_)|(refine al_alloc rfl rfl rfl (by first|exact ln0|exact ln2) (by repeat constructor) rfl ?_)|(refine al_store rfl rfl rfl rfl rfl (by repeat constructor) (by repeat constructor) ?_)|(refine al_v (ov_build rfl rfl rfl (by repeat constructor)) rfl ?_)|(refine al_buildSlice (by rfl) (by rfl) (by rfl) (by rfl) (by decide) (by decide) (by rfl) (by rfl) (by repeat constructor) (by rfl) (by repeat constructor) (by rfl) (by first|exact ln0|exact ln2) (by repeat constructor) rfl ?_)|(refine al_v (ov_not_t rfl (by with_reducible rfl)) rfl ?_)|(refine al_v (ov_not_f rfl (by with_reducible rfl)) rfl ?_))|(first|(refine thn_n ?_)|(refine k_awp ?_;first|(refine awp_seq (awp_region ?_))|(refine awp_seq ?_)|(refine awp_region ?_)|(refine k_cond ?_;first|(refine awp_cond_t' rfl (by with_reducible rfl) ?_)|(refine awp_cond_f' rfl (by with_reducible rfl) ?_))|(refine awp_block ?_)|(refine awp_ret ?_)|(refine awp_skip ?_))|(refine thn_ret ?_)|(refine lq_ret ?_)|(refine inb_n ?_)|(refine inb_ret ?_)))
            refine lq_back (rest2, out ++ [(k, v)], ver + 1, _) (.of (wk_drop [_] rfl (by repeat constructor) rfl (by repeat constructor) rfl)) ?_ ?_
            · refine ⟨by rw [List.map_append]; rfl, by simp only [List.length_append, List.length_cons, List.length_nil]; omega, ?_, ?_⟩
              · intro p hp
                rcases List.mem_append.1 hp with hp | hp
                · exact hIe p hp
                · rw [List.mem_singleton.1 hp]
                  exact ⟨by dsimp only; omega, by dsimp only; omega⟩
              · intro r' h
                obtain ⟨f, g, h1, h2, h3⟩ := hstep r' h
                rw [if_neg (by decide), if_neg (by decide), if_neg hk] at h2
                exact ⟨f, g, by dsimp only; omega, h2, h3⟩
            · dsimp only; omega
    · repeat' (first|(first|(refine k_call ?_;refine al_call rfl rfl rfl rfl hC ?_;rintro _ rfl)|(refine k_call ?_;refine al_call rfl rfl rfl rfl hSp ?_;rintro _ rfl)|(refine k_call ?_;refine al_v (ov_len_c L.length rfl hlen) rfl ?_)|(refine k_bin ?_;first|(refine al_v (ov_cmp_t rfl rfl rfl (by omega)) rfl ?_)|(refine al_v (ov_cmp_f rfl rfl rfl (by omega)) rfl ?_)))|(refine k_al ?_;first|(refine al_v (ov_move rfl) rfl ?_)|(refine k_g ?_;first|(refine al_gy' rfl rfl (by with_reducible rfl) ?_)|(refine al_gnf rfl rfl (by with_reducible rfl) rfl ?_))|(refine al_v (ov_fieldAddr rfl rfl) rfl ?_)|(refine k_load ?_;first|(refine al_v (ov_load rfl rfl) rfl ?_)|(refine al_v (ov_load_agg rfl rfl rfl) rfl ?_))|(refine k_bin ?_;first|(refine al_v (ov_seq rfl rfl) rfl ?_))|(refine k_pick ?_;first|(refine al_v (ov_pick_t' rfl (by with_reducible rfl) rfl) rfl ?_)|(refine al_v (ov_pick_f' rfl (by with_reducible rfl) rfl) rfl ?_))|(refine al_v (ov_assign rfl) rfl ?_)|(refine k_call ?_;first|(refine al_v (ov_len_str rfl) rfl ?_))|(refine al_v (ov_extract rfl rfl) rfl ?_)|(refine al_nil ?_)|(refine al_alloc rfl rfl rfl (by first|exact ln0|exact ln2) (by repeat constructor) rfl ?_)|(refine al_store rfl rfl rfl rfl rfl (by repeat constructor) (by repeat constructor) ?_)|(refine al_v (ov_build rfl rfl rfl (by repeat constructor)) rfl ?_)|(refine al_buildSlice (by rfl) (by rfl) (by rfl) (by rfl) (by decide) (by decide) (by rfl) (by rfl) (by repeat constructor) (by rfl) (by repeat constructor) (by rfl) (by first|exact ln0|exact ln2) (by repeat constructor) rfl ?_)|(refine al_v (ov_not_t rfl (by with_reducible rfl)) rfl ?_)|(refine al_v (ov_not_f rfl (by with_reducible rfl)) rfl ?_))|(first|(refine thn_n ?_)|(refine k_awp ?_;first|(refine awp_seq (awp_region ?_))|(refine awp_seq ?_)|(refine awp_region ?_)|(refine k_cond ?_;first|(refine awp_cond_t' rfl (by with_reducible rfl) ?_)|(refine awp_cond_f' rfl (by with_reducible rfl) ?_))|(refine awp_block ?_)|(refine awp_ret ?_)|(refine awp_skip ?_))|(refine thn_ret ?_)|(refine lq_ret ?_)|(refine inb_n ?_)|(refine inb_ret ?_)))
      refine retq_wkn (.boxLe (id := 0) [.int .i64 0, .rs [], .str [], .bool false] rfl (.cons (.refl _) (.cons .nil (.cons (.refl _) (.cons (.refl _) .nil)))) rfl) ?_
      refine retc1 (by first | exact .inr rfl | exact .inl rfl) rfl rfl rfl rfl rfl ?_
      exact ⟨⟨rp0 0 [], false, rfl, ⟨by simp [rp0], (fun p h => by cases h), by simp [rp0]⟩, fun r' h => by obtain ⟨a', w', b', g, e1, _⟩ := hpt h; rw [e1] at h3; exact absurd rfl h3⟩, rfl⟩
end
end Go.Proofs.YtnjolbnbpfjdiaaDoor.L

namespace Go.Proofs.YtnjolbnbpfjdiaaDoor.L
open Go Go.RowKit Go.Proofs
set_option linter.unusedVariables false
set_option linter.unusedSimpArgs false
set_option maxRecDepth 100000
attribute [local irreducible] AL QL AWp Thn InB RetQ ACalls LoopQ HL HO HW HQ NoG JmpQ MidQ HF

section
variable {E : Env} {N : Nat} {sl : Slots} {H : List AO}
theorem ov_beq_t {t t' : Nat} {n b : Nat} {z : Value} [ti : TI E.P t .bool n b z] {x y : Operand} {p q : Bool} (h : p = q) (hx : ev sl x = some (.bool p)) (hy : ev sl y = some (.bool q)) : OV E sl H (.binOp .eql t x y t') (.bool true) := by
  have := ov_beq (E := E) (H := H) (t := t) (t' := t') hx hy
  rwa [decide_eq_true h] at this
theorem retc0 {fn : Func} {R : AV → List AO → Prop} {e : Exit} {σ : St} {p ty n b : Nat} {z : Value} {pv : AV} {cs : List AV} [ti : TZ E.P ty true n b z] (he : e = .normal ∨ e = .ret) (h2 : fn.results = #[.cell p ty]) (hp : lk σ.sl p = some pv) (hc : cellsAt σ.objs pv = some cs) (hn : Nat.ble n cs.length = true) (hR : R (.agg (cs.take n)) σ.objs) : RetQ E N fn R e σ :=
  retQ_mk he σ [.cell p ty] [.agg (cs.take n)] (.refl σ) h2 (.agg hp hc hn .nil) hR
end
/-- What Parse answers. -/
def prsY (s : List UInt8) : AV := match parseP s with
  | some r => .tup [.agg (rpC r), .int .i64 ((printY r).length : Int), .int .i64 0]
  | none => .tup [.agg (rpC (rp0 0 [])), .int .i64 0, .int .i64 90]
def awY : List UInt8 := tx "HTTP/1.1 200 OK\r\ncontent-length: 2\r\nconnection: keep-alive\r\n\r\nhi"
theorem aw_y1 : mayY ⟨200, [], [104, 105], false⟩ = true := by decide +kernel
theorem aw_y2 : printY ⟨200, [], [104, 105], false⟩ = awY := by decide +kernel
section
variable {w0 : World} {base : Nat}
theorem s_plainY {st : Int} {b : List UInt8} {cl : Bool} : PCalls (EE w0 base) 36 [.int .i64 st, .str b, .bool cl] fun rv => rv = .agg (rpC ⟨st, [], b, cl⟩) := by
  refine acalls_of Tryd.func36 rfl rfl rfl (.cons (.cons (.cons .nil))) ?_
  repeat' (first|(refine k_al ?_;first|(refine al_v (ov_move rfl) rfl ?_)|(refine al_nil ?_)|(refine al_alloc rfl rfl rfl (by first|exact ln0) (by repeat constructor) rfl ?_)|(refine al_store rfl rfl rfl rfl rfl (by repeat constructor) (by repeat constructor) ?_)|(refine al_v (ov_build rfl rfl rfl (by repeat constructor)) rfl ?_))|(first|(refine thn_n ?_)|(refine k_awp ?_;first|(refine awp_seq (awp_region ?_))|(refine awp_seq ?_)|(refine awp_region ?_)|(refine awp_ret ?_))))
  refine retq_wkn (.boxLe (id := 0) [.int .i64 st, .rs [], .str b, .bool cl] rfl (.cons (.refl _) (.cons .nil (.cons (.refl _) (.cons (.refl _) .nil)))) rfl) ?_
  refine retc0 (by first | exact .inr rfl | exact .inl rfl) rfl rfl rfl rfl ?_
  exact ⟨rfl, rfl⟩
set_option maxHeartbeats 4000000 in
theorem s_parseY {s : List UInt8} (hG : Tabs w0 base) (hs : s.length ≤ 1073741824) : PCalls (EE w0 base) 11 [.str s] fun rv => rv = prsY s := by
  have hR := s_readY (w0 := w0) (base := base) hG hs
  refine acalls_of Tryd.func11 rfl rfl rfl (.cons .nil) ?_
  repeat' (first|((refine k_call ?_;refine al_call rfl rfl rfl rfl hR ?_;rintro _ ⟨r, ok, rfl, hfit, hrd⟩;have hP := s_printY (w0 := w0) (base := base) hG hfit))|(refine k_al ?_;first|(refine al_v (ov_move rfl) rfl ?_)|(refine k_g ?_;first|(refine al_gy' rfl rfl (by with_reducible rfl) ?_)|(refine al_gnf rfl rfl (by with_reducible rfl) rfl ?_)|(refine al_gsp rfl rfl (fun hc => ?_) (fun hc => ?_) <;> (try (exfalso;omega))))|(refine k_load ?_;first|(refine al_v (ov_load_agg rfl rfl rfl) rfl ?_))|(refine k_bin ?_;first|(refine al_v (ov_cmp rfl rfl rfl) rfl ?_))|(refine k_pick ?_;first|(refine al_v (ov_pick_t' rfl (by with_reducible rfl) rfl) rfl ?_)|(refine al_v (ov_pick_f' rfl (by with_reducible rfl) rfl) rfl ?_))|(refine al_v (ov_assign rfl) rfl ?_)|(refine k_call ?_;first|(refine al_v (ov_len_str rfl) rfl ?_))|(refine al_v (ov_extract rfl rfl) rfl ?_)|(refine al_nil ?_)|(refine al_alloc rfl rfl rfl (by first|exact ln0|exact ln1) (by repeat constructor) rfl ?_)|(refine al_store rfl rfl rfl rfl rfl (by repeat constructor) (by repeat constructor) ?_)|(refine al_v (ov_build rfl rfl rfl (by repeat constructor)) rfl ?_)|(refine al_v (ov_not_t rfl (by with_reducible rfl)) rfl ?_)|(refine al_v (ov_not_f rfl (by with_reducible rfl)) rfl ?_))|(first|(refine thn_n ?_)|(refine k_awp ?_;first|(refine awp_seq (awp_region ?_))|(refine awp_seq ?_)|(refine awp_region ?_)|(refine k_cond ?_;first|(refine awp_cond_t' rfl (by with_reducible rfl) ?_)|(refine awp_cond_f' rfl (by with_reducible rfl) ?_))|(refine awp_ret ?_)|(refine awp_skip ?_))|(refine thn_ret ?_)))
  have hnone : (∀ r', readP s = some r' → mayY r' = true → Lib.hasPrefix s (printY r') = true → False) → prsY s = .tup [.agg (rpC (rp0 0 [])), .int .i64 0, .int .i64 90] := fun h => by
    unfold prsY
    have : parseP s = none := by
      unfold parseP
      cases hq : readP s with
      | none => rfl
      | some r' =>
        dsimp only
        split
        · rename_i g; exact (h r' hq g.1 g.2).elim
        · rfl
    rw [this]
  cases hm : mayY r with
  | false =>
    have hn := hnone fun r' h1 h2 h3 => by
      have := (hrd r' h1).1
      subst this
      rw [hm] at h2
      cases h2
    have hP1 : PCalls (EE w0 base) 10 [.agg (rpC r)] fun rv => rv = .tup [.str [], .int .i64 90] := acalls_mono hP fun rv os h => ⟨by rw [h.1]; unfold prnY; rw [hm]; rfl, h.2⟩
    cases ok
    all_goals
      repeat' (first|((refine k_call ?_;refine al_call rfl rfl rfl rfl hP1 ?_;rintro _ rfl))|(refine k_al ?_;first|(refine al_v (ov_move rfl) rfl ?_)|(refine k_g ?_;first|(refine al_gy' rfl rfl (by with_reducible rfl) ?_)|(refine al_gnf rfl rfl (by with_reducible rfl) rfl ?_)|(refine al_gsp rfl rfl (fun hc => ?_) (fun hc => ?_) <;> (try (exfalso;omega))))|(refine k_load ?_;first|(refine al_v (ov_load_agg rfl rfl rfl) rfl ?_))|(refine k_bin ?_;first|(refine al_v (ov_cmp rfl rfl rfl) rfl ?_))|(refine k_pick ?_;first|(refine al_v (ov_pick_t' rfl (by with_reducible rfl) rfl) rfl ?_)|(refine al_v (ov_pick_f' rfl (by with_reducible rfl) rfl) rfl ?_))|(refine al_v (ov_assign rfl) rfl ?_)|(refine k_call ?_;first|(refine al_v (ov_len_str rfl) rfl ?_))|(refine al_v (ov_extract rfl rfl) rfl ?_)|(refine al_nil ?_)|(refine al_alloc rfl rfl rfl (by first|exact ln0|exact ln1) (by repeat constructor) rfl ?_)|(refine al_store rfl rfl rfl rfl rfl (by repeat constructor) (by repeat constructor) ?_)|(refine al_v (ov_build rfl rfl rfl (by repeat constructor)) rfl ?_)|(refine al_v (ov_not_t rfl (by with_reducible rfl)) rfl ?_)|(refine al_v (ov_not_f rfl (by with_reducible rfl)) rfl ?_))|(first|(refine thn_n ?_)|(refine k_awp ?_;first|(refine awp_seq (awp_region ?_))|(refine awp_seq ?_)|(refine awp_region ?_)|(refine k_cond ?_;first|(refine awp_cond_t' rfl (by with_reducible rfl) ?_)|(refine awp_cond_f' rfl (by with_reducible rfl) ?_))|(refine awp_ret ?_)|(refine awp_skip ?_))|(refine thn_ret ?_)))
      refine retq_wkn (.boxLe (id := 0) [.int .i64 0, .rs [], .str [], .bool false] rfl (.cons (.refl _) (.cons .nil (.cons (.refl _) (.cons (.refl _) .nil)))) rfl) ?_
      refine retc2 (by first | exact .inr rfl | exact .inl rfl) rfl rfl rfl rfl rfl rfl ?_
      exact ⟨hn.symm, rfl⟩
  | true =>
    have hP1 : PCalls (EE w0 base) 10 [.agg (rpC r)] fun rv => rv = .tup [.str (printY r), .int .i64 0] := acalls_mono hP fun rv os h => ⟨by rw [h.1]; unfold prnY; rw [hm]; rfl, h.2⟩
    have hH := s_hasPrefix (w0 := w0) (base := base) (s := s) (p := printY r)
    cases ok with
    | false =>
      have hn := hnone fun r' h1 h2 h3 => by have := (hrd r' h1).2; cases this
      repeat' (first|((refine k_call ?_;refine al_call rfl rfl rfl rfl hP1 ?_;rintro _ rfl))|(refine k_al ?_;first|(refine al_v (ov_move rfl) rfl ?_)|(refine k_g ?_;first|(refine al_gy' rfl rfl (by with_reducible rfl) ?_)|(refine al_gnf rfl rfl (by with_reducible rfl) rfl ?_)|(refine al_gsp rfl rfl (fun hc => ?_) (fun hc => ?_) <;> (try (exfalso;omega))))|(refine k_load ?_;first|(refine al_v (ov_load_agg rfl rfl rfl) rfl ?_))|(refine k_bin ?_;first|(refine al_v (ov_cmp rfl rfl rfl) rfl ?_))|(refine k_pick ?_;first|(refine al_v (ov_pick_t' rfl (by with_reducible rfl) rfl) rfl ?_)|(refine al_v (ov_pick_f' rfl (by with_reducible rfl) rfl) rfl ?_))|(refine al_v (ov_assign rfl) rfl ?_)|(refine k_call ?_;first|(refine al_v (ov_len_str rfl) rfl ?_))|(refine al_v (ov_extract rfl rfl) rfl ?_)|(refine al_nil ?_)|(refine al_alloc rfl rfl rfl (by first|exact ln0|exact ln1) (by repeat constructor) rfl ?_)|(refine al_store rfl rfl rfl rfl rfl (by repeat constructor) (by repeat constructor) ?_)|(refine al_v (ov_build rfl rfl rfl (by repeat constructor)) rfl ?_)|(refine al_v (ov_not_t rfl (by with_reducible rfl)) rfl ?_)|(refine al_v (ov_not_f rfl (by with_reducible rfl)) rfl ?_))|(first|(refine thn_n ?_)|(refine k_awp ?_;first|(refine awp_seq (awp_region ?_))|(refine awp_seq ?_)|(refine awp_region ?_)|(refine k_cond ?_;first|(refine awp_cond_t' rfl (by with_reducible rfl) ?_)|(refine awp_cond_f' rfl (by with_reducible rfl) ?_))|(refine awp_ret ?_)|(refine awp_skip ?_))|(refine thn_ret ?_)))
      refine retq_wkn (.boxLe (id := 0) [.int .i64 0, .rs [], .str [], .bool false] rfl (.cons (.refl _) (.cons .nil (.cons (.refl _) (.cons (.refl _) .nil)))) rfl) ?_
      refine retc2 (by first | exact .inr rfl | exact .inl rfl) rfl rfl rfl rfl rfl rfl ?_
      exact ⟨hn.symm, rfl⟩
    | true =>
      cases hp : Lib.hasPrefix s (printY r) with
      | false =>
        rw [hp] at hH
        have hn := hnone fun r' h1 h2 h3 => by
          have := (hrd r' h1).1
          subst this
          rw [hp] at h3
          cases h3
        repeat' (first|(first|(refine k_call ?_;refine al_call rfl rfl rfl rfl hP1 ?_;rintro _ rfl)|(refine k_call ?_;refine al_call rfl rfl rfl rfl hH ?_;rintro _ rfl))|(refine k_al ?_;first|(refine al_v (ov_move rfl) rfl ?_)|(refine k_g ?_;first|(refine al_gy' rfl rfl (by with_reducible rfl) ?_)|(refine al_gnf rfl rfl (by with_reducible rfl) rfl ?_)|(refine al_gsp rfl rfl (fun hc => ?_) (fun hc => ?_) <;> (try (exfalso;omega))))|(refine k_load ?_;first|(refine al_v (ov_load_agg rfl rfl rfl) rfl ?_))|(refine k_bin ?_;first|(refine al_v (ov_cmp rfl rfl rfl) rfl ?_))|(refine k_pick ?_;first|(refine al_v (ov_pick_t' rfl (by with_reducible rfl) rfl) rfl ?_)|(refine al_v (ov_pick_f' rfl (by with_reducible rfl) rfl) rfl ?_))|(refine al_v (ov_assign rfl) rfl ?_)|(refine k_call ?_;first|(refine al_v (ov_len_str rfl) rfl ?_))|(refine al_v (ov_extract rfl rfl) rfl ?_)|(refine al_nil ?_)|(refine al_alloc rfl rfl rfl (by first|exact ln0|exact ln1) (by repeat constructor) rfl ?_)|(refine al_store rfl rfl rfl rfl rfl (by repeat constructor) (by repeat constructor) ?_)|(refine al_v (ov_build rfl rfl rfl (by repeat constructor)) rfl ?_)|(refine al_v (ov_not_t rfl (by with_reducible rfl)) rfl ?_)|(refine al_v (ov_not_f rfl (by with_reducible rfl)) rfl ?_))|(first|(refine thn_n ?_)|(refine k_awp ?_;first|(refine awp_seq (awp_region ?_))|(refine awp_seq ?_)|(refine awp_region ?_)|(refine k_cond ?_;first|(refine awp_cond_t' rfl (by with_reducible rfl) ?_)|(refine awp_cond_f' rfl (by with_reducible rfl) ?_))|(refine awp_ret ?_)|(refine awp_skip ?_))|(refine thn_ret ?_)))
        refine retq_wkn (.boxLe (id := 0) [.int .i64 0, .rs [], .str [], .bool false] rfl (.cons (.refl _) (.cons .nil (.cons (.refl _) (.cons (.refl _) .nil)))) rfl) ?_
        refine retc2 (by first | exact .inr rfl | exact .inl rfl) rfl rfl rfl rfl rfl rfl ?_
        exact ⟨hn.symm, rfl⟩
      | true =>
        rw [hp] at hH
        have hy : prsY s = .tup [.agg (rpC r), .int .i64 ((printY r).length : Int), .int .i64 0] := by
          unfold prsY
          rw [parseP_iff.2 ⟨hm, hp⟩]
        rw [hy]
        repeat' (first|(first|(refine k_call ?_;refine al_call rfl rfl rfl rfl hP1 ?_;rintro _ rfl)|(refine k_call ?_;refine al_call rfl rfl rfl rfl hH ?_;rintro _ rfl))|(refine k_al ?_;first|(refine al_v (ov_move rfl) rfl ?_)|(refine k_g ?_;first|(refine al_gy' rfl rfl (by with_reducible rfl) ?_)|(refine al_gnf rfl rfl (by with_reducible rfl) rfl ?_)|(refine al_gsp rfl rfl (fun hc => ?_) (fun hc => ?_) <;> (try (exfalso;omega))))|(refine k_load ?_;first|(refine al_v (ov_load_agg rfl rfl rfl) rfl ?_))|(refine k_bin ?_;first|(refine al_v (ov_cmp rfl rfl rfl) rfl ?_))|(refine k_pick ?_;first|(refine al_v (ov_pick_t' rfl (by with_reducible rfl) rfl) rfl ?_)|(refine al_v (ov_pick_f' rfl (by with_reducible rfl) rfl) rfl ?_))|(refine al_v (ov_assign rfl) rfl ?_)|(refine k_call ?_;first|(refine al_v (ov_len_str rfl) rfl ?_))|(refine al_v (ov_extract rfl rfl) rfl ?_)|(refine al_nil ?_)|(refine al_alloc rfl rfl rfl (by first|exact ln0|exact ln1) (by repeat constructor) rfl ?_)|(refine al_store rfl rfl rfl rfl rfl (by repeat constructor) (by repeat constructor) ?_)|(refine al_v (ov_build rfl rfl rfl (by repeat constructor)) rfl ?_)|(refine al_v (ov_not_t rfl (by with_reducible rfl)) rfl ?_)|(refine al_v (ov_not_f rfl (by with_reducible rfl)) rfl ?_))|(first|(refine thn_n ?_)|(refine k_awp ?_;first|(refine awp_seq (awp_region ?_))|(refine awp_seq ?_)|(refine awp_region ?_)|(refine k_cond ?_;first|(refine awp_cond_t' rfl (by with_reducible rfl) ?_)|(refine awp_cond_f' rfl (by with_reducible rfl) ?_))|(refine awp_ret ?_)|(refine awp_skip ?_))|(refine thn_ret ?_)))
        refine retc2 (by first | exact .inr rfl | exact .inl rfl) rfl rfl rfl rfl rfl rfl ?_
        exact ⟨rfl, rfl⟩
theorem s_sameY {r : Rp} (hr : RpFit r) : PCalls (EE w0 base) 12 [.agg (rpC r), .agg (rpC r)] fun rv => rv = .bool true := by
  have hS := s_sameF (w0 := w0) (base := base) hr.fs hr.fs
  rw [decide_eq_true rfl] at hS
  refine acalls_of Tryd.func12 rfl rfl rfl (.cons (.cons .nil)) ?_
  repeat' (first|(first|(refine k_call ?_;refine al_call rfl rfl rfl rfl hS ?_;rintro _ rfl)|(refine k_bin ?_;first|(refine al_v (ov_cmp_t rfl rfl rfl rfl) rfl ?_)|(refine al_v (ov_seq_t rfl rfl rfl) rfl ?_)|(refine al_v (ov_beq_t rfl rfl rfl) rfl ?_)))|(refine k_al ?_;first|(refine al_v (ov_move rfl) rfl ?_)|(refine k_g ?_;first|(refine al_gy' rfl rfl (by with_reducible rfl) ?_))|(refine al_v (ov_fieldAddr rfl rfl) rfl ?_)|(refine k_load ?_;first|(refine al_v (ov_load rfl rfl) rfl ?_))|(refine k_pick ?_;first|(refine al_v (ov_pick_t' rfl (by with_reducible rfl) rfl) rfl ?_))|(refine al_v (ov_assign rfl) rfl ?_)|(refine al_nil ?_)|(refine al_box rfl rfl rfl (by first|exact ln0|exact ln1) (by repeat constructor) rfl ?_))|(first|(refine thn_n ?_)|(refine k_awp ?_;first|(refine awp_seq (awp_region ?_))|(refine awp_seq ?_)|(refine awp_region ?_)|(refine awp_ret ?_))))
  refine ret1 (by first | exact .inr rfl | exact .inl rfl) rfl rfl ?_
  exact ⟨rfl, rfl⟩
theorem s_awake09 (hG : Tabs w0 base) : PCalls (EE w0 base) 13 [] fun rv => rv = .bool true := by
  have hp := s_plainY (w0 := w0) (base := base) (st := 200) (b := [104, 105]) (cl := false)
  have hP := s_printY (w0 := w0) (base := base) (r := ⟨200, [], [104, 105], false⟩) hG ⟨by simp, (fun p h => by cases h), by simp⟩
  have hP1 : PCalls (EE w0 base) 10 [.agg (rpC ⟨200, [], [104, 105], false⟩)] fun rv => rv = .tup [.str awY, .int .i64 0] := acalls_mono hP fun rv os h => ⟨by rw [h.1]; unfold prnY; rw [aw_y1, aw_y2]; rfl, h.2⟩
  refine acalls_of Tryd.func13 rfl rfl rfl .nil ?_
  repeat' (first|(first|(refine k_call ?_;refine al_call rfl rfl rfl rfl hp ?_;rintro _ rfl)|(refine k_call ?_;refine al_call rfl rfl rfl rfl hP1 ?_;rintro _ rfl)|(refine k_bin ?_;first|(refine al_v (ov_cmp_t rfl rfl rfl (by omega)) rfl ?_)|(refine al_v (ov_seq_t (m := awY) (n := awY) rfl rfl rfl) rfl ?_)))|(refine k_al ?_;first|(refine al_v (ov_move rfl) rfl ?_)|(refine k_g ?_;first|(refine al_gy' rfl rfl (by with_reducible rfl) ?_))|(refine k_pick ?_;first|(refine al_v (ov_pick_t' rfl (by with_reducible rfl) rfl) rfl ?_))|(refine al_v (ov_assign rfl) rfl ?_)|(refine al_v (ov_extract rfl rfl) rfl ?_)|(refine al_nil ?_))|(first|(refine thn_n ?_)|(refine k_awp ?_;first|(refine awp_seq (awp_region ?_))|(refine awp_seq ?_)|(refine awp_region ?_)|(refine awp_ret ?_))))
  refine ret1 (by first | exact .inr rfl | exact .inl rfl) rfl rfl ?_
  exact ⟨rfl, rfl⟩
end
end Go.Proofs.YtnjolbnbpfjdiaaDoor.L

namespace Go.Proofs.YtnjolbnbpfjdiaaDoor.L
open Go Go.RowKit Go.Proofs
set_option linter.unusedVariables false
set_option linter.unusedSimpArgs false
set_option maxRecDepth 100000
attribute [local irreducible] AL QL AWp Thn InB RetQ ACalls LoopQ HL HO HW HQ NoG JmpQ MidQ HF

def rpsY (l : List Rp) : List UInt8 := l.flatMap printY
def goodL (l : List Rp) : List Rp := l.filter mayY
theorem goodL_next {l : List Rp} {i : Nat} {r : Rp} (h : l[i]? = some r) : goodL (l.take (i + 1)) = goodL (l.take i) ++ (if mayY r = true then [r] else []) := by
  unfold goodL
  rw [List.take_add_one, h, List.filter_append]
  congr 1
  simp only [Option.toList_some, List.filter_cons, List.filter_nil]
theorem itoa_len3 {v : Int} (h0 : 200 ≤ v) (h1 : v ≤ 599) : (Lib.itoa v).length ≤ 20 := by
  have h : ∀ k : Fin 400, (Lib.itoa (((k.1 + 200 : Nat) : Int))).length ≤ 20 := by decide +kernel
  have := h ⟨(v - 200).toNat, by omega⟩
  have e : (((v - 200).toNat + 200 : Nat) : Int) = v := by omega
  rw [e] at this
  exact this
theorem itoa_len8 {n : Nat} (h : n ≤ 1048576) : (Lib.itoa (n : Int)).length ≤ 21 := by
  have := Lib.itoa_length_le (n : Int) (by omega) (by omega)
  omega
theorem fldsY_bulk (fs : Fs) : (fldsY fs).length ≤ 4 * rowsB (fs.map prAV) := by
  induction fs with
  | nil => exact Nat.zero_le _
  | cons p fs ih =>
    rw [fldsY, List.length_append, List.map_cons, rowsB]
    have : cellsB (prAV p) = (p.1.length + 1) + ((p.2.length + 1) + 0) := rfl
    rw [this]
    unfold fldY
    simp only [List.length_append, List.length_cons, List.length_nil]
    omega
theorem printY_bulk {r : Rp} (h : mayY r = true) : (printY r).length ≤ 200 * cellsB (rpC r) := by
  obtain ⟨h1, h2, h3, h4⟩ := mayY_all h
  have e : cellsB (rpC r) = 1 + ((rowsB (r.fs.map prAV) + 1) + ((r.body.length + 1) + (1 + 0))) := rfl
  rw [e]
  have f1 := fldsY_bulk r.fs
  have f2 := words_len r.st
  have f3 := itoa_len3 h1.1 h1.2
  have f4 := itoa_len8 h3
  have e1 : (tx "HTTP/1.1 ").length = 9 := by decide +kernel
  have e2 : (tx "content-length: ").length = 16 := by decide +kernel
  have e3 : (tx "\r\nconnection: ").length = 14 := by decide +kernel
  have e4 : (endW r.cl).length ≤ 10 := by cases r.cl <;> decide +kernel
  unfold printY y1 y3
  simp only [List.length_append, List.length_cons, List.length_nil, e1, e2, e3]
  omega
theorem rpsY_bulk (l : List Rp) : (rpsY (goodL l)).length ≤ 200 * rowsB (l.map rpC) := by
  induction l with
  | nil => exact Nat.zero_le _
  | cons r l ih =>
    rw [List.map_cons, rowsB]
    unfold goodL at ih ⊢
    rw [List.filter_cons]
    split
    · rename_i hm
      have := printY_bulk hm
      unfold rpsY at ih ⊢
      rw [List.flatMap_cons, List.length_append]
      omega
    · omega
theorem rpsY_snoc (l : List Rp) (r : Rp) : rpsY (l ++ [r]) = rpsY l ++ printY r := by
  unfold rpsY
  rw [List.flatMap_append, List.flatMap_cons, List.flatMap_nil, List.append_nil]
theorem printY_pos (r : Rp) : 1 ≤ (printY r).length := by
  unfold printY y1 y3
  simp only [List.length_append, List.length_cons, List.length_nil]
  omega
theorem rowsB_take (l : List (List AV)) (i : Nat) : rowsB (l.take i) ≤ rowsB l := by
  have h := rowsB_append (l.take i) (l.drop i)
  rw [List.take_append_drop] at h
  omega
section
variable {w0 : World} {base : Nat}
set_option maxHeartbeats 4000000 in
theorem s_lawReplyLine {l : List Rp} (hG : Tabs w0 base) (hf : ∀ r ∈ l, RpFit r) (hb : rowsB (l.map rpC) ≤ 2097152) : PCalls (EE w0 base) 3 [.rs (l.map rpC)] fun rv => rv = .bool true := by
  have hlen : (l.map rpC).length = l.length := List.length_map _
  have hle : l.length ≤ rowsB (l.map rpC) := by
    clear hf hb hlen
    induction l with
    | nil => exact Nat.zero_le _
    | cons r l ih =>
      rw [List.map_cons, rowsB, List.length_cons]
      have e : cellsB (rpC r) = 1 + ((rowsB (r.fs.map prAV) + 1) + ((r.body.length + 1) + (1 + 0))) := rfl
      omega
  have hall : ∀ i, (rpsY (goodL (l.take i))).length ≤ 419430400 := fun i => by
    have h1 := rpsY_bulk (l.take i)
    have h2 := rowsB_take (l.map rpC) i
    rw [← List.map_take] at h2
    omega
  have hgl : ∀ i, (goodL (l.take i)).length ≤ l.length := fun i => by
    have h1 := List.length_filter_le mayY (l.take i)
    have h2 := List.length_take_le i l
    have h3 : (l.take i).length ≤ l.length := by simp only [List.length_take]; omega
    unfold goodL
    omega
  refine acalls_of Tryd.func3 rfl rfl rfl (.cons .nil) ?_
  repeat' (first|(refine k_al ?_;first|(refine al_v (ov_move rfl) rfl ?_)|(refine k_g ?_;first|(refine al_gy' rfl rfl (by with_reducible rfl) ?_))|(refine k_load ?_;first|(refine al_v (ov_load_agg rfl rfl rfl) rfl ?_))|(refine k_bin ?_;first|(refine al_v (ov_cat rfl rfl (by first|omega|(simp only [List.length_append, List.length_cons, List.length_nil];omega)|(simp;omega))) rfl ?_)|(refine al_v (ov_add rfl rfl (by (first|exact w64 (by omega) (by omega)|rfl))) rfl ?_))|(refine k_pick ?_;first|(refine al_v (ov_pick_t' rfl (by with_reducible rfl) rfl) rfl ?_)|(refine al_v (ov_pick_f' rfl (by with_reducible rfl) rfl) rfl ?_))|(refine al_v (ov_assign rfl) rfl ?_)|(refine k_call ?_;first|(refine al_v (ov_len_str rfl) rfl ?_))|(refine al_v (ov_extract rfl rfl) rfl ?_)|(refine al_nil ?_)|(refine al_alloc rfl rfl rfl (by first|exact ln1) (by repeat constructor) rfl ?_)|(refine al_store rfl rfl rfl rfl rfl (by repeat constructor) (by repeat constructor) ?_)|(refine al_buildSlice (by rfl) (by rfl) (by rfl) (by rfl) (by decide) (by decide) (by rfl) (by rfl) (by repeat constructor) (by rfl) (by repeat constructor) (by rfl) (by first|exact ln1) (by repeat constructor) rfl ?_)|(refine al_v (ov_not_t rfl (by with_reducible rfl)) rfl ?_))|(first|(refine thn_n ?_)|(refine k_awp ?_;first|(refine awp_seq (awp_region ?_))|(refine awp_seq ?_)|(refine awp_region ?_)|(refine k_cond ?_;first|(refine awp_cond_t' rfl (by with_reducible rfl) ?_)|(refine awp_cond_f' rfl (by with_reducible rfl) ?_))|(refine awp_block ?_)|(refine awp_ret ?_)|(refine awp_skip ?_)|(refine awp_exit ?_))|(refine lq_exit ?_)|(refine thn_exit ?_)|(refine inb_n ?_)|(refine inb_here ?_)))
  refine awp_adopt 4 28 4 rfl (by decide) rfl (by repeat constructor) ?_
  refine awp_loopq (fun q : Nat × List UInt8 × Nat × List (List AV) => ⟨[(0, .rs (l.map rpC)), (3, .str q.2.1), (4, .os 0 q.2.2.1), (5, .int .i64 q.1)], [.row 28 4 q.2.2.1 0 q.2.2.2]⟩)
    (fun q => q.1 ≤ l.length ∧ q.2.1 = rpsY (goodL (l.take q.1)) ∧ q.2.2.2 = (goodL (l.take q.1)).map rpC) (fun q => l.length - q.1) (0, [], 0, []) (.of (.same (by repeat constructor))) ⟨Nat.zero_le _, rfl, rfl⟩ ?_
  rintro ⟨i, all, ver, xs⟩ ⟨hi, hal, hxs⟩
  dsimp only at hi hal hxs ⊢
  by_cases hlt : i < l.length
  · obtain ⟨r, hr⟩ : ∃ r, l[i]? = some r := ⟨_, List.getElem?_eq_getElem hlt⟩
    have hrow : (l.map rpC)[((i : Nat) : Int).toNat]? = some [.int .i64 r.st, .rs (r.fs.map prAV), .str r.body, .bool r.cl] := by
      have : ((i : Nat) : Int).toNat = i := rfl
      rw [this, List.getElem?_map, hr]
      rfl
    have hP := s_printY (w0 := w0) (base := base) hG (hf r (List.mem_of_getElem? hr))
    have hnx := goodL_next hr
    have hxl : xs.length = (goodL (l.take i)).length := by rw [hxs, List.length_map]
    have hgi := hgl i
    have hai := hall i
    have hai2 := hall (i + 1)
    rw [hnx] at hai2
    cases hm : mayY r with
    | false =>
      rw [hm, if_neg (by decide), List.append_nil] at hnx
      have hP1 : PCalls (EE w0 base) 10 [.agg (rpC r)] fun rv => rv = .tup [.str [], .int .i64 90] := acalls_mono hP fun rv os h => ⟨by rw [h.1]; unfold prnY; rw [hm]; rfl, h.2⟩
      repeat' (first|(first|(refine k_call ?_;refine al_call rfl rfl rfl rfl hP1 ?_;rintro _ rfl)|(refine k_call ?_;refine al_v (ov_len_c l.length rfl hlen) rfl ?_)|(refine al_v (ov_indexAddr rfl rfl (by omega) hrow rfl) rfl ?_)|(refine k_bin ?_;first|(refine al_v (ov_cmp_t rfl rfl rfl (by omega)) rfl ?_)|(refine al_v (ov_cmp_f rfl rfl rfl (by omega)) rfl ?_)))|(refine k_al ?_;first|(refine al_v (ov_move rfl) rfl ?_)|(refine k_g ?_;first|(refine al_gy' rfl rfl (by with_reducible rfl) ?_))|(refine k_load ?_;first|(refine al_v (ov_load_agg rfl rfl rfl) rfl ?_))|(refine k_bin ?_;first|(refine al_v (ov_cat rfl rfl (by first|omega|(simp only [List.length_append, List.length_cons, List.length_nil];omega)|(simp;omega))) rfl ?_)|(refine al_v (ov_add rfl rfl (by (first|exact w64 (by omega) (by omega)|rfl))) rfl ?_))|(refine k_pick ?_;first|(refine al_v (ov_pick_t' rfl (by with_reducible rfl) rfl) rfl ?_)|(refine al_v (ov_pick_f' rfl (by with_reducible rfl) rfl) rfl ?_))|(refine al_v (ov_assign rfl) rfl ?_)|(refine k_call ?_;first|(refine al_v (ov_len_str rfl) rfl ?_))|(refine al_v (ov_extract rfl rfl) rfl ?_)|(refine al_nil ?_)|(refine al_alloc rfl rfl rfl (by first|exact ln1) (by repeat constructor) rfl ?_)|(refine al_store rfl rfl rfl rfl rfl (by repeat constructor) (by repeat constructor) ?_)|(refine al_buildSlice (by rfl) (by rfl) (by rfl) (by rfl) (by decide) (by decide) (by rfl) (by rfl) (by repeat constructor) (by rfl) (by repeat constructor) (by rfl) (by first|exact ln1) (by repeat constructor) rfl ?_)|(refine al_v (ov_not_t rfl (by with_reducible rfl)) rfl ?_))|(first|(refine thn_n ?_)|(refine k_awp ?_;first|(refine awp_seq (awp_region ?_))|(refine awp_seq ?_)|(refine awp_region ?_)|(refine k_cond ?_;first|(refine awp_cond_t' rfl (by with_reducible rfl) ?_)|(refine awp_cond_f' rfl (by with_reducible rfl) ?_))|(refine awp_block ?_)|(refine awp_ret ?_)|(refine awp_skip ?_)|(refine awp_exit ?_))|(refine lq_exit ?_)|(refine thn_exit ?_)|(refine inb_n ?_)|(refine inb_here ?_)))
      first|refine lq_back (i + 1, all, ver, xs) (.of (.same (by repeat constructor))) ?_ ?_|refine lq_back (i + 1, all, ver, xs) (.of (wk_drop [_] rfl (by repeat constructor) rfl (by repeat constructor) rfl)) ?_ ?_|refine lq_back (i + 1, all, ver, xs) (.of (wk_drop [_, _] rfl (by repeat constructor) rfl (by repeat constructor) rfl)) ?_ ?_|refine lq_back (i + 1, all, ver, xs) (.of (wk_drop [_, _, _] rfl (by repeat constructor) rfl (by repeat constructor) rfl)) ?_ ?_
      · exact ⟨by dsimp only; omega, by dsimp only; rw [hnx, hal], by dsimp only; rw [hnx, hxs]⟩
      · dsimp only; omega
    | true =>
      rw [hm, if_pos rfl] at hnx hai2
      rw [rpsY_snoc, List.length_append] at hai2
      have hP1 : PCalls (EE w0 base) 10 [.agg (rpC r)] fun rv => rv = .tup [.str (printY r), .int .i64 0] := acalls_mono hP fun rv os h => ⟨by rw [h.1]; unfold prnY; rw [hm]; rfl, h.2⟩
      have hall2 : all.length + (printY r).length ≤ 419430400 := by rw [hal]; exact hai2
      repeat' (first|(first|(refine k_call ?_;refine al_call rfl rfl rfl rfl hP1 ?_;rintro _ rfl)|(refine k_call ?_;refine al_v (ov_len_c l.length rfl hlen) rfl ?_)|(refine al_v (ov_indexAddr rfl rfl (by omega) hrow rfl) rfl ?_)|(refine k_bin ?_;first|(refine al_v (ov_cmp_t rfl rfl rfl (by omega)) rfl ?_)|(refine al_v (ov_cmp_f rfl rfl rfl (by omega)) rfl ?_))|(refine k_call ?_;refine al_append rfl rfl (by repeat constructor) (src_os rfl rfl) rfl (by decide) (by simp only [List.length_cons, List.length_nil];omega) rfl ?_))|(refine k_al ?_;first|(refine al_v (ov_move rfl) rfl ?_)|(refine k_g ?_;first|(refine al_gy' rfl rfl (by with_reducible rfl) ?_))|(refine k_load ?_;first|(refine al_v (ov_load_agg rfl rfl rfl) rfl ?_))|(refine k_bin ?_;first|(refine al_v (ov_cat rfl rfl (by first|omega|(simp only [List.length_append, List.length_cons, List.length_nil];omega)|(simp;omega))) rfl ?_)|(refine al_v (ov_add rfl rfl (by (first|exact w64 (by omega) (by omega)|rfl))) rfl ?_))|(refine k_pick ?_;first|(refine al_v (ov_pick_t' rfl (by with_reducible rfl) rfl) rfl ?_)|(refine al_v (ov_pick_f' rfl (by with_reducible rfl) rfl) rfl ?_))|(refine al_v (ov_assign rfl) rfl ?_)|(refine k_call ?_;first|(refine al_v (ov_len_str rfl) rfl ?_))|(refine al_v (ov_extract rfl rfl) rfl ?_)|(refine al_nil ?_)|(refine al_alloc rfl rfl rfl (by first|exact ln1) (by repeat constructor) rfl ?_)|(refine al_store rfl rfl rfl rfl rfl (by repeat constructor) (by repeat constructor) ?_)|(refine al_buildSlice (by rfl) (by rfl) (by rfl) (by rfl) (by decide) (by decide) (by rfl) (by rfl) (by repeat constructor) (by rfl) (by repeat constructor) (by rfl) (by first|exact ln1) (by repeat constructor) rfl ?_)|(refine al_v (ov_not_t rfl (by with_reducible rfl)) rfl ?_))|(first|(refine thn_n ?_)|(refine k_awp ?_;first|(refine awp_seq (awp_region ?_))|(refine awp_seq ?_)|(refine awp_region ?_)|(refine k_cond ?_;first|(refine awp_cond_t' rfl (by with_reducible rfl) ?_)|(refine awp_cond_f' rfl (by with_reducible rfl) ?_))|(refine awp_block ?_)|(refine awp_ret ?_)|(refine awp_skip ?_)|(refine awp_exit ?_))|(refine lq_exit ?_)|(refine thn_exit ?_)|(refine inb_n ?_)|(refine inb_here ?_)))
      refine lq_back (i + 1, all ++ printY r, ver + 1, _) (.of (wk_drop [_] rfl (by repeat constructor) rfl (by repeat constructor) rfl)) ?_ ?_
      · exact ⟨by dsimp only; omega, by dsimp only; rw [hnx, hal, rpsY_snoc], by dsimp only; rw [hnx, hxs, List.map_append]; rfl⟩
      · dsimp only; omega
  · rw [List.take_of_length_le (by omega)] at hal hxs
    have hgood : ∀ r ∈ goodL l, mayY r = true ∧ RpFit r := fun r hr => by
      unfold goodL at hr
      rw [List.mem_filter] at hr
      exact ⟨hr.2, hf r hr.1⟩
    have hgl2 := hgl l.length
    rw [List.take_length] at hgl2
    obtain ⟨G, hG2⟩ : ∃ G, G = goodL l := ⟨_, rfl⟩
    rw [← hG2] at hal hxs hgood hgl2
    subst hxs
    have hglen : (G.map rpC).length = G.length := List.length_map _
    have hal2 : all.length ≤ 419430400 := by rw [hal, hG2]; have := hall l.length; rwa [List.take_length] at this
    repeat' (first|(first|(refine k_call ?_;refine al_v (ov_len_c l.length rfl hlen) rfl ?_)|(refine k_bin ?_;first|(refine al_v (ov_cmp_t rfl rfl rfl (by omega)) rfl ?_)|(refine al_v (ov_cmp_f rfl rfl rfl (by omega)) rfl ?_)))|(refine k_al ?_;first|(refine al_v (ov_move rfl) rfl ?_)|(refine k_g ?_;first|(refine al_gy' rfl rfl (by with_reducible rfl) ?_))|(refine k_load ?_;first|(refine al_v (ov_load_agg rfl rfl rfl) rfl ?_))|(refine k_bin ?_;first|(refine al_v (ov_cat rfl rfl (by first|omega|(simp only [List.length_append, List.length_cons, List.length_nil];omega)|(simp;omega))) rfl ?_)|(refine al_v (ov_add rfl rfl (by (first|exact w64 (by omega) (by omega)|rfl))) rfl ?_))|(refine k_pick ?_;first|(refine al_v (ov_pick_t' rfl (by with_reducible rfl) rfl) rfl ?_)|(refine al_v (ov_pick_f' rfl (by with_reducible rfl) rfl) rfl ?_))|(refine al_v (ov_assign rfl) rfl ?_)|(refine k_call ?_;first|(refine al_v (ov_len_str rfl) rfl ?_))|(refine al_v (ov_extract rfl rfl) rfl ?_)|(refine al_nil ?_)|(refine al_alloc rfl rfl rfl (by first|exact ln1) (by repeat constructor) rfl ?_)|(refine al_store rfl rfl rfl rfl rfl (by repeat constructor) (by repeat constructor) ?_)|(refine al_buildSlice (by rfl) (by rfl) (by rfl) (by rfl) (by decide) (by decide) (by rfl) (by rfl) (by repeat constructor) (by rfl) (by repeat constructor) (by rfl) (by first|exact ln1) (by repeat constructor) rfl ?_)|(refine al_v (ov_not_t rfl (by with_reducible rfl)) rfl ?_))|(first|(refine thn_n ?_)|(refine k_awp ?_;first|(refine awp_seq (awp_region ?_))|(refine awp_seq ?_)|(refine awp_region ?_)|(refine k_cond ?_;first|(refine awp_cond_t' rfl (by with_reducible rfl) ?_)|(refine awp_cond_f' rfl (by with_reducible rfl) ?_))|(refine awp_block ?_)|(refine awp_ret ?_)|(refine awp_skip ?_)|(refine awp_exit ?_))|(refine lq_exit ?_)|(refine thn_exit ?_)|(refine inb_n ?_)|(refine inb_here ?_)))
    refine awp_wkn (.freeze 4 rfl (by repeat constructor)) ?_
    refine awp_loopq (fun q : Nat × List UInt8 => ⟨[(3, .str q.2), (4, .rs (G.map rpC)), (8, .int .i64 q.1)], [.row 28 4 ver (G.map rpC).length (G.map rpC)]⟩)
      (fun q => q.1 ≤ G.length ∧ q.2 = rpsY (G.drop q.1) ∧ q.2.length ≤ 419430400) (fun q => G.length - q.1) (0, all) (.of (.same (by repeat constructor))) ⟨Nat.zero_le _, hal, hal2⟩ ?_
    rintro ⟨j, rest⟩ ⟨hj, hrest, hrl⟩
    dsimp only at hj hrest hrl ⊢
    by_cases hjl : j < G.length
    · obtain ⟨r, hr⟩ : ∃ r, G[j]? = some r := ⟨_, List.getElem?_eq_getElem hjl⟩
      have hrow : (G.map rpC)[((j : Nat) : Int).toNat]? = some [.int .i64 r.st, .rs (r.fs.map prAV), .str r.body, .bool r.cl] := by
        have : ((j : Nat) : Int).toNat = j := rfl
        rw [this, List.getElem?_map, hr]
        rfl
      obtain ⟨hm, hfit⟩ := hgood r (List.mem_of_getElem? hr)
      have hd : G.drop j = r :: G.drop (j + 1) := by
        rw [List.drop_eq_getElem_cons hjl]
        congr 1
        exact (List.getElem?_eq_some_iff.1 hr).2
      have hsp : rest = printY r ++ rpsY (G.drop (j + 1)) := by rw [hrest, hd]; unfold rpsY; rw [List.flatMap_cons]
      have hpl : (printY r).length ≤ rest.length := by rw [hsp, List.length_append]; omega
      have hpp := printY_pos r
      have hP := s_parseY (w0 := w0) (base := base) (s := rest) hG (by omega)
      have hy : prsY rest = .tup [.agg (rpC r), .int .i64 ((printY r).length : Int), .int .i64 0] := by
        unfold prsY
        rw [parseP_iff.2 ⟨hm, pre_iff.2 ⟨_, hsp⟩⟩]
      rw [hy] at hP
      have hS := s_sameY (w0 := w0) (base := base) hfit
      have hdr : rest.drop ((printY r).length : Int).toNat = rpsY (G.drop (j + 1)) := by
        have : (((printY r).length : Nat) : Int).toNat = (printY r).length := rfl
        rw [this, hsp, List.drop_left]
      repeat' (first|(first|(refine awp_held (id := 14) [] [⟨0, true, [], bl 21 0⟩, ⟨1, true, [], bl 21 1⟩, ⟨2, true, [], bl 21 3⟩, ⟨3, true, [], bl 21 7⟩, ⟨4, true, [], bl 21 15⟩, ⟨5, true, [], bl 21 31⟩, ⟨6, true, [], bl 21 63⟩, ⟨7, true, [], bl 21 895⟩, ⟨8, true, [], bl 21 255⟩, ⟨9, true, [], bl 21 511⟩, ⟨10, true, [], bl 21 1023⟩, ⟨11, true, [], bl 21 2047⟩, ⟨12, true, [], bl 21 4095⟩, ⟨13, true, [], bl 21 253951⟩, ⟨14, true, [], bl 21 49151⟩, ⟨15, true, [], bl 21 32767⟩, ⟨16, true, [], bl 21 65535⟩, ⟨17, true, [], bl 21 131071⟩, ⟨18, false, [], []⟩, ⟨19, true, [], bl 21 524287⟩, ⟨20, true, [], bl 21 1048575⟩] (by kernel_rfl) (by kernel_rfl) rfl (by kernel_rfl) ?_)|(refine k_call ?_;refine al_call rfl rfl rfl rfl hP ?_;rintro _ rfl)|(refine k_call ?_;refine al_call rfl rfl rfl rfl hS ?_;rintro _ rfl)|(refine k_call ?_;refine al_v (ov_len_c G.length rfl hglen) rfl ?_)|(refine hw_v (ov_indexAddr rfl rfl (by omega) hrow rfl) rfl ?_)|(refine k_bin ?_;first|(refine al_v (ov_cmp_t rfl rfl rfl (by omega)) rfl ?_)|(refine al_v (ov_cmp_f rfl rfl rfl (by omega)) rfl ?_))|(refine hw_v (ov_cmp_f rfl rfl rfl (by omega)) rfl ?_)|(refine al_v (ov_slice_loT rfl rfl (by omega) (by omega) hdr) rfl ?_))|(refine k_al ?_;first|(refine al_v (ov_move rfl) rfl ?_)|(refine k_g ?_;first|(refine al_gy' rfl rfl (by with_reducible rfl) ?_))|(refine k_load ?_;first|(refine al_v (ov_load_agg rfl rfl rfl) rfl ?_))|(refine k_bin ?_;first|(refine al_v (ov_cat rfl rfl (by first|omega|(simp only [List.length_append, List.length_cons, List.length_nil];omega)|(simp;omega))) rfl ?_)|(refine al_v (ov_add rfl rfl (by (first|exact w64 (by omega) (by omega)|rfl))) rfl ?_))|(refine k_pick ?_;first|(refine al_v (ov_pick_t' rfl (by with_reducible rfl) rfl) rfl ?_)|(refine al_v (ov_pick_f' rfl (by with_reducible rfl) rfl) rfl ?_))|(refine al_v (ov_assign rfl) rfl ?_)|(refine k_call ?_;first|(refine al_v (ov_len_str rfl) rfl ?_))|(refine al_v (ov_extract rfl rfl) rfl ?_)|(refine al_nil ?_)|(refine al_alloc rfl rfl rfl (by first|exact ln1) (by repeat constructor) rfl ?_)|(refine al_store rfl rfl rfl rfl rfl (by repeat constructor) (by repeat constructor) ?_)|(refine al_buildSlice (by rfl) (by rfl) (by rfl) (by rfl) (by decide) (by decide) (by rfl) (by rfl) (by repeat constructor) (by rfl) (by repeat constructor) (by rfl) (by first|exact ln1) (by repeat constructor) rfl ?_)|(refine al_v (ov_not_t rfl (by with_reducible rfl)) rfl ?_))|(first|(refine thn_n ?_)|(refine k_awp ?_;first|(refine awp_seq (awp_region ?_))|(refine awp_seq ?_)|(refine awp_region ?_)|(refine k_cond ?_;first|(refine awp_cond_t' rfl (by with_reducible rfl) ?_)|(refine awp_cond_f' rfl (by with_reducible rfl) ?_))|(refine awp_block ?_)|(refine awp_ret ?_)|(refine awp_skip ?_)|(refine awp_exit ?_))|(refine lq_exit ?_)|(refine thn_exit ?_)|(refine inb_n ?_)|(refine inb_here ?_))|(first|(refine k_hw ?_;first|(refine hw_s rfl ?_)|(refine hw_v (ov_move rfl) rfl ?_)|(refine hw_v (ov_assign rfl) rfl ?_)|(refine hw_v (ov_load_agg rfl rfl rfl) rfl ?_)|(refine hw_v (ov_pick_t' rfl (by with_reducible rfl) rfl) rfl ?_)|(refine hw_v (ov_pick_f' rfl (by with_reducible rfl) rfl) rfl ?_)|(refine hw_v (ov_len_str rfl) rfl ?_)|(refine hw_v (ov_extract rfl rfl) rfl ?_)|(refine hw_v (ov_add rfl rfl (by (first|exact w64 (by omega) (by omega)|rfl))) rfl ?_)|(refine hw_v (ov_not_t rfl (by with_reducible rfl)) rfl ?_)|(refine hw_v (ov_cat rfl rfl (by first|omega|(simp only [List.length_append, List.length_cons, List.length_nil];omega)|(simp;omega))) rfl ?_))|(refine hl_op rfl ?_)|(refine k_ho ?_;first|(refine ho_n ?_)|(refine ho_gy rfl rfl (by with_reducible rfl) ?_))|(refine hl_nil ?_)|(refine hq_back ?_)))
      refine lq_back (j + 1, rpsY (G.drop (j + 1))) (.of (wk_drop [_] rfl (by repeat constructor) rfl (by repeat constructor) rfl)) ?_ ?_
      · refine ⟨by dsimp only; omega, rfl, ?_⟩
        dsimp only
        rw [hsp, List.length_append] at hrl
        omega
      · dsimp only; omega
    · rw [List.drop_eq_nil_of_le (by omega)] at hrest
      subst hrest
      have hA := s_awake09 (w0 := w0) (base := base) hG
      repeat' (first|(first|(refine k_call ?_;refine al_v (ov_len_c G.length rfl hglen) rfl ?_)|(refine k_bin ?_;first|(refine al_v (ov_seq_t (m := []) (n := []) rfl rfl rfl) rfl ?_)|(refine al_v (ov_cmp_f rfl rfl rfl (by omega)) rfl ?_))|(refine k_call ?_;refine al_call rfl rfl rfl rfl hA ?_;rintro _ rfl))|(refine k_al ?_;first|(refine al_v (ov_move rfl) rfl ?_)|(refine k_g ?_;first|(refine al_gy' rfl rfl (by with_reducible rfl) ?_))|(refine k_load ?_;first|(refine al_v (ov_load_agg rfl rfl rfl) rfl ?_))|(refine k_bin ?_;first|(refine al_v (ov_cat rfl rfl (by first|omega|(simp only [List.length_append, List.length_cons, List.length_nil];omega)|(simp;omega))) rfl ?_)|(refine al_v (ov_add rfl rfl (by (first|exact w64 (by omega) (by omega)|rfl))) rfl ?_))|(refine k_pick ?_;first|(refine al_v (ov_pick_t' rfl (by with_reducible rfl) rfl) rfl ?_)|(refine al_v (ov_pick_f' rfl (by with_reducible rfl) rfl) rfl ?_))|(refine al_v (ov_assign rfl) rfl ?_)|(refine k_call ?_;first|(refine al_v (ov_len_str rfl) rfl ?_))|(refine al_v (ov_extract rfl rfl) rfl ?_)|(refine al_nil ?_)|(refine al_alloc rfl rfl rfl (by first|exact ln1) (by repeat constructor) rfl ?_)|(refine al_store rfl rfl rfl rfl rfl (by repeat constructor) (by repeat constructor) ?_)|(refine al_buildSlice (by rfl) (by rfl) (by rfl) (by rfl) (by decide) (by decide) (by rfl) (by rfl) (by repeat constructor) (by rfl) (by repeat constructor) (by rfl) (by first|exact ln1) (by repeat constructor) rfl ?_)|(refine al_v (ov_not_t rfl (by with_reducible rfl)) rfl ?_))|(first|(refine thn_n ?_)|(refine k_awp ?_;first|(refine awp_seq (awp_region ?_))|(refine awp_seq ?_)|(refine awp_region ?_)|(refine k_cond ?_;first|(refine awp_cond_t' rfl (by with_reducible rfl) ?_)|(refine awp_cond_f' rfl (by with_reducible rfl) ?_))|(refine awp_block ?_)|(refine awp_ret ?_)|(refine awp_skip ?_)|(refine awp_exit ?_))|(refine lq_exit ?_)|(refine thn_exit ?_)|(refine inb_n ?_)|(refine inb_here ?_)))
      refine ret1 (by first | exact .inr rfl | exact .inl rfl) rfl rfl ?_
      exact ⟨rfl, rfl⟩
end
end Go.Proofs.YtnjolbnbpfjdiaaDoor.L
