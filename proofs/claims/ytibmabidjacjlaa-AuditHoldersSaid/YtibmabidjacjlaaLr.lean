/- The logic, part 18: what is done with maps of the call's own. -/
import Derived.Test.YtibmabidjacjlaaLq
namespace Go.Proofs.Ytibmabidjacjlaa.L
open Go Go.RowKit
set_option linter.unusedVariables false
set_option linter.unusedSimpArgs false

section
variable {E : Env} {N : Nat} {ops : Array Oper} {Q : Exit → St → Prop} {sl : Slots} {H H' : List AO} {rest : List Oper} {I : Imm} {ν : Nu} {w : World}

theorem mp_inv {id : Nat} {v : Value} (h : VR w I ν (.mp id) v) : ∃ r, v = .map (some r) ∧ id < ν.n ∧ ν.val id 0 = .map (some r) := by
  cases h with
  | pure h => cases h
  | mp _ r hi hs => exact ⟨r, rfl, hi, hs⟩
theorem map_obj (hh : HR E I ν H w) {id : Nat} {es : List (AV × AV)} (hH : H[id]? = some (.map es)) {v : Value} (h : VR w I ν (.mp id) v) : ∃ b en, v = .map (some b) ∧ E.base ≤ b ∧ w.heap[b]? = some (.map (List.toArray en) en.length) ∧ MapRel w I es en ∧ OB ν id (.map es) = some b ∧ ν.val id 0 = .map (some b) := by
  obtain ⟨r, rfl, _, hs⟩ := mp_inv h
  cases hh.obj id _ hH with
  | map _ b en hv hb hhp hr =>
    rw [hs] at hv
    injection hv with hv; injection hv with hv
    subst hv
    exact ⟨r, en, rfl, hb, hhp, hr, by simp only [OB, hs], hs⟩

theorem map_set (hh : HR E I ν H w) {id b : Nat} {es es' : List (AV × AV)} {en en' : List MapEntry} (hH : H[id]? = some (.map es)) (hb : E.base ≤ b) (hv : ν.val id 0 = .map (some b)) (hhp : w.heap[b]? = some (.map en.toArray en.length)) (hr : MapRel w I es' en') :
    HR E I ν (H.set id (.map es')) { w with heap := w.heap.setIfInBounds b (.map en'.toArray en'.length) } ∧ FR E.k w I ν H { w with heap := w.heap.setIfInBounds b (.map en'.toArray en'.length) } I ν (H.set id (.map es')) := by
  have h2 := MapKept.heap_set (o' := .map en'.toArray en'.length) hhp
  have hlt : b < w.heap.size := (Array.getElem?_eq_some_iff.1 hhp).1
  have hOB : OB ν id (.map es) = some b := by simp only [OB, hv]
  have hI : ImmLe w I { w with heap := w.heap.setIfInBounds b (.map en'.toArray en'.length) } I := ImmLe.heap hh fun k hk ⟨o, ho⟩ => h2.2 k fun e => by
    subst e
    obtain ⟨u, hu⟩ := hh.imm k o ho
    simp [World.cell?, hhp] at hu
  refine hh.set hH (fun e => by cases e) (Nu.le.refl ν) rfl (fun _ _ => rfl) (hh.below.trans ⟨rfl, rfl, rfl, by simp, fun k hk => h2.2 k (by omega)⟩) (by simp) (fun k _ hk => h2.2 k (fun e => hk (by rw [hOB, e]))) hI
    (.map es' b en' hv hb h2.1 (hr.mono hI)) (fun b' h => .inl (by simpa only [OB, hv] using h))

theorem closed_nu0 {x : AV} {v : Value} (h : VR w I ν x v) (hc : clB 0 x = true) : VR w I nu0 x v := h.cut (k := 0) ⟨Nat.zero_le _, fun _ h => by omega, fun _ _ h => by omega⟩ hc

theorem al_makeMap {t : Nat} {m : Nat} {ty : TypeId} {pos : String} {after : Array Edge} {d : Nat} (hm : H.length = m) (hH : Snoc H (.map []) H') (hd : Nat.blt d N = true)
    (h : AL E N ops Q rest ⟨(d, .mp m) :: sl, H'⟩) : AL E N ops Q (⟨some d, .makeMap t none, ty, pos, after, none⟩ :: rest) ⟨sl, H⟩ := by
  subst hm
  rw [hH.eq] at h
  refine al_mem hd (fun I ν a w hh hs => ?_) h
  have := hh.push (o := .map []) (t := 0) (f := fun _ => .map (some w.heap.size)) (w' := w.alloc (.map #[] 0)) (hh.below.alloc hh.base _) (by simp) (fun k hk => Below.heap_alloc w _ k hk)
    (.map [] w.heap.size [] (by simp [Nu.add]) hh.base (heap_alloc_new w _) ⟨rfl, fun i p x h => by simp at h⟩) (fun b hb => by simp [OB, Nu.add] at hb; omega)
  refine ⟨_, _, _, fun o ho => ?_, this.1, this.2.1, ν.add_le _ _, .mp _ w.heap.size (by simp [Nu.add, hh.n]) (by simp [Nu.add, hh.n])⟩
  have hr : (Instr.makeMap t none).run E.P w = .ok (.map (some w.heap.size)) (w.alloc (.map #[] 0)) := rfl
  simp [execOp, ho, hr]

theorem al_mapUpdate {t kt et : Nat} {n b : Nat} {z : Value} {kd : KD} [tm : TI E.P t (.map kt et) n b z] [kk : KK E.P kt kd] {m x y : Operand} {id : Nat} {es es' : List (AV × AV)} {xv yv : AV} {ty : TypeId} {pos : String} {after : Array Edge}
    (hm : ev sl m = some (.mp id)) (hx : ev sl x = some xv) (hy : ev sl y = some yv) (hU : Upd id H (.map es) (.map es') H') (hxo : OKk kd xv) (hyc : clB 0 yv = true) (hk : ∀ p ∈ es, OKk kd p.1) (he : mset xv yv es = es')
    (h : AL E N ops Q rest ⟨sl, H'⟩) : AL E N ops Q (⟨none, .mapUpdate t m x y, ty, pos, after, none⟩ :: rest) ⟨sl, H⟩ := by
  subst he
  obtain ⟨hid, hset⟩ := hU.eq
  subst hset
  refine al_mem0 (fun I ν a w hh hs => ?_) h
  have hm' := ev_ok hs hm
  obtain ⟨mv, hmv⟩ : ∃ v, a.eval m = v := ⟨_, rfl⟩
  rw [hmv] at hm'
  obtain ⟨bk, en, rfl, hb, hhp, hr, hob, hval⟩ := map_obj hh hid hm'
  have hxv := kv_of hxo (ev_ok hs hx)
  have hyv := closed_nu0 (ev_ok hs hy) hyc
  have hf := find_run (P := E.P) (t := kt) hxv w hr hk
  have hg := mfind_get xv es 0
  have hck := check_run (P := E.P) (t := kt) hxv false w
  cases hfi : mfind xv es 0 with
  | none =>
    rw [hfi] at hf hg
    simp only at hf hg
    have hnew : MapRel w I (mset xv yv es) (en ++ [(⟨a.eval x, a.eval y, en.length⟩ : MapEntry)]) := by
      rw [hg.2 yv]
      refine ⟨by simp [hr.1], fun i p e h1 h2 => ?_⟩
      rcases Nat.lt_or_ge i es.length with hi | hi
      · rw [List.getElem?_append_left hi] at h1
        rw [List.getElem?_append_left (by rw [← hr.1]; exact hi)] at h2
        exact hr.2 i p e h1 h2
      · have h3 : i = es.length := by
          have := (List.getElem?_eq_some_iff.1 h1).1
          simp at this
          omega
        subst h3
        rw [List.getElem?_append_right (Nat.le_refl _), Nat.sub_self] at h1
        rw [List.getElem?_append_right (by rw [hr.1]; exact Nat.le_refl _), hr.1, Nat.sub_self] at h2
        simp at h1 h2
        subst h1; subst h2
        exact ⟨hr.1.symm, hxv.vr w I, hyv⟩
    have := map_set hh hid hb hval hhp hnew
    refine ⟨_, ν, fun o ho => ?_, this.1, this.2, Nu.le.refl ν⟩
    have hrun : (Instr.mapUpdate t (.map (some bk)) (a.eval x) (a.eval y)).run E.P w = .ok () { w with heap := w.heap.setIfInBounds bk (.map (en ++ [(⟨a.eval x, a.eval y, en.length⟩ : MapEntry)]).toArray (en ++ [(⟨a.eval x, a.eval y, en.length⟩ : MapEntry)]).length) } := by
      unfold Instr.mapUpdate
      simp only [Sem.run_bind, tm.und, Result.andThen_ok, MapKept.run_getObj_map hhp, hck, List.toList_toArray, hf]
      rw [MapKept.run_setObj_map _ hhp]
      simp
    simp [execOp, ho, hmv, hrun]
  | some i =>
    rw [hfi] at hf hg
    simp only at hf hg
    obtain ⟨p, e, p1, p2, p3, p4⟩ := hf
    obtain ⟨k, q, q1, q2, q3, q4, q5⟩ := hg
    rw [Nat.zero_add] at q1
    subst q1
    rw [p1] at q2
    injection q2 with q2
    subst q2
    have hpo := hk p (List.mem_of_getElem? p1)
    have hxe := keq_eq hxo hpo p3
    have hke : a.eval x = e.key := hxv.det (by rw [hxe]; exact kv_of hpo (hr.2 i p e p1 p2).2.1)
    have hnew : MapRel w I (mset xv yv es) (en.set i (⟨a.eval x, a.eval y, e.born⟩ : MapEntry)) := by
      rw [q5 yv]
      refine ⟨by simp [hr.1], fun j p' e' h1 h2 => ?_⟩
      by_cases hj : j = i
      · subst hj
        rw [List.getElem?_set_self (List.getElem?_eq_some_iff.1 p1).1] at h1
        rw [List.getElem?_set_self (List.getElem?_eq_some_iff.1 p2).1] at h2
        simp at h1 h2
        subst h1; subst h2
        exact ⟨(hr.2 j p e p1 p2).1, by rw [hke]; exact (hr.2 j p e p1 p2).2.1, hyv⟩
      · rw [List.getElem?_set_ne (Ne.symm hj)] at h1 h2
        exact hr.2 j p' e' h1 h2
    have := map_set hh hid hb hval hhp hnew
    refine ⟨_, ν, fun o ho => ?_, this.1, this.2, Nu.le.refl ν⟩
    have hrun : (Instr.mapUpdate t (.map (some bk)) (a.eval x) (a.eval y)).run E.P w = .ok () { w with heap := w.heap.setIfInBounds bk (.map (en.set i (⟨a.eval x, a.eval y, e.born⟩ : MapEntry)).toArray (en.set i (⟨a.eval x, a.eval y, e.born⟩ : MapEntry)).length) } := by
      have hst : (Instr.keyThatStays e.key (a.eval x)).run E.P w = .ok (a.eval x) w := by
        unfold Instr.keyThatStays
        rw [hke, (by rw [← hke]; exact hxv.bits : Instr.sameBits 10000 e.key e.key = true)]
        simp
      have hmod : en.toArray.modify i (fun q => { q with key := a.eval x, val := a.eval y }) = (en.set i (⟨a.eval x, a.eval y, e.born⟩ : MapEntry)).toArray := by
        apply Array.ext'
        simp only [Array.toList_modify, List.toList_toArray]
        rw [List.modify_eq_set]
        simp [p2]
      unfold Instr.mapUpdate
      simp only [Sem.run_bind, tm.und, Result.andThen_ok, MapKept.run_getObj_map hhp, hck, List.toList_toArray, p4]
      have hg : (((en.toArray[i]?).map (·.key)).getD (a.eval x)) = e.key := by simp [p2]
      rw [hg, hst]
      simp only [Result.andThen_ok]
      rw [MapKept.run_setObj_map _ hhp, hmod]
      simp
    simp [execOp, ho, hmv, hrun]

theorem ov_lookup {t kt et : Nat} {n b : Nat} {z : Value} {kd : KD} [tm : TI E.P t (.map kt et) n b z] [kk : KK E.P kt kd] {m x : Operand} {id : Nat} {es : List (AV × AV)} {xv yv : AV}
    (hm : ev sl m = some (.mp id)) (hx : ev sl x = some xv) (hH : H[id]? = some (.map es)) (hxo : OKk kd xv) (hk : ∀ p ∈ es, OKk kd p.1) (hg : mget xv es = some yv) : OV E sl H (.lookup t m x true) (.tup [yv, .bool true]) ∧ OV E sl H (.lookup t m x false) yv := by
  have key : ∀ c : Bool, ∀ I ν a w, HR E I ν H w → SlR w I ν sl a → ∃ v, VR w I nu0 yv v ∧ ∀ (o : Oper) w', o.op = .lookup t m x c → Still ν H I w w' → (execOp a.eval o).run E.P w' = .ok (.value (if c then .tuple #[v, .bool true] else v)) w' := by
    intro c I ν a w hh hs
    have hm' := ev_ok hs hm
    obtain ⟨mv, hmv⟩ : ∃ v, a.eval m = v := ⟨_, rfl⟩
    rw [hmv] at hm'
    obtain ⟨bk, en, rfl, hb, hhp, hr, hob, hval⟩ := map_obj hh hH hm'
    have hxv := kv_of hxo (ev_ok hs hx)
    have hg' := mfind_get xv es 0
    cases hfi : mfind xv es 0 with
    | none =>
      rw [hfi] at hg'
      simp only at hg'
      rw [hg'.1] at hg
      cases hg
    | some i =>
      have hf := find_run (P := E.P) (t := kt) hxv w hr hk
      rw [hfi] at hg' hf
      simp only at hg' hf
      obtain ⟨p, e, p1, p2, p3, _⟩ := hf
      obtain ⟨k, q, q1, q2, q3, q4, q5⟩ := hg'
      rw [Nat.zero_add] at q1
      subst q1
      rw [p1] at q2
      injection q2 with q2
      subst q2
      rw [hg] at q4
      injection q4 with q4
      subst q4
      refine ⟨e.val, (hr.2 i p e p1 p2).2.2, fun o w' ho hbel => ?_⟩
      have hhp' : w'.heap[bk]? = some (.map en.toArray en.length) := (hbel.obj id _ bk hH hob).trans hhp
      have hf' := find_run (P := E.P) (t := kt) hxv w' hr hk
      rw [hfi] at hf'
      simp only at hf'
      obtain ⟨p', e', r1, r2, _, r4⟩ := hf'
      rw [p2] at r2
      injection r2 with r2
      subst r2
      have hrun : (Instr.lookup t (.map (some bk)) (a.eval x) c).run E.P w' = .ok (if c then .tuple #[e.val, .bool true] else e.val) w' := by
        unfold Instr.lookup
        simp only [Sem.run_bind, tm.und, Result.andThen_ok, MapKept.run_getObj_map hhp', Sem.run_pure, check_run (P := E.P) (t := kt) hxv _ w', List.toList_toArray, r4]
      simp [execOp, ho, hmv, hrun]
  refine ⟨fun I ν a w hh hs => ?_, fun I ν a w hh hs => ?_⟩
  · obtain ⟨v, hv, hr⟩ := key true I ν a w hh hs
    refine ⟨_, .tup [yv, .bool true] [v, .bool true] rfl (fun j x u h1 h2 => ?_), fun o w' ho hb => by simpa using hr o w' ho hb⟩
    match j, h1, h2 with
    | 0, h1, h2 => simp at h1 h2; subst h1; subst h2; exact hv.mono (ImmLe.refl _ _) (nu0_le ν)
    | 1, h1, h2 => simp at h1 h2; subst h1; subst h2; exact .pure (.bool _)
  · obtain ⟨v, hv, hr⟩ := key false I ν a w hh hs
    exact ⟨v, hv.mono (ImmLe.refl _ _) (nu0_le ν), fun o w' ho hb => by simpa using hr o w' ho hb⟩

theorem ov_lookup_no {t kt et : Nat} {n b n' b' : Nat} {z z' : Value} {dd : Bool} {kd : KD} [tm : TI E.P t (.map kt et) n b z] [kk : KK E.P kt kd] [te : TZ E.P et dd n' b' z'] {m x : Operand} {id : Nat} {es : List (AV × AV)} {xv zv : AV}
    (hm : ev sl m = some (.mp id)) (hx : ev sl x = some xv) (hH : H[id]? = some (.map es)) (hxo : OKk kd xv) (hk : ∀ p ∈ es, OKk kd p.1) (hg : mget xv es = none) (hz : constAV z' = some zv) : OV E sl H (.lookup t m x true) (.tup [zv, .bool false]) ∧ OV E sl H (.lookup t m x false) zv := by
  have key : ∀ c : Bool, ∀ I ν a w, HR E I ν H w → SlR w I ν sl a → ∀ (o : Oper) w', o.op = .lookup t m x c → Still ν H I w w' → (execOp a.eval o).run E.P w' = .ok (.value (if c then .tuple #[z', .bool false] else z')) w' := by
    intro c I ν a w hh hs
    have hm' := ev_ok hs hm
    obtain ⟨mv, hmv⟩ : ∃ v, a.eval m = v := ⟨_, rfl⟩
    rw [hmv] at hm'
    obtain ⟨bk, en, rfl, hb, hhp, hr, hob, hval⟩ := map_obj hh hH hm'
    have hxv := kv_of hxo (ev_ok hs hx)
    have hg' := mfind_get xv es 0
    cases hfi : mfind xv es 0 with
    | some i =>
      rw [hfi] at hg'
      simp only at hg'
      obtain ⟨k, q, q1, q2, q3, q4, q5⟩ := hg'
      rw [hg] at q4
      cases q4
    | none =>
      intro o w' ho hbel
      have hhp' : w'.heap[bk]? = some (.map en.toArray en.length) := (hbel.obj id _ bk hH hob).trans hhp
      have hf' := find_run (P := E.P) (t := kt) hxv w' hr hk
      rw [hfi] at hf'
      simp only at hf'
      have hrun : (Instr.lookup t (.map (some bk)) (a.eval x) c).run E.P w' = .ok (if c then .tuple #[z', .bool false] else z') w' := by
        unfold Instr.lookup
        simp only [Sem.run_bind, tm.und, Result.andThen_ok, MapKept.run_getObj_map hhp', Sem.run_pure, check_run (P := E.P) (t := kt) hxv _ w', List.toList_toArray, hf', te.zero]
      simp [execOp, ho, hmv, hrun]
  refine ⟨fun I ν a w hh hs => ?_, fun I ν a w hh hs => ?_⟩
  · refine ⟨_, .tup [zv, .bool false] [z', .bool false] rfl (fun j x u h1 h2 => ?_), fun o w' ho hb => by simpa using key true I ν a w hh hs o w' ho hb⟩
    match j, h1, h2 with
    | 0, h1, h2 => simp at h1 h2; subst h1; subst h2; exact constAV_ok hz
    | 1, h1, h2 => simp at h1 h2; subst h1; subst h2; exact .pure (.bool _)
  · exact ⟨_, constAV_ok hz, fun o w' ho hb => by simpa using key false I ν a w hh hs o w' ho hb⟩

theorem ov_look_yes {t kt et : Nat} {n b : Nat} {z : Value} {kd : KD} [tm : TI E.P t (.map kt et) n b z] [kk : KK E.P kt kd] {m x : Operand} {id : Nat} {es : List (AV × AV)} {xv yv : AV}
    (hm : ev sl m = some (.mp id)) (hx : ev sl x = some xv) (hH : H[id]? = some (.map es)) (hxo : OKk kd xv) (hk : ∀ p ∈ es, OKk kd p.1) (hg : mget xv es = some yv) : OV E sl H (.lookup t m x true) (.tup [yv, .bool true]) := (ov_lookup hm hx hH hxo hk hg).1
theorem ov_look1_yes {t kt et : Nat} {n b : Nat} {z : Value} {kd : KD} [tm : TI E.P t (.map kt et) n b z] [kk : KK E.P kt kd] {m x : Operand} {id : Nat} {es : List (AV × AV)} {xv yv : AV}
    (hm : ev sl m = some (.mp id)) (hx : ev sl x = some xv) (hH : H[id]? = some (.map es)) (hxo : OKk kd xv) (hk : ∀ p ∈ es, OKk kd p.1) (hg : mget xv es = some yv) : OV E sl H (.lookup t m x false) yv := (ov_lookup hm hx hH hxo hk hg).2
theorem ov_look_no {t kt et : Nat} {n b n' b' : Nat} {z z' : Value} {dd : Bool} {kd : KD} [tm : TI E.P t (.map kt et) n b z] [kk : KK E.P kt kd] [te : TZ E.P et dd n' b' z'] {m x : Operand} {id : Nat} {es : List (AV × AV)} {xv zv : AV}
    (hm : ev sl m = some (.mp id)) (hx : ev sl x = some xv) (hH : H[id]? = some (.map es)) (hxo : OKk kd xv) (hk : ∀ p ∈ es, OKk kd p.1) (hg : mget xv es = none) (hz : constAV z' = some zv) : OV E sl H (.lookup t m x true) (.tup [zv, .bool false]) := (ov_lookup_no hm hx hH hxo hk hg hz).1
theorem ov_look1_no {t kt et : Nat} {n b n' b' : Nat} {z z' : Value} {dd : Bool} {kd : KD} [tm : TI E.P t (.map kt et) n b z] [kk : KK E.P kt kd] [te : TZ E.P et dd n' b' z'] {m x : Operand} {id : Nat} {es : List (AV × AV)} {xv zv : AV}
    (hm : ev sl m = some (.mp id)) (hx : ev sl x = some xv) (hH : H[id]? = some (.map es)) (hxo : OKk kd xv) (hk : ∀ p ∈ es, OKk kd p.1) (hg : mget xv es = none) (hz : constAV z' = some zv) : OV E sl H (.lookup t m x false) zv := (ov_lookup_no hm hx hH hxo hk hg hz).2
theorem ov_len_map {t kt et : Nat} {n b : Nat} {z : Value} [tm : TI E.P t (.map kt et) n b z] {x : Operand} {id : Nat} {es : List (AV × AV)} (hx : ev sl x = some (.mp id)) (hH : H[id]? = some (.map es)) :
    OV E sl H (.call { callee := .builtin .len, args := #[x], argTypes := #[t] }) (.int .i64 (es.length : Int)) := by
  intro I ν a w hh hs
  have hm' := ev_ok hs hx
  obtain ⟨mv, hmv⟩ : ∃ v, a.eval x = v := ⟨_, rfl⟩
  rw [hmv] at hm'
  obtain ⟨bk, en, rfl, hb, hhp, hr, hob, hval⟩ := map_obj hh hH hm'
  refine ⟨_, .pure (.int .i64 _), fun o w' ho hbel => ?_⟩
  have hhp' : w'.heap[bk]? = some (.map en.toArray en.length) := (hbel.obj id _ bk hH hob).trans hhp
  simp [execOp, ho, hmv, resolve, invoke, builtin, Builtin.len_, tm.und, goInt, MapKept.run_getObj_map hhp', hr.1]

/-! ### a range over a map -/
theorem al_range {t kt et : Nat} {n b : Nat} {z : Value} [tm : TI E.P t (.map kt et) n b z] {x : Operand} {id m : Nat} {es : List (AV × AV)} {ty : TypeId} {pos : String} {after : Array Edge} {d : Nat} (hx : ev sl x = some (.mp id)) (hH : H[id]? = some (.map es)) (hm : H.length = m) (hS : Snoc H (.iter id es.length []) H') (hd : Nat.blt d N = true)
    (h : AL E N ops Q rest ⟨(d, .op m 0) :: sl, H'⟩) : AL E N ops Q (⟨some d, .range t x, ty, pos, after, none⟩ :: rest) ⟨sl, H⟩ := by
  subst hm
  rw [hS.eq] at h
  refine al_mem hd (fun I ν a w hh hs => ?_) h
  have hm' := ev_ok hs hx
  obtain ⟨mv, hmv⟩ : ∃ v, a.eval x = v := ⟨_, rfl⟩
  rw [hmv] at hm'
  obtain ⟨bk, en, rfl, hb, hhp, hr, hob, hval⟩ := map_obj hh hH hm'
  have hid := hh.idlt hH
  have := hh.push (o := .iter id es.length []) (t := 0) (f := fun _ => .pointer (some ⟨w.heap.size, 0, none⟩)) (w' := w.alloc (.mapIter (some bk) en.length #[] en.length)) (hh.below.alloc hh.base _) (by simp) (fun k hk => Below.heap_alloc w _ k hk)
    (.iter id es.length [] w.heap.size bk (by simp [Nu.add]) hh.base (by simp only [Nu.add]; omega) (by simp only [Nu.add]; rw [if_neg (by omega)]; exact hval) (by rw [hr.1]; exact heap_alloc_new w _) hid) (fun b hb => by simp [OB, Nu.add] at hb; omega)
  refine ⟨_, _, _, fun o ho => ?_, this.1, this.2.1, ν.add_le _ _, .op _ 0 w.heap.size (by simp [Nu.add, hh.n]) (by simp [Nu.add, hh.n])⟩
  have hrun := run_range_map (P := E.P) w t kt et bk en.toArray en.length tm.u hhp
  simp [execOp, ho, hmv, hrun]

/-- How many are left. -/
def leftN (n : Nat) (seen : List Nat) : Nat := ((List.range n).filter fun i => !seen.contains i).length
theorem leftN_lt {n i : Nat} {seen : List Nat} (hi : i < n) (hs : seen.contains i = false) : leftN n (seen ++ [i]) < leftN n seen := by
  unfold leftN
  have h1 : (List.range n).filter (fun j => !(seen ++ [i]).contains j) = ((List.range n).filter fun j => !seen.contains j).filter fun j => !(j == i) := by
    rw [List.filter_filter]
    congr 1
    funext j
    simp only [List.contains_append, Bool.not_or]
    rw [Bool.and_comm]
    congr 2
    rw [Bool.eq_iff_iff]
    simp
  rw [h1]
  have hm : i ∈ (List.range n).filter fun j => !seen.contains j := by simp [hi]; simpa using hs
  exact List.length_filter_lt_length_iff_exists.2 ⟨i, hm, by simp⟩

theorem iter_obj (hh : HR E I ν H w) {iid mid n : Nat} {seen : List Nat} {es : List (AV × AV)} (hI : H[iid]? = some (.iter mid n seen)) (hH : H[mid]? = some (.map es)) (hn : n = es.length) {v : Value} (h : VR w I ν (.op iid 0) v) :
    ∃ r b en, v = .pointer (some ⟨r, 0, none⟩) ∧ E.base ≤ r ∧ r ≠ b ∧ ν.val iid 0 = .pointer (some ⟨r, 0, none⟩) ∧ ν.val mid 0 = .map (some b) ∧ mid < ν.n ∧ mid < iid ∧ w.heap[r]? = some (.mapIter (some b) (List.length en) seen.toArray en.length) ∧ w.heap[b]? = some (.map en.toArray en.length) ∧ MapRel w I es en := by
  cases h with
  | pure h => cases h
  | op _ _ r hi hs =>
    cases hh.obj iid _ hI with
    | iter _ _ _ r' b hv hb hm hmv hhp hlt =>
      rw [hs] at hv
      injection hv with hv; injection hv with hv; injection hv with hv
      subst hv
      cases hh.obj mid _ hH with
      | map _ b' en hv' hb' hhp' hr =>
        rw [hmv] at hv'
        injection hv' with hv'; injection hv' with hv'
        subst hv'
        rw [hn, hr.1] at hhp
        exact ⟨r, b, en, rfl, hb, (fun e => by rw [e, hhp'] at hhp; cases hhp), hs, hmv, hm, hlt, hhp, hhp', hr⟩

theorem al_next {it : Operand} {iid mid n : Nat} {seen : List Nat} {es : List (AV × AV)} {H' : Nat → List AO} {ty : TypeId} {pos : String} {after : Array Edge} {d : Nat} (hit : ev sl it = some (.op iid 0)) (hI : H[iid]? = some (.iter mid n seen)) (hH : H[mid]? = some (.map es)) (hn : n = es.length)
    (hU : ∀ i, Upd iid H (.iter mid n seen) (.iter mid n (seen ++ [i])) (H' i)) (hd : Nat.blt d N = true)
    (h0 : (∀ i, i < es.length → seen.contains i = true) → AL E N ops Q rest ⟨(d, .tup [.bool false]) :: sl, H⟩)
    (h1 : ∀ i p, es[i]? = some p → seen.contains i = false → AL E N ops Q rest ⟨(d, .tup [.bool true, p.1, p.2]) :: sl, H' i⟩) :
    AL E N ops Q (⟨some d, .next it false, ty, pos, after, none⟩ :: rest) ⟨sl, H⟩ := by
  intro I ν a w hs w0 I0 ν0 o0 hf0
  have hh := hs.hr
  have hit' := ev_ok hs.sl hit
  obtain ⟨iv, hiv⟩ : ∃ v, a.eval it = v := ⟨_, rfl⟩
  rw [hiv] at hit'
  obtain ⟨r, b, en, rfl, hb, hne, hval, hmv, hmn, hlt, hhr, hhb, hr⟩ := iter_obj hh hI hH hn hit'
  refine wpList_plain rfl fun K hK => ?_
  unfold Oper.wp
  have hborn : ∀ (i : Nat) e, en[i]? = some e → e.born = i := fun i e he => by
    have hi : i < es.length := by rw [hr.1]; exact (List.getElem?_eq_some_iff.1 he).1
    exact (hr.2 i _ e (List.getElem?_eq_getElem hi) he).1
  rcases run_next_at (P := E.P) w ty r b en.length en.length seen.toArray en.toArray en.length hhr hhb (fun x hx => by
    obtain ⟨i, hi⟩ := List.mem_iff_getElem?.1 hx
    rw [hborn i x hi]
    exact (List.getElem?_eq_some_iff.1 hi).1) (Nat.le_refl _) with ⟨hz, hrun⟩ | ⟨e, he, w1, hw1, hrun⟩
  · have hall : ∀ i, i < es.length → seen.contains i = true := fun i hi => by
      have hi' : i < en.length := by rw [← hr.1]; exact hi
      have := all_seen en.toArray seen.toArray hz en[i] (by simp)
      rw [hborn i _ (List.getElem?_eq_getElem hi')] at this
      simpa using this
    have hx : (execOp a.eval ⟨some d, .next it false, ty, pos, after, none⟩).run E.P w = .ok (.value (.tuple #[.bool false])) w := by simp [execOp, hiv, hrun]
    rw [hx]
    exact hK _ _ (h0 hall I ν _ w ⟨hh, hs.sl.put d (.tup [.bool false] [.bool false] rfl (fun j x v h1 h2 => by
      cases j with
      | zero => simp at h1 h2; subst h1; subst h2; exact .pure (.bool _)
      | succ j => simp at h1)) (by rw [hs.nt]; simpa [Nat.blt_eq] using hd), hs.df, by simp [Act.put, hs.nt]⟩ w0 I0 ν0 o0 hf0)
  · obtain ⟨hem, hes⟩ := mem_left he
    obtain ⟨i, hi⟩ := List.mem_iff_getElem?.1 hem
    have hi : en[i]? = some e := by simpa using hi
    have hie := hborn i e hi
    have hilt : i < es.length := by rw [hr.1]; exact (List.getElem?_eq_some_iff.1 hi).1
    obtain ⟨p, hp⟩ : ∃ p, es[i]? = some p := ⟨_, List.getElem?_eq_getElem hilt⟩
    obtain ⟨_, hk, hv⟩ := hr.2 i p e hp hi
    obtain ⟨hid, hset⟩ := (hU i).eq
    have hwh : w1.heap = w.heap := by rcases hw1 with rfl | rfl <;> rfl
    have hb1 : Below w.heap.size w w1 := by
      rcases hw1 with rfl | rfl
      · exact Below.refl _ _
      · exact (Below.refl _ _).drew
    obtain ⟨w2, hw2⟩ : ∃ w2, w2 = ChangeMaps.setBlock w1 r (.mapIter (some b) en.length (seen.toArray.push e.born) en.length) := ⟨_, rfl⟩
    rw [← hw2] at hrun
    have hset2 := MapKept.heap_set (o' := .mapIter (some b) en.length (seen.toArray.push e.born) en.length) hhr
    have hh2 : w2.heap[r]? = some (.mapIter (some b) en.length (seen ++ [i]).toArray en.length) := by
      rw [hw2]
      show (w1.heap.setIfInBounds r _)[r]? = _
      rw [hwh, hset2.1, hie]
      simp
    have hfar : ∀ k, k ≠ r → w2.heap[k]? = w.heap[k]? := fun k hk => by
      rw [hw2]
      show (w1.heap.setIfInBounds r _)[k]? = _
      rw [hwh]
      exact hset2.2 k hk
    have hsz : w2.heap.size = w.heap.size := by
      rw [hw2]
      show (w1.heap.setIfInBounds r _).size = _
      rw [hwh]
      simp
    have hOB : OB ν iid (.iter mid n seen) = some r := by simp only [OB, hval]
    have hbel : Below E.base E.w0 w2 := by
      refine (hh.below.trans (hb1.mono hh.base)).trans ?_
      rw [hw2]
      exact ⟨rfl, rfl, rfl, by simp [ChangeMaps.setBlock], fun k hk => by
        show (w1.heap.setIfInBounds r _)[k]? = _
        simp [show r ≠ k by omega]⟩
    have hIm : ImmLe w I w2 I := ImmLe.heap hh fun k hk ⟨o, ho⟩ => hfar k fun e => by
      subst e
      obtain ⟨u, hu⟩ := hh.imm k o ho
      simp [World.cell?, hhr] at hu
    have hnew := hh.set (o' := .iter mid n (seen ++ [i])) (w' := w2) hI (fun e => by cases e) (Nu.le.refl ν) rfl (fun _ _ => rfl) hbel (by omega) (fun k _ hk => hfar k (fun e => hk (by rw [hOB, e]))) hIm
      (.iter mid n (seen ++ [i]) r b hval hb hmn hmv (by rw [hn, hr.1]; exact hh2) hlt) (fun b' h => .inl (by simpa only [OB, hval] using h))
    rw [← hset] at hnew
    have hx : (execOp a.eval ⟨some d, .next it false, ty, pos, after, none⟩).run E.P w = .ok (.value (.tuple #[.bool true, e.key, e.val])) w2 := by simp [execOp, hiv, hrun]
    rw [hx]
    refine hK _ _ (h1 i p hp (by rw [hie] at hes; simpa using hes) I ν _ w2 ⟨hnew.1, (hs.sl.mono hnew.2.imm (Nu.le.refl ν)).put d (.tup [.bool true, p.1, p.2] [.bool true, e.key, e.val] rfl (fun j x v h1 h2 => ?_)) (by rw [hs.nt]; simpa [Nat.blt_eq] using hd), hs.df, by simp [Act.put, hs.nt]⟩ w0 I0 ν0 o0 (hf0.trans hnew.2))
    match j, h1, h2 with
    | 0, h1, h2 => simp at h1 h2; subst h1; subst h2; exact .pure (.bool _)
    | 1, h1, h2 => simp at h1 h2; subst h1; subst h2; exact hk.mono hIm (nu0_le ν)
    | 2, h1, h2 => simp at h1 h2; subst h1; subst h2; exact hv.mono hIm (nu0_le ν)
    | j + 3, h1, h2 => simp at h1

theorem ov_entry {it : Operand} {iid mid n i : Nat} {seen : List Nat} {es : List (AV × AV)} {p : AV × AV} (hit : ev sl it = some (.op iid 0)) (hI : H[iid]? = some (.iter mid n (seen ++ [i]))) (hH : H[mid]? = some (.map es)) (hn : n = es.length) (hp : es[i]? = some p) :
    OV E sl H (.entry it) (.tup [p.1, p.2]) := by
  intro I ν a w hh hs
  have hit' := ev_ok hs hit
  obtain ⟨iv, hiv⟩ : ∃ v, a.eval it = v := ⟨_, rfl⟩
  rw [hiv] at hit'
  obtain ⟨r, b, en, rfl, hb, hne, hval, hmv, hmn, hlt, hhr, hhb, hr⟩ := iter_obj hh hI hH hn hit'
  have hborn : ∀ (i : Nat) e, en[i]? = some e → e.born = i := fun i e he => by
    have hi : i < es.length := by rw [hr.1]; exact (List.getElem?_eq_some_iff.1 he).1
    exact (hr.2 i _ e (List.getElem?_eq_getElem hi) he).1
  have hi : i < en.length := by rw [← hr.1]; exact (List.getElem?_eq_some_iff.1 hp).1
  have he : en[i]? = some en[i] := List.getElem?_eq_getElem hi
  obtain ⟨h1, h2, h3⟩ := hr.2 i p _ hp he
  refine ⟨_, .tup [p.1, p.2] [en[i].key, en[i].val] rfl (fun j x v k1 k2 => ?_), fun o w' ho hbel => ?_⟩
  · match j, k1, k2 with
    | 0, k1, k2 => simp at k1 k2; subst k1; subst k2; exact h2.mono (ImmLe.refl _ _) (nu0_le ν)
    | 1, k1, k2 => simp at k1 k2; subst k1; subst k2; exact h3.mono (ImmLe.refl _ _) (nu0_le ν)
  · have hr' := (hbel.obj iid _ r hI (by simp only [OB, hval])).trans hhr
    have hb' := (hbel.obj mid _ b hH (by simp only [OB, hmv])).trans hhb
    have hrun := run_entry_at (P := E.P) w' r b en.length seen.toArray en.toArray en.length en[i] (by rw [hr', h1]; simp) hb' (by simp) (by
      have : en.map (·.born) = List.range en.length := by
        apply List.ext_getElem?
        intro x
        rw [List.getElem?_map]
        rcases Nat.lt_or_ge x en.length with hx | hx
        · rw [List.getElem?_eq_getElem hx, List.getElem?_range hx]
          simp only [Option.map_some]
          rw [hborn x _ (List.getElem?_eq_getElem hx)]
        · rw [List.getElem?_eq_none hx, List.getElem?_eq_none (by simpa using hx)]
          rfl
      show (en.map (·.born)).Nodup
      rw [this]
      exact List.nodup_range)
    simp [execOp, ho, hiv, hrun]
end
end Go.Proofs.Ytibmabidjacjlaa.L
