/- Contracts of the program's functions, each for all arguments that its hypotheses allow: proved over the loaded program by the by-value machine of the Lvm texts. -/
import Derived.Test.YtmfdechkhdjebaaA11
set_option linter.unusedVariables false
set_option linter.unusedSimpArgs false
namespace Go.Proofs.Ytm
open Go.Lvm Go.Proofs
attribute [local simp] put_env put_var put_cv put_cs famS_env famS_var famS_cv famS_cs dE dC dV dU lkC runK runF ev_move ev_assign ev_pick ev_bin ev_un ev_conv ev_load ev_field ev_index ev_alloc ev_box ev_extract ev_len ev_append ev_build ev_buildS ev_store ev_makeS ev_slice Ev.dst Ev.src leAt moveF assignF viewL viewP mk_put mk_born mk_rv mk_rs mk_touch mk_touch2 touE2 L.touch2 mk_env mk_var mk_cv mk_cs delE delB delV setE touE lk lkv kill_dead kill_v kill_sptr kill_tup kill_ref kill_win kill_ptr L.base L.touch L.setCells L.cells Value.oneCell' isSt_v isSt_s isSt_d scal opv binS binF unS pickF st0_mk st0E st0V gokF gval gvV gtup skipF int_beq int_bne eqI_self mk_keep selE selV finF retF St.take ownL ownC Posts Post St.grab nz getC setC loadL fieldL lastOff ownR snap sttL stt sttR roOK snapRt resL isV sliceC lenS indexL intOf ros grd thenQ blockQ loopQ upd kill_ite touch_ite cells_ite lkv_ite lk_ite fam famE famF bef Region.binds rows_len rows_nil rows_get rows_get? stt_ints stt_intss stt_wrs stt_mems stt_cmds stt_jobs stt_anss stt_turns ownR_rep ownR_app allSt_ints allSt_intss allSt_wrs allSt_mems allSt_cmds allSt_jobs allSt_anss allSt_turns own_ints own_intss own_wrs own_mems own_cmds own_jobs own_anss own_turns intC intsC wrC memC geoC superC arrC cmdC jobC ansC turnC engC St.parts partsOf rowsOf lput chunk appF appOK St.elems gone goneIn convS bndF sliceL

set_option maxHeartbeats 4000000 in
theorem l_markIntS_spec (a : List Int) (k : Int) (ha : a.length * 8 ≤ 140737488351232) : Lvm.Spec Try.prog [] 51 [.le false [.s true 1 (rows intC (a))] [.s true 1 (rows intC ((markInts a k).1))], .ro false [.v (.int .i64 (k))]] [(false, [.v (.int .i64 ((markInts a k).2))])] := by
  refine Spec.of (TT := TT) Try.func51 (by kernel_rfl) rfl (of_decide_eq_true rfl) fun X hn hok hio hfa => ?_
  have hE : Ev.ok ⟨19, 2, _⟩ X := ⟨hn, hok, hio⟩
  clear hn hok hio hfa
  refine AW.sq ?_
  refine AW.regt (st' := ?_) tab hE [0, 1] [] ?_ ?_
  rotate_left
  · simp -implicitDefEqProofs [-List.all_eq_true, tt3, -List.length_append, wrap_w]
    rfl
  refine AW.sq ?_
  refine AW.sq ?_
  refine AW.regt (st' := ?_) tab hE [0, 1, 5] [] ?_ ?_
  rotate_left
  · simp -implicitDefEqProofs [-List.all_eq_true, tt3, -List.length_append, wrap_w]
    rfl
  refine AW.bk ?_
  refine AW.lp (fun qn st => ∃ (i : Nat) (p : List Int) (k' : Int), qn = a.length - i ∧ (i ≤ a.length) ∧ (p.length = i) ∧ ((markInts a k).1 = p ++ (markInts (a.drop i) k').1) ∧ ((markInts a k).2 = (markInts (a.drop i) k').2) ∧  st = mk [(0, .val false [.s true 1 (rows intC (p ++ a.drop i))]), (1, .val false [.v (.int .i64 k')]), (5, .val false [.v (.int .i64 ((i : Nat) : Int))])] []) (a.length) ⟨0, [], k, by simp, by simp, rfl, by simp, by simp, by simp⟩ ?_
  rintro qn st ⟨i, p, k', rfl, hi, hp, hk1, hk2, rfl⟩
  have hln := mid_len hp hi
  refine AW.sq ?_
  refine AW.sq ?_
  refine AW.regt (st' := ?_) tab hE [0, 1, 5, 9] [] ?_ ?_
  rotate_left
  · simp -implicitDefEqProofs [-List.all_eq_true, tt3, tt4, tt55, -List.length_append, wrap_w, hln]
    rfl
  refine AW.iteV (v := ?_) (t := ?_) ?_ ?_ (fun h0 => ?_) (fun h0 => ?_)
  rotate_left 2
  · simp -implicitDefEqProofs [-List.all_eq_true]
    rfl
  · rfl
  · skip
    replace h0 := BP.pos h0
    have h0' := h0
    try simp at h0'
    have hx := mid_get? hp h0'
    have hxx := fun h => mid_get hp h0' h
    refine AW.skip ?_
    refine AW.sq ?_
    refine AW.bk ?_
    refine AW.sq ?_
    refine AW.regt (st' := ?_) tab hE [0, 1, 5] [] ?_ ?_
    rotate_left
    · simp -implicitDefEqProofs [-List.all_eq_true, tt3, tt55, -List.length_append, wrap_w, h0, h0', hln, hx, hxx]
      rfl
    refine AW.regt (st' := ?_) tab hE [0, 1, 5] [] ?_ ?_
    rotate_left
    · simp -implicitDefEqProofs [-List.all_eq_true, tt3, -List.length_append, wrap_w, h0, h0', hln, hx, hxx]
      rfl
    refine AW.regt (st' := ?_) tab hE [0, 1, 5] [] ?_ ?_
    rotate_left
    · simp -implicitDefEqProofs [-List.all_eq_true, tt3, -List.length_append, wrap_w, h0, h0']
      rfl
    exact ⟨_, by omega, i + 1, p ++ [(mark1 a[i] k').1], (mark1 a[i] k').2, rfl, by omega, by simp [hp], by rw [hk1, List.drop_eq_getElem_cons h0', markInts, markL_cons]; simp [markInts], by rw [hk2, List.drop_eq_getElem_cons h0', markInts, markL_cons]; rfl, by rw [w64_succ i _ h0' (by omega), ← rows_mid hp h0']; simp [intC, mark1, wrap_w]⟩
  replace h0 := BP.neg h0
  have h0' := h0
  try simp at h0'
  refine AW.exit ?_
  simp only [loopQ, blockQ, thenQ, if_true, reduceIte, Nat.reduceEqDiff]
  refine AW.sq ?_
  refine AW.regt (st' := ?_) tab hE [0, 4] [] ?_ ?_
  rotate_left
  · simp -implicitDefEqProofs [-List.all_eq_true, tt3, -List.length_append, wrap_w, h0, h0']
    rfl
  refine AW.ret (finF_ok tab hE ?_)
  have h' : a.drop i = [] := List.drop_of_length_le (by omega)
  rw [h'] at hk1 hk2
  simp [h', hk1, hk2, markInts_nil]
set_option maxHeartbeats 4000000 in
theorem l_markIntSS_spec (a : List (List Int)) (k : Int) (hn : a.length * 24 ≤ 140737488351232) (ha : ∀ s ∈ a, s.length * 8 ≤ 140737488351232) : Lvm.Spec Try.prog [] 68 [.le false [.s true 1 (rows (intsC true) (a))] [.s true 1 (rows (intsC true) ((markIntss a k).1))], .ro false [.v (.int .i64 (k))]] [(false, [.v (.int .i64 ((markIntss a k).2))])] := by
  refine Spec.of (TT := TT) Try.func68 (by kernel_rfl) rfl (of_decide_eq_true rfl) fun X hn hok hio hfa => ?_
  have hE : Ev.ok ⟨19, 2, _⟩ X := ⟨hn, hok, hio⟩
  clear hn hok hio hfa
  refine AW.sq ?_
  refine AW.regt (st' := ?_) tab hE [0, 1] [] ?_ ?_
  rotate_left
  · simp -implicitDefEqProofs [-List.all_eq_true, tt3, -List.length_append, wrap_w]
    rfl
  refine AW.sq ?_
  refine AW.sq ?_
  refine AW.regt (st' := ?_) tab hE [0, 1, 5] [] ?_ ?_
  rotate_left
  · simp -implicitDefEqProofs [-List.all_eq_true, tt3, -List.length_append, wrap_w]
    rfl
  refine AW.bk ?_
  refine AW.lp (fun qn st => ∃ (i : Nat) (p : List (List Int)) (k' : Int), qn = a.length - i ∧ (i ≤ a.length) ∧ (p.length = i) ∧ ((markIntss a k).1 = p ++ (markIntss (a.drop i) k').1) ∧ ((markIntss a k).2 = (markIntss (a.drop i) k').2) ∧  st = mk [(0, .val false [.s true 1 (rows (intsC true) (p ++ a.drop i))]), (1, .val false [.v (.int .i64 k')]), (5, .val false [.v (.int .i64 ((i : Nat) : Int))])] []) (a.length) ⟨0, [], k, by simp, by simp, rfl, by simp, by simp, by simp⟩ ?_
  rintro qn st ⟨i, p, k', rfl, hi, hp, hk1, hk2, rfl⟩
  have hln := mid_len hp hi
  refine AW.sq ?_
  refine AW.sq ?_
  refine AW.regt (st' := ?_) tab hE [0, 1, 5, 9] [] ?_ ?_
  rotate_left
  · simp -implicitDefEqProofs [-List.all_eq_true, tt3, tt4, tt53, tt55, -List.length_append, wrap_w, hln]
    rfl
  refine AW.iteV (v := ?_) (t := ?_) ?_ ?_ (fun h0 => ?_) (fun h0 => ?_)
  rotate_left 2
  · simp -implicitDefEqProofs [-List.all_eq_true]
    rfl
  · rfl
  · skip
    replace h0 := BP.pos h0
    have h0' := h0
    try simp at h0'
    have hx := mid_get? hp h0'
    have hxx := fun h => mid_get hp h0' h
    refine AW.skip ?_
    refine AW.sq ?_
    refine AW.bk ?_
    refine AW.rego ?_
    refine AO.runK (st' := ?_) tab hE [0, 1, 5, 15, 16] [] 5 ?_ ?_
    rotate_left
    · simp -implicitDefEqProofs [-List.all_eq_true, tt3, tt53, tt55, -List.length_append, wrap_w, h0, h0', hln, hx, hxx]
      rfl
    refine AO.callG (TT := TT) (st1 := ?_) (st2 := ?_) (st3 := ?_) hE [some (.slot 0), none] (l_markIntS_spec a[i] k' (ha _ (List.getElem_mem _))) (by simp) (by simp) (by simp) (by simp) ?_ ?_ ?_ ?_ ?_ ?_ ?_ ?_
    rotate_left 3
    · simp -implicitDefEqProofs [-List.all_eq_true, mvS, tt3, tt55, -List.length_append, wrap_w, h0, h0', hln, hx, hxx]
      rfl
    · simp -implicitDefEqProofs [-List.all_eq_true, mvP, tt3, tt55, -List.length_append, wrap_w, h0, h0', hln, hx, hxx]
    · simp -implicitDefEqProofs [-List.all_eq_true, lendS, tt3, tt55, -List.length_append, wrap_w, h0, h0', hln, hx, hxx]
      rfl
    · simp -implicitDefEqProofs [-List.all_eq_true, lendP, tt3, tt55, -List.length_append, wrap_w, h0, h0', hln, hx, hxx]
    · simp -implicitDefEqProofs [-List.all_eq_true, roP, tt3, tt55, -List.length_append, wrap_w, h0, h0', hln, hx, hxx]
    · simp -implicitDefEqProofs [-List.all_eq_true, backS, tt3, tt55, -List.length_append, wrap_w, h0, h0', hln, hx, hxx]
      rfl
    · simp -implicitDefEqProofs [-List.all_eq_true, backP, tt3, tt55, -List.length_append, wrap_w, h0, h0', hln, hx, hxx]
    refine AO.fin (st' := ?_) tab hE [0, 1, 5] [] ?_ ?_
    rotate_left
    · simp -implicitDefEqProofs [-List.all_eq_true, tt3, -List.length_append, wrap_w, h0, h0', hln, hx, hxx]
      rfl
    refine AW.regt (st' := ?_) tab hE [0, 1, 5] [] ?_ ?_
    rotate_left
    · simp -implicitDefEqProofs [-List.all_eq_true, tt3, -List.length_append, wrap_w, h0, h0']
      rfl
    exact ⟨_, by omega, i + 1, p ++ [(markInts a[i] k').1], (markInts a[i] k').2, rfl, by omega, by simp [hp], by rw [hk1, List.drop_eq_getElem_cons h0', markIntss, markL_cons]; simp [markIntss], by rw [hk2, List.drop_eq_getElem_cons h0', markIntss, markL_cons]; rfl, by rw [w64_succ i _ h0' (by omega), ← rows_mid hp h0']; simp [intsC]⟩
  replace h0 := BP.neg h0
  have h0' := h0
  try simp at h0'
  refine AW.exit ?_
  simp only [loopQ, blockQ, thenQ, if_true, reduceIte, Nat.reduceEqDiff]
  refine AW.sq ?_
  refine AW.regt (st' := ?_) tab hE [0, 4] [] ?_ ?_
  rotate_left
  · simp -implicitDefEqProofs [-List.all_eq_true, tt3, -List.length_append, wrap_w, h0, h0']
    rfl
  refine AW.ret (finF_ok tab hE ?_)
  have h' : a.drop i = [] := List.drop_of_length_le (by omega)
  rw [h'] at hk1 hk2
  simp [h', hk1, hk2, markIntss_nil]
set_option maxHeartbeats 4000000 in
theorem l_markMemS0_spec (a : List Mem) (k : Int) (hn : a.length * 80 ≤ 140737488351232) (ha : ∀ m ∈ a, MemF m ∧ m.cache = []) : Lvm.Spec Try.prog [] 49 [.le false [.s true 4 (rows (memC true) (a))] [.s true 4 (rows (memC true) ((markMems0 a k).1))], .ro false [.v (.int .i64 (k))]] [(false, [.v (.int .i64 ((markMems0 a k).2))])] := by
  refine Spec.of (TT := TT) Try.func49 (by kernel_rfl) rfl (of_decide_eq_true rfl) fun X hn hok hio hfa => ?_
  have hE : Ev.ok ⟨43, 2, _⟩ X := ⟨hn, hok, hio⟩
  clear hn hok hio hfa
  refine AW.sq ?_
  refine AW.regt (st' := ?_) tab hE [0, 1] [] ?_ ?_
  rotate_left
  · simp -implicitDefEqProofs [-List.all_eq_true, tt3, -List.length_append, wrap_w]
    rfl
  refine AW.sq ?_
  refine AW.sq ?_
  refine AW.regt (st' := ?_) tab hE [0, 1, 5] [] ?_ ?_
  rotate_left
  · simp -implicitDefEqProofs [-List.all_eq_true, tt3, -List.length_append, wrap_w]
    rfl
  refine AW.bk ?_
  refine AW.lp (fun qn st => ∃ (i : Nat) (p : List Mem) (k' : Int), qn = a.length - i ∧ (i ≤ a.length) ∧ (p.length = i) ∧ ((markMems0 a k).1 = p ++ (markMems0 (a.drop i) k').1) ∧ ((markMems0 a k).2 = (markMems0 (a.drop i) k').2) ∧  st = mk [(0, .val false [.s true 4 (rows (memC true) (p ++ a.drop i))]), (1, .val false [.v (.int .i64 k')]), (5, .val false [.v (.int .i64 ((i : Nat) : Int))])] []) (a.length) ⟨0, [], k, by simp, by simp, rfl, by simp, by simp, by simp⟩ ?_
  rintro qn st ⟨i, p, k', rfl, hi, hp, hk1, hk2, rfl⟩
  have hln := mid_len hp hi
  refine AW.sq ?_
  refine AW.sq ?_
  refine AW.regt (st' := ?_) tab hE [0, 1, 5, 9] [] ?_ ?_
  rotate_left
  · simp -implicitDefEqProofs [-List.all_eq_true, tt3, tt4, tt25, tt57, -List.length_append, wrap_w, hln]
    rfl
  refine AW.iteV (v := ?_) (t := ?_) ?_ ?_ (fun h0 => ?_) (fun h0 => ?_)
  rotate_left 2
  · simp -implicitDefEqProofs [-List.all_eq_true]
    rfl
  · rfl
  · skip
    replace h0 := BP.pos h0
    have h0' := h0
    try simp at h0'
    have hx := mid_get? hp h0'
    have hxx := fun h => mid_get hp h0' h
    obtain ⟨hm, hc⟩ := ha a[i] (List.getElem_mem _)
    refine AW.skip ?_
    refine AW.sq ?_
    refine AW.bk ?_
    refine AW.sq ?_
    refine AW.rego ?_
    refine AO.runK (st' := ?_) tab hE [0, 1, 5, 16, 17] [] 6 ?_ ?_
    rotate_left
    · simp -implicitDefEqProofs [-List.all_eq_true, tt3, tt25, tt53, tt55, tt57, -List.length_append, wrap_w, h0, h0', hln, hx, hxx, hc]
      rfl
    refine AO.callG (TT := TT) (st1 := ?_) (st2 := ?_) (st3 := ?_) hE [some (.slot 0), none] (l_markIntSS_spec a[i].secs k' hm.secs hm.sec) (by simp) (by simp) (by simp) (by simp) ?_ ?_ ?_ ?_ ?_ ?_ ?_ ?_
    rotate_left 3
    · simp -implicitDefEqProofs [-List.all_eq_true, mvS, tt3, tt53, tt55, -List.length_append, wrap_w, h0, h0', hln, hx, hxx, hc]
      rfl
    · simp -implicitDefEqProofs [-List.all_eq_true, mvP, tt3, tt53, tt55, -List.length_append, wrap_w, h0, h0', hln, hx, hxx, hc]
    · simp -implicitDefEqProofs [-List.all_eq_true, lendS, tt3, tt53, tt55, -List.length_append, wrap_w, h0, h0', hln, hx, hxx, hc]
      rfl
    · simp -implicitDefEqProofs [-List.all_eq_true, lendP, tt3, tt53, tt55, -List.length_append, wrap_w, h0, h0', hln, hx, hxx, hc]
    · simp -implicitDefEqProofs [-List.all_eq_true, roP, tt3, tt53, tt55, -List.length_append, wrap_w, h0, h0', hln, hx, hxx, hc]
    · simp -implicitDefEqProofs [-List.all_eq_true, backS, tt3, tt53, tt55, -List.length_append, wrap_w, h0, h0', hln, hx, hxx, hc]
      rfl
    · simp -implicitDefEqProofs [-List.all_eq_true, backP, tt3, tt53, tt55, -List.length_append, wrap_w, h0, h0', hln, hx, hxx, hc]
    refine AO.fin (st' := ?_) tab hE [0, 1, 5] [] ?_ ?_
    rotate_left
    · simp -implicitDefEqProofs [-List.all_eq_true, tt3, -List.length_append, wrap_w, h0, h0', hln, hx, hxx, hc]
      rfl
    refine AW.sq ?_
    refine AW.rego ?_
    refine AO.runK (st' := ?_) tab hE [0, 1, 5, 23, 24] [] 6 ?_ ?_
    rotate_left
    · simp -implicitDefEqProofs [-List.all_eq_true, tt3, tt25, tt54, tt57, tt93, -List.length_append, wrap_w, h0, h0', hln, hx, hxx, hc]
      rfl
    refine AO.callG (TT := TT) (st1 := ?_) (st2 := ?_) (st3 := ?_) hE [some (.slot 0), none] (l_markWrS0_spec (markIntss a[i].secs k').2) (by simp) (by simp) (by simp) (by simp) ?_ ?_ ?_ ?_ ?_ ?_ ?_ ?_
    rotate_left 3
    · simp -implicitDefEqProofs [-List.all_eq_true, mvS, tt3, tt54, tt93, -List.length_append, wrap_w, h0, h0', hln, hx, hxx, hc]
      rfl
    · simp -implicitDefEqProofs [-List.all_eq_true, mvP, tt3, tt54, tt93, -List.length_append, wrap_w, h0, h0', hln, hx, hxx, hc]
    · simp -implicitDefEqProofs [-List.all_eq_true, lendS, tt3, tt54, tt93, -List.length_append, wrap_w, h0, h0', hln, hx, hxx, hc]
      rfl
    · simp -implicitDefEqProofs [-List.all_eq_true, lendP, tt3, tt54, tt93, -List.length_append, wrap_w, h0, h0', hln, hx, hxx, hc]
    · simp -implicitDefEqProofs [-List.all_eq_true, roP, tt3, tt54, tt93, -List.length_append, wrap_w, h0, h0', hln, hx, hxx, hc]
    · simp -implicitDefEqProofs [-List.all_eq_true, backS, tt3, tt54, tt93, -List.length_append, wrap_w, h0, h0', hln, hx, hxx, hc]
      rfl
    · simp -implicitDefEqProofs [-List.all_eq_true, backP, tt3, tt54, tt93, -List.length_append, wrap_w, h0, h0', hln, hx, hxx, hc]
    refine AO.fin (st' := ?_) tab hE [0, 1, 5] [] ?_ ?_
    rotate_left
    · simp -implicitDefEqProofs [-List.all_eq_true, tt3, -List.length_append, wrap_w, h0, h0', hln, hx, hxx, hc]
      rfl
    refine AW.sq ?_
    refine AW.regt (st' := ?_) tab hE [0, 1, 5] [] ?_ ?_
    rotate_left
    · simp -implicitDefEqProofs [-List.all_eq_true, tt3, tt4, tt25, tt57, -List.length_append, wrap_w, h0, h0', hln, hx, hxx, hc]
      rfl
    refine AW.sq ?_
    refine AW.regt (st' := ?_) tab hE [0, 1, 5] [] ?_ ?_
    rotate_left
    · simp -implicitDefEqProofs [-List.all_eq_true, tt3, -List.length_append, wrap_w, h0, h0', hln, hx, hxx, hc]
      rfl
    refine AW.rego ?_
    refine AO.runK (st' := ?_) tab hE [0, 1, 5, 39, 40] [] 6 ?_ ?_
    rotate_left
    · simp -implicitDefEqProofs [-List.all_eq_true, tt3, tt25, tt55, tt57, -List.length_append, wrap_w, h0, h0', hln, hx, hxx, hc]
      rfl
    refine AO.callG (TT := TT) (st1 := ?_) (st2 := ?_) (st3 := ?_) hE [some (.slot 0), none] (l_markIntS_spec a[i].bad (w64 ((markIntss a[i].secs k').2 + 1)) hm.bad) (by simp) (by simp) (by simp) (by simp) ?_ ?_ ?_ ?_ ?_ ?_ ?_ ?_
    rotate_left 3
    · simp -implicitDefEqProofs [-List.all_eq_true, mvS, tt3, tt55, -List.length_append, wrap_w, h0, h0', hln, hx, hxx, hc]
      rfl
    · simp -implicitDefEqProofs [-List.all_eq_true, mvP, tt3, tt55, -List.length_append, wrap_w, h0, h0', hln, hx, hxx, hc]
    · simp -implicitDefEqProofs [-List.all_eq_true, lendS, tt3, tt55, -List.length_append, wrap_w, h0, h0', hln, hx, hxx, hc]
      rfl
    · simp -implicitDefEqProofs [-List.all_eq_true, lendP, tt3, tt55, -List.length_append, wrap_w, h0, h0', hln, hx, hxx, hc]
    · simp -implicitDefEqProofs [-List.all_eq_true, roP, tt3, tt55, -List.length_append, wrap_w, h0, h0', hln, hx, hxx, hc]
    · simp -implicitDefEqProofs [-List.all_eq_true, backS, tt3, tt55, -List.length_append, wrap_w, h0, h0', hln, hx, hxx, hc]
      rfl
    · simp -implicitDefEqProofs [-List.all_eq_true, backP, tt3, tt55, -List.length_append, wrap_w, h0, h0', hln, hx, hxx, hc]
    refine AO.fin (st' := ?_) tab hE [0, 1, 5] [] ?_ ?_
    rotate_left
    · simp -implicitDefEqProofs [-List.all_eq_true, tt3, -List.length_append, wrap_w, h0, h0', hln, hx, hxx, hc]
      rfl
    refine AW.regt (st' := ?_) tab hE [0, 1, 5] [] ?_ ?_
    rotate_left
    · simp -implicitDefEqProofs [-List.all_eq_true, tt3, -List.length_append, wrap_w, h0, h0']
      rfl
    exact ⟨_, by omega, i + 1, p ++ [(markMem0 a[i] k').1], (markMem0 a[i] k').2, rfl, by omega, by simp [hp], by rw [hk1, List.drop_eq_getElem_cons h0', markMems0, markL_cons]; simp [markMems0], by rw [hk2, List.drop_eq_getElem_cons h0', markMems0, markL_cons]; rfl, by rw [w64_succ i _ h0' (by omega), ← rows_mid hp h0']; simp [memC, markMem0]⟩
  replace h0 := BP.neg h0
  have h0' := h0
  try simp at h0'
  refine AW.exit ?_
  simp only [loopQ, blockQ, thenQ, if_true, reduceIte, Nat.reduceEqDiff]
  refine AW.sq ?_
  refine AW.regt (st' := ?_) tab hE [0, 4] [] ?_ ?_
  rotate_left
  · simp -implicitDefEqProofs [-List.all_eq_true, tt3, -List.length_append, wrap_w, h0, h0']
    rfl
  refine AW.ret (finF_ok tab hE ?_)
  have h' : a.drop i = [] := List.drop_of_length_le (by omega)
  rw [h'] at hk1 hk2
  simp [h', hk1, hk2, markMems0_nil]
end Go.Proofs.Ytm
