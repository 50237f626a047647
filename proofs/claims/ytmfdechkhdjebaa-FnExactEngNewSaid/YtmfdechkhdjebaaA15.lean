/- Contracts of the program's functions, each for all arguments that its hypotheses allow: proved over the loaded program by the by-value machine of the Lvm texts. -/
import Derived.Test.YtmfdechkhdjebaaA13
set_option linter.unusedVariables false
set_option linter.unusedSimpArgs false
namespace Go.Proofs.Ytm
open Go.Lvm Go.Proofs
attribute [local simp] put_env put_var put_cv put_cs famS_env famS_var famS_cv famS_cs dE dC dV dU lkC runK runF ev_move ev_assign ev_pick ev_bin ev_un ev_conv ev_load ev_field ev_index ev_alloc ev_box ev_extract ev_len ev_append ev_build ev_buildS ev_store ev_makeS ev_slice Ev.dst Ev.src leAt moveF assignF viewL viewP mk_put mk_born mk_rv mk_rs mk_touch mk_touch2 touE2 L.touch2 mk_env mk_var mk_cv mk_cs delE delB delV setE touE lk lkv kill_dead kill_v kill_sptr kill_tup kill_ref kill_win kill_ptr L.base L.touch L.setCells L.cells Value.oneCell' isSt_v isSt_s isSt_d scal opv binS binF unS pickF st0_mk st0E st0V gokF gval gvV gtup skipF int_beq int_bne eqI_self mk_keep selE selV finF retF St.take ownL ownC Posts Post St.grab nz getC setC loadL fieldL lastOff ownR snap sttL stt sttR roOK snapRt resL isV sliceC lenS indexL intOf ros grd thenQ blockQ loopQ upd kill_ite touch_ite cells_ite lkv_ite lk_ite fam famE famF bef Region.binds rows_len rows_nil rows_get rows_get? stt_ints stt_intss stt_wrs stt_mems stt_cmds stt_jobs stt_anss stt_turns ownR_rep ownR_app allSt_ints allSt_intss allSt_wrs allSt_mems allSt_cmds allSt_jobs allSt_anss allSt_turns own_ints own_intss own_wrs own_mems own_cmds own_jobs own_anss own_turns intC intsC wrC memC geoC superC arrC cmdC jobC ansC turnC engC St.parts partsOf rowsOf lput chunk appF appOK St.elems gone goneIn convS bndF sliceL

set_option maxHeartbeats 4000000 in
theorem l_heldIntS_spec (a : List Int) (k : Int) (ha : a.length * 8 ≤ 140737488351232) : Lvm.Spec Try.prog [] 54 [.ro false [.s false 1 (rows intC a)], .ro false [.v (.int .i64 (k))]] [(false, [.v (.int .i64 (heldInts a k))])] := by
  refine Spec.of (TT := TT) Try.func54 (by kernel_rfl) rfl (of_decide_eq_true rfl) fun X hn hok hio hfa => ?_
  have hE : Ev.ok ⟨21, 2, _⟩ X := ⟨hn, hok, hio⟩
  clear hn hok hio hfa
  refine AW.sq ?_
  refine AW.regt (st' := ?_) tab hE [0, 1] [] ?_ ?_
  rotate_left
  · simp -implicitDefEqProofs [-List.all_eq_true, tt3, wrap_w]
    rfl
  refine AW.sq ?_
  refine AW.sq ?_
  refine AW.regt (st' := ?_) tab hE [0, 1, 5] [] ?_ ?_
  rotate_left
  · simp -implicitDefEqProofs [-List.all_eq_true, tt3, wrap_w]
    rfl
  refine AW.bk ?_
  refine AW.lp (fun qn st => ∃ (i : Nat) (k' : Int), qn = a.length - i ∧ (i ≤ a.length) ∧ (heldInts (a.drop i) k' = heldInts a k) ∧  st = mk [(0, .val false [.s false 1 (rows intC a)]), (1, .val false [.v (.int .i64 k')]), (5, .val false [.v (.int .i64 ((i : Nat) : Int))])] []) (a.length) ⟨0, k, by simp, by simp, by simp, by simp⟩ ?_
  rintro qn st ⟨i, k', rfl, hi, hk, rfl⟩
  refine AW.sq ?_
  refine AW.sq ?_
  refine AW.regt (st' := ?_) tab hE [0, 1, 5, 9] [] ?_ ?_
  rotate_left
  · simp -implicitDefEqProofs [-List.all_eq_true, tt3, tt4, tt55, wrap_w]
    rfl
  refine AW.iteV (v := ?_) (t := ?_) ?_ ?_ (fun h0 => ?_) (fun h0 => ?_)
  rotate_left 2
  · simp -implicitDefEqProofs [-List.all_eq_true]
    rfl
  · rfl
  · skip
    replace h0 := BP.pos h0
    have h0' := h0
    try simp at h0'
    refine AW.skip ?_
    refine AW.sq ?_
    refine AW.bk ?_
    refine AW.sq ?_
    refine AW.sq ?_
    refine AW.regt (st' := ?_) tab hE [0, 1, 5, 17] [] ?_ ?_
    rotate_left
    · simp -implicitDefEqProofs [-List.all_eq_true, tt3, tt4, tt55, wrap_w, h0, h0']
      rfl
    refine AW.iteV (v := ?_) (t := ?_) ?_ ?_ (fun h1 => ?_) (fun h1 => ?_)
    rotate_left 2
    · simp -implicitDefEqProofs [-List.all_eq_true, h0, h0']
      rfl
    · rfl
    · skip
      replace h1 := BP.pos h1
      have h1' := h1
      try simp at h1'
      refine AW.sq ?_
      refine AW.regt (st' := ?_) tab hE [4] [] ?_ ?_
      rotate_left
      · simp -implicitDefEqProofs [-List.all_eq_true, tt3, wrap_w, h0, h0', h1, h1']
        rfl
      refine AW.ret (finF_ok tab hE ?_)
      have e : heldInts a k = -1 := by rw [← hk, List.drop_eq_getElem_cons h0', heldInts, if_neg (by simp [h1])]
      simp [e]
    replace h1 := BP.neg h1
    have h1' := h1
    try simp at h1'
    refine AW.skip ?_
    refine AW.regt (st' := ?_) tab hE [0, 1, 5] [] ?_ ?_
    rotate_left
    · simp -implicitDefEqProofs [-List.all_eq_true, tt3, wrap_w, h0, h0', h1, h1']
      rfl
    refine AW.regt (st' := ?_) tab hE [0, 1, 5] [] ?_ ?_
    rotate_left
    · simp -implicitDefEqProofs [-List.all_eq_true, tt3, wrap_w, h0, h0', h1, h1']
      rfl
    exact ⟨_, by omega, i + 1, w64 (k' + 1), rfl, by omega, by rw [← hk, List.drop_eq_getElem_cons h0', heldInts, if_pos h1], by rw [w64_succ i _ h0' (by omega)]⟩
  replace h0 := BP.neg h0
  have h0' := h0
  try simp at h0'
  refine AW.exit ?_
  simp only [loopQ, blockQ, thenQ, if_true, reduceIte, Nat.reduceEqDiff]
  refine AW.sq ?_
  refine AW.regt (st' := ?_) tab hE [4] [] ?_ ?_
  rotate_left
  · simp -implicitDefEqProofs [-List.all_eq_true, tt3, wrap_w, h0, h0']
    rfl
  refine AW.ret (finF_ok tab hE ?_)
  have e : heldInts a k = k' := by rw [← hk, List.drop_of_length_le (by omega)]; rfl
  simp [e]
set_option maxHeartbeats 4000000 in
theorem l_heldIntSS_spec (a : List (List Int)) (k : Int) (hn : a.length * 24 ≤ 140737488351232) (ha : ∀ s ∈ a, s.length * 8 ≤ 140737488351232) : Lvm.Spec Try.prog [] 70 [.ro false [.s false 1 (rows (intsC false) a)], .ro false [.v (.int .i64 (k))]] [(false, [.v (.int .i64 (heldIntss a k))])] := by
  refine Spec.of (TT := TT) Try.func70 (by kernel_rfl) rfl (of_decide_eq_true rfl) fun X hn hok hio hfa => ?_
  have hE : Ev.ok ⟨21, 2, _⟩ X := ⟨hn, hok, hio⟩
  clear hn hok hio hfa
  refine AW.sq ?_
  refine AW.regt (st' := ?_) tab hE [0, 1] [] ?_ ?_
  rotate_left
  · simp -implicitDefEqProofs [-List.all_eq_true, tt3, wrap_w]
    rfl
  refine AW.sq ?_
  refine AW.sq ?_
  refine AW.regt (st' := ?_) tab hE [0, 1, 5] [] ?_ ?_
  rotate_left
  · simp -implicitDefEqProofs [-List.all_eq_true, tt3, wrap_w]
    rfl
  refine AW.bk ?_
  refine AW.lp (fun qn st => ∃ (i : Nat) (k' : Int), qn = a.length - i ∧ (i ≤ a.length) ∧ (heldIntss (a.drop i) k' = heldIntss a k) ∧  st = mk [(0, .val false [.s false 1 (rows (intsC false) a)]), (1, .val false [.v (.int .i64 k')]), (5, .val false [.v (.int .i64 ((i : Nat) : Int))])] []) (a.length) ⟨0, k, by simp, by simp, by simp, by simp⟩ ?_
  rintro qn st ⟨i, k', rfl, hi, hk, rfl⟩
  refine AW.sq ?_
  refine AW.sq ?_
  refine AW.regt (st' := ?_) tab hE [0, 1, 5, 9] [] ?_ ?_
  rotate_left
  · simp -implicitDefEqProofs [-List.all_eq_true, tt3, tt4, tt53, tt55, wrap_w]
    rfl
  refine AW.iteV (v := ?_) (t := ?_) ?_ ?_ (fun h0 => ?_) (fun h0 => ?_)
  rotate_left 2
  · simp -implicitDefEqProofs [-List.all_eq_true]
    rfl
  · rfl
  · skip
    replace h0 := BP.pos h0
    have h0' := h0
    try simp at h0'
    refine AW.skip ?_
    refine AW.sq ?_
    refine AW.bk ?_
    refine AW.sq ?_
    refine AW.rego ?_
    refine AO.runK (st' := ?_) tab hE [0, 1, 5, 15, 16] [] 5 ?_ ?_
    rotate_left
    · simp -implicitDefEqProofs [-List.all_eq_true, tt3, tt53, tt55, wrap_w, h0, h0']
      rfl
    refine AO.callR hE (l_heldIntS_spec a[i] k' (ha _ (List.getElem_mem _))) (by simp) (by simp) (by simp -implicitDefEqProofs [-List.all_eq_true, h0, h0']) (by simp) ?_
    refine AO.fin (st' := ?_) tab hE [0, 1, 5] [] ?_ ?_
    rotate_left
    · simp -implicitDefEqProofs [-List.all_eq_true, tt3, wrap_w, h0, h0']
      rfl
    refine AW.sq ?_
    refine AW.regt (st' := ?_) tab hE [0, 1, 5, 19] [] ?_ ?_
    rotate_left
    · simp -implicitDefEqProofs [-List.all_eq_true, tt3, tt4, wrap_w, h0, h0']
      rfl
    refine AW.iteV (v := ?_) (t := ?_) ?_ ?_ (fun h1 => ?_) (fun h1 => ?_)
    rotate_left 2
    · simp -implicitDefEqProofs [-List.all_eq_true, h0, h0']
      rfl
    · rfl
    · skip
      replace h1 := BP.pos h1
      have h1' := h1
      try simp at h1'
      refine AW.sq ?_
      refine AW.regt (st' := ?_) tab hE [4] [] ?_ ?_
      rotate_left
      · simp -implicitDefEqProofs [-List.all_eq_true, tt3, wrap_w, h0, h0', h1, h1']
        rfl
      refine AW.ret (finF_ok tab hE ?_)
      have e : heldIntss a k = -1 := by rw [← hk, List.drop_eq_getElem_cons h0', heldIntss, heldL, if_pos h1]
      simp [e]
    replace h1 := BP.neg h1
    have h1' := h1
    try simp at h1'
    refine AW.skip ?_
    refine AW.regt (st' := ?_) tab hE [0, 1, 5] [] ?_ ?_
    rotate_left
    · simp -implicitDefEqProofs [-List.all_eq_true, tt3, wrap_w, h0, h0', h1, h1']
      rfl
    exact ⟨_, by omega, i + 1, heldInts a[i] k', rfl, by omega, by rw [← hk, List.drop_eq_getElem_cons h0', heldIntss, heldIntss, heldL, if_neg h1], by rw [w64_succ i _ h0' (by omega)]⟩
  replace h0 := BP.neg h0
  have h0' := h0
  try simp at h0'
  refine AW.exit ?_
  simp only [loopQ, blockQ, thenQ, if_true, reduceIte, Nat.reduceEqDiff]
  refine AW.sq ?_
  refine AW.regt (st' := ?_) tab hE [4] [] ?_ ?_
  rotate_left
  · simp -implicitDefEqProofs [-List.all_eq_true, tt3, wrap_w, h0, h0']
    rfl
  refine AW.ret (finF_ok tab hE ?_)
  have e : heldIntss a k = k' := by rw [← hk, List.drop_of_length_le (by omega)]; rfl
  simp [e]
end Go.Proofs.Ytm
