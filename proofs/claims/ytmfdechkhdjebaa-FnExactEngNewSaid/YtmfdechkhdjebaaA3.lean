/- Contracts of the program's functions, each for all arguments that its hypotheses allow: proved over the loaded program by the by-value machine of the Lvm texts. -/
import Derived.Test.YtmfdechkhdjebaaA2
set_option linter.unusedVariables false
set_option linter.unusedSimpArgs false
namespace Go.Proofs.Ytm
open Go.Lvm Go.Proofs
attribute [local simp] put_env put_var put_cv put_cs famS_env famS_var famS_cv famS_cs dE dC dV dU lkC runK runF ev_move ev_assign ev_pick ev_bin ev_un ev_conv ev_load ev_field ev_index ev_alloc ev_box ev_extract ev_len ev_append ev_build ev_buildS ev_store ev_makeS ev_slice Ev.dst Ev.src leAt moveF assignF viewL viewP mk_put mk_born mk_rv mk_rs mk_touch mk_touch2 touE2 L.touch2 mk_env mk_var mk_cv mk_cs delE delB delV setE touE lk lkv kill_dead kill_v kill_sptr kill_tup kill_ref kill_win kill_ptr L.base L.touch L.setCells L.cells Value.oneCell' isSt_v isSt_s isSt_d scal opv binS binF unS pickF st0_mk st0E st0V gokF gval gvV gtup skipF int_beq int_bne eqI_self mk_keep selE selV finF retF St.take ownL ownC Posts Post St.grab nz getC setC loadL fieldL lastOff ownR snap sttL stt sttR roOK snapRt resL isV sliceC lenS indexL intOf ros grd thenQ blockQ loopQ upd kill_ite touch_ite cells_ite lkv_ite lk_ite fam famE famF bef Region.binds rows_len rows_nil rows_get rows_get? stt_ints stt_intss stt_wrs stt_mems stt_cmds stt_jobs stt_anss stt_turns ownR_rep ownR_app allSt_ints allSt_intss allSt_wrs allSt_mems allSt_cmds allSt_jobs allSt_anss allSt_turns own_ints own_intss own_wrs own_mems own_cmds own_jobs own_anss own_turns intC intsC wrC memC geoC superC arrC cmdC jobC ansC turnC engC St.parts partsOf rowsOf lput chunk appF appOK St.elems gone goneIn convS bndF sliceL

set_option maxHeartbeats 4000000 in
theorem s_PutSuper_spec (s : Super) : Lvm.Spec Try.prog [] 31 [.ro true (superC s)] [(false, [.s true 1 (rows intC (putSuper s))])] := by
  refine Spec.of (TT := TT) Try.func31 (by kernel_rfl) rfl (of_decide_eq_true rfl) fun X hn hok hio hfa => ?_
  have hE : Ev.ok ⟨25, 1, _⟩ X := ⟨hn, hok, hio⟩
  clear hn hok hio hfa
  refine AW.sq ?_
  refine AW.regt (st' := ?_) tab hE [1] [1] ?_ ?_
  rotate_left
  · simp -implicitDefEqProofs [-List.all_eq_true, tt3, tt55, tt62, wrap_w]
    rfl
  refine AW.sq ?_
  refine AW.sq ?_
  refine AW.rego ?_
  refine AO.runK (st' := ?_) tab hE [1, 3] [1] 1 ?_ ?_
  rotate_left
  · simp -implicitDefEqProofs [-List.all_eq_true, tt62, wrap_w]
    rfl
  refine AO.callR hE (s_SuperOk_spec s) (by simp) (by simp) (by simp -implicitDefEqProofs [-List.all_eq_true]) (by simp) ?_
  refine AO.fin (st' := ?_) tab hE [1, 5] [1] ?_ ?_
  rotate_left
  · simp -implicitDefEqProofs [-List.all_eq_true, tt4, wrap_w]
    rfl
  refine AW.iteV (v := ?_) (t := ?_) ?_ ?_ (fun h0 => ?_) (fun h0 => ?_)
  rotate_left 2
  · simp -implicitDefEqProofs [-List.all_eq_true]
    rfl
  · rfl
  · skip
    replace h0 := BP.pos h0
    have h0' := h0
    try simp at h0'
    refine AW.sq ?_
    refine AW.regt (st' := ?_) tab hE [2] [] ?_ ?_
    rotate_left
    · simp -implicitDefEqProofs [-List.all_eq_true, tt3, tt55, wrap_w, h0, h0']
      rfl
    refine AW.ret (finF_ok tab hE ?_)
    simp [putSuper, h0]
  replace h0 := BP.neg h0
  have h0' := h0
  try simp at h0'
  refine AW.skip ?_
  refine AW.sq ?_
  refine AW.regt (st' := ?_) tab hE [2] [] ?_ ?_
  rotate_left
  · simp -implicitDefEqProofs [-List.all_eq_true, tt3, tt4, tt5, tt9, tt55, tt62, wrap_w, h0, h0']
    rfl
  refine AW.ret (finF_ok tab hE ?_)
  simp [putSuper, h0, rows]
set_option maxHeartbeats 4000000 in
theorem i_PutSuper_spec (s : Super) : Lvm.Spec Try.prog [] 58 [.ro true (superC s)] [(false, [.s true 1 (rows intC (putSuper s))])] := by
  refine Spec.of (TT := TT) Try.func58 (by kernel_rfl) rfl (of_decide_eq_true rfl) fun X hn hok hio hfa => ?_
  have hE : Ev.ok ⟨24, 1, _⟩ X := ⟨hn, hok, hio⟩
  clear hn hok hio hfa
  refine AW.sq ?_
  refine AW.regt (st' := ?_) tab hE [1] [1] ?_ ?_
  rotate_left
  · simp -implicitDefEqProofs [-List.all_eq_true, tt3, tt55, tt62, wrap_w]
    rfl
  refine AW.sq ?_
  refine AW.sq ?_
  refine AW.rego ?_
  refine AO.runK (st' := ?_) tab hE [1, 3] [1] 1 ?_ ?_
  rotate_left
  · simp -implicitDefEqProofs [-List.all_eq_true, tt62, wrap_w]
    rfl
  refine AO.callR hE (i_SuperOk_spec s) (by simp) (by simp) (by simp -implicitDefEqProofs [-List.all_eq_true]) (by simp) ?_
  refine AO.fin (st' := ?_) tab hE [1, 5] [1] ?_ ?_
  rotate_left
  · simp -implicitDefEqProofs [-List.all_eq_true, tt4, wrap_w]
    rfl
  refine AW.iteV (v := ?_) (t := ?_) ?_ ?_ (fun h0 => ?_) (fun h0 => ?_)
  rotate_left 2
  · simp -implicitDefEqProofs [-List.all_eq_true]
    rfl
  · rfl
  · skip
    replace h0 := BP.pos h0
    have h0' := h0
    try simp at h0'
    refine AW.sq ?_
    refine AW.regt (st' := ?_) tab hE [2] [] ?_ ?_
    rotate_left
    · simp -implicitDefEqProofs [-List.all_eq_true, tt3, tt55, wrap_w, h0, h0']
      rfl
    refine AW.ret (finF_ok tab hE ?_)
    simp [putSuper, h0]
  replace h0 := BP.neg h0
  have h0' := h0
  try simp at h0'
  refine AW.skip ?_
  refine AW.sq ?_
  refine AW.regt (st' := ?_) tab hE [2] [] ?_ ?_
  rotate_left
  · simp -implicitDefEqProofs [-List.all_eq_true, tt3, tt4, tt5, tt9, tt55, tt62, wrap_w, h0, h0']
    rfl
  refine AW.ret (finF_ok tab hE ?_)
  simp [putSuper, h0, rows]
set_option maxHeartbeats 4000000 in
theorem i_superOf_spec (a : Arr) (m : Int) : Lvm.Spec Try.prog [] 38 [.ro true (arrC false a), .ro false [.v (.int .i64 (m))]] [(true, superC (superOf a m))] := by
  refine Spec.of (TT := TT) Try.func38 (by kernel_rfl) rfl (of_decide_eq_true rfl) fun X hn hok hio hfa => ?_
  have hE : Ev.ok ⟨23, 2, _⟩ X := ⟨hn, hok, hio⟩
  clear hn hok hio hfa
  refine AW.sq ?_
  refine AW.regt (st' := ?_) tab hE [1, 2, 4] [2, 4] ?_ ?_
  rotate_left
  · simp -implicitDefEqProofs [-List.all_eq_true, tt28, tt62]
    rfl
  refine AW.sq ?_
  refine AW.regt (st' := ?_) tab hE [4] [4] ?_ ?_
  rotate_left
  · simp -implicitDefEqProofs [-List.all_eq_true, tt3, tt4, tt5, tt24, tt28, tt62]
    rfl
  refine AW.ret (finF_ok tab hE ?_)
  simp -implicitDefEqProofs [-List.all_eq_true, tt62, superOf]
set_option maxHeartbeats 4000000 in
theorem i_MemNew_spec (n : Int) : Lvm.Spec Try.prog [] 36 [.ro false [.v (.int .i64 (n))]] [(true, memC true (memNew n))] := by
  refine Spec.of (TT := TT) Try.func36 (by kernel_rfl) rfl (of_decide_eq_true rfl) fun X hn hok hio hfa => ?_
  have hE : Ev.ok ⟨10, 1, _⟩ X := ⟨hn, hok, hio⟩
  clear hn hok hio hfa
  refine AW.sq ?_
  refine AW.regt (st' := ?_) tab hE [0, 2] [2] ?_ ?_
  rotate_left
  · simp -implicitDefEqProofs [-List.all_eq_true, tt57]
    rfl
  refine AW.sq ?_
  refine AW.sq ?_
  refine AW.rego ?_
  refine AO.runK (st' := ?_) tab hE [0, 2, 3] [2] 1 ?_ ?_
  rotate_left
  · simp -implicitDefEqProofs [-List.all_eq_true, tt3]
    rfl
  refine AO.callR hE (i_within_spec n 1 20) (by simp) (by simp) (by simp -implicitDefEqProofs [-List.all_eq_true]) (by simp) ?_
  refine AO.fin (st' := ?_) tab hE [0, 2, 5] [2] ?_ ?_
  rotate_left
  · simp -implicitDefEqProofs [-List.all_eq_true, tt4]
    rfl
  refine AW.iteV (v := ?_) (t := ?_) ?_ ?_ (fun h0 => ?_) (fun h0 => ?_)
  rotate_left 2
  · simp -implicitDefEqProofs [-List.all_eq_true]
    rfl
  · rfl
  · skip
    replace h0 := BP.pos h0
    have h0' := h0
    try simp at h0'
    refine AW.sq ?_
    refine AW.regt (st' := ?_) tab hE [2] [2] ?_ ?_
    rotate_left
    · simp -implicitDefEqProofs [-List.all_eq_true, tt57, h0, h0']
      rfl
    refine AW.ret (finF_ok tab hE ?_)
    simp [memNew, h0, tt57]
  replace h0 := BP.neg h0
  have h0' := h0
  try simp at h0'
  refine AW.skip ?_
  refine AW.sq ?_
  have h1 := inB_iff.1 h0
  have e1 : (0 : Int) ≤ n := by omega
  have e2 : 24 * n ≤ 281474976710656 := by omega
  have e3 : n ≤ 281474976710656 := by omega
  refine AW.regt (st' := ?_) tab hE [2] [2] ?_ ?_
  rotate_left
  · simp -implicitDefEqProofs [-List.all_eq_true, tt3, tt53, tt55, tt57, h0, h0', e1, e2, e3]
    rfl
  refine AW.ret (finF_ok tab hE ?_)
  simp [memNew, h0, tt57, rows, intsC]
set_option maxHeartbeats 4000000 in
theorem s_MemNew_spec (n : Int) : Lvm.Spec Try.prog [] 29 [.ro false [.v (.int .i64 (n))]] [(true, memC true (memNew n))] := by
  refine Spec.of (TT := TT) Try.func29 (by kernel_rfl) rfl (of_decide_eq_true rfl) fun X hn hok hio hfa => ?_
  have hE : Ev.ok ⟨22, 1, _⟩ X := ⟨hn, hok, hio⟩
  clear hn hok hio hfa
  refine AW.sq ?_
  refine AW.regt (st' := ?_) tab hE [0, 2] [2] ?_ ?_
  rotate_left
  · simp -implicitDefEqProofs [-List.all_eq_true, tt57]
    rfl
  refine AW.sq ?_
  refine AW.sq ?_
  refine AW.rego ?_
  refine AO.runK (st' := ?_) tab hE [0, 2, 5] [2] 1 ?_ ?_
  rotate_left
  · simp -implicitDefEqProofs [-List.all_eq_true, tt3]
    rfl
  refine AO.callR hE (s_l1In_spec n 1 20) (by simp) (by simp) (by simp -implicitDefEqProofs [-List.all_eq_true]) (by simp) ?_
  refine AO.fin (st' := ?_) tab hE [0, 2, 7] [2] ?_ ?_
  rotate_left
  · simp -implicitDefEqProofs [-List.all_eq_true, tt4]
    rfl
  refine AW.iteV (v := ?_) (t := ?_) ?_ ?_ (fun h0 => ?_) (fun h0 => ?_)
  rotate_left 2
  · simp -implicitDefEqProofs [-List.all_eq_true]
    rfl
  · rfl
  · skip
    replace h0 := BP.pos h0
    have h0' := h0
    try simp at h0'
    refine AW.sq ?_
    refine AW.regt (st' := ?_) tab hE [2] [2] ?_ ?_
    rotate_left
    · simp -implicitDefEqProofs [-List.all_eq_true, tt57, h0, h0']
      rfl
    refine AW.ret (finF_ok tab hE ?_)
    simp [memNew, h0, tt57]
  replace h0 := BP.neg h0
  have h0' := h0
  try simp at h0'
  refine AW.skip ?_
  refine AW.sq ?_
  refine AW.regt (st' := ?_) tab hE [0, 2, 3] [2, 3] ?_ ?_
  rotate_left
  · simp -implicitDefEqProofs [-List.all_eq_true, tt57, h0, h0']
    rfl
  refine AW.sq ?_
  refine AW.sq ?_
  refine AW.regt (st' := ?_) tab hE [0, 2, 3, 4] [2, 3] ?_ ?_
  rotate_left
  · simp -implicitDefEqProofs [-List.all_eq_true, tt3, h0, h0']
    rfl
  refine AW.bk ?_
  refine AW.lp (fun qn st => ∃ (i : Nat), qn = n.toNat - i ∧ ((i : Int) ≤ n) ∧ (i ≤ 20) ∧  st = mk [(0, .val false [.v (.int .i64 (n))]), (2, .ptr (.var 2) 0 []), (3, .ptr (.var 3) 0 []), (4, .val false [.v (.int .i64 (i : Int))])] [(2, [.s true 1 [], .s true 2 [], .v (.bool false), .s true 1 []]), (3, [.s true 1 (rows (intsC true) (List.replicate i [])), .s true 2 [], .v (.bool false), .s true 1 []])]) (n.toNat) ⟨0, by simp, by have := inB_iff.1 h0; omega, by omega, by simp [rows]⟩ ?_
  rintro qn st ⟨i, rfl, hi, hj, rfl⟩
  refine AW.sq ?_
  refine AW.sq ?_
  refine AW.regt (st' := ?_) tab hE [0, 2, 3, 4, 12] [2, 3] ?_ ?_
  rotate_left
  · simp -implicitDefEqProofs [-List.all_eq_true, tt3, tt4, h0, h0']
    rfl
  refine AW.iteV (v := ?_) (t := ?_) ?_ ?_ (fun h1 => ?_) (fun h1 => ?_)
  rotate_left 2
  · simp -implicitDefEqProofs [-List.all_eq_true, h0, h0']
    rfl
  · rfl
  · skip
    replace h1 := BP.pos h1
    have h1' := h1
    try simp at h1'
    refine AW.skip ?_
    refine AW.sq ?_
    refine AW.bk ?_
    refine AW.regt (st' := ?_) tab hE [0, 2, 3, 4] [2, 3] ?_ ?_
    rotate_left
    · simp -implicitDefEqProofs [-List.all_eq_true, tt3, tt53, tt55, tt57, h0, h0', h1, h1', show (i + 1) * 24 ≤ 140737488355328 by omega, show i + 1 ≤ 140737488355328 by omega]
      rfl
    refine AW.regt (st' := ?_) tab hE [0, 2, 3, 4] [2, 3] ?_ ?_
    rotate_left
    · simp -implicitDefEqProofs [-List.all_eq_true, tt3, h0, h0', h1, h1']
      rfl
    exact ⟨_, by omega, i + 1, rfl, by omega, by have := inB_iff.1 h0; omega, by rw [wrap_succ i 100 (by omega) (by omega)]; simp [List.replicate_succ', rows_app, rows_cons, rows_nil, intsC]⟩
  replace h1 := BP.neg h1
  have h1' := h1
  try simp at h1'
  refine AW.exit ?_
  simp only [loopQ, blockQ, thenQ, if_true, reduceIte, Nat.reduceEqDiff]
  refine AW.sq ?_
  refine AW.regt (st' := ?_) tab hE [2] [2] ?_ ?_
  rotate_left
  · simp -implicitDefEqProofs [-List.all_eq_true, tt57, h0, h0', h1, h1']
    rfl
  refine AW.ret (finF_ok tab hE ?_)
  have e : n.toNat = i := by omega
  simp [memNew, h0, tt57, e]
end Go.Proofs.Ytm
