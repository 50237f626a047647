/- Contracts of the program's functions, each for all arguments that its hypotheses allow: proved over the loaded program by the by-value machine of the Lvm texts. -/
import Derived.Test.YtmfdechkhdjebaaM1
import Derived.Test.YtmfdechkhdjebaaA1
set_option linter.unusedVariables false
set_option linter.unusedSimpArgs false
namespace Go.Proofs.Ytm
open Go.Lvm Go.Proofs
attribute [local simp] put_env put_var put_cv put_cs famS_env famS_var famS_cv famS_cs dE dC dV dU lkC runK runF ev_move ev_assign ev_pick ev_bin ev_un ev_conv ev_load ev_field ev_index ev_alloc ev_box ev_extract ev_len ev_append ev_build ev_buildS ev_store ev_makeS ev_slice Ev.dst Ev.src leAt moveF assignF viewL viewP mk_put mk_born mk_rv mk_rs mk_touch mk_touch2 touE2 L.touch2 mk_env mk_var mk_cv mk_cs delE delB delV setE touE lk lkv kill_dead kill_v kill_sptr kill_tup kill_ref kill_win kill_ptr L.base L.touch L.setCells L.cells Value.oneCell' isSt_v isSt_s isSt_d scal opv binS binF unS pickF st0_mk st0E st0V gokF gval gvV gtup skipF int_beq int_bne eqI_self mk_keep selE selV finF retF St.take ownL ownC Posts Post St.grab nz getC setC loadL fieldL lastOff ownR snap sttL stt sttR roOK snapRt resL isV sliceC lenS indexL intOf ros grd thenQ blockQ loopQ upd kill_ite touch_ite cells_ite lkv_ite lk_ite fam famE famF bef Region.binds rows_len rows_nil rows_get rows_get? stt_ints stt_intss stt_wrs stt_mems stt_cmds stt_jobs stt_anss stt_turns ownR_rep ownR_app allSt_ints allSt_intss allSt_wrs allSt_mems allSt_cmds allSt_jobs allSt_anss allSt_turns own_ints own_intss own_wrs own_mems own_cmds own_jobs own_anss own_turns intC intsC wrC memC geoC superC arrC cmdC jobC ansC turnC engC St.parts partsOf rowsOf lput chunk appF appOK St.elems gone goneIn convS bndF sliceL

set_option maxHeartbeats 4000000 in
theorem l_eqCmdS0_spec  : Lvm.Spec Try.prog [] 13 [.ro false [.s false 5 []], .ro false [.s false 5 []]] [(false, [.v (.bool (true))])] := by
  refine Spec.of (TT := TT) Try.func13 (by kernel_rfl) rfl (of_decide_eq_true rfl) fun X hn hok hio hfa => ?_
  have hE : Ev.ok ⟨27, 2, _⟩ X := ⟨hn, hok, hio⟩
  clear hn hok hio hfa
  refine AW.sq ?_
  refine AW.regt (st' := ?_) tab hE [0, 1] [] ?_ ?_
  rotate_left
  · simp -implicitDefEqProofs [-List.all_eq_true, tt4]
    rfl
  refine AW.sq ?_
  refine AW.sq ?_
  refine AW.regt (st' := ?_) tab hE [0, 1, 10] [] ?_ ?_
  rotate_left
  · simp -implicitDefEqProofs [-List.all_eq_true, tt3, tt4, tt29, tt74]
    rfl
  refine AW.cond (t := false) (by simp) ?_
  simp only [if_true, if_false, Bool.false_eq_true, reduceIte]
  refine AW.skip ?_
  refine AW.sq ?_
  refine AW.sq ?_
  refine AW.regt (st' := ?_) tab hE [0, 1, 5] [] ?_ ?_
  rotate_left
  · simp -implicitDefEqProofs [-List.all_eq_true, tt3]
    rfl
  refine AW.bk ?_
  refine AW.lp (fun qn st => ∃ (i : Nat), qn = i ∧ (i = 0) ∧  st = mk [(0, .val false [.s false 5 []]), (1, .val false [.s false 5 []]), (5, .val false [.v (.int .i64 ((i : Nat) : Int))])] []) (0) ⟨0, rfl, rfl, by simp⟩ ?_
  rintro qn st ⟨i, rfl, hi, rfl⟩
  refine AW.sq ?_
  refine AW.sq ?_
  refine AW.regt (st' := ?_) tab hE [0, 1, 5, 14] [] ?_ ?_
  rotate_left
  · simp -implicitDefEqProofs [-List.all_eq_true, tt3, tt4, tt29, tt74]
    rfl
  refine AW.cond (t := false) (by simp) ?_
  simp only [if_true, if_false, Bool.false_eq_true, reduceIte]
  refine AW.exit ?_
  simp only [loopQ, blockQ, thenQ, if_true, reduceIte, Nat.reduceEqDiff]
  refine AW.sq ?_
  refine AW.regt (st' := ?_) tab hE [4] [] ?_ ?_
  rotate_left
  · simp -implicitDefEqProofs [-List.all_eq_true, tt4]
    rfl
  refine AW.ret (finF_ok tab hE ?_)
  simp -implicitDefEqProofs [-List.all_eq_true]
set_option maxHeartbeats 4000000 in
theorem l_markCmdS0_spec (k : Int) : Lvm.Spec Try.prog [] 18 [.le false [.s true 5 []] [.s true 5 []], .ro false [.v (.int .i64 (k))]] [(false, [.v (.int .i64 (k))])] := by
  refine Spec.of (TT := TT) Try.func18 (by kernel_rfl) rfl (of_decide_eq_true rfl) fun X hn hok hio hfa => ?_
  have hE : Ev.ok ⟨48, 2, _⟩ X := ⟨hn, hok, hio⟩
  clear hn hok hio hfa
  refine AW.sq ?_
  refine AW.regt (st' := ?_) tab hE [0, 1] [] ?_ ?_
  rotate_left
  · simp -implicitDefEqProofs [-List.all_eq_true, tt3]
    rfl
  refine AW.sq ?_
  refine AW.sq ?_
  refine AW.regt (st' := ?_) tab hE [0, 1, 5] [] ?_ ?_
  rotate_left
  · simp -implicitDefEqProofs [-List.all_eq_true, tt3]
    rfl
  refine AW.bk ?_
  refine AW.lp (fun qn st => ∃ (i : Nat), qn = i ∧ (i = 0) ∧  st = mk [(0, .val false [.s true 5 []]), (1, .val false [.v (.int .i64 k)]), (5, .val false [.v (.int .i64 ((i : Nat) : Int))])] []) (0) ⟨0, rfl, rfl, by simp⟩ ?_
  rintro qn st ⟨i, rfl, hi, rfl⟩
  refine AW.sq ?_
  refine AW.sq ?_
  refine AW.regt (st' := ?_) tab hE [0, 1, 5, 9] [] ?_ ?_
  rotate_left
  · simp -implicitDefEqProofs [-List.all_eq_true, tt3, tt4, tt29, tt74]
    rfl
  refine AW.cond (t := false) (by simp) ?_
  simp only [if_true, if_false, Bool.false_eq_true, reduceIte]
  refine AW.exit ?_
  simp only [loopQ, blockQ, thenQ, if_true, reduceIte, Nat.reduceEqDiff]
  refine AW.sq ?_
  refine AW.regt (st' := ?_) tab hE [0, 4] [] ?_ ?_
  rotate_left
  · simp -implicitDefEqProofs [-List.all_eq_true, tt3]
    rfl
  refine AW.ret (finF_ok tab hE ?_)
  simp -implicitDefEqProofs [-List.all_eq_true]
set_option maxHeartbeats 4000000 in
theorem l_heldCmdS0_spec (k : Int) : Lvm.Spec Try.prog [] 23 [.ro false [.s false 5 []], .ro false [.v (.int .i64 (k))]] [(false, [.v (.int .i64 (k))])] := by
  refine Spec.of (TT := TT) Try.func23 (by kernel_rfl) rfl (of_decide_eq_true rfl) fun X hn hok hio hfa => ?_
  have hE : Ev.ok ⟨58, 2, _⟩ X := ⟨hn, hok, hio⟩
  clear hn hok hio hfa
  refine AW.sq ?_
  refine AW.regt (st' := ?_) tab hE [0, 1] [] ?_ ?_
  rotate_left
  · simp -implicitDefEqProofs [-List.all_eq_true, tt3]
    rfl
  refine AW.sq ?_
  refine AW.sq ?_
  refine AW.regt (st' := ?_) tab hE [0, 1, 5] [] ?_ ?_
  rotate_left
  · simp -implicitDefEqProofs [-List.all_eq_true, tt3]
    rfl
  refine AW.bk ?_
  refine AW.lp (fun qn st => ∃ (i : Nat), qn = i ∧ (i = 0) ∧  st = mk [(0, .val false [.s false 5 []]), (1, .val false [.v (.int .i64 k)]), (5, .val false [.v (.int .i64 ((i : Nat) : Int))])] []) (0) ⟨0, rfl, rfl, by simp⟩ ?_
  rintro qn st ⟨i, rfl, hi, rfl⟩
  refine AW.sq ?_
  refine AW.sq ?_
  refine AW.regt (st' := ?_) tab hE [0, 1, 5, 9] [] ?_ ?_
  rotate_left
  · simp -implicitDefEqProofs [-List.all_eq_true, tt3, tt4, tt29, tt74]
    rfl
  refine AW.cond (t := false) (by simp) ?_
  simp only [if_true, if_false, Bool.false_eq_true, reduceIte]
  refine AW.exit ?_
  simp only [loopQ, blockQ, thenQ, if_true, reduceIte, Nat.reduceEqDiff]
  refine AW.sq ?_
  refine AW.regt (st' := ?_) tab hE [4] [] ?_ ?_
  rotate_left
  · simp -implicitDefEqProofs [-List.all_eq_true, tt3]
    rfl
  refine AW.ret (finF_ok tab hE ?_)
  simp -implicitDefEqProofs [-List.all_eq_true]
set_option maxHeartbeats 4000000 in
theorem l_eqJobS0_spec  : Lvm.Spec Try.prog [] 14 [.ro false [.s false 8 []], .ro false [.s false 8 []]] [(false, [.v (.bool (true))])] := by
  refine Spec.of (TT := TT) Try.func14 (by kernel_rfl) rfl (of_decide_eq_true rfl) fun X hn hok hio hfa => ?_
  have hE : Ev.ok ⟨27, 2, _⟩ X := ⟨hn, hok, hio⟩
  clear hn hok hio hfa
  refine AW.sq ?_
  refine AW.regt (st' := ?_) tab hE [0, 1] [] ?_ ?_
  rotate_left
  · simp -implicitDefEqProofs [-List.all_eq_true, tt4]
    rfl
  refine AW.sq ?_
  refine AW.sq ?_
  refine AW.regt (st' := ?_) tab hE [0, 1, 10] [] ?_ ?_
  rotate_left
  · simp -implicitDefEqProofs [-List.all_eq_true, tt3, tt4, tt30, tt77]
    rfl
  refine AW.cond (t := false) (by simp) ?_
  simp only [if_true, if_false, Bool.false_eq_true, reduceIte]
  refine AW.skip ?_
  refine AW.sq ?_
  refine AW.sq ?_
  refine AW.regt (st' := ?_) tab hE [0, 1, 5] [] ?_ ?_
  rotate_left
  · simp -implicitDefEqProofs [-List.all_eq_true, tt3]
    rfl
  refine AW.bk ?_
  refine AW.lp (fun qn st => ∃ (i : Nat), qn = i ∧ (i = 0) ∧  st = mk [(0, .val false [.s false 8 []]), (1, .val false [.s false 8 []]), (5, .val false [.v (.int .i64 ((i : Nat) : Int))])] []) (0) ⟨0, rfl, rfl, by simp⟩ ?_
  rintro qn st ⟨i, rfl, hi, rfl⟩
  refine AW.sq ?_
  refine AW.sq ?_
  refine AW.regt (st' := ?_) tab hE [0, 1, 5, 14] [] ?_ ?_
  rotate_left
  · simp -implicitDefEqProofs [-List.all_eq_true, tt3, tt4, tt30, tt77]
    rfl
  refine AW.cond (t := false) (by simp) ?_
  simp only [if_true, if_false, Bool.false_eq_true, reduceIte]
  refine AW.exit ?_
  simp only [loopQ, blockQ, thenQ, if_true, reduceIte, Nat.reduceEqDiff]
  refine AW.sq ?_
  refine AW.regt (st' := ?_) tab hE [4] [] ?_ ?_
  rotate_left
  · simp -implicitDefEqProofs [-List.all_eq_true, tt4]
    rfl
  refine AW.ret (finF_ok tab hE ?_)
  simp -implicitDefEqProofs [-List.all_eq_true]
set_option maxHeartbeats 4000000 in
theorem l_markJobS0_spec (k : Int) : Lvm.Spec Try.prog [] 19 [.le false [.s true 8 []] [.s true 8 []], .ro false [.v (.int .i64 (k))]] [(false, [.v (.int .i64 (k))])] := by
  refine Spec.of (TT := TT) Try.func19 (by kernel_rfl) rfl (of_decide_eq_true rfl) fun X hn hok hio hfa => ?_
  have hE : Ev.ok ⟨74, 2, _⟩ X := ⟨hn, hok, hio⟩
  clear hn hok hio hfa
  refine AW.sq ?_
  refine AW.regt (st' := ?_) tab hE [0, 1] [] ?_ ?_
  rotate_left
  · simp -implicitDefEqProofs [-List.all_eq_true, tt3]
    rfl
  refine AW.sq ?_
  refine AW.sq ?_
  refine AW.regt (st' := ?_) tab hE [0, 1, 5] [] ?_ ?_
  rotate_left
  · simp -implicitDefEqProofs [-List.all_eq_true, tt3]
    rfl
  refine AW.bk ?_
  refine AW.lp (fun qn st => ∃ (i : Nat), qn = i ∧ (i = 0) ∧  st = mk [(0, .val false [.s true 8 []]), (1, .val false [.v (.int .i64 k)]), (5, .val false [.v (.int .i64 ((i : Nat) : Int))])] []) (0) ⟨0, rfl, rfl, by simp⟩ ?_
  rintro qn st ⟨i, rfl, hi, rfl⟩
  refine AW.sq ?_
  refine AW.sq ?_
  refine AW.regt (st' := ?_) tab hE [0, 1, 5, 9] [] ?_ ?_
  rotate_left
  · simp -implicitDefEqProofs [-List.all_eq_true, tt3, tt4, tt30, tt77]
    rfl
  refine AW.cond (t := false) (by simp) ?_
  simp only [if_true, if_false, Bool.false_eq_true, reduceIte]
  refine AW.exit ?_
  simp only [loopQ, blockQ, thenQ, if_true, reduceIte, Nat.reduceEqDiff]
  refine AW.sq ?_
  refine AW.regt (st' := ?_) tab hE [0, 4] [] ?_ ?_
  rotate_left
  · simp -implicitDefEqProofs [-List.all_eq_true, tt3]
    rfl
  refine AW.ret (finF_ok tab hE ?_)
  simp -implicitDefEqProofs [-List.all_eq_true]
set_option maxHeartbeats 4000000 in
theorem l_heldJobS0_spec (k : Int) : Lvm.Spec Try.prog [] 24 [.ro false [.s false 8 []], .ro false [.v (.int .i64 (k))]] [(false, [.v (.int .i64 (k))])] := by
  refine Spec.of (TT := TT) Try.func24 (by kernel_rfl) rfl (of_decide_eq_true rfl) fun X hn hok hio hfa => ?_
  have hE : Ev.ok ⟨90, 2, _⟩ X := ⟨hn, hok, hio⟩
  clear hn hok hio hfa
  refine AW.sq ?_
  refine AW.regt (st' := ?_) tab hE [0, 1] [] ?_ ?_
  rotate_left
  · simp -implicitDefEqProofs [-List.all_eq_true, tt3]
    rfl
  refine AW.sq ?_
  refine AW.sq ?_
  refine AW.regt (st' := ?_) tab hE [0, 1, 5] [] ?_ ?_
  rotate_left
  · simp -implicitDefEqProofs [-List.all_eq_true, tt3]
    rfl
  refine AW.bk ?_
  refine AW.lp (fun qn st => ∃ (i : Nat), qn = i ∧ (i = 0) ∧  st = mk [(0, .val false [.s false 8 []]), (1, .val false [.v (.int .i64 k)]), (5, .val false [.v (.int .i64 ((i : Nat) : Int))])] []) (0) ⟨0, rfl, rfl, by simp⟩ ?_
  rintro qn st ⟨i, rfl, hi, rfl⟩
  refine AW.sq ?_
  refine AW.sq ?_
  refine AW.regt (st' := ?_) tab hE [0, 1, 5, 9] [] ?_ ?_
  rotate_left
  · simp -implicitDefEqProofs [-List.all_eq_true, tt3, tt4, tt30, tt77]
    rfl
  refine AW.cond (t := false) (by simp) ?_
  simp only [if_true, if_false, Bool.false_eq_true, reduceIte]
  refine AW.exit ?_
  simp only [loopQ, blockQ, thenQ, if_true, reduceIte, Nat.reduceEqDiff]
  refine AW.sq ?_
  refine AW.regt (st' := ?_) tab hE [4] [] ?_ ?_
  rotate_left
  · simp -implicitDefEqProofs [-List.all_eq_true, tt3]
    rfl
  refine AW.ret (finF_ok tab hE ?_)
  simp -implicitDefEqProofs [-List.all_eq_true]
set_option maxHeartbeats 4000000 in
theorem l_eqAnsS0_spec  : Lvm.Spec Try.prog [] 15 [.ro false [.s false 3 []], .ro false [.s false 3 []]] [(false, [.v (.bool (true))])] := by
  refine Spec.of (TT := TT) Try.func15 (by kernel_rfl) rfl (of_decide_eq_true rfl) fun X hn hok hio hfa => ?_
  have hE : Ev.ok ⟨27, 2, _⟩ X := ⟨hn, hok, hio⟩
  clear hn hok hio hfa
  refine AW.sq ?_
  refine AW.regt (st' := ?_) tab hE [0, 1] [] ?_ ?_
  rotate_left
  · simp -implicitDefEqProofs [-List.all_eq_true, tt4]
    rfl
  refine AW.sq ?_
  refine AW.sq ?_
  refine AW.regt (st' := ?_) tab hE [0, 1, 10] [] ?_ ?_
  rotate_left
  · simp -implicitDefEqProofs [-List.all_eq_true, tt3, tt4, tt31, tt80]
    rfl
  refine AW.cond (t := false) (by simp) ?_
  simp only [if_true, if_false, Bool.false_eq_true, reduceIte]
  refine AW.skip ?_
  refine AW.sq ?_
  refine AW.sq ?_
  refine AW.regt (st' := ?_) tab hE [0, 1, 5] [] ?_ ?_
  rotate_left
  · simp -implicitDefEqProofs [-List.all_eq_true, tt3]
    rfl
  refine AW.bk ?_
  refine AW.lp (fun qn st => ∃ (i : Nat), qn = i ∧ (i = 0) ∧  st = mk [(0, .val false [.s false 3 []]), (1, .val false [.s false 3 []]), (5, .val false [.v (.int .i64 ((i : Nat) : Int))])] []) (0) ⟨0, rfl, rfl, by simp⟩ ?_
  rintro qn st ⟨i, rfl, hi, rfl⟩
  refine AW.sq ?_
  refine AW.sq ?_
  refine AW.regt (st' := ?_) tab hE [0, 1, 5, 14] [] ?_ ?_
  rotate_left
  · simp -implicitDefEqProofs [-List.all_eq_true, tt3, tt4, tt31, tt80]
    rfl
  refine AW.cond (t := false) (by simp) ?_
  simp only [if_true, if_false, Bool.false_eq_true, reduceIte]
  refine AW.exit ?_
  simp only [loopQ, blockQ, thenQ, if_true, reduceIte, Nat.reduceEqDiff]
  refine AW.sq ?_
  refine AW.regt (st' := ?_) tab hE [4] [] ?_ ?_
  rotate_left
  · simp -implicitDefEqProofs [-List.all_eq_true, tt4]
    rfl
  refine AW.ret (finF_ok tab hE ?_)
  simp -implicitDefEqProofs [-List.all_eq_true]
set_option maxHeartbeats 4000000 in
theorem l_markAnsS0_spec (k : Int) : Lvm.Spec Try.prog [] 20 [.le false [.s true 3 []] [.s true 3 []], .ro false [.v (.int .i64 (k))]] [(false, [.v (.int .i64 (k))])] := by
  refine Spec.of (TT := TT) Try.func20 (by kernel_rfl) rfl (of_decide_eq_true rfl) fun X hn hok hio hfa => ?_
  have hE : Ev.ok ⟨34, 2, _⟩ X := ⟨hn, hok, hio⟩
  clear hn hok hio hfa
  refine AW.sq ?_
  refine AW.regt (st' := ?_) tab hE [0, 1] [] ?_ ?_
  rotate_left
  · simp -implicitDefEqProofs [-List.all_eq_true, tt3]
    rfl
  refine AW.sq ?_
  refine AW.sq ?_
  refine AW.regt (st' := ?_) tab hE [0, 1, 5] [] ?_ ?_
  rotate_left
  · simp -implicitDefEqProofs [-List.all_eq_true, tt3]
    rfl
  refine AW.bk ?_
  refine AW.lp (fun qn st => ∃ (i : Nat), qn = i ∧ (i = 0) ∧  st = mk [(0, .val false [.s true 3 []]), (1, .val false [.v (.int .i64 k)]), (5, .val false [.v (.int .i64 ((i : Nat) : Int))])] []) (0) ⟨0, rfl, rfl, by simp⟩ ?_
  rintro qn st ⟨i, rfl, hi, rfl⟩
  refine AW.sq ?_
  refine AW.sq ?_
  refine AW.regt (st' := ?_) tab hE [0, 1, 5, 9] [] ?_ ?_
  rotate_left
  · simp -implicitDefEqProofs [-List.all_eq_true, tt3, tt4, tt31, tt80]
    rfl
  refine AW.cond (t := false) (by simp) ?_
  simp only [if_true, if_false, Bool.false_eq_true, reduceIte]
  refine AW.exit ?_
  simp only [loopQ, blockQ, thenQ, if_true, reduceIte, Nat.reduceEqDiff]
  refine AW.sq ?_
  refine AW.regt (st' := ?_) tab hE [0, 4] [] ?_ ?_
  rotate_left
  · simp -implicitDefEqProofs [-List.all_eq_true, tt3]
    rfl
  refine AW.ret (finF_ok tab hE ?_)
  simp -implicitDefEqProofs [-List.all_eq_true]
set_option maxHeartbeats 4000000 in
theorem l_heldAnsS0_spec (k : Int) : Lvm.Spec Try.prog [] 25 [.ro false [.s false 3 []], .ro false [.v (.int .i64 (k))]] [(false, [.v (.int .i64 (k))])] := by
  refine Spec.of (TT := TT) Try.func25 (by kernel_rfl) rfl (of_decide_eq_true rfl) fun X hn hok hio hfa => ?_
  have hE : Ev.ok ⟨40, 2, _⟩ X := ⟨hn, hok, hio⟩
  clear hn hok hio hfa
  refine AW.sq ?_
  refine AW.regt (st' := ?_) tab hE [0, 1] [] ?_ ?_
  rotate_left
  · simp -implicitDefEqProofs [-List.all_eq_true, tt3]
    rfl
  refine AW.sq ?_
  refine AW.sq ?_
  refine AW.regt (st' := ?_) tab hE [0, 1, 5] [] ?_ ?_
  rotate_left
  · simp -implicitDefEqProofs [-List.all_eq_true, tt3]
    rfl
  refine AW.bk ?_
  refine AW.lp (fun qn st => ∃ (i : Nat), qn = i ∧ (i = 0) ∧  st = mk [(0, .val false [.s false 3 []]), (1, .val false [.v (.int .i64 k)]), (5, .val false [.v (.int .i64 ((i : Nat) : Int))])] []) (0) ⟨0, rfl, rfl, by simp⟩ ?_
  rintro qn st ⟨i, rfl, hi, rfl⟩
  refine AW.sq ?_
  refine AW.sq ?_
  refine AW.regt (st' := ?_) tab hE [0, 1, 5, 9] [] ?_ ?_
  rotate_left
  · simp -implicitDefEqProofs [-List.all_eq_true, tt3, tt4, tt31, tt80]
    rfl
  refine AW.cond (t := false) (by simp) ?_
  simp only [if_true, if_false, Bool.false_eq_true, reduceIte]
  refine AW.exit ?_
  simp only [loopQ, blockQ, thenQ, if_true, reduceIte, Nat.reduceEqDiff]
  refine AW.sq ?_
  refine AW.regt (st' := ?_) tab hE [4] [] ?_ ?_
  rotate_left
  · simp -implicitDefEqProofs [-List.all_eq_true, tt3]
    rfl
  refine AW.ret (finF_ok tab hE ?_)
  simp -implicitDefEqProofs [-List.all_eq_true]
set_option maxHeartbeats 4000000 in
theorem l_eqTurnS0_spec  : Lvm.Spec Try.prog [] 16 [.ro false [.s false 8 []], .ro false [.s false 8 []]] [(false, [.v (.bool (true))])] := by
  refine Spec.of (TT := TT) Try.func16 (by kernel_rfl) rfl (of_decide_eq_true rfl) fun X hn hok hio hfa => ?_
  have hE : Ev.ok ⟨27, 2, _⟩ X := ⟨hn, hok, hio⟩
  clear hn hok hio hfa
  refine AW.sq ?_
  refine AW.regt (st' := ?_) tab hE [0, 1] [] ?_ ?_
  rotate_left
  · simp -implicitDefEqProofs [-List.all_eq_true, tt4]
    rfl
  refine AW.sq ?_
  refine AW.sq ?_
  refine AW.regt (st' := ?_) tab hE [0, 1, 10] [] ?_ ?_
  rotate_left
  · simp -implicitDefEqProofs [-List.all_eq_true, tt3, tt4, tt32, tt83]
    rfl
  refine AW.cond (t := false) (by simp) ?_
  simp only [if_true, if_false, Bool.false_eq_true, reduceIte]
  refine AW.skip ?_
  refine AW.sq ?_
  refine AW.sq ?_
  refine AW.regt (st' := ?_) tab hE [0, 1, 5] [] ?_ ?_
  rotate_left
  · simp -implicitDefEqProofs [-List.all_eq_true, tt3]
    rfl
  refine AW.bk ?_
  refine AW.lp (fun qn st => ∃ (i : Nat), qn = i ∧ (i = 0) ∧  st = mk [(0, .val false [.s false 8 []]), (1, .val false [.s false 8 []]), (5, .val false [.v (.int .i64 ((i : Nat) : Int))])] []) (0) ⟨0, rfl, rfl, by simp⟩ ?_
  rintro qn st ⟨i, rfl, hi, rfl⟩
  refine AW.sq ?_
  refine AW.sq ?_
  refine AW.regt (st' := ?_) tab hE [0, 1, 5, 14] [] ?_ ?_
  rotate_left
  · simp -implicitDefEqProofs [-List.all_eq_true, tt3, tt4, tt32, tt83]
    rfl
  refine AW.cond (t := false) (by simp) ?_
  simp only [if_true, if_false, Bool.false_eq_true, reduceIte]
  refine AW.exit ?_
  simp only [loopQ, blockQ, thenQ, if_true, reduceIte, Nat.reduceEqDiff]
  refine AW.sq ?_
  refine AW.regt (st' := ?_) tab hE [4] [] ?_ ?_
  rotate_left
  · simp -implicitDefEqProofs [-List.all_eq_true, tt4]
    rfl
  refine AW.ret (finF_ok tab hE ?_)
  simp -implicitDefEqProofs [-List.all_eq_true]
set_option maxHeartbeats 4000000 in
theorem l_markTurnS0_spec (k : Int) : Lvm.Spec Try.prog [] 21 [.le false [.s true 8 []] [.s true 8 []], .ro false [.v (.int .i64 (k))]] [(false, [.v (.int .i64 (k))])] := by
  refine Spec.of (TT := TT) Try.func21 (by kernel_rfl) rfl (of_decide_eq_true rfl) fun X hn hok hio hfa => ?_
  have hE : Ev.ok ⟨77, 2, _⟩ X := ⟨hn, hok, hio⟩
  clear hn hok hio hfa
  refine AW.sq ?_
  refine AW.regt (st' := ?_) tab hE [0, 1] [] ?_ ?_
  rotate_left
  · simp -implicitDefEqProofs [-List.all_eq_true, tt3]
    rfl
  refine AW.sq ?_
  refine AW.sq ?_
  refine AW.regt (st' := ?_) tab hE [0, 1, 5] [] ?_ ?_
  rotate_left
  · simp -implicitDefEqProofs [-List.all_eq_true, tt3]
    rfl
  refine AW.bk ?_
  refine AW.lp (fun qn st => ∃ (i : Nat), qn = i ∧ (i = 0) ∧  st = mk [(0, .val false [.s true 8 []]), (1, .val false [.v (.int .i64 k)]), (5, .val false [.v (.int .i64 ((i : Nat) : Int))])] []) (0) ⟨0, rfl, rfl, by simp⟩ ?_
  rintro qn st ⟨i, rfl, hi, rfl⟩
  refine AW.sq ?_
  refine AW.sq ?_
  refine AW.regt (st' := ?_) tab hE [0, 1, 5, 9] [] ?_ ?_
  rotate_left
  · simp -implicitDefEqProofs [-List.all_eq_true, tt3, tt4, tt32, tt83]
    rfl
  refine AW.cond (t := false) (by simp) ?_
  simp only [if_true, if_false, Bool.false_eq_true, reduceIte]
  refine AW.exit ?_
  simp only [loopQ, blockQ, thenQ, if_true, reduceIte, Nat.reduceEqDiff]
  refine AW.sq ?_
  refine AW.regt (st' := ?_) tab hE [0, 4] [] ?_ ?_
  rotate_left
  · simp -implicitDefEqProofs [-List.all_eq_true, tt3]
    rfl
  refine AW.ret (finF_ok tab hE ?_)
  simp -implicitDefEqProofs [-List.all_eq_true]
set_option maxHeartbeats 4000000 in
theorem l_heldTurnS0_spec (k : Int) : Lvm.Spec Try.prog [] 26 [.ro false [.s false 8 []], .ro false [.v (.int .i64 (k))]] [(false, [.v (.int .i64 (k))])] := by
  refine Spec.of (TT := TT) Try.func26 (by kernel_rfl) rfl (of_decide_eq_true rfl) fun X hn hok hio hfa => ?_
  have hE : Ev.ok ⟨93, 2, _⟩ X := ⟨hn, hok, hio⟩
  clear hn hok hio hfa
  refine AW.sq ?_
  refine AW.regt (st' := ?_) tab hE [0, 1] [] ?_ ?_
  rotate_left
  · simp -implicitDefEqProofs [-List.all_eq_true, tt3]
    rfl
  refine AW.sq ?_
  refine AW.sq ?_
  refine AW.regt (st' := ?_) tab hE [0, 1, 5] [] ?_ ?_
  rotate_left
  · simp -implicitDefEqProofs [-List.all_eq_true, tt3]
    rfl
  refine AW.bk ?_
  refine AW.lp (fun qn st => ∃ (i : Nat), qn = i ∧ (i = 0) ∧  st = mk [(0, .val false [.s false 8 []]), (1, .val false [.v (.int .i64 k)]), (5, .val false [.v (.int .i64 ((i : Nat) : Int))])] []) (0) ⟨0, rfl, rfl, by simp⟩ ?_
  rintro qn st ⟨i, rfl, hi, rfl⟩
  refine AW.sq ?_
  refine AW.sq ?_
  refine AW.regt (st' := ?_) tab hE [0, 1, 5, 9] [] ?_ ?_
  rotate_left
  · simp -implicitDefEqProofs [-List.all_eq_true, tt3, tt4, tt32, tt83]
    rfl
  refine AW.cond (t := false) (by simp) ?_
  simp only [if_true, if_false, Bool.false_eq_true, reduceIte]
  refine AW.exit ?_
  simp only [loopQ, blockQ, thenQ, if_true, reduceIte, Nat.reduceEqDiff]
  refine AW.sq ?_
  refine AW.regt (st' := ?_) tab hE [4] [] ?_ ?_
  rotate_left
  · simp -implicitDefEqProofs [-List.all_eq_true, tt3]
    rfl
  refine AW.ret (finF_ok tab hE ?_)
  simp -implicitDefEqProofs [-List.all_eq_true]
set_option maxHeartbeats 4000000 in
theorem l_eqEntS0_spec  : Lvm.Spec Try.prog [] 44 [.ro false [.s false 2 []], .ro false [.s false 2 []]] [(false, [.v (.bool (true))])] := by
  refine Spec.of (TT := TT) Try.func44 (by kernel_rfl) rfl (of_decide_eq_true rfl) fun X hn hok hio hfa => ?_
  have hE : Ev.ok ⟨27, 2, _⟩ X := ⟨hn, hok, hio⟩
  clear hn hok hio hfa
  refine AW.sq ?_
  refine AW.regt (st' := ?_) tab hE [0, 1] [] ?_ ?_
  rotate_left
  · simp -implicitDefEqProofs [-List.all_eq_true, tt4]
    rfl
  refine AW.sq ?_
  refine AW.sq ?_
  refine AW.regt (st' := ?_) tab hE [0, 1, 10] [] ?_ ?_
  rotate_left
  · simp -implicitDefEqProofs [-List.all_eq_true, tt3, tt4, tt26, tt99]
    rfl
  refine AW.cond (t := false) (by simp) ?_
  simp only [if_true, if_false, Bool.false_eq_true, reduceIte]
  refine AW.skip ?_
  refine AW.sq ?_
  refine AW.sq ?_
  refine AW.regt (st' := ?_) tab hE [0, 1, 5] [] ?_ ?_
  rotate_left
  · simp -implicitDefEqProofs [-List.all_eq_true, tt3]
    rfl
  refine AW.bk ?_
  refine AW.lp (fun qn st => ∃ (i : Nat), qn = i ∧ (i = 0) ∧  st = mk [(0, .val false [.s false 2 []]), (1, .val false [.s false 2 []]), (5, .val false [.v (.int .i64 ((i : Nat) : Int))])] []) (0) ⟨0, rfl, rfl, by simp⟩ ?_
  rintro qn st ⟨i, rfl, hi, rfl⟩
  refine AW.sq ?_
  refine AW.sq ?_
  refine AW.regt (st' := ?_) tab hE [0, 1, 5, 14] [] ?_ ?_
  rotate_left
  · simp -implicitDefEqProofs [-List.all_eq_true, tt3, tt4, tt26, tt99]
    rfl
  refine AW.cond (t := false) (by simp) ?_
  simp only [if_true, if_false, Bool.false_eq_true, reduceIte]
  refine AW.exit ?_
  simp only [loopQ, blockQ, thenQ, if_true, reduceIte, Nat.reduceEqDiff]
  refine AW.sq ?_
  refine AW.regt (st' := ?_) tab hE [4] [] ?_ ?_
  rotate_left
  · simp -implicitDefEqProofs [-List.all_eq_true, tt4]
    rfl
  refine AW.ret (finF_ok tab hE ?_)
  simp -implicitDefEqProofs [-List.all_eq_true]
set_option maxHeartbeats 4000000 in
theorem l_markEntS0_spec (k : Int) : Lvm.Spec Try.prog [] 50 [.le false [.s true 2 []] [.s true 2 []], .ro false [.v (.int .i64 (k))]] [(false, [.v (.int .i64 (k))])] := by
  refine Spec.of (TT := TT) Try.func50 (by kernel_rfl) rfl (of_decide_eq_true rfl) fun X hn hok hio hfa => ?_
  have hE : Ev.ok ⟨27, 2, _⟩ X := ⟨hn, hok, hio⟩
  clear hn hok hio hfa
  refine AW.sq ?_
  refine AW.regt (st' := ?_) tab hE [0, 1] [] ?_ ?_
  rotate_left
  · simp -implicitDefEqProofs [-List.all_eq_true, tt3]
    rfl
  refine AW.sq ?_
  refine AW.sq ?_
  refine AW.regt (st' := ?_) tab hE [0, 1, 5] [] ?_ ?_
  rotate_left
  · simp -implicitDefEqProofs [-List.all_eq_true, tt3]
    rfl
  refine AW.bk ?_
  refine AW.lp (fun qn st => ∃ (i : Nat), qn = i ∧ (i = 0) ∧  st = mk [(0, .val false [.s true 2 []]), (1, .val false [.v (.int .i64 k)]), (5, .val false [.v (.int .i64 ((i : Nat) : Int))])] []) (0) ⟨0, rfl, rfl, by simp⟩ ?_
  rintro qn st ⟨i, rfl, hi, rfl⟩
  refine AW.sq ?_
  refine AW.sq ?_
  refine AW.regt (st' := ?_) tab hE [0, 1, 5, 9] [] ?_ ?_
  rotate_left
  · simp -implicitDefEqProofs [-List.all_eq_true, tt3, tt4, tt26, tt99]
    rfl
  refine AW.cond (t := false) (by simp) ?_
  simp only [if_true, if_false, Bool.false_eq_true, reduceIte]
  refine AW.exit ?_
  simp only [loopQ, blockQ, thenQ, if_true, reduceIte, Nat.reduceEqDiff]
  refine AW.sq ?_
  refine AW.regt (st' := ?_) tab hE [0, 4] [] ?_ ?_
  rotate_left
  · simp -implicitDefEqProofs [-List.all_eq_true, tt3]
    rfl
  refine AW.ret (finF_ok tab hE ?_)
  simp -implicitDefEqProofs [-List.all_eq_true]
set_option maxHeartbeats 4000000 in
theorem l_heldEntS0_spec (k : Int) : Lvm.Spec Try.prog [] 53 [.ro false [.s false 2 []], .ro false [.v (.int .i64 (k))]] [(false, [.v (.int .i64 (k))])] := by
  refine Spec.of (TT := TT) Try.func53 (by kernel_rfl) rfl (of_decide_eq_true rfl) fun X hn hok hio hfa => ?_
  have hE : Ev.ok ⟨31, 2, _⟩ X := ⟨hn, hok, hio⟩
  clear hn hok hio hfa
  refine AW.sq ?_
  refine AW.regt (st' := ?_) tab hE [0, 1] [] ?_ ?_
  rotate_left
  · simp -implicitDefEqProofs [-List.all_eq_true, tt3]
    rfl
  refine AW.sq ?_
  refine AW.sq ?_
  refine AW.regt (st' := ?_) tab hE [0, 1, 5] [] ?_ ?_
  rotate_left
  · simp -implicitDefEqProofs [-List.all_eq_true, tt3]
    rfl
  refine AW.bk ?_
  refine AW.lp (fun qn st => ∃ (i : Nat), qn = i ∧ (i = 0) ∧  st = mk [(0, .val false [.s false 2 []]), (1, .val false [.v (.int .i64 k)]), (5, .val false [.v (.int .i64 ((i : Nat) : Int))])] []) (0) ⟨0, rfl, rfl, by simp⟩ ?_
  rintro qn st ⟨i, rfl, hi, rfl⟩
  refine AW.sq ?_
  refine AW.sq ?_
  refine AW.regt (st' := ?_) tab hE [0, 1, 5, 9] [] ?_ ?_
  rotate_left
  · simp -implicitDefEqProofs [-List.all_eq_true, tt3, tt4, tt26, tt99]
    rfl
  refine AW.cond (t := false) (by simp) ?_
  simp only [if_true, if_false, Bool.false_eq_true, reduceIte]
  refine AW.exit ?_
  simp only [loopQ, blockQ, thenQ, if_true, reduceIte, Nat.reduceEqDiff]
  refine AW.sq ?_
  refine AW.regt (st' := ?_) tab hE [4] [] ?_ ?_
  rotate_left
  · simp -implicitDefEqProofs [-List.all_eq_true, tt3]
    rfl
  refine AW.ret (finF_ok tab hE ?_)
  simp -implicitDefEqProofs [-List.all_eq_true]
set_option maxHeartbeats 4000000 in
theorem l_eqWrS0_spec  : Lvm.Spec Try.prog [] 76 [.ro false [.s false 2 []], .ro false [.s false 2 []]] [(false, [.v (.bool (true))])] := by
  refine Spec.of (TT := TT) Try.func76 (by kernel_rfl) rfl (of_decide_eq_true rfl) fun X hn hok hio hfa => ?_
  have hE : Ev.ok ⟨27, 2, _⟩ X := ⟨hn, hok, hio⟩
  clear hn hok hio hfa
  refine AW.sq ?_
  refine AW.regt (st' := ?_) tab hE [0, 1] [] ?_ ?_
  rotate_left
  · simp -implicitDefEqProofs [-List.all_eq_true, tt4]
    rfl
  refine AW.sq ?_
  refine AW.sq ?_
  refine AW.regt (st' := ?_) tab hE [0, 1, 10] [] ?_ ?_
  rotate_left
  · simp -implicitDefEqProofs [-List.all_eq_true, tt3, tt4, tt54, tt93]
    rfl
  refine AW.cond (t := false) (by simp) ?_
  simp only [if_true, if_false, Bool.false_eq_true, reduceIte]
  refine AW.skip ?_
  refine AW.sq ?_
  refine AW.sq ?_
  refine AW.regt (st' := ?_) tab hE [0, 1, 5] [] ?_ ?_
  rotate_left
  · simp -implicitDefEqProofs [-List.all_eq_true, tt3]
    rfl
  refine AW.bk ?_
  refine AW.lp (fun qn st => ∃ (i : Nat), qn = i ∧ (i = 0) ∧  st = mk [(0, .val false [.s false 2 []]), (1, .val false [.s false 2 []]), (5, .val false [.v (.int .i64 ((i : Nat) : Int))])] []) (0) ⟨0, rfl, rfl, by simp⟩ ?_
  rintro qn st ⟨i, rfl, hi, rfl⟩
  refine AW.sq ?_
  refine AW.sq ?_
  refine AW.regt (st' := ?_) tab hE [0, 1, 5, 14] [] ?_ ?_
  rotate_left
  · simp -implicitDefEqProofs [-List.all_eq_true, tt3, tt4, tt54, tt93]
    rfl
  refine AW.cond (t := false) (by simp) ?_
  simp only [if_true, if_false, Bool.false_eq_true, reduceIte]
  refine AW.exit ?_
  simp only [loopQ, blockQ, thenQ, if_true, reduceIte, Nat.reduceEqDiff]
  refine AW.sq ?_
  refine AW.regt (st' := ?_) tab hE [4] [] ?_ ?_
  rotate_left
  · simp -implicitDefEqProofs [-List.all_eq_true, tt4]
    rfl
  refine AW.ret (finF_ok tab hE ?_)
  simp -implicitDefEqProofs [-List.all_eq_true]
set_option maxHeartbeats 4000000 in
theorem l_markWrS0_spec (k : Int) : Lvm.Spec Try.prog [] 69 [.le false [.s true 2 []] [.s true 2 []], .ro false [.v (.int .i64 (k))]] [(false, [.v (.int .i64 (k))])] := by
  refine Spec.of (TT := TT) Try.func69 (by kernel_rfl) rfl (of_decide_eq_true rfl) fun X hn hok hio hfa => ?_
  have hE : Ev.ok ⟨27, 2, _⟩ X := ⟨hn, hok, hio⟩
  clear hn hok hio hfa
  refine AW.sq ?_
  refine AW.regt (st' := ?_) tab hE [0, 1] [] ?_ ?_
  rotate_left
  · simp -implicitDefEqProofs [-List.all_eq_true, tt3]
    rfl
  refine AW.sq ?_
  refine AW.sq ?_
  refine AW.regt (st' := ?_) tab hE [0, 1, 5] [] ?_ ?_
  rotate_left
  · simp -implicitDefEqProofs [-List.all_eq_true, tt3]
    rfl
  refine AW.bk ?_
  refine AW.lp (fun qn st => ∃ (i : Nat), qn = i ∧ (i = 0) ∧  st = mk [(0, .val false [.s true 2 []]), (1, .val false [.v (.int .i64 k)]), (5, .val false [.v (.int .i64 ((i : Nat) : Int))])] []) (0) ⟨0, rfl, rfl, by simp⟩ ?_
  rintro qn st ⟨i, rfl, hi, rfl⟩
  refine AW.sq ?_
  refine AW.sq ?_
  refine AW.regt (st' := ?_) tab hE [0, 1, 5, 9] [] ?_ ?_
  rotate_left
  · simp -implicitDefEqProofs [-List.all_eq_true, tt3, tt4, tt54, tt93]
    rfl
  refine AW.cond (t := false) (by simp) ?_
  simp only [if_true, if_false, Bool.false_eq_true, reduceIte]
  refine AW.exit ?_
  simp only [loopQ, blockQ, thenQ, if_true, reduceIte, Nat.reduceEqDiff]
  refine AW.sq ?_
  refine AW.regt (st' := ?_) tab hE [0, 4] [] ?_ ?_
  rotate_left
  · simp -implicitDefEqProofs [-List.all_eq_true, tt3]
    rfl
  refine AW.ret (finF_ok tab hE ?_)
  simp -implicitDefEqProofs [-List.all_eq_true]
set_option maxHeartbeats 4000000 in
theorem l_heldWrS0_spec (k : Int) : Lvm.Spec Try.prog [] 71 [.ro false [.s false 2 []], .ro false [.v (.int .i64 (k))]] [(false, [.v (.int .i64 (k))])] := by
  refine Spec.of (TT := TT) Try.func71 (by kernel_rfl) rfl (of_decide_eq_true rfl) fun X hn hok hio hfa => ?_
  have hE : Ev.ok ⟨31, 2, _⟩ X := ⟨hn, hok, hio⟩
  clear hn hok hio hfa
  refine AW.sq ?_
  refine AW.regt (st' := ?_) tab hE [0, 1] [] ?_ ?_
  rotate_left
  · simp -implicitDefEqProofs [-List.all_eq_true, tt3]
    rfl
  refine AW.sq ?_
  refine AW.sq ?_
  refine AW.regt (st' := ?_) tab hE [0, 1, 5] [] ?_ ?_
  rotate_left
  · simp -implicitDefEqProofs [-List.all_eq_true, tt3]
    rfl
  refine AW.bk ?_
  refine AW.lp (fun qn st => ∃ (i : Nat), qn = i ∧ (i = 0) ∧  st = mk [(0, .val false [.s false 2 []]), (1, .val false [.v (.int .i64 k)]), (5, .val false [.v (.int .i64 ((i : Nat) : Int))])] []) (0) ⟨0, rfl, rfl, by simp⟩ ?_
  rintro qn st ⟨i, rfl, hi, rfl⟩
  refine AW.sq ?_
  refine AW.sq ?_
  refine AW.regt (st' := ?_) tab hE [0, 1, 5, 9] [] ?_ ?_
  rotate_left
  · simp -implicitDefEqProofs [-List.all_eq_true, tt3, tt4, tt54, tt93]
    rfl
  refine AW.cond (t := false) (by simp) ?_
  simp only [if_true, if_false, Bool.false_eq_true, reduceIte]
  refine AW.exit ?_
  simp only [loopQ, blockQ, thenQ, if_true, reduceIte, Nat.reduceEqDiff]
  refine AW.sq ?_
  refine AW.regt (st' := ?_) tab hE [4] [] ?_ ?_
  rotate_left
  · simp -implicitDefEqProofs [-List.all_eq_true, tt3]
    rfl
  refine AW.ret (finF_ok tab hE ?_)
  simp -implicitDefEqProofs [-List.all_eq_true]
end Go.Proofs.Ytm
