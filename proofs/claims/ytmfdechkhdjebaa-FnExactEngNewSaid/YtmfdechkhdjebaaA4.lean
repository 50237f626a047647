/- Contracts of the program's functions, each for all arguments that its hypotheses allow: proved over the loaded program by the by-value machine of the Lvm texts. -/
import Derived.Test.YtmfdechkhdjebaaA3
set_option linter.unusedVariables false
set_option linter.unusedSimpArgs false
namespace Go.Proofs.Ytm
open Go.Lvm Go.Proofs
attribute [local simp] put_env put_var put_cv put_cs famS_env famS_var famS_cv famS_cs dE dC dV dU lkC runK runF ev_move ev_assign ev_pick ev_bin ev_un ev_conv ev_load ev_field ev_index ev_alloc ev_box ev_extract ev_len ev_append ev_build ev_buildS ev_store ev_makeS ev_slice Ev.dst Ev.src leAt moveF assignF viewL viewP mk_put mk_born mk_rv mk_rs mk_touch mk_touch2 touE2 L.touch2 mk_env mk_var mk_cv mk_cs delE delB delV setE touE lk lkv kill_dead kill_v kill_sptr kill_tup kill_ref kill_win kill_ptr L.base L.touch L.setCells L.cells Value.oneCell' isSt_v isSt_s isSt_d scal opv binS binF unS pickF st0_mk st0E st0V gokF gval gvV gtup skipF int_beq int_bne eqI_self mk_keep selE selV finF retF St.take ownL ownC Posts Post St.grab nz getC setC loadL fieldL lastOff ownR snap sttL stt sttR roOK snapRt resL isV sliceC lenS indexL intOf ros grd thenQ blockQ loopQ upd kill_ite touch_ite cells_ite lkv_ite lk_ite fam famE famF bef Region.binds rows_len rows_nil rows_get rows_get? stt_ints stt_intss stt_wrs stt_mems stt_cmds stt_jobs stt_anss stt_turns ownR_rep ownR_app allSt_ints allSt_intss allSt_wrs allSt_mems allSt_cmds allSt_jobs allSt_anss allSt_turns own_ints own_intss own_wrs own_mems own_cmds own_jobs own_anss own_turns intC intsC wrC memC geoC superC arrC cmdC jobC ansC turnC engC St.parts partsOf rowsOf lput chunk appF appOK St.elems gone goneIn convS bndF sliceL

set_option maxHeartbeats 4000000 in
theorem i_copyMem_spec (m : Mem) (hm : MemF m) : Lvm.Spec Try.prog [] 57 [.ro true (memC false m)] [(true, memC true m)] := by
  refine Spec.of (TT := TT) Try.func57 (by kernel_rfl) rfl (of_decide_eq_true rfl) fun X hn hok hio hfa => ?_
  have hE : Ev.ok ⟨49, 1, _⟩ X := ⟨hn, hok, hio⟩
  clear hn hok hio hfa
  have hs1 := hm.secs
  have hs2 := hm.cache
  refine AW.sq ?_
  refine AW.regt (st' := ?_) tab hE [1, 2] [1, 2] ?_ ?_
  rotate_left
  · simp -implicitDefEqProofs [-List.all_eq_true, tt57]
    rfl
  refine AW.sq ?_
  refine AW.drawnI (st' := ?_) (by kernel_rfl) 7 [1, 2] [1, 2] [1, 2, 3, 13] [1, 2, 3] (e := ?_) (v := ?_) [{ d := 8, l := ?_ }, { d := 9, l := ?_ }, { d := 10, l := ?_ }, { d := 11, l := ?_ }, { d := 12, l := ?_ }, { d := 13, l := ?_, cs := [(12, .dead)] }, { d := 3, l := .ptr (.var 3) 0 [], b := some ?_ }] ?d0h0 (by decide) (by rfl) (by rfl) (by rfl) ?d0hs ?d0hok ?d0hd ?d0hw ?d0hq
  case d0h0 =>
    simp -implicitDefEqProofs
    rfl
  case d0hs =>
    refine ⟨fun S hS hB hA => ?_, fun S hS hB hA => ?_, fun S hS hB hA => ?_, fun S hS hB hA => ?_, fun S hS hB hA => ?_, fun S hS hB hA => ?_, fun S hS hB hA => ?_, rfl⟩
    · skip
      refine OpDo.runI tab hE rfl rfl ?_
      simp -implicitDefEqProofs [-List.all_eq_true, DI.res, setCs, tt57, hS]
      rfl
    · simp at hB
      refine OpDo.runI tab hE rfl rfl ?_
      simp -implicitDefEqProofs [-List.all_eq_true, DI.res, setCs, tt4, hS, hB]
      rfl
    · skip
      refine OpDo.runI tab hE rfl rfl ?_
      simp -implicitDefEqProofs [-List.all_eq_true, DI.res, setCs, tt3, tt57, hS]
      rfl
    · simp at hB
      refine OpDo.runI tab hE rfl rfl ?_
      simp -implicitDefEqProofs [-List.all_eq_true, DI.res, setCs, tt3, tt55, hS, hB]
      rfl
    · simp at hB
      exact OpDo.callRD hE (i_copyInts_spec m.bad hm.bad) (by rfl) (by simp) (by simp -implicitDefEqProofs [-List.all_eq_true, tt3, tt55, hS, hB]) (by simp) (by rfl)
    · simp at hB
      refine OpDo.runI tab hE rfl rfl ?_
      simp -implicitDefEqProofs [-List.all_eq_true, DI.res, setCs, tt3, tt57, hS, hB]
      rfl
    · skip
      refine OpDo.runI tab hE rfl rfl ?_
      simp -implicitDefEqProofs [-List.all_eq_true, DI.res, setCs, tt57, hS]
      rfl
  case d0hok => simp -implicitDefEqProofs [famOK, sepE, sepI, sepL, noC, ndC, ndU]
  case d0hd => simp
  case d0hw =>
    simp -implicitDefEqProofs
    rfl
  refine AO.fin (st' := ?_) tab hE [1, 2, 3] [1, 2, 3] ?_ ?_
  rotate_left
  · simp -implicitDefEqProofs [-List.all_eq_true, tt57]
    rfl
  refine AW.sq ?_
  refine AW.sq ?_
  refine AW.regt (st' := ?_) tab hE [1, 2, 3, 15, 16, 17] [1, 2, 3] ?_ ?_
  rotate_left
  · simp -implicitDefEqProofs [-List.all_eq_true, tt3, tt53, tt55, tt57]
    rfl
  refine AW.bk ?_
  refine AW.lp (fun qn st => ∃ (i : Nat), qn = m.secs.length - i ∧ (i ≤ m.secs.length) ∧  st = mk [(1, .ptr (.var 1) 0 []), (2, .ptr (.var 2) 0 []), (3, .ptr (.var 3) 0 []), (15, .val false [.s false 1 (rows (intsC false) m.secs)]), (16, .val false [.v (.int .i64 ((m.secs.length : Nat) : Int))]), (17, .val false [.v (.int .i64 ((i : Nat) : Int))])] [(1, memC false m), (2, [.s true 1 [], .s true 2 [], .v (.bool false), .s true 1 []]), (3, [.s true 1 (rows (intsC true) (m.secs.take i)), .s true 2 [], .v (.bool m.failed), .s true 1 (rows intC m.bad)])]) (m.secs.length) ⟨0, by simp, by simp, by simp [rows, memC]⟩ ?_
  rintro qn st ⟨i, rfl, hi, rfl⟩
  refine AW.sq ?_
  refine AW.regt (st' := ?_) tab hE [1, 2, 3, 15, 16, 17, 18] [1, 2, 3] ?_ ?_
  rotate_left
  · simp -implicitDefEqProofs [-List.all_eq_true, tt3]
    rfl
  refine AW.sq ?_
  refine AW.iteV (v := ?_) (t := ?_) ?_ ?_ (fun h0 => ?_) (fun h0 => ?_)
  rotate_left 2
  · simp -implicitDefEqProofs [-List.all_eq_true]
    rfl
  · rfl
  · skip
    replace h0 := BP.pos h0
    have h0' := h0
    try simp at h0'
    refine AW.skip ?_
    refine AW.sq ?_
    refine AW.bk ?_
    refine AW.sq ?_
    refine AW.regt (st' := ?_) tab hE [1, 2, 3, 5, 15, 16, 17] [1, 2, 3] ?_ ?_
    rotate_left
    · simp -implicitDefEqProofs [-List.all_eq_true, tt3, tt53, tt55, h0, h0']
      rfl
    refine AW.drawnI (st' := ?_) (by kernel_rfl) 5 [1, 2, 3, 5, 15, 16, 17] [1, 2, 3] [1, 2, 3, 15, 16, 17, 22, 25] [1, 2, 3] (e := ?_) (v := ?_) [{ d := 21, l := ?_ }, { d := 22, l := ?_ }, { d := 23, l := ?_ }, { d := 24, l := ?_ }, { d := 25, l := ?_, cs := [(24, .dead)] }] ?d1h0 (by decide) (by rfl) (by rfl) (by rfl) ?d1hs ?d1hok ?d1hd ?d1hw ?d1hq
    case d1h0 =>
      simp -implicitDefEqProofs
      rfl
    case d1hs =>
      refine ⟨fun S hS hB hA => ?_, fun S hS hB hA => ?_, fun S hS hB hA => ?_, fun S hS hB hA => ?_, fun S hS hB hA => ?_, rfl⟩
      · skip
        refine OpDo.runI tab hE rfl rfl ?_
        simp -implicitDefEqProofs [-List.all_eq_true, DI.res, setCs, tt57, h0, h0', Nat.min_eq_left hi, show (i + 1) * 24 ≤ 140737488355328 by omega, show i + 1 ≤ 140737488355328 by omega, hS]
        rfl
      · simp at hB
        refine OpDo.runI tab hE rfl rfl ?_
        simp -implicitDefEqProofs [-List.all_eq_true, DI.res, setCs, tt53, tt55, h0, h0', Nat.min_eq_left hi, show (i + 1) * 24 ≤ 140737488355328 by omega, show i + 1 ≤ 140737488355328 by omega, hS, hB]
        rfl
      · skip
        refine OpDo.runI tab hE rfl rfl ?_
        simp -implicitDefEqProofs [-List.all_eq_true, DI.res, setCs, tt3, tt55, h0, h0', Nat.min_eq_left hi, show (i + 1) * 24 ≤ 140737488355328 by omega, show i + 1 ≤ 140737488355328 by omega, hS]
        rfl
      · simp at hB
        exact OpDo.callRD hE (i_copyInts_spec m.secs[i] (hm.sec _ (List.getElem_mem _))) (by rfl) (by simp) (by simp -implicitDefEqProofs [-List.all_eq_true, tt3, tt55, h0, h0', Nat.min_eq_left hi, show (i + 1) * 24 ≤ 140737488355328 by omega, show i + 1 ≤ 140737488355328 by omega, hS, hB]) (by simp) (by rfl)
      · simp at hB
        refine OpDo.runI tab hE rfl rfl ?_
        simp -implicitDefEqProofs [-List.all_eq_true, DI.res, setCs, tt53, tt55, h0, h0', Nat.min_eq_left hi, show (i + 1) * 24 ≤ 140737488355328 by omega, show i + 1 ≤ 140737488355328 by omega, hS, hB]
        rfl
    case d1hok => simp -implicitDefEqProofs [famOK, sepE, sepI, sepL, noC, ndC, ndU]
    case d1hd => simp
    case d1hw =>
      simp -implicitDefEqProofs
      rfl
    refine AO.fin (st' := ?_) tab hE [1, 2, 3, 15, 16, 17] [1, 2, 3] ?_ ?_
    rotate_left
    · simp -implicitDefEqProofs [-List.all_eq_true, tt53, tt55, tt57, h0, h0', Nat.min_eq_left hi, show (i + 1) * 24 ≤ 140737488355328 by omega, show i + 1 ≤ 140737488355328 by omega]
      rfl
    refine AW.regt (st' := ?_) tab hE [1, 2, 3, 15, 16, 17] [1, 2, 3] ?_ ?_
    rotate_left
    · simp -implicitDefEqProofs [-List.all_eq_true, tt3, h0, h0']
      rfl
    exact ⟨_, by omega, i + 1, rfl, by omega, by rw [wrap_succ i _ h0' (by omega), rows_ts _ _ _ h0']; simp [intsC, memC]⟩
  replace h0 := BP.neg h0
  have h0' := h0
  try simp at h0'
  refine AW.exit ?_
  simp only [loopQ, blockQ, thenQ, if_true, reduceIte, Nat.reduceEqDiff]
  refine AW.sq ?_
  refine AW.sq ?_
  refine AW.regt (st' := ?_) tab hE [2, 3, 30, 31, 32] [1, 2, 3] ?_ ?_
  rotate_left
  · simp -implicitDefEqProofs [-List.all_eq_true, tt3, tt54, tt57, tt93, h0, h0']
    rfl
  refine AW.bk ?_
  refine AW.lp (fun qn st => ∃ (i : Nat), qn = m.cache.length - i ∧ (i ≤ m.cache.length) ∧  st = mk [(2, .ptr (.var 2) 0 []), (3, .ptr (.var 3) 0 []), (30, .val false [.s false 2 (rows (wrC false) m.cache)]), (31, .val false [.v (.int .i64 ((m.cache.length : Nat) : Int))]), (32, .val false [.v (.int .i64 ((i : Nat) : Int))])] [(1, memC false m), (2, [.s true 1 [], .s true 2 [], .v (.bool false), .s true 1 []]), (3, [.s true 1 (rows (intsC true) m.secs), .s true 2 (rows (wrC true) (m.cache.take i)), .v (.bool m.failed), .s true 1 (rows intC m.bad)])]) (m.cache.length) ⟨0, by simp, by simp, by simp [rows, memC, List.take_of_length_le (show m.secs.length ≤ i by omega)]⟩ ?_
  rintro qn st ⟨i, rfl, hi, rfl⟩
  refine AW.sq ?_
  refine AW.regt (st' := ?_) tab hE [2, 3, 30, 31, 32, 33] [1, 2, 3] ?_ ?_
  rotate_left
  · simp -implicitDefEqProofs [-List.all_eq_true, tt3, h0, h0']
    rfl
  refine AW.sq ?_
  refine AW.iteV (v := ?_) (t := ?_) ?_ ?_ (fun h1 => ?_) (fun h1 => ?_)
  rotate_left 2
  · simp -implicitDefEqProofs [-List.all_eq_true, h0, h0']
    rfl
  · rfl
  · skip
    replace h1 := BP.pos h1
    have h1' := h1
    try simp at h1'
    refine AW.skip ?_
    refine AW.sq ?_
    refine AW.bk ?_
    refine AW.sq ?_
    refine AW.regt (st' := ?_) tab hE [2, 3, 7, 30, 31, 32] [1, 2, 3, 7] ?_ ?_
    rotate_left
    · simp -implicitDefEqProofs [-List.all_eq_true, tt54, tt93, h0, h0', h1, h1']
      rfl
    refine AW.drawnI (st' := ?_) (by kernel_rfl) 9 [2, 3, 7, 30, 31, 32] [1, 2, 3, 7] [2, 3, 30, 31, 32, 37, 44] [1, 2, 3] (e := ?_) (v := ?_) [{ d := 36, l := ?_ }, { d := 37, l := ?_ }, { d := 38, l := ?_ }, { d := 39, l := ?_ }, { d := 40, l := ?_ }, { d := 41, l := ?_ }, { d := 42, l := ?_ }, { d := 43, l := ?_, cs := [(42, .dead)] }, { d := 44, l := ?_, cs := [(43, .dead)] }] ?d2h0 (by decide) (by rfl) (by rfl) (by rfl) ?d2hs ?d2hok ?d2hd ?d2hw ?d2hq
    case d2h0 =>
      simp -implicitDefEqProofs
      rfl
    case d2hs =>
      refine ⟨fun S hS hB hA => ?_, fun S hS hB hA => ?_, fun S hS hB hA => ?_, fun S hS hB hA => ?_, fun S hS hB hA => ?_, fun S hS hB hA => ?_, fun S hS hB hA => ?_, fun S hS hB hA => ?_, fun S hS hB hA => ?_, rfl⟩
      · skip
        refine OpDo.runI tab hE rfl rfl ?_
        simp -implicitDefEqProofs [-List.all_eq_true, DI.res, setCs, tt57, h0, h0', h1, h1', Nat.min_eq_left hi, show (i + 1) * 32 ≤ 140737488355328 by omega, show i + 1 ≤ 140737488355328 by omega, hS]
        rfl
      · simp at hB
        refine OpDo.runI tab hE rfl rfl ?_
        simp -implicitDefEqProofs [-List.all_eq_true, DI.res, setCs, tt54, tt93, h0, h0', h1, h1', Nat.min_eq_left hi, show (i + 1) * 32 ≤ 140737488355328 by omega, show i + 1 ≤ 140737488355328 by omega, hS, hB]
        rfl
      · skip
        refine OpDo.runI tab hE rfl rfl ?_
        simp -implicitDefEqProofs [-List.all_eq_true, DI.res, setCs, tt93, h0, h0', h1, h1', Nat.min_eq_left hi, show (i + 1) * 32 ≤ 140737488355328 by omega, show i + 1 ≤ 140737488355328 by omega, hS]
        rfl
      · simp at hB
        refine OpDo.runI tab hE rfl rfl ?_
        simp -implicitDefEqProofs [-List.all_eq_true, DI.res, setCs, tt3, h0, h0', h1, h1', Nat.min_eq_left hi, show (i + 1) * 32 ≤ 140737488355328 by omega, show i + 1 ≤ 140737488355328 by omega, hS, hB]
        rfl
      · skip
        refine OpDo.runI tab hE rfl rfl ?_
        simp -implicitDefEqProofs [-List.all_eq_true, DI.res, setCs, tt93, h0, h0', h1, h1', Nat.min_eq_left hi, show (i + 1) * 32 ≤ 140737488355328 by omega, show i + 1 ≤ 140737488355328 by omega, hS]
        rfl
      · simp at hB
        refine OpDo.runI tab hE rfl rfl ?_
        simp -implicitDefEqProofs [-List.all_eq_true, DI.res, setCs, tt3, tt55, h0, h0', h1, h1', Nat.min_eq_left hi, show (i + 1) * 32 ≤ 140737488355328 by omega, show i + 1 ≤ 140737488355328 by omega, hS, hB]
        rfl
      · simp at hB
        exact OpDo.callRD hE (i_copyInts_spec m.cache[i].s (hm.wr _ (List.getElem_mem _))) (by rfl) (by simp) (by simp -implicitDefEqProofs [-List.all_eq_true, tt3, tt55, h0, h0', h1, h1', Nat.min_eq_left hi, show (i + 1) * 32 ≤ 140737488355328 by omega, show i + 1 ≤ 140737488355328 by omega, hS, hB]) (by simp) (by rfl)
      · simp at hB
        refine OpDo.runI tab hE rfl rfl ?_
        simp -implicitDefEqProofs [-List.all_eq_true, DI.res, setCs, tt93, h0, h0', h1, h1', Nat.min_eq_left hi, show (i + 1) * 32 ≤ 140737488355328 by omega, show i + 1 ≤ 140737488355328 by omega, hS, hB]
        rfl
      · simp at hB
        refine OpDo.runI tab hE rfl rfl ?_
        simp -implicitDefEqProofs [-List.all_eq_true, DI.res, setCs, tt54, tt93, h0, h0', h1, h1', Nat.min_eq_left hi, show (i + 1) * 32 ≤ 140737488355328 by omega, show i + 1 ≤ 140737488355328 by omega, hS, hB]
        rfl
    case d2hok => simp -implicitDefEqProofs [famOK, sepE, sepI, sepL, noC, ndC, ndU]
    case d2hd => simp
    case d2hw =>
      simp -implicitDefEqProofs
      rfl
    refine AO.fin (st' := ?_) tab hE [2, 3, 30, 31, 32] [1, 2, 3] ?_ ?_
    rotate_left
    · simp -implicitDefEqProofs [-List.all_eq_true, tt54, tt57, tt93, h0, h0', h1, h1', Nat.min_eq_left hi, show (i + 1) * 32 ≤ 140737488355328 by omega, show i + 1 ≤ 140737488355328 by omega]
      rfl
    refine AW.regt (st' := ?_) tab hE [2, 3, 30, 31, 32] [1, 2, 3] ?_ ?_
    rotate_left
    · simp -implicitDefEqProofs [-List.all_eq_true, tt3, h0, h0', h1, h1']
      rfl
    exact ⟨_, by omega, i + 1, rfl, by omega, by rw [wrap_succ i _ h1' (by omega), rows_ts _ _ _ h1']; simp [wrC, memC]⟩
  replace h1 := BP.neg h1
  have h1' := h1
  try simp at h1'
  refine AW.exit ?_
  simp only [loopQ, blockQ, thenQ, if_true, reduceIte, Nat.reduceEqDiff]
  refine AW.sq ?_
  refine AW.regt (st' := ?_) tab hE [2] [2] ?_ ?_
  rotate_left
  · simp -implicitDefEqProofs [-List.all_eq_true, tt57, h0, h0', h1, h1']
    rfl
  refine AW.ret (finF_ok tab hE ?_)
  simp [tt57, List.take_of_length_le (show m.cache.length ≤ i by omega)]
end Go.Proofs.Ytm
