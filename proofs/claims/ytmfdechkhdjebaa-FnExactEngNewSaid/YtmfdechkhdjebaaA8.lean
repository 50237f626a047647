/- Contracts of the program's functions, each for all arguments that its hypotheses allow: proved over the loaded program by the by-value machine of the Lvm texts. -/
import Derived.Test.YtmfdechkhdjebaaE1
import Derived.Test.YtmfdechkhdjebaaA6
set_option linter.unusedVariables false
set_option linter.unusedSimpArgs false
namespace Go.Proofs.Ytm
open Go.Lvm Go.Proofs
attribute [local simp] put_env put_var put_cv put_cs famS_env famS_var famS_cv famS_cs dE dC dV dU lkC runK runF ev_move ev_assign ev_pick ev_bin ev_un ev_conv ev_load ev_field ev_index ev_alloc ev_box ev_extract ev_len ev_append ev_build ev_buildS ev_store ev_makeS ev_slice Ev.dst Ev.src leAt moveF assignF viewL viewP mk_put mk_born mk_rv mk_rs mk_touch mk_touch2 touE2 L.touch2 mk_env mk_var mk_cv mk_cs delE delB delV setE touE lk lkv kill_dead kill_v kill_sptr kill_tup kill_ref kill_win kill_ptr L.base L.touch L.setCells L.cells Value.oneCell' isSt_v isSt_s isSt_d scal opv binS binF unS pickF st0_mk st0E st0V gokF gval gvV gtup skipF int_beq int_bne eqI_self mk_keep selE selV finF retF St.take ownL ownC Posts Post St.grab nz getC setC loadL fieldL lastOff ownR snap sttL stt sttR roOK snapRt resL isV sliceC lenS indexL intOf ros grd thenQ blockQ loopQ upd kill_ite touch_ite cells_ite lkv_ite lk_ite fam famE famF bef Region.binds rows_len rows_nil rows_get rows_get? stt_ints stt_intss stt_wrs stt_mems stt_cmds stt_jobs stt_anss stt_turns ownR_rep ownR_app allSt_ints allSt_intss allSt_wrs allSt_mems allSt_cmds allSt_jobs allSt_anss allSt_turns own_ints own_intss own_wrs own_mems own_cmds own_jobs own_anss own_turns intC intsC wrC memC geoC superC arrC cmdC jobC ansC turnC engC St.parts partsOf rowsOf lput chunk appF appOK St.elems gone goneIn convS bndF sliceL

set_option maxHeartbeats 4000000 in
theorem i_FlushMem_spec (m : Mem) (hm : MemF m) : Lvm.Spec Try.prog [] 41 [.ro true (memC false m)] [(true, memC true (flushMem m))] := by
  refine Spec.of (TT := TT) Try.func41 (by kernel_rfl) rfl (of_decide_eq_true rfl) fun X hn hok hio hfa => ?_
  have hE : Ev.ok ⟨34, 1, _⟩ X := ⟨hn, hok, hio⟩
  clear hn hok hio hfa
  have hs1 := hm.secs
  have hs2 := hm.cache
  refine AW.sq ?_
  refine AW.regt (st' := ?_) tab hE [1, 2] [1, 2] ?_ ?_
  rotate_left
  · simp -implicitDefEqProofs [-List.all_eq_true, tt57]
    rfl
  refine AW.sq ?_
  refine AW.rego ?_
  refine AO.runK (st' := ?_) tab hE [1, 2, 6] [1, 2] 1 ?_ ?_
  rotate_left
  · simp -implicitDefEqProofs [-List.all_eq_true, tt57]
    rfl
  refine AO.callR hE (i_copyMem_spec m hm) (by simp) (by simp) (by simp -implicitDefEqProofs [-List.all_eq_true]) (by simp) ?_
  refine AO.fin (st' := ?_) tab hE [1, 2, 3] [1, 2, 3] ?_ ?_
  rotate_left
  · simp -implicitDefEqProofs [-List.all_eq_true, tt57]
    rfl
  refine AW.sq ?_
  refine AW.sq ?_
  refine AW.regB (S0 := ?_) [1, 2, 3] [1, 2, 3] 14 (!flushOK m) ?_ ?_ ?_
  rotate_left
  · simp -implicitDefEqProofs
    rfl
  · skip
    refine AO.runK (st' := ?_) tab hE [1, 2, 3, 8] [1, 2, 3] 1 ?_ ?_
    rotate_left
    · simp -implicitDefEqProofs [-List.all_eq_true, tt57]
      rfl
    refine AO.callR hE (i_MemOk_spec m hm) (by simp) (by simp) (by simp -implicitDefEqProofs [-List.all_eq_true]) (by simp) ?_
    refine AO.runK (st' := ?_) tab hE [1, 2, 3, 11] [1, 2, 3] 2 ?_ ?_
    rotate_left
    · simp -implicitDefEqProofs [-List.all_eq_true, tt4]
      rfl
    refine AO.guardV (v := ?_) (t := ?_) 3 ?_ ?_ (fun g0 => ?_) (fun g0 => ?_)
    rotate_left 2
    · simp -implicitDefEqProofs [-List.all_eq_true]
      rfl
    · rfl
    · skip
      replace g0 := BP.pos g0
      have g0' := g0
      try simp at g0'
      refine AO.finB tab hE [14, 1, 2, 3] [1, 2, 3] ?_
      simp -implicitDefEqProofs [-List.all_eq_true, flushOK, tt4, tt57, g0, g0']
    · skip
      replace g0 := BP.neg g0
      have g0' := g0
      try simp at g0'
      refine AO.finB tab hE [14, 1, 2, 3] [1, 2, 3] ?_
      simp -implicitDefEqProofs [-List.all_eq_true, flushOK, tt4, tt57, g0, g0']
  refine AW.iteV (v := ?_) (t := ?_) ?_ ?_ (fun h0 => ?_) (fun h0 => ?_)
  rotate_left 2
  · simp -implicitDefEqProofs [-List.all_eq_true]
    rfl
  · rfl
  · skip
    replace h0 := BP.pos h0
    have h0' := h0
    try simp at h0'
    refine AW.sq ?_
    refine AW.regt (st' := ?_) tab hE [2] [2] ?_ ?_
    rotate_left
    · simp -implicitDefEqProofs [-List.all_eq_true, tt57, h0, h0']
      rfl
    refine AW.ret (finF_ok tab hE ?_)
    simp [tt57, flushMem, h0]
  replace h0 := BP.neg h0
  have h0' := h0
  try simp at h0'
  refine AW.skip ?_
  refine AW.sq ?_
  refine AW.sq ?_
  refine AW.regt (st' := ?_) tab hE [2, 3, 17, 18, 19] [1, 2, 3] ?_ ?_
  rotate_left
  · simp -implicitDefEqProofs [-List.all_eq_true, tt3, tt54, tt57, tt93, h0, h0']
    rfl
  refine AW.bk ?_
  refine AW.lp (fun qn st => ∃ (i : Nat), qn = m.cache.length - i ∧ (i ≤ m.cache.length) ∧  st = mk [(2, .ptr (.var 2) 0 []), (3, .ptr (.var 3) 0 []), (17, .val false [.s false 2 (rows (wrC false) m.cache)]), (18, .val false [.v (.int .i64 ((m.cache.length : Nat) : Int))]), (19, .val false [.v (.int .i64 ((i : Nat) : Int))])] [(1, memC false m), (2, [.s true 1 [], .s true 2 [], .v (.bool false), .s true 1 []]), (3, [.s true 1 (rows (intsC true) (flushTo m i)), .s true 2 (rows (wrC true) m.cache), .v (.bool m.failed), .s true 1 (rows intC m.bad)])]) (m.cache.length) ⟨0, by simp, by simp, by simp [flushTo, memC]⟩ ?_
  rintro qn st ⟨i, rfl, hi, rfl⟩
  refine AW.sq ?_
  refine AW.regt (st' := ?_) tab hE [2, 3, 17, 18, 19, 20] [1, 2, 3] ?_ ?_
  rotate_left
  · simp -implicitDefEqProofs [-List.all_eq_true, tt3, h0, h0']
    rfl
  refine AW.sq ?_
  refine AW.iteV (v := ?_) (t := ?_) ?_ ?_ (fun h1 => ?_) (fun h1 => ?_)
  rotate_left 2
  · simp -implicitDefEqProofs [-List.all_eq_true, h0, h0']
    rfl
  · rfl
  · skip
    replace h1 := BP.pos h1
    have h1' := h1
    try simp at h1'
    refine AW.skip ?_
    refine AW.sq ?_
    refine AW.bk ?_
    refine AW.sq ?_
    refine AW.regt (st' := ?_) tab hE [2, 3, 5, 17, 18, 19] [1, 2, 3, 5] ?_ ?_
    rotate_left
    · simp -implicitDefEqProofs [-List.all_eq_true, tt54, tt93, h0, h0', h1, h1']
      rfl
    have hc := cache_in (flushOK_mem h0) hm.secs i h1'
    refine AW.drawnI (st' := ?_) (by kernel_rfl) 7 [2, 3, 5, 17, 18, 19] [1, 2, 3, 5] [2, 3, 17, 18, 19, 24, 26, 29] [1, 2, 3, 5] (e := ?_) (v := ?_) [{ d := 23, l := ?_ }, { d := 24, l := ?_ }, { d := 25, l := ?_ }, { d := 26, l := ?_ }, { d := 27, l := ?_ }, { d := 28, l := ?_ }, { d := 29, l := ?_ }] ?d0h0 (by decide) (by rfl) (by rfl) (by rfl) ?d0hs ?d0hok ?d0hd ?d0hw ?d0hq
    case d0h0 =>
      simp -implicitDefEqProofs
      rfl
    case d0hs =>
      refine ⟨fun S hS hB hA => ?_, fun S hS hB hA => ?_, fun S hS hB hA => ?_, fun S hS hB hA => ?_, fun S hS hB hA => ?_, fun S hS hB hA => ?_, fun S hS hB hA => ?_, rfl⟩
      · skip
        refine OpDo.runI tab hE rfl rfl ?_
        simp -implicitDefEqProofs [-List.all_eq_true, DI.res, setCs, tt57, h0, h0', h1, h1', hc.1, hc.2, flushTo_len, hS]
        rfl
      · simp at hB
        refine OpDo.runI tab hE rfl rfl ?_
        simp -implicitDefEqProofs [-List.all_eq_true, DI.res, setCs, tt53, tt55, h0, h0', h1, h1', hc.1, hc.2, flushTo_len, hS, hB]
        rfl
      · skip
        refine OpDo.runI tab hE rfl rfl ?_
        simp -implicitDefEqProofs [-List.all_eq_true, DI.res, setCs, tt93, h0, h0', h1, h1', hc.1, hc.2, flushTo_len, hS]
        rfl
      · simp at hB
        refine OpDo.runI tab hE rfl rfl ?_
        simp -implicitDefEqProofs [-List.all_eq_true, DI.res, setCs, tt3, h0, h0', h1, h1', hc.1, hc.2, flushTo_len, hS, hB]
        rfl
      · skip
        refine OpDo.runI tab hE rfl rfl ?_
        simp -implicitDefEqProofs [-List.all_eq_true, DI.res, setCs, tt93, h0, h0', h1, h1', hc.1, hc.2, flushTo_len, hS]
        rfl
      · simp at hB
        refine OpDo.runI tab hE rfl rfl ?_
        simp -implicitDefEqProofs [-List.all_eq_true, DI.res, setCs, tt3, tt55, h0, h0', h1, h1', hc.1, hc.2, flushTo_len, hS, hB]
        rfl
      · simp at hB
        exact OpDo.callRD hE (i_copyInts_spec m.cache[i].s (hm.wr _ (List.getElem_mem _))) (by rfl) (by simp) (by simp -implicitDefEqProofs [-List.all_eq_true, tt3, tt55, h0, h0', h1, h1', hc.1, hc.2, flushTo_len, hS, hB]) (by simp) (by rfl)
    case d0hok => simp -implicitDefEqProofs [famOK, sepE, sepI, sepL, noC, ndC, ndU]
    case d0hd => simp
    case d0hw =>
      simp -implicitDefEqProofs
      rfl
    refine AO.fin (st' := ?_) tab hE [2, 3, 17, 18, 19] [1, 2, 3] ?_ ?_
    rotate_left
    · simp -implicitDefEqProofs [-List.all_eq_true, tt3, tt53, tt55, h0, h0', h1, h1', hc.1, hc.2, flushTo_len]
      rfl
    refine AW.regt (st' := ?_) tab hE [2, 3, 17, 18, 19] [1, 2, 3] ?_ ?_
    rotate_left
    · simp -implicitDefEqProofs [-List.all_eq_true, tt3, h0, h0', h1, h1']
      rfl
    exact ⟨_, by omega, i + 1, rfl, by omega, by rw [wrap_succ i _ h1' (by omega), flushTo_succ m i h1', ← rows_set]; simp [intsC, memC]⟩
  replace h1 := BP.neg h1
  have h1' := h1
  try simp at h1'
  refine AW.exit ?_
  simp only [loopQ, blockQ, thenQ, if_true, reduceIte, Nat.reduceEqDiff]
  refine AW.sq ?_
  refine AW.regt (st' := ?_) tab hE [2, 3] [2, 3] ?_ ?_
  rotate_left
  · simp -implicitDefEqProofs [-List.all_eq_true, tt54, tt57, tt93, h0, h0', h1, h1']
    rfl
  refine AW.sq ?_
  refine AW.regt (st' := ?_) tab hE [2] [2] ?_ ?_
  rotate_left
  · simp -implicitDefEqProofs [-List.all_eq_true, tt57, h0, h0', h1, h1']
    rfl
  refine AW.ret (finF_ok tab hE ?_)
  have e : i = m.cache.length := by omega
  simp [tt57, flushMem, h0, e]
end Go.Proofs.Ytm
