/- Contracts of the program's functions, each for all arguments that its hypotheses allow: proved over the loaded program by the by-value machine of the Lvm texts. -/
import Derived.Test.YtmfdechkhdjebaaE1
import Derived.Test.YtmfdechkhdjebaaA6
set_option linter.unusedVariables false
set_option linter.unusedSimpArgs false
namespace Go.Proofs.Ytm
open Go.Lvm Go.Proofs
attribute [local simp] put_env put_var put_cv put_cs famS_env famS_var famS_cv famS_cs dE dC dV dU lkC runK runF ev_move ev_assign ev_pick ev_bin ev_un ev_conv ev_load ev_field ev_index ev_alloc ev_box ev_extract ev_len ev_append ev_build ev_buildS ev_store ev_makeS ev_slice Ev.dst Ev.src leAt moveF assignF viewL viewP mk_put mk_born mk_rv mk_rs mk_touch mk_touch2 touE2 L.touch2 mk_env mk_var mk_cv mk_cs delE delB delV setE touE lk lkv kill_dead kill_v kill_sptr kill_tup kill_ref kill_win kill_ptr L.base L.touch L.setCells L.cells Value.oneCell' isSt_v isSt_s isSt_d scal opv binS binF unS pickF st0_mk st0E st0V gokF gval gvV gtup skipF int_beq int_bne eqI_self mk_keep selE selV finF retF St.take ownL ownC Posts Post St.grab nz getC setC loadL fieldL lastOff ownR snap sttL stt sttR roOK snapRt resL isV sliceC lenS indexL intOf ros grd thenQ blockQ loopQ upd kill_ite touch_ite cells_ite lkv_ite lk_ite fam famE famF bef Region.binds rows_len rows_nil rows_get rows_get? stt_ints stt_intss stt_wrs stt_mems stt_cmds stt_jobs stt_anss stt_turns ownR_rep ownR_app allSt_ints allSt_intss allSt_wrs allSt_mems allSt_cmds allSt_jobs allSt_anss allSt_turns own_ints own_intss own_wrs own_mems own_cmds own_jobs own_anss own_turns intC intsC wrC memC geoC superC arrC cmdC jobC ansC turnC engC St.parts partsOf rowsOf lput chunk appF appOK St.elems gone goneIn convS bndF sliceL

set_option maxHeartbeats 4000000 in
theorem i_WriteSuper0_spec (m : Mem) (hm : MemF m) (hb : m.bad = []) (s : Super) : Lvm.Spec Try.prog [] 35 [.ro true (memC false m), .ro true (superC s)] [(true, memC true (writeSuper m s))] := by
  refine Spec.of (TT := TT) Try.func35 (by kernel_rfl) rfl (of_decide_eq_true rfl) fun X hn hok hio hfa => ?_
  have hE : Ev.ok ⟨23, 2, _⟩ X := ⟨hn, hok, hio⟩
  clear hn hok hio hfa
  refine AW.sq ?_
  refine AW.regt (st' := ?_) tab hE [2, 3, 4] [2, 3, 4] ?_ ?_
  rotate_left
  · simp -implicitDefEqProofs [-List.all_eq_true, tt57, tt62]
    rfl
  refine AW.sq ?_
  refine AW.sq ?_
  refine AW.rego ?_
  refine AO.runK (st' := ?_) tab hE [2, 3, 4, 7] [2, 3, 4] 1 ?_ ?_
  rotate_left
  · simp -implicitDefEqProofs [-List.all_eq_true, tt62]
    rfl
  refine AO.callR hE (i_SuperOk_spec s) (by simp) (by simp) (by simp -implicitDefEqProofs [-List.all_eq_true]) (by simp) ?_
  refine AO.fin (st' := ?_) tab hE [2, 3, 4, 9] [2, 3, 4] ?_ ?_
  rotate_left
  · simp -implicitDefEqProofs [-List.all_eq_true, tt4]
    rfl
  refine AW.iteV (v := ?_) (t := ?_) ?_ ?_ (fun h0 => ?_) (fun h0 => ?_)
  rotate_left 2
  · simp -implicitDefEqProofs [-List.all_eq_true]
    rfl
  · rfl
  · skip
    replace h0 := BP.pos h0
    have h0' := h0
    try simp at h0'
    refine AW.sq ?_
    refine AW.rego ?_
    refine AO.runK (st' := ?_) tab hE [4, 10] [2, 4] 1 ?_ ?_
    rotate_left
    · simp -implicitDefEqProofs [-List.all_eq_true, tt57, h0, h0']
      rfl
    refine AO.callR hE (i_copyMem_spec m hm) (by simp) (by simp) (by simp -implicitDefEqProofs [-List.all_eq_true, h0, h0']) (by simp) ?_
    refine AO.fin (st' := ?_) tab hE [4] [4] ?_ ?_
    rotate_left
    · simp -implicitDefEqProofs [-List.all_eq_true, tt57, h0, h0']
      rfl
    refine AW.ret (finF_ok tab hE ?_)
    simp [tt57, writeSuper, h0]
  replace h0 := BP.neg h0
  have h0' := h0
  try simp at h0'
  refine AW.skip ?_
  refine AW.sq ?_
  refine AW.drawnI (st' := ?_) (by kernel_rfl) 12 [2, 3, 4] [2, 3, 4] [4, 5, 21] [4, 5] (e := ?_) (v := ?_) [{ d := 13, l := ?_ }, { d := 14, l := ?_ }, { d := 15, l := ?_ }, { d := 16, l := ?_ }, { d := 17, l := ?_ }, { d := 18, l := ?_ }, { d := 19, l := ?_ }, { d := 12, l := ?_, cs := [(19, .dead)] }, { d := 20, l := ?_, cs := [(12, .tup ?_)] }, { d := 21, l := ?_ }, { d := 5, l := .ptr (.var 5) 0 [], b := some ?_ }, { d := 1011, l := .dead, cs := [(20, .dead)], u := [(5, ?_)] }] ?d0h0 (by decide) (by rfl) (by rfl) (by rfl) ?d0hs ?d0hok ?d0hd ?d0hw ?d0hq
  case d0h0 =>
    simp -implicitDefEqProofs
    rfl
  case d0hs =>
    refine ⟨fun S hS hB hA => ?_, fun S hS hB hA => ?_, fun S hS hB hA => ?_, fun S hS hB hA => ?_, fun S hS hB hA => ?_, fun S hS hB hA => ?_, fun S hS hB hA => ?_, fun S hS hB hA => ?_, fun S hS hB hA => ?_, fun S hS hB hA => ?_, fun S hS hB hA => ?_, fun S hS hB hA => ?_, rfl⟩
    · skip
      have hA11 := hA 11 (by rfl)
      refine OpDo.runI tab hE rfl rfl ?_
      simp -implicitDefEqProofs [-List.all_eq_true, DI.res, setCs, tt57, h0, h0', hS, hA11]
      rfl
    · skip
      have hA11 := hA 11 (by rfl)
      refine OpDo.runI tab hE rfl rfl ?_
      simp -implicitDefEqProofs [-List.all_eq_true, DI.res, setCs, tt62, h0, h0', hS, hA11]
      rfl
    · simp at hB
      have hA11 := hA 11 (by rfl)
      refine OpDo.runI tab hE rfl rfl ?_
      simp -implicitDefEqProofs [-List.all_eq_true, DI.res, setCs, tt3, h0, h0', hS, hB, hA11]
      rfl
    · simp at hB
      have hA11 := hA 11 (by rfl)
      refine OpDo.runI tab hE rfl rfl ?_
      simp -implicitDefEqProofs [-List.all_eq_true, DI.res, setCs, tt3, h0, h0', hS, hB, hA11]
      rfl
    · skip
      have hA11 := hA 11 (by rfl)
      refine OpDo.runI tab hE rfl rfl ?_
      simp -implicitDefEqProofs [-List.all_eq_true, DI.res, setCs, tt62, h0, h0', hS, hA11]
      rfl
    · simp at hB
      have hA11 := hA 11 (by rfl)
      exact OpDo.callRD hE (i_PutSuper_spec s) (by rfl) (by simp) (by simp -implicitDefEqProofs [-List.all_eq_true, tt3, tt55, tt62, h0, h0', hS, hB, hA11]) (by simp) (by rfl)
    · simp at hB
      have hA11 := hA 11 (by rfl)
      exact OpDo.callRD hE (i_WriteSec0_spec m hm hb (s.gen.tmod 2) (putSuper s) (putSuper_len s)) (by rfl) (by simp) (by simp -implicitDefEqProofs [-List.all_eq_true, tt3, tt55, tt57, h0, h0', hS, hB, hA11]) (by simp) (by rfl)
    · simp at hB
      have hA11 := hA 11 (by rfl)
      exact OpDo.moveT hE (by rfl) (by simp) (by simp -implicitDefEqProofs [-List.all_eq_true, mvT, h0, h0', hS, hB, hA11]; rfl) (by rfl)
    · simp at hB
      have hA11 := hA 11 (by rfl)
      refine OpDo.runI tab hE rfl rfl ?_
      simp -implicitDefEqProofs [-List.all_eq_true, DI.res, setCs, tt57, h0, h0', hS, hB, hA11]
      rfl
    · simp at hB
      exact OpDo.extractS hE (by rfl) (by simp) (by cases hC8 : S 8 <;> simp -implicitDefEqProofs [-List.all_eq_true, exE, tt4, h0, h0', hS, hB, hC8] <;> rfl) (by rfl) (by rfl)
    · skip
      have hA11 := hA 11 (by rfl)
      refine OpDo.runI tab hE rfl rfl ?_
      simp -implicitDefEqProofs [-List.all_eq_true, DI.res, setCs, tt57, h0, h0', hS, hA11]
      rfl
    · simp at hB
      refine OpDo.storeI (st1 := ?_) tab hE [(20, .dead)] [] rfl rfl ?_ rfl rfl rfl ?_
      rotate_left
      · simp -implicitDefEqProofs [-List.all_eq_true, DI.res, tt57, h0, h0', hS, hB]
        rfl
      · simp -implicitDefEqProofs [-List.all_eq_true, setVs, setCs, tt57, h0, h0', hS, hB]
        rfl
  case d0hok => simp -implicitDefEqProofs [famOK, sepE, sepI, sepL, noC, ndC, ndU]
  case d0hd => simp
  case d0hw =>
    simp -implicitDefEqProofs
    rfl
  refine AO.fin (st' := ?_) tab hE [4, 5] [4, 5] ?_ ?_
  rotate_left
  · simp -implicitDefEqProofs [-List.all_eq_true, tt4, h0, h0']
    rfl
  refine AW.sq ?_
  refine AW.regt (st' := ?_) tab hE [4] [4] ?_ ?_
  rotate_left
  · simp -implicitDefEqProofs [-List.all_eq_true, tt57, h0, h0']
    rfl
  refine AW.ret (finF_ok tab hE ?_)
  simp [tt57, writeSuper, h0]
end Go.Proofs.Ytm
