/- Contracts of the program's functions, each for all arguments that its hypotheses allow: proved over the loaded program by the by-value machine of the Lvm texts. -/
import Derived.Test.YtmfdechkhdjebaaA4
import Derived.Test.YtmfdechkhdjebaaA5
set_option linter.unusedVariables false
set_option linter.unusedSimpArgs false
namespace Go.Proofs.Ytm
open Go.Lvm Go.Proofs
attribute [local simp] put_env put_var put_cv put_cs famS_env famS_var famS_cv famS_cs dE dC dV dU lkC runK runF ev_move ev_assign ev_pick ev_bin ev_un ev_conv ev_load ev_field ev_index ev_alloc ev_box ev_extract ev_len ev_append ev_build ev_buildS ev_store ev_makeS ev_slice Ev.dst Ev.src leAt moveF assignF viewL viewP mk_put mk_born mk_rv mk_rs mk_touch mk_touch2 touE2 L.touch2 mk_env mk_var mk_cv mk_cs delE delB delV setE touE lk lkv kill_dead kill_v kill_sptr kill_tup kill_ref kill_win kill_ptr L.base L.touch L.setCells L.cells Value.oneCell' isSt_v isSt_s isSt_d scal opv binS binF unS pickF st0_mk st0E st0V gokF gval gvV gtup skipF int_beq int_bne eqI_self mk_keep selE selV finF retF St.take ownL ownC Posts Post St.grab nz getC setC loadL fieldL lastOff ownR snap sttL stt sttR roOK snapRt resL isV sliceC lenS indexL intOf ros grd thenQ blockQ loopQ upd kill_ite touch_ite cells_ite lkv_ite lk_ite fam famE famF bef Region.binds rows_len rows_nil rows_get rows_get? stt_ints stt_intss stt_wrs stt_mems stt_cmds stt_jobs stt_anss stt_turns ownR_rep ownR_app allSt_ints allSt_intss allSt_wrs allSt_mems allSt_cmds allSt_jobs allSt_anss allSt_turns own_ints own_intss own_wrs own_mems own_cmds own_jobs own_anss own_turns intC intsC wrC memC geoC superC arrC cmdC jobC ansC turnC engC St.parts partsOf rowsOf lput chunk appF appOK St.elems gone goneIn convS bndF sliceL

set_option maxHeartbeats 4000000 in
theorem i_IndexFunc0_spec  : Lvm.Spec Try.prog [] 74 [.ro false [.s false 1 []], .ro false [.d]] [(false, [.v (.int .i64 (-1))])] := by
  refine Spec.of (TT := TT) Try.func74 (by kernel_rfl) rfl (of_decide_eq_true rfl) fun X hn hok hio hfa => ?_
  have hE : Ev.ok ⟨19, 2, _⟩ X := ⟨hn, hok, hio⟩
  clear hn hok hio hfa
  refine AW.sq ?_
  refine AW.regt (st' := ?_) tab hE [0, 1] [] ?_ ?_
  rotate_left
  · simp -implicitDefEqProofs [-List.all_eq_true, tt3]
    rfl
  refine AW.sq ?_
  refine AW.sq ?_
  refine AW.regt (st' := ?_) tab hE [0, 1, 7, 8] [] ?_ ?_
  rotate_left
  · simp -implicitDefEqProofs [-List.all_eq_true, tt3, tt55]
    rfl
  refine AW.bk ?_
  refine AW.lp (fun qn st => ∃ (i : Nat), qn = i ∧ (i = 0) ∧  st = mk [(0, .val false [.s false 1 []]), (1, .val false [.d]), (7, .val false [.v (.int .i64 ((0 : Nat) : Int))]), (8, .val false [.v (.int .i64 ((i : Nat) : Int))])] []) (0) ⟨0, rfl, rfl, by simp⟩ ?_
  rintro qn st ⟨i, rfl, hi, rfl⟩
  refine AW.sq ?_
  refine AW.regt (st' := ?_) tab hE [0, 1, 7, 8, 9] [] ?_ ?_
  rotate_left
  · simp -implicitDefEqProofs [-List.all_eq_true, tt3]
    rfl
  refine AW.sq ?_
  refine AW.cond (t := false) (by simp) ?_
  simp only [if_true, if_false, Bool.false_eq_true, reduceIte]
  refine AW.exit ?_
  simp only [loopQ, blockQ, thenQ, if_true, reduceIte, Nat.reduceEqDiff]
  refine AW.sq ?_
  refine AW.regt (st' := ?_) tab hE [4] [] ?_ ?_
  rotate_left
  · simp -implicitDefEqProofs [-List.all_eq_true, tt3]
    rfl
  refine AW.ret (finF_ok tab hE ?_)
  simp -implicitDefEqProofs [-List.all_eq_true]
set_option maxHeartbeats 4000000 in
theorem i_DeleteFunc0_spec  : Lvm.Spec Try.prog [] 63 [.mv false [.s true 1 []], .ro false [.d]] [(false, [.s true 1 []])] := by
  refine Spec.of (TT := TT) Try.func63 (by kernel_rfl) rfl (of_decide_eq_true rfl) fun X hn hok hio hfa => ?_
  have hE : Ev.ok ⟨42, 2, _⟩ X := ⟨hn, hok, hio⟩
  clear hn hok hio hfa
  refine AW.sq ?_
  refine AW.regt (st' := ?_) tab hE [0, 1] [] ?_ ?_
  rotate_left
  · simp -implicitDefEqProofs [-List.all_eq_true, tt3, tt55]
    rfl
  refine AW.sq ?_
  refine AW.rego ?_
  refine AO.runK (st' := ?_) tab hE [0, 1, 8, 9] [] 2 ?_ ?_
  rotate_left
  · simp -implicitDefEqProofs [-List.all_eq_true, tt3, tt55]
    rfl
  refine AO.callR hE (i_IndexFunc0_spec) (by simp) (by simp) (by simp -implicitDefEqProofs [-List.all_eq_true]) (by simp) ?_
  refine AO.fin (st' := ?_) tab hE [0, 1, 5] [] ?_ ?_
  rotate_left
  · simp -implicitDefEqProofs [-List.all_eq_true, tt3]
    rfl
  refine AW.sq ?_
  refine AW.sq ?_
  refine AW.regt (st' := ?_) tab hE [0, 1, 5, 12] [] ?_ ?_
  rotate_left
  · simp -implicitDefEqProofs [-List.all_eq_true, tt3, tt4]
    rfl
  refine AW.cond (t := true) (by simp) ?_
  simp only [if_true, if_false, Bool.false_eq_true, reduceIte]
  refine AW.sq ?_
  refine AW.regt (st' := ?_) tab hE [0, 4] [] ?_ ?_
  rotate_left
  · simp -implicitDefEqProofs [-List.all_eq_true, tt3, tt55]
    rfl
  refine AW.ret (finF_ok tab hE ?_)
  simp -implicitDefEqProofs [-List.all_eq_true]
set_option maxHeartbeats 4000000 in
theorem i_WriteSec0_spec (m : Mem) (hm : MemF m) (hb : m.bad = []) (n : Int) (s : List Int) (hs : s.length * 8 ≤ 140737488351232) : Lvm.Spec Try.prog [] 39 [.ro true (memC false m), .ro false [.v (.int .i64 (n))], .ro false [.s false 1 (rows intC s)]] [(true, memC true (writeSec m n s).1), (false, [.v (.bool ((writeSec m n s).2))])] := by
  refine Spec.of (TT := TT) Try.func39 (by kernel_rfl) rfl (of_decide_eq_true rfl) fun X hn hok hio hfa => ?_
  have hE : Ev.ok ⟨51, 3, _⟩ X := ⟨hn, hok, hio⟩
  clear hn hok hio hfa
  have hs2 := hm.cache
  refine AW.sq ?_
  refine AW.regt (st' := ?_) tab hE [2, 3, 4, 6] [3, 4, 6] ?_ ?_
  rotate_left
  · simp -implicitDefEqProofs [-List.all_eq_true, tt3, tt4, tt57, hb]
    rfl
  refine AW.sq ?_
  refine AW.rego ?_
  refine AO.runK (st' := ?_) tab hE [2, 3, 4, 6, 9] [3, 4, 6] 1 ?_ ?_
  rotate_left
  · simp -implicitDefEqProofs [-List.all_eq_true, tt57, hb]
    rfl
  refine AO.callR hE (i_copyMem_spec m hm) (by simp) (by simp) (by simp -implicitDefEqProofs [-List.all_eq_true, hb]) (by simp) ?_
  refine AO.fin (st' := ?_) tab hE [2, 3, 4, 6, 8] [3, 4, 6, 8] ?_ ?_
  rotate_left
  · simp -implicitDefEqProofs [-List.all_eq_true, tt57, hb]
    rfl
  refine AW.sq ?_
  refine AW.sq ?_
  refine AW.regB (S0 := ?_) [2, 4, 6, 8] [3, 4, 6, 8] 34 (!writeOK m n s) ?_ ?_ ?_
  rotate_left
  · simp -implicitDefEqProofs
    rfl
  · skip
    refine AO.runK (st' := ?_) tab hE [2, 3, 4, 6, 8, 11] [3, 4, 6, 8] 1 ?_ ?_
    rotate_left
    · simp -implicitDefEqProofs [-List.all_eq_true, tt57, hb]
      rfl
    refine AO.callR hE (i_MemOk_spec m hm) (by simp) (by simp) (by simp -implicitDefEqProofs [-List.all_eq_true, hb]) (by simp) ?_
    refine AO.runK (st' := ?_) tab hE [2, 3, 4, 6, 8, 14] [3, 4, 6, 8] 2 ?_ ?_
    rotate_left
    · simp -implicitDefEqProofs [-List.all_eq_true, tt4, hb]
      rfl
    refine AO.guardV (v := ?_) (t := ?_) 3 ?_ ?_ (fun g0 => ?_) (fun g0 => ?_)
    rotate_left 2
    · simp -implicitDefEqProofs [-List.all_eq_true, hb]
      rfl
    · rfl
    · skip
      replace g0 := BP.pos g0
      have g0' := g0
      try simp at g0'
      refine AO.finB tab hE [34, 2, 4, 6, 8] [3, 4, 6, 8] ?_
      simp -implicitDefEqProofs [-List.all_eq_true, writeOK, tt3, tt4, tt54, tt55, tt57, tt93, hb, g0, g0']
    · skip
      replace g0 := BP.neg g0
      have g0' := g0
      try simp at g0'
      refine AO.runK (st' := ?_) tab hE [2, 3, 4, 6, 8, 18] [3, 4, 6, 8] 4 ?_ ?_
      rotate_left
      · simp -implicitDefEqProofs [-List.all_eq_true, tt4, tt57, hb, g0, g0']
        rfl
      refine AO.guardV (v := ?_) (t := ?_) 7 ?_ ?_ (fun g1 => ?_) (fun g1 => ?_)
      rotate_left 2
      · simp -implicitDefEqProofs [-List.all_eq_true, hb, g0, g0']
        rfl
      · rfl
      · skip
        replace g1 := BP.pos g1
        have g1' := g1
        try simp at g1'
        refine AO.finB tab hE [34, 2, 4, 6, 8] [3, 4, 6, 8] ?_
        simp -implicitDefEqProofs [-List.all_eq_true, writeOK, tt3, tt4, tt54, tt55, tt57, tt93, hb, g0, g0', g1, g1']
      · skip
        replace g1 := BP.neg g1
        have g1' := g1
        try simp at g1'
        refine AO.runK (st' := ?_) tab hE [2, 3, 4, 6, 8, 18, 19, 20] [3, 4, 6, 8] 2 ?_ ?_
        rotate_left
        · simp -implicitDefEqProofs [-List.all_eq_true, tt3, tt57, hb, g0, g0', g1, g1']
          rfl
        refine AO.callR hE (i_hasSec_spec m n) (by simp [g0, g0', g1, g1']) (by simp) (by simp -implicitDefEqProofs [-List.all_eq_true, g0, g0', g1, g1', hb]) (by simp) ?_
        refine AO.runK (st' := ?_) tab hE [2, 3, 4, 6, 8, 24] [3, 4, 6, 8] 3 ?_ ?_
        rotate_left
        · simp -implicitDefEqProofs [-List.all_eq_true, tt4, hb, g0, g0', g1, g1']
          rfl
        refine AO.guardV (v := ?_) (t := ?_) 13 ?_ ?_ (fun g2 => ?_) (fun g2 => ?_)
        rotate_left 2
        · simp -implicitDefEqProofs [-List.all_eq_true, hb, g0, g0', g1, g1']
          rfl
        · rfl
        · skip
          replace g2 := BP.pos g2
          have g2' := g2
          try simp at g2'
          refine AO.finB tab hE [34, 2, 4, 6, 8] [3, 4, 6, 8] ?_
          simp -implicitDefEqProofs [-List.all_eq_true, writeOK, tt3, tt4, tt54, tt55, tt57, tt93, hb, g0, g0', g1, g1', g2, g2']
        · skip
          replace g2 := BP.neg g2
          have g2' := g2
          try simp at g2'
          refine AO.runK (st' := ?_) tab hE [2, 3, 4, 6, 8, 24, 25] [3, 4, 6, 8] 1 ?_ ?_
          rotate_left
          · simp -implicitDefEqProofs [-List.all_eq_true, tt3, tt55, hb, g0, g0', g1, g1', g2, g2']
            rfl
          refine AO.callR hE (i_SecOk_spec s hs) (by simp [g0, g0', g1, g1', g2, g2']) (by simp) (by simp -implicitDefEqProofs [-List.all_eq_true, g0, g0', g1, g1', g2, g2', hb]) (by simp) ?_
          refine AO.runK (st' := ?_) tab hE [2, 3, 4, 6, 8, 29] [3, 4, 6, 8] 3 ?_ ?_
          rotate_left
          · simp -implicitDefEqProofs [-List.all_eq_true, tt4, hb, g0, g0', g1, g1', g2, g2']
            rfl
          refine AO.guardV (v := ?_) (t := ?_) 18 ?_ ?_ (fun g3 => ?_) (fun g3 => ?_)
          rotate_left 2
          · simp -implicitDefEqProofs [-List.all_eq_true, hb, g0, g0', g1, g1', g2, g2']
            rfl
          · rfl
          · skip
            replace g3 := BP.pos g3
            have g3' := g3
            try simp at g3'
            refine AO.finB tab hE [34, 2, 4, 6, 8] [3, 4, 6, 8] ?_
            simp -implicitDefEqProofs [-List.all_eq_true, writeOK, tt3, tt4, tt54, tt57, tt93, hb, g0, g0', g1, g1', g2, g2', g3, g3']
          · skip
            replace g3 := BP.neg g3
            have g3' := g3
            try simp at g3'
            refine AO.finB tab hE [34, 2, 4, 6, 8] [3, 4, 6, 8] ?_
            simp -implicitDefEqProofs [-List.all_eq_true, writeOK, tt3, tt4, tt54, tt57, tt93, hb, g0, g0', g1, g1', g2, g2', g3, g3']
  refine AW.iteV (v := ?_) (t := ?_) ?_ ?_ (fun h0 => ?_) (fun h0 => ?_)
  rotate_left 2
  · simp -implicitDefEqProofs [-List.all_eq_true]
    rfl
  · rfl
  · skip
    replace h0 := BP.pos h0
    have h0' := h0
    try simp at h0'
    refine AW.sq ?_
    refine AW.regt (st' := ?_) tab hE [6, 7] [6] ?_ ?_
    rotate_left
    · simp -implicitDefEqProofs [-List.all_eq_true, tt4, tt57, hb, h0, h0']
      rfl
    refine AW.ret (finF_ok tab hE ?_)
    simp [tt57, writeSec, h0, hb]
  replace h0 := BP.neg h0
  have h0' := h0
  try simp at h0'
  refine AW.skip ?_
  refine AW.sq ?_
  refine AW.drawnI (st' := ?_) (by kernel_rfl) 7 [2, 4, 6, 8] [4, 6, 8] [4, 6, 8, 37, 42] [4, 6, 8] (e := ?_) (v := ?_) [{ d := 36, l := ?_ }, { d := 37, l := ?_ }, { d := 38, l := ?_ }, { d := 39, l := ?_ }, { d := 40, l := ?_ }, { d := 41, l := ?_, cs := [(40, .dead)] }, { d := 42, l := ?_, cs := [(41, .dead)] }] ?d0h0 (by decide) (by rfl) (by rfl) (by rfl) ?d0hs ?d0hok ?d0hd ?d0hw ?d0hq
  case d0h0 =>
    simp -implicitDefEqProofs
    rfl
  case d0hs =>
    refine ⟨fun S hS hB hA => ?_, fun S hS hB hA => ?_, fun S hS hB hA => ?_, fun S hS hB hA => ?_, fun S hS hB hA => ?_, fun S hS hB hA => ?_, fun S hS hB hA => ?_, rfl⟩
    · skip
      refine OpDo.runI tab hE rfl rfl ?_
      simp -implicitDefEqProofs [-List.all_eq_true, DI.res, setCs, tt57, hb, h0, h0', show (m.cache.length + 1) * 32 ≤ 140737488355328 by omega, show m.cache.length + 1 ≤ 140737488355328 by omega, hS]
      rfl
    · simp at hB
      refine OpDo.runI tab hE rfl rfl ?_
      simp -implicitDefEqProofs [-List.all_eq_true, DI.res, setCs, tt54, tt93, hb, h0, h0', show (m.cache.length + 1) * 32 ≤ 140737488355328 by omega, show m.cache.length + 1 ≤ 140737488355328 by omega, hS, hB]
      rfl
    · skip
      refine OpDo.runI tab hE rfl rfl ?_
      simp -implicitDefEqProofs [-List.all_eq_true, DI.res, setCs, tt3, hb, h0, h0', show (m.cache.length + 1) * 32 ≤ 140737488355328 by omega, show m.cache.length + 1 ≤ 140737488355328 by omega, hS]
      rfl
    · skip
      refine OpDo.runI tab hE rfl rfl ?_
      simp -implicitDefEqProofs [-List.all_eq_true, DI.res, setCs, tt3, tt55, hb, h0, h0', show (m.cache.length + 1) * 32 ≤ 140737488355328 by omega, show m.cache.length + 1 ≤ 140737488355328 by omega, hS]
      rfl
    · simp at hB
      exact OpDo.callRD hE (i_copyInts_spec s hs) (by rfl) (by simp) (by simp -implicitDefEqProofs [-List.all_eq_true, tt3, tt55, hb, h0, h0', show (m.cache.length + 1) * 32 ≤ 140737488355328 by omega, show m.cache.length + 1 ≤ 140737488355328 by omega, hS, hB]) (by simp) (by rfl)
    · simp at hB
      refine OpDo.runI tab hE rfl rfl ?_
      simp -implicitDefEqProofs [-List.all_eq_true, DI.res, setCs, tt93, hb, h0, h0', show (m.cache.length + 1) * 32 ≤ 140737488355328 by omega, show m.cache.length + 1 ≤ 140737488355328 by omega, hS, hB]
      rfl
    · simp at hB
      refine OpDo.runI tab hE rfl rfl ?_
      simp -implicitDefEqProofs [-List.all_eq_true, DI.res, setCs, tt54, tt93, hb, h0, h0', show (m.cache.length + 1) * 32 ≤ 140737488355328 by omega, show m.cache.length + 1 ≤ 140737488355328 by omega, hS, hB]
      rfl
  case d0hok => simp -implicitDefEqProofs [famOK, sepE, sepI, sepL, noC, ndC, ndU]
  case d0hd => simp
  case d0hw =>
    simp -implicitDefEqProofs
    rfl
  refine AO.fin (st' := ?_) tab hE [4, 6, 8] [4, 6, 8] ?_ ?_
  rotate_left
  · simp -implicitDefEqProofs [-List.all_eq_true, tt54, tt57, tt93, hb, h0, h0', show (m.cache.length + 1) * 32 ≤ 140737488355328 by omega, show m.cache.length + 1 ≤ 140737488355328 by omega]
    rfl
  refine AW.sq ?_
  refine AW.rego ?_
  refine AO.run (st' := ?_) tab hE 2 ?_ ?_
  rotate_left
  · simp -implicitDefEqProofs [-List.all_eq_true, tt3, tt55, tt57, hb, h0, h0']
    rfl
  refine AO.makeFunc hE (by simp) ?_
  refine AO.callG (TT := TT) (st1 := ?_) (st2 := ?_) (st3 := ?_) hE [none, none] (i_DeleteFunc0_spec) (by simp) (by simp) (by simp) (by simp) ?_ ?_ ?_ ?_ ?_ ?_ ?_ ?_
  rotate_left 3
  · simp -implicitDefEqProofs [-List.all_eq_true, mvS, tt3, tt55, hb, h0, h0']
    rfl
  · simp -implicitDefEqProofs [-List.all_eq_true, mvP, tt3, tt55, hb, h0, h0']
  · simp -implicitDefEqProofs [-List.all_eq_true, lendS, tt3, tt55, hb, h0, h0']
    rfl
  · simp -implicitDefEqProofs [-List.all_eq_true, lendP, tt3, tt55, hb, h0, h0']
  · simp -implicitDefEqProofs [-List.all_eq_true, roP, tt3, tt55, hb, h0, h0']
  · simp -implicitDefEqProofs [-List.all_eq_true, backS, tt3, tt55, hb, h0, h0']
    rfl
  · simp -implicitDefEqProofs [-List.all_eq_true, backP, tt3, tt55, hb, h0, h0']
  refine AO.fin (st' := ?_) tab hE [6, 8] [6, 8] ?_ ?_
  rotate_left
  · simp -implicitDefEqProofs [-List.all_eq_true, tt3, tt55, tt57, hb, h0, h0']
    rfl
  refine AW.sq ?_
  refine AW.regt (st' := ?_) tab hE [6, 7] [6] ?_ ?_
  rotate_left
  · simp -implicitDefEqProofs [-List.all_eq_true, tt4, tt57, hb, h0, h0']
    rfl
  refine AW.ret (finF_ok tab hE ?_)
  simp [tt57, writeSec, h0, hb, rows_app, rows_cons, rows_nil, wrC]
end Go.Proofs.Ytm
