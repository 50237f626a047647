/- Contracts of the program's functions, each for all arguments that its hypotheses allow: proved over the loaded program by the by-value machine of the Lvm texts. -/
import Derived.Test.YtmfdechkhdjebaaD0
import Derived.Test.YtmfdechkhdjebaaT0
set_option linter.unusedVariables false
set_option linter.unusedSimpArgs false
namespace Go.Proofs.Ytm
open Go.Lvm Go.Proofs
attribute [local simp] put_env put_var put_cv put_cs famS_env famS_var famS_cv famS_cs dE dC dV dU lkC runK runF ev_move ev_assign ev_pick ev_bin ev_un ev_conv ev_load ev_field ev_index ev_alloc ev_box ev_extract ev_len ev_append ev_build ev_buildS ev_store ev_makeS ev_slice Ev.dst Ev.src leAt moveF assignF viewL viewP mk_put mk_born mk_rv mk_rs mk_touch mk_touch2 touE2 L.touch2 mk_env mk_var mk_cv mk_cs delE delB delV setE touE lk lkv kill_dead kill_v kill_sptr kill_tup kill_ref kill_win kill_ptr L.base L.touch L.setCells L.cells Value.oneCell' isSt_v isSt_s isSt_d scal opv binS binF unS pickF st0_mk st0E st0V gokF gval gvV gtup skipF int_beq int_bne eqI_self mk_keep selE selV finF retF St.take ownL ownC Posts Post St.grab nz getC setC loadL fieldL lastOff ownR snap sttL stt sttR roOK snapRt resL isV sliceC lenS indexL intOf ros grd thenQ blockQ loopQ upd kill_ite touch_ite cells_ite lkv_ite lk_ite fam famE famF bef Region.binds rows_len rows_nil rows_get rows_get? stt_ints stt_intss stt_wrs stt_mems stt_cmds stt_jobs stt_anss stt_turns ownR_rep ownR_app allSt_ints allSt_intss allSt_wrs allSt_mems allSt_cmds allSt_jobs allSt_anss allSt_turns own_ints own_intss own_wrs own_mems own_cmds own_jobs own_anss own_turns intC intsC wrC memC geoC superC arrC cmdC jobC ansC turnC engC St.parts partsOf rowsOf lput chunk appF appOK St.elems gone goneIn convS bndF sliceL

set_option maxHeartbeats 4000000 in
theorem s_l1In_spec (x lo hi : Int) : Lvm.Spec Try.prog [] 28 [.ro false [.v (.int .i64 (x))], .ro false [.v (.int .i64 (lo))], .ro false [.v (.int .i64 (hi))]] [(false, [.v (.bool (inB x lo hi))])] := by
  refine Spec.of (TT := TT) Try.func28 (by kernel_rfl) rfl (of_decide_eq_true rfl) fun X hn hok hio hfa => ?_
  have hE : Ev.ok ⟨15, 3, _⟩ X := ⟨hn, hok, hio⟩
  clear hn hok hio hfa
  refine AW.sq ?_
  refine AW.regt (st' := ?_) tab hE [0, 1, 2] [] ?_ ?_
  rotate_left
  · simp -implicitDefEqProofs [-List.all_eq_true, tt4, inB]
    rfl
  refine AW.sq ?_
  refine AW.regB (S0 := ?_) [] [] 6 (inB x lo hi) ?_ ?_ ?_
  rotate_left
  · simp -implicitDefEqProofs
    rfl
  · skip
    refine AO.runK (st' := ?_) tab hE [0, 2, 10] [] 4 ?_ ?_
    rotate_left
    · simp -implicitDefEqProofs [-List.all_eq_true, tt3, tt4, inB]
      rfl
    refine AO.guardV (v := ?_) (t := ?_) 3 ?_ ?_ (fun g0 => ?_) (fun g0 => ?_)
    rotate_left 2
    · simp -implicitDefEqProofs [-List.all_eq_true, inB]
      rfl
    · rfl
    · skip
      replace g0 := BP.pos g0
      have g0' := g0
      try simp at g0'
      refine AO.finB tab hE [6] [] ?_
      first
        | (simp -implicitDefEqProofs [-List.all_eq_true, tt3, tt4, inB, g0, g0']; done)
        | simp_all [-List.all_eq_true, tt3, tt4, inB, g0, g0']
    · skip
      replace g0 := BP.neg g0
      have g0' := g0
      try simp at g0'
      refine AO.finB tab hE [6] [] ?_
      first
        | (simp -implicitDefEqProofs [-List.all_eq_true, tt3, tt4, inB, g0, g0']; done)
        | simp_all [-List.all_eq_true, tt3, tt4, inB, g0, g0']
  refine AW.ret (finF_ok tab hE ?_)
  simp -implicitDefEqProofs [-List.all_eq_true, inB]
set_option maxHeartbeats 4000000 in
theorem i_within_spec (x lo hi : Int) : Lvm.Spec Try.prog [] 34 [.ro false [.v (.int .i64 (x))], .ro false [.v (.int .i64 (lo))], .ro false [.v (.int .i64 (hi))]] [(false, [.v (.bool (inB x lo hi))])] := by
  refine Spec.of (TT := TT) Try.func34 (by kernel_rfl) rfl (of_decide_eq_true rfl) fun X hn hok hio hfa => ?_
  have hE : Ev.ok ⟨15, 3, _⟩ X := ⟨hn, hok, hio⟩
  clear hn hok hio hfa
  refine AW.sq ?_
  refine AW.regt (st' := ?_) tab hE [0, 1, 2] [] ?_ ?_
  rotate_left
  · simp -implicitDefEqProofs [-List.all_eq_true, tt4, inB]
    rfl
  refine AW.sq ?_
  refine AW.regB (S0 := ?_) [] [] 6 (inB x lo hi) ?_ ?_ ?_
  rotate_left
  · simp -implicitDefEqProofs
    rfl
  · skip
    refine AO.runK (st' := ?_) tab hE [0, 2, 10] [] 4 ?_ ?_
    rotate_left
    · simp -implicitDefEqProofs [-List.all_eq_true, tt3, tt4, inB]
      rfl
    refine AO.guardV (v := ?_) (t := ?_) 3 ?_ ?_ (fun g0 => ?_) (fun g0 => ?_)
    rotate_left 2
    · simp -implicitDefEqProofs [-List.all_eq_true, inB]
      rfl
    · rfl
    · skip
      replace g0 := BP.pos g0
      have g0' := g0
      try simp at g0'
      refine AO.finB tab hE [6] [] ?_
      first
        | (simp -implicitDefEqProofs [-List.all_eq_true, tt3, tt4, inB, g0, g0']; done)
        | simp_all [-List.all_eq_true, tt3, tt4, inB, g0, g0']
    · skip
      replace g0 := BP.neg g0
      have g0' := g0
      try simp at g0'
      refine AO.finB tab hE [6] [] ?_
      first
        | (simp -implicitDefEqProofs [-List.all_eq_true, tt3, tt4, inB, g0, g0']; done)
        | simp_all [-List.all_eq_true, tt3, tt4, inB, g0, g0']
  refine AW.ret (finF_ok tab hE ?_)
  simp -implicitDefEqProofs [-List.all_eq_true, inB]
set_option maxHeartbeats 4000000 in
theorem i_copyInts_spec (a : List Int) (ha : a.length * 8 ≤ 140737488351232) : Lvm.Spec Try.prog [] 62 [.ro false [.s false 1 (rows intC a)]] [(false, [.s true 1 (rows intC a)])] := by
  refine Spec.of (TT := TT) Try.func62 (by kernel_rfl) rfl (of_decide_eq_true rfl) fun X hn hok hio hfa => ?_
  have hE : Ev.ok ⟨6, 1, _⟩ X := ⟨hn, hok, hio⟩
  clear hn hok hio hfa
  refine AW.sq ?_
  refine AW.regt (st' := ?_) tab hE [0] [] ?_ ?_
  rotate_left
  · simp -implicitDefEqProofs [-List.all_eq_true, tt3, tt55, show a.length * 8 ≤ 140737488355328 by omega, show a.length ≤ 140737488355328 by omega]
    rfl
  refine AW.sq ?_
  refine AW.regt (st' := ?_) tab hE [2] [] ?_ ?_
  rotate_left
  · simp -implicitDefEqProofs [-List.all_eq_true, tt3, tt55, show a.length * 8 ≤ 140737488355328 by omega, show a.length ≤ 140737488355328 by omega]
    rfl
  refine AW.ret (finF_ok tab hE ?_)
  simp -implicitDefEqProofs [-List.all_eq_true, show a.length * 8 ≤ 140737488355328 by omega, show a.length ≤ 140737488355328 by omega]
set_option maxHeartbeats 4000000 in
theorem s_GeoOk_spec (g : Geo) : Lvm.Spec Try.prog [] 27 [.ro true (geoC g)] [(false, [.v (.bool (geoOk g))])] := by
  refine Spec.of (TT := TT) Try.func27 (by kernel_rfl) rfl (of_decide_eq_true rfl) fun X hn hok hio hfa => ?_
  have hE : Ev.ok ⟨11, 1, _⟩ X := ⟨hn, hok, hio⟩
  clear hn hok hio hfa
  refine AW.sq ?_
  refine AW.regt (st' := ?_) tab hE [1] [1] ?_ ?_
  rotate_left
  · simp -implicitDefEqProofs [-List.all_eq_true, tt4, tt24, geoOk]
    rfl
  refine AW.sq ?_
  refine AW.regB (S0 := ?_) [] [] 2 (geoOk g) ?_ ?_ ?_
  rotate_left
  · simp -implicitDefEqProofs
    rfl
  · skip
    refine AO.runK (st' := ?_) tab hE [1, 4] [1] 2 ?_ ?_
    rotate_left
    · simp -implicitDefEqProofs [-List.all_eq_true, tt3, tt24, geoOk]
      rfl
    refine AO.callR hE (s_l1In_spec g.n 3 5) (by simp) (by simp) (by simp -implicitDefEqProofs [-List.all_eq_true]) (by simp) ?_
    refine AO.runK (st' := ?_) tab hE [1, 6] [1] 1 ?_ ?_
    rotate_left
    · simp -implicitDefEqProofs [-List.all_eq_true, tt4, geoOk]
      rfl
    refine AO.guardV (v := ?_) (t := ?_) 3 ?_ ?_ (fun g0 => ?_) (fun g0 => ?_)
    rotate_left 2
    · simp -implicitDefEqProofs [-List.all_eq_true, geoOk]
      rfl
    · rfl
    · skip
      replace g0 := BP.pos g0
      have g0' := g0
      try simp at g0'
      refine AO.runK (st' := ?_) tab hE [6, 8] [1] 2 ?_ ?_
      rotate_left
      · simp -implicitDefEqProofs [-List.all_eq_true, tt3, tt24, geoOk, g0, g0']
        rfl
      refine AO.callR hE (s_l1In_spec g.s 1 8) (by simp [g0, g0']) (by simp) (by simp -implicitDefEqProofs [-List.all_eq_true, g0, g0']) (by simp) ?_
      refine AO.finB tab hE [2] [] ?_
      first
        | (simp -implicitDefEqProofs [-List.all_eq_true, tt4, geoOk, g0, g0']; done)
        | simp_all [-List.all_eq_true, tt4, geoOk, g0, g0']
    · skip
      replace g0 := BP.neg g0
      have g0' := g0
      try simp at g0'
      refine AO.finB tab hE [2] [] ?_
      first
        | (simp -implicitDefEqProofs [-List.all_eq_true, tt3, tt4, tt24, geoOk, g0, g0']; done)
        | simp_all [-List.all_eq_true, tt3, tt4, tt24, geoOk, g0, g0']
  refine AW.ret (finF_ok tab hE ?_)
  simp
set_option maxHeartbeats 4000000 in
theorem i_GeoOk_spec (g : Geo) : Lvm.Spec Try.prog [] 33 [.ro true (geoC g)] [(false, [.v (.bool (geoOk g))])] := by
  refine Spec.of (TT := TT) Try.func33 (by kernel_rfl) rfl (of_decide_eq_true rfl) fun X hn hok hio hfa => ?_
  have hE : Ev.ok ⟨11, 1, _⟩ X := ⟨hn, hok, hio⟩
  clear hn hok hio hfa
  refine AW.sq ?_
  refine AW.regt (st' := ?_) tab hE [1] [1] ?_ ?_
  rotate_left
  · simp -implicitDefEqProofs [-List.all_eq_true, tt4, tt24, geoOk]
    rfl
  refine AW.sq ?_
  refine AW.regB (S0 := ?_) [] [] 2 (geoOk g) ?_ ?_ ?_
  rotate_left
  · simp -implicitDefEqProofs
    rfl
  · skip
    refine AO.runK (st' := ?_) tab hE [1, 4] [1] 2 ?_ ?_
    rotate_left
    · simp -implicitDefEqProofs [-List.all_eq_true, tt3, tt24, geoOk]
      rfl
    refine AO.callR hE (i_within_spec g.n 3 5) (by simp) (by simp) (by simp -implicitDefEqProofs [-List.all_eq_true]) (by simp) ?_
    refine AO.runK (st' := ?_) tab hE [1, 6] [1] 1 ?_ ?_
    rotate_left
    · simp -implicitDefEqProofs [-List.all_eq_true, tt4, geoOk]
      rfl
    refine AO.guardV (v := ?_) (t := ?_) 3 ?_ ?_ (fun g0 => ?_) (fun g0 => ?_)
    rotate_left 2
    · simp -implicitDefEqProofs [-List.all_eq_true, geoOk]
      rfl
    · rfl
    · skip
      replace g0 := BP.pos g0
      have g0' := g0
      try simp at g0'
      refine AO.runK (st' := ?_) tab hE [6, 8] [1] 2 ?_ ?_
      rotate_left
      · simp -implicitDefEqProofs [-List.all_eq_true, tt3, tt24, geoOk, g0, g0']
        rfl
      refine AO.callR hE (i_within_spec g.s 1 8) (by simp [g0, g0']) (by simp) (by simp -implicitDefEqProofs [-List.all_eq_true, g0, g0']) (by simp) ?_
      refine AO.finB tab hE [2] [] ?_
      first
        | (simp -implicitDefEqProofs [-List.all_eq_true, tt4, geoOk, g0, g0']; done)
        | simp_all [-List.all_eq_true, tt4, geoOk, g0, g0']
    · skip
      replace g0 := BP.neg g0
      have g0' := g0
      try simp at g0'
      refine AO.finB tab hE [2] [] ?_
      first
        | (simp -implicitDefEqProofs [-List.all_eq_true, tt3, tt4, tt24, geoOk, g0, g0']; done)
        | simp_all [-List.all_eq_true, tt3, tt4, tt24, geoOk, g0, g0']
  refine AW.ret (finF_ok tab hE ?_)
  simp
set_option maxHeartbeats 4000000 in
theorem s_DataAt_spec (s : Int) : Lvm.Spec Try.prog [] 32 [.ro false [.v (.int .i64 (s))]] [(false, [.v (.int .i64 (dataAt s))])] := by
  refine Spec.of (TT := TT) Try.func32 (by kernel_rfl) rfl (of_decide_eq_true rfl) fun X hn hok hio hfa => ?_
  have hE : Ev.ok ⟨9, 1, _⟩ X := ⟨hn, hok, hio⟩
  clear hn hok hio hfa
  refine AW.sq ?_
  refine AW.regt (st' := ?_) tab hE [0] [] ?_ ?_
  rotate_left
  · simp -implicitDefEqProofs [-List.all_eq_true, tt3, dataAt]
    rfl
  refine AW.sq ?_
  refine AW.sq ?_
  refine AW.rego ?_
  refine AO.runK (st' := ?_) tab hE [0, 3] [] 1 ?_ ?_
  rotate_left
  · simp -implicitDefEqProofs [-List.all_eq_true, tt3, dataAt]
    rfl
  refine AO.callR hE (s_l1In_spec s 0 1099511627776) (by simp) (by simp) (by simp -implicitDefEqProofs [-List.all_eq_true]) (by simp) ?_
  refine AO.fin (st' := ?_) tab hE [0, 5] [] ?_ ?_
  rotate_left
  · simp -implicitDefEqProofs [-List.all_eq_true, tt4, dataAt]
    rfl
  refine AW.iteV (v := ?_) (t := ?_) ?_ ?_ (fun h0 => ?_) (fun h0 => ?_)
  rotate_left 2
  · simp -implicitDefEqProofs [-List.all_eq_true]
    rfl
  · rfl
  · skip
    replace h0 := BP.pos h0
    have h0' := h0
    try simp at h0'
    refine AW.sq ?_
    refine AW.regt (st' := ?_) tab hE [2] [] ?_ ?_
    rotate_left
    · simp -implicitDefEqProofs [-List.all_eq_true, tt3, dataAt, h0, h0']
      rfl
    refine AW.ret (finF_ok tab hE ?_)
    simp -implicitDefEqProofs [-List.all_eq_true, dataAt, h0, h0']
  replace h0 := BP.neg h0
  have h0' := h0
  try simp at h0'
  refine AW.skip ?_
  refine AW.sq ?_
  refine AW.regt (st' := ?_) tab hE [2] [] ?_ ?_
  rotate_left
  · simp -implicitDefEqProofs [-List.all_eq_true, tt3, dataAt, h0, h0']
    rfl
  refine AW.ret (finF_ok tab hE ?_)
  have h := inB_iff.1 h0
  have e1 := wrap_id (s + 2) (by omega) (by omega)
  have e2 := wrap_id (s + 2 + 4) (by omega) (by omega)
  simp [dataAt, e1, e2, h0, h0']
  omega
set_option maxHeartbeats 4000000 in
theorem i_DataAt_spec (s : Int) : Lvm.Spec Try.prog [] 40 [.ro false [.v (.int .i64 (s))]] [(false, [.v (.int .i64 (dataAt s))])] := by
  refine Spec.of (TT := TT) Try.func40 (by kernel_rfl) rfl (of_decide_eq_true rfl) fun X hn hok hio hfa => ?_
  have hE : Ev.ok ⟨9, 1, _⟩ X := ⟨hn, hok, hio⟩
  clear hn hok hio hfa
  refine AW.sq ?_
  refine AW.regt (st' := ?_) tab hE [0] [] ?_ ?_
  rotate_left
  · simp -implicitDefEqProofs [-List.all_eq_true, tt3, dataAt]
    rfl
  refine AW.sq ?_
  refine AW.sq ?_
  refine AW.rego ?_
  refine AO.runK (st' := ?_) tab hE [0, 3] [] 1 ?_ ?_
  rotate_left
  · simp -implicitDefEqProofs [-List.all_eq_true, tt3, dataAt]
    rfl
  refine AO.callR hE (i_within_spec s 0 1099511627776) (by simp) (by simp) (by simp -implicitDefEqProofs [-List.all_eq_true]) (by simp) ?_
  refine AO.fin (st' := ?_) tab hE [0, 5] [] ?_ ?_
  rotate_left
  · simp -implicitDefEqProofs [-List.all_eq_true, tt4, dataAt]
    rfl
  refine AW.iteV (v := ?_) (t := ?_) ?_ ?_ (fun h0 => ?_) (fun h0 => ?_)
  rotate_left 2
  · simp -implicitDefEqProofs [-List.all_eq_true]
    rfl
  · rfl
  · skip
    replace h0 := BP.pos h0
    have h0' := h0
    try simp at h0'
    refine AW.sq ?_
    refine AW.regt (st' := ?_) tab hE [2] [] ?_ ?_
    rotate_left
    · simp -implicitDefEqProofs [-List.all_eq_true, tt3, dataAt, h0, h0']
      rfl
    refine AW.ret (finF_ok tab hE ?_)
    simp -implicitDefEqProofs [-List.all_eq_true, dataAt, h0, h0']
  replace h0 := BP.neg h0
  have h0' := h0
  try simp at h0'
  refine AW.skip ?_
  refine AW.sq ?_
  refine AW.regt (st' := ?_) tab hE [2] [] ?_ ?_
  rotate_left
  · simp -implicitDefEqProofs [-List.all_eq_true, tt3, dataAt, h0, h0']
    rfl
  refine AW.ret (finF_ok tab hE ?_)
  have h := inB_iff.1 h0
  have e1 := wrap_id (s + 2) (by omega) (by omega)
  have e2 := wrap_id (s + 2 + 4) (by omega) (by omega)
  simp [dataAt, e1, e2, h0, h0']
  omega
set_option maxHeartbeats 4000000 in
theorem s_l6Secs_spec (g : Geo) : Lvm.Spec Try.prog [] 30 [.ro true (geoC g)] [(false, [.v (.int .i64 (w64 (6 + g.s)))])] := by
  refine Spec.of (TT := TT) Try.func30 (by kernel_rfl) rfl (of_decide_eq_true rfl) fun X hn hok hio hfa => ?_
  have hE : Ev.ok ⟨6, 1, _⟩ X := ⟨hn, hok, hio⟩
  clear hn hok hio hfa
  refine AW.sq ?_
  refine AW.regt (st' := ?_) tab hE [1] [1] ?_ ?_
  rotate_left
  · simp -implicitDefEqProofs [-List.all_eq_true, tt3, tt24, wrap_w]
    rfl
  refine AW.sq ?_
  refine AW.regt (st' := ?_) tab hE [2] [] ?_ ?_
  rotate_left
  · simp -implicitDefEqProofs [-List.all_eq_true, tt3, tt24, wrap_w]
    rfl
  refine AW.ret (finF_ok tab hE ?_)
  simp -implicitDefEqProofs [-List.all_eq_true, wrap_w]
set_option maxHeartbeats 4000000 in
theorem i_sectors_spec (g : Geo) : Lvm.Spec Try.prog [] 37 [.ro true (geoC g)] [(false, [.v (.int .i64 (w64 (6 + g.s)))])] := by
  refine Spec.of (TT := TT) Try.func37 (by kernel_rfl) rfl (of_decide_eq_true rfl) fun X hn hok hio hfa => ?_
  have hE : Ev.ok ⟨6, 1, _⟩ X := ⟨hn, hok, hio⟩
  clear hn hok hio hfa
  refine AW.sq ?_
  refine AW.regt (st' := ?_) tab hE [1] [1] ?_ ?_
  rotate_left
  · simp -implicitDefEqProofs [-List.all_eq_true, tt3, tt24, wrap_w]
    rfl
  refine AW.sq ?_
  refine AW.regt (st' := ?_) tab hE [2] [] ?_ ?_
  rotate_left
  · simp -implicitDefEqProofs [-List.all_eq_true, tt3, tt24, wrap_w]
    rfl
  refine AW.ret (finF_ok tab hE ?_)
  simp -implicitDefEqProofs [-List.all_eq_true, wrap_w]
set_option maxHeartbeats 4000000 in
theorem i_isWord_spec (x : Int) : Lvm.Spec Try.prog [] 77 [.ro false [.v (.int .i64 (x))]] [(false, [.v (.bool (wordB x))])] := by
  refine Spec.of (TT := TT) Try.func77 (by kernel_rfl) rfl (of_decide_eq_true rfl) fun X hn hok hio hfa => ?_
  have hE : Ev.ok ⟨5, 1, _⟩ X := ⟨hn, hok, hio⟩
  clear hn hok hio hfa
  refine AW.sq ?_
  refine AW.regt (st' := ?_) tab hE [0] [] ?_ ?_
  rotate_left
  · simp -implicitDefEqProofs [-List.all_eq_true, tt4, wordB]
    rfl
  refine AW.sq ?_
  refine AW.rego ?_
  refine AO.runK (st' := ?_) tab hE [3] [] 1 ?_ ?_
  rotate_left
  · simp -implicitDefEqProofs [-List.all_eq_true, tt3, wordB]
    rfl
  refine AO.callR hE (i_within_spec x 0 65535) (by simp) (by simp) (by simp -implicitDefEqProofs [-List.all_eq_true]) (by simp) ?_
  refine AO.fin (st' := ?_) tab hE [2] [] ?_ ?_
  rotate_left
  · simp -implicitDefEqProofs [-List.all_eq_true, tt4, wordB]
    rfl
  refine AW.ret (finF_ok tab hE ?_)
  simp -implicitDefEqProofs [-List.all_eq_true, wordB]
end Go.Proofs.Ytm
