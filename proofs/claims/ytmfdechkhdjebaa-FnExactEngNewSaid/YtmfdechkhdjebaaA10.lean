/- Contracts of the program's functions, each for all arguments that its hypotheses allow: proved over the loaded program by the by-value machine of the Lvm texts. -/
import Derived.Test.YtmfdechkhdjebaaA9
set_option linter.unusedVariables false
set_option linter.unusedSimpArgs false
namespace Go.Proofs.Ytm
open Go.Lvm Go.Proofs
attribute [local simp] put_env put_var put_cv put_cs famS_env famS_var famS_cv famS_cs dE dC dV dU lkC runK runF ev_move ev_assign ev_pick ev_bin ev_un ev_conv ev_load ev_field ev_index ev_alloc ev_box ev_extract ev_len ev_append ev_build ev_buildS ev_store ev_makeS ev_slice Ev.dst Ev.src leAt moveF assignF viewL viewP mk_put mk_born mk_rv mk_rs mk_touch mk_touch2 touE2 L.touch2 mk_env mk_var mk_cv mk_cs delE delB delV setE touE lk lkv kill_dead kill_v kill_sptr kill_tup kill_ref kill_win kill_ptr L.base L.touch L.setCells L.cells Value.oneCell' isSt_v isSt_s isSt_d scal opv binS binF unS pickF st0_mk st0E st0V gokF gval gvV gtup skipF int_beq int_bne eqI_self mk_keep selE selV finF retF St.take ownL ownC Posts Post St.grab nz getC setC loadL fieldL lastOff ownR snap sttL stt sttR roOK snapRt resL isV sliceC lenS indexL intOf ros grd thenQ blockQ loopQ upd kill_ite touch_ite cells_ite lkv_ite lk_ite fam famE famF bef Region.binds rows_len rows_nil rows_get rows_get? stt_ints stt_intss stt_wrs stt_mems stt_cmds stt_jobs stt_anss stt_turns ownR_rep ownR_app allSt_ints allSt_intss allSt_wrs allSt_mems allSt_cmds allSt_jobs allSt_anss allSt_turns own_ints own_intss own_wrs own_mems own_cmds own_jobs own_anss own_turns intC intsC wrC memC geoC superC arrC cmdC jobC ansC turnC engC St.parts partsOf rowsOf lput chunk appF appOK St.elems gone goneIn convS bndF sliceL

set_option maxHeartbeats 4000000 in
theorem s_ArrNew_spec (id : Int) (g : Geo) : Lvm.Spec Try.prog [] 10 [.ro false [.v (.int .i64 (id))], .ro true (geoC g)] [(true, arrC true (arrNew id g))] := by
  refine Spec.of (TT := TT) Try.func10 (by kernel_rfl) rfl (of_decide_eq_true rfl) fun X hn hok hio hfa => ?_
  have hE : Ev.ok ⟨60, 2, _⟩ X := ⟨hn, hok, hio⟩
  clear hn hok hio hfa
  refine AW.sq ?_
  refine AW.regt (st' := ?_) tab hE [0, 3, 4] [3, 4] ?_ ?_
  rotate_left
  · simp -implicitDefEqProofs [-List.all_eq_true, tt24, tt28]
    rfl
  refine AW.sq ?_
  refine AW.sq ?_
  refine AW.regB (S0 := ?_) [0, 3, 4] [3, 4] 16 (!newOK id g) ?_ ?_ ?_
  rotate_left
  · simp -implicitDefEqProofs
    rfl
  · skip
    refine AO.runK (st' := ?_) tab hE [0, 3, 4, 9] [3, 4] 1 ?_ ?_
    rotate_left
    · simp -implicitDefEqProofs [-List.all_eq_true, tt24]
      rfl
    refine AO.callR hE (s_GeoOk_spec g) (by simp) (by simp) (by simp -implicitDefEqProofs [-List.all_eq_true]) (by simp) ?_
    refine AO.runK (st' := ?_) tab hE [0, 3, 4, 12] [3, 4] 2 ?_ ?_
    rotate_left
    · simp -implicitDefEqProofs [-List.all_eq_true, tt4]
      rfl
    refine AO.guardV (v := ?_) (t := ?_) 3 ?_ ?_ (fun g0 => ?_) (fun g0 => ?_)
    rotate_left 2
    · simp -implicitDefEqProofs [-List.all_eq_true]
      rfl
    · rfl
    · skip
      replace g0 := BP.pos g0
      have g0' := g0
      try simp at g0'
      refine AO.finB tab hE [16, 0, 3, 4] [3, 4] ?_
      simp -implicitDefEqProofs [-List.all_eq_true, newOK, tt3, tt4, g0, g0']
    · skip
      replace g0 := BP.neg g0
      have g0' := g0
      try simp at g0'
      refine AO.runK (st' := ?_) tab hE [0, 3, 4, 12, 13] [3, 4] 1 ?_ ?_
      rotate_left
      · simp -implicitDefEqProofs [-List.all_eq_true, tt3, g0, g0']
        rfl
      refine AO.callR hE (s_l1In_spec id 1 60000) (by simp [g0, g0']) (by simp) (by simp -implicitDefEqProofs [-List.all_eq_true, g0, g0']) (by simp) ?_
      refine AO.finB tab hE [16, 0, 3, 4] [3, 4] ?_
      simp -implicitDefEqProofs [-List.all_eq_true, newOK, tt4, g0, g0']
  refine AW.iteV (v := ?_) (t := ?_) ?_ ?_ (fun h0 => ?_) (fun h0 => ?_)
  rotate_left 2
  · simp -implicitDefEqProofs [-List.all_eq_true]
    rfl
  · rfl
  · skip
    replace h0 := BP.pos h0
    have h0' := h0
    try simp at h0'
    refine AW.sq ?_
    refine AW.regt (st' := ?_) tab hE [4] [4] ?_ ?_
    rotate_left
    · simp -implicitDefEqProofs [-List.all_eq_true, tt28, h0, h0']
      rfl
    refine AW.ret (finF_ok tab hE ?_)
    simp [tt28, arrNew, h0, zeroArr]
  replace h0 := BP.neg h0
  have h0' := h0
  try simp at h0'
  have hg := newOK_g h0
  have hid := newOK_i h0
  have hn := geo_n hg
  have hs := geo_s hg
  refine AW.skip ?_
  refine AW.sq ?_
  refine AW.regt (st' := ?_) tab hE [0, 3, 4, 5] [3, 4, 5] ?_ ?_
  rotate_left
  · simp -implicitDefEqProofs [-List.all_eq_true, tt3, tt9, tt24, tt28, h0, h0']
    rfl
  refine AW.sq ?_
  refine AW.sq ?_
  refine AW.regt (st' := ?_) tab hE [0, 3, 4, 5, 6] [3, 4, 5] ?_ ?_
  rotate_left
  · simp -implicitDefEqProofs [-List.all_eq_true, tt3, h0, h0']
    rfl
  refine AW.bk ?_
  refine AW.lp (fun qn st => ∃ (i : Nat), qn = g.n.toNat - i ∧ ((i : Int) ≤ g.n) ∧ (i ≤ 5) ∧  st = mk [(0, .val false [.v (.int .i64 (id))]), (3, .ptr (.var 3) 0 []), (4, .ptr (.var 4) 0 []), (5, .ptr (.var 5) 0 []), (6, .val false [.v (.int .i64 ((i : Nat) : Int))])] [(3, geoC g), (4, arrC true zeroArr), (5, arrC true (arr0 id g ((List.range i).map (diskNew id g))))]) (g.n.toNat) ⟨0, by simp, by omega, by omega, by simp [arr0, zeroArr, arrC, geoC, rows]⟩ ?_
  rintro qn st ⟨i, rfl, hi, hi5, rfl⟩
  refine AW.sq ?_
  refine AW.sq ?_
  refine AW.regt (st' := ?_) tab hE [0, 3, 4, 5, 6, 24] [3, 4, 5] ?_ ?_
  rotate_left
  · simp -implicitDefEqProofs [-List.all_eq_true, tt3, tt4, tt24, h0, h0', arr0]
    rfl
  refine AW.iteV (v := ?_) (t := ?_) ?_ ?_ (fun h1 => ?_) (fun h1 => ?_)
  rotate_left 2
  · simp -implicitDefEqProofs [-List.all_eq_true, h0, h0']
    rfl
  · rfl
  · skip
    replace h1 := BP.pos h1
    have h1' := h1
    try simp at h1'
    refine AW.skip ?_
    refine AW.sq ?_
    refine AW.bk ?_
    refine AW.sq ?_
    refine AW.rego ?_
    refine AO.runK (st' := ?_) tab hE [0, 3, 4, 5, 6, 27] [3, 4, 5] 1 ?_ ?_
    rotate_left
    · simp -implicitDefEqProofs [-List.all_eq_true, tt24, h0, h0', h1, h1']
      rfl
    refine AO.callR hE (s_l6Secs_spec g) (by simp) (by simp) (by simp -implicitDefEqProofs [-List.all_eq_true, h0, h0', h1, h1']) (by simp) ?_
    refine AO.callR hE (s_MemNew_spec (w64 (6 + g.s))) (by simp) (by simp) (by simp -implicitDefEqProofs [-List.all_eq_true, h0, h0', h1, h1']) (by simp) ?_
    refine AO.fin (st' := ?_) tab hE [0, 3, 4, 5, 6, 7] [3, 4, 5, 7] ?_ ?_
    rotate_left
    · simp -implicitDefEqProofs [-List.all_eq_true, tt57, h0, h0', h1, h1']
      rfl
    refine AW.sq ?_
    have hl : 0 < (6 + g.s).toNat := by omega
    refine AW.drawnI (st' := ?_) (by kernel_rfl) 10 [0, 3, 4, 5, 6, 7] [3, 4, 5, 7] [0, 3, 4, 5, 6, 7, 31, 39] [3, 4, 5, 7] (e := ?_) (v := ?_) [{ d := 30, l := ?_ }, { d := 31, l := ?_ }, { d := 32, l := ?_ }, { d := 33, l := ?_ }, { d := 34, l := ?_ }, { d := 35, l := ?_ }, { d := 36, l := ?_ }, { d := 37, l := ?_ }, { d := 38, l := ?_ }, { d := 39, l := ?_ }] ?d0h0 (by decide) (by rfl) (by rfl) (by rfl) ?d0hs ?d0hok ?d0hd ?d0hw ?d0hq
    case d0h0 =>
      simp -implicitDefEqProofs
      rfl
    case d0hs =>
      refine ⟨fun S hS hB hA => ?_, fun S hS hB hA => ?_, fun S hS hB hA => ?_, fun S hS hB hA => ?_, fun S hS hB hA => ?_, fun S hS hB hA => ?_, fun S hS hB hA => ?_, fun S hS hB hA => ?_, fun S hS hB hA => ?_, fun S hS hB hA => ?_, rfl⟩
      · skip
        refine OpDo.runI tab hE rfl rfl ?_
        simp -implicitDefEqProofs [-List.all_eq_true, DI.res, setCs, tt57, h0, h0', h1, h1', arr0, sup0, memNew_eq hg, hl, hS]
        rfl
      · simp at hB
        refine OpDo.runI tab hE rfl rfl ?_
        simp -implicitDefEqProofs [-List.all_eq_true, DI.res, setCs, tt53, tt55, h0, h0', h1, h1', arr0, sup0, memNew_eq hg, hl, hS, hB]
        rfl
      · skip
        refine OpDo.runI tab hE rfl rfl ?_
        simp -implicitDefEqProofs [-List.all_eq_true, DI.res, setCs, tt3, h0, h0', h1, h1', arr0, sup0, memNew_eq hg, hl, hS]
        rfl
      · skip
        refine OpDo.runI tab hE rfl rfl ?_
        simp -implicitDefEqProofs [-List.all_eq_true, DI.res, setCs, tt3, h0, h0', h1, h1', arr0, sup0, memNew_eq hg, hl, hS]
        rfl
      · skip
        refine OpDo.runI tab hE rfl rfl ?_
        simp -implicitDefEqProofs [-List.all_eq_true, DI.res, setCs, tt24, h0, h0', h1, h1', arr0, sup0, memNew_eq hg, hl, hS]
        rfl
      · simp at hB
        refine OpDo.runI tab hE rfl rfl ?_
        simp -implicitDefEqProofs [-List.all_eq_true, DI.res, setCs, tt3, h0, h0', h1, h1', arr0, sup0, memNew_eq hg, hl, hS, hB]
        rfl
      · skip
        refine OpDo.runI tab hE rfl rfl ?_
        simp -implicitDefEqProofs [-List.all_eq_true, DI.res, setCs, tt24, h0, h0', h1, h1', arr0, sup0, memNew_eq hg, hl, hS]
        rfl
      · simp at hB
        refine OpDo.runI tab hE rfl rfl ?_
        simp -implicitDefEqProofs [-List.all_eq_true, DI.res, setCs, tt3, h0, h0', h1, h1', arr0, sup0, memNew_eq hg, hl, hS, hB]
        rfl
      · simp at hB
        refine OpDo.runI tab hE rfl rfl ?_
        simp -implicitDefEqProofs [-List.all_eq_true, DI.res, setCs, tt3, tt4, tt62, h0, h0', h1, h1', arr0, sup0, memNew_eq hg, hl, hS, hB]
        rfl
      · simp at hB
        exact OpDo.callRD hE (s_PutSuper_spec (sup0 id g i)) (by rfl) (by simp) (by simp -implicitDefEqProofs [-List.all_eq_true, tt3, tt55, tt62, h0, h0', h1, h1', arr0, sup0, memNew_eq hg, hl, hS, hB]) (by simp) (by rfl)
    case d0hok => simp -implicitDefEqProofs [famOK, sepE, sepI, sepL, noC, ndC, ndU]
    case d0hd => simp
    case d0hw =>
      simp -implicitDefEqProofs
      rfl
    refine AO.fin (st' := ?_) tab hE [0, 3, 4, 5, 6, 7] [3, 4, 5, 7] ?_ ?_
    rotate_left
    · simp -implicitDefEqProofs [-List.all_eq_true, tt3, tt53, tt55, h0, h0', h1, h1', arr0, sup0, memNew_eq hg, hl]
      rfl
    refine AW.sq ?_
    refine AW.sq ?_
    refine AW.regt (st' := ?_) tab hE [0, 3, 4, 5, 6, 7, 8] [3, 4, 5, 7] ?_ ?_
    rotate_left
    · simp -implicitDefEqProofs [-List.all_eq_true, tt3, h0, h0', h1, h1']
      rfl
    refine AW.bk ?_
    refine AW.lp (fun qn st => ∃ (k : Nat), qn = g.s.toNat - k ∧ ((k : Int) ≤ g.s) ∧  st = mk [(0, .val false [.v (.int .i64 (id))]), (3, .ptr (.var 3) 0 []), (4, .ptr (.var 4) 0 []), (5, .ptr (.var 5) 0 []), (6, .val false [.v (.int .i64 ((i : Nat) : Int))]), (7, .ptr (.var 7) 0 []), (8, .val false [.v (.int .i64 ((k : Nat) : Int))])] [(3, geoC g), (4, arrC true zeroArr), (5, arrC true (arr0 id g ((List.range i).map (diskNew id g)))), (7, [.s true 1 (rows (intsC true) (secsK id g i k)), .s true 2 [], .v (.bool false), .s true 1 []])]) (g.s.toNat) ⟨0, by simp, by omega, by rw [← secsK_zero hg, ← rows_set]; simp [arr0, zeroArr, arrC, geoC, memC, intsC, sup0]⟩ ?_
    rintro qn st ⟨k, rfl, hk, rfl⟩
    refine AW.sq ?_
    refine AW.sq ?_
    refine AW.regt (st' := ?_) tab hE [0, 3, 4, 5, 6, 7, 8, 44] [3, 4, 5, 7] ?_ ?_
    rotate_left
    · simp -implicitDefEqProofs [-List.all_eq_true, tt3, tt4, tt24, h0, h0', h1, h1', arr0]
      rfl
    refine AW.iteV (v := ?_) (t := ?_) ?_ ?_ (fun h2 => ?_) (fun h2 => ?_)
    rotate_left 2
    · simp -implicitDefEqProofs [-List.all_eq_true, h0, h0', h1, h1']
      rfl
    · rfl
    · skip
      replace h2 := BP.pos h2
      have h2' := h2
      try simp at h2'
      refine AW.skip ?_
      refine AW.sq ?_
      refine AW.bk ?_
      have hd := dataAt_in hg k h2
      have hl := secsK_len (id := id) hg i k hk
      refine AW.drawnI (st' := ?_) (by kernel_rfl) 5 [0, 3, 4, 5, 6, 7, 8] [3, 4, 5, 7] [0, 3, 4, 5, 6, 7, 8, 48, 50, 51] [3, 4, 5, 7] (e := ?_) (v := ?_) [{ d := 47, l := ?_ }, { d := 48, l := ?_ }, { d := 49, l := ?_ }, { d := 50, l := ?_ }, { d := 51, l := ?_ }] ?d1h0 (by decide) (by rfl) (by rfl) (by rfl) ?d1hs ?d1hok ?d1hd ?d1hw ?d1hq
      case d1h0 =>
        simp -implicitDefEqProofs
        rfl
      case d1hs =>
        refine ⟨fun S hS hB hA => ?_, fun S hS hB hA => ?_, fun S hS hB hA => ?_, fun S hS hB hA => ?_, fun S hS hB hA => ?_, rfl⟩
        · skip
          refine OpDo.runI tab hE rfl rfl ?_
          simp -implicitDefEqProofs [-List.all_eq_true, DI.res, setCs, tt57, h0, h0', h1, h1', h2, h2', arr0, hd.1, hd.2, hl, hS]
          rfl
        · simp at hB
          refine OpDo.runI tab hE rfl rfl ?_
          simp -implicitDefEqProofs [-List.all_eq_true, DI.res, setCs, tt53, tt55, h0, h0', h1, h1', h2, h2', arr0, hd.1, hd.2, hl, hS, hB]
          rfl
        · skip
          refine OpDo.runI tab hE rfl rfl ?_
          simp -implicitDefEqProofs [-List.all_eq_true, DI.res, setCs, tt3, h0, h0', h1, h1', h2, h2', arr0, hd.1, hd.2, hl, hS]
          rfl
        · simp at hB
          exact OpDo.callRD hE (s_DataAt_spec (k : Int)) (by rfl) (by simp) (by simp -implicitDefEqProofs [-List.all_eq_true, tt3, h0, h0', h1, h1', h2, h2', arr0, hd.1, hd.2, hl, hS, hB]) (by simp) (by rfl)
        · skip
          refine OpDo.runI tab hE rfl rfl ?_
          simp -implicitDefEqProofs [-List.all_eq_true, DI.res, setCs, tt3, tt55, h0, h0', h1, h1', h2, h2', arr0, hd.1, hd.2, hl, hS]
          rfl
      case d1hok => simp -implicitDefEqProofs [famOK, sepE, sepI, sepL, noC, ndC, ndU]
      case d1hd => simp
      case d1hw =>
        simp -implicitDefEqProofs
        rfl
      refine AO.fin (st' := ?_) tab hE [0, 3, 4, 5, 6, 7, 8] [3, 4, 5, 7] ?_ ?_
      rotate_left
      · simp -implicitDefEqProofs [-List.all_eq_true, tt3, tt53, tt55, h0, h0', h1, h1', h2, h2', arr0, hd.1, hd.2, hl]
        rfl
      refine AW.regt (st' := ?_) tab hE [0, 3, 4, 5, 6, 7, 8] [3, 4, 5, 7] ?_ ?_
      rotate_left
      · simp -implicitDefEqProofs [-List.all_eq_true, tt3, h0, h0', h1, h1', h2, h2']
        rfl
      exact ⟨_, by omega, k + 1, rfl, by omega, by rw [wrap_succ k 100 (by omega) (by omega), ← secsK_succ hg i k h2, ← rows_set]; simp [arr0, zeroArr, arrC, geoC, memC, intsC, rows]⟩
    replace h2 := BP.neg h2
    have h2' := h2
    try simp at h2'
    obtain rfl : k = g.s.toNat := by omega
    refine AW.exit ?_
    simp only [loopQ, blockQ, thenQ, if_true, reduceIte, Nat.reduceEqDiff]
    refine AW.regt (st' := ?_) tab hE [0, 3, 4, 5, 6] [3, 4, 5] ?_ ?_
    rotate_left
    · simp -implicitDefEqProofs [-List.all_eq_true, tt25, tt28, tt57, h0, h0', h1, h1', h2, h2', arr0, show (i + 1) * 80 ≤ 140737488355328 by omega, show i + 1 ≤ 140737488355328 by omega]
      rfl
    refine AW.regt (st' := ?_) tab hE [0, 3, 4, 5, 6] [3, 4, 5] ?_ ?_
    rotate_left
    · simp -implicitDefEqProofs [-List.all_eq_true, tt3, h0, h0', h1, h1', h2, h2']
      rfl
    exact ⟨_, by omega, i + 1, rfl, by omega, by omega, by rw [wrap_succ i 100 (by omega) (by omega), List.range_succ, List.map_append]; simp [rows_app, rows_cons, rows_nil, memC, arrC, arr0, zeroArr, geoC, secsK_end]; simp [diskNew, rows]⟩
  replace h1 := BP.neg h1
  have h1' := h1
  try simp at h1'
  refine AW.exit ?_
  simp only [loopQ, blockQ, thenQ, if_true, reduceIte, Nat.reduceEqDiff]
  refine AW.sq ?_
  refine AW.regt (st' := ?_) tab hE [4] [4] ?_ ?_
  rotate_left
  · simp -implicitDefEqProofs [-List.all_eq_true, tt28, h0, h0', h1, h1']
    rfl
  refine AW.ret (finF_ok tab hE ?_)
  obtain rfl : i = g.n.toNat := by omega
  simp [tt28, arrNew, h0, arr0]
set_option maxHeartbeats 4000000 in
theorem s_EngNew_spec (id : Int) (g : Geo) : Lvm.Spec Try.prog [] 4 [.ro false [.v (.int .i64 (id))], .ro true (geoC g)] [(true, engC true (engNew id g))] := by
  refine Spec.of (TT := TT) Try.func4 (by kernel_rfl) rfl (of_decide_eq_true rfl) fun X hn hok hio hfa => ?_
  have hE : Ev.ok ⟨9, 2, _⟩ X := ⟨hn, hok, hio⟩
  clear hn hok hio hfa
  refine AW.sq ?_
  refine AW.regt (st' := ?_) tab hE [0, 3, 4] [3, 4] ?_ ?_
  rotate_left
  · simp -implicitDefEqProofs [-List.all_eq_true, tt24, tt34]
    rfl
  refine AW.sq ?_
  refine AW.rego ?_
  refine AO.runK (st' := ?_) tab hE [4, 5, 6] [3, 4] 2 ?_ ?_
  rotate_left
  · simp -implicitDefEqProofs [-List.all_eq_true, tt3, tt24]
    rfl
  refine AO.callR hE (s_ArrNew_spec id g) (by simp) (by simp) (by simp -implicitDefEqProofs [-List.all_eq_true]) (by simp) ?_
  refine AO.fin (st' := ?_) tab hE [4] [4] ?_ ?_
  rotate_left
  · simp -implicitDefEqProofs [-List.all_eq_true, tt34]
    rfl
  refine AW.ret (finF_ok tab hE ?_)
  simp -implicitDefEqProofs [-List.all_eq_true, tt34, engNew]
set_option maxHeartbeats 4000000 in
theorem i_EngNew_spec (id : Int) (g : Geo) : Lvm.Spec Try.prog [] 6 [.ro false [.v (.int .i64 (id))], .ro true (geoC g)] [(true, engC true (engNew id g))] := by
  refine Spec.of (TT := TT) Try.func6 (by kernel_rfl) rfl (of_decide_eq_true rfl) fun X hn hok hio hfa => ?_
  have hE : Ev.ok ⟨9, 2, _⟩ X := ⟨hn, hok, hio⟩
  clear hn hok hio hfa
  refine AW.sq ?_
  refine AW.regt (st' := ?_) tab hE [0, 3, 4] [3, 4] ?_ ?_
  rotate_left
  · simp -implicitDefEqProofs [-List.all_eq_true, tt24, tt34]
    rfl
  refine AW.sq ?_
  refine AW.rego ?_
  refine AO.runK (st' := ?_) tab hE [4, 5, 6] [3, 4] 2 ?_ ?_
  rotate_left
  · simp -implicitDefEqProofs [-List.all_eq_true, tt3, tt24]
    rfl
  refine AO.callR hE (i_ArrNew_spec id g) (by simp) (by simp) (by simp -implicitDefEqProofs [-List.all_eq_true]) (by simp) ?_
  refine AO.fin (st' := ?_) tab hE [4] [4] ?_ ?_
  rotate_left
  · simp -implicitDefEqProofs [-List.all_eq_true, tt34]
    rfl
  refine AW.ret (finF_ok tab hE ?_)
  simp -implicitDefEqProofs [-List.all_eq_true, tt34, engNew]
set_option maxHeartbeats 4000000 in
theorem l_toGeo_spec (g : Geo) : Lvm.Spec Try.prog [] 5 [.ro true (geoC g)] [(true, geoC g)] := by
  refine Spec.of (TT := TT) Try.func5 (by kernel_rfl) rfl (of_decide_eq_true rfl) fun X hn hok hio hfa => ?_
  have hE : Ev.ok ⟨11, 1, _⟩ X := ⟨hn, hok, hio⟩
  clear hn hok hio hfa
  refine AW.sq ?_
  refine AW.regt (st' := ?_) tab hE [1, 2] [1, 2] ?_ ?_
  rotate_left
  · simp -implicitDefEqProofs [-List.all_eq_true, tt23, tt24]
    rfl
  refine AW.sq ?_
  refine AW.regt (st' := ?_) tab hE [1, 2, 3] [1, 2, 3] ?_ ?_
  rotate_left
  · simp -implicitDefEqProofs [-List.all_eq_true, tt24]
    rfl
  refine AW.sq ?_
  refine AW.regt (st' := ?_) tab hE [1, 2, 3] [1, 2, 3] ?_ ?_
  rotate_left
  · simp -implicitDefEqProofs [-List.all_eq_true, tt3, tt23, tt24]
    rfl
  refine AW.sq ?_
  refine AW.regt (st' := ?_) tab hE [2, 3] [2, 3] ?_ ?_
  rotate_left
  · simp -implicitDefEqProofs [-List.all_eq_true, tt3, tt23, tt24]
    rfl
  refine AW.sq ?_
  refine AW.regt (st' := ?_) tab hE [2] [2] ?_ ?_
  rotate_left
  · simp -implicitDefEqProofs [-List.all_eq_true, tt24]
    rfl
  refine AW.ret (finF_ok tab hE ?_)
  simp -implicitDefEqProofs [-List.all_eq_true, tt24]
end Go.Proofs.Ytm
