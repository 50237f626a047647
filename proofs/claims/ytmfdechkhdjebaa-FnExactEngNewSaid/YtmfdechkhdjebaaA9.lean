/- Contracts of the program's functions, each for all arguments that its hypotheses allow: proved over the loaded program by the by-value machine of the Lvm texts. -/
import Derived.Test.YtmfdechkhdjebaaA7
import Derived.Test.YtmfdechkhdjebaaA8
set_option linter.unusedVariables false
set_option linter.unusedSimpArgs false
namespace Go.Proofs.Ytm
open Go.Lvm Go.Proofs
attribute [local simp] put_env put_var put_cv put_cs famS_env famS_var famS_cv famS_cs dE dC dV dU lkC runK runF ev_move ev_assign ev_pick ev_bin ev_un ev_conv ev_load ev_field ev_index ev_alloc ev_box ev_extract ev_len ev_append ev_build ev_buildS ev_store ev_makeS ev_slice Ev.dst Ev.src leAt moveF assignF viewL viewP mk_put mk_born mk_rv mk_rs mk_touch mk_touch2 touE2 L.touch2 mk_env mk_var mk_cv mk_cs delE delB delV setE touE lk lkv kill_dead kill_v kill_sptr kill_tup kill_ref kill_win kill_ptr L.base L.touch L.setCells L.cells Value.oneCell' isSt_v isSt_s isSt_d scal opv binS binF unS pickF st0_mk st0E st0V gokF gval gvV gtup skipF int_beq int_bne eqI_self mk_keep selE selV finF retF St.take ownL ownC Posts Post St.grab nz getC setC loadL fieldL lastOff ownR snap sttL stt sttR roOK snapRt resL isV sliceC lenS indexL intOf ros grd thenQ blockQ loopQ upd kill_ite touch_ite cells_ite lkv_ite lk_ite fam famE famF bef Region.binds rows_len rows_nil rows_get rows_get? stt_ints stt_intss stt_wrs stt_mems stt_cmds stt_jobs stt_anss stt_turns ownR_rep ownR_app allSt_ints allSt_intss allSt_wrs allSt_mems allSt_cmds allSt_jobs allSt_anss allSt_turns own_ints own_intss own_wrs own_mems own_cmds own_jobs own_anss own_turns intC intsC wrC memC geoC superC arrC cmdC jobC ansC turnC engC St.parts partsOf rowsOf lput chunk appF appOK St.elems gone goneIn convS bndF sliceL

theorem i_WS_new {id : Int} {g : Geo} (hg : geoOk g = true) (hid : inB id 1 60000 = true) (m : Nat) (hm : (m : Int) < g.n) : Lvm.Spec Try.prog [] 35 [.ro true (memC false (memNew (w64 (6 + g.s)))), .ro true (superC (sup0 id g m))] [(true, memC true (diskK id g m 0))] := by
  have h := i_WriteSuper0_spec _ (mem0_F hg) (by rw [memNew_eq hg]) (sup0 id g m)
  rw [diskK_zero hg hid m hm] at h
  exact h
theorem i_WK {id : Int} {g : Geo} (hg : geoOk g = true) (hid : inB id 1 60000 = true) (m k : Nat) (hm : (m : Int) < g.n) (hk : (k : Int) < g.s) : Lvm.Spec Try.prog [] 39 [.ro true (memC false (diskK id g m k)), .ro false [.v (.int .i64 (dataAt k))], .ro false [.s false 1 [[.v (.int .i64 0)]]]] [(true, memC true (diskK id g m (k + 1))), (false, [.v (.bool (writeSec (diskK id g m k) (dataAt k) [0]).2)])] := by
  have h := i_WriteSec0_spec _ (diskK_F hg hid m k hm (by omega)) rfl (dataAt k) [0] (by simp)
  rw [diskK_succ hg hid m k hm hk] at h
  exact h
theorem i_FL {id : Int} {g : Geo} (hg : geoOk g = true) (hid : inB id 1 60000 = true) (m : Nat) (hm : (m : Int) < g.n) : Lvm.Spec Try.prog [] 41 [.ro true (memC false (diskK id g m g.s.toNat))] [(true, memC true (diskNew id g m))] := by
  have h := i_FlushMem_spec _ (diskK_F hg hid m g.s.toNat hm (by have := geo_s hg; omega))
  rw [flush_diskK hg hid m hm] at h
  exact h
set_option maxHeartbeats 4000000 in
theorem i_ArrNew_spec (id : Int) (g : Geo) : Lvm.Spec Try.prog [] 11 [.ro false [.v (.int .i64 (id))], .ro true (geoC g)] [(true, arrC true (arrNew id g))] := by
  refine Spec.of (TT := TT) Try.func11 (by kernel_rfl) rfl (of_decide_eq_true rfl) fun X hn hok hio hfa => ?_
  have hE : Ev.ok ⟨56, 2, _⟩ X := ⟨hn, hok, hio⟩
  clear hn hok hio hfa
  refine AW.sq ?_
  refine AW.regt (st' := ?_) tab hE [0, 3, 4] [3, 4] ?_ ?_
  rotate_left
  · simp -implicitDefEqProofs [-List.all_eq_true, tt24, tt28]
    rfl
  refine AW.sq ?_
  refine AW.sq ?_
  refine AW.regB (S0 := ?_) [0, 3, 4] [3, 4] 16 (!newOK id g) ?_ ?_ ?_
  rotate_left
  · simp -implicitDefEqProofs
    rfl
  · skip
    refine AO.runK (st' := ?_) tab hE [0, 3, 4, 9] [3, 4] 1 ?_ ?_
    rotate_left
    · simp -implicitDefEqProofs [-List.all_eq_true, tt24]
      rfl
    refine AO.callR hE (i_GeoOk_spec g) (by simp) (by simp) (by simp -implicitDefEqProofs [-List.all_eq_true]) (by simp) ?_
    refine AO.runK (st' := ?_) tab hE [0, 3, 4, 12] [3, 4] 2 ?_ ?_
    rotate_left
    · simp -implicitDefEqProofs [-List.all_eq_true, tt4]
      rfl
    refine AO.guardV (v := ?_) (t := ?_) 3 ?_ ?_ (fun g0 => ?_) (fun g0 => ?_)
    rotate_left 2
    · simp -implicitDefEqProofs [-List.all_eq_true]
      rfl
    · rfl
    · skip
      replace g0 := BP.pos g0
      have g0' := g0
      try simp at g0'
      refine AO.finB tab hE [16, 0, 3, 4] [3, 4] ?_
      simp -implicitDefEqProofs [-List.all_eq_true, newOK, tt3, tt4, g0, g0']
    · skip
      replace g0 := BP.neg g0
      have g0' := g0
      try simp at g0'
      refine AO.runK (st' := ?_) tab hE [0, 3, 4, 12, 13] [3, 4] 1 ?_ ?_
      rotate_left
      · simp -implicitDefEqProofs [-List.all_eq_true, tt3, g0, g0']
        rfl
      refine AO.callR hE (i_within_spec id 1 60000) (by simp [g0, g0']) (by simp) (by simp -implicitDefEqProofs [-List.all_eq_true, g0, g0']) (by simp) ?_
      refine AO.finB tab hE [16, 0, 3, 4] [3, 4] ?_
      simp -implicitDefEqProofs [-List.all_eq_true, newOK, tt4, g0, g0']
  refine AW.iteV (v := ?_) (t := ?_) ?_ ?_ (fun h0 => ?_) (fun h0 => ?_)
  rotate_left 2
  · simp -implicitDefEqProofs [-List.all_eq_true]
    rfl
  · rfl
  · skip
    replace h0 := BP.pos h0
    have h0' := h0
    try simp at h0'
    refine AW.sq ?_
    refine AW.regt (st' := ?_) tab hE [4] [4] ?_ ?_
    rotate_left
    · simp -implicitDefEqProofs [-List.all_eq_true, tt28, h0, h0']
      rfl
    refine AW.ret (finF_ok tab hE ?_)
    simp [tt28, arrNew, h0, zeroArr]
  replace h0 := BP.neg h0
  have h0' := h0
  try simp at h0'
  have hg := newOK_g h0
  have hid := newOK_i h0
  have hn := geo_n hg
  have hs := geo_s hg
  refine AW.skip ?_
  refine AW.sq ?_
  refine AW.regt (st' := ?_) tab hE [3, 4, 5] [3, 4, 5] ?_ ?_
  rotate_left
  · simp -implicitDefEqProofs [-List.all_eq_true, tt3, tt9, tt24, tt28, h0, h0']
    rfl
  refine AW.sq ?_
  refine AW.sq ?_
  refine AW.regt (st' := ?_) tab hE [3, 4, 5, 22, 23] [3, 4, 5] ?_ ?_
  rotate_left
  · simp -implicitDefEqProofs [-List.all_eq_true, tt3, tt24, h0, h0']
    rfl
  refine AW.bk ?_
  refine AW.lp (fun qn st => ∃ (i : Nat), qn = g.n.toNat - i ∧ ((i : Int) ≤ g.n) ∧ (i ≤ 5) ∧  st = mk [(3, .ptr (.var 3) 0 []), (4, .ptr (.var 4) 0 []), (5, .ptr (.var 5) 0 []), (22, .val false [.v (.int .i64 g.n)]), (23, .val false [.v (.int .i64 ((i : Nat) : Int))])] [(3, geoC g), (4, arrC true zeroArr), (5, arrC true (arr0 id g ((List.range i).map (diskNew id g))))]) (g.n.toNat) ⟨0, by simp, by omega, by omega, by simp [arr0, zeroArr, arrC, geoC, rows]⟩ ?_
  rintro qn st ⟨i, rfl, hi, hi5, rfl⟩
  refine AW.sq ?_
  refine AW.regt (st' := ?_) tab hE [3, 4, 5, 22, 23, 24] [3, 4, 5] ?_ ?_
  rotate_left
  · simp -implicitDefEqProofs [-List.all_eq_true, tt3, tt4, h0, h0', arr0]
    rfl
  refine AW.sq ?_
  refine AW.iteV (v := ?_) (t := ?_) ?_ ?_ (fun h1 => ?_) (fun h1 => ?_)
  rotate_left 2
  · simp -implicitDefEqProofs [-List.all_eq_true, h0, h0']
    rfl
  · rfl
  · skip
    replace h1 := BP.pos h1
    have h1' := h1
    try simp at h1'
    refine AW.skip ?_
    refine AW.sq ?_
    refine AW.bk ?_
    refine AW.sq ?_
    refine AW.regt (st' := ?_) tab hE [3, 4, 5, 6, 22, 23] [3, 4, 5] ?_ ?_
    rotate_left
    · simp -implicitDefEqProofs [-List.all_eq_true, tt3, h0, h0', h1, h1']
      rfl
    refine AW.sq ?_
    refine AW.drawnI (st' := ?_) (by kernel_rfl) 8 [3, 4, 5, 6, 22, 23] [3, 4, 5] [3, 4, 5, 7, 22, 23, 32] [3, 4, 5, 7] (e := ?_) (v := ?_) [{ d := 26, l := ?_ }, { d := 27, l := ?_ }, { d := 28, l := ?_ }, { d := 29, l := ?_ }, { d := 30, l := ?_ }, { d := 31, l := ?_ }, { d := 32, l := ?_ }, { d := 7, l := .ptr (.var 7) 0 [], b := some ?_ }] ?d0h0 (by decide) (by rfl) (by rfl) (by rfl) ?d0hs ?d0hok ?d0hd ?d0hw ?d0hq
    case d0h0 =>
      simp -implicitDefEqProofs
      rfl
    case d0hs =>
      refine ⟨fun S hS hB hA => ?_, fun S hS hB hA => ?_, fun S hS hB hA => ?_, fun S hS hB hA => ?_, fun S hS hB hA => ?_, fun S hS hB hA => ?_, fun S hS hB hA => ?_, fun S hS hB hA => ?_, rfl⟩
      · skip
        refine OpDo.runI tab hE rfl rfl ?_
        simp -implicitDefEqProofs [-List.all_eq_true, DI.res, setCs, tt24, h0, h0', h1, h1', arr0, superOf, sup0, hS]
        rfl
      · simp at hB
        exact OpDo.callRD hE (i_sectors_spec g) (by rfl) (by simp) (by simp -implicitDefEqProofs [-List.all_eq_true, tt3, tt24, h0, h0', h1, h1', arr0, superOf, sup0, hS, hB]) (by simp) (by rfl)
      · simp at hB
        exact OpDo.callRD hE (i_MemNew_spec (w64 (6 + g.s))) (by rfl) (by simp) (by simp -implicitDefEqProofs [-List.all_eq_true, tt3, tt57, h0, h0', h1, h1', arr0, superOf, sup0, hS, hB]) (by simp) (by rfl)
      · skip
        refine OpDo.runI tab hE rfl rfl ?_
        simp -implicitDefEqProofs [-List.all_eq_true, DI.res, setCs, tt28, h0, h0', h1, h1', arr0, superOf, sup0, hS]
        rfl
      · skip
        refine OpDo.runI tab hE rfl rfl ?_
        simp -implicitDefEqProofs [-List.all_eq_true, DI.res, setCs, tt3, h0, h0', h1, h1', arr0, superOf, sup0, hS]
        rfl
      · simp at hB
        exact OpDo.callRD hE (i_superOf_spec (arr0 id g ((List.range i).map (diskNew id g))) (i : Int)) (by rfl) (by simp) (by simp -implicitDefEqProofs [-List.all_eq_true, tt3, tt28, tt62, h0, h0', h1, h1', arr0, superOf, sup0, hS, hB]) (by simp) (by rfl)
      · simp at hB
        exact OpDo.callRD hE (i_WS_new hg hid i h1) (by rfl) (by simp) (by simp -implicitDefEqProofs [-List.all_eq_true, tt57, tt62, h0, h0', h1, h1', arr0, superOf, sup0, hS, hB]) (by simp) (by rfl)
      · skip
        refine OpDo.runI tab hE rfl rfl ?_
        simp -implicitDefEqProofs [-List.all_eq_true, DI.res, setCs, tt57, h0, h0', h1, h1', arr0, superOf, sup0, hS]
        rfl
    case d0hok => simp -implicitDefEqProofs [famOK, sepE, sepI, sepL, noC, ndC, ndU]
    case d0hd => simp
    case d0hw =>
      simp -implicitDefEqProofs
      rfl
    refine AO.fin (st' := ?_) tab hE [3, 4, 5, 7, 22, 23] [3, 4, 5, 7] ?_ ?_
    rotate_left
    · simp -implicitDefEqProofs [-List.all_eq_true, tt57, h0, h0', h1, h1', arr0, superOf, sup0]
      rfl
    refine AW.sq ?_
    refine AW.sq ?_
    refine AW.regt (st' := ?_) tab hE [3, 4, 5, 7, 22, 23, 34, 35] [3, 4, 5, 7] ?_ ?_
    rotate_left
    · simp -implicitDefEqProofs [-List.all_eq_true, tt3, tt24, h0, h0', h1, h1', arr0]
      rfl
    refine AW.bk ?_
    refine AW.lp (fun qn st => ∃ (k : Nat), qn = g.s.toNat - k ∧ ((k : Int) ≤ g.s) ∧  st = mk [(3, .ptr (.var 3) 0 []), (4, .ptr (.var 4) 0 []), (5, .ptr (.var 5) 0 []), (7, .ptr (.var 7) 0 []), (22, .val false [.v (.int .i64 g.n)]), (23, .val false [.v (.int .i64 ((i : Nat) : Int))]), (34, .val false [.v (.int .i64 g.s)]), (35, .val false [.v (.int .i64 ((k : Nat) : Int))])] [(3, geoC g), (4, arrC true zeroArr), (5, arrC true (arr0 id g ((List.range i).map (diskNew id g)))), (7, memC true (diskK id g i k))]) (g.s.toNat) ⟨0, by simp, by omega, by simp [arr0, zeroArr, arrC, geoC, memC]⟩ ?_
    rintro qn st ⟨k, rfl, hk, rfl⟩
    refine AW.sq ?_
    refine AW.regt (st' := ?_) tab hE [3, 4, 5, 7, 22, 23, 34, 35, 36] [3, 4, 5, 7] ?_ ?_
    rotate_left
    · simp -implicitDefEqProofs [-List.all_eq_true, tt3, tt4, h0, h0', h1, h1']
      rfl
    refine AW.sq ?_
    refine AW.iteV (v := ?_) (t := ?_) ?_ ?_ (fun h2 => ?_) (fun h2 => ?_)
    rotate_left 2
    · simp -implicitDefEqProofs [-List.all_eq_true, h0, h0', h1, h1']
      rfl
    · rfl
    · skip
      replace h2 := BP.pos h2
      have h2' := h2
      try simp at h2'
      refine AW.skip ?_
      refine AW.sq ?_
      refine AW.bk ?_
      refine AW.sq ?_
      refine AW.regt (st' := ?_) tab hE [3, 4, 5, 7, 8, 22, 23, 34, 35] [3, 4, 5, 7] ?_ ?_
      rotate_left
      · simp -implicitDefEqProofs [-List.all_eq_true, tt3, h0, h0', h1, h1', h2, h2']
        rfl
      refine AW.drawnI (st' := ?_) (by kernel_rfl) 9 [3, 4, 5, 7, 8, 22, 23, 34, 35] [3, 4, 5, 7] [3, 4, 5, 7, 22, 23, 34, 35] [3, 4, 5, 7] (e := ?_) (v := ?_) [{ d := 39, l := ?_ }, { d := 40, l := ?_ }, { d := 41, l := ?_ }, { d := 42, l := ?_ }, { d := 43, l := ?_ }, { d := 38, l := ?_, cs := [(43, .dead)] }, { d := 44, l := ?_, cs := [(38, .tup ?_)] }, { d := 45, l := ?_ }, { d := 1008, l := .dead, cs := [(44, .dead), (39, .dead)], u := [(7, ?_)] }] ?d1h0 (by decide) (by rfl) (by rfl) (by rfl) ?d1hs ?d1hok ?d1hd ?d1hw ?d1hq
      case d1h0 =>
        simp -implicitDefEqProofs
        rfl
      case d1hs =>
        refine ⟨fun S hS hB hA => ?_, fun S hS hB hA => ?_, fun S hS hB hA => ?_, fun S hS hB hA => ?_, fun S hS hB hA => ?_, fun S hS hB hA => ?_, fun S hS hB hA => ?_, fun S hS hB hA => ?_, fun S hS hB hA => ?_, rfl⟩
        · skip
          have hA8 := hA 8 (by rfl)
          refine OpDo.runI tab hE rfl rfl ?_
          simp -implicitDefEqProofs [-List.all_eq_true, DI.res, setCs, tt57, h0, h0', h1, h1', h2, h2', hS, hA8]
          rfl
        · skip
          have hA8 := hA 8 (by rfl)
          refine OpDo.runI tab hE rfl rfl ?_
          simp -implicitDefEqProofs [-List.all_eq_true, DI.res, setCs, tt3, h0, h0', h1, h1', h2, h2', hS, hA8]
          rfl
        · simp at hB
          have hA8 := hA 8 (by rfl)
          exact OpDo.callRD hE (i_DataAt_spec (k : Int)) (by rfl) (by simp) (by simp -implicitDefEqProofs [-List.all_eq_true, tt3, h0, h0', h1, h1', h2, h2', hS, hB, hA8]) (by simp) (by rfl)
        · skip
          have hA8 := hA 8 (by rfl)
          refine OpDo.runI tab hE rfl rfl ?_
          simp -implicitDefEqProofs [-List.all_eq_true, DI.res, setCs, tt3, tt55, h0, h0', h1, h1', h2, h2', hS, hA8]
          rfl
        · simp at hB
          have hA8 := hA 8 (by rfl)
          exact OpDo.callRD hE (i_WK hg hid i k h1 h2) (by rfl) (by simp) (by simp -implicitDefEqProofs [-List.all_eq_true, tt3, tt55, tt57, h0, h0', h1, h1', h2, h2', hS, hB, hA8]) (by simp) (by rfl)
        · simp at hB
          have hA8 := hA 8 (by rfl)
          exact OpDo.moveT hE (by rfl) (by simp) (by simp -implicitDefEqProofs [-List.all_eq_true, mvT, h0, h0', h1, h1', h2, h2', hS, hB, hA8]; rfl) (by rfl)
        · simp at hB
          have hA8 := hA 8 (by rfl)
          refine OpDo.runI tab hE rfl rfl ?_
          simp -implicitDefEqProofs [-List.all_eq_true, DI.res, setCs, tt57, h0, h0', h1, h1', h2, h2', hS, hB, hA8]
          rfl
        · simp at hB
          exact OpDo.extractS hE (by rfl) (by simp) (by cases hC6 : S 6 <;> simp -implicitDefEqProofs [-List.all_eq_true, exE, tt4, h0, h0', h1, h1', h2, h2', hS, hB, hC6] <;> rfl) (by rfl) (by rfl)
        · simp at hB
          refine OpDo.storeI (st1 := ?_) tab hE [(44, .dead)] [39] rfl rfl ?_ rfl rfl rfl ?_
          rotate_left
          · simp -implicitDefEqProofs [-List.all_eq_true, DI.res, tt57, h0, h0', h1, h1', h2, h2', hS, hB]
            rfl
          · simp -implicitDefEqProofs [-List.all_eq_true, setVs, setCs, tt57, h0, h0', h1, h1', h2, h2', hS, hB]
            rfl
      case d1hok => simp -implicitDefEqProofs [famOK, sepE, sepI, sepL, noC, ndC, ndU]
      case d1hd => simp
      case d1hw =>
        simp -implicitDefEqProofs
        rfl
      refine AO.fin (st' := ?_) tab hE [3, 4, 5, 7, 22, 23, 34, 35] [3, 4, 5, 7] ?_ ?_
      rotate_left
      · simp -implicitDefEqProofs [-List.all_eq_true, h0, h0', h1, h1', h2, h2']
        rfl
      refine AW.regt (st' := ?_) tab hE [3, 4, 5, 7, 22, 23, 34, 35] [3, 4, 5, 7] ?_ ?_
      rotate_left
      · simp -implicitDefEqProofs [-List.all_eq_true, tt3, h0, h0', h1, h1', h2, h2']
        rfl
      exact ⟨_, by omega, k + 1, rfl, by omega, by rw [wrap_succ k 100 (by omega) (by omega)]; simp [arr0, zeroArr, arrC, geoC, memC]⟩
    replace h2 := BP.neg h2
    have h2' := h2
    try simp at h2'
    obtain rfl : k = g.s.toNat := by omega
    refine AW.exit ?_
    simp only [loopQ, blockQ, thenQ, if_true, reduceIte, Nat.reduceEqDiff]
    refine AW.drawnI (st' := ?_) (by kernel_rfl) 5 [3, 4, 5, 7, 22, 23] [3, 4, 5, 7] [3, 4, 5, 22, 23, 48, 51] [3, 4, 5] (e := ?_) (v := ?_) [{ d := 47, l := ?_ }, { d := 48, l := ?_ }, { d := 49, l := ?_ }, { d := 50, l := ?_ }, { d := 51, l := ?_, cs := [(50, .dead)] }] ?d2h0 (by decide) (by rfl) (by rfl) (by rfl) ?d2hs ?d2hok ?d2hd ?d2hw ?d2hq
    case d2h0 =>
      simp -implicitDefEqProofs
      rfl
    case d2hs =>
      refine ⟨fun S hS hB hA => ?_, fun S hS hB hA => ?_, fun S hS hB hA => ?_, fun S hS hB hA => ?_, fun S hS hB hA => ?_, rfl⟩
      · skip
        refine OpDo.runI tab hE rfl rfl ?_
        simp -implicitDefEqProofs [-List.all_eq_true, DI.res, setCs, tt28, h0, h0', h1, h1', h2, h2', arr0, show (i + 1) * 80 ≤ 140737488355328 by omega, show i + 1 ≤ 140737488355328 by omega, hS]
        rfl
      · simp at hB
        refine OpDo.runI tab hE rfl rfl ?_
        simp -implicitDefEqProofs [-List.all_eq_true, DI.res, setCs, tt25, tt57, h0, h0', h1, h1', h2, h2', arr0, show (i + 1) * 80 ≤ 140737488355328 by omega, show i + 1 ≤ 140737488355328 by omega, hS, hB]
        rfl
      · skip
        refine OpDo.runI tab hE rfl rfl ?_
        simp -implicitDefEqProofs [-List.all_eq_true, DI.res, setCs, tt57, h0, h0', h1, h1', h2, h2', arr0, show (i + 1) * 80 ≤ 140737488355328 by omega, show i + 1 ≤ 140737488355328 by omega, hS]
        rfl
      · simp at hB
        exact OpDo.callRD hE (i_FL hg hid i h1) (by rfl) (by simp) (by simp -implicitDefEqProofs [-List.all_eq_true, tt57, h0, h0', h1, h1', h2, h2', arr0, show (i + 1) * 80 ≤ 140737488355328 by omega, show i + 1 ≤ 140737488355328 by omega, hS, hB]) (by simp) (by rfl)
      · simp at hB
        refine OpDo.runI tab hE rfl rfl ?_
        simp -implicitDefEqProofs [-List.all_eq_true, DI.res, setCs, tt25, tt57, h0, h0', h1, h1', h2, h2', arr0, show (i + 1) * 80 ≤ 140737488355328 by omega, show i + 1 ≤ 140737488355328 by omega, hS, hB]
        rfl
    case d2hok => simp -implicitDefEqProofs [famOK, sepE, sepI, sepL, noC, ndC, ndU]
    case d2hd => simp
    case d2hw =>
      simp -implicitDefEqProofs
      rfl
    refine AO.fin (st' := ?_) tab hE [3, 4, 5, 22, 23] [3, 4, 5] ?_ ?_
    rotate_left
    · simp -implicitDefEqProofs [-List.all_eq_true, tt25, tt28, tt57, h0, h0', h1, h1', h2, h2', arr0, show (i + 1) * 80 ≤ 140737488355328 by omega, show i + 1 ≤ 140737488355328 by omega]
      rfl
    refine AW.regt (st' := ?_) tab hE [3, 4, 5, 22, 23] [3, 4, 5] ?_ ?_
    rotate_left
    · simp -implicitDefEqProofs [-List.all_eq_true, tt3, h0, h0', h1, h1', h2, h2']
      rfl
    exact ⟨_, by omega, i + 1, rfl, by omega, by omega, by rw [wrap_succ i 100 (by omega) (by omega), List.range_succ, List.map_append]; simp [rows_app, rows_cons, rows_nil, memC, arrC, arr0, zeroArr, geoC]⟩
  replace h1 := BP.neg h1
  have h1' := h1
  try simp at h1'
  refine AW.exit ?_
  simp only [loopQ, blockQ, thenQ, if_true, reduceIte, Nat.reduceEqDiff]
  refine AW.sq ?_
  refine AW.regt (st' := ?_) tab hE [4] [4] ?_ ?_
  rotate_left
  · simp -implicitDefEqProofs [-List.all_eq_true, tt28, h0, h0', h1, h1']
    rfl
  refine AW.ret (finF_ok tab hE ?_)
  obtain rfl : i = g.n.toNat := by omega
  simp [tt28, arrNew, h0, arr0]
end Go.Proofs.Ytm
