/- Contracts of the program's functions, each for all arguments that its hypotheses allow: proved over the loaded program by the by-value machine of the Lvm texts. -/
import Derived.Test.YtmfdechkhdjebaaA11
set_option linter.unusedVariables false
set_option linter.unusedSimpArgs false
namespace Go.Proofs.Ytm
open Go.Lvm Go.Proofs
attribute [local simp] put_env put_var put_cv put_cs famS_env famS_var famS_cv famS_cs dE dC dV dU lkC runK runF ev_move ev_assign ev_pick ev_bin ev_un ev_conv ev_load ev_field ev_index ev_alloc ev_box ev_extract ev_len ev_append ev_build ev_buildS ev_store ev_makeS ev_slice Ev.dst Ev.src leAt moveF assignF viewL viewP mk_put mk_born mk_rv mk_rs mk_touch mk_touch2 touE2 L.touch2 mk_env mk_var mk_cv mk_cs delE delB delV setE touE lk lkv kill_dead kill_v kill_sptr kill_tup kill_ref kill_win kill_ptr L.base L.touch L.setCells L.cells Value.oneCell' isSt_v isSt_s isSt_d scal opv binS binF unS pickF st0_mk st0E st0V gokF gval gvV gtup skipF int_beq int_bne eqI_self mk_keep selE selV finF retF St.take ownL ownC Posts Post St.grab nz getC setC loadL fieldL lastOff ownR snap sttL stt sttR roOK snapRt resL isV sliceC lenS indexL intOf ros grd thenQ blockQ loopQ upd kill_ite touch_ite cells_ite lkv_ite lk_ite fam famE famF bef Region.binds rows_len rows_nil rows_get rows_get? stt_ints stt_intss stt_wrs stt_mems stt_cmds stt_jobs stt_anss stt_turns ownR_rep ownR_app allSt_ints allSt_intss allSt_wrs allSt_mems allSt_cmds allSt_jobs allSt_anss allSt_turns own_ints own_intss own_wrs own_mems own_cmds own_jobs own_anss own_turns intC intsC wrC memC geoC superC arrC cmdC jobC ansC turnC engC St.parts partsOf rowsOf lput chunk appF appOK St.elems gone goneIn convS bndF sliceL

set_option maxHeartbeats 4000000 in
theorem l_eqIntS1_spec (a : List Int) (ha : a.length * 8 ≤ 140737488351232) : Lvm.Spec Try.prog [] 67 [.ro false [.s false 1 (rows intC a)], .ro false [.s false 1 (rows intC a)]] [(false, [.v (.bool (true))])] := by
  refine Spec.of (TT := TT) Try.func67 (by kernel_rfl) rfl (of_decide_eq_true rfl) fun X hn hok hio hfa => ?_
  have hE : Ev.ok ⟨26, 2, _⟩ X := ⟨hn, hok, hio⟩
  clear hn hok hio hfa
  refine AW.sq ?_
  refine AW.regt (st' := ?_) tab hE [0, 1] [] ?_ ?_
  rotate_left
  · simp -implicitDefEqProofs [-List.all_eq_true, tt4]
    rfl
  refine AW.sq ?_
  refine AW.sq ?_
  refine AW.regt (st' := ?_) tab hE [0, 1, 10] [] ?_ ?_
  rotate_left
  · simp -implicitDefEqProofs [-List.all_eq_true, tt3, tt4, tt55]
    rfl
  refine AW.cond (t := false) (by simp) ?_
  simp only [if_true, if_false, Bool.false_eq_true, reduceIte]
  refine AW.skip ?_
  refine AW.sq ?_
  refine AW.sq ?_
  refine AW.regt (st' := ?_) tab hE [0, 1, 5] [] ?_ ?_
  rotate_left
  · simp -implicitDefEqProofs [-List.all_eq_true, tt3]
    rfl
  refine AW.bk ?_
  refine AW.lp (fun qn st => ∃ (i : Nat), qn = a.length - i ∧ (i ≤ a.length) ∧  st = mk [(0, .val false [.s false 1 (rows intC a)]), (1, .val false [.s false 1 (rows intC a)]), (5, .val false [.v (.int .i64 ((i : Nat) : Int))])] []) (a.length) ⟨0, by simp, by simp, by simp⟩ ?_
  rintro qn st ⟨i, rfl, hi, rfl⟩
  refine AW.sq ?_
  refine AW.sq ?_
  refine AW.regt (st' := ?_) tab hE [0, 1, 5, 14] [] ?_ ?_
  rotate_left
  · simp -implicitDefEqProofs [-List.all_eq_true, tt3, tt4, tt55]
    rfl
  refine AW.iteV (v := ?_) (t := ?_) ?_ ?_ (fun h1 => ?_) (fun h1 => ?_)
  rotate_left 2
  · simp -implicitDefEqProofs [-List.all_eq_true]
    rfl
  · rfl
  · skip
    replace h1 := BP.pos h1
    have h1' := h1
    try simp at h1'
    refine AW.skip ?_
    refine AW.sq ?_
    refine AW.bk ?_
    refine AW.sq ?_
    refine AW.drawnI (st' := ?_) (by kernel_rfl) 8 [0, 1, 5] [] [0, 1, 5, 20, 24] [] (e := ?_) (v := ?_) [{ d := 17, l := ?_ }, { d := 18, l := ?_ }, { d := 19, l := ?_ }, { d := 20, l := ?_ }, { d := 21, l := ?_ }, { d := 22, l := ?_ }, { d := 23, l := ?_ }, { d := 24, l := ?_ }] ?d0h0 (by decide) (by rfl) (by rfl) (by rfl) ?d0hs ?d0hok ?d0hd ?d0hw ?d0hq
    case d0h0 =>
      simp -implicitDefEqProofs
      rfl
    case d0hs =>
      refine ⟨fun S hS hB hA => ?_, fun S hS hB hA => ?_, fun S hS hB hA => ?_, fun S hS hB hA => ?_, fun S hS hB hA => ?_, fun S hS hB hA => ?_, fun S hS hB hA => ?_, fun S hS hB hA => ?_, rfl⟩
      · skip
        refine OpDo.runI tab hE rfl rfl ?_
        simp -implicitDefEqProofs [-List.all_eq_true, DI.res, setCs, tt3, tt55, h1, h1', hS]
        rfl
      · skip
        refine OpDo.runI tab hE rfl rfl ?_
        simp -implicitDefEqProofs [-List.all_eq_true, DI.res, setCs, tt3, h1, h1', hS]
        rfl
      · simp at hB
        refine OpDo.runI tab hE rfl rfl ?_
        simp -implicitDefEqProofs [-List.all_eq_true, DI.res, setCs, tt3, tt55, h1, h1', hS, hB]
        rfl
      · simp at hB
        refine OpDo.runI tab hE rfl rfl ?_
        simp -implicitDefEqProofs [-List.all_eq_true, DI.res, setCs, tt3, h1, h1', hS, hB]
        rfl
      · skip
        refine OpDo.runI tab hE rfl rfl ?_
        simp -implicitDefEqProofs [-List.all_eq_true, DI.res, setCs, tt3, tt55, h1, h1', hS]
        rfl
      · skip
        refine OpDo.runI tab hE rfl rfl ?_
        simp -implicitDefEqProofs [-List.all_eq_true, DI.res, setCs, tt3, h1, h1', hS]
        rfl
      · simp at hB
        refine OpDo.runI tab hE rfl rfl ?_
        simp -implicitDefEqProofs [-List.all_eq_true, DI.res, setCs, tt3, tt55, h1, h1', hS, hB]
        rfl
      · simp at hB
        refine OpDo.runI tab hE rfl rfl ?_
        simp -implicitDefEqProofs [-List.all_eq_true, DI.res, setCs, tt3, h1, h1', hS, hB]
        rfl
    case d0hok => simp -implicitDefEqProofs [famOK, sepE, sepI, sepL, noC, ndC, ndU]
    case d0hd => simp
    case d0hw =>
      simp -implicitDefEqProofs
      rfl
    refine AO.fin (st' := ?_) tab hE [0, 1, 5, 25] [] ?_ ?_
    rotate_left
    · simp -implicitDefEqProofs [-List.all_eq_true, tt3, tt4, h1, h1']
      rfl
    refine AW.cond (t := false) (by simp [h1, h1']) ?_
    simp only [if_true, if_false, Bool.false_eq_true, reduceIte]
    refine AW.skip ?_
    refine AW.regt (st' := ?_) tab hE [0, 1, 5] [] ?_ ?_
    rotate_left
    · simp -implicitDefEqProofs [-List.all_eq_true, tt3, h1, h1']
      rfl
    exact ⟨_, by omega, i + 1, rfl, by omega, by rw [wrap_succ i _ h1' (by omega)]⟩
  replace h1 := BP.neg h1
  have h1' := h1
  try simp at h1'
  refine AW.exit ?_
  simp only [loopQ, blockQ, thenQ, if_true, reduceIte, Nat.reduceEqDiff]
  refine AW.sq ?_
  refine AW.regt (st' := ?_) tab hE [4] [] ?_ ?_
  rotate_left
  · simp -implicitDefEqProofs [-List.all_eq_true, tt4, h1, h1']
    rfl
  refine AW.ret (finF_ok tab hE ?_)
  simp -implicitDefEqProofs [-List.all_eq_true, h1, h1']
set_option maxHeartbeats 4000000 in
theorem l_eqIntSS1_spec (a : List (List Int)) (hn : a.length * 24 ≤ 140737488351232) (ha : ∀ s ∈ a, s.length * 8 ≤ 140737488351232) : Lvm.Spec Try.prog [] 75 [.ro false [.s false 1 (rows (intsC false) a)], .ro false [.s false 1 (rows (intsC false) a)]] [(false, [.v (.bool (true))])] := by
  refine Spec.of (TT := TT) Try.func75 (by kernel_rfl) rfl (of_decide_eq_true rfl) fun X hn hok hio hfa => ?_
  have hE : Ev.ok ⟨27, 2, _⟩ X := ⟨hn, hok, hio⟩
  clear hn hok hio hfa
  refine AW.sq ?_
  refine AW.regt (st' := ?_) tab hE [0, 1] [] ?_ ?_
  rotate_left
  · simp -implicitDefEqProofs [-List.all_eq_true, tt4]
    rfl
  refine AW.sq ?_
  refine AW.sq ?_
  refine AW.regt (st' := ?_) tab hE [0, 1, 10] [] ?_ ?_
  rotate_left
  · simp -implicitDefEqProofs [-List.all_eq_true, tt3, tt4, tt53, tt55]
    rfl
  refine AW.cond (t := false) (by simp) ?_
  simp only [if_true, if_false, Bool.false_eq_true, reduceIte]
  refine AW.skip ?_
  refine AW.sq ?_
  refine AW.sq ?_
  refine AW.regt (st' := ?_) tab hE [0, 1, 5] [] ?_ ?_
  rotate_left
  · simp -implicitDefEqProofs [-List.all_eq_true, tt3]
    rfl
  refine AW.bk ?_
  refine AW.lp (fun qn st => ∃ (i : Nat), qn = a.length - i ∧ (i ≤ a.length) ∧  st = mk [(0, .val false [.s false 1 (rows (intsC false) a)]), (1, .val false [.s false 1 (rows (intsC false) a)]), (5, .val false [.v (.int .i64 ((i : Nat) : Int))])] []) (a.length) ⟨0, by simp, by simp, by simp⟩ ?_
  rintro qn st ⟨i, rfl, hi, rfl⟩
  refine AW.sq ?_
  refine AW.sq ?_
  refine AW.regt (st' := ?_) tab hE [0, 1, 5, 14] [] ?_ ?_
  rotate_left
  · simp -implicitDefEqProofs [-List.all_eq_true, tt3, tt4, tt53, tt55]
    rfl
  refine AW.iteV (v := ?_) (t := ?_) ?_ ?_ (fun h1 => ?_) (fun h1 => ?_)
  rotate_left 2
  · simp -implicitDefEqProofs [-List.all_eq_true]
    rfl
  · rfl
  · skip
    replace h1 := BP.pos h1
    have h1' := h1
    try simp at h1'
    refine AW.skip ?_
    refine AW.sq ?_
    refine AW.bk ?_
    refine AW.sq ?_
    refine AW.drawnI (st' := ?_) (by kernel_rfl) 8 [0, 1, 5] [] [0, 1, 5, 20, 24] [] (e := ?_) (v := ?_) [{ d := 17, l := ?_ }, { d := 18, l := ?_ }, { d := 19, l := ?_ }, { d := 20, l := ?_ }, { d := 21, l := ?_ }, { d := 22, l := ?_ }, { d := 23, l := ?_ }, { d := 24, l := ?_ }] ?d0h0 (by decide) (by rfl) (by rfl) (by rfl) ?d0hs ?d0hok ?d0hd ?d0hw ?d0hq
    case d0h0 =>
      simp -implicitDefEqProofs
      rfl
    case d0hs =>
      refine ⟨fun S hS hB hA => ?_, fun S hS hB hA => ?_, fun S hS hB hA => ?_, fun S hS hB hA => ?_, fun S hS hB hA => ?_, fun S hS hB hA => ?_, fun S hS hB hA => ?_, fun S hS hB hA => ?_, rfl⟩
      · skip
        refine OpDo.runI tab hE rfl rfl ?_
        simp -implicitDefEqProofs [-List.all_eq_true, DI.res, setCs, tt53, tt55, h1, h1', hS]
        rfl
      · skip
        refine OpDo.runI tab hE rfl rfl ?_
        simp -implicitDefEqProofs [-List.all_eq_true, DI.res, setCs, tt3, h1, h1', hS]
        rfl
      · simp at hB
        refine OpDo.runI tab hE rfl rfl ?_
        simp -implicitDefEqProofs [-List.all_eq_true, DI.res, setCs, tt53, tt55, h1, h1', hS, hB]
        rfl
      · simp at hB
        refine OpDo.runI tab hE rfl rfl ?_
        simp -implicitDefEqProofs [-List.all_eq_true, DI.res, setCs, tt3, tt55, h1, h1', hS, hB]
        rfl
      · skip
        refine OpDo.runI tab hE rfl rfl ?_
        simp -implicitDefEqProofs [-List.all_eq_true, DI.res, setCs, tt53, tt55, h1, h1', hS]
        rfl
      · skip
        refine OpDo.runI tab hE rfl rfl ?_
        simp -implicitDefEqProofs [-List.all_eq_true, DI.res, setCs, tt3, h1, h1', hS]
        rfl
      · simp at hB
        refine OpDo.runI tab hE rfl rfl ?_
        simp -implicitDefEqProofs [-List.all_eq_true, DI.res, setCs, tt53, tt55, h1, h1', hS, hB]
        rfl
      · simp at hB
        refine OpDo.runI tab hE rfl rfl ?_
        simp -implicitDefEqProofs [-List.all_eq_true, DI.res, setCs, tt3, tt55, h1, h1', hS, hB]
        rfl
    case d0hok => simp -implicitDefEqProofs [famOK, sepE, sepI, sepL, noC, ndC, ndU]
    case d0hd => simp
    case d0hw =>
      simp -implicitDefEqProofs
      rfl
    refine AO.callR hE (l_eqIntS1_spec a[i] (ha _ (List.getElem_mem _))) (by simp) (by simp) (by simp -implicitDefEqProofs [-List.all_eq_true, h1, h1']) (by simp) ?_
    refine AO.fin (st' := ?_) tab hE [0, 1, 5, 26] [] ?_ ?_
    rotate_left
    · simp -implicitDefEqProofs [-List.all_eq_true, tt4, h1, h1']
      rfl
    refine AW.cond (t := false) (by simp [h1, h1']) ?_
    simp only [if_true, if_false, Bool.false_eq_true, reduceIte]
    refine AW.skip ?_
    refine AW.regt (st' := ?_) tab hE [0, 1, 5] [] ?_ ?_
    rotate_left
    · simp -implicitDefEqProofs [-List.all_eq_true, tt3, h1, h1']
      rfl
    exact ⟨_, by omega, i + 1, rfl, by omega, by rw [wrap_succ i _ h1' (by omega)]⟩
  replace h1 := BP.neg h1
  have h1' := h1
  try simp at h1'
  refine AW.exit ?_
  simp only [loopQ, blockQ, thenQ, if_true, reduceIte, Nat.reduceEqDiff]
  refine AW.sq ?_
  refine AW.regt (st' := ?_) tab hE [4] [] ?_ ?_
  rotate_left
  · simp -implicitDefEqProofs [-List.all_eq_true, tt4, h1, h1']
    rfl
  refine AW.ret (finF_ok tab hE ?_)
  simp -implicitDefEqProofs [-List.all_eq_true, h1, h1']
set_option maxHeartbeats 4000000 in
theorem l_eqMem1_spec (m : Mem) (hm : MemF m) (hc : m.cache = []) : Lvm.Spec Try.prog [] 65 [.ro true (memC false m), .ro true (memC false m)] [(false, [.v (.bool (true))])] := by
  refine Spec.of (TT := TT) Try.func65 (by kernel_rfl) rfl (of_decide_eq_true rfl) fun X hn hok hio hfa => ?_
  have hE : Ev.ok ⟨28, 2, _⟩ X := ⟨hn, hok, hio⟩
  clear hn hok hio hfa
  refine AW.sq ?_
  refine AW.regt (st' := ?_) tab hE [2, 3] [2, 3] ?_ ?_
  rotate_left
  · simp -implicitDefEqProofs [-List.all_eq_true, tt4, tt57, hc]
    rfl
  refine AW.sq ?_
  refine AW.sq ?_
  refine AW.rego ?_
  refine AO.runK (st' := ?_) tab hE [2, 3, 6, 8] [2, 3] 4 ?_ ?_
  rotate_left
  · simp -implicitDefEqProofs [-List.all_eq_true, tt53, tt55, tt57, hc]
    rfl
  refine AO.callR hE (l_eqIntSS1_spec m.secs hm.secs hm.sec) (by simp) (by simp) (by simp -implicitDefEqProofs [-List.all_eq_true, hc]) (by simp) ?_
  refine AO.fin (st' := ?_) tab hE [2, 3, 10] [2, 3] ?_ ?_
  rotate_left
  · simp -implicitDefEqProofs [-List.all_eq_true, tt4, hc]
    rfl
  refine AW.cond (t := false) (by simp) ?_
  simp only [if_true, if_false, Bool.false_eq_true, reduceIte]
  refine AW.skip ?_
  refine AW.sq ?_
  refine AW.sq ?_
  refine AW.rego ?_
  refine AO.runK (st' := ?_) tab hE [2, 3, 12, 14] [2, 3] 4 ?_ ?_
  rotate_left
  · simp -implicitDefEqProofs [-List.all_eq_true, tt54, tt57, tt93, hc]
    rfl
  refine AO.callR hE (l_eqWrS0_spec) (by simp) (by simp) (by simp -implicitDefEqProofs [-List.all_eq_true, hc]) (by simp) ?_
  refine AO.fin (st' := ?_) tab hE [2, 3, 16] [2, 3] ?_ ?_
  rotate_left
  · simp -implicitDefEqProofs [-List.all_eq_true, tt4, hc]
    rfl
  refine AW.cond (t := false) (by simp) ?_
  simp only [if_true, if_false, Bool.false_eq_true, reduceIte]
  refine AW.skip ?_
  refine AW.sq ?_
  refine AW.sq ?_
  refine AW.regt (st' := ?_) tab hE [2, 3, 21] [2, 3] ?_ ?_
  rotate_left
  · simp -implicitDefEqProofs [-List.all_eq_true, tt4, tt57, hc]
    rfl
  refine AW.cond (t := false) (by simp) ?_
  simp only [if_true, if_false, Bool.false_eq_true, reduceIte]
  refine AW.skip ?_
  refine AW.sq ?_
  refine AW.sq ?_
  refine AW.rego ?_
  refine AO.runK (st' := ?_) tab hE [23, 25] [2, 3] 4 ?_ ?_
  rotate_left
  · simp -implicitDefEqProofs [-List.all_eq_true, tt3, tt55, tt57, hc]
    rfl
  refine AO.callR hE (l_eqIntS1_spec m.bad hm.bad) (by simp) (by simp) (by simp -implicitDefEqProofs [-List.all_eq_true, hc]) (by simp) ?_
  refine AO.fin (st' := ?_) tab hE [27] [] ?_ ?_
  rotate_left
  · simp -implicitDefEqProofs [-List.all_eq_true, tt4, hc]
    rfl
  refine AW.cond (t := false) (by simp) ?_
  simp only [if_true, if_false, Bool.false_eq_true, reduceIte]
  refine AW.skip ?_
  refine AW.sq ?_
  refine AW.regt (st' := ?_) tab hE [4] [] ?_ ?_
  rotate_left
  · simp -implicitDefEqProofs [-List.all_eq_true, tt4, hc]
    rfl
  refine AW.ret (finF_ok tab hE ?_)
  simp -implicitDefEqProofs [-List.all_eq_true, hc]
set_option maxHeartbeats 4000000 in
theorem l_eqMemS1_spec (a : List Mem) (hn : a.length * 80 ≤ 140737488351232) (ha : ∀ m ∈ a, MemF m ∧ m.cache = []) : Lvm.Spec Try.prog [] 43 [.ro false [.s false 4 (rows (memC false) a)], .ro false [.s false 4 (rows (memC false) a)]] [(false, [.v (.bool (true))])] := by
  refine Spec.of (TT := TT) Try.func43 (by kernel_rfl) rfl (of_decide_eq_true rfl) fun X hn hok hio hfa => ?_
  have hE : Ev.ok ⟨27, 2, _⟩ X := ⟨hn, hok, hio⟩
  clear hn hok hio hfa
  refine AW.sq ?_
  refine AW.regt (st' := ?_) tab hE [0, 1] [] ?_ ?_
  rotate_left
  · simp -implicitDefEqProofs [-List.all_eq_true, tt4]
    rfl
  refine AW.sq ?_
  refine AW.sq ?_
  refine AW.regt (st' := ?_) tab hE [0, 1, 10] [] ?_ ?_
  rotate_left
  · simp -implicitDefEqProofs [-List.all_eq_true, tt3, tt4, tt25, tt57]
    rfl
  refine AW.cond (t := false) (by simp) ?_
  simp only [if_true, if_false, Bool.false_eq_true, reduceIte]
  refine AW.skip ?_
  refine AW.sq ?_
  refine AW.sq ?_
  refine AW.regt (st' := ?_) tab hE [0, 1, 5] [] ?_ ?_
  rotate_left
  · simp -implicitDefEqProofs [-List.all_eq_true, tt3]
    rfl
  refine AW.bk ?_
  refine AW.lp (fun qn st => ∃ (i : Nat), qn = a.length - i ∧ (i ≤ a.length) ∧  st = mk [(0, .val false [.s false 4 (rows (memC false) a)]), (1, .val false [.s false 4 (rows (memC false) a)]), (5, .val false [.v (.int .i64 ((i : Nat) : Int))])] []) (a.length) ⟨0, by simp, by simp, by simp⟩ ?_
  rintro qn st ⟨i, rfl, hi, rfl⟩
  refine AW.sq ?_
  refine AW.sq ?_
  refine AW.regt (st' := ?_) tab hE [0, 1, 5, 14] [] ?_ ?_
  rotate_left
  · simp -implicitDefEqProofs [-List.all_eq_true, tt3, tt4, tt25, tt57]
    rfl
  refine AW.iteV (v := ?_) (t := ?_) ?_ ?_ (fun h1 => ?_) (fun h1 => ?_)
  rotate_left 2
  · simp -implicitDefEqProofs [-List.all_eq_true]
    rfl
  · rfl
  · skip
    replace h1 := BP.pos h1
    have h1' := h1
    try simp at h1'
    refine AW.skip ?_
    refine AW.sq ?_
    refine AW.bk ?_
    refine AW.sq ?_
    refine AW.drawnI (st' := ?_) (by kernel_rfl) 8 [0, 1, 5] [] [0, 1, 5, 20, 24] [] (e := ?_) (v := ?_) [{ d := 17, l := ?_ }, { d := 18, l := ?_ }, { d := 19, l := ?_ }, { d := 20, l := ?_ }, { d := 21, l := ?_ }, { d := 22, l := ?_ }, { d := 23, l := ?_ }, { d := 24, l := ?_ }] ?d0h0 (by decide) (by rfl) (by rfl) (by rfl) ?d0hs ?d0hok ?d0hd ?d0hw ?d0hq
    case d0h0 =>
      simp -implicitDefEqProofs
      rfl
    case d0hs =>
      refine ⟨fun S hS hB hA => ?_, fun S hS hB hA => ?_, fun S hS hB hA => ?_, fun S hS hB hA => ?_, fun S hS hB hA => ?_, fun S hS hB hA => ?_, fun S hS hB hA => ?_, fun S hS hB hA => ?_, rfl⟩
      · skip
        refine OpDo.runI tab hE rfl rfl ?_
        simp -implicitDefEqProofs [-List.all_eq_true, DI.res, setCs, tt25, tt57, h1, h1', hS]
        rfl
      · skip
        refine OpDo.runI tab hE rfl rfl ?_
        simp -implicitDefEqProofs [-List.all_eq_true, DI.res, setCs, tt3, h1, h1', hS]
        rfl
      · simp at hB
        refine OpDo.runI tab hE rfl rfl ?_
        simp -implicitDefEqProofs [-List.all_eq_true, DI.res, setCs, tt25, tt57, h1, h1', hS, hB]
        rfl
      · simp at hB
        refine OpDo.runI tab hE rfl rfl ?_
        simp -implicitDefEqProofs [-List.all_eq_true, DI.res, setCs, tt57, h1, h1', hS, hB]
        rfl
      · skip
        refine OpDo.runI tab hE rfl rfl ?_
        simp -implicitDefEqProofs [-List.all_eq_true, DI.res, setCs, tt25, tt57, h1, h1', hS]
        rfl
      · skip
        refine OpDo.runI tab hE rfl rfl ?_
        simp -implicitDefEqProofs [-List.all_eq_true, DI.res, setCs, tt3, h1, h1', hS]
        rfl
      · simp at hB
        refine OpDo.runI tab hE rfl rfl ?_
        simp -implicitDefEqProofs [-List.all_eq_true, DI.res, setCs, tt25, tt57, h1, h1', hS, hB]
        rfl
      · simp at hB
        refine OpDo.runI tab hE rfl rfl ?_
        simp -implicitDefEqProofs [-List.all_eq_true, DI.res, setCs, tt57, h1, h1', hS, hB]
        rfl
    case d0hok => simp -implicitDefEqProofs [famOK, sepE, sepI, sepL, noC, ndC, ndU]
    case d0hd => simp
    case d0hw =>
      simp -implicitDefEqProofs
      rfl
    refine AO.callR hE (l_eqMem1_spec a[i] (ha _ (List.getElem_mem _)).1 (ha _ (List.getElem_mem _)).2) (by simp) (by simp) (by simp -implicitDefEqProofs [-List.all_eq_true, h1, h1']) (by simp) ?_
    refine AO.fin (st' := ?_) tab hE [0, 1, 5, 26] [] ?_ ?_
    rotate_left
    · simp -implicitDefEqProofs [-List.all_eq_true, tt4, h1, h1']
      rfl
    refine AW.cond (t := false) (by simp [h1, h1']) ?_
    simp only [if_true, if_false, Bool.false_eq_true, reduceIte]
    refine AW.skip ?_
    refine AW.regt (st' := ?_) tab hE [0, 1, 5] [] ?_ ?_
    rotate_left
    · simp -implicitDefEqProofs [-List.all_eq_true, tt3, h1, h1']
      rfl
    exact ⟨_, by omega, i + 1, rfl, by omega, by rw [wrap_succ i _ h1' (by omega)]⟩
  replace h1 := BP.neg h1
  have h1' := h1
  try simp at h1'
  refine AW.exit ?_
  simp only [loopQ, blockQ, thenQ, if_true, reduceIte, Nat.reduceEqDiff]
  refine AW.sq ?_
  refine AW.regt (st' := ?_) tab hE [4] [] ?_ ?_
  rotate_left
  · simp -implicitDefEqProofs [-List.all_eq_true, tt4, h1, h1']
    rfl
  refine AW.ret (finF_ok tab hE ?_)
  simp -implicitDefEqProofs [-List.all_eq_true, h1, h1']
set_option maxHeartbeats 4000000 in
theorem l_eqGeo1_spec (g : Geo) : Lvm.Spec Try.prog [] 42 [.ro true (geoC g), .ro true (geoC g)] [(false, [.v (.bool (true))])] := by
  refine Spec.of (TT := TT) Try.func42 (by kernel_rfl) rfl (of_decide_eq_true rfl) fun X hn hok hio hfa => ?_
  have hE : Ev.ok ⟨15, 2, _⟩ X := ⟨hn, hok, hio⟩
  clear hn hok hio hfa
  refine AW.sq ?_
  refine AW.regt (st' := ?_) tab hE [2, 3] [2, 3] ?_ ?_
  rotate_left
  · simp -implicitDefEqProofs [-List.all_eq_true, tt4, tt24]
    rfl
  refine AW.sq ?_
  refine AW.sq ?_
  refine AW.regt (st' := ?_) tab hE [2, 3, 9] [2, 3] ?_ ?_
  rotate_left
  · simp -implicitDefEqProofs [-List.all_eq_true, tt3, tt4, tt24]
    rfl
  refine AW.cond (t := false) (by simp) ?_
  simp only [if_true, if_false, Bool.false_eq_true, reduceIte]
  refine AW.skip ?_
  refine AW.sq ?_
  refine AW.sq ?_
  refine AW.regt (st' := ?_) tab hE [14] [] ?_ ?_
  rotate_left
  · simp -implicitDefEqProofs [-List.all_eq_true, tt3, tt4, tt24]
    rfl
  refine AW.cond (t := false) (by simp) ?_
  simp only [if_true, if_false, Bool.false_eq_true, reduceIte]
  refine AW.skip ?_
  refine AW.sq ?_
  refine AW.regt (st' := ?_) tab hE [4] [] ?_ ?_
  rotate_left
  · simp -implicitDefEqProofs [-List.all_eq_true, tt4]
    rfl
  refine AW.ret (finF_ok tab hE ?_)
  simp -implicitDefEqProofs [-List.all_eq_true]
set_option maxHeartbeats 4000000 in
theorem l_eqArr1_spec (a : Arr) (hn : a.mems.length * 80 ≤ 140737488351232) (ha : ∀ m ∈ a.mems, MemF m ∧ m.cache = []) (hd : a.dirty = []) : Lvm.Spec Try.prog [] 12 [.ro true (arrC false a), .ro true (arrC false a)] [(false, [.v (.bool (true))])] := by
  refine Spec.of (TT := TT) Try.func12 (by kernel_rfl) rfl (of_decide_eq_true rfl) fun X hn hok hio hfa => ?_
  have hE : Ev.ok ⟨68, 2, _⟩ X := ⟨hn, hok, hio⟩
  clear hn hok hio hfa
  refine AW.sq ?_
  refine AW.regt (st' := ?_) tab hE [2, 3] [2, 3] ?_ ?_
  rotate_left
  · simp -implicitDefEqProofs [-List.all_eq_true, tt4, tt28, hd]
    rfl
  refine AW.sq ?_
  refine AW.sq ?_
  refine AW.regt (st' := ?_) tab hE [2, 3, 9] [2, 3] ?_ ?_
  rotate_left
  · simp -implicitDefEqProofs [-List.all_eq_true, tt3, tt4, tt28, hd]
    rfl
  refine AW.cond (t := false) (by simp) ?_
  simp only [if_true, if_false, Bool.false_eq_true, reduceIte]
  refine AW.skip ?_
  refine AW.sq ?_
  refine AW.sq ?_
  refine AW.rego ?_
  refine AO.runK (st' := ?_) tab hE [2, 3, 11, 13] [2, 3] 4 ?_ ?_
  rotate_left
  · simp -implicitDefEqProofs [-List.all_eq_true, tt24, tt28, hd]
    rfl
  refine AO.callR hE (l_eqGeo1_spec a.g) (by simp) (by simp) (by simp -implicitDefEqProofs [-List.all_eq_true, hd]) (by simp) ?_
  refine AO.fin (st' := ?_) tab hE [2, 3, 15] [2, 3] ?_ ?_
  rotate_left
  · simp -implicitDefEqProofs [-List.all_eq_true, tt4, hd]
    rfl
  refine AW.cond (t := false) (by simp) ?_
  simp only [if_true, if_false, Bool.false_eq_true, reduceIte]
  refine AW.skip ?_
  refine AW.sq ?_
  refine AW.sq ?_
  refine AW.rego ?_
  refine AO.runK (st' := ?_) tab hE [2, 3, 17, 19] [2, 3] 4 ?_ ?_
  rotate_left
  · simp -implicitDefEqProofs [-List.all_eq_true, tt25, tt28, tt57, hd]
    rfl
  refine AO.callR hE (l_eqMemS1_spec a.mems hn ha) (by simp) (by simp) (by simp -implicitDefEqProofs [-List.all_eq_true, hd]) (by simp) ?_
  refine AO.fin (st' := ?_) tab hE [2, 3, 21] [2, 3] ?_ ?_
  rotate_left
  · simp -implicitDefEqProofs [-List.all_eq_true, tt4, hd]
    rfl
  refine AW.cond (t := false) (by simp) ?_
  simp only [if_true, if_false, Bool.false_eq_true, reduceIte]
  refine AW.skip ?_
  refine AW.sq ?_
  refine AW.sq ?_
  refine AW.regt (st' := ?_) tab hE [2, 3, 26] [2, 3] ?_ ?_
  rotate_left
  · simp -implicitDefEqProofs [-List.all_eq_true, tt3, tt4, tt28, hd]
    rfl
  refine AW.cond (t := false) (by simp) ?_
  simp only [if_true, if_false, Bool.false_eq_true, reduceIte]
  refine AW.skip ?_
  refine AW.sq ?_
  refine AW.sq ?_
  refine AW.regt (st' := ?_) tab hE [2, 3, 31] [2, 3] ?_ ?_
  rotate_left
  · simp -implicitDefEqProofs [-List.all_eq_true, tt3, tt4, tt28, hd]
    rfl
  refine AW.cond (t := false) (by simp) ?_
  simp only [if_true, if_false, Bool.false_eq_true, reduceIte]
  refine AW.skip ?_
  refine AW.sq ?_
  refine AW.sq ?_
  refine AW.regt (st' := ?_) tab hE [2, 3, 36] [2, 3] ?_ ?_
  rotate_left
  · simp -implicitDefEqProofs [-List.all_eq_true, tt3, tt4, tt5, tt28, hd]
    rfl
  refine AW.cond (t := false) (by simp) ?_
  simp only [if_true, if_false, Bool.false_eq_true, reduceIte]
  refine AW.skip ?_
  refine AW.sq ?_
  refine AW.sq ?_
  refine AW.regt (st' := ?_) tab hE [2, 3, 41] [2, 3] ?_ ?_
  rotate_left
  · simp -implicitDefEqProofs [-List.all_eq_true, tt3, tt4, tt28, hd]
    rfl
  refine AW.cond (t := false) (by simp) ?_
  simp only [if_true, if_false, Bool.false_eq_true, reduceIte]
  refine AW.skip ?_
  refine AW.sq ?_
  refine AW.sq ?_
  refine AW.regt (st' := ?_) tab hE [2, 3, 46] [2, 3] ?_ ?_
  rotate_left
  · simp -implicitDefEqProofs [-List.all_eq_true, tt3, tt4, tt28, hd]
    rfl
  refine AW.cond (t := false) (by simp) ?_
  simp only [if_true, if_false, Bool.false_eq_true, reduceIte]
  refine AW.skip ?_
  refine AW.sq ?_
  refine AW.sq ?_
  refine AW.rego ?_
  refine AO.runK (st' := ?_) tab hE [2, 3, 48, 50] [2, 3] 4 ?_ ?_
  rotate_left
  · simp -implicitDefEqProofs [-List.all_eq_true, tt26, tt28, tt99, hd]
    rfl
  refine AO.callR hE (l_eqEntS0_spec) (by simp) (by simp) (by simp -implicitDefEqProofs [-List.all_eq_true, hd]) (by simp) ?_
  refine AO.fin (st' := ?_) tab hE [2, 3, 52] [2, 3] ?_ ?_
  rotate_left
  · simp -implicitDefEqProofs [-List.all_eq_true, tt4, hd]
    rfl
  refine AW.cond (t := false) (by simp) ?_
  simp only [if_true, if_false, Bool.false_eq_true, reduceIte]
  refine AW.skip ?_
  refine AW.sq ?_
  refine AW.sq ?_
  refine AW.regt (st' := ?_) tab hE [2, 3, 57] [2, 3] ?_ ?_
  rotate_left
  · simp -implicitDefEqProofs [-List.all_eq_true, tt3, tt4, tt9, tt28, hd]
    rfl
  refine AW.cond (t := false) (by simp) ?_
  simp only [if_true, if_false, Bool.false_eq_true, reduceIte]
  refine AW.skip ?_
  refine AW.sq ?_
  refine AW.sq ?_
  refine AW.regt (st' := ?_) tab hE [2, 3, 62] [2, 3] ?_ ?_
  rotate_left
  · simp -implicitDefEqProofs [-List.all_eq_true, tt4, tt28, hd]
    rfl
  refine AW.cond (t := false) (by simp) ?_
  simp only [if_true, if_false, Bool.false_eq_true, reduceIte]
  refine AW.skip ?_
  refine AW.sq ?_
  refine AW.sq ?_
  refine AW.regt (st' := ?_) tab hE [67] [] ?_ ?_
  rotate_left
  · simp -implicitDefEqProofs [-List.all_eq_true, tt4, tt28, hd]
    rfl
  refine AW.cond (t := false) (by simp) ?_
  simp only [if_true, if_false, Bool.false_eq_true, reduceIte]
  refine AW.skip ?_
  refine AW.sq ?_
  refine AW.regt (st' := ?_) tab hE [4] [] ?_ ?_
  rotate_left
  · simp -implicitDefEqProofs [-List.all_eq_true, tt4, hd]
    rfl
  refine AW.ret (finF_ok tab hE ?_)
  simp -implicitDefEqProofs [-List.all_eq_true, hd]
set_option maxHeartbeats 4000000 in
theorem l_eqEng1_spec (e : Eng) (hn : e.a.mems.length * 80 ≤ 140737488351232) (ha : ∀ m ∈ e.a.mems, MemF m ∧ m.cache = []) (hd : e.a.dirty = []) (h1 : e.wait = []) (h2 : e.jobs = []) (h3 : e.done = []) (h4 : e.log = []) : Lvm.Spec Try.prog [] 7 [.ro true (engC false e), .ro true (engC false e)] [(false, [.v (.bool (true))])] := by
  refine Spec.of (TT := TT) Try.func7 (by kernel_rfl) rfl (of_decide_eq_true rfl) fun X hn hok hio hfa => ?_
  have hE : Ev.ok ⟨35, 2, _⟩ X := ⟨hn, hok, hio⟩
  clear hn hok hio hfa
  refine AW.sq ?_
  refine AW.regt (st' := ?_) tab hE [2, 3] [2, 3] ?_ ?_
  rotate_left
  · simp -implicitDefEqProofs [-List.all_eq_true, tt4, tt34, hd, h1, h2, h3, h4]
    rfl
  refine AW.sq ?_
  refine AW.sq ?_
  refine AW.rego ?_
  refine AO.runK (st' := ?_) tab hE [2, 3, 6, 8] [2, 3] 4 ?_ ?_
  rotate_left
  · simp -implicitDefEqProofs [-List.all_eq_true, tt28, tt34, hd, h1, h2, h3, h4]
    rfl
  refine AO.callR hE (l_eqArr1_spec e.a hn ha hd) (by simp) (by simp) (by simp -implicitDefEqProofs [-List.all_eq_true, hd, h1, h2, h3, h4]) (by simp) ?_
  refine AO.fin (st' := ?_) tab hE [2, 3, 10] [2, 3] ?_ ?_
  rotate_left
  · simp -implicitDefEqProofs [-List.all_eq_true, tt4, hd, h1, h2, h3, h4]
    rfl
  refine AW.cond (t := false) (by simp) ?_
  simp only [if_true, if_false, Bool.false_eq_true, reduceIte]
  refine AW.skip ?_
  refine AW.sq ?_
  refine AW.sq ?_
  refine AW.rego ?_
  refine AO.runK (st' := ?_) tab hE [2, 3, 12, 14] [2, 3] 4 ?_ ?_
  rotate_left
  · simp -implicitDefEqProofs [-List.all_eq_true, tt29, tt34, tt74, hd, h1, h2, h3, h4]
    rfl
  refine AO.callR hE (l_eqCmdS0_spec) (by simp) (by simp) (by simp -implicitDefEqProofs [-List.all_eq_true, hd, h1, h2, h3, h4]) (by simp) ?_
  refine AO.fin (st' := ?_) tab hE [2, 3, 16] [2, 3] ?_ ?_
  rotate_left
  · simp -implicitDefEqProofs [-List.all_eq_true, tt4, hd, h1, h2, h3, h4]
    rfl
  refine AW.cond (t := false) (by simp) ?_
  simp only [if_true, if_false, Bool.false_eq_true, reduceIte]
  refine AW.skip ?_
  refine AW.sq ?_
  refine AW.sq ?_
  refine AW.rego ?_
  refine AO.runK (st' := ?_) tab hE [2, 3, 18, 20] [2, 3] 4 ?_ ?_
  rotate_left
  · simp -implicitDefEqProofs [-List.all_eq_true, tt30, tt34, tt77, hd, h1, h2, h3, h4]
    rfl
  refine AO.callR hE (l_eqJobS0_spec) (by simp) (by simp) (by simp -implicitDefEqProofs [-List.all_eq_true, hd, h1, h2, h3, h4]) (by simp) ?_
  refine AO.fin (st' := ?_) tab hE [2, 3, 22] [2, 3] ?_ ?_
  rotate_left
  · simp -implicitDefEqProofs [-List.all_eq_true, tt4, hd, h1, h2, h3, h4]
    rfl
  refine AW.cond (t := false) (by simp) ?_
  simp only [if_true, if_false, Bool.false_eq_true, reduceIte]
  refine AW.skip ?_
  refine AW.sq ?_
  refine AW.sq ?_
  refine AW.rego ?_
  refine AO.runK (st' := ?_) tab hE [2, 3, 24, 26] [2, 3] 4 ?_ ?_
  rotate_left
  · simp -implicitDefEqProofs [-List.all_eq_true, tt3, tt31, tt34, tt80, hd, h1, h2, h3, h4]
    rfl
  refine AO.callR hE (l_eqAnsS0_spec) (by simp) (by simp) (by simp -implicitDefEqProofs [-List.all_eq_true, hd, h1, h2, h3, h4]) (by simp) ?_
  refine AO.fin (st' := ?_) tab hE [2, 3, 28] [2, 3] ?_ ?_
  rotate_left
  · simp -implicitDefEqProofs [-List.all_eq_true, tt4, hd, h1, h2, h3, h4]
    rfl
  refine AW.cond (t := false) (by simp) ?_
  simp only [if_true, if_false, Bool.false_eq_true, reduceIte]
  refine AW.skip ?_
  refine AW.sq ?_
  refine AW.sq ?_
  refine AW.rego ?_
  refine AO.runK (st' := ?_) tab hE [30, 32] [2, 3] 4 ?_ ?_
  rotate_left
  · simp -implicitDefEqProofs [-List.all_eq_true, tt4, tt32, tt34, tt83, hd, h1, h2, h3, h4]
    rfl
  refine AO.callR hE (l_eqTurnS0_spec) (by simp) (by simp) (by simp -implicitDefEqProofs [-List.all_eq_true, hd, h1, h2, h3, h4]) (by simp) ?_
  refine AO.fin (st' := ?_) tab hE [34] [] ?_ ?_
  rotate_left
  · simp -implicitDefEqProofs [-List.all_eq_true, tt4, hd, h1, h2, h3, h4]
    rfl
  refine AW.cond (t := false) (by simp) ?_
  simp only [if_true, if_false, Bool.false_eq_true, reduceIte]
  refine AW.skip ?_
  refine AW.sq ?_
  refine AW.regt (st' := ?_) tab hE [4] [] ?_ ?_
  rotate_left
  · simp -implicitDefEqProofs [-List.all_eq_true, tt4, hd, h1, h2, h3, h4]
    rfl
  refine AW.ret (finF_ok tab hE ?_)
  simp -implicitDefEqProofs [-List.all_eq_true, hd, h1, h2, h3, h4]
end Go.Proofs.Ytm
