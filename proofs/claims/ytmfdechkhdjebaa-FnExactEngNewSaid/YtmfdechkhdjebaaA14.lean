/- Contracts of the program's functions, each for all arguments that its hypotheses allow: proved over the loaded program by the by-value machine of the Lvm texts. -/
import Derived.Test.YtmfdechkhdjebaaA13
set_option linter.unusedVariables false
set_option linter.unusedSimpArgs false
namespace Go.Proofs.Ytm
open Go.Lvm Go.Proofs
attribute [local simp] put_env put_var put_cv put_cs famS_env famS_var famS_cv famS_cs dE dC dV dU lkC runK runF ev_move ev_assign ev_pick ev_bin ev_un ev_conv ev_load ev_field ev_index ev_alloc ev_box ev_extract ev_len ev_append ev_build ev_buildS ev_store ev_makeS ev_slice Ev.dst Ev.src leAt moveF assignF viewL viewP mk_put mk_born mk_rv mk_rs mk_touch mk_touch2 touE2 L.touch2 mk_env mk_var mk_cv mk_cs delE delB delV setE touE lk lkv kill_dead kill_v kill_sptr kill_tup kill_ref kill_win kill_ptr L.base L.touch L.setCells L.cells Value.oneCell' isSt_v isSt_s isSt_d scal opv binS binF unS pickF st0_mk st0E st0V gokF gval gvV gtup skipF int_beq int_bne eqI_self mk_keep selE selV finF retF St.take ownL ownC Posts Post St.grab nz getC setC loadL fieldL lastOff ownR snap sttL stt sttR roOK snapRt resL isV sliceC lenS indexL intOf ros grd thenQ blockQ loopQ upd kill_ite touch_ite cells_ite lkv_ite lk_ite fam famE famF bef Region.binds rows_len rows_nil rows_get rows_get? stt_ints stt_intss stt_wrs stt_mems stt_cmds stt_jobs stt_anss stt_turns ownR_rep ownR_app allSt_ints allSt_intss allSt_wrs allSt_mems allSt_cmds allSt_jobs allSt_anss allSt_turns own_ints own_intss own_wrs own_mems own_cmds own_jobs own_anss own_turns intC intsC wrC memC geoC superC arrC cmdC jobC ansC turnC engC St.parts partsOf rowsOf lput chunk appF appOK St.elems gone goneIn convS bndF sliceL

set_option maxHeartbeats 4000000 in
theorem l_markArr0_spec (a : Arr) (k : Int) (hn : a.mems.length * 80 ≤ 140737488351232) (ha : ∀ m ∈ a.mems, MemF m ∧ m.cache = []) (hd : a.dirty = []) : Lvm.Spec Try.prog [] 17 [.le true (arrC true a) (arrC true (arrWith a (markMems0 a.mems k).1)), .ro false [.v (.int .i64 (k))]] [(false, [.v (.int .i64 ((markMems0 a.mems k).2))])] := by
  refine Spec.of (TT := TT) Try.func17 (by kernel_rfl) rfl (of_decide_eq_true rfl) fun X hn hok hio hfa => ?_
  have hE : Ev.ok ⟨14, 2, _⟩ X := ⟨hn, hok, hio⟩
  clear hn hok hio hfa
  refine AW.sq ?_
  refine AW.rego ?_
  refine AO.boxLeP (p := ?_) hE ?_ (by simp) (by simp) (by simp) (by simp) ?_
  rotate_left 1
  · simp -implicitDefEqProofs [-List.all_eq_true, hd]
    rfl
  refine AO.fin (st' := ?_) tab hE [0, 1, 2] [2] ?_ ?_
  rotate_left
  · simp -implicitDefEqProofs [-List.all_eq_true, tt3, hd]
    rfl
  refine AW.sq ?_
  refine AW.rego ?_
  refine AO.runK (st' := ?_) tab hE [0, 1, 2, 6, 7] [2] 3 ?_ ?_
  rotate_left
  · simp -implicitDefEqProofs [-List.all_eq_true, tt3, tt25, tt28, tt57, hd]
    rfl
  refine AO.callG (TT := TT) (st1 := ?_) (st2 := ?_) (st3 := ?_) hE [some (.var 2), none] (l_markMemS0_spec a.mems k hn ha) (by simp) (by simp) (by simp) (by simp) ?_ ?_ ?_ ?_ ?_ ?_ ?_ ?_
  rotate_left 3
  · simp -implicitDefEqProofs [-List.all_eq_true, mvS, tt3, tt25, tt57, hd]
    rfl
  · simp -implicitDefEqProofs [-List.all_eq_true, mvP, tt3, tt25, tt57, hd]
  · simp -implicitDefEqProofs [-List.all_eq_true, lendS, tt3, tt25, tt57, hd]
    rfl
  · simp -implicitDefEqProofs [-List.all_eq_true, lendP, tt3, tt25, tt57, hd]
  · simp -implicitDefEqProofs [-List.all_eq_true, roP, tt3, tt25, tt57, hd]
  · simp -implicitDefEqProofs [-List.all_eq_true, backS, tt3, tt25, tt57, hd]
    rfl
  · simp -implicitDefEqProofs [-List.all_eq_true, backP, tt3, tt25, tt57, hd]
  refine AO.fin (st' := ?_) tab hE [0, 1, 2] [2] ?_ ?_
  rotate_left
  · simp -implicitDefEqProofs [-List.all_eq_true, tt3, hd]
    rfl
  refine AW.sq ?_
  refine AW.rego ?_
  refine AO.runK (st' := ?_) tab hE [0, 1, 10, 11] [2] 3 ?_ ?_
  rotate_left
  · simp -implicitDefEqProofs [-List.all_eq_true, tt3, tt26, tt28, tt99, hd]
    rfl
  refine AO.callG (TT := TT) (st1 := ?_) (st2 := ?_) (st3 := ?_) hE [some (.var 2), none] (l_markEntS0_spec (markMems0 a.mems k).2) (by simp) (by simp) (by simp) (by simp) ?_ ?_ ?_ ?_ ?_ ?_ ?_ ?_
  rotate_left 3
  · simp -implicitDefEqProofs [-List.all_eq_true, mvS, tt3, tt26, tt99, hd]
    rfl
  · simp -implicitDefEqProofs [-List.all_eq_true, mvP, tt3, tt26, tt99, hd]
  · simp -implicitDefEqProofs [-List.all_eq_true, lendS, tt3, tt26, tt99, hd]
    rfl
  · simp -implicitDefEqProofs [-List.all_eq_true, lendP, tt3, tt26, tt99, hd]
  · simp -implicitDefEqProofs [-List.all_eq_true, roP, tt3, tt26, tt99, hd]
  · simp -implicitDefEqProofs [-List.all_eq_true, backS, tt3, tt26, tt99, hd]
    rfl
  · simp -implicitDefEqProofs [-List.all_eq_true, backP, tt3, tt26, tt99, hd]
  refine AO.fin (st' := ?_) tab hE [0, 1] [2] ?_ ?_
  rotate_left
  · simp -implicitDefEqProofs [-List.all_eq_true, tt3, hd]
    rfl
  refine AW.sq ?_
  refine AW.regt (st' := ?_) tab hE [0, 4] [2] ?_ ?_
  rotate_left
  · simp -implicitDefEqProofs [-List.all_eq_true, tt3, hd]
    rfl
  refine AW.wk (own_wkP (p := ?_) hE (t := 0) (by simp) ?_) ?_
  rotate_left 1
  · simp -implicitDefEqProofs [-List.all_eq_true, hd]
    rfl
  refine AW.ret (finF_ok tab hE ?_)
  simp [arrWith, hd]
set_option maxHeartbeats 4000000 in
theorem l_markEng0_spec (e : Eng) (k : Int) (hn : e.a.mems.length * 80 ≤ 140737488351232) (ha : ∀ m ∈ e.a.mems, MemF m ∧ m.cache = []) (hd : e.a.dirty = []) (h1 : e.wait = []) (h2 : e.jobs = []) (h3 : e.done = []) (h4 : e.log = []) : Lvm.Spec Try.prog [] 8 [.le true (engC true e) (engC true (engWith e (markMems0 e.a.mems k).1)), .ro false [.v (.int .i64 (k))]] [(false, [.v (.int .i64 ((markMems0 e.a.mems k).2))])] := by
  refine Spec.of (TT := TT) Try.func8 (by kernel_rfl) rfl (of_decide_eq_true rfl) fun X hn hok hio hfa => ?_
  have hE : Ev.ok ⟨26, 2, _⟩ X := ⟨hn, hok, hio⟩
  clear hn hok hio hfa
  refine AW.sq ?_
  refine AW.rego ?_
  refine AO.boxLeP (p := ?_) hE ?_ (by simp) (by simp) (by simp) (by simp) ?_
  rotate_left 1
  · simp -implicitDefEqProofs [-List.all_eq_true, hd, h1, h2, h3, h4, arrWith]
    rfl
  refine AO.fin (st' := ?_) tab hE [0, 1, 2] [2] ?_ ?_
  rotate_left
  · simp -implicitDefEqProofs [-List.all_eq_true, tt3, hd, h1, h2, h3, h4, arrWith]
    rfl
  refine AW.sq ?_
  refine AW.rego ?_
  refine AO.runK (st' := ?_) tab hE [0, 1, 2, 6, 7] [2] 3 ?_ ?_
  rotate_left
  · simp -implicitDefEqProofs [-List.all_eq_true, tt3, tt28, tt34, hd, h1, h2, h3, h4, arrWith]
    rfl
  refine AO.callG (TT := TT) (st1 := ?_) (st2 := ?_) (st3 := ?_) hE [some (.var 2), none] (l_markArr0_spec e.a k hn ha hd) (by simp) (by simp) (by simp) (by simp) ?_ ?_ ?_ ?_ ?_ ?_ ?_ ?_
  rotate_left 3
  · simp -implicitDefEqProofs [-List.all_eq_true, mvS, tt3, tt28, hd, h1, h2, h3, h4, arrWith]
    rfl
  · simp -implicitDefEqProofs [-List.all_eq_true, mvP, tt3, tt28, hd, h1, h2, h3, h4, arrWith]
  · simp -implicitDefEqProofs [-List.all_eq_true, lendS, tt3, tt28, hd, h1, h2, h3, h4, arrWith]
    rfl
  · simp -implicitDefEqProofs [-List.all_eq_true, lendP, tt3, tt28, hd, h1, h2, h3, h4, arrWith]
  · simp -implicitDefEqProofs [-List.all_eq_true, roP, tt3, tt28, hd, h1, h2, h3, h4, arrWith]
  · simp -implicitDefEqProofs [-List.all_eq_true, backS, tt3, tt28, hd, h1, h2, h3, h4, arrWith]
    rfl
  · simp -implicitDefEqProofs [-List.all_eq_true, backP, tt3, tt28, hd, h1, h2, h3, h4, arrWith]
  refine AO.fin (st' := ?_) tab hE [0, 1, 2] [2] ?_ ?_
  rotate_left
  · simp -implicitDefEqProofs [-List.all_eq_true, tt3, hd, h1, h2, h3, h4, arrWith]
    rfl
  refine AW.sq ?_
  refine AW.rego ?_
  refine AO.runK (st' := ?_) tab hE [0, 1, 2, 10, 11] [2] 3 ?_ ?_
  rotate_left
  · simp -implicitDefEqProofs [-List.all_eq_true, tt3, tt29, tt34, tt74, hd, h1, h2, h3, h4, arrWith]
    rfl
  refine AO.callG (TT := TT) (st1 := ?_) (st2 := ?_) (st3 := ?_) hE [some (.var 2), none] (l_markCmdS0_spec (markMems0 e.a.mems k).2) (by simp) (by simp) (by simp) (by simp) ?_ ?_ ?_ ?_ ?_ ?_ ?_ ?_
  rotate_left 3
  · simp -implicitDefEqProofs [-List.all_eq_true, mvS, tt3, tt29, tt74, hd, h1, h2, h3, h4, arrWith]
    rfl
  · simp -implicitDefEqProofs [-List.all_eq_true, mvP, tt3, tt29, tt74, hd, h1, h2, h3, h4, arrWith]
  · simp -implicitDefEqProofs [-List.all_eq_true, lendS, tt3, tt29, tt74, hd, h1, h2, h3, h4, arrWith]
    rfl
  · simp -implicitDefEqProofs [-List.all_eq_true, lendP, tt3, tt29, tt74, hd, h1, h2, h3, h4, arrWith]
  · simp -implicitDefEqProofs [-List.all_eq_true, roP, tt3, tt29, tt74, hd, h1, h2, h3, h4, arrWith]
  · simp -implicitDefEqProofs [-List.all_eq_true, backS, tt3, tt29, tt74, hd, h1, h2, h3, h4, arrWith]
    rfl
  · simp -implicitDefEqProofs [-List.all_eq_true, backP, tt3, tt29, tt74, hd, h1, h2, h3, h4, arrWith]
  refine AO.fin (st' := ?_) tab hE [0, 1, 2] [2] ?_ ?_
  rotate_left
  · simp -implicitDefEqProofs [-List.all_eq_true, tt3, hd, h1, h2, h3, h4, arrWith]
    rfl
  refine AW.sq ?_
  refine AW.rego ?_
  refine AO.runK (st' := ?_) tab hE [0, 1, 2, 14, 15] [2] 3 ?_ ?_
  rotate_left
  · simp -implicitDefEqProofs [-List.all_eq_true, tt3, tt30, tt34, tt77, hd, h1, h2, h3, h4, arrWith]
    rfl
  refine AO.callG (TT := TT) (st1 := ?_) (st2 := ?_) (st3 := ?_) hE [some (.var 2), none] (l_markJobS0_spec (markMems0 e.a.mems k).2) (by simp) (by simp) (by simp) (by simp) ?_ ?_ ?_ ?_ ?_ ?_ ?_ ?_
  rotate_left 3
  · simp -implicitDefEqProofs [-List.all_eq_true, mvS, tt3, tt30, tt77, hd, h1, h2, h3, h4, arrWith]
    rfl
  · simp -implicitDefEqProofs [-List.all_eq_true, mvP, tt3, tt30, tt77, hd, h1, h2, h3, h4, arrWith]
  · simp -implicitDefEqProofs [-List.all_eq_true, lendS, tt3, tt30, tt77, hd, h1, h2, h3, h4, arrWith]
    rfl
  · simp -implicitDefEqProofs [-List.all_eq_true, lendP, tt3, tt30, tt77, hd, h1, h2, h3, h4, arrWith]
  · simp -implicitDefEqProofs [-List.all_eq_true, roP, tt3, tt30, tt77, hd, h1, h2, h3, h4, arrWith]
  · simp -implicitDefEqProofs [-List.all_eq_true, backS, tt3, tt30, tt77, hd, h1, h2, h3, h4, arrWith]
    rfl
  · simp -implicitDefEqProofs [-List.all_eq_true, backP, tt3, tt30, tt77, hd, h1, h2, h3, h4, arrWith]
  refine AO.fin (st' := ?_) tab hE [0, 1, 2] [2] ?_ ?_
  rotate_left
  · simp -implicitDefEqProofs [-List.all_eq_true, tt3, hd, h1, h2, h3, h4, arrWith]
    rfl
  refine AW.sq ?_
  refine AW.rego ?_
  refine AO.runK (st' := ?_) tab hE [0, 1, 2, 18, 19] [2] 3 ?_ ?_
  rotate_left
  · simp -implicitDefEqProofs [-List.all_eq_true, tt3, tt31, tt34, tt80, hd, h1, h2, h3, h4, arrWith]
    rfl
  refine AO.callG (TT := TT) (st1 := ?_) (st2 := ?_) (st3 := ?_) hE [some (.var 2), none] (l_markAnsS0_spec (markMems0 e.a.mems k).2) (by simp) (by simp) (by simp) (by simp) ?_ ?_ ?_ ?_ ?_ ?_ ?_ ?_
  rotate_left 3
  · simp -implicitDefEqProofs [-List.all_eq_true, mvS, tt3, tt31, tt80, hd, h1, h2, h3, h4, arrWith]
    rfl
  · simp -implicitDefEqProofs [-List.all_eq_true, mvP, tt3, tt31, tt80, hd, h1, h2, h3, h4, arrWith]
  · simp -implicitDefEqProofs [-List.all_eq_true, lendS, tt3, tt31, tt80, hd, h1, h2, h3, h4, arrWith]
    rfl
  · simp -implicitDefEqProofs [-List.all_eq_true, lendP, tt3, tt31, tt80, hd, h1, h2, h3, h4, arrWith]
  · simp -implicitDefEqProofs [-List.all_eq_true, roP, tt3, tt31, tt80, hd, h1, h2, h3, h4, arrWith]
  · simp -implicitDefEqProofs [-List.all_eq_true, backS, tt3, tt31, tt80, hd, h1, h2, h3, h4, arrWith]
    rfl
  · simp -implicitDefEqProofs [-List.all_eq_true, backP, tt3, tt31, tt80, hd, h1, h2, h3, h4, arrWith]
  refine AO.fin (st' := ?_) tab hE [0, 1, 2] [2] ?_ ?_
  rotate_left
  · simp -implicitDefEqProofs [-List.all_eq_true, tt3, hd, h1, h2, h3, h4, arrWith]
    rfl
  refine AW.sq ?_
  refine AW.rego ?_
  refine AO.runK (st' := ?_) tab hE [0, 1, 22, 23] [2] 3 ?_ ?_
  rotate_left
  · simp -implicitDefEqProofs [-List.all_eq_true, tt3, tt4, tt32, tt34, tt83, hd, h1, h2, h3, h4, arrWith]
    rfl
  refine AO.callG (TT := TT) (st1 := ?_) (st2 := ?_) (st3 := ?_) hE [some (.var 2), none] (l_markTurnS0_spec (markMems0 e.a.mems k).2) (by simp) (by simp) (by simp) (by simp) ?_ ?_ ?_ ?_ ?_ ?_ ?_ ?_
  rotate_left 3
  · simp -implicitDefEqProofs [-List.all_eq_true, mvS, tt3, tt32, tt83, hd, h1, h2, h3, h4, arrWith]
    rfl
  · simp -implicitDefEqProofs [-List.all_eq_true, mvP, tt3, tt32, tt83, hd, h1, h2, h3, h4, arrWith]
  · simp -implicitDefEqProofs [-List.all_eq_true, lendS, tt3, tt32, tt83, hd, h1, h2, h3, h4, arrWith]
    rfl
  · simp -implicitDefEqProofs [-List.all_eq_true, lendP, tt3, tt32, tt83, hd, h1, h2, h3, h4, arrWith]
  · simp -implicitDefEqProofs [-List.all_eq_true, roP, tt3, tt32, tt83, hd, h1, h2, h3, h4, arrWith]
  · simp -implicitDefEqProofs [-List.all_eq_true, backS, tt3, tt32, tt83, hd, h1, h2, h3, h4, arrWith]
    rfl
  · simp -implicitDefEqProofs [-List.all_eq_true, backP, tt3, tt32, tt83, hd, h1, h2, h3, h4, arrWith]
  refine AO.fin (st' := ?_) tab hE [0, 1] [2] ?_ ?_
  rotate_left
  · simp -implicitDefEqProofs [-List.all_eq_true, tt3, hd, h1, h2, h3, h4, arrWith]
    rfl
  refine AW.sq ?_
  refine AW.regt (st' := ?_) tab hE [0, 4] [2] ?_ ?_
  rotate_left
  · simp -implicitDefEqProofs [-List.all_eq_true, tt3, hd, h1, h2, h3, h4, arrWith]
    rfl
  refine AW.wk (own_wkP (p := ?_) hE (t := 0) (by simp) ?_) ?_
  rotate_left 1
  · simp -implicitDefEqProofs [-List.all_eq_true, hd, h1, h2, h3, h4, arrWith]
    rfl
  refine AW.ret (finF_ok tab hE ?_)
  simp [arrWith, engWith, hd, h1, h2, h3, h4]
end Go.Proofs.Ytm
