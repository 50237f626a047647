/- Contracts of the program's functions, each for all arguments that its hypotheses allow: proved over the loaded program by the by-value machine of the Lvm texts. -/
import Derived.Test.YtmfdechkhdjebaaM2
import Derived.Test.YtmfdechkhdjebaaA10
import Derived.Test.YtmfdechkhdjebaaA12
import Derived.Test.YtmfdechkhdjebaaA14
import Derived.Test.YtmfdechkhdjebaaA16
set_option linter.unusedVariables false
set_option linter.unusedSimpArgs false
namespace Go.Proofs.Ytm
open Go.Lvm Go.Proofs
attribute [local simp] put_env put_var put_cv put_cs famS_env famS_var famS_cv famS_cs dE dC dV dU lkC runK runF ev_move ev_assign ev_pick ev_bin ev_un ev_conv ev_load ev_field ev_index ev_alloc ev_box ev_extract ev_len ev_append ev_build ev_buildS ev_store ev_makeS ev_slice Ev.dst Ev.src leAt moveF assignF viewL viewP mk_put mk_born mk_rv mk_rs mk_touch mk_touch2 touE2 L.touch2 mk_env mk_var mk_cv mk_cs delE delB delV setE touE lk lkv kill_dead kill_v kill_sptr kill_tup kill_ref kill_win kill_ptr L.base L.touch L.setCells L.cells Value.oneCell' isSt_v isSt_s isSt_d scal opv binS binF unS pickF st0_mk st0E st0V gokF gval gvV gtup skipF int_beq int_bne eqI_self mk_keep selE selV finF retF St.take ownL ownC Posts Post St.grab nz getC setC loadL fieldL lastOff ownR snap sttL stt sttR roOK snapRt resL isV sliceC lenS indexL intOf ros grd thenQ blockQ loopQ upd kill_ite touch_ite cells_ite lkv_ite lk_ite fam famE famF bef Region.binds rows_len rows_nil rows_get rows_get? stt_ints stt_intss stt_wrs stt_mems stt_cmds stt_jobs stt_anss stt_turns ownR_rep ownR_app allSt_ints allSt_intss allSt_wrs allSt_mems allSt_cmds allSt_jobs allSt_anss allSt_turns own_ints own_intss own_wrs own_mems own_cmds own_jobs own_anss own_turns intC intsC wrC memC geoC superC arrC cmdC jobC ansC turnC engC St.parts partsOf rowsOf lput chunk appF appOK St.elems gone goneIn convS bndF sliceL

theorem heldA_new (id : Int) (g : Geo) : heldA (markMems0 (arrNew id g).mems 1).1 1 = (markMems0 (arrNew id g).mems 1).2 ∧ ¬ (markMems0 (arrNew id g).mems 1).2 < 0 := by
  obtain ⟨h1, h2, h3⟩ := arrNew_mems id g
  obtain ⟨h4, h5⟩ := markMems0_n (arrNew id g).mems 1 (by omega) (by omega)
  refine ⟨?_, by omega⟩
  rw [heldA, h5, if_neg (by omega)]
theorem l_eqNew (id : Int) (g : Geo) : Lvm.Spec Try.prog [] 7 [.ro true (engC false (engNew id g)), .ro true (engC false (engNew id g))] [(false, [.v (.bool true)])] :=
  l_eqEng1_spec (engNew id g) (by have := (arrNew_mems id g).2.1; simp only [engNew]; omega) (arrNew_mems id g).1 (arrNew_dirty id g) rfl rfl rfl rfl
theorem l_markNew (id : Int) (g : Geo) : Lvm.Spec Try.prog [] 8 [.le true (engC true (engNew id g)) (engC true (engWith (engNew id g) (markMems0 (arrNew id g).mems 1).1)), .ro false [.v (.int .i64 1)]] [(false, [.v (.int .i64 (markMems0 (arrNew id g).mems 1).2)])] :=
  l_markEng0_spec (engNew id g) 1 (by have := (arrNew_mems id g).2.1; simp only [engNew]; omega) (arrNew_mems id g).1 (arrNew_dirty id g) rfl rfl rfl rfl
theorem l_heldNew (id : Int) (g : Geo) : Lvm.Spec Try.prog [] 9 [.ro true (engC false (engWith (engNew id g) (markMems0 (arrNew id g).mems 1).1)), .ro false [.v (.int .i64 1)]] [(false, [.v (.int .i64 (markMems0 (arrNew id g).mems 1).2)])] := by
  have h := l_heldEng0_spec (engWith (engNew id g) (markMems0 (arrNew id g).mems 1).1) 1 (by
    have := (arrNew_mems id g).2.1
    show (markMems0 (arrNew id g).mems 1).1.length * 80 ≤ _
    rw [markMems0_len]; omega) (markMems0_F _ (fun m hm => ((arrNew_mems id g).1 m hm).1) 1) (arrNew_dirty id g) rfl rfl rfl rfl
  rw [show (engWith (engNew id g) (markMems0 (arrNew id g).mems 1).1).a.mems = (markMems0 (arrNew id g).mems 1).1 from rfl, (heldA_new id g).1] at h
  exact h
set_option maxHeartbeats 4000000 in
theorem FnExactEngNew_spec (id : Int) (g : Geo) : Lvm.Spec Try.prog [] 3 [.ro false [.v (.int .i64 (id))], .ro true (geoC g)] [(false, [.v (.bool (true))])] := by
  refine Spec.of (TT := TT) Try.func3 (by kernel_rfl) rfl (of_decide_eq_true rfl) fun X hn hok hio hfa => ?_
  have hE : Ev.ok ⟨49, 2, _⟩ X := ⟨hn, hok, hio⟩
  clear hn hok hio hfa
  have hM := (heldA_new id g).2
  refine AW.sq ?_
  refine AW.regt (st' := ?_) tab hE [0, 3] [3] ?_ ?_
  rotate_left
  · simp -implicitDefEqProofs [-List.all_eq_true, tt4, tt23, engWith, arrWith, engNew, (heldA_new id g).2, arrNew_dirty]
    rfl
  refine AW.sq ?_
  refine AW.rego ?_
  refine AO.runK (st' := ?_) tab hE [0, 3, 10, 11] [3] 2 ?_ ?_
  rotate_left
  · simp -implicitDefEqProofs [-List.all_eq_true, tt3, tt23, engWith, arrWith, engNew, (heldA_new id g).2, arrNew_dirty]
    rfl
  refine AO.callR hE (l_toGeo_spec g) (by simp) (by simp) (by simp -implicitDefEqProofs [-List.all_eq_true, engWith, arrWith, engNew, arrNew_dirty]) (by simp) ?_
  refine AO.callR hE (s_EngNew_spec id g) (by simp) (by simp) (by simp -implicitDefEqProofs [-List.all_eq_true, engWith, arrWith, engNew, arrNew_dirty]) (by simp) ?_
  refine AO.fin (st' := ?_) tab hE [0, 3, 5] [3, 5] ?_ ?_
  rotate_left
  · simp -implicitDefEqProofs [-List.all_eq_true, tt34, engWith, arrWith, engNew, (heldA_new id g).2, arrNew_dirty]
    rfl
  refine AW.sq ?_
  refine AW.rego ?_
  refine AO.runK (st' := ?_) tab hE [0, 3, 5, 14, 15] [3, 5] 2 ?_ ?_
  rotate_left
  · simp -implicitDefEqProofs [-List.all_eq_true, tt3, tt23, engWith, arrWith, engNew, (heldA_new id g).2, arrNew_dirty]
    rfl
  refine AO.callR hE (l_toGeo_spec g) (by simp) (by simp) (by simp -implicitDefEqProofs [-List.all_eq_true, engWith, arrWith, engNew, arrNew_dirty]) (by simp) ?_
  refine AO.callR hE (i_EngNew_spec id g) (by simp) (by simp) (by simp -implicitDefEqProofs [-List.all_eq_true, engWith, arrWith, engNew, arrNew_dirty]) (by simp) ?_
  refine AO.fin (st' := ?_) tab hE [0, 3, 5, 6] [3, 5, 6] ?_ ?_
  rotate_left
  · simp -implicitDefEqProofs [-List.all_eq_true, tt34, engWith, arrWith, engNew, (heldA_new id g).2, arrNew_dirty]
    rfl
  refine AW.sq ?_
  refine AW.sq ?_
  refine AW.rego ?_
  refine AO.runK (st' := ?_) tab hE [0, 3, 5, 6, 18, 19] [3, 5, 6] 2 ?_ ?_
  rotate_left
  · simp -implicitDefEqProofs [-List.all_eq_true, tt34, engWith, arrWith, engNew, (heldA_new id g).2, arrNew_dirty]
    rfl
  refine AO.callR hE (l_eqNew id g) (by simp) (by simp) (by simp -implicitDefEqProofs [-List.all_eq_true, engWith, arrWith, engNew, arrNew_dirty]) (by simp) ?_
  refine AO.fin (st' := ?_) tab hE [0, 3, 5, 6, 21] [3, 5, 6] ?_ ?_
  rotate_left
  · simp -implicitDefEqProofs [-List.all_eq_true, tt4, engWith, arrWith, engNew, (heldA_new id g).2, arrNew_dirty]
    rfl
  refine AW.cond (t := false) (by simp [hM, arrNew_dirty]) ?_
  simp only [if_true, if_false, Bool.false_eq_true, reduceIte]
  refine AW.skip ?_
  refine AW.sq ?_
  refine AW.regt (st' := ?_) tab hE [0, 3, 5, 6, 7] [3, 5, 6] ?_ ?_
  rotate_left
  · simp -implicitDefEqProofs [-List.all_eq_true, tt3, engWith, arrWith, engNew, (heldA_new id g).2, arrNew_dirty]
    rfl
  refine AW.sq ?_
  refine AW.rego ?_
  refine AO.runK (st' := ?_) tab hE [0, 3, 5, 6, 7, 22, 23] [3, 5, 6] 2 ?_ ?_
  rotate_left
  · simp -implicitDefEqProofs [-List.all_eq_true, tt3, tt34, engWith, arrWith, engNew, (heldA_new id g).2, arrNew_dirty]
    rfl
  refine AO.callG (TT := TT) (st1 := ?_) (st2 := ?_) (st3 := ?_) hE [some (.var 6), none] (l_markNew id g) (by simp) (by simp) (by simp) (by simp) ?_ ?_ ?_ ?_ ?_ ?_ ?_ ?_
  rotate_left 3
  · simp -implicitDefEqProofs [-List.all_eq_true, mvS, tt3, tt34, engWith, arrWith, engNew, (heldA_new id g).2, arrNew_dirty]
    rfl
  · simp -implicitDefEqProofs [-List.all_eq_true, mvP, tt3, tt34, engWith, arrWith, engNew, (heldA_new id g).2, arrNew_dirty]
  · simp -implicitDefEqProofs [-List.all_eq_true, lendS, tt3, tt34, engWith, arrWith, engNew, (heldA_new id g).2, arrNew_dirty]
    rfl
  · simp -implicitDefEqProofs [-List.all_eq_true, lendP, tt3, tt34, engWith, arrWith, engNew, (heldA_new id g).2, arrNew_dirty]
  · simp -implicitDefEqProofs [-List.all_eq_true, roP, tt3, tt34, engWith, arrWith, engNew, (heldA_new id g).2, arrNew_dirty]
  · simp -implicitDefEqProofs [-List.all_eq_true, backS, tt3, tt34, engWith, arrWith, engNew, (heldA_new id g).2, arrNew_dirty]
    rfl
  · simp -implicitDefEqProofs [-List.all_eq_true, backP, tt3, tt34, engWith, arrWith, engNew, (heldA_new id g).2, arrNew_dirty]
  refine AO.fin (st' := ?_) tab hE [0, 3, 5, 6, 7] [3, 5, 6] ?_ ?_
  rotate_left
  · simp -implicitDefEqProofs [-List.all_eq_true, tt3, engWith, arrWith, engNew, (heldA_new id g).2, arrNew_dirty]
    rfl
  refine AW.sq ?_
  refine AW.regt (st' := ?_) tab hE [0, 3, 5, 6, 7, 8] [3, 5, 6] ?_ ?_
  rotate_left
  · simp -implicitDefEqProofs [-List.all_eq_true, tt3, engWith, arrWith, engNew, (heldA_new id g).2, arrNew_dirty]
    rfl
  refine AW.sq ?_
  refine AW.rego ?_
  refine AO.runK (st' := ?_) tab hE [0, 3, 5, 6, 7, 8, 25, 26] [3, 5, 6] 2 ?_ ?_
  rotate_left
  · simp -implicitDefEqProofs [-List.all_eq_true, tt3, tt34, engWith, arrWith, engNew, (heldA_new id g).2, arrNew_dirty]
    rfl
  refine AO.callR hE (l_heldNew id g) (by simp) (by simp) (by simp -implicitDefEqProofs [-List.all_eq_true, engWith, arrWith, engNew, arrNew_dirty]) (by simp) ?_
  refine AO.fin (st' := ?_) tab hE [0, 3, 5, 6, 7, 8] [3, 5, 6] ?_ ?_
  rotate_left
  · simp -implicitDefEqProofs [-List.all_eq_true, tt3, engWith, arrWith, engNew, (heldA_new id g).2, arrNew_dirty]
    rfl
  refine AW.sq ?_
  refine AW.sq ?_
  refine AW.regt (st' := ?_) tab hE [0, 3, 5, 6, 7, 8, 29] [3, 5, 6] ?_ ?_
  rotate_left
  · simp -implicitDefEqProofs [-List.all_eq_true, tt3, tt4, engWith, arrWith, engNew, (heldA_new id g).2, arrNew_dirty]
    rfl
  refine AW.cond (t := false) (by simp [hM, arrNew_dirty]) ?_
  simp only [if_true, if_false, Bool.false_eq_true, reduceIte]
  refine AW.skip ?_
  refine AW.sq ?_
  refine AW.sq ?_
  refine AW.regt (st' := ?_) tab hE [0, 3, 5, 6, 7, 32] [3, 5, 6] ?_ ?_
  rotate_left
  · simp -implicitDefEqProofs [-List.all_eq_true, tt3, tt4, engWith, arrWith, engNew, (heldA_new id g).2, arrNew_dirty]
    rfl
  refine AW.cond (t := false) (by simp [hM, arrNew_dirty]) ?_
  simp only [if_true, if_false, Bool.false_eq_true, reduceIte]
  refine AW.skip ?_
  refine AW.sq ?_
  refine AW.rego ?_
  refine AO.runK (st' := ?_) tab hE [5, 6, 7, 33, 34] [3, 5, 6] 2 ?_ ?_
  rotate_left
  · simp -implicitDefEqProofs [-List.all_eq_true, tt3, tt23, engWith, arrWith, engNew, (heldA_new id g).2, arrNew_dirty]
    rfl
  refine AO.callR hE (l_toGeo_spec g) (by simp) (by simp) (by simp -implicitDefEqProofs [-List.all_eq_true, engWith, arrWith, engNew, arrNew_dirty]) (by simp) ?_
  refine AO.callR hE (i_EngNew_spec id g) (by simp) (by simp) (by simp -implicitDefEqProofs [-List.all_eq_true, engWith, arrWith, engNew, arrNew_dirty]) (by simp) ?_
  refine AO.fin (st' := ?_) tab hE [5, 6, 7, 9] [5, 6, 9] ?_ ?_
  rotate_left
  · simp -implicitDefEqProofs [-List.all_eq_true, tt34, engWith, arrWith, engNew, (heldA_new id g).2, arrNew_dirty]
    rfl
  refine AW.sq ?_
  refine AW.sq ?_
  refine AW.rego ?_
  refine AO.runK (st' := ?_) tab hE [6, 7, 37, 38] [5, 6, 9] 2 ?_ ?_
  rotate_left
  · simp -implicitDefEqProofs [-List.all_eq_true, tt34, engWith, arrWith, engNew, (heldA_new id g).2, arrNew_dirty]
    rfl
  refine AO.callR hE (l_eqNew id g) (by simp) (by simp) (by simp -implicitDefEqProofs [-List.all_eq_true, engWith, arrWith, engNew, arrNew_dirty]) (by simp) ?_
  refine AO.fin (st' := ?_) tab hE [6, 7, 40] [6] ?_ ?_
  rotate_left
  · simp -implicitDefEqProofs [-List.all_eq_true, tt4, engWith, arrWith, engNew, (heldA_new id g).2, arrNew_dirty]
    rfl
  refine AW.cond (t := false) (by simp [hM, arrNew_dirty]) ?_
  simp only [if_true, if_false, Bool.false_eq_true, reduceIte]
  refine AW.skip ?_
  refine AW.sq ?_
  refine AW.regt (st' := ?_) tab hE [6, 7, 8] [6] ?_ ?_
  rotate_left
  · simp -implicitDefEqProofs [-List.all_eq_true, tt3, engWith, arrWith, engNew, (heldA_new id g).2, arrNew_dirty]
    rfl
  refine AW.sq ?_
  refine AW.rego ?_
  refine AO.runK (st' := ?_) tab hE [7, 8, 41, 42] [6] 2 ?_ ?_
  rotate_left
  · simp -implicitDefEqProofs [-List.all_eq_true, tt3, tt34, engWith, arrWith, engNew, (heldA_new id g).2, arrNew_dirty]
    rfl
  refine AO.callR hE (l_heldNew id g) (by simp) (by simp) (by simp -implicitDefEqProofs [-List.all_eq_true, engWith, arrWith, engNew, arrNew_dirty]) (by simp) ?_
  refine AO.fin (st' := ?_) tab hE [7, 8] [] ?_ ?_
  rotate_left
  · simp -implicitDefEqProofs [-List.all_eq_true, tt3, engWith, arrWith, engNew, (heldA_new id g).2, arrNew_dirty]
    rfl
  refine AW.sq ?_
  refine AW.sq ?_
  refine AW.regt (st' := ?_) tab hE [7, 8, 45] [] ?_ ?_
  rotate_left
  · simp -implicitDefEqProofs [-List.all_eq_true, tt3, tt4, engWith, arrWith, engNew, (heldA_new id g).2, arrNew_dirty]
    rfl
  refine AW.cond (t := false) (by simp [hM, arrNew_dirty]) ?_
  simp only [if_true, if_false, Bool.false_eq_true, reduceIte]
  refine AW.skip ?_
  refine AW.sq ?_
  refine AW.sq ?_
  refine AW.regt (st' := ?_) tab hE [48] [] ?_ ?_
  rotate_left
  · simp -implicitDefEqProofs [-List.all_eq_true, tt3, tt4, engWith, arrWith, engNew, (heldA_new id g).2, arrNew_dirty]
    rfl
  refine AW.cond (t := false) (by simp [hM, arrNew_dirty]) ?_
  simp only [if_true, if_false, Bool.false_eq_true, reduceIte]
  refine AW.skip ?_
  refine AW.sq ?_
  refine AW.regt (st' := ?_) tab hE [4] [] ?_ ?_
  rotate_left
  · simp -implicitDefEqProofs [-List.all_eq_true, tt4, engWith, arrWith, engNew, (heldA_new id g).2, arrNew_dirty]
    rfl
  refine AW.ret (finF_ok tab hE ?_)
  simp -implicitDefEqProofs [-List.all_eq_true, engWith, arrWith, engNew, (heldA_new id g).2, arrNew_dirty]
end Go.Proofs.Ytm
