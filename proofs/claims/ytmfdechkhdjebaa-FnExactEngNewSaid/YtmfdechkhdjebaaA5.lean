/- Contracts of the program's functions, each for all arguments that its hypotheses allow: proved over the loaded program by the by-value machine of the Lvm texts. -/
import Derived.Test.YtmfdechkhdjebaaA3
set_option linter.unusedVariables false
set_option linter.unusedSimpArgs false
namespace Go.Proofs.Ytm
open Go.Lvm Go.Proofs
attribute [local simp] put_env put_var put_cv put_cs famS_env famS_var famS_cv famS_cs dE dC dV dU lkC runK runF ev_move ev_assign ev_pick ev_bin ev_un ev_conv ev_load ev_field ev_index ev_alloc ev_box ev_extract ev_len ev_append ev_build ev_buildS ev_store ev_makeS ev_slice Ev.dst Ev.src leAt moveF assignF viewL viewP mk_put mk_born mk_rv mk_rs mk_touch mk_touch2 touE2 L.touch2 mk_env mk_var mk_cv mk_cs delE delB delV setE touE lk lkv kill_dead kill_v kill_sptr kill_tup kill_ref kill_win kill_ptr L.base L.touch L.setCells L.cells Value.oneCell' isSt_v isSt_s isSt_d scal opv binS binF unS pickF st0_mk st0E st0V gokF gval gvV gtup skipF int_beq int_bne eqI_self mk_keep selE selV finF retF St.take ownL ownC Posts Post St.grab nz getC setC loadL fieldL lastOff ownR snap sttL stt sttR roOK snapRt resL isV sliceC lenS indexL intOf ros grd thenQ blockQ loopQ upd kill_ite touch_ite cells_ite lkv_ite lk_ite fam famE famF bef Region.binds rows_len rows_nil rows_get rows_get? stt_ints stt_intss stt_wrs stt_mems stt_cmds stt_jobs stt_anss stt_turns ownR_rep ownR_app allSt_ints allSt_intss allSt_wrs allSt_mems allSt_cmds allSt_jobs allSt_anss allSt_turns own_ints own_intss own_wrs own_mems own_cmds own_jobs own_anss own_turns intC intsC wrC memC geoC superC arrC cmdC jobC ansC turnC engC St.parts partsOf rowsOf lput chunk appF appOK St.elems gone goneIn convS bndF sliceL

set_option maxHeartbeats 4000000 in
theorem i_MemOk_spec (m : Mem) (hm : MemF m) : Lvm.Spec Try.prog [] 59 [.ro true (memC false m)] [(false, [.v (.bool (memB m))])] := by
  refine Spec.of (TT := TT) Try.func59 (by kernel_rfl) rfl (of_decide_eq_true rfl) fun X hn hok hio hfa => ?_
  have hE : Ev.ok ⟨76, 1, _⟩ X := ⟨hn, hok, hio⟩
  clear hn hok hio hfa
  have hs1 := hm.secs
  have hs2 := hm.cache
  have hs3 := hm.bad
  refine AW.sq ?_
  refine AW.regt (st' := ?_) tab hE [1] [1] ?_ ?_
  rotate_left
  · simp -implicitDefEqProofs [-List.all_eq_true, tt4, tt57]
    rfl
  refine AW.sq ?_
  refine AW.sq ?_
  refine AW.regt (st' := ?_) tab hE [1, 10, 11, 12] [1] ?_ ?_
  rotate_left
  · simp -implicitDefEqProofs [-List.all_eq_true, tt3, tt53, tt55, tt57]
    rfl
  refine AW.bk ?_
  refine AW.lp (fun qn st => ∃ (i : Nat), qn = m.secs.length - i ∧ (i ≤ m.secs.length) ∧ ((m.secs.take i).all secB = true) ∧  st = mk [(1, .ptr (.var 1) 0 []), (10, .val false [.s false 1 (rows (intsC false) m.secs)]), (11, .val false [.v (.int .i64 ((m.secs.length : Nat) : Int))]), (12, .val false [.v (.int .i64 ((i : Nat) : Int))])] [(1, memC false m)]) (m.secs.length) ⟨0, by simp, by simp, by simp, by simp [memC]⟩ ?_
  rintro qn st ⟨i, rfl, hi, hk, rfl⟩
  refine AW.sq ?_
  refine AW.regt (st' := ?_) tab hE [1, 10, 11, 12, 13] [1] ?_ ?_
  rotate_left
  · simp -implicitDefEqProofs [-List.all_eq_true, tt3]
    rfl
  refine AW.sq ?_
  refine AW.iteV (v := ?_) (t := ?_) ?_ ?_ (fun h0 => ?_) (fun h0 => ?_)
  rotate_left 2
  · simp -implicitDefEqProofs [-List.all_eq_true]
    rfl
  · rfl
  · skip
    replace h0 := BP.pos h0
    have h0' := h0
    try simp at h0'
    refine AW.skip ?_
    refine AW.sq ?_
    refine AW.bk ?_
    refine AW.sq ?_
    refine AW.regt (st' := ?_) tab hE [1, 4, 10, 11, 12] [1] ?_ ?_
    rotate_left
    · simp -implicitDefEqProofs [-List.all_eq_true, tt3, tt53, tt55, h0, h0']
      rfl
    refine AW.sq ?_
    refine AW.rego ?_
    refine AO.runK (st' := ?_) tab hE [1, 10, 11, 12, 16] [1] 1 ?_ ?_
    rotate_left
    · simp -implicitDefEqProofs [-List.all_eq_true, tt3, tt55, h0, h0']
      rfl
    refine AO.callR hE (i_SecOk_spec m.secs[i] (hm.sec _ (List.getElem_mem _))) (by simp) (by simp) (by simp -implicitDefEqProofs [-List.all_eq_true, h0, h0']) (by simp) ?_
    refine AO.fin (st' := ?_) tab hE [1, 10, 11, 12, 18] [1] ?_ ?_
    rotate_left
    · simp -implicitDefEqProofs [-List.all_eq_true, tt4, h0, h0']
      rfl
    refine AW.iteV (v := ?_) (t := ?_) ?_ ?_ (fun h1 => ?_) (fun h1 => ?_)
    rotate_left 2
    · simp -implicitDefEqProofs [-List.all_eq_true, h0, h0']
      rfl
    · rfl
    · skip
      replace h1 := BP.pos h1
      have h1' := h1
      try simp at h1'
      refine AW.sq ?_
      refine AW.regt (st' := ?_) tab hE [2] [] ?_ ?_
      rotate_left
      · simp -implicitDefEqProofs [-List.all_eq_true, tt4, h0, h0', h1, h1']
        rfl
      refine AW.ret (finF_ok tab hE ?_)
      simp [memB, all_no secB m.secs i h0' h1]
    replace h1 := BP.neg h1
    have h1' := h1
    try simp at h1'
    refine AW.skip ?_
    refine AW.regt (st' := ?_) tab hE [1, 10, 11, 12] [1] ?_ ?_
    rotate_left
    · simp -implicitDefEqProofs [-List.all_eq_true, tt3, h0, h0', h1, h1']
      rfl
    exact ⟨_, by omega, i + 1, rfl, by omega, by rw [all_succ _ _ _ h0', hk, h1]; rfl, by rw [wrap_succ i _ h0' (by omega)]; rfl⟩
  replace h0 := BP.neg h0
  have h0' := h0
  try simp at h0'
  have hA : m.secs.all secB = true := by rw [← all_end _ _ _ h0', hk]
  refine AW.exit ?_
  simp only [loopQ, blockQ, thenQ, if_true, reduceIte, Nat.reduceEqDiff]
  refine AW.sq ?_
  refine AW.sq ?_
  refine AW.regt (st' := ?_) tab hE [1, 21, 22, 23] [1] ?_ ?_
  rotate_left
  · simp -implicitDefEqProofs [-List.all_eq_true, tt3, tt54, tt57, tt93, h0, h0']
    rfl
  refine AW.bk ?_
  refine AW.lp (fun qn st => ∃ (i : Nat), qn = m.cache.length - i ∧ (i ≤ m.cache.length) ∧ ((m.cache.take i).all (wrB m) = true) ∧  st = mk [(1, .ptr (.var 1) 0 []), (21, .val false [.s false 2 (rows (wrC false) m.cache)]), (22, .val false [.v (.int .i64 ((m.cache.length : Nat) : Int))]), (23, .val false [.v (.int .i64 ((i : Nat) : Int))])] [(1, memC false m)]) (m.cache.length) ⟨0, by simp, by simp, by simp, by simp [memC]⟩ ?_
  rintro qn st ⟨i, rfl, hi, hk, rfl⟩
  refine AW.sq ?_
  refine AW.regt (st' := ?_) tab hE [1, 21, 22, 23, 24] [1] ?_ ?_
  rotate_left
  · simp -implicitDefEqProofs [-List.all_eq_true, tt3, h0, h0']
    rfl
  refine AW.sq ?_
  refine AW.iteV (v := ?_) (t := ?_) ?_ ?_ (fun h2 => ?_) (fun h2 => ?_)
  rotate_left 2
  · simp -implicitDefEqProofs [-List.all_eq_true, h0, h0']
    rfl
  · rfl
  · skip
    replace h2 := BP.pos h2
    have h2' := h2
    try simp at h2'
    refine AW.skip ?_
    refine AW.sq ?_
    refine AW.bk ?_
    refine AW.sq ?_
    refine AW.regt (st' := ?_) tab hE [1, 6, 21, 22, 23] [1, 6] ?_ ?_
    rotate_left
    · simp -implicitDefEqProofs [-List.all_eq_true, tt54, tt93, h0, h0', h2, h2']
      rfl
    refine AW.sq ?_
    refine AW.regB (S0 := ?_) [1, 21, 22, 23] [1] 37 (!wrB m m.cache[i]) ?_ ?_ ?_
    rotate_left
    · simp -implicitDefEqProofs
      rfl
    · skip
      refine AO.runK (st' := ?_) tab hE [1, 6, 21, 22, 23, 27, 29] [1, 6] 3 ?_ ?_
      rotate_left
      · simp -implicitDefEqProofs [-List.all_eq_true, tt3, tt57, tt93, h0, h0', h2, h2']
        rfl
      refine AO.callR hE (i_hasSec_spec m m.cache[i].n) (by simp) (by simp) (by simp -implicitDefEqProofs [-List.all_eq_true, h0, h0', h2, h2']) (by simp) ?_
      refine AO.runK (st' := ?_) tab hE [1, 6, 21, 22, 23, 32] [1, 6] 2 ?_ ?_
      rotate_left
      · simp -implicitDefEqProofs [-List.all_eq_true, tt4, h0, h0', h2, h2']
        rfl
      refine AO.guardV (v := ?_) (t := ?_) 5 ?_ ?_ (fun g0 => ?_) (fun g0 => ?_)
      rotate_left 2
      · simp -implicitDefEqProofs [-List.all_eq_true, h0, h0', h2, h2']
        rfl
      · rfl
      · skip
        replace g0 := BP.pos g0
        have g0' := g0
        try simp at g0'
        refine AO.finB tab hE [37, 1, 21, 22, 23] [1] ?_
        simp [-List.all_eq_true, wrB, tt3, tt4, tt55, tt93, h0, h0', h2, h2', g0, g0']
      · skip
        replace g0 := BP.neg g0
        have g0' := g0
        try simp at g0'
        refine AO.runK (st' := ?_) tab hE [1, 21, 22, 23, 32, 34] [1, 6] 2 ?_ ?_
        rotate_left
        · simp -implicitDefEqProofs [-List.all_eq_true, tt3, tt55, tt93, h0, h0', h2, h2', g0, g0']
          rfl
        refine AO.callR hE (i_SecOk_spec m.cache[i].s (hm.wr _ (List.getElem_mem _))) (by simp [h0, h0', h2, h2', g0, g0']) (by simp) (by simp -implicitDefEqProofs [-List.all_eq_true, h0, h0', h2, h2', g0, g0']) (by simp) ?_
        refine AO.finB tab hE [37, 1, 21, 22, 23] [1] ?_
        simp [-List.all_eq_true, wrB, tt4, h0, h0', h2, h2', g0, g0']
    refine AW.iteV (v := ?_) (t := ?_) ?_ ?_ (fun h3 => ?_) (fun h3 => ?_)
    rotate_left 2
    · simp -implicitDefEqProofs [-List.all_eq_true, h0, h0', h2, h2']
      rfl
    · rfl
    · skip
      replace h3 := BP.pos h3
      have h3' := h3
      try simp at h3'
      refine AW.sq ?_
      refine AW.regt (st' := ?_) tab hE [2] [] ?_ ?_
      rotate_left
      · simp -implicitDefEqProofs [-List.all_eq_true, tt4, h0, h0', h2, h2', h3, h3']
        rfl
      refine AW.ret (finF_ok tab hE ?_)
      simp [memB, all_no (wrB m) m.cache i h2' h3]
    replace h3 := BP.neg h3
    have h3' := h3
    try simp at h3'
    refine AW.skip ?_
    refine AW.regt (st' := ?_) tab hE [1, 21, 22, 23] [1] ?_ ?_
    rotate_left
    · simp -implicitDefEqProofs [-List.all_eq_true, tt3, h0, h0', h2, h2', h3, h3']
      rfl
    exact ⟨_, by omega, i + 1, rfl, by omega, by rw [all_succ _ _ _ h2', hk, h3]; rfl, by rw [wrap_succ i _ h2' (by omega)]; rfl⟩
  replace h2 := BP.neg h2
  have h2' := h2
  try simp at h2'
  have hB : m.cache.all (wrB m) = true := by rw [← all_end _ _ _ h2', hk]
  refine AW.exit ?_
  simp only [loopQ, blockQ, thenQ, if_true, reduceIte, Nat.reduceEqDiff]
  refine AW.sq ?_
  refine AW.sq ?_
  refine AW.regt (st' := ?_) tab hE [1, 40, 41, 42] [1] ?_ ?_
  rotate_left
  · simp -implicitDefEqProofs [-List.all_eq_true, tt3, tt55, tt57, h0, h0', h2, h2']
    rfl
  refine AW.bk ?_
  refine AW.lp (fun qn st => ∃ (i : Nat), qn = m.bad.length - i ∧ (i ≤ m.bad.length) ∧ ((List.range i).all (badAt m) = true) ∧  st = mk [(1, .ptr (.var 1) 0 []), (40, .val false [.s false 1 (rows intC m.bad)]), (41, .val false [.v (.int .i64 ((m.bad.length : Nat) : Int))]), (42, .val false [.v (.int .i64 ((i : Nat) : Int))])] [(1, memC false m)]) (m.bad.length) ⟨0, by simp, by simp, by simp, by simp [memC]⟩ ?_
  rintro qn st ⟨i, rfl, hi, hk, rfl⟩
  refine AW.sq ?_
  refine AW.regt (st' := ?_) tab hE [1, 40, 41, 42, 43] [1] ?_ ?_
  rotate_left
  · simp -implicitDefEqProofs [-List.all_eq_true, tt3, h0, h0', h2, h2']
    rfl
  refine AW.sq ?_
  refine AW.iteV (v := ?_) (t := ?_) ?_ ?_ (fun h4 => ?_) (fun h4 => ?_)
  rotate_left 2
  · simp -implicitDefEqProofs [-List.all_eq_true, h0, h0', h2, h2']
    rfl
  · rfl
  · skip
    replace h4 := BP.pos h4
    have h4' := h4
    try simp at h4'
    refine AW.skip ?_
    refine AW.sq ?_
    refine AW.bk ?_
    refine AW.sq ?_
    refine AW.regt (st' := ?_) tab hE [1, 7, 8, 40, 41, 42] [1] ?_ ?_
    rotate_left
    · simp -implicitDefEqProofs [-List.all_eq_true, tt3, tt55, h0, h0', h2, h2', h4, h4']
      rfl
    refine AW.sq ?_
    refine AW.regB (S0 := ?_) [1, 40, 41, 42] [1] 64 (!badAt m i) ?_ ?_ ?_
    rotate_left
    · simp -implicitDefEqProofs
      rfl
    · skip
      refine AO.runK (st' := ?_) tab hE [1, 7, 8, 40, 41, 42, 47, 48] [1] 2 ?_ ?_
      rotate_left
      · simp -implicitDefEqProofs [-List.all_eq_true, tt3, tt57, h0, h0', h2, h2', h4, h4']
        rfl
      refine AO.callR hE (i_hasSec_spec m m.bad[i]) (by simp) (by simp) (by simp -implicitDefEqProofs [-List.all_eq_true, h0, h0', h2, h2', h4, h4']) (by simp) ?_
      refine AO.runK (st' := ?_) tab hE [1, 7, 8, 40, 41, 42, 51] [1] 2 ?_ ?_
      rotate_left
      · simp -implicitDefEqProofs [-List.all_eq_true, tt4, h0, h0', h2, h2', h4, h4']
        rfl
      refine AO.guardV (v := ?_) (t := ?_) 4 ?_ ?_ (fun g1 => ?_) (fun g1 => ?_)
      rotate_left 2
      · simp -implicitDefEqProofs [-List.all_eq_true, h0, h0', h2, h2', h4, h4']
        rfl
      · rfl
      · skip
        replace g1 := BP.pos g1
        have g1' := g1
        try simp at g1'
        refine AO.finB tab hE [64, 1, 40, 41, 42] [1] ?_
        simp [-List.all_eq_true, badAt, List.getD_eq_getElem?_getD, tt3, tt4, tt55, tt57, h0, h0', h2, h2', h4, h4', g1, g1']
      · skip
        replace g1 := BP.neg g1
        have g1' := g1
        try simp at g1'
        refine AO.runK (st' := ?_) tab hE [1, 7, 8, 40, 41, 42, 51, 54] [1] 3 ?_ ?_
        rotate_left
        · simp -implicitDefEqProofs [-List.all_eq_true, tt3, tt4, h0, h0', h2, h2', h4, h4', g1, g1']
          rfl
        refine AO.guardV (v := ?_) (t := ?_) 7 ?_ ?_ (fun g2 => ?_) (fun g2 => ?_)
        rotate_left 2
        · simp -implicitDefEqProofs [-List.all_eq_true, h0, h0', h2, h2', h4, h4', g1, g1']
          rfl
        · rfl
        · skip
          replace g2 := BP.pos g2
          have g2' := g2
          try simp at g2'
          have wp : IntKind.i64.wrap ((i : Int) - 1) = ((i - 1 : Nat) : Int) := by rw [wrap_id _ (by omega) (by omega)]; omega
          have hl : i - 1 < m.bad.length := by omega
          refine AO.finB tab hE [64, 1, 40, 41, 42] [1] ?_
          simp [-List.all_eq_true, badAt, List.getD_eq_getElem?_getD, tt3, tt4, tt55, tt57, h0, h0', h2, h2', h4, h4', g1, g1', g2, g2', wp, hl, show ¬ i = 0 by omega]
        · skip
          replace g2 := BP.neg g2
          have g2' := g2
          try simp at g2'
          obtain rfl : i = 0 := by omega
          refine AO.finB tab hE [64, 1, 40, 41, 42] [1] ?_
          simp [-List.all_eq_true, badAt, List.getD_eq_getElem?_getD, tt3, tt4, tt55, tt57, h0, h0', h2, h2', h4, h4', g1, g1', g2, g2']
    refine AW.iteV (v := ?_) (t := ?_) ?_ ?_ (fun h5 => ?_) (fun h5 => ?_)
    rotate_left 2
    · simp -implicitDefEqProofs [-List.all_eq_true, h0, h0', h2, h2', h4, h4']
      rfl
    · rfl
    · skip
      replace h5 := BP.pos h5
      have h5' := h5
      try simp at h5'
      refine AW.sq ?_
      refine AW.regt (st' := ?_) tab hE [2] [] ?_ ?_
      rotate_left
      · simp -implicitDefEqProofs [-List.all_eq_true, tt4, h0, h0', h2, h2', h4, h4', h5, h5']
        rfl
      refine AW.ret (finF_ok tab hE ?_)
      have e : badB m = false := rall_no _ _ i h4' h5
      simp [memB, e]
    replace h5 := BP.neg h5
    have h5' := h5
    try simp at h5'
    refine AW.skip ?_
    refine AW.regt (st' := ?_) tab hE [1, 40, 41, 42] [1] ?_ ?_
    rotate_left
    · simp -implicitDefEqProofs [-List.all_eq_true, tt3, h0, h0', h2, h2', h4, h4', h5, h5']
      rfl
    exact ⟨_, by omega, i + 1, rfl, by omega, by rw [rall_succ, hk, h5]; rfl, by rw [wrap_succ i _ h4' (by omega)]; rfl⟩
  replace h4 := BP.neg h4
  have h4' := h4
  try simp at h4'
  have hC : badB m = true := by
    have e : i = m.bad.length := by omega
    rw [e] at hk
    exact hk
  refine AW.exit ?_
  simp only [loopQ, blockQ, thenQ, if_true, reduceIte, Nat.reduceEqDiff]
  refine AW.sq ?_
  refine AW.regB (S0 := ?_) [] [] 2 (inB m.secs.length 1 20 && decide ((m.cache.length : Int) ≤ 60)) ?_ ?_ ?_
  rotate_left
  · simp -implicitDefEqProofs
    rfl
  · skip
    refine AO.runK (st' := ?_) tab hE [1, 68] [1] 3 ?_ ?_
    rotate_left
    · simp -implicitDefEqProofs [-List.all_eq_true, tt3, tt53, tt55, tt57, h0, h0', h2, h2', h4, h4']
      rfl
    refine AO.callR hE (i_within_spec m.secs.length 1 20) (by simp) (by simp) (by simp -implicitDefEqProofs [-List.all_eq_true, h0, h0', h2, h2', h4, h4']) (by simp) ?_
    refine AO.runK (st' := ?_) tab hE [1, 70] [1] 1 ?_ ?_
    rotate_left
    · simp -implicitDefEqProofs [-List.all_eq_true, tt4, h0, h0', h2, h2', h4, h4']
      rfl
    refine AO.guardV (v := ?_) (t := ?_) 4 ?_ ?_ (fun g3 => ?_) (fun g3 => ?_)
    rotate_left 2
    · simp -implicitDefEqProofs [-List.all_eq_true, h0, h0', h2, h2', h4, h4']
      rfl
    · rfl
    · skip
      replace g3 := BP.pos g3
      have g3' := g3
      try simp at g3'
      refine AO.finB tab hE [2] [] ?_
      first
        | (simp -implicitDefEqProofs [-List.all_eq_true, tt3, tt4, tt54, tt57, tt93, h0, h0', h2, h2', h4, h4', g3, g3']; done)
        | simp_all [-List.all_eq_true, tt3, tt4, tt54, tt57, tt93, h0, h0', h2, h2', h4, h4', g3, g3']
    · skip
      replace g3 := BP.neg g3
      have g3' := g3
      try simp at g3'
      refine AO.finB tab hE [2] [] ?_
      first
        | (simp -implicitDefEqProofs [-List.all_eq_true, tt3, tt4, tt54, tt57, tt93, h0, h0', h2, h2', h4, h4', g3, g3']; done)
        | simp_all [-List.all_eq_true, tt3, tt4, tt54, tt57, tt93, h0, h0', h2, h2', h4, h4', g3, g3']
  refine AW.ret (finF_ok tab hE ?_)
  simp [memB, hA, hB, hC]
end Go.Proofs.Ytm
