/- Contracts of the program's functions, each for all arguments that its hypotheses allow: proved over the loaded program by the by-value machine of the Lvm texts. -/
import Derived.Test.YtmfdechkhdjebaaD1
import Derived.Test.YtmfdechkhdjebaaA1
set_option linter.unusedVariables false
set_option linter.unusedSimpArgs false
namespace Go.Proofs.Ytm
open Go.Lvm Go.Proofs
attribute [local simp] put_env put_var put_cv put_cs famS_env famS_var famS_cv famS_cs dE dC dV dU lkC runK runF ev_move ev_assign ev_pick ev_bin ev_un ev_conv ev_load ev_field ev_index ev_alloc ev_box ev_extract ev_len ev_append ev_build ev_buildS ev_store ev_makeS ev_slice Ev.dst Ev.src leAt moveF assignF viewL viewP mk_put mk_born mk_rv mk_rs mk_touch mk_touch2 touE2 L.touch2 mk_env mk_var mk_cv mk_cs delE delB delV setE touE lk lkv kill_dead kill_v kill_sptr kill_tup kill_ref kill_win kill_ptr L.base L.touch L.setCells L.cells Value.oneCell' isSt_v isSt_s isSt_d scal opv binS binF unS pickF st0_mk st0E st0V gokF gval gvV gtup skipF int_beq int_bne eqI_self mk_keep selE selV finF retF St.take ownL ownC Posts Post St.grab nz getC setC loadL fieldL lastOff ownR snap sttL stt sttR roOK snapRt resL isV sliceC lenS indexL intOf ros grd thenQ blockQ loopQ upd kill_ite touch_ite cells_ite lkv_ite lk_ite fam famE famF bef Region.binds rows_len rows_nil rows_get rows_get? stt_ints stt_intss stt_wrs stt_mems stt_cmds stt_jobs stt_anss stt_turns ownR_rep ownR_app allSt_ints allSt_intss allSt_wrs allSt_mems allSt_cmds allSt_jobs allSt_anss allSt_turns own_ints own_intss own_wrs own_mems own_cmds own_jobs own_anss own_turns intC intsC wrC memC geoC superC arrC cmdC jobC ansC turnC engC St.parts partsOf rowsOf lput chunk appF appOK St.elems gone goneIn convS bndF sliceL

set_option maxHeartbeats 4000000 in
theorem i_wordsOk_spec (a : List Int) (ha : a.length * 8 ≤ 140737488351232) : Lvm.Spec Try.prog [] 73 [.ro false [.s false 1 (rows intC a)]] [(false, [.v (.bool (wordsB a))])] := by
  refine Spec.of (TT := TT) Try.func73 (by kernel_rfl) rfl (of_decide_eq_true rfl) fun X hn hok hio hfa => ?_
  have hE : Ev.ok ⟨15, 1, _⟩ X := ⟨hn, hok, hio⟩
  clear hn hok hio hfa
  refine AW.sq ?_
  refine AW.regt (st' := ?_) tab hE [0] [] ?_ ?_
  rotate_left
  · simp -implicitDefEqProofs [-List.all_eq_true, tt4]
    rfl
  refine AW.sq ?_
  refine AW.sq ?_
  refine AW.regt (st' := ?_) tab hE [5, 6, 7] [] ?_ ?_
  rotate_left
  · simp -implicitDefEqProofs [-List.all_eq_true, tt3, tt55]
    rfl
  refine AW.bk ?_
  refine AW.lp (fun qn st => ∃ (i : Nat), qn = a.length - i ∧ (i ≤ a.length) ∧ ((a.take i).all wordB = true) ∧  st = mk [(5, .val false [.s false 1 (rows intC a)]), (6, .val false [.v (.int .i64 (a.length : Int))]), (7, .val false [.v (.int .i64 (i : Int))])] []) (a.length) ⟨0, by simp, by simp, by simp, rfl⟩ ?_
  rintro qn st ⟨i, rfl, hi, hk, rfl⟩
  refine AW.sq ?_
  refine AW.regt (st' := ?_) tab hE [5, 6, 7, 8] [] ?_ ?_
  rotate_left
  · simp -implicitDefEqProofs [-List.all_eq_true, tt3]
    rfl
  refine AW.sq ?_
  refine AW.iteV (v := ?_) (t := ?_) ?_ ?_ (fun h0 => ?_) (fun h0 => ?_)
  rotate_left 2
  · simp -implicitDefEqProofs [-List.all_eq_true]
    rfl
  · rfl
  · skip
    replace h0 := BP.pos h0
    have h0' := h0
    try simp at h0'
    refine AW.skip ?_
    refine AW.sq ?_
    refine AW.bk ?_
    refine AW.sq ?_
    refine AW.regt (st' := ?_) tab hE [4, 5, 6, 7] [] ?_ ?_
    rotate_left
    · simp -implicitDefEqProofs [-List.all_eq_true, tt3, tt55, h0, h0']
      rfl
    refine AW.sq ?_
    refine AW.rego ?_
    refine AO.runK (st' := ?_) tab hE [5, 6, 7, 11] [] 1 ?_ ?_
    rotate_left
    · simp -implicitDefEqProofs [-List.all_eq_true, tt3, h0, h0']
      rfl
    refine AO.callR hE (i_isWord_spec a[i]) (by simp) (by simp) (by simp -implicitDefEqProofs [-List.all_eq_true, h0, h0']) (by simp) ?_
    refine AO.fin (st' := ?_) tab hE [5, 6, 7, 13] [] ?_ ?_
    rotate_left
    · simp -implicitDefEqProofs [-List.all_eq_true, tt4, h0, h0']
      rfl
    refine AW.iteV (v := ?_) (t := ?_) ?_ ?_ (fun h1 => ?_) (fun h1 => ?_)
    rotate_left 2
    · simp -implicitDefEqProofs [-List.all_eq_true, h0, h0']
      rfl
    · rfl
    · skip
      replace h1 := BP.pos h1
      have h1' := h1
      try simp at h1'
      refine AW.sq ?_
      refine AW.regt (st' := ?_) tab hE [2] [] ?_ ?_
      rotate_left
      · simp -implicitDefEqProofs [-List.all_eq_true, tt4, h0, h0', h1, h1']
        rfl
      refine AW.ret (finF_ok tab hE ?_)
      simp [wordsB, all_no wordB a i h0' h1]
    replace h1 := BP.neg h1
    have h1' := h1
    try simp at h1'
    refine AW.skip ?_
    refine AW.regt (st' := ?_) tab hE [5, 6, 7] [] ?_ ?_
    rotate_left
    · simp -implicitDefEqProofs [-List.all_eq_true, tt3, h0, h0', h1, h1']
      rfl
    exact ⟨_, by omega, i + 1, rfl, by omega, by rw [all_succ _ _ _ h0', hk, h1]; rfl, by rw [wrap_succ i _ h0' (by omega)]⟩
  replace h0 := BP.neg h0
  have h0' := h0
  try simp at h0'
  refine AW.exit ?_
  simp only [loopQ, blockQ, thenQ, if_true, reduceIte, Nat.reduceEqDiff]
  refine AW.sq ?_
  refine AW.regt (st' := ?_) tab hE [2] [] ?_ ?_
  rotate_left
  · simp -implicitDefEqProofs [-List.all_eq_true, tt4, h0, h0']
    rfl
  refine AW.ret (finF_ok tab hE ?_)
  rw [all_end _ _ _ (by omega)] at hk
  simp [wordsB, hk]
set_option maxHeartbeats 4000000 in
theorem i_SecOk_spec (a : List Int) (ha : a.length * 8 ≤ 140737488351232) : Lvm.Spec Try.prog [] 61 [.ro false [.s false 1 (rows intC a)]] [(false, [.v (.bool (secB a))])] := by
  refine Spec.of (TT := TT) Try.func61 (by kernel_rfl) rfl (of_decide_eq_true rfl) fun X hn hok hio hfa => ?_
  have hE : Ev.ok ⟨10, 1, _⟩ X := ⟨hn, hok, hio⟩
  clear hn hok hio hfa
  refine AW.sq ?_
  refine AW.regt (st' := ?_) tab hE [0] [] ?_ ?_
  rotate_left
  · simp -implicitDefEqProofs [-List.all_eq_true, tt4, secB]
    rfl
  refine AW.sq ?_
  refine AW.regB (S0 := ?_) [] [] 2 (secB a) ?_ ?_ ?_
  rotate_left
  · simp -implicitDefEqProofs
    rfl
  · skip
    refine AO.runK (st' := ?_) tab hE [0, 6] [] 4 ?_ ?_
    rotate_left
    · simp -implicitDefEqProofs [-List.all_eq_true, tt3, tt4, tt55, secB]
      rfl
    refine AO.guardV (v := ?_) (t := ?_) 3 ?_ ?_ (fun g0 => ?_) (fun g0 => ?_)
    rotate_left 2
    · simp -implicitDefEqProofs [-List.all_eq_true, secB]
      rfl
    · rfl
    · skip
      replace g0 := BP.pos g0
      have g0' := g0
      try simp at g0'
      refine AO.runK (st' := ?_) tab hE [6, 7] [] 1 ?_ ?_
      rotate_left
      · simp -implicitDefEqProofs [-List.all_eq_true, tt3, tt55, secB, g0, g0']
        rfl
      refine AO.callR hE (i_wordsOk_spec a ha) (by simp [g0, g0']) (by simp) (by simp -implicitDefEqProofs [-List.all_eq_true, g0, g0']) (by simp) ?_
      refine AO.finB tab hE [2] [] ?_
      first
        | (simp -implicitDefEqProofs [-List.all_eq_true, tt4, secB, g0, g0']; done)
        | simp_all [-List.all_eq_true, tt4, secB, g0, g0']
    · skip
      replace g0 := BP.neg g0
      have g0' := g0
      try simp at g0'
      refine AO.finB tab hE [2] [] ?_
      first
        | (simp -implicitDefEqProofs [-List.all_eq_true, tt3, tt4, tt55, secB, g0, g0']; done)
        | simp_all [-List.all_eq_true, tt3, tt4, tt55, secB, g0, g0']
  refine AW.ret (finF_ok tab hE ?_)
  simp -implicitDefEqProofs [-List.all_eq_true, secB]
set_option maxHeartbeats 4000000 in
theorem i_hasSec_spec (m : Mem) (n : Int) : Lvm.Spec Try.prog [] 60 [.ro true (memC false m), .ro false [.v (.int .i64 (n))]] [(false, [.v (.bool (hasB m n))])] := by
  refine Spec.of (TT := TT) Try.func60 (by kernel_rfl) rfl (of_decide_eq_true rfl) fun X hn hok hio hfa => ?_
  have hE : Ev.ok ⟨11, 2, _⟩ X := ⟨hn, hok, hio⟩
  clear hn hok hio hfa
  refine AW.sq ?_
  refine AW.regt (st' := ?_) tab hE [1, 2] [2] ?_ ?_
  rotate_left
  · simp -implicitDefEqProofs [-List.all_eq_true, tt4, tt57, hasB, wrap_w]
    rfl
  refine AW.sq ?_
  refine AW.rego ?_
  refine AO.runK (st' := ?_) tab hE [5, 9] [] 5 ?_ ?_
  rotate_left
  · simp -implicitDefEqProofs [-List.all_eq_true, tt3, tt53, tt55, tt57, hasB, wrap_w]
    rfl
  refine AO.callR hE (i_within_spec n 0 (w64 ((m.secs.length : Int) - 1))) (by simp) (by simp) (by simp -implicitDefEqProofs [-List.all_eq_true, wrap_w]) (by simp) ?_
  refine AO.fin (st' := ?_) tab hE [4] [] ?_ ?_
  rotate_left
  · simp -implicitDefEqProofs [-List.all_eq_true, tt4, hasB, wrap_w]
    rfl
  refine AW.ret (finF_ok tab hE ?_)
  simp -implicitDefEqProofs [-List.all_eq_true, hasB, wrap_w]
set_option maxHeartbeats 4000000 in
theorem i_lostOk_spec (g : Geo) (l b : Int) : Lvm.Spec Try.prog [] 72 [.ro true (geoC g), .ro false [.v (.int .i64 (l))], .ro false [.v (.int .i64 (b))]] [(false, [.v (.bool (lostB g l b))])] := by
  refine Spec.of (TT := TT) Try.func72 (by kernel_rfl) rfl (of_decide_eq_true rfl) fun X hn hok hio hfa => ?_
  have hE : Ev.ok ⟨26, 3, _⟩ X := ⟨hn, hok, hio⟩
  clear hn hok hio hfa
  refine AW.sq ?_
  refine AW.regt (st' := ?_) tab hE [1, 2, 3] [3] ?_ ?_
  rotate_left
  · simp -implicitDefEqProofs [-List.all_eq_true, tt4, tt24, lostB, wrap_w]
    rfl
  refine AW.sq ?_
  refine AW.regB (S0 := ?_) [] [] 6 (lostB g l b) ?_ ?_ ?_
  rotate_left
  · simp -implicitDefEqProofs
    rfl
  · skip
    refine AO.runK (st' := ?_) tab hE [1, 2, 3, 7, 10] [3] 4 ?_ ?_
    rotate_left
    · simp -implicitDefEqProofs [-List.all_eq_true, tt3, tt24, lostB, wrap_w]
      rfl
    refine AO.callR hE (i_within_spec l (-1) (w64 (g.n - 1))) (by simp) (by simp) (by simp -implicitDefEqProofs [-List.all_eq_true, wrap_w]) (by simp) ?_
    refine AO.runK (st' := ?_) tab hE [1, 2, 3, 12] [3] 1 ?_ ?_
    rotate_left
    · simp -implicitDefEqProofs [-List.all_eq_true, tt4, lostB, wrap_w]
      rfl
    refine AO.guardV (v := ?_) (t := ?_) 5 ?_ ?_ (fun g0 => ?_) (fun g0 => ?_)
    rotate_left 2
    · simp -implicitDefEqProofs [-List.all_eq_true, lostB, wrap_w]
      rfl
    · rfl
    · skip
      replace g0 := BP.pos g0
      have g0' := g0
      try simp at g0'
      refine AO.runK (st' := ?_) tab hE [1, 2, 12, 13, 15] [3] 3 ?_ ?_
      rotate_left
      · simp -implicitDefEqProofs [-List.all_eq_true, tt3, tt24, lostB, wrap_w, g0, g0']
        rfl
      refine AO.callR hE (i_within_spec b 0 g.s) (by simp [g0, g0']) (by simp) (by simp -implicitDefEqProofs [-List.all_eq_true, g0, g0', wrap_w]) (by simp) ?_
      refine AO.runK (st' := ?_) tab hE [1, 2, 18] [] 2 ?_ ?_
      rotate_left
      · simp -implicitDefEqProofs [-List.all_eq_true, tt4, lostB, wrap_w, g0, g0']
        rfl
      refine AO.guardV (v := ?_) (t := ?_) 11 ?_ ?_ (fun g1 => ?_) (fun g1 => ?_)
      rotate_left 2
      · simp -implicitDefEqProofs [-List.all_eq_true, lostB, wrap_w, g0, g0']
        rfl
      · rfl
      · skip
        replace g1 := BP.pos g1
        have g1' := g1
        try simp at g1'
        refine AO.runK (st' := ?_) tab hE [1, 18, 21] [] 3 ?_ ?_
        rotate_left
        · simp -implicitDefEqProofs [-List.all_eq_true, tt3, tt4, lostB, wrap_w, g0, g0', g1, g1']
          rfl
        refine AO.guardV (v := ?_) (t := ?_) 14 ?_ ?_ (fun g2 => ?_) (fun g2 => ?_)
        rotate_left 2
        · simp -implicitDefEqProofs [-List.all_eq_true, lostB, wrap_w, g0, g0', g1, g1']
          rfl
        · rfl
        · skip
          replace g2 := BP.pos g2
          have g2' := g2
          try simp at g2'
          refine AO.finB tab hE [6] [] ?_
          first
            | (simp -implicitDefEqProofs [-List.all_eq_true, tt3, tt4, lostB, wrap_w, g0, g0', g1, g1', g2, g2']; done)
            | simp_all [-List.all_eq_true, tt3, tt4, lostB, wrap_w, g0, g0', g1, g1', g2, g2']
        · skip
          replace g2 := BP.neg g2
          have g2' := g2
          try simp at g2'
          refine AO.finB tab hE [6] [] ?_
          first
            | (simp -implicitDefEqProofs [-List.all_eq_true, tt3, tt4, lostB, wrap_w, g0, g0', g1, g1', g2, g2']; done)
            | simp_all [-List.all_eq_true, tt3, tt4, lostB, wrap_w, g0, g0', g1, g1', g2, g2']
      · skip
        replace g1 := BP.neg g1
        have g1' := g1
        try simp at g1'
        refine AO.finB tab hE [6] [] ?_
        first
          | (simp -implicitDefEqProofs [-List.all_eq_true, tt3, tt4, lostB, wrap_w, g0, g0', g1, g1']; done)
          | simp_all [-List.all_eq_true, tt3, tt4, lostB, wrap_w, g0, g0', g1, g1']
    · skip
      replace g0 := BP.neg g0
      have g0' := g0
      try simp at g0'
      refine AO.finB tab hE [6] [] ?_
      first
        | (simp -implicitDefEqProofs [-List.all_eq_true, tt3, tt4, tt24, lostB, wrap_w, g0, g0']; done)
        | simp_all [-List.all_eq_true, tt3, tt4, tt24, lostB, wrap_w, g0, g0']
  refine AW.ret (finF_ok tab hE ?_)
  simp -implicitDefEqProofs [-List.all_eq_true, lostB, wrap_w]
set_option maxHeartbeats 4000000 in
theorem s_SuperOk_spec (s : Super) : Lvm.Spec Try.prog [] 55 [.ro true (superC s)] [(false, [.v (.bool (superB s))])] := by
  refine Spec.of (TT := TT) Try.func55 (by kernel_rfl) rfl (of_decide_eq_true rfl) fun X hn hok hio hfa => ?_
  have hE : Ev.ok ⟨60, 1, _⟩ X := ⟨hn, hok, hio⟩
  clear hn hok hio hfa
  refine AW.sq ?_
  refine AW.regt (st' := ?_) tab hE [1] [1] ?_ ?_
  rotate_left
  · simp -implicitDefEqProofs [-List.all_eq_true, tt4, tt62, wrap_w]
    rfl
  refine AW.sq ?_
  refine AW.sq ?_
  refine AW.regB (S0 := ?_) [1] [1] 36 (super1 s) ?_ ?_ ?_
  rotate_left
  · simp -implicitDefEqProofs
    rfl
  · skip
    refine AO.runK (st' := ?_) tab hE [1, 7] [1] 5 ?_ ?_
    rotate_left
    · simp -implicitDefEqProofs [-List.all_eq_true, tt3, tt4, tt24, tt62, wrap_w]
      rfl
    refine AO.callR hE (s_GeoOk_spec ⟨s.n, s.s⟩) (by simp) (by simp) (by simp -implicitDefEqProofs [-List.all_eq_true, wrap_w]) (by simp) ?_
    refine AO.runK (st' := ?_) tab hE [1, 10] [1] 2 ?_ ?_
    rotate_left
    · simp -implicitDefEqProofs [-List.all_eq_true, tt4, wrap_w]
      rfl
    refine AO.guardV (v := ?_) (t := ?_) 7 ?_ ?_ (fun g0 => ?_) (fun g0 => ?_)
    rotate_left 2
    · simp -implicitDefEqProofs [-List.all_eq_true, wrap_w]
      rfl
    · rfl
    · skip
      replace g0 := BP.pos g0
      have g0' := g0
      try simp at g0'
      refine AO.finB tab hE [36, 1] [1] ?_
      simp [-List.all_eq_true, super1, tt3, tt4, tt5, tt62, wrap_w, g0, g0']
    · skip
      replace g0 := BP.neg g0
      have g0' := g0
      try simp at g0'
      refine AO.runK (st' := ?_) tab hE [1, 10, 12] [1] 2 ?_ ?_
      rotate_left
      · simp -implicitDefEqProofs [-List.all_eq_true, tt3, tt62, wrap_w, g0, g0']
        rfl
      refine AO.callR hE (s_l1In_spec s.id 1 60000) (by simp [g0, g0']) (by simp) (by simp -implicitDefEqProofs [-List.all_eq_true, g0, g0', wrap_w]) (by simp) ?_
      refine AO.runK (st' := ?_) tab hE [1, 16] [1] 3 ?_ ?_
      rotate_left
      · simp -implicitDefEqProofs [-List.all_eq_true, tt4, wrap_w, g0, g0']
        rfl
      refine AO.guardV (v := ?_) (t := ?_) 13 ?_ ?_ (fun g1 => ?_) (fun g1 => ?_)
      rotate_left 2
      · simp -implicitDefEqProofs [-List.all_eq_true, wrap_w, g0, g0']
        rfl
      · rfl
      · skip
        replace g1 := BP.pos g1
        have g1' := g1
        try simp at g1'
        refine AO.finB tab hE [36, 1] [1] ?_
        simp [-List.all_eq_true, super1, tt3, tt4, tt5, tt62, wrap_w, g0, g0', g1, g1']
      · skip
        replace g1 := BP.neg g1
        have g1' := g1
        try simp at g1'
        refine AO.runK (st' := ?_) tab hE [1, 16, 18] [1] 2 ?_ ?_
        rotate_left
        · simp -implicitDefEqProofs [-List.all_eq_true, tt3, tt62, wrap_w, g0, g0', g1, g1']
          rfl
        refine AO.callR hE (s_l1In_spec s.gen 0 60000) (by simp [g0, g0', g1, g1']) (by simp) (by simp -implicitDefEqProofs [-List.all_eq_true, g0, g0', g1, g1', wrap_w]) (by simp) ?_
        refine AO.runK (st' := ?_) tab hE [1, 22] [1] 3 ?_ ?_
        rotate_left
        · simp -implicitDefEqProofs [-List.all_eq_true, tt4, wrap_w, g0, g0', g1, g1']
          rfl
        refine AO.guardV (v := ?_) (t := ?_) 19 ?_ ?_ (fun g2 => ?_) (fun g2 => ?_)
        rotate_left 2
        · simp -implicitDefEqProofs [-List.all_eq_true, wrap_w, g0, g0', g1, g1']
          rfl
        · rfl
        · skip
          replace g2 := BP.pos g2
          have g2' := g2
          try simp at g2'
          refine AO.finB tab hE [36, 1] [1] ?_
          simp [-List.all_eq_true, super1, tt3, tt4, tt5, tt62, wrap_w, g0, g0', g1, g1', g2, g2']
        · skip
          replace g2 := BP.neg g2
          have g2' := g2
          try simp at g2'
          refine AO.runK (st' := ?_) tab hE [1, 22, 24, 27] [1] 5 ?_ ?_
          rotate_left
          · simp -implicitDefEqProofs [-List.all_eq_true, tt3, tt62, wrap_w, g0, g0', g1, g1', g2, g2']
            rfl
          refine AO.callR hE (s_l1In_spec s.role 0 (w64 (s.n - 1))) (by simp [g0, g0', g1, g1', g2, g2']) (by simp) (by simp -implicitDefEqProofs [-List.all_eq_true, g0, g0', g1, g1', g2, g2', wrap_w]) (by simp) ?_
          refine AO.runK (st' := ?_) tab hE [1, 31] [1] 3 ?_ ?_
          rotate_left
          · simp -implicitDefEqProofs [-List.all_eq_true, tt4, wrap_w, g0, g0', g1, g1', g2, g2']
            rfl
          refine AO.guardV (v := ?_) (t := ?_) 28 ?_ ?_ (fun g3 => ?_) (fun g3 => ?_)
          rotate_left 2
          · simp -implicitDefEqProofs [-List.all_eq_true, wrap_w, g0, g0', g1, g1', g2, g2']
            rfl
          · rfl
          · skip
            replace g3 := BP.pos g3
            have g3' := g3
            try simp at g3'
            refine AO.finB tab hE [36, 1] [1] ?_
            simp [-List.all_eq_true, super1, tt3, tt4, tt5, tt62, wrap_w, g0, g0', g1, g1', g2, g2', g3, g3']
          · skip
            replace g3 := BP.neg g3
            have g3' := g3
            try simp at g3'
            refine AO.runK (st' := ?_) tab hE [1, 31, 33] [1] 2 ?_ ?_
            rotate_left
            · simp -implicitDefEqProofs [-List.all_eq_true, tt3, tt5, tt62, wrap_w, g0, g0', g1, g1', g2, g2', g3, g3']
              rfl
            refine AO.callR hE (s_l1In_spec s.tail 0 60000) (by simp [g0, g0', g1, g1', g2, g2', g3, g3']) (by simp) (by simp -implicitDefEqProofs [-List.all_eq_true, g0, g0', g1, g1', g2, g2', g3, g3', wrap_w]) (by simp) ?_
            refine AO.finB tab hE [36, 1] [1] ?_
            simp [-List.all_eq_true, super1, tt4, wrap_w, g0, g0', g1, g1', g2, g2', g3, g3']
  refine AW.iteV (v := ?_) (t := ?_) ?_ ?_ (fun h0 => ?_) (fun h0 => ?_)
  rotate_left 2
  · simp -implicitDefEqProofs [-List.all_eq_true]
    rfl
  · rfl
  · skip
    replace h0 := BP.pos h0
    have h0' := h0
    try simp at h0'
    refine AW.sq ?_
    refine AW.regt (st' := ?_) tab hE [2] [] ?_ ?_
    rotate_left
    · simp -implicitDefEqProofs [-List.all_eq_true, tt4, wrap_w, h0, h0']
      rfl
    refine AW.ret (finF_ok tab hE ?_)
    simp [superB_no s h0]
  replace h0 := BP.neg h0
  have h0' := h0
  try simp at h0'
  refine AW.skip ?_
  refine AW.sq ?_
  refine AW.regB (S0 := ?_) [] [] 2 (super2 s) ?_ ?_ ?_
  rotate_left
  · simp -implicitDefEqProofs
    rfl
  · skip
    refine AO.runK (st' := ?_) tab hE [1, 38, 41] [1] 5 ?_ ?_
    rotate_left
    · simp -implicitDefEqProofs [-List.all_eq_true, tt3, tt62, wrap_w, h0, h0']
      rfl
    refine AO.callR hE (s_l1In_spec s.lost (-1) (w64 (s.n - 1))) (by simp) (by simp) (by simp -implicitDefEqProofs [-List.all_eq_true, h0, h0', wrap_w]) (by simp) ?_
    refine AO.runK (st' := ?_) tab hE [1, 43] [1] 1 ?_ ?_
    rotate_left
    · simp -implicitDefEqProofs [-List.all_eq_true, tt4, wrap_w, h0, h0']
      rfl
    refine AO.guardV (v := ?_) (t := ?_) 6 ?_ ?_ (fun g4 => ?_) (fun g4 => ?_)
    rotate_left 2
    · simp -implicitDefEqProofs [-List.all_eq_true, wrap_w, h0, h0']
      rfl
    · rfl
    · skip
      replace g4 := BP.pos g4
      have g4' := g4
      try simp at g4'
      refine AO.runK (st' := ?_) tab hE [1, 43, 45, 47] [1] 4 ?_ ?_
      rotate_left
      · simp -implicitDefEqProofs [-List.all_eq_true, tt3, tt4, tt62, wrap_w, h0, h0', g4, g4']
        rfl
      refine AO.callR hE (s_l1In_spec s.built 0 s.s) (by simp [h0, h0', g4, g4']) (by simp) (by simp -implicitDefEqProofs [-List.all_eq_true, h0, h0', g4, g4', wrap_w]) (by simp) ?_
      refine AO.runK (st' := ?_) tab hE [1, 50] [1] 2 ?_ ?_
      rotate_left
      · simp -implicitDefEqProofs [-List.all_eq_true, tt4, wrap_w, h0, h0', g4, g4']
        rfl
      refine AO.guardV (v := ?_) (t := ?_) 13 ?_ ?_ (fun g5 => ?_) (fun g5 => ?_)
      rotate_left 2
      · simp -implicitDefEqProofs [-List.all_eq_true, wrap_w, h0, h0', g4, g4']
        rfl
      · rfl
      · skip
        replace g5 := BP.pos g5
        have g5' := g5
        try simp at g5'
        refine AO.runK (st' := ?_) tab hE [1, 50, 54] [1] 4 ?_ ?_
        rotate_left
        · simp -implicitDefEqProofs [-List.all_eq_true, tt3, tt4, tt62, wrap_w, h0, h0', g4, g4', g5, g5']
          rfl
        refine AO.guardV (v := ?_) (t := ?_) 17 ?_ ?_ (fun g6 => ?_) (fun g6 => ?_)
        rotate_left 2
        · simp -implicitDefEqProofs [-List.all_eq_true, wrap_w, h0, h0', g4, g4', g5, g5']
          rfl
        · rfl
        · skip
          replace g6 := BP.pos g6
          have g6' := g6
          try simp at g6'
          refine AO.finB tab hE [2] [] ?_
          simp [-List.all_eq_true, super2, tt3, tt4, tt62, wrap_w, h0, h0', g4, g4', g5, g5', g6, g6']
        · skip
          replace g6 := BP.neg g6
          have g6' := g6
          try simp at g6'
          refine AO.finB tab hE [2] [] ?_
          simp [-List.all_eq_true, super2, tt3, tt4, tt62, wrap_w, h0, h0', g4, g4', g5, g5', g6, g6']
      · skip
        replace g5 := BP.neg g5
        have g5' := g5
        try simp at g5'
        refine AO.finB tab hE [2] [] ?_
        simp [-List.all_eq_true, super2, tt3, tt4, tt62, wrap_w, h0, h0', g4, g4', g5, g5']
    · skip
      replace g4 := BP.neg g4
      have g4' := g4
      try simp at g4'
      refine AO.finB tab hE [2] [] ?_
      simp [-List.all_eq_true, super2, tt3, tt4, tt62, wrap_w, h0, h0', g4, g4']
  refine AW.ret (finF_ok tab hE ?_)
  simp [superB_eq s h0]
set_option maxHeartbeats 4000000 in
theorem i_SuperOk_spec (s : Super) : Lvm.Spec Try.prog [] 56 [.ro true (superC s)] [(false, [.v (.bool (superB s))])] := by
  refine Spec.of (TT := TT) Try.func56 (by kernel_rfl) rfl (of_decide_eq_true rfl) fun X hn hok hio hfa => ?_
  have hE : Ev.ok ⟨44, 1, _⟩ X := ⟨hn, hok, hio⟩
  clear hn hok hio hfa
  refine AW.sq ?_
  refine AW.regt (st' := ?_) tab hE [1] [1] ?_ ?_
  rotate_left
  · simp -implicitDefEqProofs [-List.all_eq_true, tt4, tt62, wrap_w]
    rfl
  refine AW.sq ?_
  refine AW.regt (st' := ?_) tab hE [1, 3] [1, 3] ?_ ?_
  rotate_left
  · simp -implicitDefEqProofs [-List.all_eq_true, tt3, tt4, tt24, tt62, wrap_w]
    rfl
  refine AW.sq ?_
  refine AW.regB (S0 := ?_) [1, 3] [1, 3] 4 (countsB s) ?_ ?_ ?_
  rotate_left
  · simp -implicitDefEqProofs
    rfl
  · skip
    refine AO.runK (st' := ?_) tab hE [1, 3, 11] [1, 3] 2 ?_ ?_
    rotate_left
    · simp -implicitDefEqProofs [-List.all_eq_true, tt3, tt62, wrap_w]
      rfl
    refine AO.callR hE (i_within_spec s.id 1 60000) (by simp) (by simp) (by simp -implicitDefEqProofs [-List.all_eq_true, wrap_w]) (by simp) ?_
    refine AO.runK (st' := ?_) tab hE [1, 3, 13] [1, 3] 1 ?_ ?_
    rotate_left
    · simp -implicitDefEqProofs [-List.all_eq_true, tt4, wrap_w]
      rfl
    refine AO.guardV (v := ?_) (t := ?_) 3 ?_ ?_ (fun g0 => ?_) (fun g0 => ?_)
    rotate_left 2
    · simp -implicitDefEqProofs [-List.all_eq_true, wrap_w]
      rfl
    · rfl
    · skip
      replace g0 := BP.pos g0
      have g0' := g0
      try simp at g0'
      refine AO.runK (st' := ?_) tab hE [1, 3, 13, 15] [1, 3] 2 ?_ ?_
      rotate_left
      · simp -implicitDefEqProofs [-List.all_eq_true, tt3, tt62, wrap_w, g0, g0']
        rfl
      refine AO.callR hE (i_within_spec s.gen 0 60000) (by simp [g0, g0']) (by simp) (by simp -implicitDefEqProofs [-List.all_eq_true, g0, g0', wrap_w]) (by simp) ?_
      refine AO.runK (st' := ?_) tab hE [1, 3, 18] [1, 3] 2 ?_ ?_
      rotate_left
      · simp -implicitDefEqProofs [-List.all_eq_true, tt4, wrap_w, g0, g0']
        rfl
      refine AO.guardV (v := ?_) (t := ?_) 8 ?_ ?_ (fun g1 => ?_) (fun g1 => ?_)
      rotate_left 2
      · simp -implicitDefEqProofs [-List.all_eq_true, wrap_w, g0, g0']
        rfl
      · rfl
      · skip
        replace g1 := BP.pos g1
        have g1' := g1
        try simp at g1'
        refine AO.runK (st' := ?_) tab hE [1, 3, 18, 20] [1, 3] 2 ?_ ?_
        rotate_left
        · simp -implicitDefEqProofs [-List.all_eq_true, tt3, tt5, tt62, wrap_w, g0, g0', g1, g1']
          rfl
        refine AO.callR hE (i_within_spec s.tail 0 60000) (by simp [g0, g0', g1, g1']) (by simp) (by simp -implicitDefEqProofs [-List.all_eq_true, g0, g0', g1, g1', wrap_w]) (by simp) ?_
        refine AO.finB tab hE [4, 1, 3] [1, 3] ?_
        simp [-List.all_eq_true, countsB, tt4, wrap_w, g0, g0', g1, g1']
      · skip
        replace g1 := BP.neg g1
        have g1' := g1
        try simp at g1'
        refine AO.finB tab hE [4, 1, 3] [1, 3] ?_
        simp [-List.all_eq_true, countsB, tt3, tt4, tt5, tt62, wrap_w, g0, g0', g1, g1']
    · skip
      replace g0 := BP.neg g0
      have g0' := g0
      try simp at g0'
      refine AO.finB tab hE [4, 1, 3] [1, 3] ?_
      simp [-List.all_eq_true, countsB, tt3, tt4, tt5, tt62, wrap_w, g0, g0']
  refine AW.sq ?_
  refine AW.regB (S0 := ?_) [] [] 2 (superB s) ?_ ?_ ?_
  rotate_left
  · simp -implicitDefEqProofs
    rfl
  · skip
    refine AO.runK (st' := ?_) tab hE [1, 3, 24] [1, 3] 2 ?_ ?_
    rotate_left
    · simp -implicitDefEqProofs [-List.all_eq_true, tt4, wrap_w]
      rfl
    refine AO.guardV (v := ?_) (t := ?_) 1 ?_ ?_ (fun g2 => ?_) (fun g2 => ?_)
    rotate_left 2
    · simp -implicitDefEqProofs [-List.all_eq_true, wrap_w]
      rfl
    · rfl
    · skip
      replace g2 := BP.pos g2
      have g2' := g2
      try simp at g2'
      refine AO.runK (st' := ?_) tab hE [1, 3, 24, 25] [1, 3] 1 ?_ ?_
      rotate_left
      · simp -implicitDefEqProofs [-List.all_eq_true, tt24, wrap_w, g2, g2']
        rfl
      refine AO.callR hE (i_GeoOk_spec ⟨s.n, s.s⟩) (by simp [g2, g2']) (by simp) (by simp -implicitDefEqProofs [-List.all_eq_true, g2, g2', wrap_w]) (by simp) ?_
      refine AO.runK (st' := ?_) tab hE [1, 3, 28] [1, 3] 2 ?_ ?_
      rotate_left
      · simp -implicitDefEqProofs [-List.all_eq_true, tt4, wrap_w, g2, g2']
        rfl
      refine AO.guardV (v := ?_) (t := ?_) 5 ?_ ?_ (fun g3 => ?_) (fun g3 => ?_)
      rotate_left 2
      · simp -implicitDefEqProofs [-List.all_eq_true, wrap_w, g2, g2']
        rfl
      · rfl
      · skip
        replace g3 := BP.pos g3
        have g3' := g3
        try simp at g3'
        refine AO.runK (st' := ?_) tab hE [1, 3, 28, 30, 33] [1, 3] 5 ?_ ?_
        rotate_left
        · simp -implicitDefEqProofs [-List.all_eq_true, tt3, tt62, wrap_w, g2, g2', g3, g3']
          rfl
        refine AO.callR hE (i_within_spec s.role 0 (w64 (s.n - 1))) (by simp [g2, g2', g3, g3']) (by simp) (by simp -implicitDefEqProofs [-List.all_eq_true, g2, g2', g3, g3', wrap_w]) (by simp) ?_
        refine AO.runK (st' := ?_) tab hE [1, 3, 36] [1, 3] 2 ?_ ?_
        rotate_left
        · simp -implicitDefEqProofs [-List.all_eq_true, tt4, wrap_w, g2, g2', g3, g3']
          rfl
        refine AO.guardV (v := ?_) (t := ?_) 13 ?_ ?_ (fun g4 => ?_) (fun g4 => ?_)
        rotate_left 2
        · simp -implicitDefEqProofs [-List.all_eq_true, wrap_w, g2, g2', g3, g3']
          rfl
        · rfl
        · skip
          replace g4 := BP.pos g4
          have g4' := g4
          try simp at g4'
          refine AO.runK (st' := ?_) tab hE [36, 37, 39, 41] [1, 3] 5 ?_ ?_
          rotate_left
          · simp -implicitDefEqProofs [-List.all_eq_true, tt3, tt24, tt62, wrap_w, g2, g2', g3, g3', g4, g4']
            rfl
          refine AO.callR hE (i_lostOk_spec ⟨s.n, s.s⟩ s.lost s.built) (by simp [g2, g2', g3, g3', g4, g4']) (by simp) (by simp -implicitDefEqProofs [-List.all_eq_true, g2, g2', g3, g3', g4, g4', wrap_w]) (by simp) ?_
          refine AO.finB tab hE [2] [] ?_
          simp [-List.all_eq_true, superB, tt4, wrap_w, g2, g2', g3, g3', g4, g4']
        · skip
          replace g4 := BP.neg g4
          have g4' := g4
          try simp at g4'
          refine AO.finB tab hE [2] [] ?_
          simp [-List.all_eq_true, superB, tt3, tt4, tt24, tt62, wrap_w, g2, g2', g3, g3', g4, g4']
      · skip
        replace g3 := BP.neg g3
        have g3' := g3
        try simp at g3'
        refine AO.finB tab hE [2] [] ?_
        simp [-List.all_eq_true, superB, tt3, tt4, tt24, tt62, wrap_w, g2, g2', g3, g3']
    · skip
      replace g2 := BP.neg g2
      have g2' := g2
      try simp at g2'
      refine AO.finB tab hE [2] [] ?_
      simp [-List.all_eq_true, superB, tt3, tt4, tt24, tt62, wrap_w, g2, g2']
  refine AW.ret (finF_ok tab hE ?_)
  simp -implicitDefEqProofs [-List.all_eq_true, wrap_w]
end Go.Proofs.Ytm
