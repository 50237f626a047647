/- Contracts of the program's functions, each for all arguments that its hypotheses allow: proved over the loaded program by the by-value machine of the Lvm texts. -/
import Derived.Test.YtmfdechkhdjebaaA15
set_option linter.unusedVariables false
set_option linter.unusedSimpArgs false
namespace Go.Proofs.Ytm
open Go.Lvm Go.Proofs
attribute [local simp] put_env put_var put_cv put_cs famS_env famS_var famS_cv famS_cs dE dC dV dU lkC runK runF ev_move ev_assign ev_pick ev_bin ev_un ev_conv ev_load ev_field ev_index ev_alloc ev_box ev_extract ev_len ev_append ev_build ev_buildS ev_store ev_makeS ev_slice Ev.dst Ev.src leAt moveF assignF viewL viewP mk_put mk_born mk_rv mk_rs mk_touch mk_touch2 touE2 L.touch2 mk_env mk_var mk_cv mk_cs delE delB delV setE touE lk lkv kill_dead kill_v kill_sptr kill_tup kill_ref kill_win kill_ptr L.base L.touch L.setCells L.cells Value.oneCell' isSt_v isSt_s isSt_d scal opv binS binF unS pickF st0_mk st0E st0V gokF gval gvV gtup skipF int_beq int_bne eqI_self mk_keep selE selV finF retF St.take ownL ownC Posts Post St.grab nz getC setC loadL fieldL lastOff ownR snap sttL stt sttR roOK snapRt resL isV sliceC lenS indexL intOf ros grd thenQ blockQ loopQ upd kill_ite touch_ite cells_ite lkv_ite lk_ite fam famE famF bef Region.binds rows_len rows_nil rows_get rows_get? stt_ints stt_intss stt_wrs stt_mems stt_cmds stt_jobs stt_anss stt_turns ownR_rep ownR_app allSt_ints allSt_intss allSt_wrs allSt_mems allSt_cmds allSt_jobs allSt_anss allSt_turns own_ints own_intss own_wrs own_mems own_cmds own_jobs own_anss own_turns intC intsC wrC memC geoC superC arrC cmdC jobC ansC turnC engC St.parts partsOf rowsOf lput chunk appF appOK St.elems gone goneIn convS bndF sliceL

set_option maxHeartbeats 4000000 in
theorem l_heldMemS0_spec (a : List Mem) (k : Int) (hn : a.length * 80 ≤ 140737488351232) (ha : ∀ m ∈ a, MemF m ∧ m.cache = []) : Lvm.Spec Try.prog [] 52 [.ro false [.s false 4 (rows (memC false) a)], .ro false [.v (.int .i64 (k))]] [(false, [.v (.int .i64 (heldMems0 a k))])] := by
  refine Spec.of (TT := TT) Try.func52 (by kernel_rfl) rfl (of_decide_eq_true rfl) fun X hn hok hio hfa => ?_
  have hE : Ev.ok ⟨51, 2, _⟩ X := ⟨hn, hok, hio⟩
  clear hn hok hio hfa
  refine AW.sq ?_
  refine AW.regt (st' := ?_) tab hE [0, 1] [] ?_ ?_
  rotate_left
  · simp -implicitDefEqProofs [-List.all_eq_true, tt3, wrap_w]
    rfl
  refine AW.sq ?_
  refine AW.sq ?_
  refine AW.regt (st' := ?_) tab hE [0, 1, 5] [] ?_ ?_
  rotate_left
  · simp -implicitDefEqProofs [-List.all_eq_true, tt3, wrap_w]
    rfl
  refine AW.bk ?_
  refine AW.lp (fun qn st => ∃ (i : Nat) (k' : Int), qn = a.length - i ∧ (i ≤ a.length) ∧ (heldMems0 (a.drop i) k' = heldMems0 a k) ∧  st = mk [(0, .val false [.s false 4 (rows (memC false) a)]), (1, .val false [.v (.int .i64 k')]), (5, .val false [.v (.int .i64 ((i : Nat) : Int))])] []) (a.length) ⟨0, k, by simp, by simp, by simp, by simp⟩ ?_
  rintro qn st ⟨i, k', rfl, hi, hk, rfl⟩
  refine AW.sq ?_
  refine AW.sq ?_
  refine AW.regt (st' := ?_) tab hE [0, 1, 5, 9] [] ?_ ?_
  rotate_left
  · simp -implicitDefEqProofs [-List.all_eq_true, tt3, tt4, tt25, tt57, wrap_w]
    rfl
  refine AW.iteV (v := ?_) (t := ?_) ?_ ?_ (fun h0 => ?_) (fun h0 => ?_)
  rotate_left 2
  · simp -implicitDefEqProofs [-List.all_eq_true]
    rfl
  · rfl
  · skip
    replace h0 := BP.pos h0
    have h0' := h0
    try simp at h0'
    obtain ⟨hm, hc⟩ := ha a[i] (List.getElem_mem _)
    refine AW.skip ?_
    refine AW.sq ?_
    refine AW.bk ?_
    refine AW.sq ?_
    refine AW.rego ?_
    refine AO.runK (st' := ?_) tab hE [0, 1, 5, 16, 17] [] 6 ?_ ?_
    rotate_left
    · simp -implicitDefEqProofs [-List.all_eq_true, tt3, tt25, tt53, tt55, tt57, wrap_w, h0, h0', hc]
      rfl
    refine AO.callR hE (l_heldIntSS_spec a[i].secs k' hm.secs hm.sec) (by simp) (by simp) (by simp -implicitDefEqProofs [-List.all_eq_true, h0, h0']) (by simp) ?_
    refine AO.fin (st' := ?_) tab hE [0, 1, 5] [] ?_ ?_
    rotate_left
    · simp -implicitDefEqProofs [-List.all_eq_true, tt3, wrap_w, h0, h0', hc]
      rfl
    refine AW.sq ?_
    refine AW.sq ?_
    refine AW.regt (st' := ?_) tab hE [0, 1, 5, 20] [] ?_ ?_
    rotate_left
    · simp -implicitDefEqProofs [-List.all_eq_true, tt3, tt4, wrap_w, h0, h0', hc]
      rfl
    refine AW.iteV (v := ?_) (t := ?_) ?_ ?_ (fun h1 => ?_) (fun h1 => ?_)
    rotate_left 2
    · simp -implicitDefEqProofs [-List.all_eq_true, h0, h0']
      rfl
    · rfl
    · skip
      replace h1 := BP.pos h1
      have h1' := h1
      try simp at h1'
      refine AW.sq ?_
      refine AW.regt (st' := ?_) tab hE [4] [] ?_ ?_
      rotate_left
      · simp -implicitDefEqProofs [-List.all_eq_true, tt3, wrap_w, h0, h0', h1, h1', hc]
        rfl
      refine AW.ret (finF_ok tab hE ?_)
      have e0 : heldMem0 a[i] k' = -1 := by rw [heldMem0, if_pos h1]
      have e : heldMems0 a k = -1 := by rw [← hk, List.drop_eq_getElem_cons h0', heldMems0, heldL, if_pos (by rw [e0]; decide)]
      simp [e]
    replace h1 := BP.neg h1
    have h1' := h1
    try simp at h1'
    refine AW.skip ?_
    refine AW.sq ?_
    refine AW.rego ?_
    refine AO.runK (st' := ?_) tab hE [0, 1, 5, 25, 26] [] 6 ?_ ?_
    rotate_left
    · simp -implicitDefEqProofs [-List.all_eq_true, tt3, tt25, tt54, tt57, tt93, wrap_w, h0, h0', h1, h1', hc]
      rfl
    refine AO.callR hE (l_heldWrS0_spec (heldIntss a[i].secs k')) (by simp) (by simp) (by simp -implicitDefEqProofs [-List.all_eq_true, h0, h0', h1, h1']) (by simp) ?_
    refine AO.fin (st' := ?_) tab hE [0, 1, 5] [] ?_ ?_
    rotate_left
    · simp -implicitDefEqProofs [-List.all_eq_true, tt3, wrap_w, h0, h0', h1, h1', hc]
      rfl
    refine AW.sq ?_
    refine AW.sq ?_
    refine AW.regt (st' := ?_) tab hE [0, 1, 5, 29] [] ?_ ?_
    rotate_left
    · simp -implicitDefEqProofs [-List.all_eq_true, tt3, tt4, wrap_w, h0, h0', h1, h1', hc]
      rfl
    refine AW.cond (t := false) (by simp [h0, h0', h1, h1']) ?_
    simp only [if_true, if_false, Bool.false_eq_true, reduceIte]
    refine AW.skip ?_
    refine AW.sq ?_
    refine AW.sq ?_
    refine AW.regt (st' := ?_) tab hE [0, 1, 5, 38] [] ?_ ?_
    rotate_left
    · simp -implicitDefEqProofs [-List.all_eq_true, tt3, tt4, tt25, tt57, wrap_w, h0, h0', h1, h1', hc]
      rfl
    refine AW.iteV (v := ?_) (t := ?_) ?_ ?_ (fun h3 => ?_) (fun h3 => ?_)
    rotate_left 2
    · simp -implicitDefEqProofs [-List.all_eq_true, h0, h0', h1, h1']
      rfl
    · rfl
    · skip
      replace h3 := BP.pos h3
      have h3' := h3
      try simp at h3'
      refine AW.sq ?_
      refine AW.regt (st' := ?_) tab hE [4] [] ?_ ?_
      rotate_left
      · simp -implicitDefEqProofs [-List.all_eq_true, tt3, wrap_w, h0, h0', h1, h1', h3, h3', hc]
        rfl
      refine AW.ret (finF_ok tab hE ?_)
      have e0 : heldMem0 a[i] k' = -1 := by rw [heldMem0, if_neg h1, if_neg h3]
      have e : heldMems0 a k = -1 := by rw [← hk, List.drop_eq_getElem_cons h0', heldMems0, heldL, if_pos (by rw [e0]; decide)]
      simp [e]
    replace h3 := BP.neg h3
    have h3' := h3
    try simp at h3'
    refine AW.skip ?_
    refine AW.sq ?_
    refine AW.regt (st' := ?_) tab hE [0, 1, 5] [] ?_ ?_
    rotate_left
    · simp -implicitDefEqProofs [-List.all_eq_true, tt3, wrap_w, h0, h0', h1, h1', h3, h3', hc]
      rfl
    refine AW.sq ?_
    refine AW.rego ?_
    refine AO.runK (st' := ?_) tab hE [0, 1, 5, 45, 46] [] 6 ?_ ?_
    rotate_left
    · simp -implicitDefEqProofs [-List.all_eq_true, tt3, tt25, tt55, tt57, wrap_w, h0, h0', h1, h1', h3, h3']
      rfl
    refine AO.callR hE (l_heldIntS_spec a[i].bad (w64 (heldIntss a[i].secs k' + 1)) hm.bad) (by simp) (by simp) (by simp -implicitDefEqProofs [-List.all_eq_true, h0, h0', h1, h1', h3, h3']) (by simp) ?_
    refine AO.fin (st' := ?_) tab hE [0, 1, 5] [] ?_ ?_
    rotate_left
    · simp -implicitDefEqProofs [-List.all_eq_true, tt3, wrap_w, h0, h0', h1, h1', h3, h3']
      rfl
    refine AW.sq ?_
    refine AW.regt (st' := ?_) tab hE [0, 1, 5, 49] [] ?_ ?_
    rotate_left
    · simp -implicitDefEqProofs [-List.all_eq_true, tt3, tt4, wrap_w, h0, h0', h1, h1', h3, h3']
      rfl
    refine AW.iteV (v := ?_) (t := ?_) ?_ ?_ (fun h4 => ?_) (fun h4 => ?_)
    rotate_left 2
    · simp -implicitDefEqProofs [-List.all_eq_true, h0, h0', h1, h1', h3, h3']
      rfl
    · rfl
    · skip
      replace h4 := BP.pos h4
      have h4' := h4
      try simp at h4'
      refine AW.sq ?_
      refine AW.regt (st' := ?_) tab hE [4] [] ?_ ?_
      rotate_left
      · simp -implicitDefEqProofs [-List.all_eq_true, tt3, wrap_w, h0, h0', h1, h1', h3, h3', h4, h4']
        rfl
      refine AW.ret (finF_ok tab hE ?_)
      have e0 : heldMem0 a[i] k' = heldInts a[i].bad (w64 (heldIntss a[i].secs k' + 1)) := by rw [heldMem0, if_neg h1, if_pos h3]
      have e : heldMems0 a k = -1 := by rw [← hk, List.drop_eq_getElem_cons h0', heldMems0, heldL, if_pos (by rw [e0]; exact h4)]
      simp [e]
    replace h4 := BP.neg h4
    have h4' := h4
    try simp at h4'
    refine AW.skip ?_
    refine AW.regt (st' := ?_) tab hE [0, 1, 5] [] ?_ ?_
    rotate_left
    · simp -implicitDefEqProofs [-List.all_eq_true, tt3, wrap_w, h0, h0', h1, h1', h3, h3', h4, h4']
      rfl
    have e0 : heldMem0 a[i] k' = heldInts a[i].bad (w64 (heldIntss a[i].secs k' + 1)) := by rw [heldMem0, if_neg h1, if_pos h3]
    exact ⟨_, by omega, i + 1, heldInts a[i].bad (w64 (heldIntss a[i].secs k' + 1)), rfl, by omega, by rw [← hk, List.drop_eq_getElem_cons h0', heldMems0, heldMems0, heldL, if_neg (by rw [e0]; exact h4), e0], by rw [w64_succ i _ h0' (by omega)]⟩
  replace h0 := BP.neg h0
  have h0' := h0
  try simp at h0'
  refine AW.exit ?_
  simp only [loopQ, blockQ, thenQ, if_true, reduceIte, Nat.reduceEqDiff]
  refine AW.sq ?_
  refine AW.regt (st' := ?_) tab hE [4] [] ?_ ?_
  rotate_left
  · simp -implicitDefEqProofs [-List.all_eq_true, tt3, wrap_w, h0, h0']
    rfl
  refine AW.ret (finF_ok tab hE ?_)
  have e : heldMems0 a k = k' := by rw [← hk, List.drop_of_length_le (by omega)]; rfl
  simp [e]
def heldA (l : List Mem) (k : Int) : Int := if heldMems0 l k < 0 then -1 else heldMems0 l k
set_option maxHeartbeats 4000000 in
theorem l_heldArr0_spec (a : Arr) (k : Int) (hn : a.mems.length * 80 ≤ 140737488351232) (ha : ∀ m ∈ a.mems, MemF m ∧ m.cache = []) (hd : a.dirty = []) : Lvm.Spec Try.prog [] 22 [.ro true (arrC false a), .ro false [.v (.int .i64 (k))]] [(false, [.v (.int .i64 (heldA a.mems k))])] := by
  refine Spec.of (TT := TT) Try.func22 (by kernel_rfl) rfl (of_decide_eq_true rfl) fun X hn hok hio hfa => ?_
  have hE : Ev.ok ⟨18, 2, _⟩ X := ⟨hn, hok, hio⟩
  clear hn hok hio hfa
  refine AW.sq ?_
  refine AW.regt (st' := ?_) tab hE [1, 2] [2] ?_ ?_
  rotate_left
  · simp -implicitDefEqProofs [-List.all_eq_true, tt3, tt28, hd]
    rfl
  refine AW.sq ?_
  refine AW.rego ?_
  refine AO.runK (st' := ?_) tab hE [1, 2, 6, 7] [2] 3 ?_ ?_
  rotate_left
  · simp -implicitDefEqProofs [-List.all_eq_true, tt3, tt25, tt28, tt57, hd]
    rfl
  refine AO.callR hE (l_heldMemS0_spec a.mems k hn ha) (by simp) (by simp) (by simp -implicitDefEqProofs [-List.all_eq_true, hd]) (by simp) ?_
  refine AO.fin (st' := ?_) tab hE [1, 2] [2] ?_ ?_
  rotate_left
  · simp -implicitDefEqProofs [-List.all_eq_true, tt3, hd]
    rfl
  refine AW.sq ?_
  refine AW.sq ?_
  refine AW.regt (st' := ?_) tab hE [1, 2, 10] [2] ?_ ?_
  rotate_left
  · simp -implicitDefEqProofs [-List.all_eq_true, tt3, tt4, hd]
    rfl
  refine AW.iteV (v := ?_) (t := ?_) ?_ ?_ (fun h0 => ?_) (fun h0 => ?_)
  rotate_left 2
  · simp -implicitDefEqProofs [-List.all_eq_true]
    rfl
  · rfl
  · skip
    replace h0 := BP.pos h0
    have h0' := h0
    try simp at h0'
    refine AW.sq ?_
    refine AW.regt (st' := ?_) tab hE [4] [] ?_ ?_
    rotate_left
    · simp -implicitDefEqProofs [-List.all_eq_true, tt3, hd, h0, h0']
      rfl
    refine AW.ret (finF_ok tab hE ?_)
    simp [heldA, if_pos h0]
  replace h0 := BP.neg h0
  have h0' := h0
  try simp at h0'
  refine AW.skip ?_
  refine AW.sq ?_
  refine AW.rego ?_
  refine AO.runK (st' := ?_) tab hE [1, 12, 13] [2] 3 ?_ ?_
  rotate_left
  · simp -implicitDefEqProofs [-List.all_eq_true, tt3, tt26, tt28, tt99, hd, h0, h0']
    rfl
  refine AO.callR hE (l_heldEntS0_spec (heldMems0 a.mems k)) (by simp) (by simp) (by simp -implicitDefEqProofs [-List.all_eq_true, h0, h0', hd]) (by simp) ?_
  refine AO.fin (st' := ?_) tab hE [1] [] ?_ ?_
  rotate_left
  · simp -implicitDefEqProofs [-List.all_eq_true, tt3, hd, h0, h0']
    rfl
  refine AW.sq ?_
  refine AW.sq ?_
  refine AW.regt (st' := ?_) tab hE [1, 16] [] ?_ ?_
  rotate_left
  · simp -implicitDefEqProofs [-List.all_eq_true, tt3, tt4, hd, h0, h0']
    rfl
  refine AW.cond (t := false) (by simp [h0, h0']) ?_
  simp only [if_true, if_false, Bool.false_eq_true, reduceIte]
  refine AW.skip ?_
  refine AW.sq ?_
  refine AW.regt (st' := ?_) tab hE [4] [] ?_ ?_
  rotate_left
  · simp -implicitDefEqProofs [-List.all_eq_true, tt3, hd, h0, h0']
    rfl
  refine AW.ret (finF_ok tab hE ?_)
  simp [heldA, if_neg h0]
set_option maxHeartbeats 4000000 in
theorem l_heldEng0_spec (e : Eng) (k : Int) (hn : e.a.mems.length * 80 ≤ 140737488351232) (ha : ∀ m ∈ e.a.mems, MemF m ∧ m.cache = []) (hd : e.a.dirty = []) (h1 : e.wait = []) (h2 : e.jobs = []) (h3 : e.done = []) (h4 : e.log = []) : Lvm.Spec Try.prog [] 9 [.ro true (engC false e), .ro false [.v (.int .i64 (k))]] [(false, [.v (.int .i64 (heldA e.a.mems k))])] := by
  refine Spec.of (TT := TT) Try.func9 (by kernel_rfl) rfl (of_decide_eq_true rfl) fun X hn hok hio hfa => ?_
  have hE : Ev.ok ⟨36, 2, _⟩ X := ⟨hn, hok, hio⟩
  clear hn hok hio hfa
  refine AW.sq ?_
  refine AW.regt (st' := ?_) tab hE [1, 2] [2] ?_ ?_
  rotate_left
  · simp -implicitDefEqProofs [-List.all_eq_true, tt3, tt34, hd, h1, h2, h3, h4]
    rfl
  refine AW.sq ?_
  refine AW.rego ?_
  refine AO.runK (st' := ?_) tab hE [1, 2, 6, 7] [2] 3 ?_ ?_
  rotate_left
  · simp -implicitDefEqProofs [-List.all_eq_true, tt3, tt28, tt34, hd, h1, h2, h3, h4]
    rfl
  refine AO.callR hE (l_heldArr0_spec e.a k hn ha hd) (by simp) (by simp) (by simp -implicitDefEqProofs [-List.all_eq_true, hd, h1, h2, h3, h4]) (by simp) ?_
  refine AO.fin (st' := ?_) tab hE [1, 2] [2] ?_ ?_
  rotate_left
  · simp -implicitDefEqProofs [-List.all_eq_true, tt3, hd, h1, h2, h3, h4]
    rfl
  refine AW.sq ?_
  refine AW.sq ?_
  refine AW.regt (st' := ?_) tab hE [1, 2, 10] [2] ?_ ?_
  rotate_left
  · simp -implicitDefEqProofs [-List.all_eq_true, tt3, tt4, hd, h1, h2, h3, h4]
    rfl
  refine AW.iteV (v := ?_) (t := ?_) ?_ ?_ (fun h0 => ?_) (fun h0 => ?_)
  rotate_left 2
  · simp -implicitDefEqProofs [-List.all_eq_true]
    rfl
  · rfl
  · skip
    replace h0 := BP.pos h0
    have h0' := h0
    try simp at h0'
    refine AW.sq ?_
    refine AW.regt (st' := ?_) tab hE [4] [] ?_ ?_
    rotate_left
    · simp -implicitDefEqProofs [-List.all_eq_true, tt3, hd, h1, h2, h3, h4, h0, h0']
      rfl
    refine AW.ret (finF_ok tab hE ?_)
    have e1 : heldA e.a.mems k = -1 := by
      unfold heldA at h0 ⊢
      split at h0
      · rename_i h; rw [if_pos h]
      · rename_i h; exact absurd h0 h
    simp [e1]
  replace h0 := BP.neg h0
  have h0' := h0
  try simp at h0'
  refine AW.skip ?_
  refine AW.sq ?_
  refine AW.rego ?_
  refine AO.runK (st' := ?_) tab hE [1, 2, 12, 13] [2] 3 ?_ ?_
  rotate_left
  · simp -implicitDefEqProofs [-List.all_eq_true, tt3, tt29, tt34, tt74, hd, h1, h2, h3, h4, h0, h0']
    rfl
  refine AO.callR hE (l_heldCmdS0_spec (heldA e.a.mems k)) (by simp) (by simp) (by simp -implicitDefEqProofs [-List.all_eq_true, h0, h0', hd, h1, h2, h3, h4]) (by simp) ?_
  refine AO.fin (st' := ?_) tab hE [1, 2] [2] ?_ ?_
  rotate_left
  · simp -implicitDefEqProofs [-List.all_eq_true, tt3, hd, h1, h2, h3, h4, h0, h0']
    rfl
  refine AW.sq ?_
  refine AW.sq ?_
  refine AW.regt (st' := ?_) tab hE [1, 2, 16] [2] ?_ ?_
  rotate_left
  · simp -implicitDefEqProofs [-List.all_eq_true, tt3, tt4, hd, h1, h2, h3, h4, h0, h0']
    rfl
  refine AW.cond (t := false) (by simp [h0, h0']) ?_
  simp only [if_true, if_false, Bool.false_eq_true, reduceIte]
  refine AW.skip ?_
  refine AW.sq ?_
  refine AW.rego ?_
  refine AO.runK (st' := ?_) tab hE [1, 2, 18, 19] [2] 3 ?_ ?_
  rotate_left
  · simp -implicitDefEqProofs [-List.all_eq_true, tt3, tt30, tt34, tt77, hd, h1, h2, h3, h4, h0, h0']
    rfl
  refine AO.callR hE (l_heldJobS0_spec (heldA e.a.mems k)) (by simp) (by simp) (by simp -implicitDefEqProofs [-List.all_eq_true, h0, h0', hd, h1, h2, h3, h4]) (by simp) ?_
  refine AO.fin (st' := ?_) tab hE [1, 2] [2] ?_ ?_
  rotate_left
  · simp -implicitDefEqProofs [-List.all_eq_true, tt3, hd, h1, h2, h3, h4, h0, h0']
    rfl
  refine AW.sq ?_
  refine AW.sq ?_
  refine AW.regt (st' := ?_) tab hE [1, 2, 22] [2] ?_ ?_
  rotate_left
  · simp -implicitDefEqProofs [-List.all_eq_true, tt3, tt4, hd, h1, h2, h3, h4, h0, h0']
    rfl
  refine AW.cond (t := false) (by simp [h0, h0']) ?_
  simp only [if_true, if_false, Bool.false_eq_true, reduceIte]
  refine AW.skip ?_
  refine AW.sq ?_
  refine AW.rego ?_
  refine AO.runK (st' := ?_) tab hE [1, 2, 24, 25] [2] 3 ?_ ?_
  rotate_left
  · simp -implicitDefEqProofs [-List.all_eq_true, tt3, tt31, tt34, tt80, hd, h1, h2, h3, h4, h0, h0']
    rfl
  refine AO.callR hE (l_heldAnsS0_spec (heldA e.a.mems k)) (by simp) (by simp) (by simp -implicitDefEqProofs [-List.all_eq_true, h0, h0', hd, h1, h2, h3, h4]) (by simp) ?_
  refine AO.fin (st' := ?_) tab hE [1, 2] [2] ?_ ?_
  rotate_left
  · simp -implicitDefEqProofs [-List.all_eq_true, tt3, hd, h1, h2, h3, h4, h0, h0']
    rfl
  refine AW.sq ?_
  refine AW.sq ?_
  refine AW.regt (st' := ?_) tab hE [1, 2, 28] [2] ?_ ?_
  rotate_left
  · simp -implicitDefEqProofs [-List.all_eq_true, tt3, tt4, hd, h1, h2, h3, h4, h0, h0']
    rfl
  refine AW.cond (t := false) (by simp [h0, h0']) ?_
  simp only [if_true, if_false, Bool.false_eq_true, reduceIte]
  refine AW.skip ?_
  refine AW.sq ?_
  refine AW.rego ?_
  refine AO.runK (st' := ?_) tab hE [1, 30, 31] [2] 3 ?_ ?_
  rotate_left
  · simp -implicitDefEqProofs [-List.all_eq_true, tt3, tt4, tt32, tt34, tt83, hd, h1, h2, h3, h4, h0, h0']
    rfl
  refine AO.callR hE (l_heldTurnS0_spec (heldA e.a.mems k)) (by simp) (by simp) (by simp -implicitDefEqProofs [-List.all_eq_true, h0, h0', hd, h1, h2, h3, h4]) (by simp) ?_
  refine AO.fin (st' := ?_) tab hE [1] [] ?_ ?_
  rotate_left
  · simp -implicitDefEqProofs [-List.all_eq_true, tt3, hd, h1, h2, h3, h4, h0, h0']
    rfl
  refine AW.sq ?_
  refine AW.sq ?_
  refine AW.regt (st' := ?_) tab hE [1, 34] [] ?_ ?_
  rotate_left
  · simp -implicitDefEqProofs [-List.all_eq_true, tt3, tt4, hd, h1, h2, h3, h4, h0, h0']
    rfl
  refine AW.cond (t := false) (by simp [h0, h0']) ?_
  simp only [if_true, if_false, Bool.false_eq_true, reduceIte]
  refine AW.skip ?_
  refine AW.sq ?_
  refine AW.regt (st' := ?_) tab hE [4] [] ?_ ?_
  rotate_left
  · simp -implicitDefEqProofs [-List.all_eq_true, tt3, hd, h1, h2, h3, h4, h0, h0']
    rfl
  refine AW.ret (finF_ok tab hE ?_)
  simp
end Go.Proofs.Ytm
