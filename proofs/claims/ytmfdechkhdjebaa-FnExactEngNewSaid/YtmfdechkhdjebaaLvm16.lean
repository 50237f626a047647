/- Lemmas of the by-value machine and of the data that the contracts speak of: each holds under the hypotheses that it states. -/
import Derived.Test.YtmfdechkhdjebaaLvm15
set_option linter.unusedVariables false
set_option linter.unusedSimpArgs false
namespace Go.Lvm
variable {P : Program} {TT : Nat → Ty} {X : Fx} {st st' : St} {o : Oper} {d : Nat}
/-! ### A body -/
inductive Rets (P : Program) (TT : Nat → Ty) (X : Fx) : St → List ResultVar → St → List (Bool × List C) → Prop
  | nil (st : St) : Rets P TT X st [] st []
  | tmp {st st1 st2 : St} {t : Nat} {g : Bool} {cs : List C} {l : List ResultVar} {res : List (Bool × List C)} : st.take t = some (g, cs, st1) → ownL cs = true → t < X.n → Rets P TT X st1 l st2 res → Rets P TT X st (.tmp t :: l) st2 ((g, cs) :: res)
  | cell {st st2 : St} {a t : Nat} {r : Rt} {off : Nat} {ps : Pth} {cs c0 c1 : List C} {g : Bool} {l : List ResultVar} {res : List (Bool × List C)} : st.env a = .ptr r off ps → st.cells r = some c0 → getC c0 off ps cs.length = some cs → setC c0 off ps (List.replicate cs.length .d) = some c1 → ownL cs = true →
      TyOK P t (TT t) → cs.length = (TT t).size → g = (TT t).agg → ((TT t).agg = false → (TT t).size = 1) → Rets P TT X (st.setRoot r c1) l st2 res → Rets P TT X st (.cell a t :: l) st2 ((g, cs) :: res)
theorem rets_ok {w : World} {a : Act} {l : List ResultVar} {st st2 : St} {res : List (Bool × List C)} (hl : Rets P TT X st l st2 res) : ∀ {g : Gh} (i : Nat), Conc X st w a g → (∀ j, i ≤ j → g.bl (.hand j) = []) →
    ∃ (g' : Gh) (vs : List Value) (rb : List Nat), Conc X st2 w a g' ∧ tupOK w NoZ res vs rb ∧ rb.Nodup ∧ (∀ b ∈ rb, ∃ j, i ≤ j ∧ b ∈ g'.bl (.hand j)) ∧ (∀ j, j < i → g'.bl (.hand j) = g.bl (.hand j)) ∧
      ∀ f : ResultVar → Sem Value, (∀ u, f (.tmp u) = pure (a.tmps.getD u undef)) → (∀ p t, f (.cell p t) = (do loadVar t (← asAddr (a.tmps.getD p undef)))) → (l.mapM f).run P w = .ok vs w := by
  induction hl with
  | nil st => exact fun i h _ => ⟨_, [], [], h, ⟨rfl, rfl⟩, List.nodup_nil, (fun b hb => by cases hb), fun _ _ => rfl, fun f _ _ => by simp⟩
  | @tmp st st1 st2 t gg cs l res ht ho hn hl ih =>
    intro g i h hi
    obtain ⟨g1, us, k1, k2, k3, k4, k5, _, _⟩ := take_conc h ht i (hi i (Nat.le_refl _)) hn
    obtain ⟨g2, vs, rb, m1, m2, m3, m4, m5, m6⟩ := ih (i + 1) k1 (fun j hj => by rw [k5 j (by omega)]; exact hi j (by omega))
    have hbi : g2.bl (.hand i) = g1.bl (.hand i) := m5 i (by omega)
    refine ⟨g2, pack gg us :: vs, g1.bl (.hand i) ++ rb, m1, ⟨us, vs, _, rb, rfl, k3, rfl, repL_own cs k4 ho, m2⟩, ?_, fun b hb => ?_, fun j hj => by rw [m5 j (by omega), k5 j (by omega)], fun f hf hc => ?_⟩
    · refine List.nodup_append.2 ⟨k1.own.nd _, m3, fun b hb b' hb' e => ?_⟩
      subst e
      obtain ⟨j, hj, hbj⟩ := m4 b hb'
      have := m1.own.dj _ _ _ (hbi ▸ hb) hbj
      injection this with this; omega
    · rcases List.mem_append.1 hb with hb | hb
      · exact ⟨i, Nat.le_refl _, by rw [hbi]; exact hb⟩
      · obtain ⟨j, hj, hbj⟩ := m4 b hb; exact ⟨j, by omega, hbj⟩
    · have := m6 f hf hc
      rw [List.mapM_cons, hf]
      simp [this, k2]
  | @cell st st2 p t r off ps cs c0 c1 gg l res he hc hg hs ho hT hsz hgg h1 hl ih =>
    intro g i h hi
    subst hgg
    obtain ⟨g1, b, q, us', k1, k2, k3, k4, k5, k6⟩ := h.lend hc hg hs i (hi i (Nat.le_refl _))
    obtain ⟨b0, q0, us0, arr, T, fr, e1, e2, e3, e4, e5, bs, e6⟩ := h.ptr_ok he hc hg
    rw [k2] at e1
    simp only [Option.some.injEq, Prod.mk.injEq] at e1
    obtain ⟨rfl, rfl, rfl⟩ := e1
    have hnh : ∀ j, r ≠ .hand j := fun j e => by subst e; cases hc
    have k5' : ∀ j, j ≠ i → g1.bl (.hand j) = g.bl (.hand j) := fun j hj => k5 _ (fun e => hnh j e.symm) (by simpa using hj)
    obtain ⟨g2, vs, rb, m1, m2, m3, m4, m5, m6⟩ := ih (i + 1) k1 (fun j hj => by rw [k5' j (by omega)]; exact hi j (by omega))
    have hbi : g2.bl (.hand i) = g1.bl (.hand i) := m5 i (by omega)
    have hlen : (us'.take cs.length).length = (TT t).size := by rw [List.length_take]; omega
    have hrun := run_loadVar_ok hT e3 (by rw [← hsz]; exact e4) hlen h1
    refine ⟨g2, pack (TT t).agg (us'.take cs.length) :: vs, g1.bl (.hand i) ++ rb, m1, ⟨_, vs, _, rb, rfl, fun hf => by rw [hsz]; exact h1 hf, rfl, repL_own cs k4 ho, m2⟩, ?_, fun b hb => ?_, fun j hj => by rw [m5 j (by omega), k5' j (by omega)], fun f hf hcc => ?_⟩
    · refine List.nodup_append.2 ⟨k1.own.nd _, m3, fun b hb b' hb' e => ?_⟩
      subst e
      obtain ⟨j, hj, hbj⟩ := m4 b hb'
      have := m1.own.dj _ _ _ (hbi ▸ hb) hbj
      injection this with this; omega
    · rcases List.mem_append.1 hb with hb | hb
      · exact ⟨i, Nat.le_refl _, by rw [hbi]; exact hb⟩
      · obtain ⟨j, hj, hbj⟩ := m4 b hb; exact ⟨j, by omega, hbj⟩
    · have := m6 f hf hcc
      rw [List.mapM_cons, hcc, e2]
      simp [asAddr, hrun, this]
def leAt (as : List Ar) (t : Nat) : Bool :=
  match as[t]? with
  | some (.le _ _ _) => true
  | _ => false
def st0 (as : List Ar) : St where
  env t := match as[t]? with
    | some (.ro g cs) => .val g cs
    | some (.mv g cs) => .val g cs
    | some (.le g cs _) => .val g cs
    | some (.io _ _) => .ptr (.var t) 0 []
    | none => .dead
  var t := match as[t]? with
    | some (.io cs _) => some cs
    | _ => none
def Post (st : St) (i : Nat) : Ar → Prop
  | .io _ cs' => st.var i = some cs' ∧ ownL cs' = true
  | .le g _ cs' => st.env i = .val g cs' ∧ ownL cs' = true
  | _ => True
def Posts (st : St) (i : Nat) : List Ar → Prop
  | [] => True
  | a :: as => Post st i a ∧ Posts st (i + 1) as
theorem posts_at {st : St} : ∀ {as : List Ar} {i : Nat}, Posts st i as → ∀ j q, as[j]? = some q → Post st (i + j) q
  | [], i, _, j, q, e => by simp at e
  | a :: as, i, h, j, q, e => by
    cases j with
    | zero => simp at e; subst e; exact h.1
    | succ j => have := posts_at h.2 j q (by simpa using e); rw [show i + (j + 1) = i + 1 + j by omega]; exact this
def Fin (P : Program) (TT : Nat → Ty) (X : Fx) (as : List Ar) (rl : List ResultVar) (res : List (Bool × List C)) : Ex → St → Prop
  | .exit _, _ => False
  | _, st => ∃ st1, Rets P TT X st rl st1 res ∧ Posts st1 0 as
theorem Spec.of {facts : List (Value × C)} {f : FuncId} {fn : Func} {c : Code} {as : List Ar} {res : List (Bool × List C)} (hf : P.funcs[f]? = some fn) (hname : (fn.name == "runtime.NumGoroutine") = false) (hb : fn.body = some c) (hlen : as.length ≤ fn.ntmps)
    (h : ∀ X : Fx, X.n = fn.ntmps → (∀ d, d < fn.ntmps → leAt as d = false → X.ok d) → (∀ d, as.length ≤ d → X.io d = none) → (∀ x c, (x, c) ∈ facts → repC X.w0 (Z0 X.w0 X.F) c x []) →
      AW P X c (Fin P TT X as fn.results.toList res) (st0 as)) : Spec P facts f as res := by
  refine ⟨⟨fn, c, hf, hname, hb⟩, fun W qs hql hin hsep hfa => ?_⟩
  let fixv : Nat → Option Value := fun t => match as[t]?, qs[t]? with
    | some (.le _ _ _), some q => some q.v
    | _, _ => none
  let iov : Nat → Option (Nat × List Value × List Value × TypeId) := fun t => match as[t]?, qs[t]? with
    | some (.io _ _), some q => some (q.b, q.pre, q.post, q.T)
    | _, _ => none
  let X : Fx := { w0 := W, F := foot qs, n := fn.ntmps, fix := fixv, io := iov }
  let bl : Rt → List Nat := fun r => match r with
    | .var t => match as[t]?, qs[t]? with
      | some (.io _ _), some q => q.bs
      | _, _ => []
    | .slot t => match as[t]?, qs[t]? with
      | some (.io _ _), _ => []
      | some _, some q => q.bs
      | _, _ => []
    | .hand _ => []
  let g : Gh := { us := fun r => match r with | .var t => (match qs[t]? with | some q => q.us | none => []) | .slot t => (match qs[t]? with | some q => q.us | none => []) | .hand _ => [], ad := fun t => match qs[t]? with | some q => q.b | none => 0, pre := fun t => match qs[t]? with | some q => q.pre | none => [], post := fun t => match qs[t]? with | some q => q.post | none => [], bl := bl }
  let a : Act := { tmps := (qs.map (·.v)).toArray ++ Array.replicate (fn.ntmps - (qs.map (·.v)).toArray.size) undef, defers := [] }
  have hq : ∀ (t : Nat) (q0 : Ar), as[t]? = some q0 → ∃ q, qs[t]? = some q := by
    intro t q0 e
    have : t < qs.length := by
      obtain ⟨h, _⟩ := List.getElem?_eq_some_iff.1 e; omega
    exact ⟨_, List.getElem?_eq_getElem this⟩
  have htm : ∀ (t : Nat) (q : Ag), qs[t]? = some q → a.tmps.getD t undef = q.v := by
    intro t q e
    obtain ⟨hlt, _⟩ := List.getElem?_eq_some_iff.1 e
    simp only [a, Array.getD_eq_getD_getElem?]
    rw [Array.getElem?_append_left (by simpa using hlt)]
    simp [e]
  have hblq : ∀ (r : Rt) (b : Nat), b ∈ bl r → ∃ (t : Nat) (q : Ag), qs[t]? = some q ∧ b ∈ q.bs ∧ (r = .var t ∨ r = .slot t) ∧ (r = .var t → ∃ c c', as[t]? = some (.io c c')) ∧ (r = .slot t → ∀ c c', as[t]? ≠ some (.io c c')) := by
    intro r b hb
    cases r with
    | var t =>
      simp only [bl] at hb
      split at hb
      · rename_i c c' q e1 e2
        exact ⟨t, q, e2, hb, .inl rfl, fun _ => ⟨c, c', e1⟩, fun e => by cases e⟩
      · cases hb
    | slot t =>
      simp only [bl] at hb
      split at hb
      · cases hb
      · rename_i q hn e1 e2
        exact ⟨t, q, e2, hb, .inr rfl, (fun e => by cases e), fun _ c c' e => hn c c' (by rw [e1] at e; exact Option.some.inj e)⟩
      · cases hb
    | hand i => cases hb
  have hbsq : ∀ (t : Nat) (q : Ag), qs[t]? = some q → (qs.map (·.bs)).getD t [] = q.bs := by
    intro t q e
    rw [List.getD_eq_getElem?_getD, List.getElem?_map, e]; rfl
  have hfoot : ∀ (t : Nat) (q : Ag) (b : Nat), qs[t]? = some q → b ∈ q.bs → b ∈ foot qs := fun t q b e hb => mem_flat.2 ⟨t, by rw [hbsq t q e]; exact hb⟩
  have hone : ∀ (r r' : Rt) (t : Nat), (r = .var t ∨ r = .slot t) → (r' = .var t ∨ r' = .slot t) → (r = .var t → ∃ c c', as[t]? = some (.io c c')) → (r = .slot t → ∀ c c', as[t]? ≠ some (.io c c')) → (r' = .var t → ∃ c c', as[t]? = some (.io c c')) → (r' = .slot t → ∀ c c', as[t]? ≠ some (.io c c')) → r = r' := by
    rintro r r' t (rfl | rfl) (rfl | rfl) h1 h2 h3 h4
    · rfl
    · obtain ⟨c, c', e⟩ := h1 rfl; exact absurd e (h4 rfl c c')
    · obtain ⟨c, c', e⟩ := h3 rfl; exact absurd e (h2 rfl c c')
    · rfl
  have hown : Own X.F X.w0.heap.size W.heap.size bl := by
    refine ⟨fun r => ?_, fun r r' b hb hb' => ?_, fun r b hb => ?_⟩
    · cases r with
      | var t =>
        simp only [bl]
        split
        · rename_i c c' q e1 e2; rw [← hbsq t q e2]; exact hsep.1 t
        · exact List.nodup_nil
      | slot t =>
        simp only [bl]
        split
        · exact List.nodup_nil
        · rename_i q hn e1 e2; rw [← hbsq t q e2]; exact hsep.1 t
        · exact List.nodup_nil
      | hand i => exact List.nodup_nil
    · obtain ⟨t, q, e, hbq, h1, h2, h3⟩ := hblq r b hb
      obtain ⟨t', q', e', hbq', h1', h2', h3'⟩ := hblq r' b hb'
      have := hsep.2.1 t t' b (by rw [hbsq t q e]; exact hbq) (by rw [hbsq t' q' e']; exact hbq')
      subst this
      exact hone r r' t h1 h1' h2 h3 h2' h3'
    · obtain ⟨t, q, e, hbq, _⟩ := hblq r b hb
      exact ⟨.inl (hfoot t q b e hbq), hsep.2.2 t b (by rw [hbsq t q e]; exact hbq)⟩
  have hconc : Conc X (st0 as) W a g := by
    refine ⟨Keeps.refl _ _, ?_, ⟨rfl, fun t v hv => ?_⟩, fun t cs hc => ?_, fun t => ?_, hown⟩
    · simp [a, X]; omega
    · simp only [X, fixv] at hv
      split at hv
      · rename_i q e1 e2
        injection hv with hv; subst hv
        exact htm t q e2
      · cases hv
    · simp only [st0] at hc
      split at hc
      · rename_i c c' e
        injection hc with hc; subst hc
        obtain ⟨q, eq⟩ := hq t _ e
        obtain ⟨h1, arr, b0, h2, h3, h4, h5⟩ := hin t _ q e eq
        refine ⟨arr, q.T, b0, by simpa [g, eq] using h2, by simpa [g, eq] using h3, by simpa [g, bl, eq, e] using h4, ?_, fun x hx => ?_⟩
        · simp only [g, eq]; exact repL_Z h5
        · simp only [X, iov, e, eq, Option.some.injEq] at hx
          subst hx; simp [g, eq]
      · cases hc
    · cases e : as[t]? with
      | none => simp only [st0, e]; trivial
      | some q0 =>
        obtain ⟨q, eq⟩ := hq t _ e
        have hI := hin t _ q e eq
        rw [htm t q eq]
        cases q0 with
        | ro gg cs =>
          simp only [st0, e, g, eq, bl]
          exact ⟨hI.1, hI.2.1, by rw [hI.2.2.2]; exact hI.2.2.1⟩
        | mv gg cs =>
          simp only [st0, e, g, eq, bl]
          exact ⟨hI.1, hI.2.1, repL_Z hI.2.2⟩
        | le gg cs cs' =>
          simp only [st0, e, g, eq, bl]
          exact ⟨hI.1, hI.2.1, repL_Z hI.2.2⟩
        | io cs cs' =>
          simp only [st0, e]
          refine ⟨(fun t e => by cases e), fun c hc _ => ⟨q.b, q.pre.length, q.us, ?_, hI.1⟩⟩
          simp [Gh.rsv, rsv, Gh.at_, g, eq]
  have hR : R X (st0 as) W a := ⟨g, hconc, fun i => rfl⟩
  have hAW := h X rfl (fun d hd hl => ⟨hd, by
      simp only [X, fixv]
      split
      · rename_i q e1 e2; simp [leAt, e1] at hl
      · rfl⟩) (fun d hd => by simp [X, iov, List.getElem?_eq_none hd]) hfa W a hR
  refine calls_of_wp hf hb (Code.wp_mono (fun e a' w' q => ?_) hAW)
  have hfin : ∀ st, (∃ st1, Rets P TT X st fn.results.toList st1 res ∧ Posts st1 0 as) → R X st w' a' → a'.defers = [] ∧ ∃ v, (results fn a'.tmps).run P w' = .ok v w' ∧ ∃ (vs : List Value) (rb : List Nat) (os : List (List Value × List Nat)), Ending.returned v = .returned (resV vs) ∧ Keeps (foot qs) W w' ∧ tupOK w' NoZ res vs rb ∧ os.length = as.length ∧
      (∀ (i : Nat) (a : Ar) (q : Ag) (o : List Value × List Nat), as[i]? = some a → qs[i]? = some q → os[i]? = some o → ArOut w' a q o.1 o.2) ∧ Sep w'.heap.size (rb :: os.map (·.2)) ∧ ∀ i b, b ∈ (rb :: os.map (·.2)).getD i [] → b ∈ foot qs ∨ W.heap.size ≤ b := by
    rintro st ⟨st1, hrets, hposts⟩ ⟨g1, hc1, hh1⟩
    obtain ⟨g2, vs, rb, hc2, ht, hnd, hrb, _, hrun⟩ := rets_ok hrets 0 hc1 (fun j _ => hh1 j)
    refine ⟨hc2.defers.1, resV vs, ?_, vs, rb, ?_⟩
    · unfold results
      rw [← Array.toArray_toList (xs := fn.results), List.mapM_toArray]
      simp only [Sem.run_bind, Sem.run_map]
      rw [hrun]
      · cases vs with
        | nil => rfl
        | cons v vs => cases vs with
          | nil => rfl
          | cons v' vs => simp [resV]
      · intro u; rfl
      · intro p t; rfl
    · let out : Nat → List Value × List Nat := fun i => match as[i]? with
        | some (.io _ _) => (g2.us (.var i), g2.bl (.var i))
        | some (.le _ _ _) => ([], g2.bl (.slot i))
        | _ => ([], [])
      let rf : Nat → Rt := fun i => match as[i]? with
        | some (.io _ _) => .var i
        | _ => .slot i
      have hrf : ∀ i j, rf i = rf j → i = j := by
        intro i j hij
        simp only [rf] at hij
        split at hij <;> split at hij <;> injection hij
      have hrh : ∀ i j, rf i ≠ .hand j := by
        intro i j hij
        simp only [rf] at hij
        split at hij <;> cases hij
      have hout : ∀ i b, b ∈ (out i).2 → b ∈ g2.bl (rf i) := by
        intro i b hb
        simp only [out] at hb
        simp only [rf]
        split at hb
        · rename_i e; simp only [e]; exact hb
        · rename_i e; simp only [e]; exact hb
        · cases hb
      have hond : ∀ i, ((out i).2).Nodup := by
        intro i
        simp only [out]
        split
        · exact hc2.own.nd _
        · exact hc2.own.nd _
        · exact List.nodup_nil
      have hos : ∀ i, ((List.range as.length).map out)[i]? = if i < as.length then some (out i) else none := by
        intro i
        by_cases hi : i < as.length
        · simp [hi]
        · simp [hi]
      have hget : ∀ k b, b ∈ (rb :: ((List.range as.length).map out).map (·.2)).getD k [] → (k = 0 ∧ b ∈ rb) ∨ ∃ i, k = i + 1 ∧ b ∈ (out i).2 := by
        intro k b hb
        cases k with
        | zero => exact .inl ⟨rfl, hb⟩
        | succ k =>
          rw [List.getD_cons_succ, List.getD_eq_getElem?_getD, List.getElem?_map, hos] at hb
          split at hb
          · exact .inr ⟨k, rfl, hb⟩
          · cases hb
      refine ⟨(List.range as.length).map out, rfl, hc2.keeps, ht, by simp, fun i q0 q o e1 e2 e3 => ?_, ⟨fun k => ?_, fun k k' b hb hb' => ?_, fun k b hb => ?_⟩, fun k b hb => ?_⟩
      · rw [hos] at e3
        split at e3
        · injection e3 with e3; subst e3
          have hp := posts_at hposts i q0 e1
          rw [Nat.zero_add] at hp
          cases q0 with
          | ro _ _ => simp [ArOut, out, e1]
          | mv _ _ => simp [ArOut, out, e1]
          | io c c' =>
            obtain ⟨hv, ho⟩ := hp
            obtain ⟨arr, T, ob, k1, k2, k3, k4, k5⟩ := hc2.var i c' hv
            have := k5 (q.b, q.pre, q.post, q.T) (by simp [X, iov, e1, e2])
            simp only [Prod.mk.injEq] at this
            obtain ⟨j1, j2, j3, j4⟩ := this
            simp only [ArOut, out, e1]
            exact ⟨arr, ob, by rw [j1, j4]; exact k1, by rw [j2, j3]; exact k2, by rw [j1]; exact k3, repL_own c' k4 ho⟩
          | le gg c c' =>
            obtain ⟨hv, ho⟩ := hp
            have henv := hc2.env i
            rw [hv] at henv
            obtain ⟨k1, k2, k3⟩ := henv
            have hI := hin i _ q e1 e2
            have hx := hc2.defers.2 i q.v (by simp [X, fixv, e1, e2])
            have l1 := repL_len k3
            have l2 := repL_len hI.2.2
            have : g2.us (.slot i) = q.us := pack_inj (g := gg) (by rw [← k1, hx, hI.1]) (fun hf => by rw [l1]; exact k2 hf) (fun hf => by rw [l2]; exact hI.2.1 hf)
            simp only [ArOut, out, e1]
            rw [← this]
            exact repL_own c' k3 ho
        · cases e3
      · cases k with
        | zero => exact hnd
        | succ k =>
          rw [List.getD_cons_succ, List.getD_eq_getElem?_getD, List.getElem?_map, hos]
          split
          · exact hond k
          · exact List.nodup_nil
      · rcases hget k b hb with ⟨rfl, h1⟩ | ⟨i, rfl, h1⟩ <;> rcases hget k' b hb' with ⟨rfl, h2⟩ | ⟨i', rfl, h2⟩
        · rfl
        · obtain ⟨j, _, hj⟩ := hrb b h1
          exact absurd (hc2.own.dj _ _ _ (hout i' b h2) hj) (hrh i' j)
        · obtain ⟨j, _, hj⟩ := hrb b h2
          exact absurd (hc2.own.dj _ _ _ (hout i b h1) hj) (hrh i j)
        · rw [hrf i i' (hc2.own.dj _ _ _ (hout i b h1) (hout i' b h2))]
      · rcases hget k b hb with ⟨rfl, h1⟩ | ⟨i, rfl, h1⟩
        · obtain ⟨j, _, hj⟩ := hrb b h1
          exact (hc2.own.ok _ _ hj).2
        · exact (hc2.own.ok _ _ (hout i b h1)).2
      · rcases hget k b hb with ⟨rfl, h1⟩ | ⟨i, rfl, h1⟩
        · obtain ⟨j, _, hj⟩ := hrb b h1
          exact (hc2.own.ok _ _ hj).1
        · exact (hc2.own.ok _ _ (hout i b h1)).1
  cases e with
  | normal => obtain ⟨st, h1, h2⟩ := q; exact hfin st h1 h2
  | ret => obtain ⟨st, h1, h2⟩ := q; exact hfin st h1 h2
  | exit id => obtain ⟨st, h1, h2⟩ := q; exact h1.elim
  | goto l => exact q.elim
  | panic ch => exact q.elim
  | outgrown => exact q.elim
end Go.Lvm
