/- Lemmas of the by-value machine and of the data that the contracts speak of: each holds under the hypotheses that it states. -/
import Derived.Test.YtmfdechkhdjebaaLvm24
set_option linter.unusedVariables false
set_option linter.unusedSimpArgs false
namespace Go.Lvm
variable {P : Program} {TT : Nat → Ty} {X : Fx} {E : Ev} {st st' : St} {o : Oper} {d : Nat} {ops : Array Oper} {Q : Ex → St → Prop}
/-! ### Drawn regions, item by item -/
/-- Whether j is behind i's back, by steps. -/
def ancB (ops : Array Oper) : Nat → Nat → Nat → Bool
  | 0, _, _ => false
  | n + 1, i, j => match ops[i]? with
    | some o => (o.after.toList.any fun e => Region.binds .any e && e.on == j) || o.after.toList.any fun e => Region.binds .any e && ancB ops n e.on j
    | none => false
def sufT (ops : Array Oper) (k : Nat) : Bool := (List.range ops.size).all fun i => decide (i < k) || (List.range i).all fun j => ancB ops ops.size i j
def Closed (ops : Array Oper) (listed : Array Bool) : Prop := ∀ (i : Nat) (o : Oper), ops[i]? = some o → listed.getD i false = true → ∀ e ∈ o.after.toList, Region.binds .any e = true → listed.getD e.on false = true
theorem anc_listed {listed : Array Bool} (hc : Closed ops listed) : ∀ (n i j : Nat), ancB ops n i j = true → (∀ o, ops[i]? = some o → ∀ e ∈ o.after.toList, Region.binds .any e = true → listed.getD e.on false = true) → listed.getD j false = true
  | 0, i, j, h, _ => by simp [ancB] at h
  | n + 1, i, j, h, hi => by
    simp only [ancB] at h
    split at h
    · rename_i o ho
      simp only [Bool.or_eq_true, List.any_eq_true, Bool.and_eq_true, beq_iff_eq] at h
      rcases h with ⟨e, h1, h2, h3⟩ | ⟨e, h1, h2, h3⟩
      · rw [← h3]; exact hi o ho e h1 h2
      · have := hi o ho e h1 h2
        exact anc_listed hc n e.on j h3 (fun o' ho' e' h1' h2' => hc e.on o' ho' this e' h1' h2')
    · cases h
theorem sufT_of {k : Nat} (hsf : sufT ops k = true) {listed : Array Bool} (hc : Closed ops listed) : ∀ (i : Nat), i ∈ Region.ready .any ops listed → k ≤ i → ∀ j, j < i → listed.getD j false = true := by
  intro i hi hk j hj
  obtain ⟨o, ho, h2, h3⟩ := (ready_mem i).1 hi
  simp only [sufT, List.all_eq_true, List.mem_range, Bool.or_eq_true, decide_eq_true_eq] at hsf
  have hlt : i < ops.size := by
    rcases Nat.lt_or_ge i ops.size with h | h
    · exact h
    · simp [Array.getElem?_eq_none h] at ho
  rcases hsf i hlt with h | h
  · omega
  · exact anc_listed hc _ i j (h j hj) (fun o' ho' e h1 h2 => by rw [ho] at ho'; cases ho'; exact h3 e h1 h2)
theorem Closed.set {listed : Array Bool} (hc : Closed ops listed) {i : Nat} (hi : i ∈ Region.ready .any ops listed) (hs : listed.size = ops.size) : Closed ops (listed.setIfInBounds i true) := by
  obtain ⟨o, ho, h2, h3⟩ := (ready_mem i).1 hi
  have hmono : ∀ j, listed.getD j false = true → (listed.setIfInBounds i true).getD j false = true := by
    intro j hj
    simp only [Array.getD_eq_getD_getElem?, Array.getElem?_setIfInBounds]
    by_cases h : i = j
    · subst h
      split
      · split <;> simp_all
      · simp_all
    · rw [if_neg h]; simpa [Array.getD_eq_getD_getElem?] using hj
  intro j o' ho' hj e he hb
  by_cases h : i = j
  · subst h
    rw [ho] at ho'; cases ho'
    exact hmono _ (h3 e he hb)
  · refine hmono _ (hc j o' ho' ?_ e he hb)
    simp only [Array.getD_eq_getD_getElem?, Array.getElem?_setIfInBounds] at hj
    rw [if_neg h] at hj
    simpa [Array.getD_eq_getD_getElem?] using hj
def backC (ops : List Oper) : Bool := (List.range ops.length).all fun i => match ops[i]? with
  | some o => o.after.toList.all fun e => !Region.binds .any e || decide (e.on < i)
  | none => true
theorem backC_of (hbk : backC ops.toList = true) : ∀ (i : Nat) (o : Oper), ops[i]? = some o → ∀ e ∈ o.after.toList, Region.binds .any e = true → e.on < i := by
  intro i o ho e he hb
  simp only [backC, List.all_eq_true, List.mem_range] at hbk
  have hlt : i < ops.toList.length := by
    rcases Nat.lt_or_ge i ops.size with h | h
    · simpa using h
    · simp [Array.getElem?_eq_none h] at ho
  have := hbk i hlt
  rw [show ops.toList[i]? = some o by simpa using ho] at this
  simp only [List.all_eq_true] at this
  have := this e he
  rw [hb] at this
  simpa using this
theorem suffix_anyT {Q : Exit → Act → World → Prop} {k : Nat} (hbk : backC ops.toList = true) (hsf : sufT ops k = true) : ∀ (n m : Nat) (listed : Array Bool) (a : Act) (w : World), k ≤ m → m + n = ops.size → listed.size = ops.size → Closed ops listed → (∀ i, i < ops.size → listed.getD i false = decide (i < m)) →
    wpList P ops Q (ops.toList.drop m) a w → wpAny P .any ops Q n listed a w := by
  have hb := backC_of hbk
  intro n
  induction n with
  | zero =>
    intro m listed a w hk hmn hsz hcl hl hw
    have hrd : Region.ready .any ops listed = [] := by
      apply List.eq_nil_iff_forall_not_mem.2
      intro i hi
      obtain ⟨o, ho, h2, _⟩ := (ready_mem i).1 hi
      have hlt : i < ops.size := by
        rcases Nat.lt_or_ge i ops.size with h | h
        · exact h
        · simp [Array.getElem?_eq_none h] at ho
      have := hl i hlt
      rw [getD_lt (by omega)] at h2 this
      rw [h2] at this
      simp at this; omega
    refine ⟨hrd, ?_⟩
    rw [List.drop_of_length_le (by simp; omega)] at hw
    exact hw
  | succ n ih =>
    intro m listed a w hk hmn hsz hcl hl hw
    have hm : m < ops.size := by omega
    have hom : ops[m]? = some ops[m] := Array.getElem?_eq_getElem hm
    have hdrop : ops.toList.drop m = ops[m] :: ops.toList.drop (m + 1) := by
      rw [List.drop_eq_getElem_cons (by simpa using hm)]; simp
    have hmem : m ∈ Region.ready .any ops listed := by
      refine (ready_mem m).2 ⟨_, hom, ?_, fun e he hbe => ?_⟩
      · have := hl m hm
        rw [getD_lt (by omega)] at this ⊢
        rw [this]; simp
      · have := hb m _ hom e he hbe
        rw [hl e.on (by omega)]; simpa using this
    refine ⟨(fun h => by rw [h] at hmem; cases hmem), fun i hi => ?_⟩
    have him : i = m := by
      obtain ⟨o, ho, h2, h3⟩ := (ready_mem i).1 hi
      have hlt : i < ops.size := by
        rcases Nat.lt_or_ge i ops.size with h | h
        · exact h
        · simp [Array.getElem?_eq_none h] at ho
      have hge : m ≤ i := by
        have := hl i hlt
        rw [getD_lt (by omega)] at h2 this
        rw [h2] at this
        simp at this; omega
      refine Classical.byContradiction fun hne => ?_
      have := sufT_of hsf hcl i hi (by omega) m (by omega)
      rw [hl m hm] at this
      simp at this
    have hcl' := hcl.set hi hsz
    subst him
    rw [hdrop] at hw
    have hstep : wpOp P ops Q i (wpList P ops Q (ops.toList.drop (i + 1))) a w := by
      unfold wpOp
      rw [hom]
      exact hw
    refine wpOp_mono (fun a' w' h => ih (i + 1) _ a' w' (by omega) (by omega) (by simpa using hsz) hcl' (fun j hj => ?_) h) hstep
    have hset : (listed.setIfInBounds i true).getD j false = if i = j then true else listed.getD j false := by
      simp only [Array.getD_eq_getD_getElem?, Array.getElem?_setIfInBounds]
      by_cases h : i = j
      · subst h; simp [show i < listed.size by omega]
      · simp [h]
    rw [hset, hl j hj]
    by_cases h : i = j
    · subst h; simp
    · rw [if_neg h, decide_eq_decide]
      omega
def ClosedS (ops : Array Oper) (S : Nat → Bool) : Prop := ∀ (i : Nat) (o : Oper), ops[i]? = some o → S i = true → ∀ e ∈ o.after.toList, Region.binds .any e = true → S e.on = true
def DrawsC (P : Program) (X : Fx) (ops : Array Oper) (st : (Nat → Bool) → St) : Nat → List Oper → Prop
  | _, [] => True
  | i, o :: l => (∀ S, ClosedS ops S → S i = false → bef o S → OpDo P X ops i (st S) (st (upd S i))) ∧ DrawsC P X ops st (i + 1) l
theorem drawsC_at {st : (Nat → Bool) → St} : ∀ {l : List Oper} {k : Nat}, DrawsC P X ops st k l → ∀ j o, l[j]? = some o → ∀ S, ClosedS ops S → S (k + j) = false → bef o S → OpDo P X ops (k + j) (st S) (st (upd S (k + j)))
  | [], k, _, j, o, e => by simp at e
  | q :: l, k, h, j, o, e => by
    cases j with
    | zero => simp at e; subst e; exact h.1
    | succ j => have := drawsC_at h.2 j o (by simpa using e); rw [show k + (j + 1) = k + 1 + j by omega]; exact this
theorem AW.drawnT (hm : P.follows .mixedOrders = true) {id : Nat} {st0 : St} (k : Nat) (st : (Nat → Bool) → St) (hk : k ≤ ops.size) (hbk : backC ops.toList = true) (hsf : sufT ops k = true) (h0 : Wk X st0 (st fun _ => false)) (hs : DrawsC P X ops st 0 (ops.toList.take k))
    (hw : Wk X (st fun i => decide (i < k)) st') (hq : AO P X ops (ops.toList.drop k) Q st') : AW P X (.region id ops true) Q st0 := by
  intro w a hr
  refine wp_region_any hm ?_
  have hr0 : R X (st fun _ => false) { w with drawn := w.drawn + 1 } a := by
    obtain ⟨g, h, hh⟩ := h0 w a hr
    refine ⟨g, h.world ?_ (Nat.le_refl _) (fun _ _ _ _ => rfl), hh⟩
    exact h.keeps.trans (Keeps.drew X.F w) (fun x hx => .inl hx)
  have hb := backC_of hbk
  have key : ∀ (fuel : Nat) (listed : Array Bool) (a : Act) (w : World), listed.size = ops.size → cnt listed ops.size = fuel → Closed ops listed → (∀ i, k ≤ i → listed.getD i false = false) → R X (st fun i => listed.getD i false) w a → wpAny P .any ops (QR X Q) fuel listed a w := by
    have hall : ∀ (fuel : Nat) (listed : Array Bool) (a : Act) (w : World), listed.size = ops.size → cnt listed ops.size = fuel → Closed ops listed → (∀ i, k ≤ i → listed.getD i false = false) → (∀ i, i < k → listed.getD i false = true) → R X (st fun i => listed.getD i false) w a → wpAny P .any ops (QR X Q) fuel listed a w := by
      intro fuel listed a w hsz hc hcl h1 h2 hr
      have heq : (fun i => listed.getD i false) = fun i => decide (i < k) := by
        funext i
        by_cases h : i < k
        · rw [h2 i h]; simp [h]
        · rw [h1 i (by omega)]; simp [h]
      rw [heq] at hr
      refine suffix_anyT hbk hsf fuel k listed a w (Nat.le_refl _) ?_ hsz hcl (fun i _ => congrFun heq i) (hq w a (hw w a hr))
      rw [← hc]
      have : ∀ n, k ≤ n → n ≤ ops.size → k + cnt listed n = n := by
        intro n
        induction n with
        | zero => intro h _; simp [cnt]; omega
        | succ n ih =>
          intro hkn hno
          by_cases hk' : k ≤ n
          · have := ih hk' (by omega)
            have h3 := h1 n hk'
            rw [getD_lt (by omega)] at h3
            unfold cnt at this ⊢
            rw [List.range_succ, List.countP_append, List.countP_singleton, getD_lt (by omega), h3]
            simp only [Bool.not_false, if_true]
            omega
          · have hkk : k = n + 1 := by omega
            subst hkk
            have : cnt listed (n + 1) = 0 := by
              unfold cnt
              rw [List.countP_eq_zero]
              intro i hi
              simp only [List.mem_range] at hi
              have := h2 i (by omega)
              rw [getD_lt (by omega)] at this ⊢
              simp [this]
            omega
      exact this ops.size hk (Nat.le_refl _)
    intro fuel
    induction fuel with
    | zero =>
      intro listed a w hsz hc hcl h1 hr
      refine hall 0 listed a w hsz hc hcl h1 (fun i hi => ?_) hr
      unfold cnt at hc
      rw [List.countP_eq_zero] at hc
      have := hc i (by simp; omega)
      rw [getD_lt (by omega)] at this ⊢
      simpa using this
    | succ fuel ih =>
      intro listed a w hsz hc hcl h1 hr
      by_cases hdone : ∀ i, i < k → listed.getD i false = true
      · exact hall _ listed a w hsz hc hcl h1 hdone hr
      · have hex : ∃ i, i < k ∧ listed.getD i false = false := by
          refine Classical.byContradiction fun hn => hdone fun i hi => ?_
          cases h : listed.getD i false with
          | true => rfl
          | false => exact absurd ⟨i, hi, h⟩ hn
        have hlow : ∀ i, i ∈ Region.ready .any ops listed → i < k := by
          intro i hi
          refine Classical.byContradiction fun hge => ?_
          obtain ⟨j, hj, hjf⟩ := hex
          have := sufT_of hsf hcl i hi (by omega) j (by omega)
          rw [hjf] at this; cases this
        refine ⟨fun hrd => ?_, fun i hi => ?_⟩
        · exfalso
          apply hdone
          intro i
          induction i using Nat.strongRecOn with
          | _ i ihi =>
            intro hi
            refine Classical.byContradiction fun hn => ?_
            have ho : ops[i]? = some ops[i] := Array.getElem?_eq_getElem (by omega)
            have hmem : i ∈ Region.ready .any ops listed := by
              refine (ready_mem i).2 ⟨_, ho, ?_, fun e he hbe => ?_⟩
              · rw [getD_lt (by omega)] at hn ⊢
                simpa using hn
              · have := hb i _ ho e he hbe
                exact ihi e.on this (by omega)
            rw [hrd] at hmem; cases hmem
        · have hik := hlow i hi
          obtain ⟨o, ho, h2, h3⟩ := (ready_mem i).1 hi
          have hgf : listed.getD i false = false := by
            rw [getD_lt (by omega)] at h2 ⊢; exact h2
          have hdo := drawsC_at hs i o (by rw [List.getElem?_take, if_pos hik]; simpa using ho) (fun j => listed.getD j false) hcl (by simpa using hgf) (fun e he hbi => h3 e he hbi)
          rw [Nat.zero_add] at hdo
          refine hdo _ w a hr _ fun w' a' hr' => ih _ a' w' (by simpa using hsz) ?_ (hcl.set hi hsz) (fun j hj => ?_) ?_
          · have := cnt_set listed i (by omega) h2 ops.size
            rw [if_pos (by omega)] at this
            omega
          · simp only [Array.getD_eq_getD_getElem?, Array.getElem?_setIfInBounds]
            have hne : ¬ i = j := by omega
            rw [if_neg hne]
            simpa [Array.getD_eq_getD_getElem?] using h1 j hj
          · have : (fun j => (listed.setIfInBounds i true).getD j false) = upd (fun j => listed.getD j false) i := by
              funext j
              simp only [upd, Array.getD_eq_getD_getElem?, Array.getElem?_setIfInBounds]
              by_cases h : i = j
              · subst h; simp [show i < listed.size by omega]
              · have h' : ¬ j = i := fun e => h e.symm
                simp [h, h']
            rw [this]; exact hr'
  have hff : ∀ i, (Array.replicate ops.size false).getD i false = false := by
    intro i
    simp only [Array.getD_eq_getD_getElem?, Array.getElem?_replicate]
    split <;> rfl
  refine key ops.size _ a _ (by simp) ?_ (fun i o ho hi => by rw [hff] at hi; cases hi) (fun i hi => hff i) ?_
  · unfold cnt
    rw [List.countP_eq_length.2]
    · simp
    · intro i hi
      simp only [List.mem_range] at hi
      simp [Array.getD_eq_getD_getElem?, Array.getElem?_replicate, hi]
  · have : (fun i => (Array.replicate ops.size false).getD i false) = fun _ => false := funext hff
    rw [this]; exact hr0
/-- What one operation yields (in any order): its place, what stands there, what it makes of its sources, a new variable. -/
structure DI where
  d : Nat
  l : L
  cs : List (Nat × L) := []
  b : Option (List C) := none
  u : List (Nat × List C) := []
def setVs : List (Nat × List C) → St → St
  | [], st => st
  | q :: ts, st => setVs ts ((st.setRoot (.var q.1) q.2).touch (.var q.1))
def setCs : List (Nat × L) → St → St
  | [], st => st
  | q :: ts, st => setCs ts (st.put q.1 q.2)
def DI.res (q : DI) (st : St) : St := match q.b with
  | none => (setVs q.u (setCs q.cs st)).put q.d q.l
  | some c => (setCs q.cs st).born q.d c
def dU (S : Nat → Bool) : Nat → List DI → (Nat → Option (List C)) → Nat → Option (List C)
  | _, [], f, t => f t
  | i, q :: r, f, t => match lkv q.u t with
    | some l => if S i = true then some l else dU S (i + 1) r f t
    | none => dU S (i + 1) r f t
def dE (S : Nat → Bool) : Nat → List DI → (Nat → L) → Nat → L
  | _, [], f, t => f t
  | i, q :: r, f, t => if q.d = t then (if S i = true then q.l else .dead) else dE S (i + 1) r f t
def lkC : List (Nat × L) → Nat → Option L
  | [], _ => none
  | q :: r, t => if q.1 = t then some q.2 else lkC r t
def dC (S : Nat → Bool) : Nat → List DI → (Nat → L) → Nat → L
  | _, [], f, t => f t
  | i, q :: r, f, t => match lkC q.cs t with
    | some l => if S i = true then l else dC S (i + 1) r f t
    | none => dC S (i + 1) r f t
def dV (S : Nat → Bool) : Nat → List DI → (Nat → Option (List C)) → Nat → Option (List C)
  | _, [], f, t => f t
  | i, q :: r, f, t => match q.b with
    | some c => if q.d = t then (if S i = true then some c else none) else dV S (i + 1) r f t
    | none => dV S (i + 1) r f t
def famS (e : List (Nat × L)) (v : List (Nat × List C)) (its : List DI) (S : Nat → Bool) : St :=
  ⟨fun t => dC S 0 its (dE S 0 its (lk e)) t, fun t => dU S 0 its (dV S 0 its (lkv v)) t⟩
section
variable (e : List (Nat × L)) (v : List (Nat × List C)) (its : List DI) (S : Nat → Bool)
theorem famS_env (t : Nat) : (famS e v its S).env t = dC S 0 its (dE S 0 its (lk e)) t := rfl
theorem famS_var (t : Nat) : (famS e v its S).var t = dU S 0 its (dV S 0 its (lkv v)) t := rfl
theorem famS_cv (t : Nat) : (famS e v its S).cells (.var t) = dU S 0 its (dV S 0 its (lkv v)) t := rfl
theorem famS_cs (t : Nat) : (famS e v its S).cells (.slot t) = (dC S 0 its (dE S 0 its (lk e)) t).cells := rfl
end
theorem put_env (st : St) (d : Nat) (l : L) (t : Nat) : (st.put d l).env t = if t = d then l else (st.env t).kill (.slot d) := rfl
theorem put_var (st : St) (d : Nat) (l : L) (t : Nat) : (st.put d l).var t = st.var t := rfl
theorem put_cv (st : St) (d : Nat) (l : L) (t : Nat) : (st.put d l).cells (.var t) = st.cells (.var t) := rfl
theorem put_cs (st : St) (d : Nat) (l : L) (t : Nat) : (st.put d l).cells (.slot t) = (if t = d then l else (st.env t).kill (.slot d)).cells := rfl
/-- No view leans on q's places. -/
def sepL (q : DI) (l : L) : Prop := l.base ≠ some (.slot q.d) ∧ (q.b ≠ none → l.base ≠ some (.var q.d)) ∧ (∀ c ∈ q.cs, l.base ≠ some (.slot c.1)) ∧ ∀ c ∈ q.u, l.touch (.var c.1) = l
def sepE (q : DI) (e : List (Nat × L)) : Prop := ∀ p ∈ e, lkC q.cs p.1 = none → sepL q p.2
def sepI (q : DI) (e : List DI) : Prop := ∀ p ∈ e, lkC q.cs p.d = none → sepL q p.l
def noC (q p : DI) : Prop := (∀ c ∈ q.cs, lkC p.cs c.1 = none) ∧ ∀ c ∈ q.u, lkv p.u c.1 = none
def ndU : List (Nat × List C) → Prop
  | [] => True
  | c :: r => lkv r c.1 = none ∧ ndU r
def ndC : List (Nat × L) → Prop
  | [] => True
  | c :: r => lkC r c.1 = none ∧ ndC r
def famOK (all : List (Nat × L)) : List DI → List DI → Prop
  | _, [] => True
  | pre, q :: r => (sepE q all ∧ sepI q pre ∧ sepI q r) ∧ (∀ p ∈ r, p.d ≠ q.d) ∧ (∀ c, q.b = some c → q.l = .ptr (.var q.d) 0 []) ∧ (lkC q.cs q.d = none ∧ ndC q.cs ∧ (∀ c ∈ q.cs, c.2.base = none) ∧ ndU q.u ∧ (q.b ≠ none → q.u = [])) ∧ (∀ p ∈ pre ++ r, noC q p) ∧ famOK all (pre ++ [q]) r
theorem kill_of {l : L} {r : Rt} (h : l.base ≠ some r) : l.kill r = l := by unfold L.kill; rw [if_neg h]
theorem lkC_mem : ∀ {cs : List (Nat × L)} {t : Nat} {l : L}, lkC cs t = some l → (t, l) ∈ cs
  | [], t, l, h => by simp [lkC] at h
  | c :: r, t, l, h => by
    simp only [lkC] at h
    split at h
    · rename_i e; injection h with h; subst h; subst e; simp
    · simp [lkC_mem h]
theorem lkC_none : ∀ {cs : List (Nat × L)} {t : Nat}, lkC cs t = none → ∀ c ∈ cs, c.1 ≠ t
  | [], t, h, c, hc => by simp at hc
  | q :: r, t, h, c, hc => by
    simp only [lkC] at h
    split at h
    · cases h
    · rename_i e
      rcases List.mem_cons.1 hc with rfl | hc
      · exact e
      · exact lkC_none h c hc
theorem setCs_env : ∀ (ts : List (Nat × L)) (st : St) (t : Nat), ndC ts → (∀ c ∈ ts, c.2.base = none) → (∀ l, lkC ts t = some l → (setCs ts st).env t = l) ∧ (lkC ts t = none → (∀ c ∈ ts, (st.env t).base ≠ some (.slot c.1)) → (setCs ts st).env t = st.env t)
  | [], st, t, _, _ => ⟨fun l h => by simp [lkC] at h, fun _ _ => rfl⟩
  | c :: ts, st, t, hn, hb => by
    have ih := setCs_env ts (st.put c.1 c.2) t hn.2 (fun c' hc' => hb c' (by simp [hc']))
    refine ⟨fun l h => ?_, fun h hbb => ?_⟩
    · simp only [lkC] at h
      split at h
      · rename_i e
        injection h with h
        subst h; subst e
        have : (st.put c.1 c.2).env c.1 = c.2 := by simp [St.put]
        show (setCs ts (st.put c.1 c.2)).env c.1 = c.2
        rw [ih.2 hn.1 (fun c' hc' => by rw [this, hb c (by simp)]; simp), this]
      · exact ih.1 l h
    · have htc : ¬ c.1 = t := by
        intro e
        simp [lkC, e] at h
      have : (st.put c.1 c.2).env t = st.env t := by
        simp only [St.put, if_neg (Ne.symm htc)]
        exact kill_of (hbb c (by simp))
      show (setCs ts (st.put c.1 c.2)).env t = st.env t
      simp only [lkC, if_neg htc] at h
      rw [ih.2 h (fun c' hc' => by rw [this]; exact hbb c' (by simp [hc'])), this]
theorem setCs_var : ∀ (ts : List (Nat × L)) (st : St) (t : Nat), (setCs ts st).var t = st.var t
  | [], st, t => rfl
  | c :: ts, st, t => setCs_var ts (st.put c.1 c.2) t
theorem setVs_env : ∀ (ts : List (Nat × List C)) (st : St) (t : Nat), (∀ c ∈ ts, (st.env t).touch (.var c.1) = st.env t) → (setVs ts st).env t = st.env t
  | [], st, t, _ => rfl
  | c :: ts, st, t, h => by
    have h1 : ((st.setRoot (.var c.1) c.2).touch (.var c.1)).env t = st.env t := by
      show (st.env t).touch (.var c.1) = st.env t
      exact h c (by simp)
    show (setVs ts ((st.setRoot (.var c.1) c.2).touch (.var c.1))).env t = st.env t
    rw [setVs_env ts _ t (fun c' hc' => by rw [h1]; exact h c' (by simp [hc'])), h1]
theorem lkv_mem' : ∀ {cs : List (Nat × List C)} {t : Nat} {l : List C}, lkv cs t = some l → (t, l) ∈ cs
  | [], t, l, h => by simp [lkv] at h
  | (a, c) :: r, t, l, h => by
    simp only [lkv] at h
    split at h
    · rename_i e; injection h with h; subst h; subst e; simp
    · simp [lkv_mem' h]
theorem setVs_var : ∀ (ts : List (Nat × List C)) (st : St) (t : Nat), ndU ts → (setVs ts st).var t = match lkv ts t with | some c => some c | none => st.var t
  | [], st, t, _ => rfl
  | c :: ts, st, t, hn => by
    have h1 : ((st.setRoot (.var c.1) c.2).touch (.var c.1)).var t = if t = c.1 then some c.2 else st.var t := rfl
    show (setVs ts ((st.setRoot (.var c.1) c.2).touch (.var c.1))).var t = _
    rw [setVs_var ts _ t hn.2, h1]
    by_cases h : t = c.1
    · subst h
      rw [hn.1]; simp [lkv]
    · have h' : ¬ c.1 = t := fun e => h e.symm
      simp only [lkv, if_neg h, if_neg h']
theorem upd_ne {S : Nat → Bool} {i j : Nat} (h : j ≠ i) : upd S i j = S j := by simp [upd, h]
theorem upd_eq {S : Nat → Bool} {i : Nat} : upd S i i = true := by simp [upd]
theorem dE_upd {S : Nat → Bool} {f : Nat → L} {t : Nat} : ∀ (its : List DI) (n i : Nat), (∀ q, its[i]? = some q → q.d ≠ t) → dE (upd S (n + i)) n its f t = dE S n its f t
  | [], n, i, h => rfl
  | q :: r, n, i, h => by
    simp only [dE]
    cases i with
    | zero =>
      have : q.d ≠ t := h q rfl
      rw [if_neg this, if_neg this]
      have key : ∀ (r : List DI) (m : Nat), n < m → dE (upd S (n + 0)) m r f t = dE S m r f t := by
        intro r
        induction r with
        | nil => intro m _; rfl
        | cons p r ih => intro m hm; simp only [dE, upd_ne (show m ≠ n + 0 by omega), ih (m + 1) (by omega)]
      exact key r (n + 1) (by omega)
    | succ i =>
      rw [upd_ne (show n ≠ n + (i + 1) by omega), show n + (i + 1) = n + 1 + i by omega, dE_upd r (n + 1) i (fun q hq => h q (by simpa using hq))]
theorem dE_at {S : Nat → Bool} {f : Nat → L} {q : DI} : ∀ (its : List DI) (n i : Nat), its[i]? = some q → (∀ j p, j < i → its[j]? = some p → p.d ≠ q.d) → dE S n its f q.d = if S (n + i) = true then q.l else .dead
  | [], n, i, h, _ => by simp at h
  | p :: r, n, i, h, hd => by
    simp only [dE]
    cases i with
    | zero => simp at h; subst h; simp
    | succ i =>
      rw [if_neg (hd 0 p (by omega) rfl), dE_at r (n + 1) i (by simpa using h) (fun j p' hj hp => hd (j + 1) p' (by omega) (by simpa using hp)), show n + (i + 1) = n + 1 + i by omega]
theorem dE_mem {S : Nat → Bool} {f : Nat → L} {t : Nat} : ∀ (its : List DI) (n : Nat), dE S n its f t = .dead ∨ (∃ (j : Nat) (p : DI), its[j]? = some p ∧ p.d = t ∧ S (n + j) = true ∧ dE S n its f t = p.l) ∨ dE S n its f t = f t
  | [], n => .inr (.inr rfl)
  | q :: r, n => by
    simp only [dE]
    by_cases h : q.d = t
    · rw [if_pos h]
      by_cases hs : S n = true
      · rw [if_pos hs]; exact .inr (.inl ⟨0, q, rfl, h, hs, rfl⟩)
      · rw [if_neg hs]; exact .inl rfl
    · rw [if_neg h]
      rcases dE_mem (S := S) (f := f) (t := t) r (n + 1) with h1 | ⟨j, p, h1, h2, h3, h4⟩ | h1
      · exact .inl h1
      · exact .inr (.inl ⟨j + 1, p, by simpa using h1, h2, by rw [show n + (j + 1) = n + 1 + j by omega]; exact h3, h4⟩)
      · exact .inr (.inr h1)
/-- Where q's operation takes nothing of t. -/
theorem dC_upd {S : Nat → Bool} {f g : Nat → L} {t : Nat} : ∀ (its : List DI) (n i : Nat), (∀ q, its[i]? = some q → lkC q.cs t = none) → f t = g t → dC (upd S (n + i)) n its f t = dC S n its g t
  | [], n, i, h, hf => hf
  | q :: r, n, i, h, hf => by
    cases i with
    | zero =>
      have key : ∀ (r : List DI) (m : Nat), n < m → dC (upd S n) m r f t = dC S m r g t := by
        intro r
        induction r with
        | nil => intro m _; exact hf
        | cons p r ih => intro m hm; simp only [dC, upd_ne (show m ≠ n by omega), ih (m + 1) (by omega)]
      rw [show n + 0 = n from rfl]
      simp only [dC, h q rfl, key r (n + 1) (by omega)]
    | succ i =>
      have ih := dC_upd (S := S) (f := f) (g := g) (t := t) r (n + 1) i (fun q hq => h q (by simpa using hq)) hf
      rw [show n + (i + 1) = n + 1 + i by omega]
      simp only [dC, upd_ne (show n ≠ n + 1 + i by omega), ih]
theorem dC_at {S : Nat → Bool} {f : Nat → L} {t : Nat} {l : L} : ∀ (its : List DI) (n i : Nat) {q : DI}, its[i]? = some q → lkC q.cs t = some l → (∀ j p, j ≠ i → its[j]? = some p → lkC p.cs t = none) → S (n + i) = true → dC S n its f t = l
  | [], n, i, q, h, _, _, _ => by simp at h
  | p :: r, n, i, q, h, hl, hd, hS => by
    cases i with
    | zero =>
      simp at h; subst h
      simp only [dC, hl]
      rw [if_pos (by simpa using hS)]
    | succ i =>
      have h1 := hd 0 p (by omega) rfl
      simp only [dC, h1]
      exact dC_at r (n + 1) i (by simpa using h) hl (fun j p' hj hp => hd (j + 1) p' (by omega) (by simpa using hp)) (by rw [show n + 1 + i = n + (i + 1) by omega]; exact hS)
theorem dC_mem {S : Nat → Bool} {f : Nat → L} {t : Nat} : ∀ (its : List DI) (n : Nat), dC S n its f t = f t ∨ ∃ (j : Nat) (p : DI) (l : L), its[j]? = some p ∧ (t, l) ∈ p.cs ∧ dC S n its f t = l
  | [], n => .inl rfl
  | q :: r, n => by
    have key : dC S (n + 1) r f t = f t ∨ ∃ (j : Nat) (p : DI) (l : L), (q :: r)[j]? = some p ∧ (t, l) ∈ p.cs ∧ dC S (n + 1) r f t = l := by
      rcases dC_mem (S := S) (f := f) (t := t) r (n + 1) with h | ⟨j, p, l, h1, h2, h3⟩
      · exact .inl h
      · exact .inr ⟨j + 1, p, l, by simpa using h1, h2, h3⟩
    simp only [dC]
    split
    · rename_i l hl
      split
      · exact .inr ⟨0, q, l, rfl, lkC_mem hl, rfl⟩
      · exact key
    · exact key
theorem dC_no {S : Nat → Bool} {f : Nat → L} {t : Nat} : ∀ (its : List DI) (n : Nat), (∀ j p l, its[j]? = some p → lkC p.cs t = some l → S (n + j) = false) → dC S n its f t = f t
  | [], n, h => rfl
  | q :: r, n, h => by
    have ih := dC_no (S := S) (f := f) (t := t) r (n + 1) (fun j p l h1 h2 => by rw [show n + 1 + j = n + (j + 1) by omega]; exact h (j + 1) p l (by simpa using h1) h2)
    simp only [dC]
    split
    · rename_i l hl
      rw [if_neg (by have := h 0 q l rfl hl; rw [Nat.add_zero] at this; simp [this])]
      exact ih
    · exact ih
theorem dV_upd {S : Nat → Bool} {f : Nat → Option (List C)} {t : Nat} : ∀ (its : List DI) (n i : Nat), (∀ q, its[i]? = some q → q.b = none ∨ q.d ≠ t) → dV (upd S (n + i)) n its f t = dV S n its f t
  | [], n, i, h => rfl
  | q :: r, n, i, h => by
    cases i with
    | zero =>
      rw [show n + 0 = n from rfl]
      have key : ∀ (r : List DI) (m : Nat), n < m → dV (upd S n) m r f t = dV S m r f t := by
        intro r
        induction r with
        | nil => intro m _; rfl
        | cons p r ih => intro m hm; simp only [dV, upd_ne (show m ≠ n by omega), ih (m + 1) (by omega)]
      simp only [dV, key r (n + 1) (by omega)]
      rcases h q rfl with h1 | h1
      · rw [h1]
      · cases q.b with
        | none => rfl
        | some c => simp only [if_neg h1]
    | succ i =>
      simp only [dV]
      rw [upd_ne (show n ≠ n + (i + 1) by omega), show n + (i + 1) = n + 1 + i by omega, dV_upd r (n + 1) i (fun q hq => h q (by simpa using hq))]
theorem dV_at {S : Nat → Bool} {f : Nat → Option (List C)} {q : DI} {c : List C} (hb : q.b = some c) : ∀ (its : List DI) (n i : Nat), its[i]? = some q → (∀ j p, j < i → its[j]? = some p → p.d ≠ q.d) → dV S n its f q.d = if S (n + i) = true then some c else none
  | [], n, i, h, _ => by simp at h
  | p :: r, n, i, h, hd => by
    cases i with
    | zero => simp at h; subst h; simp [dV, hb]
    | succ i =>
      have h1 := hd 0 p (by omega) rfl
      have ih := dV_at (S := S) (f := f) hb r (n + 1) i (by simpa using h) (fun j p' hj hp => hd (j + 1) p' (by omega) (by simpa using hp))
      rw [show n + (i + 1) = n + 1 + i by omega, ← ih]
      simp only [dV]
      cases p.b with
      | none => rfl
      | some c' => simp only [if_neg h1]
/-- Where q's operation writes nothing of t. -/
theorem dU_upd {S : Nat → Bool} {f g : Nat → Option (List C)} {t : Nat} : ∀ (its : List DI) (n i : Nat), (∀ q, its[i]? = some q → lkv q.u t = none) → f t = g t → dU (upd S (n + i)) n its f t = dU S n its g t
  | [], n, i, h, hf => hf
  | q :: r, n, i, h, hf => by
    cases i with
    | zero =>
      have key : ∀ (r : List DI) (m : Nat), n < m → dU (upd S n) m r f t = dU S m r g t := by
        intro r
        induction r with
        | nil => intro m _; exact hf
        | cons p r ih => intro m hm; simp only [dU, upd_ne (show m ≠ n by omega), ih (m + 1) (by omega)]
      rw [show n + 0 = n from rfl]
      simp only [dU, h q rfl, key r (n + 1) (by omega)]
    | succ i =>
      have ih := dU_upd (S := S) (f := f) (g := g) (t := t) r (n + 1) i (fun q hq => h q (by simpa using hq)) hf
      rw [show n + (i + 1) = n + 1 + i by omega]
      simp only [dU, upd_ne (show n ≠ n + 1 + i by omega), ih]
theorem dU_at {S : Nat → Bool} {f : Nat → Option (List C)} {t : Nat} {l : List C} : ∀ (its : List DI) (n i : Nat) {q : DI}, its[i]? = some q → lkv q.u t = some l → (∀ j p, j ≠ i → its[j]? = some p → lkv p.u t = none) → S (n + i) = true → dU S n its f t = some l
  | [], n, i, q, h, _, _, _ => by simp at h
  | p :: r, n, i, q, h, hl, hd, hS => by
    cases i with
    | zero =>
      simp at h; subst h
      simp only [dU, hl]
      rw [if_pos (by simpa using hS)]
    | succ i =>
      have h1 := hd 0 p (by omega) rfl
      simp only [dU, h1]
      exact dU_at r (n + 1) i (by simpa using h) hl (fun j p' hj hp => hd (j + 1) p' (by omega) (by simpa using hp)) (by rw [show n + 1 + i = n + (i + 1) by omega]; exact hS)
theorem dU_no {S : Nat → Bool} {f : Nat → Option (List C)} {t : Nat} : ∀ (its : List DI) (n : Nat), (∀ j p l, its[j]? = some p → lkv p.u t = some l → S (n + j) = false) → dU S n its f t = f t
  | [], n, h => rfl
  | q :: r, n, h => by
    have ih := dU_no (S := S) (f := f) (t := t) r (n + 1) (fun j p l h1 h2 => by rw [show n + 1 + j = n + (j + 1) by omega]; exact h (j + 1) p l (by simpa using h1) h2)
    simp only [dU]
    split
    · rename_i l hl
      rw [if_neg (by have := h 0 q l rfl hl; rw [Nat.add_zero] at this; simp [this])]
      exact ih
    · exact ih
theorem famOK_at {all : List (Nat × L)} : ∀ {its pre : List DI}, famOK all pre its → ∀ (i : Nat) (q : DI), its[i]? = some q → sepE q all ∧ (∀ p ∈ pre, (lkC q.cs p.d = none → sepL q p.l) ∧ noC q p) ∧ (∀ (j : Nat) (p : DI), j ≠ i → its[j]? = some p → (lkC q.cs p.d = none → sepL q p.l) ∧ p.d ≠ q.d ∧ noC q p) ∧ (∀ c, q.b = some c → q.l = .ptr (.var q.d) 0 []) ∧ (lkC q.cs q.d = none ∧ ndC q.cs ∧ (∀ c ∈ q.cs, c.2.base = none) ∧ ndU q.u ∧ (q.b ≠ none → q.u = []))
  | [], pre, h, i, q, e => by simp at e
  | q0 :: r, pre, h, i, q, e => by
    obtain ⟨h1, h2, h3, h4, hn, h5⟩ := h
    cases i with
    | zero =>
      simp at e; subst e
      refine ⟨h1.1, fun p hp => ⟨h1.2.1 p hp, hn p (by simp [hp])⟩, fun j p hj hp => ?_, h3, h4⟩
      cases j with
      | zero => exact absurd rfl hj
      | succ j =>
        have hm : p ∈ r := List.mem_of_getElem? (by simpa using hp)
        exact ⟨h1.2.2 p hm, h2 p hm, hn p (by simp [hm])⟩
    | succ i =>
      obtain ⟨k1, k2, k3, k4, k5⟩ := famOK_at h5 i q (by simpa using e)
      refine ⟨k1, fun p hp => k2 p (by simp [hp]), fun j p hj hp => ?_, k4, k5⟩
      cases j with
      | zero =>
        simp at hp; subst hp
        have hm : q ∈ r := List.mem_of_getElem? (by simpa using e)
        exact ⟨(k2 q0 (by simp)).1, fun e => h2 q hm e.symm, (k2 q0 (by simp)).2⟩
      | succ j => exact k3 j p (by omega) (by simpa using hp)
theorem lk_in : ∀ (e : List (Nat × L)) (t : Nat), lk e t = .dead ∨ (t, lk e t) ∈ e
  | [], t => .inl rfl
  | (a, l) :: r, t => by
    simp only [lk]
    split
    · rename_i h; right; subst h; simp
    · rcases lk_in r t with h | h
      · exact .inl h
      · right; simp [h]
def consB (ops : Array Oper) (its : List DI) : Bool := (List.range its.length).all fun j => match its[j]?, ops[j]? with
  | some p, some o => (p.cs.map (·.1) ++ p.u.map (·.1)).all fun c => (List.range its.length).all fun i => match its[i]? with
    | some q => q.d != c || o.after.toList.any fun e => Region.binds .any e && e.on == i
    | none => true
  | _, _ => false
theorem cons_of {its : List DI} (h : consB ops its = true) {S : Nat → Bool} (hc : ClosedS ops S) {i j : Nat} {p q : DI} (hi : its[i]? = some q) (hj : its[j]? = some p) (hm : q.d ∈ p.cs.map (·.1) ++ p.u.map (·.1)) (hS : S j = true) : S i = true := by
  simp only [consB, List.all_eq_true, List.mem_range] at h
  have hlj : j < its.length := (List.getElem?_eq_some_iff.1 hj).1
  have hli : i < its.length := (List.getElem?_eq_some_iff.1 hi).1
  have h1 := h j hlj
  rw [hj] at h1
  cases ho : ops[j]? with
  | none => rw [ho] at h1; simp at h1
  | some o =>
    rw [ho] at h1
    simp only [List.all_eq_true, List.mem_range] at h1
    have h2 := h1 _ hm i hli
    rw [hi] at h2
    simp only [bne_self_eq_false, Bool.false_or, List.any_eq_true, Bool.and_eq_true, beq_iff_eq] at h2
    obtain ⟨e, k1, k2, k3⟩ := h2
    rw [← k3]
    exact hc j o ho hS e k1 k2
theorem touch_base {l : L} {r : Rt} (h : l.base = none) : l.touch r = l := by cases l <;> simp [L.base] at h <;> rfl
theorem DI.wk {e : List (Nat × L)} {v : List (Nat × List C)} {its : List DI} (hok : famOK e [] its) (hcb : consB ops its = true) {i : Nat} {q : DI} (hi : its[i]? = some q) {S : Nat → Bool} (hcl : ClosedS ops S) (hS : S i = false) : Wk X (q.res (famS e v its S)) (famS e v its (upd S i)) := by
  obtain ⟨k1, _, k3, k4, k5, k6, k7, k8, k9⟩ := famOK_at hok i q hi
  have hd : ∀ j p, j < i → its[j]? = some p → p.d ≠ q.d := fun j p hj hp => (k3 j p (by omega) hp).2.1
  have hnb : ∀ l : L, l.base = none → sepL q l := fun l hl => ⟨by simp [hl], fun _ => by simp [hl], fun _ _ => by simp [hl], fun _ _ => touch_base hl⟩
  have hbase : ∀ t, t ≠ q.d → lkC q.cs t = none → sepL q ((famS e v its S).env t) := by
    intro t ht htc
    rw [famS_env]
    rcases dC_mem (S := S) (f := dE S 0 its (lk e)) (t := t) its 0 with h | ⟨j, p, l, h1, h2, h3⟩
    · rw [h]
      rcases dE_mem (S := S) (f := lk e) (t := t) its 0 with h | ⟨j, p, h1, h2, h3, h4⟩ | h
      · rw [h]; exact hnb _ rfl
      · rw [h4]
        have hji : j ≠ i := by rintro rfl; rw [Nat.zero_add, hS] at h3; cases h3
        exact (k3 j p hji h1).1 (by rw [h2]; exact htc)
      · rw [h]
        rcases lk_in e t with h | h
        · rw [h]; exact hnb _ rfl
        · exact k1 _ h htc
    · rw [h3]
      exact hnb _ ((famOK_at hok j p h1).2.2.2.2.2.2.1 _ h2)
  have hset : ∀ t, t ≠ q.d → lkC q.cs t = none → (setCs q.cs (famS e v its S)).env t = (famS e v its S).env t := fun t ht htc => (setCs_env q.cs _ t k6 k7).2 htc (hbase t ht htc).2.2.1
  have hset2 : ∀ t, t ≠ q.d → lkC q.cs t = none → (setVs q.u (setCs q.cs (famS e v its S))).env t = (famS e v its S).env t := fun t ht htc => by
    rw [setVs_env _ _ t (fun c hc => by rw [hset t ht htc]; exact (hbase t ht htc).2.2.2 c hc), hset t ht htc]
  refine Wk.of (fun t => ?_) (fun t => ?_)
  · cases htc : lkC q.cs t with
    | some l =>
      right
      have hmem := lkC_mem htc
      have htd : t ≠ q.d := by rintro rfl; rw [k5] at htc; cases htc
      have hone : ∀ j p, j ≠ i → its[j]? = some p → lkC p.cs t = none := fun j p hj hp => (k3 j p hj hp).2.2.1 _ hmem
      rw [famS_env, dC_at its 0 i hi htc hone (by rw [Nat.zero_add]; exact upd_eq)]
      have hl := k7 _ hmem
      unfold DI.res
      cases hb : q.b with
      | none =>
        have h5 := (setCs_env q.cs (famS e v its S) t k6 k7).1 l htc
        have h6 : (setVs q.u (setCs q.cs (famS e v its S))).env t = l := by rw [setVs_env _ _ t (fun c hc => by rw [h5]; exact touch_base hl), h5]
        simp only [St.put, if_neg htd, h6]; exact (kill_of (by simp [hl])).symm
      | some c =>
        simp only [St.born, if_neg htd, (setCs_env q.cs _ t k6 k7).1 l htc]
        rw [kill_of (l := l) (by simp [hl]), kill_of (l := l) (by simp [hl])]
    | none =>
      by_cases ht : t = q.d
      · subst ht
        have h2 : dE (upd S i) 0 its (lk e) q.d = q.l := by rw [dE_at its 0 i hi hd, Nat.zero_add, upd_eq, if_pos rfl]
        have h : dC (upd S i) 0 its (dE (upd S i) 0 its (lk e)) q.d = dE (upd S i) 0 its (lk e) q.d := by
          refine dC_no its 0 fun j p l h1 h3 => ?_
          rw [Nat.zero_add]
          have hm := lkC_mem h3
          have hji : j ≠ i := by
            rintro rfl
            rw [hi] at h1; cases h1
            rw [k5] at h3; cases h3
          rw [upd_ne hji]
          cases hSj : S j with
          | false => rfl
          | true =>
            have := cons_of hcb hcl hi h1 (by simp only [List.mem_append, List.mem_map]; exact .inl ⟨_, hm, rfl⟩) hSj
            rw [hS] at this; cases this
        right
        rw [famS_env, h, h2]
        unfold DI.res
        cases hb : q.b with
        | none => simp [St.put]
        | some c => rw [k4 c hb]; simp [St.born]
      · right
        have h1 : dE (upd S i) 0 its (lk e) t = dE S 0 its (lk e) t := by
          rw [show i = 0 + i by omega]
          exact dE_upd its 0 i (fun p hp => by rw [hi] at hp; cases hp; exact fun e => ht e.symm)
        have h2 : dC (upd S i) 0 its (dE (upd S i) 0 its (lk e)) t = dC S 0 its (dE S 0 its (lk e)) t := by
          have := dC_upd (S := S) (f := dE (upd S i) 0 its (lk e)) (g := dE S 0 its (lk e)) (t := t) its 0 i (fun p hp => by rw [hi] at hp; cases hp; exact htc) h1
          rw [Nat.zero_add] at this; exact this
        rw [famS_env, h2, ← famS_env e v its S t]
        unfold DI.res
        cases hb : q.b with
        | none =>
          simp only [St.put, if_neg ht, hset2 t ht htc]
          exact (kill_of (hbase t ht htc).1).symm
        | some c =>
          simp only [St.born, if_neg ht, hset t ht htc]
          rw [kill_of (hbase t ht htc).1, kill_of ((hbase t ht htc).2.1 (by rw [hb]; simp))]
  · right
    rw [famS_var]
    cases hb : q.b with
    | none =>
      have h1 : dV (upd S i) 0 its (lkv v) t = dV S 0 its (lkv v) t := by
        rw [show i = 0 + i by omega]
        exact dV_upd its 0 i (fun p hp => by rw [hi] at hp; cases hp; exact .inl hb)
      have h5 : (q.res (famS e v its S)).var t = match lkv q.u t with | some c => some c | none => (famS e v its S).var t := by
        simp only [DI.res, hb, St.put, setVs_var _ _ _ k8, setCs_var]
      rw [h5]
      cases hu : lkv q.u t with
      | some c =>
        have hmem := lkv_mem' hu
        exact dU_at its 0 i hi hu (fun j p hj hp => (k3 j p hj hp).2.2.2 _ hmem) (by rw [Nat.zero_add]; exact upd_eq)
      | none =>
        have := dU_upd (S := S) (f := dV (upd S i) 0 its (lkv v)) (g := dV S 0 its (lkv v)) (t := t) its 0 i (fun p hp => by rw [hi] at hp; cases hp; exact hu) h1
        rw [Nat.zero_add] at this; exact this
    | some c =>
      have hu0 : q.u = [] := k9 (by rw [hb]; simp)
      by_cases ht : q.d = t
      · subst ht
        have h2 : dU (upd S i) 0 its (dV (upd S i) 0 its (lkv v)) q.d = dV (upd S i) 0 its (lkv v) q.d := by
          refine dU_no its 0 fun j p l h1 h3 => ?_
          rw [Nat.zero_add]
          have hm := lkv_mem' h3
          have hji : j ≠ i := by
            rintro rfl
            rw [hi] at h1; cases h1
            rw [hu0] at h3; simp [lkv] at h3
          rw [upd_ne hji]
          cases hSj : S j with
          | false => rfl
          | true =>
            have := cons_of hcb hcl hi h1 (by simp only [List.mem_append, List.mem_map]; exact .inr ⟨_, hm, rfl⟩) hSj
            rw [hS] at this; cases this
        rw [h2, dV_at hb its 0 i hi hd, Nat.zero_add, upd_eq, if_pos rfl]
        simp [DI.res, hb, St.born]
      · have h1 : dV (upd S i) 0 its (lkv v) t = dV S 0 its (lkv v) t := by
          rw [show i = 0 + i by omega]
          exact dV_upd its 0 i (fun p hp => by rw [hi] at hp; cases hp; exact .inr ht)
        have h2 := dU_upd (S := S) (f := dV (upd S i) 0 its (lkv v)) (g := dV S 0 its (lkv v)) (t := t) its 0 i (fun p hp => by rw [hi] at hp; cases hp; rw [hu0]; rfl) h1
        rw [Nat.zero_add] at h2
        rw [h2]
        simp only [DI.res, hb, St.born, if_neg (Ne.symm ht), setCs_var]; rfl
def dirB (ops : Array Oper) (j i : Nat) : Bool := match ops[j]? with
  | some o => o.after.toList.any fun e => Region.binds .any e && e.on == i
  | none => false
theorem dir_of {S : Nat → Bool} (hc : ClosedS ops S) {i : Nat} (hS : S i = false) (j : Nat) (h : dirB ops j i = true) : S j = false := by
  unfold dirB at h
  split at h
  · rename_i o ho
    simp only [List.any_eq_true, Bool.and_eq_true, beq_iff_eq] at h
    obtain ⟨e, h1, h2, h3⟩ := h
    cases hj : S j with
    | false => rfl
    | true =>
      have := hc j o ho hj e h1 h2
      rw [h3, hS] at this; cases this
  · cases h
/-- Each item is what its operation does. -/
def DrawI (P : Program) (X : Fx) (ops : Array Oper) (st : (Nat → Bool) → St) : Nat → List Oper → List DI → Prop
  | _, [], its => its = []
  | i, o :: l, q :: its => (∀ S, S i = false → bef o S → (∀ j, dirB ops j i = true → S j = false) → OpDo P X ops i (st S) (q.res (st S))) ∧ DrawI P X ops st (i + 1) l its
  | _, _ :: _, [] => False
theorem DrawI.draws {e : List (Nat × L)} {v : List (Nat × List C)} {its0 : List DI} (hok : famOK e [] its0) (hcb : consB ops its0 = true) : ∀ {l : List Oper} {its : List DI} {n : Nat}, (∀ i q, its[i]? = some q → its0[n + i]? = some q) → DrawI P X ops (famS e v its0) n l its → DrawsC P X ops (famS e v its0) n l
  | [], its, n, _, _ => trivial
  | o :: l, [], n, _, h => h.elim
  | o :: l, q :: its, n, hsub, h => by
    refine ⟨fun S hcl hS hb => (h.1 S hS hb (dir_of hcl hS)).wk (DI.wk hok hcb (hsub 0 q rfl) hcl hS), DrawI.draws hok hcb (fun i p hp => ?_) h.2⟩
    rw [show n + 1 + i = n + (i + 1) by omega]; exact hsub (i + 1) p (by simpa using hp)
/-- The family's end, as lists. -/
theorem famS_mk {e : List (Nat × L)} {v : List (Nat × List C)} {its : List DI} {S : Nat → Bool} (ks vs : List Nat) : Wk X (famS e v its S) (mk (ks.map fun t => (t, dC S 0 its (dE S 0 its (lk e)) t)) (vs.filterMap fun t => (dU S 0 its (dV S 0 its (lkv v)) t).map fun c => (t, c))) := by
  have h1 : ∀ (ks : List Nat) (f : Nat → L) (t : Nat), lk (ks.map fun t => (t, f t)) t = .dead ∨ lk (ks.map fun t => (t, f t)) t = f t := by
    intro ks f t
    induction ks with
    | nil => exact .inl rfl
    | cons a ks ih =>
      simp only [List.map_cons, lk]
      split
      · rename_i h; subst h; exact .inr rfl
      · exact ih
  have h2 : ∀ (vs : List Nat) (f : Nat → Option (List C)) (t : Nat), lkv (vs.filterMap fun t => (f t).map fun c => (t, c)) t = none ∨ lkv (vs.filterMap fun t => (f t).map fun c => (t, c)) t = f t := by
    intro vs f t
    induction vs with
    | nil => exact .inl rfl
    | cons a vs ih =>
      cases hf : f a with
      | none => simp only [List.filterMap_cons, hf, Option.map_none]; exact ih
      | some c =>
        simp only [List.filterMap_cons, hf, Option.map_some, lkv]
        split
        · rename_i h; subst h; exact .inr hf.symm
        · exact ih
  exact Wk.of (fun t => h1 ks _ t) (fun t => h2 vs _ t)
theorem AW.drawnI (hm : P.follows .mixedOrders = true) {id : Nat} {st0 : St} (k : Nat) (ks vs ks2 vs2 : List Nat) {e : List (Nat × L)} {v : List (Nat × List C)} (its : List DI) (h0 : some (keep ks vs st0) = some (mk e v)) (hk : k ≤ ops.size) (hbk : backC ops.toList = true) (hsf : sufT ops k = true)
    (hcb : consB ops its = true) (hs : DrawI P X ops (famS e v its) 0 (ops.toList.take k) its) (hok : famOK e [] its) (hd : ∀ q ∈ its, lk e q.d = .dead ∧ lkv v q.d = none) (hw : some (mk (ks2.map fun t => (t, dC (fun i => decide (i < k)) 0 its (dE (fun i => decide (i < k)) 0 its (lk e)) t)) (vs2.filterMap fun t => (dU (fun i => decide (i < k)) 0 its (dV (fun i => decide (i < k)) 0 its (lkv v)) t).map fun c => (t, c))) = some st') (hq : AO P X ops (ops.toList.drop k) Q st') : AW P X (.region id ops true) Q st0 := by
  injection h0 with h0
  injection hw with hw; subst hw
  refine AW.drawnT hm k (famS e v its) hk hbk hsf ?_ (DrawI.draws hok hcb (fun i q h => by simpa using h) hs) (famS_mk ks2 vs2) hq
  have : Wk X (mk e v) (famS e v its fun _ => false) := by
    refine Wk.of (fun t => ?_) (fun t => ?_)
    · rw [famS_env, dC_no its 0 (fun _ _ _ _ _ => rfl)]
      · rcases dE_mem (S := fun _ => false) (f := lk e) (t := t) its 0 with h | ⟨j, p, _, _, h3, _⟩ | h
        · exact .inl h
        · cases h3
        · exact .inr h
    · rw [famS_var, dU_no its 0 (fun _ _ _ _ _ => rfl)]
      have : ∀ (its : List DI) (n : Nat), (∀ q ∈ its, lkv v q.d = none) → dV (fun _ => false) n its (lkv v) t = lkv v t := by
        intro its
        induction its with
        | nil => intro n _; rfl
        | cons q r ih =>
          intro n hq
          simp only [dV]
          cases q.b with
          | none => exact ih (n + 1) (fun p hp => hq p (by simp [hp]))
          | some c =>
            simp only
            split
            · rename_i h; rw [← h, hq q (by simp)]; simp
            · exact ih (n + 1) (fun p hp => hq p (by simp [hp]))
      exact .inr (this its 0 (fun q hq => (hd q hq).2))
  intro w a hr
  exact this w a (h0 ▸ Wk.keep ks vs w a hr)
theorem OpDo.runI (hT : Tab P TT) (hE : E.ok X) {i : Nat} (ho : ops[i]? = some o) (hg : o.guard = none) (h : stepF TT E st o = some st') : OpDo P X ops i st st' := OpDo.step ho hg (stepF_ok hT hE h)
theorem OpDo.callRI (hE : E.ok X) {i : Nat} {facts : List (Value × C)} {f : FuncId} {as : List Ar} {res : List (Bool × List C)} {xs : Array Operand} {ats : Array TypeId} {d t : Nat} {s : String} {af : Array Edge}
    (hS : Spec P facts f as res) (ho : ops[i]? = some { dst := some d, op := .call { callee := .value (.func f), args := xs, argTypes := ats }, type := t, pos := s, after := af, guard := none }) (hd : E.dst d = true) (hr : ros st as xs.toList) (hfa : ∀ x c, (x, c) ∈ facts → repC X.w0 (Z0 X.w0 X.F) c x []) : OpDo P X ops i st (st.put d (resL res)) :=
  OpDo.step ho rfl (Step.callR hE hS hd hr hfa)
theorem OpDo.callRD (hE : E.ok X) {i : Nat} {facts : List (Value × C)} {f : FuncId} {as : List Ar} {res : List (Bool × List C)} {xs : Array Operand} {ats : Array TypeId} {d t : Nat} {s : String} {af : Array Edge}
    (hS : Spec P facts f as res) (ho : ops[i]? = some { dst := some d, op := .call { callee := .value (.func f), args := xs, argTypes := ats }, type := t, pos := s, after := af, guard := none }) (hd : E.dst d = true) (hr : ros st as xs.toList) (hfa : ∀ x c, (x, c) ∈ facts → repC X.w0 (Z0 X.w0 X.F) c x []) {q : L} (hq : q = resL res) : OpDo P X ops i st (DI.res { d := d, l := q } st) := by
  subst hq; exact OpDo.callRI hE hS ho hd hr hfa
/-- A tuple's component that bears no memory of its own: read off. -/
theorem extractS_does {t i : Nat} {ls : List (Bool × List C)} {gg : Bool} {cs : List C} (ho : o.op = .extract (.tmp t) i) (he : st.env t = .tup ls) (hi : ls[i]? = some (gg, cs)) (hs : cs.all isSt = true) (hd : o.dst = some d) (hlt : X.ok d) : Does P X o st (st.put d (.val gg cs)) := by
  intro w a ⟨g, h, hh⟩
  left
  have henv := h.env t
  rw [he] at henv
  obtain ⟨vs, hv, htup⟩ := henv
  have key : ∀ {ls : List (Bool × List C)} {vs : List Value} {bs : List Nat} (i : Nat), tupOK w (Z0 X.w0 X.F) ls vs bs → ls[i]? = some (gg, cs) → ∃ us, vs[i]? = some (pack gg us) ∧ (gg = false → cs.length = 1) ∧ repL w (Z0 X.w0 X.F) cs us [] := by
    intro ls
    induction ls with
    | nil => intro vs bs i h e; simp at e
    | cons q ls ih =>
      intro vs bs i h e
      obtain ⟨g0, c0⟩ := q
      obtain ⟨us, vs', b1, b2, rfl, h1, rfl, h2, h3⟩ := h
      cases i with
      | zero =>
        simp only [List.getElem?_cons_zero, Option.some.injEq, Prod.mk.injEq] at e
        obtain ⟨rfl, rfl⟩ := e
        have hb := repL_st h2 hs
        subst hb
        exact ⟨us, by simp, h1, h2⟩
      | succ i =>
        obtain ⟨us1, k1, k2, k3⟩ := ih i h3 (by simpa using e)
        exact ⟨us1, by simpa using k1, k2, k3⟩
  obtain ⟨us, k1, k2, k4⟩ := key i htup hi
  refine ⟨pack gg us, w, ?_, ?_⟩
  · show (execOp a.eval o).run P w = _
    simp only [execOp, ho, Act.eval, hv]
    have : (Instr.extract (.tuple vs.toArray) i).run P w = .ok (pack gg us) w := by
      simp [Instr.extract, k1]
    rw [Sem.run_bind, this]; rfl
  · rw [hd]; exact R.putL h hh hlt (us := us) (by simp [L.base]) ⟨rfl, k2, k4⟩
def exE (st : St) (t i : Nat) : Option (Bool × List C) := match st.env t with
  | .tup ls => ls[i]?
  | _ => none
theorem OpDo.extractS (hE : E.ok X) {j t i d ty : Nat} {s : String} {af : Array Edge} {p : Bool × List C} (ho : ops[j]? = some { dst := some d, op := .extract (.tmp t) i, type := ty, pos := s, after := af, guard := none }) (hd : E.dst d = true) (he : exE st t i = some p) (hs : p.2.all isSt = true) {q : L} (hq : q = .val p.1 p.2) : OpDo P X ops j st (DI.res { d := d, l := q } st) := by
  subst hq
  unfold exE at he
  split at he
  · rename_i ls hls
    obtain ⟨gg, cs⟩ := p
    exact OpDo.step ho rfl (Does.step (extractS_does rfl hls he hs rfl (Ev.dst_ok hE hd)))
  · cases he
theorem Conc.putHandT {w : World} {a : Act} {g : Gh} (h : Conc X st w a g) {d : Nat} (hd : X.ok d) (i : Nat) {ls : List (Bool × List C)} {vs : List Value}
    (hr : tupOK w (Z0 X.w0 X.F) ls vs (g.bl (.hand i))) : ∃ g', Conc X (st.put d (.tup ls)) w (a.put (some d) (.tuple vs.toArray)) g' ∧ (g'.bl (.hand i) = []) ∧ (∀ j, j ≠ i → g'.bl (.hand j) = g.bl (.hand j)) := by
  refine ⟨_, h.put hd.1 (.tup ls) (.tuple vs.toArray) (.inl hd.2) [] (g.ungive d i) (fun r hr1 hr2 => by simp [Gh.ungive, hr2, hr1 i]) ?_ ⟨vs, rfl, by simpa [Gh.ungive] using hr⟩, by simp [Gh.put, Gh.ungive], fun j hj => by simp [Gh.put, Gh.ungive, hj]⟩
  refine Own.step h.own (Nat.le_refl _) h.keeps.size (.slot d) (fun r => ?_) (fun r b hr hb => ?_) (fun b hb => ?_)
  · unfold Gh.ungive
    split
    · exact h.own.nd _
    · split
      · exact List.nodup_nil
      · exact h.own.nd r
  · unfold Gh.ungive at hb
    rw [if_neg hr] at hb
    split at hb
    · cases hb
    · exact hb
  · simp only [Gh.ungive, if_true] at hb
    exact .inr (.inl ⟨.hand i, hb, by simp [Gh.ungive]⟩)
/-- A tuple is moved. -/
theorem moveT_does {t : Nat} {ls : List (Bool × List C)} (ho : o.op = .move (.tmp t)) (he : st.env t = .tup ls) (ht : t < X.n) (hd : o.dst = some d) (hlt : X.ok d) : Does P X o st ((st.put t .dead).put d (.tup ls)) := by
  intro w a ⟨g, h, hh⟩
  left
  have henv := h.env t
  rw [he] at henv
  obtain ⟨vs, hv, htup⟩ := henv
  have hown := Own.give h.own h.keeps.size (r := .slot t) (i := 0) (l := []) (b := g.bl (.slot t)) (by simp) (by simpa using h.own.nd (.slot t)) (fun x hx => by simpa using hx)
  have h1 := h.put ht .dead (a.tmps.getD t undef) (.inr rfl) (g.us (.slot t)) (g.give (.slot t) [] 0 (g.bl (.slot t))) (fun r hr hr' => by simp [Gh.give, hr', hr 0]) hown trivial
  rw [put_self h.tmps ht] at h1
  obtain ⟨g2, h2, e1, e2⟩ := h1.putHandT hlt 0 (ls := ls) (vs := vs) (by simpa [Gh.put, Gh.give] using htup)
  refine ⟨a.eval (.tmp t), w, ?_, ?_⟩
  · simp only [execOp, ho]; rfl
  · rw [hd]
    simp only [Act.eval, hv]
    refine ⟨g2, h2, fun j => ?_⟩
    by_cases hj : j = 0
    · subst hj; exact e1
    · rw [e2 j hj]; simp [Gh.put, Gh.give, hj]; exact hh j
def mvT (E : Ev) (st : St) (t : Nat) (ls : List (Bool × List C)) : Prop := match st.env t with
  | .tup ls' => ls' = ls ∧ t < E.n
  | _ => False
theorem OpDo.moveT (hE : E.ok X) {j t d ty : Nat} {s : String} {af : Array Edge} {ls : List (Bool × List C)} (ho : ops[j]? = some { dst := some d, op := .move (.tmp t), type := ty, pos := s, after := af, guard := none }) (hd : E.dst d = true) (he : mvT E st t ls) {q : L} (hq : q = .tup ls) : OpDo P X ops j st (DI.res { d := d, l := q, cs := [(t, .dead)] } st) := by
  subst hq
  unfold mvT at he
  split at he
  · rename_i ls' hls
    obtain ⟨rfl, ht⟩ := he
    exact OpDo.step ho rfl (Does.step (moveT_does rfl hls (by rw [hE.1]; exact ht) rfl (Ev.dst_ok hE hd)))
  · exact he.elim
theorem AO.moveT (hE : E.ok X) {l : List Oper} {t d ty : Nat} {s : String} {af : Array Edge} {ls : List (Bool × List C)} (hd : E.dst d = true) (he : mvT E st t ls) (h : AO P X ops l Q ((st.put t .dead).put d (.tup ls))) : AO P X ops ({ dst := some d, op := .move (.tmp t), type := ty, pos := s, after := af, guard := none } :: l) Q st := by
  unfold mvT at he
  split at he
  · rename_i ls' hls
    obtain ⟨rfl, ht⟩ := he
    exact AO.step rfl (Does.step (moveT_does rfl hls (by rw [hE.1]; exact ht) rfl (Ev.dst_ok hE hd))) h
  · exact he.elim
/-- Less is known of some temporaries; of variables the same. -/
def Rel (a b : St) : Prop := (∀ t, b.env t = .dead ∨ b.env t = a.env t) ∧ ∀ t, b.var t = a.var t
theorem Rel.refl (a : St) : Rel a a := ⟨fun _ => .inr rfl, fun _ => rfl⟩
theorem Rel.dead {a b : St} (h : Rel a b) (d : Nat) : Rel a (b.put d .dead) := by
  refine ⟨fun t => ?_, h.2⟩
  simp only [St.put]
  split
  · exact .inl rfl
  · unfold L.kill
    split
    · exact .inl rfl
    · exact h.1 t
theorem Rel.vs : ∀ (u : List (Nat × List C)) {a b : St}, Rel a b → Rel (setVs u a) (setVs u b)
  | [], a, b, h => h
  | c :: u, a, b, h => by
    refine Rel.vs u ⟨fun t => ?_, fun t => ?_⟩
    · show (b.env t).touch _ = .dead ∨ (b.env t).touch _ = (a.env t).touch _
      rcases h.1 t with e | e
      · rw [e]; exact .inl rfl
      · rw [e]; exact .inr rfl
    · show (if t = c.1 then some c.2 else b.var t) = if t = c.1 then some c.2 else a.var t
      rw [h.2 t]
def deads (l : List Nat) : List (Nat × L) := l.map fun t => (t, .dead)
theorem Rel.cs : ∀ (l : List Nat) {a b : St}, Rel a b → Rel a (setCs (deads l) b)
  | [], a, b, h => h
  | t :: l, a, b, h => Rel.cs l (h.dead t)
theorem setCs_app : ∀ (x y : List (Nat × L)) (st : St), setCs (x ++ y) st = setCs y (setCs x st)
  | [], y, st => rfl
  | c :: x, y, st => setCs_app x y (st.put c.1 c.2)
/-- A store, in any order: where it stands in the family, 'd' is a place that nobody uses; views of what is written are given up (x). -/
theorem OpDo.storeI (hT : Tab P TT) (hE : E.ok X) {i : Nat} {q : DI} {st1 : St} (c1 : List (Nat × L)) (x : List Nat) (ho : ops[i]? = some o) (hg : o.guard = none) (h : stepF TT E st o = some st1) (hb : q.b = none) (hl : q.l = .dead) (hc : q.cs = c1 ++ deads x) (hs : st1 = setVs q.u (setCs c1 st)) : OpDo P X ops i st (q.res st) := by
  refine (OpDo.step ho hg (stepF_ok hT hE h)).wk ?_
  subst hs
  have h2 : Rel (setVs q.u (setCs c1 st)) (setVs q.u (setCs q.cs st)) := by rw [hc, setCs_app]; exact Rel.vs _ (Rel.cs _ (Rel.refl _))
  have h3 := h2.dead q.d
  refine Wk.of (fun t => ?_) (fun t => ?_)
  · simp only [DI.res, hb, hl]; exact h3.1 t
  · simp only [DI.res, hb, hl]; exact .inr (h3.2 t)
end Go.Lvm
