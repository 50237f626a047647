/- Lemmas of the by-value machine and of the data that the contracts speak of: each holds under the hypotheses that it states. -/
import Derived.Test.YtmfdechkhdjebaaLvm22
set_option linter.unusedVariables false
set_option linter.unusedSimpArgs false
namespace Go.Lvm
variable {P : Program} {TT : Nat → Ty} {X : Fx} {E : Ev} {st st' : St} {o : Oper} {d : Nat} {ops : Array Oper} {Q : Ex → St → Prop}
/-! ### A drawn region: first some in any order, then the others in the text's -/
def sufB (ops : List Oper) (k : Nat) : Bool := (List.range ops.length).all fun i => decide (i < k) || (List.range i).all fun j => match ops[i]? with
  | some o => o.after.toList.any fun e => Region.binds .any e && e.on == j
  | none => false
theorem ready_mem {listed : Array Bool} (i : Nat) : i ∈ Region.ready .any ops listed ↔ ∃ o, ops[i]? = some o ∧ listed.getD i true = false ∧ ∀ e ∈ o.after.toList, Region.binds .any e = true → listed.getD e.on false = true := by
  simp only [Region.ready, List.mem_filter, List.mem_range, Bool.and_eq_true, Bool.not_eq_true']
  constructor
  · rintro ⟨h1, h2, h3⟩
    refine ⟨ops[i], Array.getElem?_eq_getElem h1, h2, fun e he hb => ?_⟩
    rw [Array.getElem?_eq_getElem h1] at h3
    simp only [Option.map_some, Option.getD_some] at h3
    rw [Array.all_eq_true_iff_forall_mem] at h3
    have := h3 e (by simpa using he)
    rw [hb] at this
    simpa using this
  · rintro ⟨o, ho, h2, h3⟩
    have hlt : i < ops.size := by
      rcases Nat.lt_or_ge i ops.size with h | h
      · exact h
      · simp [Array.getElem?_eq_none h] at ho
    refine ⟨hlt, h2, ?_⟩
    rw [ho]
    simp only [Option.map_some, Option.getD_some]
    rw [Array.all_eq_true_iff_forall_mem]
    intro e he
    cases hb : Region.binds .any e with
    | false => simp
    | true => simpa using h3 e (by simpa using he) hb
theorem back_of (hbk : backB ops.toList = true) : ∀ (i : Nat) (o : Oper), ops[i]? = some o → ∀ e ∈ o.after.toList, e.on < i := by
  intro i o ho e he
  simp only [backB, List.all_eq_true, List.mem_range] at hbk
  have hlt : i < ops.toList.length := by
    rcases Nat.lt_or_ge i ops.size with h | h
    · simpa using h
    · simp [Array.getElem?_eq_none h] at ho
  have := hbk i hlt
  rw [show ops.toList[i]? = some o by simpa using ho] at this
  simp only [List.all_eq_true, decide_eq_true_eq] at this
  exact this e he
theorem suf_of {k : Nat} (hsf : sufB ops.toList k = true) : ∀ (i : Nat) (o : Oper), ops[i]? = some o → k ≤ i → ∀ j, j < i → ∃ e ∈ o.after.toList, Region.binds .any e = true ∧ e.on = j := by
  intro i o ho hk j hj
  simp only [sufB, List.all_eq_true, List.mem_range] at hsf
  have hlt : i < ops.toList.length := by
    rcases Nat.lt_or_ge i ops.size with h | h
    · simpa using h
    · simp [Array.getElem?_eq_none h] at ho
  have := hsf i hlt
  rw [show ops.toList[i]? = some o by simpa using ho] at this
  simp only [Bool.or_eq_true, decide_eq_true_eq, List.all_eq_true, List.mem_range] at this
  rcases this with h | h
  · omega
  · have := h j hj
    simp only [List.any_eq_true, Bool.and_eq_true, beq_iff_eq] at this
    obtain ⟨e, h1, h2, h3⟩ := this
    exact ⟨e, h1, h2, h3⟩
theorem getD_lt {listed : Array Bool} {i : Nat} (h : i < listed.size) (b : Bool) : listed.getD i b = listed[i] := by
  simp [Array.getD_eq_getD_getElem?, Array.getElem?_eq_getElem h]
theorem suffix_any {Q : Exit → Act → World → Prop} {k : Nat} (hbk : backB ops.toList = true) (hsf : sufB ops.toList k = true) : ∀ (n m : Nat) (listed : Array Bool) (a : Act) (w : World), k ≤ m → m + n = ops.size → listed.size = ops.size → (∀ i, i < ops.size → listed.getD i false = decide (i < m)) →
    wpList P ops Q (ops.toList.drop m) a w → wpAny P .any ops Q n listed a w := by
  have hb := back_of hbk
  have hs := suf_of hsf
  intro n
  induction n with
  | zero =>
    intro m listed a w hk hmn hsz hl hw
    have hrd : Region.ready .any ops listed = [] := by
      apply List.eq_nil_iff_forall_not_mem.2
      intro i hi
      obtain ⟨o, ho, h2, _⟩ := (ready_mem i).1 hi
      have hlt : i < ops.size := by
        rcases Nat.lt_or_ge i ops.size with h | h
        · exact h
        · simp [Array.getElem?_eq_none h] at ho
      have := hl i hlt
      rw [getD_lt (by omega)] at h2 this
      rw [h2] at this
      simp at this; omega
    refine ⟨hrd, ?_⟩
    rw [List.drop_of_length_le (by simp; omega)] at hw
    exact hw
  | succ n ih =>
    intro m listed a w hk hmn hsz hl hw
    have hm : m < ops.size := by omega
    have hom : ops[m]? = some ops[m] := Array.getElem?_eq_getElem hm
    have hdrop : ops.toList.drop m = ops[m] :: ops.toList.drop (m + 1) := by
      rw [List.drop_eq_getElem_cons (by simpa using hm)]; simp
    have hmem : m ∈ Region.ready .any ops listed := by
      refine (ready_mem m).2 ⟨_, hom, ?_, fun e he _ => ?_⟩
      · have := hl m hm
        rw [getD_lt (by omega)] at this ⊢
        rw [this]; simp
      · have := hb m _ hom e he
        rw [hl e.on (by omega)]; simpa using this
    refine ⟨(fun h => by rw [h] at hmem; cases hmem), fun i hi => ?_⟩
    have him : i = m := by
      obtain ⟨o, ho, h2, h3⟩ := (ready_mem i).1 hi
      have hlt : i < ops.size := by
        rcases Nat.lt_or_ge i ops.size with h | h
        · exact h
        · simp [Array.getElem?_eq_none h] at ho
      have hge : m ≤ i := by
        have := hl i hlt
        rw [getD_lt (by omega)] at h2 this
        rw [h2] at this
        simp at this; omega
      refine Classical.byContradiction fun hne => ?_
      obtain ⟨e, e1, e2, e3⟩ := hs i o ho (by omega) m (by omega)
      have := h3 e e1 e2
      rw [e3, hl m hm] at this
      simp at this
    subst him
    rw [hdrop] at hw
    have hstep : wpOp P ops Q i (wpList P ops Q (ops.toList.drop (i + 1))) a w := by
      unfold wpOp
      rw [hom]
      exact hw
    refine wpOp_mono (fun a' w' h => ih (i + 1) _ a' w' (by omega) (by omega) (by simpa using hsz) (fun j hj => ?_) h) hstep
    have hset : (listed.setIfInBounds i true).getD j false = if i = j then true else listed.getD j false := by
      simp only [Array.getD_eq_getD_getElem?, Array.getElem?_setIfInBounds]
      by_cases h : i = j
      · subst h; simp [show i < listed.size by omega]
      · simp [h]
    rw [hset, hl j hj]
    by_cases h : i = j
    · subst h; simp
    · rw [if_neg h, decide_eq_decide]
      omega
theorem AW.drawnS (hm : P.follows .mixedOrders = true) {id : Nat} {st0 : St} (k : Nat) (st : (Nat → Bool) → St) (hk : k ≤ ops.size) (hbk : backB ops.toList = true) (hsf : sufB ops.toList k = true) (h0 : Wk X st0 (st fun _ => false)) (hs : Draws P X ops st 0 (ops.toList.take k))
    (hw : Wk X (st fun i => decide (i < k)) st') (hq : AO P X ops (ops.toList.drop k) Q st') : AW P X (.region id ops true) Q st0 := by
  intro w a hr
  refine wp_region_any hm ?_
  have hr0 : R X (st fun _ => false) { w with drawn := w.drawn + 1 } a := by
    obtain ⟨g, h, hh⟩ := h0 w a hr
    refine ⟨g, h.world ?_ (Nat.le_refl _) (fun _ _ _ _ => rfl), hh⟩
    exact h.keeps.trans (Keeps.drew X.F w) (fun x hx => .inl hx)
  have hb := back_of hbk
  have hsu := suf_of hsf
  have key : ∀ (fuel : Nat) (listed : Array Bool) (a : Act) (w : World), listed.size = ops.size → cnt listed ops.size = fuel → (∀ i, k ≤ i → listed.getD i false = false) → R X (st fun i => listed.getD i false) w a → wpAny P .any ops (QR X Q) fuel listed a w := by
    have hall : ∀ (fuel : Nat) (listed : Array Bool) (a : Act) (w : World), listed.size = ops.size → cnt listed ops.size = fuel → (∀ i, k ≤ i → listed.getD i false = false) → (∀ i, i < k → listed.getD i false = true) → R X (st fun i => listed.getD i false) w a → wpAny P .any ops (QR X Q) fuel listed a w := by
      intro fuel listed a w hsz hc h1 h2 hr
      have heq : (fun i => listed.getD i false) = fun i => decide (i < k) := by
        funext i
        by_cases h : i < k
        · rw [h2 i h]; simp [h]
        · rw [h1 i (by omega)]; simp [h]
      rw [heq] at hr
      refine suffix_any hbk hsf fuel k listed a w (Nat.le_refl _) ?_ hsz (fun i _ => congrFun heq i) (hq w a (hw w a hr))
      rw [← hc]
      have : ∀ n, k ≤ n → n ≤ ops.size → k + cnt listed n = n := by
        intro n
        induction n with
        | zero => intro h _; simp [cnt]; omega
        | succ n ih =>
          intro hkn hno
          by_cases hk' : k ≤ n
          · have := ih hk' (by omega)
            have h3 := h1 n hk'
            rw [getD_lt (by omega)] at h3
            unfold cnt at this ⊢
            rw [List.range_succ, List.countP_append, List.countP_singleton, getD_lt (by omega), h3]
            simp only [Bool.not_false, if_true]
            omega
          · have hkk : k = n + 1 := by omega
            subst hkk
            have : cnt listed (n + 1) = 0 := by
              unfold cnt
              rw [List.countP_eq_zero]
              intro i hi
              simp only [List.mem_range] at hi
              have := h2 i (by omega)
              rw [getD_lt (by omega)] at this ⊢
              simp [this]
            omega
      exact this ops.size hk (Nat.le_refl _)
    intro fuel
    induction fuel with
    | zero =>
      intro listed a w hsz hc h1 hr
      refine hall 0 listed a w hsz hc h1 (fun i hi => ?_) hr
      unfold cnt at hc
      rw [List.countP_eq_zero] at hc
      have := hc i (by simp; omega)
      rw [getD_lt (by omega)] at this ⊢
      simpa using this
    | succ fuel ih =>
      intro listed a w hsz hc h1 hr
      by_cases hdone : ∀ i, i < k → listed.getD i false = true
      · exact hall _ listed a w hsz hc h1 hdone hr
      · have hex : ∃ i, i < k ∧ listed.getD i false = false := by
          refine Classical.byContradiction fun hn => hdone fun i hi => ?_
          cases h : listed.getD i false with
          | true => rfl
          | false => exact absurd ⟨i, hi, h⟩ hn
        have hlow : ∀ i, i ∈ Region.ready .any ops listed → i < k := by
          intro i hi
          obtain ⟨o, ho, h2, h3⟩ := (ready_mem i).1 hi
          refine Classical.byContradiction fun hge => ?_
          obtain ⟨j, hj, hjf⟩ := hex
          obtain ⟨e, e1, e2, e3⟩ := hsu i o ho (by omega) j (by omega)
          have := h3 e e1 e2
          rw [e3, hjf] at this; cases this
        refine ⟨fun hrd => ?_, fun i hi => ?_⟩
        · exfalso
          apply hdone
          intro i
          induction i using Nat.strongRecOn with
          | _ i ihi =>
            intro hi
            refine Classical.byContradiction fun hn => ?_
            have ho : ops[i]? = some ops[i] := Array.getElem?_eq_getElem (by omega)
            have hmem : i ∈ Region.ready .any ops listed := by
              refine (ready_mem i).2 ⟨_, ho, ?_, fun e he _ => ?_⟩
              · rw [getD_lt (by omega)] at hn ⊢
                simpa using hn
              · have := hb i _ ho e he
                exact ihi e.on this (by omega)
            rw [hrd] at hmem; cases hmem
        · have hik := hlow i hi
          obtain ⟨o, ho, h2, h3⟩ := (ready_mem i).1 hi
          have hgf : listed.getD i false = false := by
            rw [getD_lt (by omega)] at h2 ⊢; exact h2
          have hdo := draws_at hs i o (by rw [List.getElem?_take, if_pos hik]; simpa using ho) (fun j => listed.getD j false) (by simpa using hgf) (fun e he hbi => h3 e he hbi)
          rw [Nat.zero_add] at hdo
          refine hdo _ w a hr _ fun w' a' hr' => ih _ a' w' (by simpa using hsz) ?_ (fun j hj => ?_) ?_
          · have := cnt_set listed i (by omega) h2 ops.size
            rw [if_pos (by omega)] at this
            omega
          · simp only [Array.getD_eq_getD_getElem?, Array.getElem?_setIfInBounds]
            have hne : ¬ i = j := by omega
            rw [if_neg hne]
            simpa [Array.getD_eq_getD_getElem?] using h1 j hj
          · have : (fun j => (listed.setIfInBounds i true).getD j false) = upd (fun j => listed.getD j false) i := by
              funext j
              simp only [upd, Array.getD_eq_getD_getElem?, Array.getElem?_setIfInBounds]
              by_cases h : i = j
              · subst h; simp [show i < listed.size by omega]
              · have h' : ¬ j = i := fun e => h e.symm
                simp [h, h']
            rw [this]; exact hr'
  refine key ops.size _ a _ (by simp) ?_ (fun i hi => ?_) ?_
  · unfold cnt
    rw [List.countP_eq_length.2]
    · simp
    · intro i hi
      simp only [List.mem_range] at hi
      simp [Array.getD_eq_getD_getElem?, Array.getElem?_replicate, hi]
  · simp only [Array.getD_eq_getD_getElem?, Array.getElem?_replicate]
    split <;> rfl
  · have : (fun i => (Array.replicate ops.size false).getD i false) = fun _ => false := by
      funext i
      simp only [Array.getD_eq_getD_getElem?, Array.getElem?_replicate]
      split <;> rfl
    rw [this]; exact hr0
end Go.Lvm
