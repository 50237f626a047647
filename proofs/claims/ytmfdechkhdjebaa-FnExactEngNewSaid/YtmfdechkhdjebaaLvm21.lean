/- Lemmas of the by-value machine and of the data that the contracts speak of: each holds under the hypotheses that it states. -/
import Derived.Test.YtmfdechkhdjebaaLvm20
set_option linter.unusedVariables false
set_option linter.unusedSimpArgs false
namespace Go.Lvm
variable {P : Program} {TT : Nat → Ty} {X : Fx} {E : Ev} {st st' : St} {o : Oper} {d : Nat} {ops : Array Oper} {Q : Ex → St → Prop}
/-! ### A region whose order is drawn -/
def upd (S : Nat → Bool) (i : Nat) (j : Nat) : Bool := if j = i then true else S j
def OpDo (P : Program) (X : Fx) (ops : Array Oper) (i : Nat) (st st' : St) : Prop :=
  ∀ (Q : Exit → Act → World → Prop) w a, R X st w a → ∀ K : Act → World → Prop, (∀ w' a', R X st' w' a' → K a' w') → wpOp P ops Q i K a w
def bef (o : Oper) (S : Nat → Bool) : Prop := ∀ e ∈ o.after.toList, Region.binds .any e = true → S e.on = true
def Draws (P : Program) (X : Fx) (ops : Array Oper) (st : (Nat → Bool) → St) : Nat → List Oper → Prop
  | _, [] => True
  | i, o :: l => (∀ S, S i = false → bef o S → OpDo P X ops i (st S) (st (upd S i))) ∧ Draws P X ops st (i + 1) l
/-- Each operation leans on earlier ones alone. -/
def backB (ops : List Oper) : Bool := (List.range ops.length).all fun i => match ops[i]? with
  | some o => o.after.toList.all fun e => decide (e.on < i)
  | none => true
theorem draws_at {st : (Nat → Bool) → St} : ∀ {l : List Oper} {k : Nat}, Draws P X ops st k l → ∀ j o, l[j]? = some o → ∀ S, S (k + j) = false → bef o S → OpDo P X ops (k + j) (st S) (st (upd S (k + j)))
  | [], k, _, j, o, e => by simp at e
  | q :: l, k, h, j, o, e => by
    cases j with
    | zero => simp at e; subst e; exact h.1
    | succ j => have := draws_at h.2 j o (by simpa using e); rw [show k + (j + 1) = k + 1 + j by omega]; exact this
def cnt (listed : Array Bool) (n : Nat) : Nat := (List.range n).countP fun i => !listed.getD i true
theorem cnt_set (listed : Array Bool) (i : Nat) (hi : i < listed.size) (hf : listed.getD i true = false) : ∀ n, cnt listed n = cnt (listed.setIfInBounds i true) n + (if i < n then 1 else 0)
  | 0 => by simp [cnt]
  | n + 1 => by
    have ih := cnt_set listed i hi hf n
    unfold cnt at ih ⊢
    rw [List.range_succ, List.countP_append, List.countP_append, ih]
    have hget : ∀ j, (listed.setIfInBounds i true).getD j true = if j = i then true else listed.getD j true := by
      intro j
      simp only [Array.getD_eq_getD_getElem?, Array.getElem?_setIfInBounds]
      by_cases h : i = j
      · subst h; simp [hi]
      · have : ¬ j = i := fun e => h e.symm
        simp [h, this]
    simp only [List.countP_singleton, hget]
    by_cases h : n = i
    · subst h
      simp [hf]
    · have e1 : (i < n + 1) = (i < n) := by
        apply propext; omega
      simp only [if_neg h, e1]
      omega
theorem AW.drawn (hm : P.follows .mixedOrders = true) {id : Nat} {st0 : St} (st : (Nat → Bool) → St) (hbk : backB ops.toList = true) (h0 : Wk X st0 (st fun _ => false)) (hs : Draws P X ops st 0 ops.toList) (hq : ∀ S, (∀ i, i < ops.size → S i = true) → ∃ st', Wk X (st S) st' ∧ Q .normal st') :
    AW P X (.region id ops true) Q st0 := by
  intro w a hr
  refine wp_region_any hm ?_
  have hr0 : R X (st fun _ => false) { w with drawn := w.drawn + 1 } a := by
    obtain ⟨g, h, hh⟩ := h0 w a hr
    refine ⟨g, h.world ?_ (Nat.le_refl _) (fun _ _ _ _ => rfl), hh⟩
    exact h.keeps.trans (Keeps.drew X.F w) (fun x hx => .inl hx)
  have hback : ∀ (i : Nat) (o : Oper), ops[i]? = some o → ∀ e ∈ o.after.toList, e.on < i := by
    intro i o ho e he
    simp only [backB, List.all_eq_true, List.mem_range] at hbk
    have hlt : i < ops.toList.length := by
      rcases Nat.lt_or_ge i ops.size with h | h
      · simpa using h
      · simp [Array.getElem?_eq_none h] at ho
    have := hbk i hlt
    rw [show ops.toList[i]? = some o by simpa using ho] at this
    simp only [List.all_eq_true, decide_eq_true_eq] at this
    exact this e he
  have key : ∀ (fuel : Nat) (listed : Array Bool) (a : Act) (w : World), listed.size = ops.size → cnt listed ops.size = fuel → R X (st fun i => listed.getD i false) w a → wpAny P .any ops (QR X Q) fuel listed a w := by
    have hdone : ∀ (listed : Array Bool) (a : Act) (w : World), listed.size = ops.size → Region.ready .any ops listed = [] → R X (st fun i => listed.getD i false) w a → QR X Q .normal a w := by
      intro listed a w hsz hrd hr
      suffices hall : ∀ i, i < ops.size → listed.getD i false = true by
        obtain ⟨st', k1, k2⟩ := hq (fun i => listed.getD i false) hall
        exact ⟨st', k2, k1 w a hr⟩
      intro i
      induction i using Nat.strongRecOn with
      | _ i ih =>
        intro hi
        refine Classical.byContradiction fun hn => ?_
        have hmem : i ∈ Region.ready .any ops listed := by
          simp only [Region.ready, List.mem_filter, List.mem_range]
          refine ⟨hi, ?_⟩
          have hg : listed[i]? = some listed[i] := Array.getElem?_eq_getElem (by omega)
          have hf : listed[i] = false := by
            have : listed.getD i false = listed[i] := by simp [Array.getD_eq_getD_getElem?, hg]
            rw [this] at hn; simpa using hn
          have ho : ops[i]? = some ops[i] := Array.getElem?_eq_getElem hi
          rw [ho]
          simp only [Array.getD_eq_getD_getElem?, hg, hf, Option.map_some, Option.getD_some, Bool.not_false, Bool.true_and]
          rw [Array.all_eq_true_iff_forall_mem]
          intro e he
          have hlt := hback i _ ho e (by simpa using he)
          have := ih e.on hlt (by omega)
          simp only [Array.getD_eq_getD_getElem?] at this
          simp [this]
        rw [hrd] at hmem
        cases hmem
    have hempty : ∀ (listed : Array Bool), cnt listed ops.size = 0 → Region.ready .any ops listed = [] := by
      intro listed hc
      simp only [cnt, List.countP_eq_zero, List.mem_range] at hc
      simp only [Region.ready, List.filter_eq_nil_iff, List.mem_range]
      intro i hi
      have := hc i hi
      simp only [Bool.not_eq_true, Bool.not_eq_false'] at this ⊢
      simp [this]
    intro fuel
    induction fuel with
    | zero => exact fun listed a w hsz hc hr => ⟨hempty listed hc, hdone listed a w hsz (hempty listed hc) hr⟩
    | succ fuel ih =>
      intro listed a w hsz hc hr
      refine ⟨fun hrd => hdone listed a w hsz hrd hr, fun i hi => ?_⟩
      simp only [Region.ready, List.mem_filter, List.mem_range, Bool.and_eq_true, Bool.not_eq_true'] at hi
      obtain ⟨hlt, hf, hb⟩ := hi
      have ho : ops[i]? = some ops[i] := Array.getElem?_eq_getElem hlt
      rw [ho] at hb
      simp only [Option.map_some, Option.getD_some] at hb
      have hgf : listed.getD i false = false := by
        have hg : listed[i]? = some listed[i] := Array.getElem?_eq_getElem (by omega)
        simp only [Array.getD_eq_getD_getElem?, hg, Option.getD_some] at hf ⊢
        exact hf
      have hdo := draws_at hs i ops[i] (by simp [ho]) (fun j => listed.getD j false) (by simpa using hgf) (fun e he hbi => by
        rw [Array.all_eq_true_iff_forall_mem] at hb
        have := hb e (by simpa using he)
        rw [hbi] at this
        simpa using this)
      rw [Nat.zero_add] at hdo
      refine hdo _ w a hr _ fun w' a' hr' => ih _ a' w' (by simpa using hsz) ?_ ?_
      · have := cnt_set listed i (by omega) hf ops.size
        rw [if_pos hlt] at this
        omega
      · have : (fun j => (listed.setIfInBounds i true).getD j false) = upd (fun j => listed.getD j false) i := by
          funext j
          simp only [upd, Array.getD_eq_getD_getElem?, Array.getElem?_setIfInBounds]
          by_cases h : i = j
          · subst h; simp [show i < listed.size by omega]
          · have h' : ¬ j = i := fun e => h e.symm
            simp [h, h']
        rw [this]; exact hr'
  refine key ops.size _ a _ (by simp) ?_ ?_
  · unfold cnt
    rw [List.countP_eq_length.2]
    · simp
    · intro i hi
      simp only [List.mem_range] at hi
      simp [Array.getD_eq_getD_getElem?, Array.getElem?_replicate, hi]
  · have : (fun i => (Array.replicate ops.size false).getD i false) = fun _ => false := by
      funext i
      simp only [Array.getD_eq_getD_getElem?, Array.getElem?_replicate]
      split <;> rfl
    rw [this]; exact hr0
theorem OpDo.step {i : Nat} (ho : ops[i]? = some o) (hg : o.guard = none) (hs : Step P X o st st') : OpDo P X ops i st st' := by
  intro Q w a hr K hK
  simp only [wpOp, ho, Region.wanted, hg, if_true]
  exact .inl (hs w a hr K Q hK)
theorem OpDo.wk {i : Nat} {st'' : St} (h : OpDo P X ops i st st') (hw : Wk X st' st'') : OpDo P X ops i st st'' := fun Q w a hr K hK => h Q w a hr K fun w' a' hr' => hK w' a' (hw w' a' hr')
/-- An operation of the kit's, and what is kept. -/
theorem OpDo.run (hT : Tab P TT) (hE : E.ok X) (ks vs : List Nat) {i : Nat} (ho : ops[i]? = some o) (hg : o.guard = none) (h : (stepF TT E st o).map (keep ks vs) = some st') : OpDo P X ops i st st' := by
  obtain ⟨st1, h1, rfl⟩ := Option.map_eq_some_iff.1 h
  exact (OpDo.step ho hg (stepF_ok hT hE h1)).wk (Wk.keep ks vs)
def famE (S : Nat → Bool) : Nat → List (Nat × L) → List (Nat × L)
  | _, [] => []
  | i, (d, l) :: r => (d, if S i then l else .dead) :: famE S (i + 1) r
/-- What each operation yields stands there once it is done; the rest is as it was. -/
def fam (base ls : List (Nat × L)) (vs : (Nat → Bool) → List (Nat × List C)) (S : Nat → Bool) : St := mk (base ++ famE S 0 ls) (vs S)
theorem AW.drawnP (hm : P.follows .mixedOrders = true) {id : Nat} {st0 : St} (base ls : List (Nat × L)) (vs : (Nat → Bool) → List (Nat × List C)) (hbk : backB ops.toList = true) (h0 : Wk X st0 (fam base ls vs fun _ => false)) (hs : Draws P X ops (fam base ls vs) 0 ops.toList) (hq : ∀ S, (∀ i, i < ops.size → S i = true) → ∃ st', Wk X (fam base ls vs S) st' ∧ Q .normal st') :
    AW P X (.region id ops true) Q st0 := AW.drawn hm _ hbk h0 hs hq
/-- The same, what each yields being read off the end in the text's order (nothing is moved, no variable turns). -/
def famF (fin : St) : List Nat → List (Nat × L)
  | [] => []
  | d :: ds => (d, fin.env d) :: famF fin ds
theorem AW.drawnF (hm : P.follows .mixedOrders = true) {id : Nat} {st0 : St} (fin : St) (ks ds kf vf : List Nat) {st' : St} {e : List (Nat × L)} {v : List (Nat × List C)} (hst : st0 = mk e v) (hfin : runK TT E (ks ++ ds) [] ops ops.toList st0 = some fin) (hbk : backB ops.toList = true)
    (h0 : ∀ d ∈ ds, lk e d = .dead) (hs : Draws P X ops (fam (selE ks e) (famF fin ds) fun _ => v) 0 ops.toList) (hln : ds.length ≤ ops.size) (hk : some (keep kf vf (mk (selE ks e ++ famF fin ds) v)) = some st') (hq : Q .normal st') :
    AW P X (.region id ops true) Q st0 := by
  have hall : ∀ (ds : List Nat) (S : Nat → Bool) (i : Nat), (∀ j, j < i + ds.length → S j = true) → famE S i (famF fin ds) = famF fin ds := by
    intro ds S
    induction ds with
    | nil => intro i _; rfl
    | cons d ds ih =>
      intro i h
      simp only [famF, famE]
      rw [h i (by simp), ih (i + 1) (fun j hj => h j (by simp at hj ⊢; omega))]
      simp
  refine AW.drawn hm _ hbk ?_ hs (fun S hS => ⟨st', ?_, hq⟩)
  rotate_left
  · injection hk with hk; subst hk
    unfold fam
    rw [hall ds S 0 (fun j hj => hS j (by omega))]
    exact Wk.keep kf vf
  subst hst
  refine Wk.of (fun t => ?_) (fun t => .inr rfl)
  show lk (selE ks e ++ famE _ 0 (famF fin ds)) t = .dead ∨ lk (selE ks e ++ famE _ 0 (famF fin ds)) t = lk e t
  have h1 : ∀ (ds : List Nat) (i : Nat), lk (famE (fun _ => false) i (famF fin ds)) t = .dead := by
    intro ds
    induction ds with
    | nil => intro i; rfl
    | cons d ds ih => intro i; simp only [famF, famE, lk]; split <;> simp [ih]
  have h2 : ∀ (ks : List Nat), lk (selE ks e ++ famE (fun _ => false) 0 (famF fin ds)) t = .dead ∨ lk (selE ks e ++ famE (fun _ => false) 0 (famF fin ds)) t = lk e t := by
    intro ks
    induction ks with
    | nil => exact .inl (h1 ds 0)
    | cons k ks ih =>
      simp only [selE, List.cons_append, lk]
      split
      · rename_i h; subst h; exact .inr rfl
      · exact ih
  exact h2 ks
theorem kill_dead (r : Rt) : L.dead.kill r = .dead := by simp [L.kill, L.base]
theorem kill_v (r : Rt) (g : Bool) (cs : List C) : (L.val g cs).kill r = .val g cs := by simp [L.kill, L.base]
theorem kill_sptr (r : Rt) (c : C) (i z off : Nat) : (L.sptr c i z off).kill r = .sptr c i z off := by simp [L.kill, L.base]
theorem kill_tup (r : Rt) (ls : List (Bool × List C)) : (L.tup ls).kill r = .tup ls := by simp [L.kill, L.base]
theorem kill_ref (r r' : Rt) (off : Nat) (ps : Pth) (g : Bool) (k : Nat) : (L.ref r' off ps g k).kill r = if r' = r then .dead else .ref r' off ps g k := by simp [L.kill, L.base]
theorem kill_win (r r' : Rt) (off : Nat) (ps : Pth) (lo hi : Nat) : (L.win r' off ps lo hi).kill r = if r' = r then .dead else .win r' off ps lo hi := by simp [L.kill, L.base]
theorem kill_ptr (r r' : Rt) (off : Nat) (ps : Pth) : (L.ptr r' off ps).kill r = if r' = r then .dead else .ptr r' off ps := by simp [L.kill, L.base]
theorem kill_ite (c : Prop) [Decidable c] (a b : L) (r : Rt) : (if c then a else b).kill r = if c then a.kill r else b.kill r := by split <;> rfl
theorem touch_ite (c : Prop) [Decidable c] (a b : L) (r : Rt) : (if c then a else b).touch r = if c then a.touch r else b.touch r := by split <;> rfl
theorem cells_ite (c : Prop) [Decidable c] (a b : L) (cs : List C) : (if c then a else b).setCells cs = if c then a.setCells cs else b.setCells cs := by split <;> rfl
end Go.Lvm
