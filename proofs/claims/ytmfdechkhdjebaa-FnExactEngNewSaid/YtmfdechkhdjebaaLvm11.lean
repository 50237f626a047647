/- Lemmas of the by-value machine and of the data that the contracts speak of: each holds under the hypotheses that it states. -/
import Derived.Test.YtmfdechkhdjebaaLvm10
import Derived.Tactics
set_option linter.unusedVariables false
set_option linter.unusedSimpArgs false
namespace Go.Lvm
variable {P : Program} {TT : Nat → Ty} {X : Fx} {st st' : St} {o : Oper} {d : Nat}
/-! ### Contracts -/
/-- An argument: ro is read alone, mv is given, io is a pointer's place (before, after), le is lent by value (before, after). -/
inductive Ar where
  | ro (g : Bool) (cs : List C)
  | mv (g : Bool) (cs : List C)
  | io (cs cs' : List C)
  | le (g : Bool) (cs cs' : List C)
structure Ag where
  v : Value
  b : Nat := 0
  pre : List Value := []
  post : List Value := []
  T : TypeId := 0
  us : List Value := []
  bs : List Nat := []
def NoZ : Nat → Prop := fun _ => False
def ArIn (W : World) (Z : Nat → Prop) : Ar → Ag → Prop
  | .ro g cs, q => q.v = pack g q.us ∧ (g = false → cs.length = 1) ∧ repL W Z cs q.us [] ∧ q.bs = []
  | .mv g cs, q => q.v = pack g q.us ∧ (g = false → cs.length = 1) ∧ repL W NoZ cs q.us q.bs
  | .le g cs _, q => q.v = pack g q.us ∧ (g = false → cs.length = 1) ∧ repL W NoZ cs q.us q.bs
  | .io cs _, q => q.v = .pointer (some ⟨q.b, q.pre.length, none⟩) ∧ ∃ arr bs0, W.heap[q.b]? = some (.cells arr q.T (0, 0)) ∧ arr.toList = q.pre ++ q.us ++ q.post ∧ q.bs = q.b :: bs0 ∧ repL W NoZ cs q.us bs0
def ArOut (W : World) : Ar → Ag → List Value → List Nat → Prop
  | .ro _ _, _, _, bs => bs = []
  | .mv _ _, _, _, bs => bs = []
  | .le _ _ cs', q, _, bs => repL W NoZ cs' q.us bs
  | .io _ cs', q, us', bs => ∃ arr bs0, W.heap[q.b]? = some (.cells arr q.T (0, 0)) ∧ arr.toList = q.pre ++ us' ++ q.post ∧ bs = q.b :: bs0 ∧ repL W NoZ cs' us' bs0
def foot (qs : List Ag) : List Nat := (qs.map (·.bs)).flatten
/-- Lists of blocks, no block in two places, all below n. -/
def Sep (n : Nat) (l : List (List Nat)) : Prop := (∀ i, (l.getD i []).Nodup) ∧ (∀ i j b, b ∈ l.getD i [] → b ∈ l.getD j [] → i = j) ∧ ∀ i b, b ∈ l.getD i [] → b < n
theorem mem_flat {l : List (List Nat)} {b : Nat} : b ∈ l.flatten ↔ ∃ i, b ∈ l.getD i [] := by
  constructor
  · intro h
    obtain ⟨x, hx, hb⟩ := List.mem_flatten.1 h
    obtain ⟨i, hi⟩ := List.mem_iff_getElem?.1 hx
    exact ⟨i, by rw [List.getD_eq_getElem?_getD, hi]; exact hb⟩
  · rintro ⟨i, hi⟩
    rw [List.getD_eq_getElem?_getD] at hi
    cases h : l[i]? with
    | none => rw [h] at hi; cases hi
    | some x => rw [h] at hi; exact List.mem_flatten.2 ⟨x, List.mem_of_getElem? h, hi⟩
def resV : List Value → Value
  | [v] => v
  | vs => .tuple vs.toArray
/-- What a call of f does: as the arguments are told, so are its results. facts: values that read as told, in whatever world. -/
def IsFn (P : Program) (f : FuncId) : Prop := ∃ fn c, P.funcs[f]? = some fn ∧ (fn.name == "runtime.NumGoroutine") = false ∧ fn.body = some c
def Spec (P : Program) (facts : List (Value × C)) (f : FuncId) (as : List Ar) (res : List (Bool × List C)) : Prop :=
  IsFn P f ∧ ∀ (W : World) (qs : List Ag), qs.length = as.length → (∀ (i : Nat) (a : Ar) (q : Ag), as[i]? = some a → qs[i]? = some q → ArIn W (Z0 W (foot qs)) a q) → Sep W.heap.size (qs.map (·.bs)) →
    (∀ x c, (x, c) ∈ facts → repC W (Z0 W (foot qs)) c x []) →
    Calls P f (qs.map (·.v)).toArray W fun e W' => ∃ (vs : List Value) (rb : List Nat) (os : List (List Value × List Nat)), e = .returned (resV vs) ∧ Keeps (foot qs) W W' ∧ tupOK W' NoZ res vs rb ∧ os.length = as.length ∧
      (∀ (i : Nat) (a : Ar) (q : Ag) (o : List Value × List Nat), as[i]? = some a → qs[i]? = some q → os[i]? = some o → ArOut W' a q o.1 o.2) ∧ Sep W'.heap.size (rb :: os.map (·.2)) ∧
      ∀ i b, b ∈ (rb :: os.map (·.2)).getD i [] → b ∈ foot qs ∨ W.heap.size ≤ b
/-! ### Code -/
inductive Ex where
  | normal
  | exit (id : Nat)
  | ret
def QR (X : Fx) (Q : Ex → St → Prop) : Exit → Act → World → Prop
  | .normal, a, w => ∃ st, Q .normal st ∧ R X st w a
  | .exit id, a, w => ∃ st, Q (.exit id) st ∧ R X st w a
  | .ret, a, w => ∃ st, Q .ret st ∧ R X st w a
  | _, _, _ => False
def AW (P : Program) (X : Fx) (c : Code) (Q : Ex → St → Prop) (st : St) : Prop := ∀ w a, R X st w a → c.wp P (QR X Q) a w
/-- An operation: whatever it does, it ends in st'. -/
def Step (P : Program) (X : Fx) (o : Oper) (st st' : St) : Prop := ∀ w a, R X st w a → ∀ (next : Act → World → Prop) (Q : Exit → Act → World → Prop), (∀ w' a', R X st' w' a' → next a' w') → o.wp P a w next Q
/-- Operations in the text's order. -/
def AO (P : Program) (X : Fx) (ops : Array Oper) (l : List Oper) (Q : Ex → St → Prop) (st : St) : Prop := ∀ w a, R X st w a → wpList P ops (QR X Q) l a w
section
variable {Q : Ex → St → Prop} {ops : Array Oper} {l : List Oper} {K : St → Prop}
theorem AW.mono {c : Code} {Q' : Ex → St → Prop} (h : AW P X c Q st) (hq : ∀ e st, Q e st → Q' e st) : AW P X c Q' st := fun w a hr => Code.wp_mono (fun e a w q => by
  cases e <;> first | exact q | (obtain ⟨st, h1, h2⟩ := q; exact ⟨st, hq _ _ h1, h2⟩)) (h w a hr)
theorem AW.seq {x y : Code} (h : AW P X x (fun e st => match e with | .normal => AW P X y Q st | e => Q e st) st) : AW P X (.seq x y) Q st := fun w a hr => by
  refine wp_seq (Code.wp_mono (fun e a' w' q => ?_) (h w a hr))
  cases e with
  | normal => obtain ⟨st1, h1, h2⟩ := q; exact h1 w' a' h2
  | exit id => exact q
  | ret => exact q
  | _ => exact q
theorem AW.skip (h : Q .normal st) : AW P X .skip Q st := fun w a hr => wp_skip ⟨st, h, hr⟩
theorem AW.ret (h : Q .ret st) : AW P X .ret Q st := fun w a hr => wp_ret ⟨st, h, hr⟩
theorem AW.exit {id : Nat} (h : Q (.exit id) st) : AW P X (.exit id) Q st := fun w a hr => wp_exit ⟨st, h, hr⟩
theorem AW.cond {c : Operand} {x y : Code} {t : Bool} (hc : opv st c = some (.bool t)) (h : AW P X (if t then x else y) Q st) : AW P X (.cond c x y) Q st := fun w a hr => by
  have hr0 := hr
  obtain ⟨g, hg, _⟩ := hr
  exact wp_cond (opv_ok hg hc).1 (h w a hr0)
theorem AW.block {id : Nat} {c : Code} (h : AW P X c (fun e st => match e with | .exit id' => if id' = id then Q .normal st else Q (.exit id') st | e => Q e st) st) : AW P X (.block id c) Q st := fun w a hr => by
  refine wp_block (Code.wp_mono (fun e a' w' q => ?_) (h w a hr))
  cases e with
  | exit id' =>
    obtain ⟨st1, h1, h2⟩ := q
    simp only [Exit.inBlock]
    split
    · rename_i e; simp only [e, if_true] at h1; exact ⟨st1, h1, h2⟩
    · rename_i e; simp only [e, if_false] at h1; exact ⟨st1, h1, h2⟩
  | normal => exact q
  | ret => exact q
  | _ => exact q
/-- What is known may be forgotten. -/
def Wk (X : Fx) (st st' : St) : Prop := ∀ w a, R X st w a → R X st' w a
theorem Wk.of (h1 : ∀ t, st'.env t = .dead ∨ st'.env t = st.env t) (h2 : ∀ t, st'.var t = none ∨ st'.var t = st.var t) : Wk X st st' := by
  intro w a ⟨g, h, hh⟩
  refine ⟨g, ⟨h.keeps, h.tmps, h.defers, fun t cs hc => ?_, fun t => ?_, h.own⟩, hh⟩
  · rcases h2 t with e | e
    · rw [e] at hc; cases hc
    · exact h.var t cs (by rw [← e]; exact hc)
  · rcases h1 t with e | e
    · rw [e]; trivial
    · rw [e]
      have := h.env t
      have hcells : ∀ r cs, st'.cells r = some cs → st.cells r = some cs := by
        intro r cs hc
        cases r with
        | var u =>
          rcases h2 u with e | e
          · simp only [St.cells, e] at hc; cases hc
          · simp only [St.cells, e] at hc ⊢; exact hc
        | slot u =>
          rcases h1 u with e | e
          · simp only [St.cells, e] at hc; cases hc
          · simp only [St.cells, e] at hc ⊢; exact hc
        | hand i => cases hc
      revert this
      cases st.env t with
      | ref r off ps gg k => exact fun ⟨e1, e2⟩ => ⟨e1, fun cs hc => e2 cs (hcells r cs hc)⟩
      | win r off ps lo hi => exact fun e2 cs o z xs hc => e2 cs o z xs (hcells r cs hc)
      | ptr r off ps => exact fun ⟨e1, e2⟩ => ⟨e1, fun cs hc => e2 cs (hcells r cs hc)⟩
      | _ => exact id
theorem AW.wk {c : Code} (hw : Wk X st st') (h : AW P X c Q st') : AW P X c Q st := fun w a hr => h w a (hw w a hr)
theorem AW.loop {c : Code} (I : Nat → St → Prop) (n : Nat) (h0 : I n st) (h : ∀ n st, I n st → AW P X c (fun e st' => match e with | .normal => ∃ m st'', m < n ∧ Wk X st' st'' ∧ I m st'' | e => Q e st') st) : AW P X (.loop c) Q st := by
  intro w a hr b k cs
  have key : ∀ n st w a, I n st → R X st w a → ∃ e a' w', QR X Q e a' w' ∧ Arrives P (lone (b.at a (.code c :: .inLoop c :: k)) cs w) b k cs e a' w' := by
    intro n
    induction n using Nat.strongRecOn with
    | _ n ih =>
      intro st w a hI hr
      obtain ⟨e, a1, w1, hq, harr⟩ := h n st hI w a hr b (.inLoop c :: k) cs
      cases e with
      | normal =>
        obtain ⟨st1, ⟨m, st2, hm, hwk, hI2⟩, hr1⟩ := hq
        obtain ⟨e2, a2, w2, hq2, harr2⟩ := ih m hm st2 w1 a1 hI2 (hwk w1 a1 hr1)
        exact ⟨e2, a2, w2, hq2, .of_steps (Steps.trans harr (.one step_inLoop)) harr2⟩
      | exit id => obtain ⟨s, h1, h2⟩ := hq; exact ⟨.exit id, a1, w1, (⟨s, h1, h2⟩ : QR X Q (.exit id) a1 w1), .pass (x := .inLoop c) rfl (fun _ _ => .inl (by simp)) harr⟩
      | ret => obtain ⟨s, h1, h2⟩ := hq; exact ⟨.ret, a1, w1, (⟨s, h1, h2⟩ : QR X Q .ret a1 w1), harr⟩
      | goto l => exact hq.elim
      | panic ch => exact hq.elim
      | outgrown => exact hq.elim
  obtain ⟨e, a', w', hq, harr⟩ := key n st w a h0 hr
  exact ⟨e, a', w', hq, .of_steps (.one step_loop) harr⟩
theorem AW.region {id : Nat} (h : AO P X ops ops.toList Q st) : AW P X (.region id ops false) Q st := fun w a hr => wp_region_list (h w a hr)
theorem AO.nil (h : Q .normal st) : AO P X ops [] Q st := fun w a hr => ⟨st, h, hr⟩
theorem Does.step {o : Oper} (h : Does P X o st st') : Step P X o st st' := fun w a hr next Q hn => by
  unfold Oper.wp
  rcases h w a hr with ⟨v, w', hrun, hr'⟩ | ⟨w', hrun, hr'⟩
  · rw [hrun]; exact hn _ _ hr'
  · rw [hrun]; exact hn _ _ hr'
/-- An operation that is done here and now. -/
theorem AO.step {o : Oper} (hg : o.guard = none) (hd : Step P X o st st') (h : AO P X ops l Q st') : AO P X ops (o :: l) Q st := fun w a hr =>
  wpList_plain hg fun K hK => hd w a hr _ _ fun w' a' hr' => hK _ _ (h w' a' hr')
def gval (ops : Array Oper) (st : St) (j : Nat) : Option Bool :=
  match ops[j]? with
  | some o => match o.dst with
    | some d => match st.env d with
      | .val false [.v (.bool b)] => some b
      | _ => none
    | none => none
  | none => none
theorem gval_ok {w : World} {a : Act} (hr : R X st w a) {j : Nat} {b : Bool} (h : gval ops st j = some b) (hd : ∀ o d, ops[j]? = some o → o.dst = some d → X.ok d) : yielded ops a.tmps j = some b := by
  obtain ⟨g, hg, _⟩ := hr
  unfold gval at h
  split at h
  · rename_i o ho
    split at h
    · rename_i d hdd
      split at h
      · rename_i b' he
        injection h with h; subst h
        have := hg.env d
        rw [he] at this
        obtain ⟨h1, h2, h3⟩ := this
        obtain ⟨u, hu, h4, _⟩ := repL_single.1 h3
        rw [hu, h4] at h1
        have hlt := hd o d ho hdd
        have : a.tmps[d]? = some (.bool b') := by
          have hs : d < a.tmps.size := by rw [hg.tmps]; exact hlt.1
          rw [Array.getD_eq_getD_getElem?, Array.getElem?_eq_getElem hs] at h1
          rw [Array.getElem?_eq_getElem hs]
          exact congrArg some h1
        simp [yielded, ho, hdd, this]
      · cases h
    · cases h
  · cases h
def gtup (ops : Array Oper) (st : St) (j : Nat) : Bool := match ops[j]? with
  | some o => match o.dst with
    | some d => match st.env d with
      | .tup _ => true
      | _ => false
    | none => false
  | none => false
theorem gtup_ok {w : World} {a : Act} (hr : R X st w a) {j : Nat} (h : gtup ops st j = true) (hd : ∀ o d, ops[j]? = some o → o.dst = some d → X.ok d) : yielded ops a.tmps j = none := by
  obtain ⟨g, hg, _⟩ := hr
  unfold gtup at h
  split at h
  · rename_i o ho
    split at h
    · rename_i d hdd
      split at h
      · rename_i ls he
        have := hg.env d
        rw [he] at this
        obtain ⟨vs, h1, _⟩ := this
        have hlt := hd o d ho hdd
        have : a.tmps[d]? = some (.tuple vs.toArray) := by
          have hs : d < a.tmps.size := by rw [hg.tmps]; exact hlt.1
          rw [Array.getD_eq_getD_getElem?, Array.getElem?_eq_getElem hs] at h1
          rw [Array.getElem?_eq_getElem hs]
          exact congrArg some h1
        simp [yielded, ho, hdd, this]
      · cases h
    · cases h
  · cases h
theorem AO.skip0 {o : Oper} {j : Nat} {b : Bool} (hg : o.guard = some (j, b)) (hy : ∀ w a, R X st w a → yielded ops a.tmps j ≠ some b) (hdo : ∀ d, o.dst = some d → X.ok d)
    (h : AO P X ops l Q (match o.dst with | some d => st.put d (.tup []) | none => st)) : AO P X ops (o :: l) Q st := fun w a hr => by
  have hy := hy w a hr
  unfold wpList
  rw [if_neg (by simp [Region.wanted, hg, hy])]
  refine h w _ ?_
  cases hdd : o.dst with
  | none => exact hr
  | some d =>
    obtain ⟨g, h1, hh⟩ := hr
    exact R.putL h1 hh (hdo d hdd) (us := []) (by simp [L.base]) ⟨[], rfl, rfl, rfl⟩
theorem AO.skip {o : Oper} {j : Nat} {b b' : Bool} (hg : o.guard = some (j, b)) (hv : gval ops st j = some b') (hb : b' ≠ b) (hd : ∀ o d, ops[j]? = some o → o.dst = some d → X.ok d) (hdo : ∀ d, o.dst = some d → X.ok d)
    (h : AO P X ops l Q (match o.dst with | some d => st.put d (.tup []) | none => st)) : AO P X ops (o :: l) Q st :=
  AO.skip0 hg (fun w a hr => by rw [gval_ok hr hv hd]; simp [hb]) hdo h
theorem AO.skipU {o : Oper} {j : Nat} {b : Bool} (hg : o.guard = some (j, b)) (hv : gtup ops st j = true) (hd : ∀ o d, ops[j]? = some o → o.dst = some d → X.ok d) (hdo : ∀ d, o.dst = some d → X.ok d)
    (h : AO P X ops l Q (match o.dst with | some d => st.put d (.tup []) | none => st)) : AO P X ops (o :: l) Q st :=
  AO.skip0 hg (fun w a hr => by rw [gtup_ok hr hv hd]; simp) hdo h
theorem AO.stepG {o : Oper} {j : Nat} {b : Bool} (hg : o.guard = some (j, b)) (hv : gval ops st j = some b) (hd0 : ∀ o d, ops[j]? = some o → o.dst = some d → X.ok d) (hd : Step P X o st st') (h : AO P X ops l Q st') : AO P X ops (o :: l) Q st := fun w a hr => by
  have hy := gval_ok hr hv hd0
  refine wpList_step fun K hK => ?_
  rw [if_pos (by simp [Region.wanted, hg, hy])]
  exact hd w a hr _ _ fun w' a' hr' => hK _ _ (h w' a' hr')
end

/-! ### A call that only reads -/
mutual
def stt : C → C
  | .v x => .v x
  | .d => .d
  | .s _ z xs => .s false z (sttR xs)
def sttL : List C → List C
  | [] => []
  | c :: cs => stt c :: sttL cs
def sttR : List (List C) → List (List C)
  | [] => []
  | c :: cs => sttL c :: sttR cs
end
theorem sttL_map : ∀ cs, sttL cs = cs.map stt
  | [] => rfl
  | c :: cs => by simp [sttL, sttL_map cs]
theorem sttR_map : ∀ xs, sttR xs = xs.map (·.map stt)
  | [] => rfl
  | c :: cs => by simp [sttR, sttR_map cs, sttL_map]
theorem sttR_len (xs : List (List C)) : (sttR xs).length = xs.length := by simp [sttR_map]
mutual
theorem repC_stt {W : World} {Z Z' : Nat → Prop} : ∀ (c : C) {u : Value} {bs : List Nat}, repC W Z c u bs → (∀ b, Z b → Z' b) → (∀ b ∈ bs, Z' b) → repC W Z' (stt c) u []
  | .v x, u, bs, h, _, _ => ⟨h.1, h.2.1, rfl⟩
  | .d, u, bs, h, _, _ => ⟨h.1, rfl⟩
  | .s o z xs, u, bs, h, hz, hb => by
    obtain ⟨A, c, rfl, hlc, hA⟩ := h
    refine ⟨A, c, by rw [sttR_len], by rw [sttR_len]; exact hlc, ?_⟩
    cases A with
    | none => exact ⟨by rw [sttR_len]; exact hA.1, hA.2.1, rfl⟩
    | some ad =>
      rcases hA with ⟨h1, h2, rfl⟩ | ⟨arr, T, fr, inn, g1, g2, g3, g4, g5⟩
      · exact .inl ⟨rfl, by rw [sttR_len]; exact h2, rfl⟩
      · have hzb : Z' ad.block := by
          cases o with
          | true => exact hb _ (by rw [(g3 rfl).2.1]; simp)
          | false => exact hz _ (g4 rfl).1
        have hin : ∀ b ∈ inn, Z' b := by
          cases o with
          | true => exact fun b hbb => hb _ (by rw [(g3 rfl).2.1]; simp [hbb])
          | false => rw [(g4 rfl).2.2]; intro b hbb; cases hbb
        exact .inr ⟨arr, T, fr, [], g1, g2, (fun h => Bool.noConfusion h), fun _ => ⟨hzb, rfl, rfl⟩, repR_stt z xs g5 hz hin⟩
theorem repL_stt {W : World} {Z Z' : Nat → Prop} : ∀ (cs : List C) {us : List Value} {bs : List Nat}, repL W Z cs us bs → (∀ b, Z b → Z' b) → (∀ b ∈ bs, Z' b) → repL W Z' (sttL cs) us []
  | [], us, bs, h, _, _ => ⟨h.1, rfl⟩
  | c :: cs, us, bs, h, hz, hb => by
    obtain ⟨u, us', b1, b2, rfl, rfl, h1, h2⟩ := h
    exact ⟨u, us', [], [], rfl, rfl, repC_stt c h1 hz (fun b h => hb b (by simp [h])), repL_stt cs h2 hz (fun b h => hb b (by simp [h]))⟩
theorem repR_stt {W : World} {Z Z' : Nat → Prop} (z : Nat) : ∀ (xs : List (List C)) {us : List Value} {bs : List Nat}, repR W Z z xs us bs → (∀ b, Z b → Z' b) → (∀ b ∈ bs, Z' b) → repR W Z' z (sttR xs) us []
  | [], us, bs, h, _, _ => rfl
  | e :: es, us, bs, h, hz, hb => by
    obtain ⟨u1, us', b1, b2, rfl, hl, rfl, h1, h2⟩ := h
    exact ⟨u1, us', [], [], rfl, hl, rfl, repL_stt e h1 hz (fun b h => hb b (by simp [h])), repR_stt z es h2 hz (fun b h => hb b (by simp [h]))⟩
end
/-- What an operand shows, to be read alone. -/
def snap (st : St) : Operand → Option (Bool × List C)
  | .const v => match v with
    | .slice none 0 0 => some (false, [.s false 0 []])
    | v => if v.oneCell' then some (false, [.v v]) else none
  | .tmp t => match st.env t with
    | .val g cs => some (g, sttL cs)
    | .ref r off ps g k => match st.cells r with
      | some cs => (getC cs off ps k).map fun sub => (g, sttL sub)
      | none => none
    | .win r off ps lo hi => match st.cells r with
      | some cs => match getC cs off ps 1 with
        | some [.s o z xs] => some (false, [.s false z (((sttR xs).drop lo).take (hi - lo))])
        | _ => none
      | none => none
    | _ => none
  | _ => none
def ZA (w : World) (b : Nat) : Prop := b < w.heap.size
def snapRt (st : St) : Operand → Option Rt
  | .tmp t => match st.env t with
    | .val _ _ => some (.slot t)
    | .ref r _ _ _ _ => some r
    | .win r _ _ _ _ => some r
    | _ => none
  | _ => none
theorem snap_ok {w : World} {a : Act} {g : Gh} (h : Conc X st w a g) {x : Operand} {gg : Bool} {cs : List C} (hx : snap st x = some (gg, cs)) {Z : Nat → Prop} (hz : ∀ b, Z0 X.w0 X.F b → Z b) (hzr : ∀ r b, snapRt st x = some r → b ∈ g.bl r → Z b) :
    ∃ us, a.eval x = pack gg us ∧ (gg = false → cs.length = 1) ∧ repL w Z cs us [] := by
  cases x with
  | const v =>
    simp only [snap] at hx
    split at hx
    · simp only [Option.some.injEq, Prod.mk.injEq] at hx
      obtain ⟨rfl, rfl⟩ := hx
      exact ⟨[.slice none 0 0], rfl, fun _ => rfl, repL_single.2 ⟨_, rfl, none, 0, rfl, by simp, by simp, rfl, rfl⟩⟩
    · split at hx
      · rename_i hv
        simp only [Option.some.injEq, Prod.mk.injEq] at hx
        obtain ⟨rfl, rfl⟩ := hx
        exact ⟨[v], rfl, fun _ => rfl, repL_single.2 ⟨_, rfl, rfl, hv, rfl⟩⟩
      · cases hx
  | tmp t =>
    have henv := h.env t
    simp only [snap] at hx
    cases he : st.env t with
    | val g0 cs0 =>
      rw [he] at hx henv
      simp only [Option.some.injEq, Prod.mk.injEq] at hx
      obtain ⟨rfl, rfl⟩ := hx
      obtain ⟨h1, h2, h3⟩ := henv
      exact ⟨_, h1, fun hf => by rw [sttL_map, List.length_map]; exact h2 hf, repL_stt cs0 h3 hz (fun b hb => hzr _ b (by simp only [snapRt, he]) hb)⟩
    | ref r off ps g0 k =>
      rw [he] at hx henv
      simp only at hx
      split at hx
      · rename_i cs0 hc
        obtain ⟨sub, hg, heq⟩ := Option.map_eq_some_iff.1 hx
        simp only [Prod.mk.injEq] at heq
        obtain ⟨rfl, rfl⟩ := heq
        obtain ⟨h1, h2⟩ := henv
        obtain ⟨b, p, us', e1, e2⟩ := h2 cs0 hc (by rw [hg]; simp)
        obtain ⟨pre, bs, hb0, hrep, _⟩ := h.cells_root hc
        obtain ⟨b', p', us1, hr', hk, b1, b2, b3, hbs, hsub⟩ := get_ok ps (g.at_ r).1 (g.at_ r).2 off k hrep hg
        unfold Gh.rsv at e1
        rw [hr'] at e1
        simp only [Option.some.injEq, Prod.mk.injEq] at e1
        obtain ⟨rfl, rfl, rfl⟩ := e1
        have hl := repL_len hsub
        refine ⟨_, e2, fun hf => ?_, repL_stt sub hsub hz (fun b hb => hzr r b (by simp only [snapRt, he]) (by rw [hb0, hbs]; simp [hb]))⟩
        rw [sttL_map, List.length_map, ← hl, List.length_take, h1 hf]
        rw [h1 hf] at hk; omega
      · cases hx
    | win r off ps lo hi =>
      rw [he] at hx henv
      simp only at hx
      split at hx
      · rename_i cs0 hc
        split at hx
        · rename_i o z xs hg
          simp only [Option.some.injEq, Prod.mk.injEq] at hx
          obtain ⟨rfl, rfl⟩ := hx
          obtain ⟨k1, k2, b, p, u, us', e1, e2⟩ := henv cs0 o z xs hc hg
          obtain ⟨pre, bs, hb0, hrep, _⟩ := h.cells_root hc
          obtain ⟨b', p', us1, hr', hk, b1, b2, b3, hbs, hsub⟩ := get_ok ps (g.at_ r).1 (g.at_ r).2 off 1 hrep hg
          unfold Gh.rsv at e1
          rw [hr'] at e1
          simp only [Option.some.injEq, Prod.mk.injEq] at e1
          obtain ⟨rfl, rfl, rfl⟩ := e1
          simp only [List.take_succ_cons, List.take_zero, repL_single, List.cons.injEq, and_true, exists_eq_left'] at hsub
          have hs := repC_stt (Z' := Z) _ hsub hz (fun b hb => hzr r b (by simp only [snapRt, he]) (by rw [hb0, hbs]; simp [hb]))
          obtain ⟨bs', hw, hsl⟩ := repC_win hs k1 (by rw [sttR_len]; exact k2)
          have : bs' = [] := List.eq_nil_of_length_eq_zero (Nat.le_zero.1 hsl.length_le)
          subst this
          exact ⟨[winV z lo hi u], e2, fun _ => rfl, repL_single.2 ⟨_, rfl, hw⟩⟩
        · cases hx
      · cases hx
    | _ => rw [he] at hx; cases hx
  | _ => cases hx
end Go.Lvm
