/- Lemmas of the by-value machine and of the data that the contracts speak of: each holds under the hypotheses that it states. -/
import Derived.Test.YtmfdechkhdjebaaLvm19
set_option linter.unusedVariables false
set_option linter.unusedSimpArgs false
namespace Go.Lvm
variable {P : Program} {TT : Nat → Ty} {X : Fx} {E : Ev} {st st' : St} {o : Oper} {d : Nat}
/-! ### Tables -/
def ttOf : List (Nat × Ty) → Nat → Ty
  | [], _ => {}
  | (a, T) :: r, t => if a = t then T else ttOf r t
def tabB (P : Program) (l : List (Nat × Ty)) : Bool := l.all fun p => Ty.good P p.1 p.2 && p.2.zero.length == p.2.size && (p.2.agg || p.2.size == 1)
theorem Tab.of {l : List (Nat × Ty)} (h : tabB P l = true) : Tab P (ttOf l) := by
  intro t ht
  induction l with
  | nil => simp [ttOf] at ht
  | cons p l ih =>
    obtain ⟨a, T⟩ := p
    simp only [tabB, List.all_cons, Bool.and_eq_true] at h
    simp only [ttOf] at ht ⊢
    split at ht
    · rename_i e
      rw [if_pos e]
      obtain ⟨⟨⟨h1, h2⟩, h3⟩, _⟩ := h
      subst e
      refine ⟨Ty.good_ok h1 ht, by simpa using h2, fun hf => ?_⟩
      rw [hf] at h3; simpa using h3
    · rename_i e
      rw [if_neg e]
      exact ih h.2 ht
/-! ### Evaluation, by shape -/
section
variable (TT E st) (d : Nat) (t u k i : Nat) (x y z : Operand) (s : String) (af : Array Edge) (gg : Option (Nat × Bool)) (ps : Array (Nat × Operand)) (lo hi : Option Operand)
theorem ev_move : stepF TT E st { dst := some d, op := .move x, type := t, pos := s, after := af, guard := gg } = if E.dst d then moveF st d (nz TT t) x else none := rfl
theorem ev_assign : stepF TT E st { dst := some d, op := .assign x, type := t, pos := s, after := af, guard := gg } = if E.dst d then assignF E st d (nz TT t) x else none := rfl
theorem ev_pick : stepF TT E st { dst := some d, op := .pick x y z, type := t, pos := s, after := af, guard := gg } = if E.dst d then scal st d (pickF st x y z) else none := rfl
theorem ev_bin (op : BinOp) : stepF TT E st { dst := some d, op := .binOp op u x y k, type := t, pos := s, after := af, guard := gg } = if E.dst d then scal st d (binS TT st op u x y) else none := rfl
theorem ev_un (op : UnOp) : stepF TT E st { dst := some d, op := .unOp op u x, type := t, pos := s, after := af, guard := gg } = if E.dst d then scal st d (unS st op x) else none := rfl
theorem ev_conv : stepF TT E st { dst := some d, op := .convert u k x, type := t, pos := s, after := af, guard := gg } = if E.dst d then scal st d (convS TT st u k x) else none := rfl
theorem ev_load : stepF TT E st { dst := some d, op := .load u x, type := t, pos := s, after := af, guard := gg } = if E.dst d then (if (TT u).ok then (loadL st x (TT u).size (TT u).agg).bind (viewP st d) else none) else none := rfl
theorem ev_field : stepF TT E st { dst := some d, op := .fieldAddr u (.tmp i) k, type := t, pos := s, after := af, guard := gg } = if E.dst d then (if (TT u).ok && (TT u).agg then (match (TT u).flds[k]? with | some f => (fieldL st i f).bind (viewP st d) | none => none) else none) else none := rfl
theorem ev_index : stepF TT E st { dst := some d, op := .indexAddr u x y, type := t, pos := s, after := af, guard := gg } = if E.dst d then (match (TT u).elem, intOf (opv st y) with | some e, some j => if (TT u).ok && (TT e).ok then (if 0 ≤ j then (indexL st x j.toNat (TT e).size).bind (viewP st d) else none) else none | _, _ => none) else none := rfl
theorem ev_alloc : stepF TT E st { dst := some d, op := .alloc u, type := t, pos := s, after := af, guard := gg } = if E.dst d then (if (TT u).ok && decide (E.k ≤ d) then some (st.born d (TT u).zero) else none) else none := rfl
theorem ev_box : stepF TT E st { dst := some d, op := .box u x, type := t, pos := s, after := af, guard := gg } = if E.dst d then (if decide (E.k ≤ d) && E.src x then (match st.grab (nz TT u) x with | some (_, cs, st1) => some (st1.born d cs) | none => none) else none) else none := rfl
theorem ev_extract : stepF TT E st { dst := some d, op := .extract (.tmp i) k, type := t, pos := s, after := af, guard := gg } = if E.dst d then (match st.env i with | .tup ls => (match ls[k]? with | some (gg, cs) => if i < E.n then some ((st.put i (.tup (ls.set k (gg, cs.map gone)))).put d (.val gg cs)) else none | none => none) | _ => none) else none := rfl
theorem ev_len : stepF TT E st { dst := some d, op := .call { callee := .builtin .len, args := #[x], argTypes := #[u] }, type := t, pos := s, after := af, guard := gg } = if E.dst d then scal st d (lenS TT st u x) else none := rfl
theorem ev_append : stepF TT E st { dst := some d, op := .call { callee := .builtin .append, args := #[x, y], argTypes := #[u, k] }, type := t, pos := s, after := af, guard := gg } = if E.dst d then (match appF TT E st u k x y with | some (e, xs, st1) => if appOK TT e xs.length then some (st1.put d (.val false [.s true (TT e).size xs])) else none | none => none) else none := rfl
theorem ev_build : stepF TT E st { dst := some d, op := .build u ps, type := t, pos := s, after := af, guard := gg } = if E.dst d then (if (TT u).ok && (TT u).agg && ps.toList.all (fun q => decide (q.1 < (TT u).flds.length) && E.src q.2) then (match st.parts (TT u).zero (partsOf TT u ps.toList) with
    | some (cs, st1) => some (st1.put d (.val true cs))
    | none => none) else none) else none := rfl
theorem ev_buildS : stepF TT E st { dst := some d, op := .buildSlice u k ps, type := t, pos := s, after := af, guard := gg } = if E.dst d then (match (TT u).elem with
    | some e => if (TT u).ok && (TT e).ok && decide (k * (TT e).size ≤ 16777216) && ps.toList.all (fun q => E.src q.2) then (match st.parts (List.replicate k (TT e).zero).flatten (rowsOf (TT e).size (nz TT e) ps.toList) with
      | some (cs, st1) => some (st1.put d (.val false [.s true (TT e).size (chunk (TT e).size k cs)]))
      | none => none) else none
    | none => none) else none := rfl
theorem ev_store : stepF TT E st { dst := none, op := .store u (.tmp i) x, type := t, pos := s, after := af, guard := gg } = if (TT u).ok && E.src x then (match st.grab (nz TT u) x with
    | some (_, cs, st1) => if cs.length = (TT u).size then (match st1.env i with
      | .ptr r off ps => match st1.cells r with
        | some c0 => match setC c0 off ps cs with
          | some c1 => some ((st1.setRoot r c1).touch r)
          | none => none
        | none => none
      | _ => none) else none
    | none => none) else none := rfl
end
theorem ev_cons_none {ops : Array Oper} {o : Oper} {l : List Oper} (h : o.guard = none) : runF TT E ops st (o :: l) = (stepF TT E st o).bind fun st1 => runF TT E ops st1 l := by simp [runF, h]
theorem ev_nil {ops : Array Oper} : runF TT E ops st [] = some st := rfl
theorem AW.regs (hT : Tab P TT) (hE : E.ok X) {id : Nat} {ops : Array Oper} {y : Code} {Q : Ex → St → Prop} (h : runF TT E ops st ops.toList = some st') (hq : AW P X y Q st') : AW P X (.seq (.region id ops false) y) Q st :=
  AW.seq (AW.reg hT hE h hq)
def st0E : List Ar → Nat → List (Nat × L)
  | [], _ => []
  | .ro g cs :: l, i => (i, .val g cs) :: st0E l (i + 1)
  | .mv g cs :: l, i => (i, .val g cs) :: st0E l (i + 1)
  | .le g cs _ :: l, i => (i, .val g cs) :: st0E l (i + 1)
  | .io _ _ :: l, i => (i, .ptr (.var i) 0 []) :: st0E l (i + 1)
def st0V : List Ar → Nat → List (Nat × List C)
  | [], _ => []
  | .io cs _ :: l, i => (i, cs) :: st0V l (i + 1)
  | _ :: l, i => st0V l (i + 1)
theorem st0E_lk : ∀ (l : List Ar) (i t : Nat), lk (st0E l i) t = if t < i then .dead else (match l[t - i]? with
    | some (.ro g cs) => .val g cs
    | some (.mv g cs) => .val g cs
    | some (.le g cs _) => .val g cs
    | some (.io _ _) => .ptr (.var t) 0 []
    | none => .dead)
  | [], i, t => by simp [st0E, lk]
  | q :: l, i, t => by
    have ih := st0E_lk l (i + 1) t
    by_cases h : t < i
    · have h2 : t < i + 1 := by omega
      have h3 : ¬ i = t := by omega
      rw [if_pos h2] at ih
      cases q <;> simp [st0E, lk, h3, ih, h]
    · by_cases h2 : i = t
      · subst h2
        cases q <;> simp [st0E, lk]
      · have h3 : ¬ t < i + 1 := by omega
        rw [if_neg h3] at ih
        have h4 : t - i = (t - (i + 1)) + 1 := by omega
        rw [if_neg h, h4, List.getElem?_cons_succ]
        cases q <;> simp [st0E, lk, h2, ih]
theorem st0V_lk : ∀ (l : List Ar) (i t : Nat), lkv (st0V l i) t = if t < i then none else (match l[t - i]? with
    | some (.io cs _) => some cs
    | _ => none)
  | [], i, t => by simp [st0V, lkv]
  | q :: l, i, t => by
    have ih := st0V_lk l (i + 1) t
    by_cases h : t < i
    · have h2 : t < i + 1 := by omega
      have h3 : ¬ i = t := by omega
      rw [if_pos h2] at ih
      cases q <;> simp [st0V, lkv, h3, ih, h]
    · by_cases h2 : i = t
      · subst h2
        rw [if_pos (by omega)] at ih
        cases q <;> simp [st0V, lkv, ih]
      · have h3 : ¬ t < i + 1 := by omega
        rw [if_neg h3] at ih
        have h4 : t - i = (t - (i + 1)) + 1 := by omega
        rw [if_neg h, h4, List.getElem?_cons_succ]
        cases q <;> simp [st0V, lkv, h2, ih]
theorem st0_mk (as : List Ar) : st0 as = mk (st0E as 0) (st0V as 0) := by
  refine St.ext' (fun t => ?_) (fun t => ?_)
  · show _ = lk _ t
    rw [st0E_lk]; simp [st0]
    cases as[t]? with
    | none => rfl
    | some q => cases q <;> rfl
  · show _ = lkv _ t
    rw [st0V_lk]; simp [st0]
    cases as[t]? with
    | none => rfl
    | some q => cases q <;> rfl
/-! ### What is kept; the end -/
def selE : List Nat → List (Nat × L) → List (Nat × L)
  | [], _ => []
  | t :: ks, e => (t, lk e t) :: selE ks e
def selV : List Nat → List (Nat × List C) → List (Nat × List C)
  | [], _ => []
  | t :: ks, e => match lkv e t with
    | some c => (t, c) :: selV ks e
    | none => selV ks e
/-- Of the temporaries, and of the variables, only these are kept. -/
def keep (ks vs : List Nat) (st : St) : St := ⟨fun t => if ks.contains t then st.env t else .dead, fun t => if vs.contains t then st.var t else none⟩
theorem Wk.keep (ks vs : List Nat) : Wk X st (keep ks vs st) := Wk.of (fun t => by simp only [Lvm.keep]; split <;> simp) (fun t => by simp only [Lvm.keep]; split <;> simp)
theorem lk_selE : ∀ (ks : List Nat) (e : List (Nat × L)) (t : Nat), lk (selE ks e) t = if ks.contains t then lk e t else .dead
  | [], e, t => by simp [selE, lk]
  | a :: ks, e, t => by
    have ih := lk_selE ks e t
    simp only [selE, lk]
    by_cases hat : a = t
    · subst hat; simp
    · have : ¬ t = a := fun e => hat e.symm
      rw [if_neg hat, ih]; simp [this]
theorem lkv_selV : ∀ (ks : List Nat) (e : List (Nat × List C)) (t : Nat), lkv (selV ks e) t = if ks.contains t then lkv e t else none
  | [], e, t => by simp [selV, lkv]
  | a :: ks, e, t => by
    have ih := lkv_selV ks e t
    simp only [selV]
    by_cases hat : a = t
    · subst hat
      cases h : lkv e a with
      | none => simp only [ih, h]; simp
      | some c => simp [lkv]
    · have hta : ¬ t = a := fun e => hat e.symm
      cases h : lkv e a with
      | none => simp only [ih]; simp [hta]
      | some c => simp only [lkv, if_neg hat, ih]; simp [hta]
theorem mk_keep (ks vs : List Nat) (e : List (Nat × L)) (v : List (Nat × List C)) : keep ks vs (mk e v) = mk (selE ks e) (selV vs v) :=
  St.ext' (fun t => (lk_selE ks e t).symm) (fun t => (lkv_selV vs v t).symm)
def runK (TT : Nat → Ty) (E : Ev) (ks vs : List Nat) (ops : Array Oper) (l : List Oper) (st : St) : Option St := (runF TT E ops st l).map (keep ks vs)
theorem AW.regk (hT : Tab P TT) (hE : E.ok X) (ks vs : List Nat) {id : Nat} {ops : Array Oper} {y : Code} {Q : Ex → St → Prop} (h : runK TT E ks vs ops ops.toList st = some st') (hq : AW P X y Q st') : AW P X (.seq (.region id ops false) y) Q st := by
  obtain ⟨st1, h1, rfl⟩ := Option.map_eq_some_iff.1 h
  exact AW.regs hT hE h1 (AW.wk (Wk.keep ks vs) hq)
def retF (TT : Nat → Ty) (E : Ev) : St → List ResultVar → Option (St × List (Bool × List C))
  | st, [] => some (st, [])
  | st, .tmp t :: l => if t < E.n then (match st.take t with
    | some (g, cs, st1) => if ownL cs then (retF TT E st1 l).map fun q => (q.1, (g, cs) :: q.2) else none
    | none => none) else none
  | st, .cell a t :: l => if (TT t).ok then (match st.env a with
    | .ptr r off ps => match st.cells r with
      | some c0 => match getC c0 off ps (TT t).size with
        | some cs => match setC c0 off ps (List.replicate cs.length .d) with
          | some c1 => if ownL cs && cs.length == (TT t).size then (retF TT E (st.setRoot r c1) l).map fun q => (q.1, ((TT t).agg, cs) :: q.2) else none
          | none => none
        | none => none
      | none => none
    | _ => none) else none
theorem retF_ok (hT : Tab P TT) (hE : E.ok X) : ∀ (l : List ResultVar) {st st1 : St} {res : List (Bool × List C)}, retF TT E st l = some (st1, res) → Rets P TT X st l st1 res
  | [], st, st1, res, h => by
    simp only [retF, Option.some.injEq, Prod.mk.injEq] at h
    obtain ⟨rfl, rfl⟩ := h; exact .nil _
  | .tmp t :: l, st, st1, res, h => by
    simp only [retF] at h
    split at h
    · rename_i hn
      split at h
      · rename_i g cs st2 ht
        split at h
        · rename_i ho
          obtain ⟨q, h1, h2⟩ := Option.map_eq_some_iff.1 h
          simp only [Prod.mk.injEq] at h2
          obtain ⟨h2, h3⟩ := h2
          subst h2; subst h3
          exact .tmp ht ho (by rw [hE.1]; exact hn) (retF_ok hT hE l h1)
        · cases h
      · cases h
    · cases h
  | .cell a t :: l, st, st1, res, h => by
    simp only [retF] at h
    split at h
    · rename_i hok
      split at h
      · rename_i r off ps he
        split at h
        · rename_i c0 hc
          split at h
          · rename_i cs hg
            split at h
            · rename_i c1 hs
              split at h
              · rename_i hb
                simp only [Bool.and_eq_true, beq_iff_eq] at hb
                obtain ⟨q, h1, h2⟩ := Option.map_eq_some_iff.1 h
                simp only [Prod.mk.injEq] at h2
                obtain ⟨h2, h3⟩ := h2
                subst h2; subst h3
                exact .cell he hc (by rw [hb.2]; exact hg) hs hb.1 (hT t hok).1 hb.2 rfl (hT t hok).2.2 (retF_ok hT hE l h1)
              · cases h
            · cases h
          · cases h
        · cases h
      · cases h
    · cases h
def finF (TT : Nat → Ty) (E : Ev) (as : List Ar) (rl : List ResultVar) (res : List (Bool × List C)) (st : St) : Prop := match retF TT E st rl with
  | some (st1, res') => res' = res ∧ Posts st1 0 as
  | none => False
theorem finF_ok (hT : Tab P TT) (hE : E.ok X) {as : List Ar} {rl : List ResultVar} {res : List (Bool × List C)} (h : finF TT E as rl res st) : ∃ st1, Rets P TT X st rl st1 res ∧ Posts st1 0 as := by
  unfold finF at h
  split at h
  · rename_i st1 res' hr
    obtain ⟨rfl, h2⟩ := h
    exact ⟨st1, retF_ok hT hE rl hr, h2⟩
  · exact h.elim
/-! ### What comes behind, by name -/
def thenQ (P : Program) (X : Fx) (y : Code) (Q : Ex → St → Prop) : Ex → St → Prop
  | .normal, st => AW P X y Q st
  | .exit id, st => Q (.exit id) st
  | .ret, st => Q .ret st
def blockQ (id : Nat) (Q : Ex → St → Prop) : Ex → St → Prop
  | .normal, st => Q .normal st
  | .exit id', st => if id' = id then Q .normal st else Q (.exit id') st
  | .ret, st => Q .ret st
/-- One round of a loop: it goes on with less, or leaves. -/
def loopQ (X : Fx) (I : Nat → St → Prop) (n : Nat) (Q : Ex → St → Prop) : Ex → St → Prop
  | .normal, st => ∃ m, m < n ∧ I m st
  | .exit id, st => Q (.exit id) st
  | .ret, st => Q .ret st
section
variable {Q : Ex → St → Prop} {ops : Array Oper} {l : List Oper} {x y c : Code} {id : Nat}
theorem AW.sq (h : AW P X x (thenQ P X y Q) st) : AW P X (.seq x y) Q st := AW.seq (h.mono fun e st q => by cases e <;> exact q)
theorem AW.bk (h : AW P X c (blockQ id Q) st) : AW P X (.block id c) Q st := AW.block (h.mono fun e st q => by cases e <;> exact q)
theorem AW.lp (I : Nat → St → Prop) (n : Nat) (h0 : I n st) (h : ∀ n st, I n st → AW P X c (loopQ X I n Q) st) : AW P X (.loop c) Q st :=
  AW.loop I n h0 fun n st hi => (h n st hi).mono fun e st q => by
    cases e with
    | normal => obtain ⟨m, h1, h2⟩ := q; exact ⟨m, st, h1, fun _ _ h => h, h2⟩
    | exit id => exact q
    | ret => exact q
theorem AO.nilW (hw : Wk X st st') (h : Q .normal st') : AO P X ops [] Q st := fun w a hr => ⟨st', h, hw w a hr⟩
/-- A region at the end of a piece of code. -/
theorem AW.regt (hT : Tab P TT) (hE : E.ok X) (ks vs : List Nat) (h : runK TT E ks vs ops ops.toList st = some st') (hq : Q .normal st') : AW P X (.region id ops false) Q st := by
  obtain ⟨st1, h1, rfl⟩ := Option.map_eq_some_iff.1 h
  refine AW.region ?_
  rw [← List.append_nil ops.toList]
  exact runF_ok hT hE _ h1 (AO.nilW (Wk.keep ks vs) hq)
theorem AW.rego (h : AO P X ops ops.toList Q st) : AW P X (.region id ops false) Q st := AW.region h
/-- The rest of a region, and what is kept of it. -/
theorem AO.fin (hT : Tab P TT) (hE : E.ok X) (ks vs : List Nat) (h : runK TT E ks vs ops l st = some st') (hq : Q .normal st') : AO P X ops l Q st := by
  obtain ⟨st1, h1, rfl⟩ := Option.map_eq_some_iff.1 h
  rw [← List.append_nil l]
  exact runF_ok hT hE l h1 (AO.nilW (Wk.keep ks vs) hq)
end
/-! ### Calls -/
def ros (st : St) : List Ar → List Operand → Prop
  | [], [] => True
  | .ro g cs :: l, x :: xs => snap st x = some (g, cs) ∧ ros st l xs
  | _, _ => False
theorem ros_ok : ∀ {as : List Ar} {xs : List Operand}, ros st as xs → as.length = xs.length ∧ Mvs X st (as.zip xs) st ∧ (∃ rs : List (Option Rt), Lents st (as.zip xs) st rs ∧ ∀ r, some r ∉ rs) ∧ (∀ p ∈ as.zip xs, ∃ g cs, p.1 = .ro g cs ∧ snap st p.2 = some (g, cs)) ∧ Backs st (as.zip xs) st
  | [], [], _ => ⟨rfl, .nil _, ⟨[], .nil _, by simp⟩, by simp, .nil _⟩
  | .ro g cs :: l, x :: xs, h => by
    obtain ⟨h1, h2⟩ := h
    obtain ⟨k1, k2, ⟨rs, k3, k4⟩, k5, k6⟩ := ros_ok h2
    refine ⟨by simp [k1], .ot rfl k2, ⟨none :: rs, .ot rfl k3, fun r hr => ?_⟩, fun p hp => ?_, .ot rfl k6⟩
    · rcases List.mem_cons.1 hr with h | h
      · cases h
      · exact k4 r h
    · rcases List.mem_cons.1 hp with rfl | h
      · exact ⟨g, cs, rfl, h1⟩
      · exact k5 p h
  | [], x :: xs, h => h.elim
  | .ro _ _ :: l, [], h => h.elim
  | .mv _ _ :: l, [], h => h.elim
  | .mv _ _ :: l, _ :: _, h => h.elim
  | .io _ _ :: l, [], h => h.elim
  | .io _ _ :: l, _ :: _, h => h.elim
  | .le _ _ _ :: l, [], h => h.elim
  | .le _ _ _ :: l, _ :: _, h => h.elim
def grd (E : Ev) (ops : Array Oper) (st : St) : Option (Nat × Bool) → Prop
  | none => True
  | some (j, b) => gokF E ops j = true ∧ gval ops st j = some b
theorem AO.stepAny (hE : E.ok X) {ops : Array Oper} {l : List Oper} {Q : Ex → St → Prop} (hg : grd E ops st o.guard) (hs : Step P X o st st') (h : AO P X ops l Q st') : AO P X ops (o :: l) Q st := by
  cases hgg : o.guard with
  | none => exact AO.step hgg hs h
  | some p =>
    obtain ⟨j, b⟩ := p
    rw [hgg] at hg
    exact AO.stepG hgg hg.2 (fun o d e1 e2 => by
      have := hg.1
      simp only [gokF, e1, e2] at this
      exact Ev.dst_ok hE this) hs h
theorem AO.callR (hE : E.ok X) {facts : List (Value × C)} {f : FuncId} {as : List Ar} {res : List (Bool × List C)} {xs : Array Operand} {ats : Array TypeId} {ops : Array Oper} {l : List Oper} {Q : Ex → St → Prop} {d t : Nat} {s : String} {af : Array Edge} {gg : Option (Nat × Bool)}
    (hS : Spec P facts f as res) (hg : grd E ops st gg) (hd : E.dst d = true) (hr : ros st as xs.toList) (hfa : ∀ x c, (x, c) ∈ facts → repC X.w0 (Z0 X.w0 X.F) c x []) (h : AO P X ops l Q (st.put d (resL res))) :
    AO P X ops ({ dst := some d, op := .call { callee := .value (.func f), args := xs, argTypes := ats }, type := t, pos := s, after := af, guard := gg } :: l) Q st := by
  obtain ⟨k1, k2, ⟨rs, k3, k4⟩, k5, k6⟩ := ros_ok (X := X) hr
  refine AO.stepAny hE hg (call_step rfl hS (by simpa using k1) k2 k3 (fun p hp => ?_) k6 hfa rfl (Ev.dst_ok hE hd)) h
  obtain ⟨g, cs, e1, e2⟩ := k5 p hp
  obtain ⟨q, x⟩ := p
  simp only at e1 e2; subst e1
  exact ⟨e2, .inr fun r _ => k4 r⟩
end Go.Lvm
