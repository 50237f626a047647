/- Lemmas of the by-value machine and of the data that the contracts speak of: each holds under the hypotheses that it states. -/
import Derived.Test.YtmfdechkhdjebaaLvm16
set_option linter.unusedVariables false
set_option linter.unusedSimpArgs false
namespace Go.Lvm
variable {P : Program} {TT : Nat → Ty} {X : Fx} {st st' : St} {o : Oper} {d : Nat}
/-! ### What an operation makes of a state, by a function -/
/-- The table of types is right. -/
def Tab (P : Program) (TT : Nat → Ty) : Prop := ∀ t, (TT t).ok = true → TyOK P t (TT t) ∧ (TT t).zero.length = (TT t).size ∧ ((TT t).agg = false → (TT t).size = 1)
/-- A frame's measures: temporaries, parameters, those that stay. -/
structure Ev where
  n : Nat
  k : Nat
  as : List Ar
def Ev.ok (E : Ev) (X : Fx) : Prop := X.n = E.n ∧ (∀ d, d < E.n → leAt E.as d = false → X.ok d) ∧ ∀ d, E.k ≤ d → X.io d = none
def Ev.dst (E : Ev) (d : Nat) : Bool := decide (d < E.n) && !leAt E.as d
def Ev.src (E : Ev) : Operand → Bool
  | .tmp t => decide (t < E.n)
  | _ => true
section
variable (TT : Nat → Ty) (E : Ev)
def nz (t : Nat) : Nat := match (TT t).elem with
  | some e => (TT e).size
  | none => 0
def viewP (st : St) (d : Nat) (l : L) : Option St := if l.base = some (.slot d) then none else some (st.put d l)
def moveF (st : St) (d : Nat) (z : Nat) (x : Operand) : Option St :=
  match x with
  | .const (.slice none 0 0) => some (st.put d (.val false [.s true z []]))
  | x => (viewL st x).bind (viewP st d)
def assignF (st : St) (d : Nat) (z : Nat) (x : Operand) : Option St :=
  match x with
  | .tmp t => match st.env t with
    | .val gg cs => if cs.all isSt then some (st.put d (.val gg cs)) else if t < E.n then some ((st.put t .dead).put d (.val gg cs)) else none
    | _ => moveF st d z x
  | x => moveF st d z x
def scal (st : St) (d : Nat) (v : Option Value) : Option St := v.map fun v => st.put d (.val false [.v v])
def pickF (st : St) (c x y : Operand) : Option Value := match opv st c with
  | some (.bool b) => opv st (if b then x else y)
  | _ => none
def binS (st : St) (op : BinOp) (t : Nat) (x y : Operand) : Option Value := match opv st x, opv st y with
  | some (.bool p), some (.bool q) => if (TT t).ok && (TT t).bl then (match op with
    | .eql => some (.bool (p == q))
    | .neq => some (.bool (!(p == q)))
    | _ => none) else none
  | some vx, some vy => binF op vx vy
  | _, _ => none
def unS (st : St) (op : UnOp) (x : Operand) : Option Value := match op, opv st x with
  | .not, some (.bool b) => some (.bool !b)
  | .neg, some (.int k m) => some (.int k (k.wrap (0 - m)))
  | _, _ => none
def convS (st : St) (src dst : Nat) (x : Operand) : Option Value := if (TT src).ok && (TT dst).ok then (match (TT src).ik, (TT dst).ik, opv st x with
  | some k', some k, some (.int k2 m) => if k2 = k' then some (.int k (k.wrap m)) else none
  | _, _, _ => none) else none
def lenS (st : St) (t : Nat) (x : Operand) : Option Value := if (TT t).ok then (match (TT t).elem with
  | some _ => (sliceC st x).map fun q => .int .i64 q.2.2.length
  | none => if (TT t).str then (match opv st x with | some (.string s) => some (.int .i64 s.size) | _ => none) else none) else none
def intOf : Option Value → Option Int
  | some (.int _ j) => some j
  | _ => none
def bndF (st : St) (dflt : Nat) : Option Operand → Option Nat
  | none => some dflt
  | some q => match intOf (opv st q) with
    | some (.ofNat n) => some n
    | _ => none
def appF (st : St) (t t2 : Nat) (s x : Operand) : Option (Nat × List (List C) × St) :=
  match (TT t).elem, (TT t2).elem with
  | some e, some _ => if (TT t).ok && (TT t2).ok && (TT e).ok && E.src s && E.src x then (match st.grab (TT e).size s with
    | some (false, [.s true z xs], st1) => if z = (TT e).size then (match st1.elems x with
      | some (z', ys, st2) => if z' = (TT e).size then some (e, xs ++ ys, st2) else none
      | none => none) else none
    | _ => none) else none
  | _, _ => none
end
def appOK (TT : Nat → Ty) (e n : Nat) : Prop := n * (TT e).bytes ≤ 140737488355328 ∧ n ≤ 140737488355328
instance (TT : Nat → Ty) (e n : Nat) : Decidable (appOK TT e n) := inferInstanceAs (Decidable (_ ∧ _))
def dstF (TT : Nat → Ty) (E : Ev) (st : St) (o : Oper) (d : Nat) : Option St :=
  match o.op with
  | .move x => moveF st d (nz TT o.type) x
  | .assign x => assignF E st d (nz TT o.type) x
  | .pick c x y => scal st d (pickF st c x y)
  | .binOp op t x y _ => scal st d (binS TT st op t x y)
  | .unOp op _ x => scal st d (unS st op x)
  | .convert s t x => scal st d (convS TT st s t x)
  | .load t x => if (TT t).ok then (loadL st x (TT t).size (TT t).agg).bind (viewP st d) else none
  | .fieldAddr s (.tmp t) k => if (TT s).ok && (TT s).agg then (match (TT s).flds[k]? with
    | some f => (fieldL st t f).bind (viewP st d)
    | none => none) else none
  | .indexAddr t x ix => match (TT t).elem, intOf (opv st ix) with
    | some e, some j => if (TT t).ok && (TT e).ok then (if 0 ≤ j then (indexL st x j.toNat (TT e).size).bind (viewP st d) else none) else none
    | _, _ => none
  | .nilCheck (.tmp t) => match st.env t with
    | .ptr r off ps => match st.cells r with
      | some cs => match getC cs off ps 0 with
        | some _ => if r = .slot d then none else some (st.put d (.ptr r off ps))
        | none => none
      | none => none
    | _ => none
  | .alloc t => if (TT t).ok && decide (E.k ≤ d) then some (st.born d (TT t).zero) else none
  | .box t x => if decide (E.k ≤ d) && E.src x then (match st.grab (nz TT t) x with
    | some (_, cs, st1) => some (st1.born d cs)
    | none => none) else none
  | .build t parts => if (TT t).ok && (TT t).agg && parts.toList.all (fun q => decide (q.1 < (TT t).flds.length) && E.src q.2) then (match st.parts (TT t).zero (partsOf TT t parts.toList) with
    | some (cs, st1) => some (st1.put d (.val true cs))
    | none => none) else none
  | .buildSlice t len parts => match (TT t).elem with
    | some e => if (TT t).ok && (TT e).ok && decide (len * (TT e).size ≤ 16777216) && parts.toList.all (fun q => E.src q.2) then (match st.parts (List.replicate len (TT e).zero).flatten (rowsOf (TT e).size (nz TT e) parts.toList) with
      | some (cs, st1) => some (st1.put d (.val false [.s true (TT e).size (chunk (TT e).size len cs)]))
      | none => none) else none
    | none => none
  | .makeSlice t x y => match (TT t).elem, opv st x, opv st y with
    | some e, some (.int k n), some (.int k' n') => if (TT t).ok && (TT e).ok then (if k = k' ∧ n = n' ∧ 0 ≤ n ∧ (TT e).bytes * n ≤ 281474976710656 ∧ n ≤ 281474976710656 then
      some (st.put d (.val false [.s true (TT e).size (List.replicate n.toNat (TT e).zero)])) else none) else none
    | _, _, _ => none
  | .slice t x low high none => match (TT t).elem, sliceC st x with
    | some e, some (_, z, xs) => if (TT t).ok && (TT e).ok then (match bndF st 0 low, bndF st xs.length high with
      | some lo, some hi => if z = (TT e).size ∧ lo ≤ hi ∧ hi ≤ xs.length then (sliceL st x lo hi).bind (viewP st d) else none
      | _, _ => none) else none
    | _, _ => none
  | .extract (.tmp t) i => match st.env t with
    | .tup ls => match ls[i]? with
      | some (gg, cs) => if t < E.n then some ((st.put t (.tup (ls.set i (gg, cs.map gone)))).put d (.val gg cs)) else none
      | none => none
    | _ => none
  | .call c => match c.callee with
    | .builtin .len => if h : c.args.size = 1 ∧ c.argTypes.size = 1 then scal st d (lenS TT st c.argTypes[0] c.args[0]) else none
    | .builtin .append => if h : c.args.size = 2 ∧ c.argTypes.size = 2 then (match appF TT E st c.argTypes[0] c.argTypes[1] c.args[0] c.args[1] with
      | some (e, xs, st1) => if appOK TT e xs.length then some (st1.put d (.val false [.s true (TT e).size xs])) else none
      | none => none) else none
    | _ => none
  | _ => none
def stF (TT : Nat → Ty) (E : Ev) (st : St) (o : Oper) : Option St :=
  match o.op with
  | .store t (.tmp p) x => if (TT t).ok && E.src x then (match st.grab (nz TT t) x with
    | some (_, cs, st1) => if cs.length = (TT t).size then (match st1.env p with
      | .ptr r off ps => match st1.cells r with
        | some c0 => match setC c0 off ps cs with
          | some c1 => some ((st1.setRoot r c1).touch r)
          | none => none
        | none => none
      | _ => none) else none
    | none => none) else none
  | _ => none
def stepF (TT : Nat → Ty) (E : Ev) (st : St) (o : Oper) : Option St :=
  match o.dst with
  | none => stF TT E st o
  | some d => if E.dst d then dstF TT E st o d else none
theorem extract_does {t i : Nat} {ls : List (Bool × List C)} {gg : Bool} {cs : List C} (ho : o.op = .extract (.tmp t) i) (he : st.env t = .tup ls) (hi : ls[i]? = some (gg, cs)) (ht : t < X.n) (hd : o.dst = some d) (hlt : X.ok d) :
    Does P X o st ((st.put t (.tup (ls.set i (gg, cs.map gone)))).put d (.val gg cs)) := by
  intro w a ⟨g, h, hh⟩
  left
  have henv := h.env t
  rw [he] at henv
  obtain ⟨vs, hv, htup⟩ := henv
  have key : ∀ {ls : List (Bool × List C)} {vs : List Value} {bs : List Nat} (i : Nat), tupOK w (Z0 X.w0 X.F) ls vs bs → ls[i]? = some (gg, cs) →
      ∃ us b1 b2 b3, vs[i]? = some (pack gg us) ∧ (gg = false → cs.length = 1) ∧ bs = b1 ++ b2 ++ b3 ∧ repL w (Z0 X.w0 X.F) cs us b2 ∧ tupOK w (Z0 X.w0 X.F) (ls.set i (gg, cs.map gone)) vs (b1 ++ b3) := by
    intro ls
    induction ls with
    | nil => intro vs bs i h e; simp at e
    | cons q ls ih =>
      intro vs bs i h e
      obtain ⟨g0, c0⟩ := q
      obtain ⟨us, vs', b1, b2, rfl, h1, rfl, h2, h3⟩ := h
      cases i with
      | zero =>
        simp only [List.getElem?_cons_zero, Option.some.injEq, Prod.mk.injEq] at e
        obtain ⟨rfl, rfl⟩ := e
        exact ⟨us, [], b1, b2, rfl, h1, by simp, h2, us, vs', [], b2, rfl, fun hf => by simpa using h1 hf, by simp, repL_gone h2, h3⟩
      | succ i =>
        obtain ⟨us1, d1, d2, d3, k1, k2, rfl, k3, k4⟩ := ih i h3 (by simpa using e)
        exact ⟨us1, b1 ++ d1, d2, d3, by simpa using k1, k2, by simp, k3, us, vs', b1, d1 ++ d3, rfl, h1, by simp, h2, k4⟩
  obtain ⟨us, b1, b2, b3, k1, k2, k3, k4, k5⟩ := key i htup hi
  have hnd := h.own.nd (.slot t)
  rw [k3] at hnd
  have hown := Own.give h.own h.keeps.size (r := .slot t) (i := 0) (l := b1 ++ b3) (b := b2) (by simp) (by
    have hp : ((b1 ++ b3) ++ b2).Perm (b1 ++ b2 ++ b3) := by
      rw [List.perm_iff_count]; intro y; simp only [List.count_append]; omega
    exact hp.nodup_iff.2 hnd) (fun x hx => by rw [k3]; simp at hx ⊢; grind)
  have h1 := h.put ht (.tup (ls.set i (gg, cs.map gone))) (a.tmps.getD t undef) (.inr rfl) (g.us (.slot t)) (g.give (.slot t) (b1 ++ b3) 0 b2) (fun r hr hr' => by simp [Gh.give, hr', hr 0]) hown ⟨vs, hv, by simpa [Gh.give] using k5⟩
  rw [put_self h.tmps ht] at h1
  obtain ⟨g2, h2, e1, e2⟩ := h1.putHand hlt 0 k2 (us := us) (by simpa [Gh.put, Gh.give] using k4)
  refine ⟨pack gg us, w, ?_, ?_⟩
  · show (execOp a.eval o).run P w = _
    simp only [execOp, ho, Act.eval, hv]
    have : (Instr.extract (.tuple vs.toArray) i).run P w = .ok (pack gg us) w := by
      simp [Instr.extract, k1]
    rw [Sem.run_bind, this]; rfl
  · rw [hd]
    refine ⟨g2, h2, fun j => ?_⟩
    by_cases hj : j = 0
    · subst hj; exact e1
    · rw [e2 j hj]; simp [Gh.put, Gh.give, hj]; exact hh j
end Go.Lvm
