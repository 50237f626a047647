/- Lemmas of the by-value machine and of the data that the contracts speak of: each holds under the hypotheses that it states. -/
import Derived.Test.YtmfdechkhdjebaaLvm23
set_option linter.unusedVariables false
set_option linter.unusedSimpArgs false
namespace Go.Lvm
variable {P : Program} {TT : Nat → Ty} {X : Fx} {E : Ev} {st st' : St} {o : Oper} {d : Nat} {ops : Array Oper} {Q : Ex → St → Prop} {l : List Oper}
/-! ### Guards, joins -/
/-- A region that ends in one known state, however its guards fall. -/
def endQ (S0 : St) : Ex → St → Prop
  | .normal, s => s = S0
  | _, _ => False
theorem AW.regB {S0 : St} {id : Nat} (ks vs : List Nat) (d : Nat) (b : Bool) (hs : some ((keep ks vs st).put d (.val false [.v (.bool b)])) = some S0) (h : AO P X ops ops.toList (endQ S0) st) (hq : Q .normal S0) : AW P X (.region id ops false) Q st :=
  (AW.region h).mono fun e s hs => by
    cases e with
    | normal => cases hs; exact hq
    | exit id => exact hs.elim
    | ret => exact hs.elim
/-- The guard's value decides. -/
theorem AO.guard {t : Bool} (j : Nat) (hv : gval ops st j = some t) (h1 : t = true → AO P X ops l Q st) (h2 : t = false → AO P X ops l Q st) : AO P X ops l Q st := by
  cases t with
  | true => exact h1 rfl
  | false => exact h2 rfl
theorem AO.finB {S0 : St} (hT : Tab P TT) (hE : E.ok X) (ks vs : List Nat) (h : runK TT E ks vs ops l st = some S0) : AO P X ops l (endQ S0) st := AO.fin hT hE ks vs h rfl
theorem AW.iteV {c : Operand} {x y : Code} {v : Value} {t : Bool} (hc : opv st c = some v) (hv : v = .bool t) (h1 : t = true → AW P X x Q st) (h2 : t = false → AW P X y Q st) : AW P X (.cond c x y) Q st := AW.ite (hc.trans (congrArg some hv)) h1 h2
def gvV (ops : Array Oper) (st : St) (j : Nat) : Option Value := match ops[j]? with
  | some o => match o.dst with
    | some d => match st.env d with
      | .val false [.v x] => some x
      | _ => none
    | none => none
  | none => none
theorem AO.guardV {v : Value} {t : Bool} (j : Nat) (hv : gvV ops st j = some v) (hb : v = .bool t) (h1 : t = true → AO P X ops l Q st) (h2 : t = false → AO P X ops l Q st) : AO P X ops l Q st := by
  cases t with
  | true => exact h1 rfl
  | false => exact h2 rfl
theorem AO.runK (hT : Tab P TT) (hE : E.ok X) (ks vs : List Nat) (k : Nat) (h : runK TT E ks vs ops (l.take k) st = some st') (hq : AO P X ops (l.drop k) Q st') : AO P X ops l Q st := by
  obtain ⟨st1, h1, rfl⟩ := Option.map_eq_some_iff.1 h
  rw [← List.take_append_drop k l]
  exact runF_ok hT hE _ h1 (fun w a hr => hq w a (Wk.keep ks vs w a hr))
section
variable (TT E st) (d : Nat) (t u k i : Nat) (x y z : Operand) (s : String) (af : Array Edge) (gg : Option (Nat × Bool)) (lo hi : Option Operand)
theorem ev_makeS : stepF TT E st { dst := some d, op := .makeSlice u x y, type := t, pos := s, after := af, guard := gg } = if E.dst d then (match (TT u).elem, opv st x, opv st y with
    | some e, some (.int k n), some (.int k' n') => if (TT u).ok && (TT e).ok then (if k = k' ∧ n = n' ∧ 0 ≤ n ∧ (TT e).bytes * n ≤ 281474976710656 ∧ n ≤ 281474976710656 then
      some (st.put d (.val false [.s true (TT e).size (List.replicate n.toNat (TT e).zero)])) else none) else none
    | _, _, _ => none) else none := rfl
theorem ev_slice : stepF TT E st { dst := some d, op := .slice u x lo hi none, type := t, pos := s, after := af, guard := gg } = if E.dst d then (match (TT u).elem, sliceC st x with
    | some e, some (_, z, xs) => if (TT u).ok && (TT e).ok then (match bndF st 0 lo, bndF st xs.length hi with
      | some lo, some hi => if z = (TT e).size ∧ lo ≤ hi ∧ hi ≤ xs.length then (sliceL st x lo hi).bind (viewP st d) else none
      | _, _ => none) else none
    | _, _ => none) else none := rfl
end
/-- What holds in between. -/
theorem AW.mid {c : Code} (M : St → Prop) (h : AW P X c (fun e s => match e with | .normal => M s | e => Q e s) st) (h2 : ∀ s, M s → Q .normal s) : AW P X c Q st :=
  h.mono fun e s q => by
    cases e with
    | normal => exact h2 s q
    | exit id => exact q
    | ret => exact q
def touE2 (r : Rt) : List (Nat × L) → List (Nat × L)
  | [] => []
  | (a, l) :: q => (a, l.touch2 r) :: touE2 r q
theorem lk_touE2 (q : Rt) : ∀ (e : List (Nat × L)) (t : Nat), lk (touE2 q e) t = (lk e t).touch2 q
  | [], t => rfl
  | (a, l) :: r, t => by
    simp only [touE2, lk]
    split
    · rfl
    · exact lk_touE2 q r t
theorem mk_touch2 (e : List (Nat × L)) (v : List (Nat × List C)) (r : Rt) : (mk e v).touch2 r = mk (touE2 r e) v :=
  St.ext' (fun t => (lk_touE2 r e t).symm) (fun t => rfl)
/-- What a Bool's being true, or false, says. -/
class BP (t : Bool) (p q : outParam Prop) : Prop where
  ip : t = true ↔ p
  iq : t = false ↔ q
theorem BP.pos {t : Bool} {p q : Prop} [h : BP t p q] (e : t = true) : p := h.ip.1 e
theorem BP.neg {t : Bool} {p q : Prop} [h : BP t p q] (e : t = false) : q := h.iq.1 e
instance (priority := low) BP.any (t : Bool) : BP t (t = true) (t = false) := ⟨Iff.rfl, Iff.rfl⟩
instance BP.dec (p : Prop) [Decidable p] : BP (decide p) p (¬ p) := ⟨decide_eq_true_iff, decide_eq_false_iff_not⟩
instance BP.not (t : Bool) (p q : Prop) [h : BP t p q] : BP (!t) q p := ⟨by rw [← h.iq]; simp, by rw [← h.ip]; simp⟩
instance BP.beq {α : Type} [BEq α] [LawfulBEq α] (a b : α) : BP (a == b) (a = b) (a ≠ b) := ⟨by simp, by simp⟩
instance BP.bne {α : Type} [BEq α] [LawfulBEq α] (a b : α) : BP (a != b) (a ≠ b) (a = b) := ⟨by simp, by simp⟩
instance BP.and (t u : Bool) (p q p' q' : Prop) [h : BP t p q] [h' : BP u p' q'] : BP (t && u) (p ∧ p') (¬ (p ∧ p')) := ⟨by rw [← h.ip, ← h'.ip]; simp, by rw [← h.ip, ← h'.ip]; simp⟩
instance BP.or (t u : Bool) (p q p' q' : Prop) [h : BP t p q] [h' : BP u p' q'] : BP (t || u) (p ∨ p') (q ∧ q') := ⟨by rw [← h.ip, ← h'.ip]; simp, by rw [← h.iq, ← h'.iq]; simp⟩
/-! ### Calls in any order -/
theorem OpDo.stepG (hE : E.ok X) {i : Nat} (ho : ops[i]? = some o) (hg : o.guard = none) (hs : Step P X o st st') (ks vs : List Nat) {st'' : St} (hk : some (keep ks vs st') = some st'') : OpDo P X ops i st st'' := by
  injection hk with hk; subst hk
  exact (OpDo.step ho hg hs).wk (Wk.keep ks vs)
theorem Step.call (hE : E.ok X) {facts : List (Value × C)} {f : FuncId} {as : List Ar} {res : List (Bool × List C)} {xs : Array Operand} {ats : Array TypeId} {d t : Nat} {s : String} {af : Array Edge} {gg : Option (Nat × Bool)} (rs : List (Option Rt)) {st1 st2 st3 : St}
    (hS : Spec P facts f as res) (hd : E.dst d = true) (hlen : as.length = xs.size) (hfa : ∀ x c, (x, c) ∈ facts → repC X.w0 (Z0 X.w0 X.F) c x [])
    (h1 : mvS TT E (as.zip xs.toList) st = some st1) (h2 : mvP TT E (as.zip xs.toList) st) (h3 : lendS (as.zip xs.toList) st1 = some st2) (h4 : lendP (as.zip xs.toList) rs st1) (h5 : roP st2 rs (as.zip xs.toList)) (h6 : backS (as.zip xs.toList) st2 = some st3) (h7 : backP (as.zip xs.toList) st2) :
    Step P X { dst := some d, op := .call { callee := .value (.func f), args := xs, argTypes := ats }, type := t, pos := s, after := af, guard := gg } st (st3.put d (resL res)) :=
  call_step rfl hS hlen (mv_ok hE h1 h2) (lend_ok h3 h4) (ro_ok h5) (back_ok h6 h7) hfa rfl (Ev.dst_ok hE hd)
theorem Step.callR (hE : E.ok X) {facts : List (Value × C)} {f : FuncId} {as : List Ar} {res : List (Bool × List C)} {xs : Array Operand} {ats : Array TypeId} {d t : Nat} {s : String} {af : Array Edge} {gg : Option (Nat × Bool)}
    (hS : Spec P facts f as res) (hd : E.dst d = true) (hr : ros st as xs.toList) (hfa : ∀ x c, (x, c) ∈ facts → repC X.w0 (Z0 X.w0 X.F) c x []) :
    Step P X { dst := some d, op := .call { callee := .value (.func f), args := xs, argTypes := ats }, type := t, pos := s, after := af, guard := gg } st (st.put d (resL res)) := by
  obtain ⟨k1, k2, ⟨rs, k3, k4⟩, k5, k6⟩ := ros_ok (X := X) hr
  refine call_step rfl hS (by simpa using k1) k2 k3 (fun p hp => ?_) k6 hfa rfl (Ev.dst_ok hE hd)
  obtain ⟨g, cs, e1, e2⟩ := k5 p hp
  obtain ⟨q, x⟩ := p
  simp only at e1 e2; subst e1
  exact ⟨e2, .inr fun r _ => k4 r⟩
theorem OpDo.callR (hE : E.ok X) {i : Nat} {facts : List (Value × C)} {f : FuncId} {as : List Ar} {res : List (Bool × List C)} {xs : Array Operand} {ats : Array TypeId} {d t : Nat} {s : String} {af : Array Edge}
    (hS : Spec P facts f as res) (ho : ops[i]? = some { dst := some d, op := .call { callee := .value (.func f), args := xs, argTypes := ats }, type := t, pos := s, after := af, guard := none }) (hd : E.dst d = true) (hr : ros st as xs.toList) (hfa : ∀ x c, (x, c) ∈ facts → repC X.w0 (Z0 X.w0 X.F) c x [])
    (ks vs : List Nat) {st'' : St} (hk : some (keep ks vs (st.put d (resL res))) = some st'') : OpDo P X ops i st st'' :=
  OpDo.stepG hE ho rfl (Step.callR hE hS hd hr hfa) ks vs hk
theorem OpDo.callG (hE : E.ok X) {i : Nat} {facts : List (Value × C)} {f : FuncId} {as : List Ar} {res : List (Bool × List C)} {xs : Array Operand} {ats : Array TypeId} {d t : Nat} {s : String} {af : Array Edge} (rs : List (Option Rt)) {st1 st2 st3 : St}
    (hS : Spec P facts f as res) (ho : ops[i]? = some { dst := some d, op := .call { callee := .value (.func f), args := xs, argTypes := ats }, type := t, pos := s, after := af, guard := none }) (hd : E.dst d = true) (hlen : as.length = xs.size) (hfa : ∀ x c, (x, c) ∈ facts → repC X.w0 (Z0 X.w0 X.F) c x [])
    (h1 : mvS TT E (as.zip xs.toList) st = some st1) (h2 : mvP TT E (as.zip xs.toList) st) (h3 : lendS (as.zip xs.toList) st1 = some st2) (h4 : lendP (as.zip xs.toList) rs st1) (h5 : roP st2 rs (as.zip xs.toList)) (h6 : backS (as.zip xs.toList) st2 = some st3) (h7 : backP (as.zip xs.toList) st2)
    (ks vs : List Nat) {st'' : St} (hk : some (keep ks vs (st3.put d (resL res))) = some st'') : OpDo P X ops i st st'' :=
  OpDo.stepG hE ho rfl (Step.call hE rs hS hd hlen hfa h1 h2 h3 h4 h5 h6 h7) ks vs hk
theorem lkv_ite (c : Prop) [Decidable c] (a b : List (Nat × List C)) (t : Nat) : lkv (if c then a else b) t = if c then lkv a t else lkv b t := by split <;> rfl
theorem lk_ite (c : Prop) [Decidable c] (a b : List (Nat × L)) (t : Nat) : lk (if c then a else b) t = if c then lk a t else lk b t := by split <;> rfl
/-! ### Rows -/
/-- A list of data as rows of cells. -/
def rows {α : Type} (f : α → List C) (l : List α) : List (List C) := l.map f
variable {α : Type} (f g : α → List C) (l : List α)
theorem rows_len : (rows f l).length = l.length := by simp [rows]
theorem rows_nil : rows f [] = [] := rfl
theorem rows_cons (a : α) : rows f (a :: l) = f a :: rows f l := rfl
theorem rows_app (l' : List α) : rows f (l ++ l') = rows f l ++ rows f l' := by simp [rows]
theorem rows_get (i : Nat) (h : i < (rows f l).length) : (rows f l)[i] = f (l[i]'(by simpa [rows] using h)) := by simp [rows]
theorem rows_get? (i : Nat) : (rows f l)[i]? = (l[i]?).map f := by simp [rows]
theorem rows_take (i : Nat) : (rows f l).take i = rows f (l.take i) := by simp [rows, List.map_take]
theorem rows_drop (i : Nat) : (rows f l).drop i = rows f (l.drop i) := by simp [rows, List.map_drop]
theorem rows_set (i : Nat) (a : α) : (rows f l).set i (f a) = rows f (l.set i a) := by simp [rows, List.map_set]
theorem rows_rep (n : Nat) (a : α) : rows f (List.replicate n a) = List.replicate n (f a) := by simp [rows]
theorem rows_nil_iff : rows f l = [] ↔ l = [] := by simp [rows]
theorem sttR_rows (h : ∀ x, sttL (f x) = g x) : sttR (rows f l) = rows g l := by simp [rows, sttR_map, ← sttL_map, h]
theorem ownR_rows (h : ∀ x, ownL (f x) = true) : ownR (rows f l) = true := by
  induction l with
  | nil => rfl
  | cons a l ih => simp only [rows, List.map_cons, ownR, h, Bool.true_and]; exact ih
theorem allSt_rows (h : ∀ x, (f x).all isSt = true) : (rows f l).all (fun r => r.all isSt) = true := by simp only [rows, List.all_map, List.all_eq_true]; intro x _; exact h x
end Go.Lvm
