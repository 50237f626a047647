/- Lemmas of the by-value machine and of the data that the contracts speak of: each holds under the hypotheses that it states. -/
import Derived.Test.YtmfdechkhdjebaaLvm18
set_option linter.unusedVariables false
set_option linter.unusedSimpArgs false
namespace Go.Lvm
variable {P : Program} {TT : Nat → Ty} {X : Fx} {E : Ev} {st st' : St} {o : Oper} {d : Nat}
/-! ### Running a region -/
def gokF (E : Ev) (ops : Array Oper) (j : Nat) : Bool := match ops[j]? with
  | some o => match o.dst with
    | some d => E.dst d
    | none => true
  | none => true
def skipF (E : Ev) (st : St) (o : Oper) : Option St := match o.dst with
  | some d => if E.dst d then some (st.put d (.tup [])) else none
  | none => some st
def runF (TT : Nat → Ty) (E : Ev) (ops : Array Oper) : St → List Oper → Option St
  | st, [] => some st
  | st, o :: l => match o.guard with
    | none => (stepF TT E st o).bind fun st1 => runF TT E ops st1 l
    | some (j, b) => if gokF E ops j then (match gval ops st j with
      | some b' => if b' = b then (stepF TT E st o).bind fun st1 => runF TT E ops st1 l else (skipF E st o).bind fun st1 => runF TT E ops st1 l
      | none => if gtup ops st j then (skipF E st o).bind fun st1 => runF TT E ops st1 l else none) else none
theorem Ev.dst_ok (hE : E.ok X) (h : E.dst d = true) : X.ok d := by
  simp only [Ev.dst, Bool.and_eq_true, decide_eq_true_eq, Bool.not_eq_true'] at h
  exact hE.2.1 d h.1 h.2
theorem runF_ok (hT : Tab P TT) (hE : E.ok X) {ops : Array Oper} {Q : Ex → St → Prop} {l2 : List Oper} : ∀ (l : List Oper) {st st' : St}, runF TT E ops st l = some st' → AO P X ops l2 Q st' → AO P X ops (l ++ l2) Q st
  | [], st, st', h, hq => by
    simp only [runF, Option.some.injEq] at h
    subst h; exact hq
  | o :: l, st, st', h, hq => by
    simp only [runF] at h
    split at h
    · rename_i hg
      obtain ⟨st1, h1, h2⟩ := Option.bind_eq_some_iff.1 h
      exact AO.step hg (stepF_ok hT hE h1) (runF_ok hT hE l h2 hq)
    · rename_i j b hg
      split at h
      · rename_i hk
        have hk' : ∀ o d, ops[j]? = some o → o.dst = some d → X.ok d := by
          intro o d e1 e2
          simp only [gokF, e1, e2] at hk
          exact Ev.dst_ok hE hk
        have key : ∀ st1, skipF E st o = some st1 → runF TT E ops st1 l = some st' → ((∀ d, o.dst = some d → X.ok d) → AO P X ops (l ++ l2) Q (match o.dst with | some d => st.put d (.tup []) | none => st) → AO P X ops (o :: (l ++ l2)) Q st) → AO P X ops (o :: l ++ l2) Q st := by
          intro st1 h1 h2 hk2
          refine hk2 (fun d hd => ?_) ?_
          · simp only [skipF, hd] at h1
            split at h1
            · rename_i hdd; exact Ev.dst_ok hE hdd
            · cases h1
          · unfold skipF at h1
            split at h1
            · rename_i d hd
              split at h1
              · injection h1 with h1; subst h1
                try simp only [hd]
                exact runF_ok hT hE l h2 hq
              · cases h1
            · rename_i hd
              injection h1 with h1; subst h1
              try simp only [hd]
              exact runF_ok hT hE l h2 hq
        split at h
        · rename_i b' hv
          split at h
          · rename_i hb
            subst hb
            obtain ⟨st1, h1, h2⟩ := Option.bind_eq_some_iff.1 h
            exact AO.stepG hg hv hk' (stepF_ok hT hE h1) (runF_ok hT hE l h2 hq)
          · rename_i hb
            obtain ⟨st1, h1, h2⟩ := Option.bind_eq_some_iff.1 h
            exact key st1 h1 h2 (fun hdo hh => AO.skip hg hv hb hk' hdo hh)
        · split at h
          · rename_i hu
            obtain ⟨st1, h1, h2⟩ := Option.bind_eq_some_iff.1 h
            exact key st1 h1 h2 (fun hdo hh => AO.skipU hg hu hk' hdo hh)
          · cases h
      · cases h
theorem AW.reg (hT : Tab P TT) (hE : E.ok X) {id : Nat} {ops : Array Oper} {Q : Ex → St → Prop} (h : runF TT E ops st ops.toList = some st') (hq : Q .normal st') : AW P X (.region id ops false) Q st :=
  AW.region (by rw [← List.append_nil ops.toList]; exact runF_ok hT hE _ h (AO.nil hq))
theorem AO.run (hT : Tab P TT) (hE : E.ok X) (k : Nat) {ops : Array Oper} {l : List Oper} {Q : Ex → St → Prop} (h : runF TT E ops st (l.take k) = some st') (hq : AO P X ops (l.drop k) Q st') : AO P X ops l Q st := by
  rw [← List.take_append_drop k l]; exact runF_ok hT hE _ h hq
theorem AW.ite {c : Operand} {x y : Code} {t : Bool} {Q : Ex → St → Prop} (hc : opv st c = some (.bool t)) (h1 : t = true → AW P X x Q st) (h2 : t = false → AW P X y Q st) : AW P X (.cond c x y) Q st := by
  refine AW.cond hc ?_
  cases t with
  | true => exact h1 rfl
  | false => exact h2 rfl

/-! ### States as lists -/
def lk : List (Nat × L) → Nat → L
  | [], _ => .dead
  | (a, l) :: r, t => if a = t then l else lk r t
def lkv : List (Nat × List C) → Nat → Option (List C)
  | [], _ => none
  | (a, l) :: r, t => if a = t then some l else lkv r t
def mk (e : List (Nat × L)) (v : List (Nat × List C)) : St := ⟨lk e, lkv v⟩
def delE (d : Nat) : List (Nat × L) → List (Nat × L)
  | [] => []
  | (a, l) :: r => if a = d then delE d r else (a, l.kill (.slot d)) :: delE d r
def delB (d : Nat) : List (Nat × L) → List (Nat × L)
  | [] => []
  | (a, l) :: r => if a = d then delB d r else (a, (l.kill (.slot d)).kill (.var d)) :: delB d r
def delV (d : Nat) : List (Nat × List C) → List (Nat × List C)
  | [] => []
  | (a, l) :: r => if a = d then delV d r else (a, l) :: delV d r
def setE (d : Nat) (cs : List C) : List (Nat × L) → List (Nat × L)
  | [] => []
  | (a, l) :: r => if a = d then (a, l.setCells cs) :: setE d cs r else (a, l) :: setE d cs r
def touE (r : Rt) : List (Nat × L) → List (Nat × L)
  | [] => []
  | (a, l) :: q => (a, l.touch r) :: touE r q
theorem mk_env (e : List (Nat × L)) (v : List (Nat × List C)) (t : Nat) : (mk e v).env t = lk e t := rfl
theorem mk_var (e : List (Nat × L)) (v : List (Nat × List C)) (t : Nat) : (mk e v).var t = lkv v t := rfl
theorem mk_cv (e : List (Nat × L)) (v : List (Nat × List C)) (t : Nat) : (mk e v).cells (.var t) = lkv v t := rfl
theorem mk_cs (e : List (Nat × L)) (v : List (Nat × List C)) (t : Nat) : (mk e v).cells (.slot t) = (lk e t).cells := rfl
theorem St.ext' {a b : St} (h1 : ∀ t, a.env t = b.env t) (h2 : ∀ t, a.var t = b.var t) : a = b := by
  cases a; cases b; simp only [St.mk.injEq]; exact ⟨funext h1, funext h2⟩
theorem lk_delE (d : Nat) : ∀ (e : List (Nat × L)) (t : Nat), t ≠ d → lk (delE d e) t = (lk e t).kill (.slot d)
  | [], t, h => by simp [delE, lk, L.kill, L.base]
  | (a, l) :: r, t, h => by
    simp only [delE]
    by_cases ha : a = d
    · rw [if_pos ha, lk_delE d r t h]
      have : ¬ a = t := fun e => h (by rw [← e, ha])
      simp [lk, this]
    · rw [if_neg ha]
      simp only [lk]
      split
      · rfl
      · exact lk_delE d r t h
theorem lk_delB (d : Nat) : ∀ (e : List (Nat × L)) (t : Nat), t ≠ d → lk (delB d e) t = ((lk e t).kill (.slot d)).kill (.var d)
  | [], t, h => by simp [delB, lk, L.kill, L.base]
  | (a, l) :: r, t, h => by
    simp only [delB]
    by_cases ha : a = d
    · rw [if_pos ha, lk_delB d r t h]
      have : ¬ a = t := fun e => h (by rw [← e, ha])
      simp [lk, this]
    · rw [if_neg ha]
      simp only [lk]
      split
      · rfl
      · exact lk_delB d r t h
theorem lkv_delV (d : Nat) : ∀ (e : List (Nat × List C)) (t : Nat), t ≠ d → lkv (delV d e) t = lkv e t
  | [], t, h => rfl
  | (a, l) :: r, t, h => by
    simp only [delV]
    by_cases ha : a = d
    · rw [if_pos ha, lkv_delV d r t h]
      have : ¬ a = t := fun e => h (by rw [← e, ha])
      simp [lkv, this]
    · rw [if_neg ha]
      simp only [lkv]
      split
      · rfl
      · exact lkv_delV d r t h
theorem lk_setE (d : Nat) (cs : List C) : ∀ (e : List (Nat × L)) (t : Nat), lk (setE d cs e) t = if t = d then (lk e t).setCells cs else lk e t
  | [], t => by simp [setE, lk, L.setCells]
  | (a, l) :: r, t => by
    simp only [setE]
    by_cases ha : a = d
    · rw [if_pos ha]
      simp only [lk]
      by_cases hat : a = t
      · rw [if_pos hat, if_pos hat, if_pos (by rw [← hat, ha])]
      · rw [if_neg hat, if_neg hat, lk_setE d cs r t]
    · rw [if_neg ha]
      simp only [lk]
      by_cases hat : a = t
      · rw [if_pos hat, if_pos hat, if_neg (by rw [← hat]; exact ha)]
      · rw [if_neg hat, if_neg hat, lk_setE d cs r t]
theorem lk_touE (q : Rt) : ∀ (e : List (Nat × L)) (t : Nat), lk (touE q e) t = (lk e t).touch q
  | [], t => rfl
  | (a, l) :: r, t => by
    simp only [touE, lk]
    split
    · rfl
    · exact lk_touE q r t
theorem mk_put (e : List (Nat × L)) (v : List (Nat × List C)) (d : Nat) (l : L) : (mk e v).put d l = mk ((d, l) :: delE d e) v := by
  refine St.ext' (fun t => ?_) (fun t => rfl)
  show (if t = d then l else (lk e t).kill (.slot d)) = if d = t then l else lk (delE d e) t
  by_cases h : t = d
  · rw [if_pos h, if_pos h.symm]
  · rw [if_neg h, if_neg (fun e => h e.symm), lk_delE d e t h]
theorem mk_born (e : List (Nat × L)) (v : List (Nat × List C)) (d : Nat) (cs : List C) : (mk e v).born d cs = mk ((d, .ptr (.var d) 0 []) :: delB d e) ((d, cs) :: delV d v) := by
  refine St.ext' (fun t => ?_) (fun t => ?_)
  · show (if t = d then _ else ((lk e t).kill (.slot d)).kill (.var d)) = if d = t then _ else lk (delB d e) t
    by_cases h : t = d
    · rw [if_pos h, if_pos h.symm]
    · rw [if_neg h, if_neg (fun e => h e.symm), lk_delB d e t h]
  · show (if t = d then some cs else lkv v t) = if d = t then some cs else lkv (delV d v) t
    by_cases h : t = d
    · rw [if_pos h, if_pos h.symm]
    · rw [if_neg h, if_neg (fun e => h e.symm), lkv_delV d v t h]
theorem mk_rv (e : List (Nat × L)) (v : List (Nat × List C)) (d : Nat) (cs : List C) : (mk e v).setRoot (.var d) cs = mk e ((d, cs) :: delV d v) := by
  refine St.ext' (fun t => rfl) (fun t => ?_)
  show (if t = d then some cs else lkv v t) = if d = t then some cs else lkv (delV d v) t
  by_cases h : t = d
  · rw [if_pos h, if_pos h.symm]
  · rw [if_neg h, if_neg (fun e => h e.symm), lkv_delV d v t h]
theorem mk_rs (e : List (Nat × L)) (v : List (Nat × List C)) (d : Nat) (cs : List C) : (mk e v).setRoot (.slot d) cs = mk (setE d cs e) v := by
  refine St.ext' (fun t => ?_) (fun t => rfl)
  show (if t = d then (lk e t).setCells cs else lk e t) = lk (setE d cs e) t
  rw [lk_setE]
theorem mk_touch (e : List (Nat × L)) (v : List (Nat × List C)) (r : Rt) : (mk e v).touch r = mk (touE r e) v :=
  St.ext' (fun t => (lk_touE r e t).symm) (fun t => rfl)
/-- Only some of what is known is kept. -/
def subE (e' e : List (Nat × L)) : Prop := ∀ q ∈ e', lk e q.1 = q.2
theorem lk_mem : ∀ (e : List (Nat × L)) (t : Nat), lk e t = .dead ∨ ∃ q ∈ e, q.1 = t ∧ lk e t = q.2
  | [], t => .inl rfl
  | (a, l) :: r, t => by
    simp only [lk]
    split
    · rename_i h; exact .inr ⟨(a, l), by simp, h, rfl⟩
    · rcases lk_mem r t with h | ⟨q, h1, h2, h3⟩
      · exact .inl h
      · exact .inr ⟨q, by simp [h1], h2, h3⟩
theorem lkv_mem : ∀ (e : List (Nat × List C)) (t : Nat), lkv e t = none ∨ ∃ q ∈ e, q.1 = t ∧ lkv e t = some q.2
  | [], t => .inl rfl
  | (a, l) :: r, t => by
    simp only [lkv]
    split
    · rename_i h; exact .inr ⟨(a, l), by simp, h, rfl⟩
    · rcases lkv_mem r t with h | ⟨q, h1, h2, h3⟩
      · exact .inl h
      · exact .inr ⟨q, by simp [h1], h2, h3⟩
theorem Wk.mk {e e' : List (Nat × L)} {v v' : List (Nat × List C)} (h1 : ∀ q ∈ e', lk e q.1 = q.2) (h2 : ∀ q ∈ v', lkv v q.1 = some q.2) : Wk X (mk e v) (Lvm.mk e' v') := by
  refine Wk.of (fun t => ?_) (fun t => ?_)
  · rcases lk_mem e' t with h | ⟨q, m1, m2, m3⟩
    · exact .inl h
    · right; show lk e' t = lk e t; rw [m3, ← m2, h1 q m1]
  · rcases lkv_mem v' t with h | ⟨q, m1, m2, m3⟩
    · exact .inl h
    · right; show lkv v' t = lkv v t; rw [m3, ← m2, h2 q m1]
end Go.Lvm
