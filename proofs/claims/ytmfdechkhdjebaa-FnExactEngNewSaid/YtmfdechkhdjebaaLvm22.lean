/- Lemmas of the by-value machine and of the data that the contracts speak of: each holds under the hypotheses that it states. -/
import Derived.Test.YtmfdechkhdjebaaLvm21
set_option linter.unusedVariables false
set_option linter.unusedSimpArgs false
namespace Go.Lvm
variable {P : Program} {TT : Nat → Ty} {X : Fx} {E : Ev} {st st' : St} {o : Oper} {d : Nat} {ops : Array Oper} {Q : Ex → St → Prop}
/-! ### Calls that give, lend, write: by computing -/
def lendRt (st : St) : Ar × Operand → Option Rt
  | (.io _ _, .tmp t) => match st.env t with
    | .ptr r _ _ => some r
    | _ => none
  | (.le _ _ _, .tmp t) => match st.env t with
    | .val _ _ => some (.slot t)
    | .ref r _ _ _ _ => some r
    | _ => none
  | _ => none
/-- The state while what is lent is away. -/
def lendS : List (Ar × Operand) → St → Option St
  | [], st => some st
  | (.io cs _, .tmp t) :: l, st => match st.env t with
    | .ptr r off ps => match st.cells r with
      | some c0 => match setC c0 off ps (List.replicate cs.length .d) with
        | some c1 => lendS l (st.setRoot r c1)
        | none => none
      | none => none
    | _ => none
  | (.le _ cs _, .tmp t) :: l, st => match st.env t with
    | .val _ _ => lendS l (st.setRoot (.slot t) (List.replicate cs.length .d))
    | .ref r off ps _ _ => match st.cells r with
      | some c0 => match setC c0 off ps (List.replicate cs.length .d) with
        | some c1 => lendS l (st.setRoot r c1)
        | none => none
      | none => none
    | _ => none
  | (.ro _ _, _) :: l, st => lendS l st
  | (.mv _ _, _) :: l, st => lendS l st
  | _ :: _, _ => none
def lendP : List (Ar × Operand) → List (Option Rt) → St → Prop
  | [], rs, st => rs = []
  | (.io cs _, .tmp t) :: l, rs, st => match st.env t, rs with
    | .ptr r off ps, some r' :: rs => r' = r ∧ some r ∉ rs ∧ (match st.cells r with
      | some c0 => getC c0 off ps cs.length = some cs ∧ ownL cs = true ∧ (match setC c0 off ps (List.replicate cs.length .d) with
        | some c1 => lendP l rs (st.setRoot r c1)
        | none => False)
      | none => False)
    | _, _ => False
  | (.le g cs _, .tmp t) :: l, rs, st => match st.env t, rs with
    | .val g' cs', some r' :: rs => r' = .slot t ∧ g = g' ∧ cs' = cs ∧ some r' ∉ rs ∧ ownL cs = true ∧ lendP l rs (st.setRoot (.slot t) (List.replicate cs.length .d))
    | .ref r off ps g' k, some r' :: rs => r' = r ∧ g = g' ∧ k = cs.length ∧ some r ∉ rs ∧ (match st.cells r with
      | some c0 => getC c0 off ps cs.length = some cs ∧ ownL cs = true ∧ (match setC c0 off ps (List.replicate cs.length .d) with
        | some c1 => lendP l rs (st.setRoot r c1)
        | none => False)
      | none => False)
    | _, _ => False
  | (.ro _ _, _) :: l, none :: rs, st => lendP l rs st
  | (.mv _ _, _) :: l, none :: rs, st => lendP l rs st
  | _ :: _, _, _ => False
theorem lend_ok : ∀ {l : List (Ar × Operand)} {rs : List (Option Rt)} {st st2 : St}, lendS l st = some st2 → lendP l rs st → Lents st l st2 rs
  | [], rs, st, st2, h1, h2 => by
    simp only [lendS, Option.some.injEq] at h1
    subst h1
    have : rs = [] := h2
    subst this; exact .nil _
  | (.io cs cs', .tmp t) :: l, rs, st, st2, h1, h2 => by
    unfold lendP at h2
    unfold lendS at h1
    split at h2
    · rename_i r off ps r' rs' he
      rw [he] at h1
      obtain ⟨rfl, hn, h2⟩ := h2
      simp only at h1
      split at h2
      · rename_i c0 hc
        rw [hc] at h1
        obtain ⟨hg, ho, h2⟩ := h2
        simp only at h1
        split at h2
        · rename_i c1 hs
          rw [hs] at h1
          exact .io he hc hg ho hs hn (lend_ok h1 h2)
        · exact h2.elim
      · exact h2.elim
    · exact h2.elim
  | (.le g cs cs', .tmp t) :: l, rs, st, st2, h1, h2 => by
    unfold lendP at h2
    unfold lendS at h1
    split at h2
    · rename_i g' c0 r' rs' he
      rw [he] at h1
      obtain ⟨rfl, rfl, rfl, hn, ho, h2⟩ := h2
      exact .lev he ho hn (lend_ok h1 h2)
    · rename_i r off ps g' k r' rs' he
      rw [he] at h1
      obtain ⟨rfl, rfl, rfl, hn, h2⟩ := h2
      simp only at h1
      split at h2
      · rename_i c0 hc
        rw [hc] at h1
        obtain ⟨hg, ho, h2⟩ := h2
        simp only at h1
        split at h2
        · rename_i c1 hs
          rw [hs] at h1
          exact .ler he hc hg ho hs hn (lend_ok h1 h2)
        · exact h2.elim
      · exact h2.elim
    · exact h2.elim
  | (.ro _ _, x) :: l, rs, st, st2, h1, h2 => by
    cases rs with
    | nil => exact h2.elim
    | cons r rs => cases r with
      | none => exact .ot rfl (lend_ok h1 h2)
      | some r => exact h2.elim
  | (.mv _ _, x) :: l, rs, st, st2, h1, h2 => by
    cases rs with
    | nil => exact h2.elim
    | cons r rs => cases r with
      | none => exact .ot rfl (lend_ok h1 h2)
      | some r => exact h2.elim
  | (.io _ _, .const _) :: l, rs, st, st2, h1, h2 => by cases h1
  | (.io _ _, .global _) :: l, rs, st, st2, h1, h2 => by cases h1
  | (.io _ _, .func _) :: l, rs, st, st2, h1, h2 => by cases h1
  | (.le _ _ _, .const _) :: l, rs, st, st2, h1, h2 => by cases h1
  | (.le _ _ _, .global _) :: l, rs, st, st2, h1, h2 => by cases h1
  | (.le _ _ _, .func _) :: l, rs, st, st2, h1, h2 => by cases h1
/-- The state once what was lent is back. -/
def backS : List (Ar × Operand) → St → Option St
  | [], st => some st
  | (.io _ cs', .tmp t) :: l, st => match st.env t with
    | .ptr r off ps => match st.cells r with
      | some c0 => match setC c0 off ps cs' with
        | some c1 => backS l ((st.setRoot r c1).touch r)
        | none => none
      | none => none
    | _ => none
  | (.le _ _ cs', .tmp t) :: l, st => match st.env t with
    | .val _ _ => backS l ((st.setRoot (.slot t) cs').touch (.slot t))
    | .ref r off ps _ _ => match st.cells r with
      | some c0 => match setC c0 off ps cs' with
        | some c1 => backS l ((st.setRoot r c1).touch2 r)
        | none => none
      | none => none
    | _ => none
  | (.ro _ _, _) :: l, st => backS l st
  | (.mv _ _, _) :: l, st => backS l st
  | _ :: _, _ => none
def backP : List (Ar × Operand) → St → Prop
  | [], st => True
  | (.io cs cs', .tmp t) :: l, st => cs.length = cs'.length ∧ (match st.env t with
    | .ptr r off ps => (match st.cells r with
      | some c0 => (match setC c0 off ps cs' with
        | some c1 => backP l ((st.setRoot r c1).touch r)
        | none => False)
      | none => False)
    | _ => False)
  | (.le g _ cs', .tmp t) :: l, st => (match st.env t with
    | .val g' c0 => g = g' ∧ c0.length = cs'.length ∧ backP l ((st.setRoot (.slot t) cs').touch (.slot t))
    | .ref r off ps g' k => g = g' ∧ k = cs'.length ∧ (match st.cells r with
      | some c0 => (match setC c0 off ps cs' with
        | some c1 => backP l ((st.setRoot r c1).touch2 r)
        | none => False)
      | none => False)
    | _ => False)
  | (.ro _ _, _) :: l, st => backP l st
  | (.mv _ _, _) :: l, st => backP l st
  | _ :: _, _ => False
theorem back_ok : ∀ {l : List (Ar × Operand)} {st st2 : St}, backS l st = some st2 → backP l st → Backs st l st2
  | [], st, st2, h1, h2 => by
    simp only [backS, Option.some.injEq] at h1
    subst h1; exact .nil _
  | (.io cs cs', .tmp t) :: l, st, st2, h1, h2 => by
    unfold backP at h2
    unfold backS at h1
    obtain ⟨hl, h2⟩ := h2
    split at h2
    · rename_i r off ps he
      rw [he] at h1
      simp only at h1
      split at h2
      · rename_i c0 hc
        rw [hc] at h1
        simp only at h1
        split at h2
        · rename_i c1 hs
          rw [hs] at h1
          exact .io he hc hs hl (back_ok h1 h2)
        · exact h2.elim
      · exact h2.elim
    · exact h2.elim
  | (.le g cs cs', .tmp t) :: l, st, st2, h1, h2 => by
    unfold backP at h2
    unfold backS at h1
    split at h2
    · rename_i g' c0 he
      rw [he] at h1
      obtain ⟨rfl, hl, h2⟩ := h2
      exact .lev he hl (back_ok h1 h2)
    · rename_i r off ps g' k he
      rw [he] at h1
      obtain ⟨rfl, rfl, h2⟩ := h2
      simp only at h1
      split at h2
      · rename_i c0 hc
        rw [hc] at h1
        simp only at h1
        split at h2
        · rename_i c1 hs
          rw [hs] at h1
          exact .ler he hc hs (back_ok h1 h2)
        · exact h2.elim
      · exact h2.elim
    · exact h2.elim
  | (.ro _ _, x) :: l, st, st2, h1, h2 => .ot rfl (back_ok h1 h2)
  | (.mv _ _, x) :: l, st, st2, h1, h2 => .ot rfl (back_ok h1 h2)
  | (.io _ _, .const _) :: l, st, st2, h1, h2 => by cases h1
  | (.io _ _, .global _) :: l, st, st2, h1, h2 => by cases h1
  | (.io _ _, .func _) :: l, st, st2, h1, h2 => by cases h1
  | (.le _ _ _, .const _) :: l, st, st2, h1, h2 => by cases h1
  | (.le _ _ _, .global _) :: l, st, st2, h1, h2 => by cases h1
  | (.le _ _ _, .func _) :: l, st, st2, h1, h2 => by cases h1
/-- What is given. -/
def mvS (TT : Nat → Ty) (E : Ev) : List (Ar × Operand) → St → Option St
  | [], st => some st
  | (.mv _ cs, x) :: l, st => if E.src x then (match st.grab (match cs with | [.s _ z _] => z | _ => 0) x with
    | some (_, _, st1) => mvS TT E l st1
    | none => none) else none
  | _ :: l, st => mvS TT E l st
def mvP (TT : Nat → Ty) (E : Ev) : List (Ar × Operand) → St → Prop
  | [], st => True
  | (.mv g cs, x) :: l, st => match st.grab (match cs with | [.s _ z _] => z | _ => 0) x with
    | some (g', cs', st1) => g' = g ∧ cs' = cs ∧ ownL cs = true ∧ mvP TT E l st1
    | none => False
  | _ :: l, st => mvP TT E l st
theorem mv_ok (hE : E.ok X) : ∀ {l : List (Ar × Operand)} {st st2 : St}, mvS TT E l st = some st2 → mvP TT E l st → Mvs X st l st2
  | [], st, st2, h1, h2 => by
    simp only [mvS, Option.some.injEq] at h1
    subst h1; exact .nil _
  | (.mv g cs, x) :: l, st, st2, h1, h2 => by
    unfold mvP at h2
    unfold mvS at h1
    split at h1
    · rename_i hsrc
      split at h2
      · rename_i g' cs' st1 hg
        rw [hg] at h1
        obtain ⟨rfl, rfl, ho, h2⟩ := h2
        exact .mv hg ho (Ev.src_ok hE hsrc) (mv_ok hE h1 h2)
      · exact h2.elim
    · cases h1
  | (.ro _ _, x) :: l, st, st2, h1, h2 => .ot rfl (mv_ok hE h1 h2)
  | (.io _ _, x) :: l, st, st2, h1, h2 => .ot rfl (mv_ok hE h1 h2)
  | (.le _ _ _, x) :: l, st, st2, h1, h2 => .ot rfl (mv_ok hE h1 h2)
def roP (st : St) (rs : List (Option Rt)) : List (Ar × Operand) → Prop
  | [] => True
  | (.ro g cs, x) :: l => snap st x = some (g, cs) ∧ (cs.all isV = true ∨ ∀ r, snapRt st x = some r → some r ∉ rs) ∧ roP st rs l
  | _ :: l => roP st rs l
theorem ro_ok {rs : List (Option Rt)} : ∀ {l : List (Ar × Operand)}, roP st rs l → ∀ p ∈ l, roOK st rs p
  | [], _, p, hp => by cases hp
  | (.ro g cs, x) :: l, h, p, hp => by
    obtain ⟨h1, h2, h3⟩ := h
    rcases List.mem_cons.1 hp with rfl | hp
    · exact ⟨h1, h2⟩
    · exact ro_ok h3 p hp
  | (.mv _ _, x) :: l, h, p, hp => by
    rcases List.mem_cons.1 hp with rfl | hp
    · trivial
    · exact ro_ok (l := l) h p hp
  | (.io _ _, x) :: l, h, p, hp => by
    rcases List.mem_cons.1 hp with rfl | hp
    · trivial
    · exact ro_ok (l := l) h p hp
  | (.le _ _ _, x) :: l, h, p, hp => by
    rcases List.mem_cons.1 hp with rfl | hp
    · trivial
    · exact ro_ok (l := l) h p hp
theorem AO.callG (hE : E.ok X) {facts : List (Value × C)} {f : FuncId} {as : List Ar} {res : List (Bool × List C)} {xs : Array Operand} {ats : Array TypeId} {l : List Oper} {d t : Nat} {s : String} {af : Array Edge} {gg : Option (Nat × Bool)} (rs : List (Option Rt)) {st1 st2 st3 : St}
    (hS : Spec P facts f as res) (hg : grd E ops st gg) (hd : E.dst d = true) (hlen : as.length = xs.size) (hfa : ∀ x c, (x, c) ∈ facts → repC X.w0 (Z0 X.w0 X.F) c x [])
    (h1 : mvS TT E (as.zip xs.toList) st = some st1) (h2 : mvP TT E (as.zip xs.toList) st) (h3 : lendS (as.zip xs.toList) st1 = some st2) (h4 : lendP (as.zip xs.toList) rs st1) (h5 : roP st2 rs (as.zip xs.toList)) (h6 : backS (as.zip xs.toList) st2 = some st3) (h7 : backP (as.zip xs.toList) st2)
    (h : AO P X ops l Q (st3.put d (resL res))) :
    AO P X ops ({ dst := some d, op := .call { callee := .value (.func f), args := xs, argTypes := ats }, type := t, pos := s, after := af, guard := gg } :: l) Q st :=
  AO.stepAny hE hg (call_step rfl hS hlen (mv_ok hE h1 h2) (lend_ok h3 h4) (ro_ok h5) (back_ok h6 h7) hfa rfl (Ev.dst_ok hE hd)) h
end Go.Lvm
