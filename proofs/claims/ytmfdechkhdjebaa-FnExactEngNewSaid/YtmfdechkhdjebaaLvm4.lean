/- Lemmas of the by-value machine and of the data that the contracts speak of: each holds under the hypotheses that it states. -/
import Derived.Test.YtmfdechkhdjebaaLvm3
import Derived.Laws.Entries
set_option linter.unusedVariables false
set_option linter.unusedSimpArgs false
namespace Go.Lvm
/-- A frame's state, with nothing in hand. -/
def R (X : Fx) (st : St) (w : World) (a : Act) : Prop := ∃ g, Conc X st w a g ∧ ∀ i, g.bl (.hand i) = []
def Does (P : Program) (X : Fx) (o : Oper) (st st' : St) : Prop := ∀ w a, R X st w a →
  (∃ v w', (execOp a.eval o).run P w = .ok (.value v) w' ∧ R X st' w' (a.put o.dst v)) ∨ (∃ w', (execOp a.eval o).run P w = .ok .skip w' ∧ R X st' w' (a.put o.dst undef))
/-! ### Types -/
structure Ty where
  ok : Bool := false
  agg : Bool := false
  size : Nat := 1
  bytes : Nat := 8
  zero : List C := []
  flds : List Nat := []
  fk : List (Nat × Nat) := []
  elem : Option Nat := none
  ik : Option IntKind := none
  str : Bool := false
  bl : Bool := false
def zeroOf : List C → List Value → Bool
  | [], [] => true
  | .v x :: cs, u :: us => (match x, u with
    | .int k n, .int k' n' => k == k' && n == n'
    | .bool b, .bool b' => b == b'
    | .string s, .string s' => decide (s = s')
    | _, _ => false) && zeroOf cs us
  | .s true _ [] :: cs, .slice none 0 0 :: us => zeroOf cs us
  | _, _ => false
/-- What a row of the table must say of a type. -/
def Ty.good (P : Program) (t : Nat) (T : Ty) : Bool :=
  !T.ok || (match P.info? t, P.underlying t with
  | some i, some d => i.size == T.size && i.bytes == T.bytes && (match i.zero with | some z => zeroOf T.zero z.cells.toList && (match z with | .agg _ => T.agg | _ => !T.agg) | none => false) &&
    (match d with
    | .struct fs => T.agg && T.elem.isNone && T.ik.isNone && !T.str && !T.bl && fs.toList.map (·.offset) == T.flds && fs.toList.map (fun f => (P.info? f.type).map (·.size)) == T.fk.map (fun q => some q.1) && fs.toList.all (fun f => match P.info? f.type with | some j => j.size != 0 | none => false)
    | .slice e => !T.agg && T.elem == some e && T.flds.isEmpty && T.ik.isNone && !T.str && !T.bl
    | .int k => !T.agg && T.elem.isNone && T.flds.isEmpty && T.ik == some k && !T.str && !T.bl
    | .string => !T.agg && T.elem.isNone && T.flds.isEmpty && T.ik.isNone && T.str && !T.bl
    | .bool => !T.agg && T.elem.isNone && T.flds.isEmpty && T.ik.isNone && !T.str && T.bl
    | _ => false)
  | _, _ => false)
structure TyOK (P : Program) (t : Nat) (T : Ty) : Prop where
  info : ∃ i z, P.info? t = some i ∧ i.size = T.size ∧ i.bytes = T.bytes ∧ i.zero = some z ∧ zeroOf T.zero z.cells.toList = true ∧ (T.agg = true → ∃ c, z = .agg c) ∧ (T.agg = false → ∀ c, z ≠ .agg c)
  agg : T.agg = true → ∃ fs, P.underlying t = some (.struct fs) ∧ fs.toList.map (·.offset) = T.flds ∧ fs.toList.map (fun f => (P.info? f.type).map (·.size)) = T.fk.map (fun q => some q.1) ∧ ∀ f ∈ fs.toList, ∃ j, P.info? f.type = some j ∧ j.size ≠ 0
  plain : T.agg = false → ∃ d, P.underlying t = some d ∧ ∀ fs n e, d ≠ .struct fs ∧ d ≠ .array n e
  elem : ∀ e, T.elem = some e → P.underlying t = some (.slice e)
  ik : ∀ k, T.ik = some k → P.underlying t = some (.int k)
  str : T.str = true → P.underlying t = some .string
  bl : T.bl = true → P.underlying t = some .bool
theorem Ty.good_ok {P : Program} {t : Nat} {T : Ty} (h : Ty.good P t T = true) (ho : T.ok = true) : TyOK P t T := by
  unfold Ty.good at h
  rw [ho] at h
  simp only [Bool.not_true, Bool.false_or] at h
  cases hi : P.info? t with
  | none => rw [hi] at h; cases h
  | some i =>
    cases hu : P.underlying t with
    | none => rw [hi, hu] at h; cases h
    | some d =>
      rw [hi, hu] at h
      simp only [Bool.and_eq_true, beq_iff_eq] at h
      obtain ⟨⟨⟨h1, h2⟩, h3⟩, h4⟩ := h
      cases hz : i.zero with
      | none => rw [hz] at h3; cases h3
      | some z =>
        rw [hz] at h3
        simp only [Bool.and_eq_true] at h3
        have hinfo : ∃ i' z', P.info? t = some i' ∧ i'.size = T.size ∧ i'.bytes = T.bytes ∧ i'.zero = some z' ∧ zeroOf T.zero z'.cells.toList = true ∧ (T.agg = true → ∃ c, z' = .agg c) ∧ (T.agg = false → ∀ c, z' ≠ .agg c) := by
          refine ⟨i, z, hi, h1, h2, hz, h3.1, fun ha => ?_, fun ha c hc => ?_⟩
          · have := h3.2
            cases z <;> simp [ha] at this ⊢
          · have := h3.2
            rw [hc] at this; simp [ha] at this
        cases d with
        | struct fs =>
          simp only [Bool.and_eq_true, beq_iff_eq, Option.isNone_iff_eq_none, Bool.not_eq_true', List.all_eq_true] at h4
          obtain ⟨⟨⟨⟨⟨⟨⟨g1, g2⟩, g3⟩, g4⟩, g5⟩, g6⟩, g8⟩, g7⟩ := h4
          refine ⟨hinfo, fun _ => ⟨fs, hu, g6, g8, fun f hf => ?_⟩, fun ha => by simp [g1] at ha, fun e he => by simp [g2] at he, fun k hk => by simp [g3] at hk, fun hs => by simp [g4] at hs, fun hb => by simp [g5] at hb⟩
          have := g7 f hf
          cases hj : P.info? f.type with
          | none => rw [hj] at this; cases this
          | some j => rw [hj] at this; exact ⟨j, rfl, by simpa using this⟩
        | slice e =>
          simp only [Bool.and_eq_true, beq_iff_eq, Option.isNone_iff_eq_none, Bool.not_eq_true', List.isEmpty_iff] at h4
          obtain ⟨⟨⟨⟨⟨g1, g2⟩, g3⟩, g4⟩, g5⟩, g6⟩ := h4
          exact ⟨hinfo, fun ha => by simp [g1] at ha, fun _ => ⟨_, hu, by simp⟩, fun e' he => by rw [g2] at he; cases he; exact hu, fun k hk => by simp [g4] at hk, fun hs => by simp [g5] at hs, fun hb => by simp [g6] at hb⟩
        | int k =>
          simp only [Bool.and_eq_true, beq_iff_eq, Option.isNone_iff_eq_none, Bool.not_eq_true', List.isEmpty_iff] at h4
          obtain ⟨⟨⟨⟨⟨g1, g2⟩, g3⟩, g4⟩, g5⟩, g6⟩ := h4
          exact ⟨hinfo, fun ha => by simp [g1] at ha, fun _ => ⟨_, hu, by simp⟩, fun e' he => by simp [g2] at he, fun k' hk => by rw [g4] at hk; cases hk; exact hu, fun hs => by simp [g5] at hs, fun hb => by simp [g6] at hb⟩
        | string =>
          simp only [Bool.and_eq_true, beq_iff_eq, Option.isNone_iff_eq_none, Bool.not_eq_true', List.isEmpty_iff] at h4
          obtain ⟨⟨⟨⟨⟨g1, g2⟩, g3⟩, g4⟩, g5⟩, g6⟩ := h4
          exact ⟨hinfo, fun ha => by simp [g1] at ha, fun _ => ⟨_, hu, by simp⟩, fun e' he => by simp [g2] at he, fun k' hk => by simp [g4] at hk, fun hs => hu, fun hb => by simp [g6] at hb⟩
        | bool =>
          simp only [Bool.and_eq_true, beq_iff_eq, Option.isNone_iff_eq_none, Bool.not_eq_true', List.isEmpty_iff] at h4
          obtain ⟨⟨⟨⟨⟨g1, g2⟩, g3⟩, g4⟩, g5⟩, g6⟩ := h4
          exact ⟨hinfo, fun ha => by simp [g1] at ha, fun _ => ⟨_, hu, by simp⟩, fun e' he => by simp [g2] at he, fun k' hk => by simp [g4] at hk, fun hs => by simp [g5] at hs, fun hb => hu⟩
        | _ => simp at h4
/-! ### Scalars -/
def opv (st : St) : Operand → Option Value
  | .const v => if v.oneCell' then some v else none
  | .tmp t => match st.env t with
    | .val false [.v x] => some x
    | _ => none
  | _ => none
theorem opv_ok {X : Fx} {st : St} {w : World} {a : Act} {g : Gh} (h : Conc X st w a g) {x : Operand} {v : Value} (hx : opv st x = some v) : a.eval x = v ∧ v.oneCell' = true := by
  cases x with
  | const u =>
    simp only [opv] at hx
    split at hx
    · injection hx with hx; subst hx; exact ⟨rfl, by assumption⟩
    · cases hx
  | tmp t =>
    simp only [opv] at hx
    split at hx
    · rename_i u he
      injection hx with hx; subst hx
      have := h.env t
      rw [he] at this
      obtain ⟨h1, h2, h3⟩ := this
      obtain ⟨u', hu, h4, h5, h6⟩ := repL_single.1 h3
      subst h4
      rw [hu] at h1
      exact ⟨h1, h5⟩
    · cases hx
  | _ => cases hx
theorem R.putv {X : Fx} {st : St} {w : World} {a : Act} (h : R X st w a) {d : Nat} (hd : X.ok d) {v : Value} (hv : v.oneCell' = true) : R X (st.put d (.val false [.v v])) w (a.put (some d) v) := by
  obtain ⟨g, h, hh⟩ := h
  obtain ⟨g', h', hh'⟩ := h.put0 hd (.val false [.v v]) v [v] ⟨rfl, fun _ => rfl, repL_single.2 ⟨v, rfl, rfl, hv, rfl⟩⟩
  exact ⟨g', h', fun i => (hh' i).trans (hh i)⟩
def binF (op : BinOp) : Value → Value → Option Value
  | .int k a, .int k' b => match op with
    | .shl => if 0 ≤ b then some (.int k (k.wrap (a * 2 ^ (min b.toNat k.bits)))) else none
    | .shr => if 0 ≤ b then some (.int k (a.fdiv (2 ^ (min b.toNat k.bits)))) else none
    | op => if k = k' then (match op with
      | .add => some (.int k (k.wrap (a + b)))
      | .sub => some (.int k (k.wrap (a - b)))
      | .mul => some (.int k (k.wrap (a * b)))
      | .quo => if b = 0 then none else some (.int k (k.wrap (a.tdiv b)))
      | .rem => if b = 0 then none else some (.int k (a.tmod b))
      | .and => some (.int k (k.wrap (BitVec.ofInt k.bits a &&& BitVec.ofInt k.bits b).toNat))
      | .or => some (.int k (k.wrap (BitVec.ofInt k.bits a ||| BitVec.ofInt k.bits b).toNat))
      | .xor => some (.int k (k.wrap (BitVec.ofInt k.bits a ^^^ BitVec.ofInt k.bits b).toNat))
      | .eql => some (.bool (a == b))
      | .neq => some (.bool (a != b))
      | .lss => some (.bool (a < b))
      | .leq => some (.bool (a ≤ b))
      | .gtr => some (.bool (a > b))
      | .geq => some (.bool (a ≥ b))
      | _ => none) else none
  | .string a, .string b => match op with
    | .add => if a.size + b.size ≤ 9223372036854775807 then some (.string (a ++ b)) else none
    | .eql => some (.bool (a.toList == b.toList))
    | .neq => some (.bool !(a.toList == b.toList))
    | _ => none
  | _, _ => none
theorem max64 : IntKind.i64.max = 9223372036854775807 := by decide
theorem binF_ok {P : Program} {op : BinOp} {x y v : Value} (h : binF op x y = some v) (t : TypeId) (p q : Operand) (w : World) :
    (do eqGuard op t p q x y; binOp op t x y : Sem Value).run P w = .ok v w ∧ v.oneCell' = true := by
  unfold binF at h
  split at h
  · rename_i k a k' b
    have hg : (eqGuard op t p q (.int k a) (.int k' b)).run P w = .ok () w := by
      unfold eqGuard
      split <;> rfl
    rw [Sem.run_bind, hg]
    cases op <;> simp only at h <;> (try split at h) <;> (try split at h) <;> (try (cases h; done)) <;> (injection h with h; subst h) <;>
      simp_all [binOp, Op.shift, Op.intArith, Op.intDiv, Op.intBits, Op.intCmp, Value.oneCell', Result.andThen] <;> omega
  · rename_i a b
    have hg : (eqGuard op t p q (.string a) (.string b)).run P w = .ok () w := by
      unfold eqGuard
      split <;> rfl
    rw [Sem.run_bind, hg]
    cases op <;> simp only at h <;> (try split at h) <;> (try (cases h; done)) <;> (injection h with h; subst h) <;>
      simp_all [binOp, Op.stringOp, Value.oneCell', Result.andThen, max64] <;> omega
  · cases h

theorem getC_zero : ∀ (ps : Pth) {cs : List C} {off k : Nat}, getC cs off ps k ≠ none → getC cs off ps 0 ≠ none
  | [], cs, off, k, h => by
    simp only [getC, ne_eq] at h ⊢
    split at h
    · rw [if_pos (by omega)]; simp
    · exact absurd rfl h
  | (i, z, o) :: ps, cs, off, k, h => by
    simp only [getC, ne_eq] at h ⊢
    split at h
    · split at h
      · rename_i hz
        split at h
        · rw [if_pos hz]; exact getC_zero ps h
        · exact absurd rfl h
      · exact absurd rfl h
    · exact absurd rfl h
theorem Conc.place {X : Fx} {st : St} {w : World} {a : Act} {g : Gh} (h : Conc X st w a g) {r : Rt} {off : Nat} {ps : Pth} {cs : List C} (hsl : ∀ t, r = .slot t → ps ≠ []) (hc : st.cells r = some cs) {k : Nat} {sub : List C}
    (hg : getC cs off ps k = some sub) : ∃ b p us' arr T fr, g.rsv w r off ps = some (b, p, us') ∧ w.heap[b]? = some (.cells arr T fr) ∧ (arr.toList.drop p).take k = us'.take k ∧ k ≤ us'.length ∧
      ∃ bs, repL w (Z0 X.w0 X.F) sub (us'.take k) bs := by
  obtain ⟨pre, bs, hbl, hrep, hnd, hvar, hslot, hhand⟩ := h.cells_root hc
  obtain ⟨b, p, us', hr, hk, b1, b2, b3, hbs, hsub⟩ := get_ok ps (g.at_ r).1 (g.at_ r).2 off k hrep hg
  by_cases hps : ps = []
  · subst hps
    cases r with
    | var t =>
      obtain ⟨arr, T, ob, e1, e2, e3, e4, e5⟩ := h.var t cs hc
      simp only [rsv, Option.some.injEq, Prod.mk.injEq] at hr
      obtain ⟨rfl, rfl, rfl⟩ := hr
      refine ⟨_, _, _, arr, T, (0, 0), rfl, e1, ?_, hk, b2, hsub⟩
      have hl := repL_len hrep
      have hol : off ≤ (g.us (.var t)).length := by
        simp only [getC] at hg
        split at hg
        · omega
        · cases hg
      rw [e2]
      simp only [Gh.at_]
      rw [List.append_assoc, ← List.drop_drop, List.drop_left, List.drop_append_of_le_length hol, List.take_append_of_le_length hk]
    | slot t => exact absurd rfl (hsl t rfl)
    | hand i => exact absurd rfl (hhand i)
  · obtain ⟨arr, T, fr, e1, e2⟩ := rsv_blk ps hr hps
    exact ⟨b, p, us', arr, T, fr, hr, e1, by rw [e2], hk, b2, hsub⟩
theorem Conc.ptr_ok {X : Fx} {st : St} {w : World} {a : Act} {g : Gh} (h : Conc X st w a g) {t : Nat} {r : Rt} {off : Nat} {ps : Pth} {cs : List C} (he : st.env t = .ptr r off ps) (hc : st.cells r = some cs) {k : Nat} {sub : List C}
    (hg : getC cs off ps k = some sub) : ∃ b p us' arr T fr, g.rsv w r off ps = some (b, p, us') ∧ a.tmps.getD t undef = .pointer (some ⟨b, p, none⟩) ∧ w.heap[b]? = some (.cells arr T fr) ∧ (arr.toList.drop p).take k = us'.take k ∧ k ≤ us'.length ∧
      ∃ bs, repL w (Z0 X.w0 X.F) sub (us'.take k) bs := by
  have henv := h.env t
  rw [he] at henv
  obtain ⟨hsl, h2⟩ := henv
  obtain ⟨b, p, us', arr, T, fr, h3, h4, h5, h6, h7⟩ := h.place hsl hc hg
  obtain ⟨b0, p0, us0, e1, e2⟩ := h2 cs hc (getC_zero ps (by rw [hg]; simp))
  rw [h3] at e1
  simp only [Option.some.injEq, Prod.mk.injEq] at e1
  obtain ⟨rfl, rfl, rfl⟩ := e1
  exact ⟨b, p, us', arr, T, fr, h3, e2, h4, h5, h6, h7⟩
/-- Reading k cells at an address. -/
theorem run_loadVar_ok {P : Program} {t : TypeId} {T : Ty} (hT : TyOK P t T) {w : World} {b p : Nat} {arr : Array Value} {e : TypeId} {fr : Nat × Nat} (hb : w.heap[b]? = some (.cells arr e fr)) {us : List Value}
    (hu : (arr.toList.drop p).take T.size = us) (hl : us.length = T.size) (h1 : T.agg = false → T.size = 1) : (loadVar t ⟨b, p, none⟩).run P w = .ok (pack T.agg us) w := by
  obtain ⟨i, z, hi, hs, _⟩ := hT.info
  have hcell : ∀ j v, us[j]? = some v → w.cell? ⟨b, p + j, none⟩ = some v := by
    intro j v hj
    rw [← hu, List.getElem?_take] at hj
    split at hj
    · rw [List.getElem?_drop] at hj
      simpa [World.cell?, hb] using hj
    · cases hj
  cases ha : T.agg with
  | true =>
    obtain ⟨fs, hu1, _⟩ := hT.agg ha
    have := run_loadCells_list (P := P) w ⟨b, p, none⟩ us (fun j v hj => by rw [add_none]; exact hcell j v hj)
    rw [hl] at this
    simp [loadVar, isAgg, run_underlying hu1, sizeOf, typeInfo, hi, hs, this, pack]
  | false =>
    obtain ⟨d, hd, hn⟩ := hT.plain ha
    have hsz := h1 ha
    obtain ⟨u, rfl⟩ : ∃ u, us = [u] := by
      cases us with
      | nil => simp at hl; omega
      | cons u us => exact ⟨u, by rw [List.eq_nil_of_length_eq_zero (l := us) (by simp at hl; omega)]⟩
    have hc := hcell 0 u rfl
    have hagg : (isAgg t).run P w = .ok false w := by
      simp only [isAgg, Sem.run_bind, run_underlying hd, Result.andThen_ok]
      split
      · rename_i fs; exact absurd rfl (hn fs 0 0).1
      · rename_i n e; exact absurd rfl (hn #[] n e).2
      · rfl
    simp only [Nat.add_zero] at hc
    simp [loadVar, hagg, run_load, hc, pack]

/-! ### Operations: each what it makes of a state -/
def lastOff : Nat → Pth → Nat → Nat × Pth
  | off, [], f => (off + f, [])
  | off, (i, z, o) :: ps, f => let q := lastOff o ps f; (off, (i, z, q.1) :: q.2)
theorem rsv_last {w : World} : ∀ (ps : Pth) {b p off f b' p' : Nat} {us us' : List Value}, rsv w b p us off ps = some (b', p', us') →
    rsv w b p us (lastOff off ps f).1 (lastOff off ps f).2 = some (b', p' + f, us'.drop f)
  | [], b, p, off, f, b', p', us, us', h => by
    simp only [rsv, Option.some.injEq, Prod.mk.injEq] at h
    obtain ⟨rfl, rfl, rfl⟩ := h
    simp [lastOff, rsv, Nat.add_assoc]
  | (i, z, o) :: ps, b, p, off, f, b', p', us, us', h => by
    simp only [rsv, lastOff] at h ⊢
    split at h
    · split at h
      · exact rsv_last ps h
      · cases h
    · cases h
theorem get_last : ∀ (ps : Pth) {cs : List C} {off f : Nat}, getC cs (lastOff off ps f).1 (lastOff off ps f).2 0 ≠ none → getC cs off ps 0 ≠ none
  | [], cs, off, f, h => by
    simp only [lastOff, getC, ne_eq] at h ⊢
    split at h
    · rw [if_pos (by omega)]; simp
    · exact absurd rfl h
  | (i, z, o) :: ps, cs, off, f, h => by
    simp only [getC, lastOff, ne_eq] at h ⊢
    split at h
    · split at h
      · rename_i hz
        split at h
        · rw [if_pos hz]; exact get_last ps h
        · exact absurd rfl h
      · exact absurd rfl h
    · exact absurd rfl h
theorem last_nil (off : Nat) (ps : Pth) (f : Nat) (h : ps ≠ []) : (lastOff off ps f).2 ≠ [] := by
  cases ps with
  | nil => exact absurd rfl h
  | cons q qs => simp [lastOff]
section
variable (TT : Nat → Ty) (n : Nat)
def setd (st : St) (d : Option Nat) (l : L) : Option St :=
  match d with
  | some d => if d < n then some (st.put d l) else none
  | none => none
/-- What a load finds. -/
def loadL (st : St) (x : Operand) (k : Nat) (g : Bool) : Option L :=
  match x with
  | .tmp t => match st.env t with
    | .ptr r off ps => match st.cells r with
      | some cs => match getC cs off ps k with
        | some sub => if sub.all isSt then some (.val g sub) else some (.ref r off ps g k)
        | none => none
      | none => none
    | .sptr c i z off => match getC [c] 0 [(i, z, off)] k with
      | some sub => if sub.all isSt then some (.val g sub) else none
      | none => none
    | _ => none
  | _ => none
end
/-- A temporary is set to what holds in the old state, and does not speak of that temporary. -/
theorem R.putL {X : Fx} {st : St} {w : World} {a : Act} {g : Gh} (h : Conc X st w a g) (hh : ∀ i, g.bl (.hand i) = []) {d : Nat} (hd : X.ok d) {l : L} {v : Value} {us : List Value} (hb : l.base ≠ some (.slot d))
    (hl : LOK w (Z0 X.w0 X.F) st g [] us v l) : R X (st.put d l) w (a.put (some d) v) := by
  obtain ⟨g', h', hh'⟩ := h.put0 hd l v us (by
    refine LOK.turn hl ⟨fun gg cs _ => ⟨rfl, rfl⟩, fun ls _ => rfl⟩ fun r hr => ?_
    have : r ≠ .slot d := fun e => hb (by rw [hr, e])
    exact ⟨put_cells this, by simp [Gh.put, this], by cases r <;> rfl⟩)
  exact ⟨g', h', fun i => (hh' i).trans (hh i)⟩
theorem repL_nil_bs {W : World} {Z : Nat → Prop} {cs : List C} {us : List Value} {bs : List Nat} (h : repL W Z cs us bs) (hs : cs.all isSt = true) : repL W Z cs us [] := by
  have := repL_st h hs; subst this; exact h
theorem load_does {P : Program} {TT : Nat → Ty} {X : Fx} {st st' : St} {o : Oper} {t : TypeId} {x : Operand} {d : Nat} {l : L} (ho : o.op = .load t x) (hT : TyOK P t (TT t)) (hd : o.dst = some d) (hlt : X.ok d)
    (h1 : (TT t).agg = false → (TT t).size = 1) (hl : loadL st x (TT t).size (TT t).agg = some l) (hb : l.base ≠ some (.slot d)) : Does P X o st (st.put d l) := by
  intro w a ⟨g, h, hh⟩
  left
  unfold loadL at hl
  cases x with
  | tmp u =>
    simp only at hl
    cases he : st.env u with
    | ptr r off ps =>
      rw [he] at hl
      simp only at hl
      cases hc : st.cells r with
      | none => rw [hc] at hl; cases hl
      | some cs =>
        rw [hc] at hl
        simp only at hl
        cases hg : getC cs off ps (TT t).size with
        | none => rw [hg] at hl; cases hl
        | some sub =>
          rw [hg] at hl
          simp only at hl
          obtain ⟨b, p, us', arr, T, fr, e1, e2, e3, e4, e5, bs, e6⟩ := h.ptr_ok he hc hg
          have hlen : (us'.take (TT t).size).length = (TT t).size := by simp; omega
          have hrun := run_loadVar_ok hT e3 e4 hlen h1
          have hsub := repL_len e6
          refine ⟨pack (TT t).agg (us'.take (TT t).size), w, ?_, ?_⟩
          · show (execOp a.eval o).run P w = _
            simp only [execOp, ho, Act.eval, e2, Instr.loadAt, Instr.sureAddr, Sem.run_bind, Sem.run_pure, Result.andThen_ok, hrun]
          · rw [hd]
            split at hl
            · rename_i hst
              injection hl with hl; subst hl
              exact R.putL h hh hlt (us := us'.take (TT t).size) hb ⟨rfl, fun hf => by rw [← hsub, hlen, h1 hf], repL_nil_bs e6 hst⟩
            · injection hl with hl; subst hl
              exact R.putL h hh hlt (us := []) hb ⟨h1, fun cs1 hc1 hn => ⟨b, p, us', e1, rfl⟩⟩
    | sptr c i z off =>
      rw [he] at hl
      simp only at hl
      cases hg : getC [c] 0 [(i, z, off)] (TT t).size with
      | none => rw [hg] at hl; cases hl
      | some sub =>
        rw [hg] at hl
        simp only at hl
        split at hl
        · rename_i hst
          injection hl with hl; subst hl
          have henv := h.env u
          rw [he] at henv
          obtain ⟨uv, hrc, h3⟩ := henv
          have hrep := repL_single.2 ⟨uv, rfl, hrc⟩
          obtain ⟨b', p', us', hr', hk, b1, b2, b3, hbs, hsub⟩ := get_ok [(i, z, off)] 0 0 0 (TT t).size hrep hg
          have hci : ∃ o xs, c = .s o z xs ∧ i < xs.length := by
            simp only [getC, List.getElem?_cons_zero] at hg
            split at hg
            · rename_i o z' xs hcc
              split at hg
              · rename_i hz; subst hz
                split at hg
                · rename_i e hee
                  refine ⟨o, xs, by simpa using hcc, ?_⟩
                  rcases Nat.lt_or_ge i xs.length with h | h
                  · exact h
                  · simp [List.getElem?_eq_none h] at hee
                · cases hg
              · cases hg
            · cases hg
          obtain ⟨o1, xs, rfl, hi⟩ := hci
          obtain ⟨b, p, us2, e1, e2⟩ := h3 o1 xs rfl hi
          rw [hr'] at e1
          simp only [Option.some.injEq, Prod.mk.injEq] at e1
          obtain ⟨rfl, rfl, rfl⟩ := e1
          obtain ⟨arr, T, fr, k1, k2⟩ := rsv_blk _ hr' (by simp)
          have hlen : (us'.take (TT t).size).length = (TT t).size := by simp; omega
          have hrun := run_loadVar_ok hT (w := w) k1 (us := us'.take (TT t).size) (by rw [k2]) hlen h1
          have hsl := repL_len hsub
          refine ⟨pack (TT t).agg (us'.take (TT t).size), w, ?_, ?_⟩
          · show (execOp a.eval o).run P w = _
            simp only [execOp, ho, Act.eval, e2, Instr.loadAt, Instr.sureAddr, Sem.run_bind, Sem.run_pure, Result.andThen_ok, hrun]
          · rw [hd]
            exact R.putL h hh hlt (us := us'.take (TT t).size) hb ⟨rfl, fun hf => by rw [← hsl, hlen, h1 hf], repL_nil_bs hsub hst⟩
        · cases hl
    | _ => rw [he] at hl; cases hl
  | _ => cases hl
end Go.Lvm
