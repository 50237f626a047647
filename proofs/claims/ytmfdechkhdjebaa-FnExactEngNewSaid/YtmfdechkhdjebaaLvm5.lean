/- Lemmas of the by-value machine and of the data that the contracts speak of: each holds under the hypotheses that it states. -/
import Derived.Test.YtmfdechkhdjebaaLvm4
set_option linter.unusedVariables false
set_option linter.unusedSimpArgs false
namespace Go.Lvm
variable {P : Program} {TT : Nat → Ty} {X : Fx} {st st' : St} {o : Oper} {d : Nat}
/-! ### move, assign -/
/-- A view of what a temporary holds: what is its own stays there. -/
def viewL (st : St) : Operand → Option L
  | .const v => if v.oneCell' then some (.val false [.v v]) else none
  | .tmp t => match st.env t with
    | .val g cs => if cs.all isSt then some (.val g cs) else some (.ref (.slot t) 0 [] g cs.length)
    | .dead => none
    | .tup _ => none
    | l => some l
  | _ => none
theorem view_ok {w : World} {a : Act} {g : Gh} (h : Conc X st w a g) {x : Operand} {l : L} (hl : viewL st x = some l) : ∃ us, LOK w (Z0 X.w0 X.F) st g [] us (a.eval x) l := by
  cases x with
  | const v =>
    simp only [viewL] at hl
    split at hl
    · injection hl with hl; subst hl
      rename_i hv
      exact ⟨[v], rfl, fun _ => rfl, repL_single.2 ⟨v, rfl, rfl, hv, rfl⟩⟩
    · cases hl
  | tmp t =>
    have henv := h.env t
    simp only [viewL] at hl
    cases he : st.env t with
    | val gg cs =>
      rw [he] at hl henv
      simp only at hl
      obtain ⟨h1, h2, h3⟩ := henv
      split at hl
      · rename_i hst
        injection hl with hl; subst hl
        exact ⟨_, h1, h2, repL_nil_bs h3 hst⟩
      · injection hl with hl; subst hl
        refine ⟨[], fun hf => h2 hf, fun cs1 hc hn => ⟨0, 0, g.us (.slot t), rfl, ?_⟩⟩
        have := repL_len h3
        rw [List.take_of_length_le (by omega)]
        exact h1
    | dead => rw [he] at hl; cases hl
    | tup ls => rw [he] at hl; cases hl
    | ref r off ps gg k => rw [he] at hl henv; injection hl with hl; subst hl; exact ⟨[], henv⟩
    | win r off ps lo hi => rw [he] at hl henv; injection hl with hl; subst hl; exact ⟨[], henv⟩
    | ptr r off ps => rw [he] at hl henv; injection hl with hl; subst hl; exact ⟨[], henv⟩
    | sptr c i z off => rw [he] at hl henv; injection hl with hl; subst hl; exact ⟨[], henv⟩
  | _ => cases hl
theorem move_does {x : Operand} {l : L} (ho : o.op = .move x ∨ o.op = .assign x) (hd : o.dst = some d) (hlt : X.ok d) (hl : viewL st x = some l) (hb : l.base ≠ some (.slot d)) : Does P X o st (st.put d l) := by
  intro w a ⟨g, h, hh⟩
  left
  obtain ⟨us, hok⟩ := view_ok h hl
  refine ⟨a.eval x, w, ?_, ?_⟩
  · rcases ho with ho | ho <;> simp only [execOp, ho] <;> rfl
  · rw [hd]; exact R.putL h hh hlt hb hok
/-- What is taken is put into the variable. -/
theorem assign_does {t : Nat} {gg : Bool} {cs : List C} (ho : o.op = .assign (.tmp t) ∨ o.op = .move (.tmp t)) (hd : o.dst = some d) (hlt : X.ok d) (ht : t < X.n) (hl : st.take t = some (gg, cs, st')) : Does P X o st (st'.put d (.val gg cs)) := by
  intro w a ⟨g, h, hh⟩
  left
  obtain ⟨g1, us, h1, hv, hg, hr, hj, _, _⟩ := take_conc h hl 0 (hh 0) ht
  obtain ⟨g2, h2, h3, h4⟩ := h1.putHand hlt 0 hg hr
  refine ⟨pack gg us, w, ?_, ?_⟩
  · rcases ho with ho | ho <;> (simp only [execOp, ho, Act.eval, hv]; rfl)
  · rw [hd]
    refine ⟨g2, h2, fun i => ?_⟩
    by_cases hi : i = 0
    · subst hi; exact h3
    · rw [h4 i hi, hj i hi]; exact hh i
/-- The nil slice. -/
theorem nil_does {v : Value} {z : Nat} (ho : o.op = .assign (.const (.slice none 0 0)) ∨ o.op = .move (.const (.slice none 0 0))) (hd : o.dst = some d) (hlt : X.ok d) : Does P X o st (st.put d (.val false [.s true z []])) := by
  intro w a ⟨g, h, hh⟩
  left
  refine ⟨.slice none 0 0, w, ?_, ?_⟩
  · rcases ho with ho | ho <;> simp only [execOp, ho] <;> rfl
  · rw [hd]
    exact R.putL h hh hlt (us := [.slice none 0 0]) (by simp [L.base]) ⟨rfl, fun _ => rfl, repL_single.2 ⟨_, rfl, none, 0, rfl, by simp, by simp, rfl, rfl⟩⟩
/-! ### scalars -/
theorem scalar_does {v : Value} (hd : o.dst = some d) (hlt : X.ok d) (hr : ∀ w a g, Conc X st w a g → (execOp a.eval o).run P w = .ok (.value v) w ∧ v.oneCell' = true) : Does P X o st (st.put d (.val false [.v v])) := by
  intro w a ⟨g, h, hh⟩
  left
  obtain ⟨h1, h2⟩ := hr w a g h
  refine ⟨v, w, h1, ?_⟩
  rw [hd]; exact R.putv ⟨g, h, hh⟩ hlt h2
theorem pick_does {c x y : Operand} {b : Bool} {v : Value} (ho : o.op = .pick c x y) (hd : o.dst = some d) (hlt : X.ok d) (hc : opv st c = some (.bool b)) (hx : opv st (if b then x else y) = some v) : Does P X o st (st.put d (.val false [.v v])) :=
  scalar_does hd hlt fun w a g h => by
    obtain ⟨e1, _⟩ := opv_ok h hc
    obtain ⟨e2, e3⟩ := opv_ok h hx
    refine ⟨?_, e3⟩
    simp only [execOp, ho, e1]
    cases b <;> simp_all [asBool]
theorem binOp_does {op : BinOp} {ty ty' : TypeId} {x y : Operand} {vx vy v : Value} (ho : o.op = .binOp op ty x y ty') (hd : o.dst = some d) (hlt : X.ok d) (hx : opv st x = some vx) (hy : opv st y = some vy) (hv : binF op vx vy = some v) :
    Does P X o st (st.put d (.val false [.v v])) :=
  scalar_does hd hlt fun w a g h => by
    obtain ⟨e1, _⟩ := opv_ok h hx
    obtain ⟨e2, _⟩ := opv_ok h hy
    obtain ⟨e3, e4⟩ := binF_ok (P := P) hv ty x y w
    refine ⟨?_, e4⟩
    simp only [execOp, ho, e1, e2]
    rw [Sem.run_bind, e3]; rfl
theorem boolEq_does {neg : Bool} {ty ty' : TypeId} {x y : Operand} {p q : Bool} (ho : o.op = .binOp (if neg then .neq else .eql) ty x y ty') (hT : TyOK P ty (TT ty)) (hb : (TT ty).bl = true) (hd : o.dst = some d) (hlt : X.ok d)
    (hx : opv st x = some (.bool p)) (hy : opv st y = some (.bool q)) : Does P X o st (st.put d (.val false [.v (.bool (if neg then !(p == q) else p == q))])) :=
  scalar_does hd hlt fun w a g h => by
    obtain ⟨e1, _⟩ := opv_ok h hx
    obtain ⟨e2, _⟩ := opv_ok h hy
    have hu := hT.bl hb
    have he0 : ∀ k, (Op.equalIn (k + 1) ty (.bool p) (.bool q)).run P w = .ok (p == q) w := by
      intro k
      simp only [Op.equalIn, Sem.run_bind, run_underlying hu, Result.andThen_ok, Sem.run_pure]
    have he : (Op.equal ty (.bool p) (.bool q)).run P w = .ok (p == q) w := he0 9999
    have hg : ∀ op, (eqGuard op ty x y (.bool p) (.bool q)).run P w = .ok () w := by
      intro op; unfold eqGuard; split <;> rfl
    refine ⟨?_, rfl⟩
    simp only [execOp, ho, e1, e2]
    cases neg <;> simp [hg, binOp, he]
theorem unOp_does {op : UnOp} {ty : TypeId} {x : Operand} {b : Bool} (ho : o.op = .unOp .not ty x) (hd : o.dst = some d) (hlt : X.ok d) (hx : opv st x = some (.bool b)) : Does P X o st (st.put d (.val false [.v (.bool !b)])) :=
  scalar_does hd hlt fun w a g h => by
    obtain ⟨e1, _⟩ := opv_ok h hx
    refine ⟨?_, rfl⟩
    simp only [execOp, ho, e1, Op.unary]
    rfl
theorem neg_does {ty : TypeId} {x : Operand} {k : IntKind} {m : Int} (ho : o.op = .unOp .neg ty x) (hd : o.dst = some d) (hlt : X.ok d) (hx : opv st x = some (.int k m)) : Does P X o st (st.put d (.val false [.v (.int k (k.wrap (0 - m)))])) :=
  scalar_does hd hlt fun w a g h => by
    obtain ⟨e1, _⟩ := opv_ok h hx
    refine ⟨?_, rfl⟩
    simp only [execOp, ho, e1, Op.unary, Op.intArith]
    rfl
theorem conv_does {src dst : TypeId} {x : Operand} {k k' : IntKind} {m : Int} (ho : o.op = .convert src dst x) (hs : TyOK P src (TT src)) (hT : TyOK P dst (TT dst)) (hk : (TT dst).ik = some k) (hks : (TT src).ik = some k') (hd : o.dst = some d) (hlt : X.ok d)
    (hx : opv st x = some (.int k' m)) : Does P X o st (st.put d (.val false [.v (.int k (k.wrap m))])) :=
  scalar_does hd hlt fun w a g h => by
    obtain ⟨e1, _⟩ := opv_ok h hx
    refine ⟨?_, rfl⟩
    simp only [execOp, ho, e1, convert]
    simp [run_underlying (hT.ik k hk), run_underlying (hs.ik k' hks), Conv.intToInt]
/-- A slice's cells, behind whatever view. -/
def sliceC (st : St) (x : Operand) : Option (Bool × Nat × List (List C)) :=
  match x with
  | .tmp t => match st.env t with
    | .val false [.s o z xs] => some (o, z, xs)
    | .ref r off ps false 1 => match st.cells r with
      | some cs => match getC cs off ps 1 with
        | some [.s o z xs] => some (o, z, xs)
        | _ => none
      | none => none
    | .win r off ps lo hi => match st.cells r with
      | some cs => match getC cs off ps 1 with
        | some [.s o z xs] => some (o, z, (xs.drop lo).take (hi - lo))
        | _ => none
      | none => none
    | _ => none
  | .const (.slice none 0 0) => some (true, 0, [])
  | _ => none
theorem sliceC_ok {w : World} {a : Act} {g : Gh} (h : Conc X st w a g) {x : Operand} {oo : Bool} {z : Nat} {xs : List (List C)} (hx : sliceC st x = some (oo, z, xs)) : ∃ bs, repC w (Z0 X.w0 X.F) (.s oo z xs) (a.eval x) bs := by
  unfold sliceC at hx
  split at hx
  · rename_i t
    have henv := h.env t
    split at hx
    · rename_i o1 z1 xs1 he
      simp only [Option.some.injEq, Prod.mk.injEq] at hx
      obtain ⟨rfl, rfl, rfl⟩ := hx
      rw [he] at henv
      obtain ⟨h1, h2, h3⟩ := henv
      obtain ⟨u, hu, h4⟩ := repL_single.1 h3
      rw [hu] at h1
      exact ⟨_, by show repC _ _ _ (a.tmps.getD t undef) _; rw [h1]; exact h4⟩
    · rename_i r off ps he
      rw [he] at henv
      split at hx
      · rename_i cs hc
        split at hx
        · rename_i o1 z1 xs1 hg
          simp only [Option.some.injEq, Prod.mk.injEq] at hx
          obtain ⟨rfl, rfl, rfl⟩ := hx
          obtain ⟨b, p, us', e1, e2⟩ := henv.2 cs hc (by rw [hg]; simp)
          obtain ⟨pre, bs, hbl, hrep, _⟩ := h.cells_root hc
          obtain ⟨b', p', us1, hr', hk, b1, b2, b3, hbs, hsub⟩ := get_ok ps (g.at_ r).1 (g.at_ r).2 off 1 hrep hg
          unfold Gh.rsv at e1
          rw [hr'] at e1
          simp only [Option.some.injEq, Prod.mk.injEq] at e1
          obtain ⟨rfl, rfl, rfl⟩ := e1
          obtain ⟨u, hu, h4⟩ := repL_single.1 hsub
          rw [hu] at e2
          exact ⟨_, by show repC _ _ _ (a.tmps.getD t undef) _; rw [e2]; exact h4⟩
        · cases hx
      · cases hx
    · rename_i r off ps lo hi he
      rw [he] at henv
      split at hx
      · rename_i cs hc
        split at hx
        · rename_i o1 z1 xs1 hg
          simp only [Option.some.injEq, Prod.mk.injEq] at hx
          obtain ⟨rfl, rfl, rfl⟩ := hx
          obtain ⟨h1, h2, b, p, u, us', e1, e2⟩ := henv cs _ _ _ hc hg
          obtain ⟨pre, bs, hbl, hrep, _⟩ := h.cells_root hc
          obtain ⟨b', p', us1, hr', hk, b1, b2, b3, hbs, hsub⟩ := get_ok ps (g.at_ r).1 (g.at_ r).2 off 1 hrep hg
          unfold Gh.rsv at e1
          rw [hr'] at e1
          simp only [Option.some.injEq, Prod.mk.injEq] at e1
          obtain ⟨rfl, rfl, rfl⟩ := e1
          simp only [List.take_succ_cons, List.take_zero, repL_single, List.cons.injEq, and_true, exists_eq_left'] at hsub
          obtain ⟨bs', hw, _⟩ := repC_win hsub h1 h2
          exact ⟨_, by show repC _ _ _ (a.tmps.getD t undef) _; rw [e2]; exact hw⟩
        · cases hx
      · cases hx
    · cases hx
  · simp only [Option.some.injEq, Prod.mk.injEq] at hx
    obtain ⟨rfl, rfl, rfl⟩ := hx
    exact ⟨[], none, 0, rfl, by simp, by simp, rfl, rfl⟩
  · cases hx
theorem len_does {x : Operand} {t ty : TypeId} {oo : Bool} {z : Nat} {xs : List (List C)} {e : Nat} (ho : o.op = .call { callee := .builtin .len, args := #[x], argTypes := #[t] }) (hT : TyOK P t (TT t)) (he : (TT t).elem = some e) (hd : o.dst = some d) (hlt : X.ok d)
    (hx : sliceC st x = some (oo, z, xs)) : Does P X o st (st.put d (.val false [.v (.int .i64 xs.length)])) :=
  scalar_does hd hlt fun w a g h => by
    obtain ⟨bs, A, c, hv, _⟩ := sliceC_ok h hx
    refine ⟨?_, rfl⟩
    simp [execOp, ho, resolve, invoke, builtin, Builtin.len_, run_underlying (hT.elem e he), hv, goInt]
theorem lens_does {x : Operand} {t ty : TypeId} {s : ByteArray} (ho : o.op = .call { callee := .builtin .len, args := #[x], argTypes := #[t] }) (hT : TyOK P t (TT t)) (he : (TT t).str = true) (hd : o.dst = some d) (hlt : X.ok d)
    (hx : opv st x = some (.string s)) : Does P X o st (st.put d (.val false [.v (.int .i64 s.size)])) :=
  scalar_does hd hlt fun w a g h => by
    obtain ⟨e1, _⟩ := opv_ok h hx
    refine ⟨?_, rfl⟩
    simp [execOp, ho, resolve, invoke, builtin, Builtin.len_, run_underlying (hT.str he), e1, goInt]

/-! ### addresses -/
theorem nilCheck_does {x : Operand} {t : Nat} {r : Rt} {off : Nat} {ps : Pth} {cs : List C} (ho : o.op = .nilCheck (.tmp t)) (he : st.env t = .ptr r off ps) (hc : st.cells r = some cs) (hg : getC cs off ps 0 ≠ none) (hd : o.dst = some d) (hlt : X.ok d) (hb : r ≠ .slot d) :
    Does P X o st (st.put d (.ptr r off ps)) := by
  intro w a ⟨g, h, hh⟩
  left
  have henv := h.env t
  rw [he] at henv
  obtain ⟨b, p, us', e1, e2⟩ := henv.2 cs hc hg
  refine ⟨.pointer (some ⟨b, p, none⟩), w, ?_, ?_⟩
  · simp only [execOp, ho, Act.eval, e2]; rfl
  · rw [hd]; exact R.putL h hh hlt (us := []) (by simpa [L.base] using hb) (by rw [← e2]; exact henv)
def fieldL (st : St) (t : Nat) (f : Nat) : Option L :=
  match st.env t with
  | .ptr r off ps => match st.cells r with
    | some cs => match getC cs off ps 0 with
      | some _ => some (.ptr r (lastOff off ps f).1 (lastOff off ps f).2)
      | none => none
    | none => none
  | .sptr c i z off => match c with
    | .s _ z' xs => if z = z' ∧ i < xs.length then some (.sptr c i z (off + f)) else none
    | _ => none
  | _ => none
theorem field_does {s : TypeId} {t k f : Nat} {l : L} (ho : o.op = .fieldAddr s (.tmp t) k) (hT : TyOK P s (TT s)) (ha : (TT s).agg = true) (hf : (TT s).flds[k]? = some f) (hl : fieldL st t f = some l) (hd : o.dst = some d) (hlt : X.ok d) (hb : l.base ≠ some (.slot d)) :
    Does P X o st (st.put d l) := by
  intro w a ⟨g, h, hh⟩
  left
  obtain ⟨fs, hu, hfl, _, hsz⟩ := hT.agg ha
  rw [← hfl, List.getElem?_map] at hf
  obtain ⟨fd, hfd, rfl⟩ := Option.map_eq_some_iff.1 hf
  have hfd' : fs[k]? = some fd := by simpa using hfd
  obtain ⟨j, hj, hj0⟩ := hsz fd (List.mem_of_getElem? hfd)
  have hrun : ∀ b p, (Instr.fieldAt s (.pointer (some ⟨b, p, none⟩)) k).run P w = .ok (.pointer (some ⟨b, p + fd.offset, none⟩)) w := by
    intro b p
    simp [Instr.fieldAt, run_underlying hu, hfd', Instr.sureAddr, fieldPlace, sizeOf, typeInfo, hj, hj0, add_none]
  have henv := h.env t
  unfold fieldL at hl
  cases he : st.env t with
  | ptr r off ps =>
    rw [he] at hl henv
    simp only at hl
    split at hl
    · rename_i cs hc
      split at hl
      · rename_i sub hg
        injection hl with hl; subst hl
        obtain ⟨b, p, us', e1, e2⟩ := henv.2 cs hc (by rw [hg]; simp)
        refine ⟨.pointer (some ⟨b, p + fd.offset, none⟩), w, ?_, ?_⟩
        · simp only [execOp, ho, Act.eval, e2, Sem.run_bind, hrun]; rfl
        · rw [hd]
          refine R.putL h hh hlt (us := []) hb ⟨fun u hr => ?_, fun cs1 hc1 hn => ?_⟩
          · have := henv.1 u hr
            exact last_nil off ps fd.offset this
          · have hn' := get_last ps hn
            obtain ⟨b2, p2, us2, e3, e4⟩ := henv.2 cs1 hc1 hn'
            rw [e2] at e4
            injection e4 with e4; injection e4 with e4; injection e4 with e5 e6
            subst e5; subst e6
            exact ⟨_, _, _, rsv_last ps e3, rfl⟩
      · cases hl
    · cases hl
  | sptr c i z off =>
    rw [he] at hl henv
    simp only at hl
    split at hl
    · rename_i o1 z1 xs
      split at hl
      · rename_i hi
        obtain ⟨rfl, hi⟩ := hi
        injection hl with hl; subst hl
        obtain ⟨u, hc, h2⟩ := henv
        obtain ⟨b, p, us', e1, e2⟩ := h2 _ _ rfl hi
        have e3 := rsv_last (f := fd.offset) [(i, z, off)] e1
        refine ⟨.pointer (some ⟨b, p + fd.offset, none⟩), w, ?_, ?_⟩
        · simp only [execOp, ho, Act.eval, e2, Sem.run_bind, hrun]; rfl
        · rw [hd]
          refine R.putL h hh hlt (us := []) hb ⟨u, hc, fun o2 xs2 ho2 hi2 => ⟨b, p + fd.offset, us'.drop fd.offset, by simpa [lastOff] using e3, rfl⟩⟩
      · cases hl
    · cases hl
  | _ => rw [he] at hl; cases hl
theorem rsv_snoc {w : World} : ∀ (ps : Pth) {b p off b' p' i z : Nat} {us us' : List Value} {ad : Addr} {m c : Nat} {arr : Array Value} {T : TypeId} {fr : Nat × Nat}, rsv w b p us off ps = some (b', p', .slice (some ad) m c :: us') →
    w.heap[ad.block]? = some (.cells arr T fr) → rsv w b p us off (ps ++ [(i, z, 0)]) = some (ad.block, ad.off + i * z, arr.toList.drop (ad.off + i * z))
  | [], b, p, off, b', p', i, z, us, us', ad, m, c, arr, T, fr, h, hb => by
    simp only [rsv, Option.some.injEq, Prod.mk.injEq] at h
    obtain ⟨_, _, h⟩ := h
    have : us[off]? = some (.slice (some ad) m c) := by
      have := congrArg (fun l : List Value => l[0]?) h
      simpa using this
    simp [rsv, this, hb]
  | (i0, z0, o0) :: ps, b, p, off, b', p', i, z, us, us', ad, m, c, arr, T, fr, h, hb => by
    simp only [rsv, List.cons_append] at h ⊢
    split at h
    · split at h
      · exact rsv_snoc ps h hb
      · cases h
    · cases h
theorem get_snoc : ∀ (ps : Pth) {cs : List C} {off i z : Nat}, getC cs off (ps ++ [(i, z, 0)]) 0 ≠ none → ∃ o xs e, getC cs off ps 1 = some [.s o z xs] ∧ xs[i]? = some e
  | [], cs, off, i, z, h => by
    simp only [List.nil_append, getC, ne_eq] at h
    split at h
    · rename_i o z' xs hc
      split at h
      · rename_i hz; subst hz
        split at h
        · rename_i e he
          have hoff : off < cs.length := by
            rcases Nat.lt_or_ge off cs.length with h | h
            · exact h
            · simp [List.getElem?_eq_none h] at hc
          refine ⟨o, xs, e, ?_, he⟩
          simp only [getC]
          rw [if_pos (by omega), List.drop_eq_getElem_cons hoff]
          rw [List.getElem?_eq_getElem hoff] at hc
          injection hc with hc
          simp [hc]
        · exact absurd rfl h
      · exact absurd rfl h
    · exact absurd rfl h
  | (i0, z0, o0) :: ps, cs, off, i, z, h => by
    simp only [List.cons_append, getC, ne_eq] at h ⊢
    split at h
    · rename_i o z' xs hc
      split at h
      · rename_i hz; subst hz
        split at h
        · rename_i e he
          rw [if_pos rfl]
          exact get_snoc ps h
        · exact absurd rfl h
      · exact absurd rfl h
    · exact absurd rfl h
/-- Where an index leads. -/
def indexL (st : St) (x : Operand) (i z : Nat) : Option L :=
  match x with
  | .tmp t => match st.env t with
    | .val false [.s o z' xs] => if z = z' ∧ i < xs.length then (if o then some (.ptr (.slot t) 0 [(i, z, 0)]) else some (.sptr (.s o z' xs) i z 0)) else none
    | .ref r off ps false 1 => match st.cells r with
      | some cs => match getC cs off ps 1 with
        | some [.s o z' xs] => if z = z' ∧ i < xs.length then some (.ptr r off (ps ++ [(i, z, 0)])) else none
        | _ => none
      | none => none
    | .win r off ps lo hi => match st.cells r with
      | some cs => match getC cs off ps 1 with
        | some [.s o z' xs] => if z = z' ∧ lo + i < hi then some (.ptr r off (ps ++ [(lo + i, z, 0)])) else none
        | _ => none
      | none => none
    | _ => none
  | _ => none

theorem run_indexAt {w : World} {t e : TypeId} {T : Ty} {ad : Addr} {m c : Nat} {k : IntKind} {j : Int} (hu : P.underlying t = some (.slice e)) (hT : TyOK P e T) (h0 : 0 ≤ j) (h1 : j < m) (hs : ad.spot = none) :
    (Instr.indexAt t (.slice (some ad) m c) (.int k j)).run P w = .ok (.pointer (some ⟨ad.block, ad.off + j.toNat * T.size, none⟩)) w := by
  obtain ⟨i, z, hi, hsz, _⟩ := hT.info
  obtain ⟨b, o, sp⟩ := ad
  simp only at hs; subst hs
  simp [Instr.indexAt, asIntOf, run_underlying hu, sizeOf, typeInfo, hi, hsz, h0, h1, add_none]
theorem index_does {t : TypeId} {e : Nat} {x ix : Operand} {k : IntKind} {j : Int} {l : L} (ho : o.op = .indexAddr t x ix) (hT : TyOK P t (TT t)) (he : (TT t).elem = some e) (hTe : TyOK P e (TT e)) (hj : opv st ix = some (.int k j)) (h0 : 0 ≤ j)
    (hl : indexL st x j.toNat (TT e).size = some l) (hd : o.dst = some d) (hlt : X.ok d) (hb : l.base ≠ some (.slot d)) : Does P X o st (st.put d l) := by
  intro w a ⟨g, h, hh⟩
  left
  obtain ⟨ej, _⟩ := opv_ok h hj
  have hu := hT.elem e he
  unfold indexL at hl
  cases x with
  | tmp u =>
    have henv := h.env u
    simp only at hl
    split at hl
    · rename_i oo z' xs hee
      split at hl
      · rename_i hc
        obtain ⟨rfl, hi⟩ := hc
        rw [hee] at henv
        obtain ⟨h1, h2, h3⟩ := henv
        obtain ⟨uv, huv, h4⟩ := repL_single.1 h3
        rw [huv] at h1
        have h4' := h4
        obtain ⟨A, c, rfl, hlc, hA⟩ := h4
        cases A with
        | none => exfalso; simp only at hA; omega
        | some ad =>
          rcases hA with hA | ⟨arr, T, fr, inn, g1, g2, g3, g4, g5⟩
          · exfalso; omega
          · have hrun := run_indexAt (w := w) (c := c) (k := k) hu hTe h0 (show j < (xs.length : Int) by omega) g2
            have ex : a.eval (.tmp u) = .slice (some ad) xs.length c := h1
            refine ⟨_, w, by simp only [execOp, ho, ex, ej, Sem.run_bind, hrun]; rfl, ?_⟩
            rw [hd]
            have hrs : ∀ b p, rsv w b p [.slice (some ad) xs.length c] 0 [(j.toNat, (TT e).size, 0)] = some (ad.block, ad.off + j.toNat * (TT e).size, arr.toList.drop (ad.off + j.toNat * (TT e).size)) := by
              intro b p; simp [rsv, g1]
            split at hl
            · rename_i hoo
              injection hl with hl; subst hl
              exact R.putL h hh hlt (us := []) hb ⟨fun _ _ => by simp, fun cs1 hc1 hn => ⟨_, _, _, by unfold Gh.rsv; rw [huv]; exact hrs _ _, rfl⟩⟩
            · rename_i hoo
              have : oo = false := by simpa using hoo
              subst this
              injection hl with hl; subst hl
              obtain ⟨_, hbs, _⟩ := g4 rfl
              rw [hbs] at h4'
              exact R.putL h hh hlt (us := []) hb ⟨_, h4', fun o1 xs1 ho1 hi1 => ⟨_, _, _, hrs _ _, rfl⟩⟩
      · cases hl
    · rename_i r off ps hee
      split at hl
      · rename_i cs hc
        split at hl
        · rename_i oo z' xs hg
          split at hl
          · rename_i hcc
            obtain ⟨rfl, hi⟩ := hcc
            injection hl with hl; subst hl
            rw [hee] at henv
            obtain ⟨b, p, us', e1, e2⟩ := henv.2 cs hc (by rw [hg]; simp)
            obtain ⟨pre, bs, hbl, hrep, _⟩ := h.cells_root hc
            obtain ⟨b', p', us1, hr', hk, b1, b2, b3, hbs, hsub⟩ := get_ok ps (g.at_ r).1 (g.at_ r).2 off 1 hrep hg
            unfold Gh.rsv at e1
            rw [hr'] at e1
            simp only [Option.some.injEq, Prod.mk.injEq] at e1
            obtain ⟨rfl, rfl, rfl⟩ := e1
            obtain ⟨uv, huv, h4⟩ := repL_single.1 hsub
            rw [huv] at e2
            obtain ⟨A, c, rfl, hlc, hA⟩ := h4
            cases A with
            | none => exfalso; simp only at hA; omega
            | some ad =>
              rcases hA with hA | ⟨arr, T, fr, inn, g1, g2, g3, g4, g5⟩
              · exfalso; omega
              · have hrun := run_indexAt (w := w) (c := c) (k := k) hu hTe h0 (show j < (xs.length : Int) by omega) g2
                have ex : a.eval (.tmp u) = .slice (some ad) xs.length c := e2
                refine ⟨_, w, by simp only [execOp, ho, ex, ej, Sem.run_bind, hrun]; rfl, ?_⟩
                rw [hd]
                have hus : ∃ us2, us1 = .slice (some ad) xs.length c :: us2 := by
                  cases us1 with
                  | nil => simp at hk
                  | cons u us2 => exact ⟨us2, by simp at huv; rw [huv]⟩
                obtain ⟨us2, rfl⟩ := hus
                exact R.putL h hh hlt (us := []) hb ⟨fun _ _ => by simp, fun cs1 hc1 hn => ⟨_, _, _, rsv_snoc ps hr' g1, rfl⟩⟩
          · cases hl
        · cases hl
      · cases hl
    · rename_i r off ps lo hi' hee
      split at hl
      · rename_i cs hc
        split at hl
        · rename_i oo z' xs hg
          split at hl
          · rename_i hcc
            obtain ⟨rfl, hi⟩ := hcc
            injection hl with hl; subst hl
            rw [hee] at henv
            obtain ⟨k1, k2, b, p, u', us', e1, e2⟩ := henv cs _ _ _ hc hg
            obtain ⟨pre, bs, hbl, hrep, _⟩ := h.cells_root hc
            obtain ⟨b', p', us1, hr', hk, b1, b2, b3, hbs, hsub⟩ := get_ok ps (g.at_ r).1 (g.at_ r).2 off 1 hrep hg
            unfold Gh.rsv at e1
            rw [hr'] at e1
            simp only [Option.some.injEq, Prod.mk.injEq] at e1
            obtain ⟨rfl, rfl, rfl⟩ := e1
            simp only [List.take_succ_cons, List.take_zero, repL_single, List.cons.injEq, and_true, exists_eq_left'] at hsub
            obtain ⟨A, c, rfl, hlc, hA⟩ := hsub
            cases A with
            | none => exfalso; simp only at hA; omega
            | some ad =>
              rcases hA with hA | ⟨arr, T, fr, inn, g1, g2, g3, g4, g5⟩
              · exfalso; omega
              · have hlc' : lo ≠ c := by omega
                have e2' : a.tmps.getD u undef = .slice (some ⟨ad.block, ad.off + lo * (TT e).size, none⟩) (hi' - lo) (c - lo) := by
                  rw [e2]; simp only [winV, if_neg hlc', Option.map_some]
                  obtain ⟨q1, q2, q3⟩ := ad
                  simp only at g2; subst g2
                  rw [add_none]
                have hrun := run_indexAt (w := w) (ad := ⟨ad.block, ad.off + lo * (TT e).size, none⟩) (m := hi' - lo) (c := c - lo) (k := k) hu hTe h0 (by omega) rfl
                have ex : a.eval (.tmp u) = .slice (some ⟨ad.block, ad.off + lo * (TT e).size, none⟩) (hi' - lo) (c - lo) := e2'
                refine ⟨_, w, by simp only [execOp, ho, ex, ej, Sem.run_bind, hrun]; rfl, ?_⟩
                rw [hd]
                refine R.putL h hh hlt (us := []) hb ⟨fun _ _ => by simp, fun cs1 hc1 hn => ⟨_, _, _, rsv_snoc ps hr' g1, ?_⟩⟩
                simp only [Nat.add_mul, Nat.add_assoc]
          · cases hl
        · cases hl
      · cases hl
    · cases hl
  | _ => cases hl
end Go.Lvm
