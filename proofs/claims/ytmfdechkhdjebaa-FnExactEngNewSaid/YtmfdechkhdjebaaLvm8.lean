/- Lemmas of the by-value machine and of the data that the contracts speak of: each holds under the hypotheses that it states. -/
import Derived.Test.YtmfdechkhdjebaaLvm7
set_option linter.unusedVariables false
set_option linter.unusedSimpArgs false
namespace Go.Lvm
variable {P : Program} {TT : Nat → Ty} {X : Fx} {st st' : St} {o : Oper} {d : Nat}
section
variable {W : World} {Z : Nat → Prop} {z : Nat}
theorem repR_flat : ∀ {xs : List (List C)} {us : List Value} {bs : List Nat}, repR W Z z xs us bs → xs.length * z ≤ us.length
  | [], us, bs, h => by simp
  | x :: xs, us, bs, h => by
    obtain ⟨u1, us', b1, b2, rfl, hl, rfl, h1, h2⟩ := h
    have := repR_flat h2
    simp [hl, Nat.add_mul]; omega
theorem repR_pre : ∀ {xs : List (List C)} {us : List Value} {bs : List Nat} (r : List Value), repR W Z z xs us bs → repR W Z z xs (us.take (xs.length * z) ++ r) bs
  | [], us, bs, r, h => h
  | x :: xs, us, bs, r, h => by
    obtain ⟨u1, us', b1, b2, rfl, hl, rfl, h1, h2⟩ := h
    refine ⟨u1, us'.take (xs.length * z) ++ r, b1, b2, ?_, hl, rfl, h1, repR_pre r h2⟩
    rw [List.length_cons, Nat.add_mul, Nat.one_mul, show xs.length * z + z = u1.length + xs.length * z by omega, List.take_length_add_append, List.append_assoc]
theorem repR_app : ∀ {xs ys : List (List C)} {us vs : List Value} {bs cs : List Nat}, repR W Z z xs us bs → us.length = xs.length * z → repR W Z z ys vs cs → repR W Z z (xs ++ ys) (us ++ vs) (bs ++ cs)
  | [], ys, us, vs, bs, cs, h, hl, h' => by
    have : us = [] := List.eq_nil_of_length_eq_zero (by simpa using hl)
    subst this
    rw [show bs = [] from h]
    exact h'
  | x :: xs, ys, us, vs, bs, cs, h, hl, h' => by
    obtain ⟨u1, us', b1, b2, rfl, hl1, rfl, h1, h2⟩ := h
    refine ⟨u1, us' ++ vs, b1, b2 ++ cs, by simp, hl1, by simp, h1, repR_app h2 (by simp [Nat.add_mul, hl1] at hl; omega) h'⟩
theorem repR_one : ∀ {xs : List (List C)} {us : List Value} {bs : List Nat}, repR W Z z xs us bs → ∀ u ∈ us.take (xs.length * z), u.oneCell' = true
  | [], us, bs, h, u, hu => by simp at hu
  | x :: xs, us, bs, h, u, hu => by
    obtain ⟨u1, us', b1, b2, rfl, hl1, rfl, h1, h2⟩ := h
    rw [List.length_cons, Nat.add_mul, Nat.one_mul, show xs.length * z + z = u1.length + xs.length * z by omega, List.take_length_add_append] at hu
    rcases List.mem_append.1 hu with hu | hu
    · exact repL_one h1 u hu
    · exact repR_one h2 u hu
theorem repR_st : ∀ {xs : List (List C)} {us : List Value} {bs : List Nat}, repR W Z z xs us bs → xs.all (·.all isSt) = true → bs = []
  | [], us, bs, h, _ => h
  | x :: xs, us, bs, h, hs => by
    obtain ⟨u1, us', b1, b2, rfl, hl1, rfl, h1, h2⟩ := h
    simp only [List.all_cons, Bool.and_eq_true] at hs
    rw [repL_st h1 hs.1, repR_st h2 hs.2]; rfl
end
/-! ### make -/
theorem run_makeSlice {t e : TypeId} {T : Ty} (hu : P.underlying t = some (.slice e)) (hT : TyOK P e T) (hzl : T.zero.length = T.size) {k : IntKind} {n : Int} (h0 : 0 ≤ n) (h1 : T.bytes * n ≤ 281474976710656) (h2 : n ≤ 281474976710656) (w : World) :
    ∃ us, (Instr.makeSlice t (.int k n) (.int k n)).run P w = .ok (.slice (some ⟨w.heap.size, 0, none⟩) n.toNat n.toNat) (w.alloc (.cells us.toArray e)) ∧ ∀ w Z, repL w Z (List.replicate n.toNat T.zero).flatten us [] := by
  obtain ⟨i, z, hi, hsz, hby, hz, hzo, _⟩ := hT.info
  have hz1 : ∀ w Z, repL w Z T.zero z.cells.toList [] := fun w Z => zeroOf_rep hzo
  have hzsz : z.cells.size = T.size := by rw [← Array.length_toList, repL_len (hz1 w (fun _ => True)), hzl]
  have hw : IntKind.i64.wrap n = n := by
    have h63 : (2 : Int) ^ IntKind.i64.bits = 18446744073709551616 := by decide
    have h62 : (2 : Int) ^ (IntKind.i64.bits - 1) = 9223372036854775808 := by decide
    unfold IntKind.wrap
    simp only [h63, h62]
    have : n % 18446744073709551616 = n := Int.emod_eq_of_lt h0 (by omega)
    rw [this]
    have : ¬ n ≥ 9223372036854775808 := by omega
    simp [this]
  refine ⟨(List.replicate n.toNat z.cells.toList).flatten, ?_, fun w Z => zeros_rep (hz1 w Z) _⟩
  have hb1 : ¬ ((i.bytes : Int) * n > 281474976710656) := by rw [hby]; omega
  have hn0 : ¬ n < 0 := by omega
  have h48 : (2 : Int) ^ 48 = 281474976710656 := by decide
  have hzc : ((Array.range (n.toNat * T.size)).map (z.cells[· % z.cells.size]!)) = (List.replicate n.toNat z.cells.toList).flatten.toArray := by
    have := zeros_cells z.cells n.toNat
    rw [hzsz] at this
    rw [← this, hzsz]
  have ha : ∀ w, (asInt (.int k n)).run P w = .ok n w := fun w => by simp [asInt, asIntOf]
  by_cases hpos : n.toNat * T.size = 0
  · have h0' : (List.replicate n.toNat z.cells.toList).flatten = [] := by
      apply List.eq_nil_of_length_eq_zero
      rw [repL_len (zeros_rep (hz1 w (fun _ => True)) n.toNat)]; simp [hzl, hpos]
    have hr0 : ∀ f : Nat → Value, (Array.range 0).map f = #[] := fun f => by simp
    simp [Instr.makeSlice, run_underlying hu, ha, typeInfo, hi, hw, hn0, hb1, sizeOf, hsz, hpos, newRow, h0', hr0, h48]
  · simp [Instr.makeSlice, run_underlying hu, ha, typeInfo, hi, hw, hn0, hb1, sizeOf, hsz, hpos, newRow, zeroValue, hz, h48]
    exact congrArg (fun c => w.alloc (Obj.cells c e)) hzc
theorem makeSlice_does {t : TypeId} {e : Nat} {x y : Operand} {k : IntKind} {n : Int} (ho : o.op = .makeSlice t x y) (hT : TyOK P t (TT t)) (he : (TT t).elem = some e) (hTe : TyOK P e (TT e)) (hzl : (TT e).zero.length = (TT e).size)
    (hd : o.dst = some d) (hlt : X.ok d) (hx : opv st x = some (.int k n)) (hy : opv st y = some (.int k n)) (h0 : 0 ≤ n) (h1 : (TT e).bytes * n ≤ 281474976710656) (h2 : n ≤ 281474976710656) :
    Does P X o st (st.put d (.val false [.s true (TT e).size (List.replicate n.toNat (TT e).zero)])) := by
  intro w a ⟨g, h, hh⟩
  left
  obtain ⟨e1, _⟩ := opv_ok h hx
  obtain ⟨e2, _⟩ := opv_ok h hy
  obtain ⟨us, hrun, hrep⟩ := run_makeSlice (hT.elem e he) hTe hzl (k := k) h0 h1 h2 w
  refine ⟨_, _, by simp only [execOp, ho, e1, e2, Sem.run_bind, hrun, Result.andThen_ok]; rfl, ?_⟩
  rw [hd]
  have hul := repL_len (hrep w (Z0 X.w0 X.F))
  have hfl : (List.replicate n.toNat (TT e).zero).flatten.length = n.toNat * (TT e).size := by simp [hzl]
  refine fresh_slice h hlt (cs := (List.replicate n.toNat (TT e).zero).flatten) (by rw [hh 0]; exact hrep _ _) (fun j _ => hh j) (fun w' hr => ?_) (by simp) (Nat.le_refl _) (by rw [hul, hfl]; exact Nat.le_refl _)
  have := repR_chunk n.toNat hr hfl
  have hck : ∀ m, chunk (TT e).size m (List.replicate m (TT e).zero).flatten = List.replicate m (TT e).zero := by
    intro m
    induction m with
    | zero => rfl
    | succ m ih => simp only [List.replicate_succ, List.flatten_cons, chunk]; rw [← hzl, List.take_left, List.drop_left, hzl, ih]
  rw [hck] at this
  exact this

/-! ### slices of slices -/
def sliceL (st : St) (x : Operand) (lo hi : Nat) : Option L :=
  match x with
  | .tmp t => match st.env t with
    | .val false [.s o z xs] => if o then some (.win (.slot t) 0 [] lo hi) else some (.val false [.s false z ((xs.drop lo).take (hi - lo))])
    | .ref r off ps false 1 => some (.win r off ps lo hi)
    | _ => none
  | _ => none
theorem run_slice {t e : TypeId} {T : Ty} (hu : P.underlying t = some (.slice e)) (hT : TyOK P e T) {A : Option Addr} {n c lo hi : Nat} {low high : Option Value} (hlo : (low = none ∧ lo = 0) ∨ ∃ k, low = some (.int k lo)) (hhi : (high = none ∧ hi = n) ∨ ∃ k, high = some (.int k hi))
    (h1 : lo ≤ hi) (h2 : hi ≤ n) (hc : n ≤ c) (w : World) : (Instr.sliceAt t (.slice A n c) low high none).run P w = .ok (winV T.size lo hi (.slice A n c)) w := by
  obtain ⟨i, z, hi', hsz, _⟩ := hT.info
  have hb : ∀ k (x y : Nat) code, x ≤ y → (Instr.sliceBound (.int k x) y code).run P w = .ok x w := by
    intro k x y code hxy
    simp [Instr.sliceBound, asIntOf, hxy]
  have hbs : (Instr.sliceBounds true n c low high none).run P w = .ok (lo, hi, c) w := by
    rcases hlo with ⟨rfl, rfl⟩ | ⟨k, rfl⟩ <;> rcases hhi with ⟨rfl, rfl⟩ | ⟨k', rfl⟩ <;> simp [Instr.sliceBounds, hb, h1, h2, Nat.le_trans h2 hc]
  have hcond : (c = lo) = (lo = c) := propext ⟨Eq.symm, Eq.symm⟩
  simp [Instr.sliceAt, Instr.slice, run_underlying hu, hbs, sizeOf, typeInfo, hi', hsz, winV, hcond]
theorem slice_does {t : TypeId} {e : Nat} {x : Operand} {low high : Option Operand} {lo hi : Nat} {oo : Bool} {xs : List (List C)} {l : L} (ho : o.op = .slice t x low high none) (hT : TyOK P t (TT t)) (he : (TT t).elem = some e) (hTe : TyOK P e (TT e))
    (hd : o.dst = some d) (hlt : X.ok d) (hx : sliceC st x = some (oo, (TT e).size, xs)) (hlo : (low = none ∧ lo = 0) ∨ ∃ q k, low = some q ∧ opv st q = some (.int k lo)) (hhi : (high = none ∧ hi = xs.length) ∨ ∃ q k, high = some q ∧ opv st q = some (.int k hi))
    (h1 : lo ≤ hi) (h2 : hi ≤ xs.length) (hl : sliceL st x lo hi = some l) (hb : l.base ≠ some (.slot d)) : Does P X o st (st.put d l) := by
  intro w a ⟨g, h, hh⟩
  left
  obtain ⟨bs, hrep⟩ := sliceC_ok h hx
  have hrep0 := hrep
  obtain ⟨A, c, hv, hlc, hA⟩ := hrep
  have hlo' : (low.map a.eval = none ∧ lo = 0) ∨ ∃ k, low.map a.eval = some (.int k lo) := by
    rcases hlo with ⟨rfl, h⟩ | ⟨q, k, rfl, hq⟩
    · exact .inl ⟨rfl, h⟩
    · exact .inr ⟨k, by rw [Option.map_some, (opv_ok h hq).1]⟩
  have hhi' : (high.map a.eval = none ∧ hi = xs.length) ∨ ∃ k, high.map a.eval = some (.int k hi) := by
    rcases hhi with ⟨rfl, h⟩ | ⟨q, k, rfl, hq⟩
    · exact .inl ⟨rfl, h⟩
    · exact .inr ⟨k, by rw [Option.map_some, (opv_ok h hq).1]⟩
  have hrun := run_slice (hT.elem e he) hTe (A := A) hlo' hhi' h1 h2 hlc w
  refine ⟨winV (TT e).size lo hi (.slice A xs.length c), w, ?_, ?_⟩
  · simp only [execOp, ho, hv, Sem.run_bind, Option.map_none, hrun, Result.andThen_ok]
    rfl
  · rw [hd]
    unfold sliceL at hl
    unfold sliceC at hx
    cases x with
    | tmp u =>
      have henv := h.env u
      simp only at hl hx
      cases hee : st.env u with
      | val gg cs =>
        rw [hee] at hl hx henv
        try simp only at hl
        try simp only at hx
        split at hx
        · rename_i o1 z1 xs1 heq
          simp only [L.val.injEq] at heq
          obtain ⟨rfl, rfl⟩ := heq
          simp only [Option.some.injEq, Prod.mk.injEq] at hx
          obtain ⟨rfl, rfl, rfl⟩ := hx
          simp only at hl
          split at hl
          · injection hl with hl; subst hl
            refine R.putL h hh hlt (us := []) hb (fun cs1 o2 z2 xs2 hc hg => ?_)
            simp only [St.cells, hee, L.cells, Option.some.injEq] at hc
            subst hc
            simp only [getC, List.length_cons, List.length_nil, Nat.zero_add, Nat.le_refl, if_true, List.drop_zero, List.take_succ_cons, List.take_zero, Option.some.injEq, List.cons.injEq, and_true, C.s.injEq] at hg
            obtain ⟨rfl, rfl, rfl⟩ := hg
            obtain ⟨q1, q2, q3⟩ := henv
            obtain ⟨uv, huv, q4⟩ := repL_single.1 q3
            refine ⟨h1, h2, 0, 0, uv, [], by simp [Gh.rsv, rsv, Gh.at_, huv], ?_⟩
            have : uv = .slice A xs1.length c := by
              rw [huv] at q1
              exact (show a.tmps.getD u undef = uv from q1).symm.trans hv
            rw [this]
          · rename_i hoo
            have : o1 = false := by simpa using hoo
            subst this
            injection hl with hl; subst hl
            obtain ⟨bs', hw, _⟩ := repC_win hrep0 h1 h2
            rw [hv] at hw
            have hw' := repL_single.2 ⟨_, rfl, hw⟩
            exact R.putL h hh hlt (us := [winV (TT e).size lo hi (.slice A xs1.length c)]) hb ⟨rfl, fun _ => rfl, repL_nil_bs hw' (by simp [isSt])⟩
        · rename_i r off ps heq; cases heq
        · rename_i r off ps lo hi heq; cases heq
        · cases hx
      | ref r off ps gg k =>
        rw [hee] at hl hx henv
        try simp only at hl
        try simp only at hx
        split at hl
        · rename_i heq; cases heq
        · rename_i r1 off1 ps1 heq
          simp only [L.ref.injEq] at heq
          obtain ⟨rfl, rfl, rfl, rfl, rfl⟩ := heq
          injection hl with hl; subst hl
          refine R.putL h hh hlt (us := []) hb (fun cs1 o2 z2 xs2 hc hg => ?_)
          simp only [hc, hg, Option.some.injEq, Prod.mk.injEq] at hx
          obtain ⟨rfl, rfl, rfl⟩ := hx
          obtain ⟨b, p, us', e1, e2⟩ := henv.2 cs1 hc (by rw [hg]; simp)
          have hk : 1 ≤ us'.length := by
            obtain ⟨pre, bs2, hbl, hrep2, _⟩ := h.cells_root hc
            obtain ⟨b', p', us1, hr', hk, _⟩ := get_ok ps (g.at_ r).1 (g.at_ r).2 off 1 hrep2 hg
            unfold Gh.rsv at e1
            rw [hr'] at e1
            simp only [Option.some.injEq, Prod.mk.injEq] at e1
            obtain ⟨rfl, rfl, rfl⟩ := e1
            exact hk
          cases us' with
          | nil => simp at hk
          | cons uv us' =>
            refine ⟨h1, h2, b, p, uv, us', e1, ?_⟩
            have : uv = .slice A xs2.length c := by
              have q : a.tmps.getD u undef = uv := by rw [e2]; rfl
              exact q.symm.trans hv
            rw [this]
        · cases hl
      | win r off ps l0 h0 => rw [hee] at hl; cases hl
      | _ => rw [hee] at hl; cases hl
    | _ => cases hl
end Go.Lvm
