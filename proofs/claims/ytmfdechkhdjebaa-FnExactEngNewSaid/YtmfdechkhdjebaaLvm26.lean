/- Lemmas of the by-value machine and of the data that the contracts speak of: each holds under the hypotheses that it states. -/
import Derived.Test.YtmfdechkhdjebaaLvm25
set_option linter.unusedVariables false
set_option linter.unusedSimpArgs false
namespace Go.Lvm
variable {P : Program} {TT : Nat → Ty} {X : Fx} {E : Ev} {st st' : St} {o : Oper} {d : Nat} {ops : Array Oper} {Q : Ex → St → Prop}
/-- A function's value: what it is, nobody asks. -/
theorem makeFunc_does {f : FuncId} {c : Array Operand} (ho : o.op = .makeFunc (.func f) #[] c) (hd : o.dst = some d) (hlt : X.ok d) : Does P X o st (st.put d (.val false [.d])) := by
  intro w a ⟨g, h, hh⟩
  left
  refine ⟨.func (.func f) #[] (c.map a.eval), w, ?_, ?_⟩
  · simp [execOp, ho, Instr.makeFunc]
  · rw [hd]; exact R.putL h hh hlt (us := [.func (.func f) #[] (c.map a.eval)]) (by simp [L.base]) ⟨rfl, fun _ => rfl, repL_single.2 ⟨_, rfl, rfl, rfl⟩⟩
theorem AO.makeFunc (hE : E.ok X) {l : List Oper} {f : FuncId} {c : Array Operand} {d t : Nat} {s : String} {af : Array Edge} (hd : E.dst d = true) (h : AO P X ops l Q (st.put d (.val false [.d]))) : AO P X ops ({ dst := some d, op := .makeFunc (.func f) #[] c, type := t, pos := s, after := af, guard := none } :: l) Q st :=
  AO.step rfl (Does.step (makeFunc_does rfl rfl (Ev.dst_ok hE hd))) h
end Go.Lvm
