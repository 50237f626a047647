/- Lemmas of the by-value machine and of the data that the contracts speak of: each holds under the hypotheses that it states. -/
import Derived.Test.YtmfdechkhdjebaaLvm26
set_option linter.unusedVariables false
set_option linter.unusedSimpArgs false
namespace Go.Lvm
/-! ### The program's data, by value -/
def ci (x : Int) : C := .v (.int .i64 x)
def cb (x : Bool) : C := .v (.bool x)
def intC (x : Int) : List C := [.v (.int .i64 x)]
def intsC (o : Bool) (s : List Int) : List C := [.s o 1 (rows intC s)]
structure Wr where
  n : Int
  s : List Int
  deriving DecidableEq
def wrC (o : Bool) (w : Wr) : List C := [.v (.int .i64 w.n), .s o 1 (rows intC w.s)]
structure Mem where
  secs : List (List Int)
  cache : List Wr
  failed : Bool
  bad : List Int
  deriving DecidableEq
def memC (o : Bool) (m : Mem) : List C := [.s o 1 (rows (intsC o) m.secs), .s o 2 (rows (wrC o) m.cache), .v (.bool m.failed), .s o 1 (rows intC m.bad)]
structure Geo where
  n : Int
  s : Int
  deriving DecidableEq
def geoC (g : Geo) : List C := [.v (.int .i64 g.n), .v (.int .i64 g.s)]
structure Super where
  id : Int
  gen : Int
  role : Int
  n : Int
  s : Int
  tail : Int
  lost : Int
  built : Int
  deriving DecidableEq
def superC (s : Super) : List C := [.v (.int .i64 s.id), .v (.int .i64 s.gen), .v (.int .i64 s.role), .v (.int .i64 s.n), .v (.int .i64 s.s), .v (.int .i64 s.tail), .v (.int .i64 s.lost), .v (.int .i64 s.built)]
structure Arr where
  id : Int
  g : Geo
  mems : List Mem
  lost : Int
  built : Int
  seq : Int
  tail : Int
  gen : Int
  dirty : List Wr
  fuse : Int
  down : Bool
  broken : Bool
  deriving DecidableEq
def arrC (o : Bool) (a : Arr) : List C := [.v (.int .i64 a.id), .v (.int .i64 a.g.n), .v (.int .i64 a.g.s), .s o 4 (rows (memC o) a.mems), .v (.int .i64 a.lost), .v (.int .i64 a.built), .v (.int .i64 a.seq), .v (.int .i64 a.tail), .v (.int .i64 a.gen), .s o 2 (rows (wrC o) a.dirty), .v (.int .i64 a.fuse), .v (.bool a.down), .v (.bool a.broken)]
structure Cmd where
  op : Int
  id : Int
  lba : Int
  n : Int
  vals : List Int
  deriving DecidableEq
def cmdC (o : Bool) (c : Cmd) : List C := [.v (.int .i64 c.op), .v (.int .i64 c.id), .v (.int .i64 c.lba), .v (.int .i64 c.n), .s o 1 (rows intC c.vals)]
structure Job where
  c : Cmd
  at_ : Int
  got : List Int
  code : Int
  deriving DecidableEq
def jobC (o : Bool) (j : Job) : List C := [.v (.int .i64 j.c.op), .v (.int .i64 j.c.id), .v (.int .i64 j.c.lba), .v (.int .i64 j.c.n), .s o 1 (rows intC j.c.vals), .v (.int .i64 j.at_), .s o 1 (rows intC j.got), .v (.int .i64 j.code)]
structure Ans where
  id : Int
  code : Int
  vals : List Int
  deriving DecidableEq
def ansC (o : Bool) (x : Ans) : List C := [.v (.int .i64 x.id), .v (.int .i64 x.code), .s o 1 (rows intC x.vals)]
structure Turn where
  c : Cmd
  a : Ans
  deriving DecidableEq
def turnC (o : Bool) (t : Turn) : List C := [.v (.int .i64 t.c.op), .v (.int .i64 t.c.id), .v (.int .i64 t.c.lba), .v (.int .i64 t.c.n), .s o 1 (rows intC t.c.vals), .v (.int .i64 t.a.id), .v (.int .i64 t.a.code), .s o 1 (rows intC t.a.vals)]
structure Eng where
  a : Arr
  wait : List Cmd
  jobs : List Job
  done : List Ans
  log : List Turn
  deriving DecidableEq
def engC (o : Bool) (e : Eng) : List C := [.v (.int .i64 e.a.id), .v (.int .i64 e.a.g.n), .v (.int .i64 e.a.g.s), .s o 4 (rows (memC o) e.a.mems), .v (.int .i64 e.a.lost), .v (.int .i64 e.a.built), .v (.int .i64 e.a.seq), .v (.int .i64 e.a.tail), .v (.int .i64 e.a.gen), .s o 2 (rows (wrC o) e.a.dirty), .v (.int .i64 e.a.fuse), .v (.bool e.a.down), .v (.bool e.a.broken), .s o 5 (rows (cmdC o) e.wait), .s o 8 (rows (jobC o) e.jobs), .s o 3 (rows (ansC o) e.done), .s o 8 (rows (turnC o) e.log)]
/-! static, owned -/
theorem isSt_v (x : Value) : isSt (.v x) = true := rfl
theorem isSt_s (o : Bool) (z : Nat) (xs : List (List C)) : isSt (.s o z xs) = !o := rfl
theorem isSt_d : isSt .d = false := rfl
theorem stt_ints (l : List Int) : sttR (rows intC l) = rows intC l := sttR_rows _ _ _ fun x => rfl
theorem sttL_ints (o : Bool) (l : List Int) : sttL (intsC o l) = intsC false l := by simp [intsC, sttL, stt, stt_ints]
theorem stt_intss (o : Bool) (l : List (List Int)) : sttR (rows (intsC o) l) = rows (intsC false) l := sttR_rows _ _ _ (sttL_ints o)
theorem sttL_wr (o : Bool) (w : Wr) : sttL (wrC o w) = wrC false w := by simp [wrC, sttL, stt, stt_ints]
theorem stt_wrs (o : Bool) (l : List Wr) : sttR (rows (wrC o) l) = rows (wrC false) l := sttR_rows _ _ _ (sttL_wr o)
theorem sttL_mem (o : Bool) (m : Mem) : sttL (memC o m) = memC false m := by simp [memC, sttL, stt, stt_ints, stt_intss, stt_wrs]
theorem stt_mems (o : Bool) (l : List Mem) : sttR (rows (memC o) l) = rows (memC false) l := sttR_rows _ _ _ (sttL_mem o)
theorem sttL_cmd (o : Bool) (c : Cmd) : sttL (cmdC o c) = cmdC false c := by simp [cmdC, sttL, stt, stt_ints]
theorem stt_cmds (o : Bool) (l : List Cmd) : sttR (rows (cmdC o) l) = rows (cmdC false) l := sttR_rows _ _ _ (sttL_cmd o)
theorem sttL_job (o : Bool) (c : Job) : sttL (jobC o c) = jobC false c := by simp [jobC, sttL, stt, stt_ints]
theorem stt_jobs (o : Bool) (l : List Job) : sttR (rows (jobC o) l) = rows (jobC false) l := sttR_rows _ _ _ (sttL_job o)
theorem sttL_ans (o : Bool) (c : Ans) : sttL (ansC o c) = ansC false c := by simp [ansC, sttL, stt, stt_ints]
theorem stt_anss (o : Bool) (l : List Ans) : sttR (rows (ansC o) l) = rows (ansC false) l := sttR_rows _ _ _ (sttL_ans o)
theorem sttL_turn (o : Bool) (c : Turn) : sttL (turnC o c) = turnC false c := by simp [turnC, sttL, stt, stt_ints]
theorem stt_turns (o : Bool) (l : List Turn) : sttR (rows (turnC o) l) = rows (turnC false) l := sttR_rows _ _ _ (sttL_turn o)
theorem ownR_app (a b : List (List C)) : ownR (a ++ b) = (ownR a && ownR b) := by
  induction a with
  | nil => rfl
  | cons x a ih => simp only [List.cons_append, ownR, ih, Bool.and_assoc]
theorem ownR_rep (n : Nat) (e : List C) (h : ownL e = true) : ownR (List.replicate n e) = true := by
  induction n with
  | zero => rfl
  | succ n ih => simp only [List.replicate_succ, ownR, h, ih, Bool.and_self]
theorem own_ints (l : List Int) : ownR (rows intC l) = true := ownR_rows _ _ fun x => rfl
theorem ownL_ints (l : List Int) : ownL (intsC true l) = true := by simp [intsC, ownL, ownC, own_ints]
theorem own_intss (l : List (List Int)) : ownR (rows (intsC true) l) = true := ownR_rows _ _ ownL_ints
theorem ownL_wr (w : Wr) : ownL (wrC true w) = true := by simp [wrC, ownL, ownC, own_ints]
theorem own_wrs (l : List Wr) : ownR (rows (wrC true) l) = true := ownR_rows _ _ ownL_wr
theorem ownL_mem (m : Mem) : ownL (memC true m) = true := by simp [memC, ownL, ownC, own_ints, own_intss, own_wrs]
theorem own_mems (l : List Mem) : ownR (rows (memC true) l) = true := ownR_rows _ _ ownL_mem
theorem ownL_cmd (c : Cmd) : ownL (cmdC true c) = true := by simp [cmdC, ownL, ownC, own_ints]
theorem own_cmds (l : List Cmd) : ownR (rows (cmdC true) l) = true := ownR_rows _ _ ownL_cmd
theorem ownL_job (c : Job) : ownL (jobC true c) = true := by simp [jobC, ownL, ownC, own_ints]
theorem own_jobs (l : List Job) : ownR (rows (jobC true) l) = true := ownR_rows _ _ ownL_job
theorem ownL_ans (c : Ans) : ownL (ansC true c) = true := by simp [ansC, ownL, ownC, own_ints]
theorem own_anss (l : List Ans) : ownR (rows (ansC true) l) = true := ownR_rows _ _ ownL_ans
theorem ownL_turn (c : Turn) : ownL (turnC true c) = true := by simp [turnC, ownL, ownC, own_ints]
theorem own_turns (l : List Turn) : ownR (rows (turnC true) l) = true := ownR_rows _ _ ownL_turn
/-! ### What the small functions tell -/
def eqI (a b : Int) : Bool := decide (a = b)
theorem eqI_iff {a b : Int} : eqI a b = true ↔ a = b := by simp [eqI]
theorem eqI_no {a b : Int} : eqI a b = false ↔ a ≠ b := by simp [eqI]
theorem int_beq (a b : Int) : (a == b) = eqI a b := by rw [Bool.eq_iff_iff]; simp [eqI]
theorem int_bne (a b : Int) : (a != b) = !eqI a b := by rw [bne, int_beq]
theorem eqI_self (a : Int) : eqI a a = true := by simp [eqI]
def inB (x lo hi : Int) : Bool := decide (lo ≤ x) && decide (x ≤ hi)
theorem inB_iff {x lo hi : Int} : inB x lo hi = true ↔ lo ≤ x ∧ x ≤ hi := by simp [inB]
theorem inB_no {x lo hi : Int} : inB x lo hi = false ↔ ¬ (lo ≤ x ∧ x ≤ hi) := by rw [← inB_iff]; simp
def w64 (x : Int) : Int := IntKind.i64.wrap x
theorem wrap_w (x : Int) : IntKind.i64.wrap x = w64 x := rfl
def geoOk (g : Geo) : Bool := inB g.n 3 5 && inB g.s 1 8
def dataAt (s : Int) : Int := if inB s 0 1099511627776 then s + 6 else -1
def wordB (x : Int) : Bool := inB x 0 65535
def wordsB (l : List Int) : Bool := l.all wordB
def secB (l : List Int) : Bool := decide ((l.length : Int) ≤ 12) && wordsB l
theorem allSt_ints (l : List Int) : (rows intC l).all (fun r => r.all isSt) = true := allSt_rows _ _ fun x => rfl
theorem allSt_intss (l : List (List Int)) : (rows (intsC false) l).all (fun r => r.all isSt) = true := allSt_rows _ _ fun x => rfl
theorem allSt_wrs (l : List Wr) : (rows (wrC false) l).all (fun r => r.all isSt) = true := allSt_rows _ _ fun x => rfl
theorem allSt_mems (l : List Mem) : (rows (memC false) l).all (fun r => r.all isSt) = true := allSt_rows _ _ fun x => rfl
theorem allSt_cmds (l : List Cmd) : (rows (cmdC false) l).all (fun r => r.all isSt) = true := allSt_rows _ _ fun x => rfl
theorem allSt_jobs (l : List Job) : (rows (jobC false) l).all (fun r => r.all isSt) = true := allSt_rows _ _ fun x => rfl
theorem allSt_anss (l : List Ans) : (rows (ansC false) l).all (fun r => r.all isSt) = true := allSt_rows _ _ fun x => rfl
theorem allSt_turns (l : List Turn) : (rows (turnC false) l).all (fun r => r.all isSt) = true := allSt_rows _ _ fun x => rfl
theorem wrap_succ (i n : Nat) (hi : i < n) (hn : n < 2 ^ 62) : IntKind.i64.wrap ((i : Int) + 1) = ((i + 1 : Nat) : Int) := by
  simp [IntKind.wrap, IntKind.bits]
  omega
theorem wrap_id (x : Int) (h1 : -9223372036854775808 ≤ x) (h2 : x ≤ 9223372036854775807) : IntKind.i64.wrap x = x := by
  have hs : IntKind.i64.signed = true := rfl
  simp only [IntKind.wrap, IntKind.bits, hs]
  simp
  split <;> omega
theorem w64_id {x : Int} (h1 : -9223372036854775808 ≤ x) (h2 : x ≤ 9223372036854775807) : w64 x = x := wrap_id x h1 h2
end Go.Lvm
