/- Lemmas of the by-value machine and of the data that the contracts speak of: each holds under the hypotheses that it states. -/
import Derived.Test.YtmfdechkhdjebaaLvm21
import Derived.Test.YtmfdechkhdjebaaProg
import Derived.KernelRfl
set_option linter.unusedVariables false
set_option linter.unusedSimpArgs false
namespace Go.Proofs.Ytm
open Go.Lvm Go.Proofs
def tl : List (Nat × Ty) := [
  (3, { ok := true, size := 1, bytes := 8, zero := [.v (.int .i64 0)], ik := some .i64 }),
  (4, { ok := true, size := 1, bytes := 1, zero := [.v (.bool false)], bl := true }),
  (5, { ok := true, size := 1, bytes := 1, zero := [.v (.int .u8 0)], ik := some .u8 }),
  (9, { ok := true, size := 1, bytes := 16, zero := [.v (.string ⟨#[]⟩)], str := true }),
  (21, { ok := true, size := 1, bytes := 4, zero := [.v (.int .i32 0)], ik := some .i32 }),
  (22, { ok := true, size := 2, bytes := 16, zero := [.v (.int .i64 0), .v (.int .i64 0)], agg := true, flds := [0, 1], fk := [(1, 0), (1, 0)] }),
  (23, { ok := true, size := 2, bytes := 16, zero := [.v (.int .i64 0), .v (.int .i64 0)], agg := true, flds := [0, 1], fk := [(1, 0), (1, 0)] }),
  (24, { ok := true, size := 2, bytes := 16, zero := [.v (.int .i64 0), .v (.int .i64 0)], agg := true, flds := [0, 1], fk := [(1, 0), (1, 0)] }),
  (25, { ok := true, size := 1, bytes := 24, zero := [.s true 4 []], elem := some 57 }),
  (26, { ok := true, size := 1, bytes := 24, zero := [.s true 2 []], elem := some 99 }),
  (27, { ok := true, size := 13, bytes := 128, zero := [.v (.int .i64 0), .v (.int .i64 0), .v (.int .i64 0), .s true 4 [], .v (.int .i64 0), .v (.int .i64 0), .v (.int .i64 0), .v (.int .i64 0), .v (.int .i64 0), .s true 2 [], .v (.int .i64 0), .v (.bool false), .v (.bool false)], agg := true, flds := [0, 1, 3, 4, 5, 6, 7, 8, 9, 10, 11, 12], fk := [(1, 0), (2, 0), (1, 4), (1, 0), (1, 0), (1, 0), (1, 0), (1, 0), (1, 2), (1, 0), (1, 0), (1, 0)] }),
  (28, { ok := true, size := 13, bytes := 128, zero := [.v (.int .i64 0), .v (.int .i64 0), .v (.int .i64 0), .s true 4 [], .v (.int .i64 0), .v (.int .i64 0), .v (.int .i64 0), .v (.int .i64 0), .v (.int .i64 0), .s true 2 [], .v (.int .i64 0), .v (.bool false), .v (.bool false)], agg := true, flds := [0, 1, 3, 4, 5, 6, 7, 8, 9, 10, 11, 12], fk := [(1, 0), (2, 0), (1, 4), (1, 0), (1, 0), (1, 0), (1, 0), (1, 0), (1, 2), (1, 0), (1, 0), (1, 0)] }),
  (29, { ok := true, size := 1, bytes := 24, zero := [.s true 5 []], elem := some 74 }),
  (30, { ok := true, size := 1, bytes := 24, zero := [.s true 8 []], elem := some 77 }),
  (31, { ok := true, size := 1, bytes := 24, zero := [.s true 3 []], elem := some 80 }),
  (32, { ok := true, size := 1, bytes := 24, zero := [.s true 8 []], elem := some 83 }),
  (33, { ok := true, size := 17, bytes := 224, zero := [.v (.int .i64 0), .v (.int .i64 0), .v (.int .i64 0), .s true 4 [], .v (.int .i64 0), .v (.int .i64 0), .v (.int .i64 0), .v (.int .i64 0), .v (.int .i64 0), .s true 2 [], .v (.int .i64 0), .v (.bool false), .v (.bool false), .s true 5 [], .s true 8 [], .s true 3 [], .s true 8 []], agg := true, flds := [0, 13, 14, 15, 16], fk := [(13, 0), (1, 5), (1, 8), (1, 3), (1, 8)] }),
  (34, { ok := true, size := 17, bytes := 224, zero := [.v (.int .i64 0), .v (.int .i64 0), .v (.int .i64 0), .s true 4 [], .v (.int .i64 0), .v (.int .i64 0), .v (.int .i64 0), .v (.int .i64 0), .v (.int .i64 0), .s true 2 [], .v (.int .i64 0), .v (.bool false), .v (.bool false), .s true 5 [], .s true 8 [], .s true 3 [], .s true 8 []], agg := true, flds := [0, 13, 14, 15, 16], fk := [(13, 0), (1, 5), (1, 8), (1, 3), (1, 8)] }),
  (53, { ok := true, size := 1, bytes := 24, zero := [.s true 1 []], elem := some 55 }),
  (54, { ok := true, size := 1, bytes := 24, zero := [.s true 2 []], elem := some 93 }),
  (55, { ok := true, size := 1, bytes := 24, zero := [.s true 1 []], elem := some 3 }),
  (56, { ok := true, size := 4, bytes := 80, zero := [.s true 1 [], .s true 2 [], .v (.bool false), .s true 1 []], agg := true, flds := [0, 1, 2, 3], fk := [(1, 1), (1, 2), (1, 0), (1, 1)] }),
  (57, { ok := true, size := 4, bytes := 80, zero := [.s true 1 [], .s true 2 [], .v (.bool false), .s true 1 []], agg := true, flds := [0, 1, 2, 3], fk := [(1, 1), (1, 2), (1, 0), (1, 1)] }),
  (61, { ok := true, size := 8, bytes := 64, zero := [.v (.int .i64 0), .v (.int .i64 0), .v (.int .i64 0), .v (.int .i64 0), .v (.int .i64 0), .v (.int .i64 0), .v (.int .i64 0), .v (.int .i64 0)], agg := true, flds := [0, 1, 2, 3, 4, 5, 6, 7], fk := [(1, 0), (1, 0), (1, 0), (1, 0), (1, 0), (1, 0), (1, 0), (1, 0)] }),
  (62, { ok := true, size := 8, bytes := 64, zero := [.v (.int .i64 0), .v (.int .i64 0), .v (.int .i64 0), .v (.int .i64 0), .v (.int .i64 0), .v (.int .i64 0), .v (.int .i64 0), .v (.int .i64 0)], agg := true, flds := [0, 1, 2, 3, 4, 5, 6, 7], fk := [(1, 0), (1, 0), (1, 0), (1, 0), (1, 0), (1, 0), (1, 0), (1, 0)] }),
  (73, { ok := true, size := 5, bytes := 56, zero := [.v (.int .i64 0), .v (.int .i64 0), .v (.int .i64 0), .v (.int .i64 0), .s true 1 []], agg := true, flds := [0, 1, 2, 3, 4], fk := [(1, 0), (1, 0), (1, 0), (1, 0), (1, 1)] }),
  (74, { ok := true, size := 5, bytes := 56, zero := [.v (.int .i64 0), .v (.int .i64 0), .v (.int .i64 0), .v (.int .i64 0), .s true 1 []], agg := true, flds := [0, 1, 2, 3, 4], fk := [(1, 0), (1, 0), (1, 0), (1, 0), (1, 1)] }),
  (76, { ok := true, size := 8, bytes := 96, zero := [.v (.int .i64 0), .v (.int .i64 0), .v (.int .i64 0), .v (.int .i64 0), .s true 1 [], .v (.int .i64 0), .s true 1 [], .v (.int .i64 0)], agg := true, flds := [0, 5, 6, 7], fk := [(5, 0), (1, 0), (1, 1), (1, 0)] }),
  (77, { ok := true, size := 8, bytes := 96, zero := [.v (.int .i64 0), .v (.int .i64 0), .v (.int .i64 0), .v (.int .i64 0), .s true 1 [], .v (.int .i64 0), .s true 1 [], .v (.int .i64 0)], agg := true, flds := [0, 5, 6, 7], fk := [(5, 0), (1, 0), (1, 1), (1, 0)] }),
  (79, { ok := true, size := 3, bytes := 40, zero := [.v (.int .i64 0), .v (.int .i64 0), .s true 1 []], agg := true, flds := [0, 1, 2], fk := [(1, 0), (1, 0), (1, 1)] }),
  (80, { ok := true, size := 3, bytes := 40, zero := [.v (.int .i64 0), .v (.int .i64 0), .s true 1 []], agg := true, flds := [0, 1, 2], fk := [(1, 0), (1, 0), (1, 1)] }),
  (82, { ok := true, size := 8, bytes := 96, zero := [.v (.int .i64 0), .v (.int .i64 0), .v (.int .i64 0), .v (.int .i64 0), .s true 1 [], .v (.int .i64 0), .v (.int .i64 0), .s true 1 []], agg := true, flds := [0, 5], fk := [(5, 0), (3, 0)] }),
  (83, { ok := true, size := 8, bytes := 96, zero := [.v (.int .i64 0), .v (.int .i64 0), .v (.int .i64 0), .v (.int .i64 0), .s true 1 [], .v (.int .i64 0), .v (.int .i64 0), .s true 1 []], agg := true, flds := [0, 5], fk := [(5, 0), (3, 0)] }),
  (92, { ok := true, size := 2, bytes := 32, zero := [.v (.int .i64 0), .s true 1 []], agg := true, flds := [0, 1], fk := [(1, 0), (1, 1)] }),
  (93, { ok := true, size := 2, bytes := 32, zero := [.v (.int .i64 0), .s true 1 []], agg := true, flds := [0, 1], fk := [(1, 0), (1, 1)] }),
  (98, { ok := true, size := 2, bytes := 32, zero := [.v (.int .i64 0), .s true 1 []], agg := true, flds := [0, 1], fk := [(1, 0), (1, 1)] }),
  (99, { ok := true, size := 2, bytes := 32, zero := [.v (.int .i64 0), .s true 1 []], agg := true, flds := [0, 1], fk := [(1, 0), (1, 1)] }),
  (115, { ok := true, size := 1, bytes := 4, zero := [.v (.int .u32 0)], ik := some .u32 }),
  (116, { ok := true, size := 1, bytes := 1, zero := [.v (.int .u8 0)], ik := some .u8 }),
  (117, { ok := true, size := 1, bytes := 1, zero := [.v (.int .u8 0)], ik := some .u8 }),
  (120, { ok := true, size := 1, bytes := 4, zero := [.v (.int .i32 0)], ik := some .i32 }),
  (121, { ok := true, size := 1, bytes := 4, zero := [.v (.int .i32 0)], ik := some .i32 })]
abbrev TT : Nat → Ty := ttOf tl
theorem tab : Tab Try.prog TT := Tab.of (by kernel_rfl)
theorem tt3 : ttOf tl 3 = { ok := true, size := 1, bytes := 8, zero := [.v (.int .i64 0)], ik := some .i64 } := rfl
theorem tt4 : ttOf tl 4 = { ok := true, size := 1, bytes := 1, zero := [.v (.bool false)], bl := true } := rfl
theorem tt5 : ttOf tl 5 = { ok := true, size := 1, bytes := 1, zero := [.v (.int .u8 0)], ik := some .u8 } := rfl
theorem tt9 : ttOf tl 9 = { ok := true, size := 1, bytes := 16, zero := [.v (.string ⟨#[]⟩)], str := true } := rfl
theorem tt21 : ttOf tl 21 = { ok := true, size := 1, bytes := 4, zero := [.v (.int .i32 0)], ik := some .i32 } := rfl
theorem tt22 : ttOf tl 22 = { ok := true, size := 2, bytes := 16, zero := [.v (.int .i64 0), .v (.int .i64 0)], agg := true, flds := [0, 1], fk := [(1, 0), (1, 0)] } := rfl
theorem tt23 : ttOf tl 23 = { ok := true, size := 2, bytes := 16, zero := [.v (.int .i64 0), .v (.int .i64 0)], agg := true, flds := [0, 1], fk := [(1, 0), (1, 0)] } := rfl
theorem tt24 : ttOf tl 24 = { ok := true, size := 2, bytes := 16, zero := [.v (.int .i64 0), .v (.int .i64 0)], agg := true, flds := [0, 1], fk := [(1, 0), (1, 0)] } := rfl
theorem tt25 : ttOf tl 25 = { ok := true, size := 1, bytes := 24, zero := [.s true 4 []], elem := some 57 } := rfl
theorem tt26 : ttOf tl 26 = { ok := true, size := 1, bytes := 24, zero := [.s true 2 []], elem := some 99 } := rfl
theorem tt27 : ttOf tl 27 = { ok := true, size := 13, bytes := 128, zero := [.v (.int .i64 0), .v (.int .i64 0), .v (.int .i64 0), .s true 4 [], .v (.int .i64 0), .v (.int .i64 0), .v (.int .i64 0), .v (.int .i64 0), .v (.int .i64 0), .s true 2 [], .v (.int .i64 0), .v (.bool false), .v (.bool false)], agg := true, flds := [0, 1, 3, 4, 5, 6, 7, 8, 9, 10, 11, 12], fk := [(1, 0), (2, 0), (1, 4), (1, 0), (1, 0), (1, 0), (1, 0), (1, 0), (1, 2), (1, 0), (1, 0), (1, 0)] } := rfl
theorem tt28 : ttOf tl 28 = { ok := true, size := 13, bytes := 128, zero := [.v (.int .i64 0), .v (.int .i64 0), .v (.int .i64 0), .s true 4 [], .v (.int .i64 0), .v (.int .i64 0), .v (.int .i64 0), .v (.int .i64 0), .v (.int .i64 0), .s true 2 [], .v (.int .i64 0), .v (.bool false), .v (.bool false)], agg := true, flds := [0, 1, 3, 4, 5, 6, 7, 8, 9, 10, 11, 12], fk := [(1, 0), (2, 0), (1, 4), (1, 0), (1, 0), (1, 0), (1, 0), (1, 0), (1, 2), (1, 0), (1, 0), (1, 0)] } := rfl
theorem tt29 : ttOf tl 29 = { ok := true, size := 1, bytes := 24, zero := [.s true 5 []], elem := some 74 } := rfl
theorem tt30 : ttOf tl 30 = { ok := true, size := 1, bytes := 24, zero := [.s true 8 []], elem := some 77 } := rfl
theorem tt31 : ttOf tl 31 = { ok := true, size := 1, bytes := 24, zero := [.s true 3 []], elem := some 80 } := rfl
theorem tt32 : ttOf tl 32 = { ok := true, size := 1, bytes := 24, zero := [.s true 8 []], elem := some 83 } := rfl
theorem tt33 : ttOf tl 33 = { ok := true, size := 17, bytes := 224, zero := [.v (.int .i64 0), .v (.int .i64 0), .v (.int .i64 0), .s true 4 [], .v (.int .i64 0), .v (.int .i64 0), .v (.int .i64 0), .v (.int .i64 0), .v (.int .i64 0), .s true 2 [], .v (.int .i64 0), .v (.bool false), .v (.bool false), .s true 5 [], .s true 8 [], .s true 3 [], .s true 8 []], agg := true, flds := [0, 13, 14, 15, 16], fk := [(13, 0), (1, 5), (1, 8), (1, 3), (1, 8)] } := rfl
theorem tt34 : ttOf tl 34 = { ok := true, size := 17, bytes := 224, zero := [.v (.int .i64 0), .v (.int .i64 0), .v (.int .i64 0), .s true 4 [], .v (.int .i64 0), .v (.int .i64 0), .v (.int .i64 0), .v (.int .i64 0), .v (.int .i64 0), .s true 2 [], .v (.int .i64 0), .v (.bool false), .v (.bool false), .s true 5 [], .s true 8 [], .s true 3 [], .s true 8 []], agg := true, flds := [0, 13, 14, 15, 16], fk := [(13, 0), (1, 5), (1, 8), (1, 3), (1, 8)] } := rfl
theorem tt53 : ttOf tl 53 = { ok := true, size := 1, bytes := 24, zero := [.s true 1 []], elem := some 55 } := rfl
theorem tt54 : ttOf tl 54 = { ok := true, size := 1, bytes := 24, zero := [.s true 2 []], elem := some 93 } := rfl
theorem tt55 : ttOf tl 55 = { ok := true, size := 1, bytes := 24, zero := [.s true 1 []], elem := some 3 } := rfl
theorem tt56 : ttOf tl 56 = { ok := true, size := 4, bytes := 80, zero := [.s true 1 [], .s true 2 [], .v (.bool false), .s true 1 []], agg := true, flds := [0, 1, 2, 3], fk := [(1, 1), (1, 2), (1, 0), (1, 1)] } := rfl
theorem tt57 : ttOf tl 57 = { ok := true, size := 4, bytes := 80, zero := [.s true 1 [], .s true 2 [], .v (.bool false), .s true 1 []], agg := true, flds := [0, 1, 2, 3], fk := [(1, 1), (1, 2), (1, 0), (1, 1)] } := rfl
theorem tt61 : ttOf tl 61 = { ok := true, size := 8, bytes := 64, zero := [.v (.int .i64 0), .v (.int .i64 0), .v (.int .i64 0), .v (.int .i64 0), .v (.int .i64 0), .v (.int .i64 0), .v (.int .i64 0), .v (.int .i64 0)], agg := true, flds := [0, 1, 2, 3, 4, 5, 6, 7], fk := [(1, 0), (1, 0), (1, 0), (1, 0), (1, 0), (1, 0), (1, 0), (1, 0)] } := rfl
theorem tt62 : ttOf tl 62 = { ok := true, size := 8, bytes := 64, zero := [.v (.int .i64 0), .v (.int .i64 0), .v (.int .i64 0), .v (.int .i64 0), .v (.int .i64 0), .v (.int .i64 0), .v (.int .i64 0), .v (.int .i64 0)], agg := true, flds := [0, 1, 2, 3, 4, 5, 6, 7], fk := [(1, 0), (1, 0), (1, 0), (1, 0), (1, 0), (1, 0), (1, 0), (1, 0)] } := rfl
theorem tt73 : ttOf tl 73 = { ok := true, size := 5, bytes := 56, zero := [.v (.int .i64 0), .v (.int .i64 0), .v (.int .i64 0), .v (.int .i64 0), .s true 1 []], agg := true, flds := [0, 1, 2, 3, 4], fk := [(1, 0), (1, 0), (1, 0), (1, 0), (1, 1)] } := rfl
theorem tt74 : ttOf tl 74 = { ok := true, size := 5, bytes := 56, zero := [.v (.int .i64 0), .v (.int .i64 0), .v (.int .i64 0), .v (.int .i64 0), .s true 1 []], agg := true, flds := [0, 1, 2, 3, 4], fk := [(1, 0), (1, 0), (1, 0), (1, 0), (1, 1)] } := rfl
theorem tt76 : ttOf tl 76 = { ok := true, size := 8, bytes := 96, zero := [.v (.int .i64 0), .v (.int .i64 0), .v (.int .i64 0), .v (.int .i64 0), .s true 1 [], .v (.int .i64 0), .s true 1 [], .v (.int .i64 0)], agg := true, flds := [0, 5, 6, 7], fk := [(5, 0), (1, 0), (1, 1), (1, 0)] } := rfl
theorem tt77 : ttOf tl 77 = { ok := true, size := 8, bytes := 96, zero := [.v (.int .i64 0), .v (.int .i64 0), .v (.int .i64 0), .v (.int .i64 0), .s true 1 [], .v (.int .i64 0), .s true 1 [], .v (.int .i64 0)], agg := true, flds := [0, 5, 6, 7], fk := [(5, 0), (1, 0), (1, 1), (1, 0)] } := rfl
theorem tt79 : ttOf tl 79 = { ok := true, size := 3, bytes := 40, zero := [.v (.int .i64 0), .v (.int .i64 0), .s true 1 []], agg := true, flds := [0, 1, 2], fk := [(1, 0), (1, 0), (1, 1)] } := rfl
theorem tt80 : ttOf tl 80 = { ok := true, size := 3, bytes := 40, zero := [.v (.int .i64 0), .v (.int .i64 0), .s true 1 []], agg := true, flds := [0, 1, 2], fk := [(1, 0), (1, 0), (1, 1)] } := rfl
theorem tt82 : ttOf tl 82 = { ok := true, size := 8, bytes := 96, zero := [.v (.int .i64 0), .v (.int .i64 0), .v (.int .i64 0), .v (.int .i64 0), .s true 1 [], .v (.int .i64 0), .v (.int .i64 0), .s true 1 []], agg := true, flds := [0, 5], fk := [(5, 0), (3, 0)] } := rfl
theorem tt83 : ttOf tl 83 = { ok := true, size := 8, bytes := 96, zero := [.v (.int .i64 0), .v (.int .i64 0), .v (.int .i64 0), .v (.int .i64 0), .s true 1 [], .v (.int .i64 0), .v (.int .i64 0), .s true 1 []], agg := true, flds := [0, 5], fk := [(5, 0), (3, 0)] } := rfl
theorem tt92 : ttOf tl 92 = { ok := true, size := 2, bytes := 32, zero := [.v (.int .i64 0), .s true 1 []], agg := true, flds := [0, 1], fk := [(1, 0), (1, 1)] } := rfl
theorem tt93 : ttOf tl 93 = { ok := true, size := 2, bytes := 32, zero := [.v (.int .i64 0), .s true 1 []], agg := true, flds := [0, 1], fk := [(1, 0), (1, 1)] } := rfl
theorem tt98 : ttOf tl 98 = { ok := true, size := 2, bytes := 32, zero := [.v (.int .i64 0), .s true 1 []], agg := true, flds := [0, 1], fk := [(1, 0), (1, 1)] } := rfl
theorem tt99 : ttOf tl 99 = { ok := true, size := 2, bytes := 32, zero := [.v (.int .i64 0), .s true 1 []], agg := true, flds := [0, 1], fk := [(1, 0), (1, 1)] } := rfl
theorem tt115 : ttOf tl 115 = { ok := true, size := 1, bytes := 4, zero := [.v (.int .u32 0)], ik := some .u32 } := rfl
theorem tt116 : ttOf tl 116 = { ok := true, size := 1, bytes := 1, zero := [.v (.int .u8 0)], ik := some .u8 } := rfl
theorem tt117 : ttOf tl 117 = { ok := true, size := 1, bytes := 1, zero := [.v (.int .u8 0)], ik := some .u8 } := rfl
theorem tt120 : ttOf tl 120 = { ok := true, size := 1, bytes := 4, zero := [.v (.int .i32 0)], ik := some .i32 } := rfl
theorem tt121 : ttOf tl 121 = { ok := true, size := 1, bytes := 4, zero := [.v (.int .i32 0)], ik := some .i32 } := rfl
end Go.Proofs.Ytm
