/- A part of the proofs of the laws of this seat: contracts of functions, each for every input that its text names. -/
import Derived.Test.YtbbpofkacdmjnaaVmKit
import Derived.Test.YtbbpofkacdmjnaaProg
set_option linter.unusedSimpArgs false
set_option linter.unusedVariables false
set_option maxHeartbeats 2000000
open Go Go.Vm Go.Proofs
namespace S1
def tyL : List (Nat × TI) := [
  (3, { desc := .int .i64, size := 1, bytes := 8, zl := [.int .i64 0], ety := some (.int .i64) }),
  (4, { desc := .bool, size := 1, bytes := 1, zl := [.bool false], ety := some .bool }),
  (5, { desc := .int .u8, size := 1, bytes := 1, zl := [.int .u8 0], ety := some (.int .u8) }),
  (12, { desc := .int .u64, size := 1, bytes := 8, zl := [.int .u64 0], ety := some (.int .u64) }),
  (22, { desc := .slice 72, size := 1, bytes := 24, zl := [.slice none 0 0], ety := some (.sl .arr3) }),
  (24, { desc := .struct #[{ name := "N", type := 3, offset := 0, embedded := false, tag := "", pkgPath := "", byteOffset := 0 }, { name := "T", type := 22, offset := 1, embedded := false, tag := "", pkgPath := "", byteOffset := 8 }], size := 2, bytes := 32, zl := [.int .i64 0, .slice none 0 0], ety := some (.pair (.int .i64) (.sl .arr3)) }),
  (26, { desc := .pointer 86, size := 1, bytes := 8, zl := [.pointer none], ety := some (.pt (.pair (.pair (.int .i64) (.sl .arr3)) (.pair (.mp .arr2 (.int .i64)) (.sl (.int .i64))))) }),
  (28, { desc := .slice 3, size := 1, bytes := 24, zl := [.slice none 0 0], ety := some (.sl (.int .i64)) }),
  (35, { desc := .array 2 3, size := 2, bytes := 16, zl := [.int .i64 0, .int .i64 0], ety := some .arr2 }),
  (36, { desc := .array 2 3, size := 2, bytes := 16, zl := [.int .i64 0, .int .i64 0], ety := some .arr2 }),
  (39, { desc := .map 3 4, size := 1, bytes := 8, zl := [.map none], ety := some (.mp (.int .i64) .bool) }),
  (45, { desc := .struct #[{ name := "Kind", type := 3, offset := 0, embedded := false, tag := "", pkgPath := "", byteOffset := 0 }, { name := "A", type := 3, offset := 1, embedded := false, tag := "", pkgPath := "", byteOffset := 8 }, { name := "B", type := 3, offset := 2, embedded := false, tag := "", pkgPath := "", byteOffset := 16 }], size := 3, bytes := 24, zl := [.int .i64 0, .int .i64 0, .int .i64 0], ety := some (.pair (.int .i64) (.pair (.int .i64) (.int .i64))) }),
  (51, { desc := .int .i64, size := 1, bytes := 8, zl := [.int .i64 0], ety := some (.int .i64) }),
  (62, { desc := .slice 28, size := 1, bytes := 24, zl := [.slice none 0 0], ety := some (.sl (.sl (.int .i64))) }),
  (71, { desc := .array 3 3, size := 3, bytes := 24, zl := [.int .i64 0, .int .i64 0, .int .i64 0], ety := some .arr3 }),
  (72, { desc := .array 3 3, size := 3, bytes := 24, zl := [.int .i64 0, .int .i64 0, .int .i64 0], ety := some .arr3 }),
  (84, { desc := .map 36 3, size := 1, bytes := 8, zl := [.map none], ety := some (.mp .arr2 (.int .i64)) }),
  (86, { desc := .struct #[{ name := "s", type := 24, offset := 0, embedded := false, tag := "", pkgPath := "gypsum/corner", byteOffset := 0 }, { name := "faces", type := 84, offset := 2, embedded := false, tag := "", pkgPath := "gypsum/corner", byteOffset := 32 }, { name := "first", type := 28, offset := 3, embedded := false, tag := "", pkgPath := "gypsum/corner", byteOffset := 40 }], size := 4, bytes := 64, zl := [.int .i64 0, .slice none 0 0, .map none, .slice none 0 0], ety := some (.pair (.pair (.int .i64) (.sl .arr3)) (.pair (.mp .arr2 (.int .i64)) (.sl (.int .i64)))) }),
  (94, { desc := .slice 116, size := 1, bytes := 24, zl := [.slice none 0 0], ety := some (.sl (.pair (.int .i64) (.pair (.int .i64) (.int .i64)))) }),
  (99, { desc := .slice 4, size := 1, bytes := 24, zl := [.slice none 0 0], ety := some (.sl .bool) }),
  (109, { desc := .int .u64, size := 1, bytes := 8, zl := [.int .u64 0], ety := some (.int .u64) }),
  (110, { desc := .slice 36, size := 1, bytes := 24, zl := [.slice none 0 0], ety := some (.sl .arr2) }),
  (114, { desc := .slice 45, size := 1, bytes := 24, zl := [.slice none 0 0], ety := some (.sl (.pair (.int .i64) (.pair (.int .i64) (.int .i64)))) }),
  (115, { desc := .func #[24] #[114] false, size := 1, bytes := 8, zl := [.nilFunc], ety := some .fnc }),
  (116, { desc := .struct #[{ name := "Kind", type := 3, offset := 0, embedded := false, tag := "", pkgPath := "", byteOffset := 0 }, { name := "A", type := 3, offset := 1, embedded := false, tag := "", pkgPath := "", byteOffset := 8 }, { name := "B", type := 3, offset := 2, embedded := false, tag := "", pkgPath := "", byteOffset := 16 }], size := 3, bytes := 24, zl := [.int .i64 0, .int .i64 0, .int .i64 0], ety := some (.pair (.int .i64) (.pair (.int .i64) (.int .i64))) }),
  (120, { desc := .map 3 3, size := 1, bytes := 8, zl := [.map none], ety := some (.mp (.int .i64) (.int .i64)) }),
  (127, { desc := .int .i64, size := 1, bytes := 8, zl := [.int .i64 0], ety := some (.int .i64) }),
  (138, { desc := .slice 115, size := 1, bytes := 24, zl := [.slice none 0 0], ety := some (.sl .fnc) }),
  (153, { desc := .slice 71, size := 1, bytes := 24, zl := [.slice none 0 0], ety := some (.sl .arr3) }),
  (154, { desc := .func #[72] #[153] false, size := 1, bytes := 8, zl := [.nilFunc], ety := some .fnc }),
  (161, { desc := .map 71 28, size := 1, bytes := 8, zl := [.map none], ety := some (.mp .arr3 (.sl (.int .i64))) }),
  (162, { desc := .map 35 4, size := 1, bytes := 8, zl := [.map none], ety := some (.mp .arr2 .bool) }),
  (163, { desc := .map 3 28, size := 1, bytes := 8, zl := [.map none], ety := some (.mp (.int .i64) (.sl (.int .i64))) })]

set_option maxRecDepth 100000
theorem allTy : AllTy Try.prog tyL := by
  repeat' (first | exact trivial | refine AllTy.cons ?_ ?_ ?_ ?_ ?_ ?_)
  all_goals kernel_rfl
theorem allOne : (tyL.all fun x => isAggD x.2.desc || x.2.size == 1) = true := by kernel_rfl
theorem allEty : AllEty tyL := by
  repeat' (first | exact trivial | exact ⟨ety_some rfl rfl rfl, trivial⟩ | refine ⟨ety_some rfl rfl rfl, ?_⟩ | refine ⟨ety_none rfl, ?_⟩)
theorem key3 : KFact Try.prog 3 (.int .i64) := KFact.int (by kernel_rfl)
theorem key35 : KFact Try.prog 35 .arr2 := KFact.arr2 (deep_law (m := 3) (by decide) (by kernel_rfl) (by kernel_rfl) (by kernel_rfl)) (u := 3) (by kernel_rfl) (by kernel_rfl) (by kernel_rfl) (by kernel_rfl) (by kernel_rfl) (by decide +kernel)
theorem key36 : KFact Try.prog 36 .arr2 := KFact.arr2 (deep_law (m := 3) (by decide) (by kernel_rfl) (by kernel_rfl) (by kernel_rfl)) (u := 3) (by kernel_rfl) (by kernel_rfl) (by kernel_rfl) (by kernel_rfl) (by kernel_rfl) (by decide +kernel)
theorem key71 : KFact Try.prog 71 .arr3 := KFact.arr3 (deep_law (m := 3) (by decide) (by kernel_rfl) (by kernel_rfl) (by kernel_rfl)) (u := 3) (by kernel_rfl) (by kernel_rfl) (by kernel_rfl) (by kernel_rfl) (by kernel_rfl) (by decide +kernel)
theorem mapOk39 : MapOk Try.prog 3 4 (.int .i64) .bool := ⟨key3, fun i h => by
  have : (Try.prog.info? 4).map (·.zero) = some (some (.bool false)) := by kernel_rfl
  rw [h] at this; exact Option.some.inj this⟩
theorem mapOk84 : MapOk Try.prog 36 3 .arr2 (.int .i64) := ⟨key36, fun i h => by
  have : (Try.prog.info? 3).map (·.zero) = some (some (.int .i64 0)) := by kernel_rfl
  rw [h] at this; exact Option.some.inj this⟩
theorem mapOk120 : MapOk Try.prog 3 3 (.int .i64) (.int .i64) := ⟨key3, fun i h => by
  have : (Try.prog.info? 3).map (·.zero) = some (some (.int .i64 0)) := by kernel_rfl
  rw [h] at this; exact Option.some.inj this⟩
theorem mapOk161 : MapOk Try.prog 71 28 .arr3 (.sl (.int .i64)) := ⟨key71, fun i h => by
  have : (Try.prog.info? 28).map (·.zero) = some (some (.slice none 0 0)) := by kernel_rfl
  rw [h] at this; exact Option.some.inj this⟩
theorem mapOk162 : MapOk Try.prog 35 4 .arr2 .bool := ⟨key35, fun i h => by
  have : (Try.prog.info? 4).map (·.zero) = some (some (.bool false)) := by kernel_rfl
  rw [h] at this; exact Option.some.inj this⟩
theorem mapOk163 : MapOk Try.prog 3 28 (.int .i64) (.sl (.int .i64)) := ⟨key3, fun i h => by
  have : (Try.prog.info? 28).map (·.zero) = some (some (.slice none 0 0)) := by kernel_rfl
  rw [h] at this; exact Option.some.inj this⟩
theorem allMap (fn : List (Nat × (List AV → Option Res))) (fr : List (Nat × FrE)) : AllMap Try.prog ⟨tyL, fn, fr⟩ tyL := by
  repeat' (first | exact trivial | refine ⟨map_not rfl, ?_⟩ | refine ⟨map_is rfl rfl rfl rfl mapOk39 rfl, ?_⟩ | refine ⟨map_is rfl rfl rfl rfl mapOk84 rfl, ?_⟩ | refine ⟨map_is rfl rfl rfl rfl mapOk120 rfl, ?_⟩ | refine ⟨map_is rfl rfl rfl rfl mapOk161 rfl, ?_⟩ | refine ⟨map_is rfl rfl rfl rfl mapOk162 rfl, ?_⟩ | refine ⟨map_is rfl rfl rfl rfl mapOk163 rfl, ?_⟩)
theorem mixed : Try.prog.follows .mixedOrders = true := by kernel_rfl
theorem rulesF {fn : List (Nat × (List AV → Option Res))} {fr : List (Nat × FrE)} (hf : AllFn Try.prog fn) (hr : AllFr Try.prog fr) : Rules Try.prog ⟨tyL, fn, fr⟩ := rules_of allTy allOne allEty allMap mixed hf hr
theorem rules {fn : List (Nat × (List AV → Option Res))} (hf : AllFn Try.prog fn) : Rules Try.prog ⟨tyL, fn, []⟩ := rulesF hf trivial
end S1
