/- A part of the proofs of the laws of this seat: contracts of functions, each for every input that its text names. -/
import Derived.Test.YtkkhoppffmnkiaaVmKit
import Derived.Test.YtkkhoppffmnkiaaProg
set_option linter.unusedSimpArgs false
set_option linter.unusedVariables false
open Go Go.Vm Go.Proofs
namespace S1
def tyL : List (Nat × TI) := [
  (3, { desc := .int .i64, size := 1, bytes := 8, zl := [.int .i64 0], ety := some (.int .i64) }),
  (4, { desc := .bool, size := 1, bytes := 1, zl := [.bool false], ety := some .bool }),
  (5, { desc := .int .u8, size := 1, bytes := 1, zl := [.int .u8 0], ety := some (.int .u8) }),
  (22, { desc := .slice 40, size := 1, bytes := 24, zl := [.slice none 0 0], ety := some (.sl .arr3) }),
  (23, { desc := .slice 3, size := 1, bytes := 24, zl := [.slice none 0 0], ety := some (.sl (.int .i64)) }),
  (26, { desc := .int .i64, size := 1, bytes := 8, zl := [.int .i64 0], ety := some (.int .i64) }),
  (34, { desc := .slice 44, size := 1, bytes := 24, zl := [.slice none 0 0], ety := some (.sl .arr3) }),
  (36, { desc := .struct #[{ name := "N", type := 3, offset := 0, embedded := false, tag := "", pkgPath := "", byteOffset := 0 }, { name := "T", type := 34, offset := 1, embedded := false, tag := "", pkgPath := "", byteOffset := 8 }], size := 2, bytes := 32, zl := [.int .i64 0, .slice none 0 0], ety := some (.pair (.int .i64) (.sl .arr3)) }),
  (39, { desc := .array 3 3, size := 3, bytes := 24, zl := [.int .i64 0, .int .i64 0, .int .i64 0], ety := some .arr3 }),
  (40, { desc := .array 3 3, size := 3, bytes := 24, zl := [.int .i64 0, .int .i64 0, .int .i64 0], ety := some .arr3 }),
  (43, { desc := .array 3 5, size := 3, bytes := 3, zl := [.int .u8 0, .int .u8 0, .int .u8 0], ety := some (.pair (.int .u8) (.pair (.int .u8) (.int .u8))) }),
  (44, { desc := .array 3 3, size := 3, bytes := 24, zl := [.int .i64 0, .int .i64 0, .int .i64 0], ety := some .arr3 }),
  (49, { desc := .map 54 4, size := 1, bytes := 8, zl := [.map none], ety := some (.mp .arr2 .bool) }),
  (50, { desc := .map 39 4, size := 1, bytes := 8, zl := [.map none], ety := some (.mp .arr3 .bool) }),
  (54, { desc := .array 2 3, size := 2, bytes := 16, zl := [.int .i64 0, .int .i64 0], ety := some .arr2 }),
  (56, { desc := .int .u64, size := 1, bytes := 8, zl := [.int .u64 0], ety := some (.int .u64) }),
  (57, { desc := .slice 60, size := 1, bytes := 24, zl := [.slice none 0 0], ety := some (.sl (.pair (.int .i64) (.pair (.int .i64) (.int .i64)))) }),
  (60, { desc := .struct #[{ name := "Kind", type := 3, offset := 0, embedded := false, tag := "", pkgPath := "", byteOffset := 0 }, { name := "A", type := 3, offset := 1, embedded := false, tag := "", pkgPath := "", byteOffset := 8 }, { name := "B", type := 3, offset := 2, embedded := false, tag := "", pkgPath := "", byteOffset := 16 }], size := 3, bytes := 24, zl := [.int .i64 0, .int .i64 0, .int .i64 0], ety := some (.pair (.int .i64) (.pair (.int .i64) (.int .i64))) }),
  (64, { desc := .slice 4, size := 1, bytes := 24, zl := [.slice none 0 0], ety := some (.sl .bool) })]

set_option maxRecDepth 100000
theorem allTy : AllTy Try.prog tyL := by
  repeat' (first | exact trivial | refine AllTy.cons ?_ ?_ ?_ ?_ ?_)
  all_goals kernel_rfl
theorem allOne : (tyL.all fun x => isAggD x.2.desc || x.2.size == 1) = true := by kernel_rfl
theorem allEty : AllEty tyL := by
  repeat' (first | exact trivial | exact ⟨ety_some rfl rfl rfl, trivial⟩ | refine ⟨ety_some rfl rfl rfl, ?_⟩ | refine ⟨ety_none rfl, ?_⟩)
theorem key2 : KFact Try.prog 54 .arr2 := KFact.arr2 (deep_law (m := 3) (by decide) (by kernel_rfl) (by kernel_rfl) (by kernel_rfl)) (u := 3) (by kernel_rfl) (by kernel_rfl) (by kernel_rfl) (by kernel_rfl) (by kernel_rfl) (by decide +kernel)
theorem key3 : KFact Try.prog 39 .arr3 := KFact.arr3 (deep_law (m := 3) (by decide) (by kernel_rfl) (by kernel_rfl) (by kernel_rfl)) (u := 3) (by kernel_rfl) (by kernel_rfl) (by kernel_rfl) (by kernel_rfl) (by kernel_rfl) (by decide +kernel)
theorem mapOk2 : MapOk Try.prog 54 4 .arr2 .bool := ⟨key2, fun i h => by
  have : (Try.prog.info? 4).map (·.zero) = some (some (.bool false)) := by kernel_rfl
  rw [h] at this; exact Option.some.inj this⟩
theorem mapOk3 : MapOk Try.prog 39 4 .arr3 .bool := ⟨key3, fun i h => by
  have : (Try.prog.info? 4).map (·.zero) = some (some (.bool false)) := by kernel_rfl
  rw [h] at this; exact Option.some.inj this⟩
theorem allMap (fn : List (Nat × (List AV → Option Res))) (fr : List (Nat × (List AV → Option ResF))) : AllMap Try.prog ⟨tyL, fn, fr⟩ tyL := by
  repeat' (first | exact trivial | refine ⟨map_not rfl, ?_⟩ | refine ⟨map_is rfl rfl rfl rfl mapOk2 rfl, ?_⟩ | refine ⟨map_is rfl rfl rfl rfl mapOk3 rfl, ?_⟩)
theorem mixed : Try.prog.follows .mixedOrders = true := by kernel_rfl
theorem rulesF {fn : List (Nat × (List AV → Option Res))} {fr : List (Nat × (List AV → Option ResF))} (hf : AllFn Try.prog fn) (hr : AllFr Try.prog fr) : Rules Try.prog ⟨tyL, fn, fr⟩ := rules_of allTy allOne allEty allMap mixed hf hr
theorem rules {fn : List (Nat × (List AV → Option Res))} (hf : AllFn Try.prog fn) : Rules Try.prog ⟨tyL, fn, []⟩ := rulesF hf trivial
end S1
