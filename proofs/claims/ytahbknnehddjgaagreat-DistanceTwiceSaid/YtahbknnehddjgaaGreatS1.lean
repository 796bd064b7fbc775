/- A part of the proofs of the laws. -/
import Derived.Test.YtahbknnehddjgaaGreatVmFuntoVmKit
import Derived.Test.YtahbknnehddjgaaGreatProg
set_option linter.unusedSimpArgs false
set_option linter.unusedVariables false
set_option maxHeartbeats 8000000
set_option maxRecDepth 100000
open Go Go.Vm Go.Proofs
namespace S1
def tyL:List (Nat×TI):=[
  (3,{desc:= .int .i64,size:=1,bytes:=8,zl:=[.int .i64 0],ety:=some (.int .i64)}),
  (4,{desc:= .bool,size:=1,bytes:=1,zl:=[.bool false],ety:=some .bool}),
  (5,{desc:= .int .u8,size:=1,bytes:=1,zl:=[.int .u8 0],ety:=some (.int .u8)}),
  (12,{desc:= .int .u64,size:=1,bytes:=8,zl:=[.int .u64 0],ety:=some (.int .u64)}),
  (22,{desc:= .slice 61,size:=1,bytes:=24,zl:=[.slice none 0 0],ety:=some (.sl .arr3)}),
  (24, { desc := .struct #[{ name := "N", type := 3, offset := 0, embedded := false, tag := "", pkgPath := "", byteOffset := 0 }, { name := "T", type := 22, offset := 1, embedded := false, tag := "", pkgPath := "", byteOffset := 8 }], size := 2, bytes := 32, zl := [.int .i64 0, .slice none 0 0], ety := some (.pair (.int .i64) (.sl .arr3)) }),
  (27,{desc:= .slice 3,size:=1,bytes:=24,zl:=[.slice none 0 0],ety:=some (.sl (.int .i64))}),
  (29, { desc := .struct #[{ name := "A", type := 3, offset := 0, embedded := false, tag := "", pkgPath := "", byteOffset := 0 }, { name := "B", type := 3, offset := 1, embedded := false, tag := "", pkgPath := "", byteOffset := 8 }, { name := "At", type := 27, offset := 2, embedded := false, tag := "", pkgPath := "", byteOffset := 16 }, { name := "T", type := 22, offset := 3, embedded := false, tag := "", pkgPath := "", byteOffset := 40 }, { name := "Fan", type := 27, offset := 4, embedded := false, tag := "", pkgPath := "", byteOffset := 64 }], size := 5, bytes := 88, zl := [.int .i64 0, .int .i64 0, .slice none 0 0, .slice none 0 0, .slice none 0 0], ety := some (.pair (.int .i64) (.pair (.int .i64) (.pair (.sl (.int .i64)) (.pair (.sl .arr3) (.sl (.int .i64)))))) }),
  (30,{desc:= .int .i64,size:=1,bytes:=8,zl:=[.int .i64 0],ety:=some (.int .i64)}),
  (33, { desc := .struct #[{ name := "A", type := 3, offset := 0, embedded := false, tag := "", pkgPath := "", byteOffset := 0 }, { name := "B", type := 3, offset := 1, embedded := false, tag := "", pkgPath := "", byteOffset := 8 }, { name := "At", type := 27, offset := 2, embedded := false, tag := "", pkgPath := "", byteOffset := 16 }, { name := "T", type := 22, offset := 3, embedded := false, tag := "", pkgPath := "", byteOffset := 40 }, { name := "Fan", type := 27, offset := 4, embedded := false, tag := "", pkgPath := "", byteOffset := 64 }], size := 5, bytes := 88, zl := [.int .i64 0, .int .i64 0, .slice none 0 0, .slice none 0 0, .slice none 0 0], ety := some (.pair (.int .i64) (.pair (.int .i64) (.pair (.sl (.int .i64)) (.pair (.sl .arr3) (.sl (.int .i64)))))) }),
  (45,{desc:= .slice 57,size:=1,bytes:=24,zl:=[.slice none 0 0],ety:=some (.sl .arr3)}),
  (56,{desc:= .array 3 3,size:=3,bytes:=24,zl:=[.int .i64 0,.int .i64 0,.int .i64 0],ety:=some .arr3}),
  (57,{desc:= .array 3 3,size:=3,bytes:=24,zl:=[.int .i64 0,.int .i64 0,.int .i64 0],ety:=some .arr3}),
  (61,{desc:= .array 3 3,size:=3,bytes:=24,zl:=[.int .i64 0,.int .i64 0,.int .i64 0],ety:=some .arr3}),
  (62,{desc:= .pointer 99,size:=1,bytes:=8,zl:=[.pointer none],ety:=some (.pt (.pair (.pair (.int .i64) (.sl .arr3)) (.pair (.mp .arr2 (.int .i64)) (.sl (.int .i64)))))}),
  (64, { desc := .struct #[{ name := "Kind", type := 3, offset := 0, embedded := false, tag := "", pkgPath := "", byteOffset := 0 }, { name := "A", type := 3, offset := 1, embedded := false, tag := "", pkgPath := "", byteOffset := 8 }, { name := "B", type := 3, offset := 2, embedded := false, tag := "", pkgPath := "", byteOffset := 16 }], size := 3, bytes := 24, zl := [.int .i64 0, .int .i64 0, .int .i64 0], ety := some (.pair (.int .i64) (.pair (.int .i64) (.int .i64))) }),
  (80,{desc:= .array 2 3,size:=2,bytes:=16,zl:=[.int .i64 0,.int .i64 0],ety:=some .arr2}),
  (81,{desc:= .array 2 3,size:=2,bytes:=16,zl:=[.int .i64 0,.int .i64 0],ety:=some .arr2}),
  (85,{desc:= .map 80 4,size:=1,bytes:=8,zl:=[.map none],ety:=some (.mp .arr2 .bool)}),
  (86,{desc:= .map 56 4,size:=1,bytes:=8,zl:=[.map none],ety:=some (.mp .arr3 .bool)}),
  (90,{desc:= .int .u64,size:=1,bytes:=8,zl:=[.int .u64 0],ety:=some (.int .u64)}),
  (92,{desc:= .slice 80,size:=1,bytes:=24,zl:=[.slice none 0 0],ety:=some (.sl .arr2)}),
  (97,{desc:= .map 81 3,size:=1,bytes:=8,zl:=[.map none],ety:=some (.mp .arr2 (.int .i64))}),
  (99, { desc := .struct #[{ name := "s", type := 24, offset := 0, embedded := false, tag := "", pkgPath := "gypsum/corner", byteOffset := 0 }, { name := "faces", type := 97, offset := 2, embedded := false, tag := "", pkgPath := "gypsum/corner", byteOffset := 32 }, { name := "first", type := 27, offset := 3, embedded := false, tag := "", pkgPath := "gypsum/corner", byteOffset := 40 }], size := 4, bytes := 64, zl := [.int .i64 0, .slice none 0 0, .map none, .slice none 0 0], ety := some (.pair (.pair (.int .i64) (.sl .arr3)) (.pair (.mp .arr2 (.int .i64)) (.sl (.int .i64)))) }),
  (113,{desc:= .map 3 61,size:=1,bytes:=8,zl:=[.map none],ety:=some (.mp (.int .i64) .arr3)}),
  (117,{desc:= .slice 64,size:=1,bytes:=24,zl:=[.slice none 0 0],ety:=some (.sl (.pair (.int .i64) (.pair (.int .i64) (.int .i64))))}),
  (118,{desc:= .func #[24] #[117] false,size:=1,bytes:=8,zl:=[.nilFunc],ety:=some .fnc}),
  (119,{desc:= .slice 122,size:=1,bytes:=24,zl:=[.slice none 0 0],ety:=some (.sl (.pair (.int .i64) (.pair (.int .i64) (.pair (.int .i64) (.pair (.int .i64) (.pair (.int .i64) (.int .i64)))))))}),
  (122, { desc := .struct #[{ name := "V", type := 3, offset := 0, embedded := false, tag := "", pkgPath := "", byteOffset := 0 }, { name := "E", type := 3, offset := 1, embedded := false, tag := "", pkgPath := "", byteOffset := 8 }, { name := "F", type := 3, offset := 2, embedded := false, tag := "", pkgPath := "", byteOffset := 16 }, { name := "Borders", type := 3, offset := 3, embedded := false, tag := "", pkgPath := "", byteOffset := 24 }, { name := "Euler", type := 3, offset := 4, embedded := false, tag := "", pkgPath := "", byteOffset := 32 }, { name := "Genus", type := 3, offset := 5, embedded := false, tag := "", pkgPath := "", byteOffset := 40 }], size := 6, bytes := 48, zl := [.int .i64 0, .int .i64 0, .int .i64 0, .int .i64 0, .int .i64 0, .int .i64 0], ety := some (.pair (.int .i64) (.pair (.int .i64) (.pair (.int .i64) (.pair (.int .i64) (.pair (.int .i64) (.int .i64)))))) }),
  (129,{desc:= .slice 81,size:=1,bytes:=24,zl:=[.slice none 0 0],ety:=some (.sl .arr2)}),
  (135,{desc:= .slice 4,size:=1,bytes:=24,zl:=[.slice none 0 0],ety:=some (.sl .bool)}),
  (138,{desc:= .slice 159,size:=1,bytes:=24,zl:=[.slice none 0 0],ety:=some (.sl (.pair (.int .i64) (.pair (.int .i64) (.int .i64))))}),
  (141,{desc:= .slice 118,size:=1,bytes:=24,zl:=[.slice none 0 0],ety:=some (.sl .fnc)}),
  (147,{desc:= .slice 27,size:=1,bytes:=24,zl:=[.slice none 0 0],ety:=some (.sl (.sl (.int .i64)))}),
  (152,{desc:= .int .u64,size:=1,bytes:=8,zl:=[.int .u64 0],ety:=some (.int .u64)}),
  (159, { desc := .struct #[{ name := "Kind", type := 3, offset := 0, embedded := false, tag := "", pkgPath := "", byteOffset := 0 }, { name := "A", type := 3, offset := 1, embedded := false, tag := "", pkgPath := "", byteOffset := 8 }, { name := "B", type := 3, offset := 2, embedded := false, tag := "", pkgPath := "", byteOffset := 16 }], size := 3, bytes := 24, zl := [.int .i64 0, .int .i64 0, .int .i64 0], ety := some (.pair (.int .i64) (.pair (.int .i64) (.int .i64))) }),
  (162,{desc:= .slice 56,size:=1,bytes:=24,zl:=[.slice none 0 0],ety:=some (.sl .arr3)}),
  (163,{desc:= .func #[61] #[162] false,size:=1,bytes:=8,zl:=[.nilFunc],ety:=some .fnc}),
  (166,{desc:= .map 3 4,size:=1,bytes:=8,zl:=[.map none],ety:=some (.mp (.int .i64) .bool)}),
  (170,{desc:= .int .i64,size:=1,bytes:=8,zl:=[.int .i64 0],ety:=some (.int .i64)}),
  (185,{desc:= .map 56 27,size:=1,bytes:=8,zl:=[.map none],ety:=some (.mp .arr3 (.sl (.int .i64)))}),
  (186,{desc:= .map 3 27,size:=1,bytes:=8,zl:=[.map none],ety:=some (.mp (.int .i64) (.sl (.int .i64)))}),
  (193,{desc:= .map 3 3,size:=1,bytes:=8,zl:=[.map none],ety:=some (.mp (.int .i64) (.int .i64))})]
theorem allTy:AllTy Tryz.prog tyL:=by
  repeat' (first | exact trivial | refine AllTy.cons ?_ ?_ ?_ ?_ ?_ ?_)
  all_goals kernel_rfl
theorem allOne:(tyL.all fun x=>isAggD x.2.desc|| x.2.size==1)=true:=by kernel_rfl
theorem allEty:AllEty tyL:=by
  repeat' (first | exact trivial | exact ⟨ety_some rfl rfl rfl,trivial⟩ | refine ⟨ety_some rfl rfl rfl,?_⟩ | refine ⟨ety_none rfl,?_⟩)
theorem key3:KFact Tryz.prog 3 (.int .i64):=KFact.int (by kernel_rfl)
theorem key56:KFact Tryz.prog 56 .arr3:=KFact.arr3 (deep_law (m:=3) (by decide) (by kernel_rfl) (by kernel_rfl) (by kernel_rfl)) (u:=3) (by kernel_rfl) (by kernel_rfl) (by kernel_rfl) (by kernel_rfl) (by kernel_rfl) (by decide +kernel)
theorem key80:KFact Tryz.prog 80 .arr2:=KFact.arr2 (deep_law (m:=3) (by decide) (by kernel_rfl) (by kernel_rfl) (by kernel_rfl)) (u:=3) (by kernel_rfl) (by kernel_rfl) (by kernel_rfl) (by kernel_rfl) (by kernel_rfl) (by decide +kernel)
theorem key81:KFact Tryz.prog 81 .arr2:=KFact.arr2 (deep_law (m:=3) (by decide) (by kernel_rfl) (by kernel_rfl) (by kernel_rfl)) (u:=3) (by kernel_rfl) (by kernel_rfl) (by kernel_rfl) (by kernel_rfl) (by kernel_rfl) (by decide +kernel)
theorem mapOk85:MapOk Tryz.prog 80 4 .arr2 .bool:=⟨key80,fun i h=>by
  have:(Tryz.prog.info? 4).map (·.zero)=some (some (.bool false)):=by kernel_rfl
  rw [h] at this;exact Option.some.inj this⟩
theorem mapOk86:MapOk Tryz.prog 56 4 .arr3 .bool:=⟨key56,fun i h=>by
  have:(Tryz.prog.info? 4).map (·.zero)=some (some (.bool false)):=by kernel_rfl
  rw [h] at this;exact Option.some.inj this⟩
theorem mapOk97:MapOk Tryz.prog 81 3 .arr2 (.int .i64):=⟨key81,fun i h=>by
  have:(Tryz.prog.info? 3).map (·.zero)=some (some (.int .i64 0)):=by kernel_rfl
  rw [h] at this;exact Option.some.inj this⟩
theorem mapOk113:MapOk Tryz.prog 3 61 (.int .i64) .arr3:=⟨key3,fun i h=>by
  have:(Tryz.prog.info? 61).map (·.zero)=some (some (.agg #[.int .i64 0,.int .i64 0,.int .i64 0])):=by kernel_rfl
  rw [h] at this;exact Option.some.inj this⟩
theorem mapOk166:MapOk Tryz.prog 3 4 (.int .i64) .bool:=⟨key3,fun i h=>by
  have:(Tryz.prog.info? 4).map (·.zero)=some (some (.bool false)):=by kernel_rfl
  rw [h] at this;exact Option.some.inj this⟩
theorem mapOk185:MapOk Tryz.prog 56 27 .arr3 (.sl (.int .i64)):=⟨key56,fun i h=>by
  have:(Tryz.prog.info? 27).map (·.zero)=some (some (.slice none 0 0)):=by kernel_rfl
  rw [h] at this;exact Option.some.inj this⟩
theorem mapOk186:MapOk Tryz.prog 3 27 (.int .i64) (.sl (.int .i64)):=⟨key3,fun i h=>by
  have:(Tryz.prog.info? 27).map (·.zero)=some (some (.slice none 0 0)):=by kernel_rfl
  rw [h] at this;exact Option.some.inj this⟩
theorem mapOk193:MapOk Tryz.prog 3 3 (.int .i64) (.int .i64):=⟨key3,fun i h=>by
  have:(Tryz.prog.info? 3).map (·.zero)=some (some (.int .i64 0)):=by kernel_rfl
  rw [h] at this;exact Option.some.inj this⟩
theorem allMap (fn:List (Nat×(List AV→Option Res))) (fr:List (Nat×FrE)):AllMap Tryz.prog ⟨tyL,fn,fr⟩ tyL:=by
  repeat' (first | exact trivial | refine ⟨map_not rfl,?_⟩ | refine ⟨map_is rfl rfl rfl rfl mapOk85 rfl,?_⟩ | refine ⟨map_is rfl rfl rfl rfl mapOk86 rfl,?_⟩ | refine ⟨map_is rfl rfl rfl rfl mapOk97 rfl,?_⟩ | refine ⟨map_is rfl rfl rfl rfl mapOk113 rfl,?_⟩ | refine ⟨map_is rfl rfl rfl rfl mapOk166 rfl,?_⟩ | refine ⟨map_is rfl rfl rfl rfl mapOk185 rfl,?_⟩ | refine ⟨map_is rfl rfl rfl rfl mapOk186 rfl,?_⟩ | refine ⟨map_is rfl rfl rfl rfl mapOk193 rfl,?_⟩)
theorem mixed:Tryz.prog.follows .mixedOrders=true:=by kernel_rfl
theorem rulesF {fn:List (Nat×(List AV→Option Res))} {fr:List (Nat×FrE)} (hf:AllFn Tryz.prog fn) (hr:AllFr Tryz.prog fr):Rules Tryz.prog ⟨tyL,fn,fr⟩:=rules_of allTy allOne allEty allMap mixed hf hr
theorem rules {fn:List (Nat×(List AV→Option Res))} (hf:AllFn Tryz.prog fn):Rules Tryz.prog ⟨tyL,fn,[]⟩:=rulesF hf trivial
end S1
