/- A part of the proofs of the laws. -/
import Derived.Test.YtahbknnehddjgaaVmFuntoVmKit
import Derived.Test.YtahbknnehddjgaaProg
set_option linter.unusedSimpArgs false
set_option linter.unusedVariables false
set_option maxHeartbeats 8000000
set_option maxRecDepth 100000
open Go Go.Vm Go.Proofs
namespace S1
def tyL:List (Nat×TI):=[
  (3,{desc:= .int .i64,size:=1,bytes:=8,zl:=[.int .i64 0],ety:=some (.int .i64)}),
  (4,{desc:= .bool,size:=1,bytes:=1,zl:=[.bool false],ety:=some .bool}),
  (5,{desc:= .int .u8,size:=1,bytes:=1,zl:=[.int .u8 0],ety:=some (.int .u8)}),
  (12,{desc:= .int .u64,size:=1,bytes:=8,zl:=[.int .u64 0],ety:=some (.int .u64)}),
  (22,{desc:= .slice 40,size:=1,bytes:=24,zl:=[.slice none 0 0],ety:=some (.sl .arr3)}),
  (24, { desc := .struct #[{ name := "N", type := 3, offset := 0, embedded := false, tag := "", pkgPath := "", byteOffset := 0 }, { name := "T", type := 22, offset := 1, embedded := false, tag := "", pkgPath := "", byteOffset := 8 }], size := 2, bytes := 32, zl := [.int .i64 0, .slice none 0 0], ety := some (.pair (.int .i64) (.sl .arr3)) }),
  (27,{desc:= .slice 3,size:=1,bytes:=24,zl:=[.slice none 0 0],ety:=some (.sl (.int .i64))}),
  (29, { desc := .struct #[{ name := "A", type := 3, offset := 0, embedded := false, tag := "", pkgPath := "", byteOffset := 0 }, { name := "B", type := 3, offset := 1, embedded := false, tag := "", pkgPath := "", byteOffset := 8 }, { name := "At", type := 27, offset := 2, embedded := false, tag := "", pkgPath := "", byteOffset := 16 }, { name := "T", type := 22, offset := 3, embedded := false, tag := "", pkgPath := "", byteOffset := 40 }, { name := "Fan", type := 27, offset := 4, embedded := false, tag := "", pkgPath := "", byteOffset := 64 }], size := 5, bytes := 88, zl := [.int .i64 0, .int .i64 0, .slice none 0 0, .slice none 0 0, .slice none 0 0], ety := some (.pair (.int .i64) (.pair (.int .i64) (.pair (.sl (.int .i64)) (.pair (.sl .arr3) (.sl (.int .i64)))))) }),
  (30,{desc:= .int .i64,size:=1,bytes:=8,zl:=[.int .i64 0],ety:=some (.int .i64)}),
  (33,{desc:= .pointer 74,size:=1,bytes:=8,zl:=[.pointer none],ety:=some (.pt (.pair (.pair (.int .i64) (.sl .arr3)) (.pair (.mp .arr2 (.int .i64)) (.sl (.int .i64)))))}),
  (35, { desc := .struct #[{ name := "Kind", type := 3, offset := 0, embedded := false, tag := "", pkgPath := "", byteOffset := 0 }, { name := "A", type := 3, offset := 1, embedded := false, tag := "", pkgPath := "", byteOffset := 8 }, { name := "B", type := 3, offset := 2, embedded := false, tag := "", pkgPath := "", byteOffset := 16 }], size := 3, bytes := 24, zl := [.int .i64 0, .int .i64 0, .int .i64 0], ety := some (.pair (.int .i64) (.pair (.int .i64) (.int .i64))) }),
  (39,{desc:= .array 3 3,size:=3,bytes:=24,zl:=[.int .i64 0,.int .i64 0,.int .i64 0],ety:=some .arr3}),
  (40,{desc:= .array 3 3,size:=3,bytes:=24,zl:=[.int .i64 0,.int .i64 0,.int .i64 0],ety:=some .arr3}),
  (43,{desc:= .slice 46,size:=1,bytes:=24,zl:=[.slice none 0 0],ety:=some (.sl .arr2)}),
  (44,{desc:= .slice 29,size:=1,bytes:=24,zl:=[.slice none 0 0],ety:=some (.sl (.pair (.int .i64) (.pair (.int .i64) (.pair (.sl (.int .i64)) (.pair (.sl .arr3) (.sl (.int .i64)))))))}),
  (45,{desc:= .array 2 3,size:=2,bytes:=16,zl:=[.int .i64 0,.int .i64 0],ety:=some .arr2}),
  (46,{desc:= .array 2 3,size:=2,bytes:=16,zl:=[.int .i64 0,.int .i64 0],ety:=some .arr2}),
  (63, { desc := .struct #[{ name := "V", type := 3, offset := 0, embedded := false, tag := "", pkgPath := "", byteOffset := 0 }, { name := "E", type := 3, offset := 1, embedded := false, tag := "", pkgPath := "", byteOffset := 8 }, { name := "F", type := 3, offset := 2, embedded := false, tag := "", pkgPath := "", byteOffset := 16 }, { name := "Borders", type := 3, offset := 3, embedded := false, tag := "", pkgPath := "", byteOffset := 24 }, { name := "Euler", type := 3, offset := 4, embedded := false, tag := "", pkgPath := "", byteOffset := 32 }, { name := "Genus", type := 3, offset := 5, embedded := false, tag := "", pkgPath := "", byteOffset := 40 }], size := 6, bytes := 48, zl := [.int .i64 0, .int .i64 0, .int .i64 0, .int .i64 0, .int .i64 0, .int .i64 0], ety := some (.pair (.int .i64) (.pair (.int .i64) (.pair (.int .i64) (.pair (.int .i64) (.pair (.int .i64) (.int .i64)))))) }),
  (72,{desc:= .map 46 3,size:=1,bytes:=8,zl:=[.map none],ety:=some (.mp .arr2 (.int .i64))}),
  (74, { desc := .struct #[{ name := "s", type := 24, offset := 0, embedded := false, tag := "", pkgPath := "gypsum/corner", byteOffset := 0 }, { name := "faces", type := 72, offset := 2, embedded := false, tag := "", pkgPath := "gypsum/corner", byteOffset := 32 }, { name := "first", type := 27, offset := 3, embedded := false, tag := "", pkgPath := "gypsum/corner", byteOffset := 40 }], size := 4, bytes := 64, zl := [.int .i64 0, .slice none 0 0, .map none, .slice none 0 0], ety := some (.pair (.pair (.int .i64) (.sl .arr3)) (.pair (.mp .arr2 (.int .i64)) (.sl (.int .i64)))) }),
  (89,{desc:= .slice 4,size:=1,bytes:=24,zl:=[.slice none 0 0],ety:=some (.sl .bool)}),
  (90,{desc:= .slice 63,size:=1,bytes:=24,zl:=[.slice none 0 0],ety:=some (.sl (.pair (.int .i64) (.pair (.int .i64) (.pair (.int .i64) (.pair (.int .i64) (.pair (.int .i64) (.int .i64)))))))}),
  (95,{desc:= .slice 35,size:=1,bytes:=24,zl:=[.slice none 0 0],ety:=some (.sl (.pair (.int .i64) (.pair (.int .i64) (.int .i64))))}),
  (96,{desc:= .func #[24] #[95] false,size:=1,bytes:=8,zl:=[.nilFunc],ety:=some .fnc}),
  (97,{desc:= .map 3 40,size:=1,bytes:=8,zl:=[.map none],ety:=some (.mp (.int .i64) .arr3)}),
  (106,{desc:= .int .u64,size:=1,bytes:=8,zl:=[.int .u64 0],ety:=some (.int .u64)}),
  (110,{desc:= .slice 27,size:=1,bytes:=24,zl:=[.slice none 0 0],ety:=some (.sl (.sl (.int .i64)))}),
  (114,{desc:= .slice 96,size:=1,bytes:=24,zl:=[.slice none 0 0],ety:=some (.sl .fnc)}),
  (119,{desc:= .int .i64,size:=1,bytes:=8,zl:=[.int .i64 0],ety:=some (.int .i64)}),
  (129,{desc:= .int .u64,size:=1,bytes:=8,zl:=[.int .u64 0],ety:=some (.int .u64)}),
  (130,{desc:= .map 3 4,size:=1,bytes:=8,zl:=[.map none],ety:=some (.mp (.int .i64) .bool)}),
  (134,{desc:= .slice 39,size:=1,bytes:=24,zl:=[.slice none 0 0],ety:=some (.sl .arr3)}),
  (135,{desc:= .func #[40] #[134] false,size:=1,bytes:=8,zl:=[.nilFunc],ety:=some .fnc}),
  (145,{desc:= .map 3 3,size:=1,bytes:=8,zl:=[.map none],ety:=some (.mp (.int .i64) (.int .i64))}),
  (147,{desc:= .map 39 27,size:=1,bytes:=8,zl:=[.map none],ety:=some (.mp .arr3 (.sl (.int .i64)))}),
  (148,{desc:= .map 45 4,size:=1,bytes:=8,zl:=[.map none],ety:=some (.mp .arr2 .bool)}),
  (149,{desc:= .map 3 27,size:=1,bytes:=8,zl:=[.map none],ety:=some (.mp (.int .i64) (.sl (.int .i64)))})]
theorem allTy:AllTy Try.prog tyL:=by
  repeat' (first | exact trivial | refine AllTy.cons ?_ ?_ ?_ ?_ ?_ ?_)
  all_goals kernel_rfl
theorem allOne:(tyL.all fun x=>isAggD x.2.desc|| x.2.size==1)=true:=by kernel_rfl
theorem allEty:AllEty tyL:=by
  repeat' (first | exact trivial | exact ⟨ety_some rfl rfl rfl,trivial⟩ | refine ⟨ety_some rfl rfl rfl,?_⟩ | refine ⟨ety_none rfl,?_⟩)
theorem key3:KFact Try.prog 3 (.int .i64):=KFact.int (by kernel_rfl)
theorem key39:KFact Try.prog 39 .arr3:=KFact.arr3 (deep_law (m:=3) (by decide) (by kernel_rfl) (by kernel_rfl) (by kernel_rfl)) (u:=3) (by kernel_rfl) (by kernel_rfl) (by kernel_rfl) (by kernel_rfl) (by kernel_rfl) (by decide +kernel)
theorem key45:KFact Try.prog 45 .arr2:=KFact.arr2 (deep_law (m:=3) (by decide) (by kernel_rfl) (by kernel_rfl) (by kernel_rfl)) (u:=3) (by kernel_rfl) (by kernel_rfl) (by kernel_rfl) (by kernel_rfl) (by kernel_rfl) (by decide +kernel)
theorem key46:KFact Try.prog 46 .arr2:=KFact.arr2 (deep_law (m:=3) (by decide) (by kernel_rfl) (by kernel_rfl) (by kernel_rfl)) (u:=3) (by kernel_rfl) (by kernel_rfl) (by kernel_rfl) (by kernel_rfl) (by kernel_rfl) (by decide +kernel)
theorem mapOk72:MapOk Try.prog 46 3 .arr2 (.int .i64):=⟨key46,fun i h=>by
  have:(Try.prog.info? 3).map (·.zero)=some (some (.int .i64 0)):=by kernel_rfl
  rw [h] at this;exact Option.some.inj this⟩
theorem mapOk97:MapOk Try.prog 3 40 (.int .i64) .arr3:=⟨key3,fun i h=>by
  have:(Try.prog.info? 40).map (·.zero)=some (some (.agg #[.int .i64 0,.int .i64 0,.int .i64 0])):=by kernel_rfl
  rw [h] at this;exact Option.some.inj this⟩
theorem mapOk130:MapOk Try.prog 3 4 (.int .i64) .bool:=⟨key3,fun i h=>by
  have:(Try.prog.info? 4).map (·.zero)=some (some (.bool false)):=by kernel_rfl
  rw [h] at this;exact Option.some.inj this⟩
theorem mapOk145:MapOk Try.prog 3 3 (.int .i64) (.int .i64):=⟨key3,fun i h=>by
  have:(Try.prog.info? 3).map (·.zero)=some (some (.int .i64 0)):=by kernel_rfl
  rw [h] at this;exact Option.some.inj this⟩
theorem mapOk147:MapOk Try.prog 39 27 .arr3 (.sl (.int .i64)):=⟨key39,fun i h=>by
  have:(Try.prog.info? 27).map (·.zero)=some (some (.slice none 0 0)):=by kernel_rfl
  rw [h] at this;exact Option.some.inj this⟩
theorem mapOk148:MapOk Try.prog 45 4 .arr2 .bool:=⟨key45,fun i h=>by
  have:(Try.prog.info? 4).map (·.zero)=some (some (.bool false)):=by kernel_rfl
  rw [h] at this;exact Option.some.inj this⟩
theorem mapOk149:MapOk Try.prog 3 27 (.int .i64) (.sl (.int .i64)):=⟨key3,fun i h=>by
  have:(Try.prog.info? 27).map (·.zero)=some (some (.slice none 0 0)):=by kernel_rfl
  rw [h] at this;exact Option.some.inj this⟩
theorem allMap (fn:List (Nat×(List AV→Option Res))) (fr:List (Nat×FrE)):AllMap Try.prog ⟨tyL,fn,fr⟩ tyL:=by
  repeat' (first | exact trivial | refine ⟨map_not rfl,?_⟩ | refine ⟨map_is rfl rfl rfl rfl mapOk72 rfl,?_⟩ | refine ⟨map_is rfl rfl rfl rfl mapOk97 rfl,?_⟩ | refine ⟨map_is rfl rfl rfl rfl mapOk130 rfl,?_⟩ | refine ⟨map_is rfl rfl rfl rfl mapOk145 rfl,?_⟩ | refine ⟨map_is rfl rfl rfl rfl mapOk147 rfl,?_⟩ | refine ⟨map_is rfl rfl rfl rfl mapOk148 rfl,?_⟩ | refine ⟨map_is rfl rfl rfl rfl mapOk149 rfl,?_⟩)
theorem mixed:Try.prog.follows .mixedOrders=true:=by kernel_rfl
theorem rulesF {fn:List (Nat×(List AV→Option Res))} {fr:List (Nat×FrE)} (hf:AllFn Try.prog fn) (hr:AllFr Try.prog fr):Rules Try.prog ⟨tyL,fn,fr⟩:=rules_of allTy allOne allEty allMap mixed hf hr
theorem rules {fn:List (Nat×(List AV→Option Res))} (hf:AllFn Try.prog fn):Rules Try.prog ⟨tyL,fn,[]⟩:=rulesF hf trivial
end S1
