/- A part of the proofs of the laws. -/
import Derived.Test.YtbfghjbhfgbdnaaGreatVmCode2toVmKit
import Derived.Test.YtbfghjbhfgbdnaaGreatProg
set_option linter.unusedSimpArgs false
set_option linter.unusedVariables false
set_option maxHeartbeats 8000000
set_option maxRecDepth 100000
open Go.Proofs.Tryz
open Go Go.Vm Go.Proofs
namespace S1
def tyL:List (Nat×TI):=[
 (3,{desc:= .int .i64,size:=1,bytes:=8,zl:=[.int .i64 0],ety:=some (.int .i64)}),
 (4,{desc:= .bool,size:=1,bytes:=1,zl:=[.bool false],ety:=some .bool}),
 (5,{desc:= .int .u8,size:=1,bytes:=1,zl:=[.int .u8 0],ety:=some (.int .u8)}),
 (12,{desc:= .int .u64,size:=1,bytes:=8,zl:=[.int .u64 0],ety:=some (.int .u64)}),
 (22,{desc:= .slice 68,size:=1,bytes:=24,zl:=[.slice none 0 0],ety:=some (.sl .arr3)}),
 (24, { desc := .struct #[{ name := "N", type := 3, offset := 0, embedded := false, tag := "", pkgPath := "", byteOffset := 0 }, { name := "T", type := 22, offset := 1, embedded := false, tag := "", pkgPath := "", byteOffset := 8 }], size := 2, bytes := 32, zl := [.int .i64 0, .slice none 0 0], ety := some (.pair (.int .i64) (.sl .arr3)) }),
 (25,{desc:= .slice 57,size:=1,bytes:=24,zl:=[.slice none 0 0],ety:=some (.sl .arr2)}),
 (30,{desc:= .pointer 95,size:=1,bytes:=8,zl:=[.pointer none],ety:=some (.pt (.pair (.pair (.int .i64) (.sl .arr3)) (.pair (.mp .arr2 (.int .i64)) (.sl (.int .i64)))))}),
 (32,{desc:= .slice 40,size:=1,bytes:=24,zl:=[.slice none 0 0],ety:=some (.sl (.pair (.int .i64) (.pair (.int .i64) (.pair (.sl (.int .i64)) (.pair (.sl .arr3) (.sl (.int .i64)))))))}),
 (33,{desc:= .int .i64,size:=1,bytes:=8,zl:=[.int .i64 0],ety:=some (.int .i64)}),
 (38,{desc:= .slice 3,size:=1,bytes:=24,zl:=[.slice none 0 0],ety:=some (.sl (.int .i64))}),
 (40, { desc := .struct #[{ name := "A", type := 3, offset := 0, embedded := false, tag := "", pkgPath := "", byteOffset := 0 }, { name := "B", type := 3, offset := 1, embedded := false, tag := "", pkgPath := "", byteOffset := 8 }, { name := "At", type := 38, offset := 2, embedded := false, tag := "", pkgPath := "", byteOffset := 16 }, { name := "T", type := 22, offset := 3, embedded := false, tag := "", pkgPath := "", byteOffset := 40 }, { name := "Fan", type := 38, offset := 4, embedded := false, tag := "", pkgPath := "", byteOffset := 64 }], size := 5, bytes := 88, zl := [.int .i64 0, .int .i64 0, .slice none 0 0, .slice none 0 0, .slice none 0 0], ety := some (.pair (.int .i64) (.pair (.int .i64) (.pair (.sl (.int .i64)) (.pair (.sl .arr3) (.sl (.int .i64)))))) }),
 (45, { desc := .struct #[{ name := "Kind", type := 3, offset := 0, embedded := false, tag := "", pkgPath := "", byteOffset := 0 }, { name := "A", type := 3, offset := 1, embedded := false, tag := "", pkgPath := "", byteOffset := 8 }, { name := "B", type := 3, offset := 2, embedded := false, tag := "", pkgPath := "", byteOffset := 16 }], size := 3, bytes := 24, zl := [.int .i64 0, .int .i64 0, .int .i64 0], ety := some (.pair (.int .i64) (.pair (.int .i64) (.int .i64))) }),
 (53,{desc:= .slice 38,size:=1,bytes:=24,zl:=[.slice none 0 0],ety:=some (.sl (.sl (.int .i64)))}),
 (56,{desc:= .array 2 3,size:=2,bytes:=16,zl:=[.int .i64 0,.int .i64 0],ety:=some .arr2}),
 (57,{desc:= .array 2 3,size:=2,bytes:=16,zl:=[.int .i64 0,.int .i64 0],ety:=some .arr2}),
 (67,{desc:= .array 3 3,size:=3,bytes:=24,zl:=[.int .i64 0,.int .i64 0,.int .i64 0],ety:=some .arr3}),
 (68,{desc:= .array 3 3,size:=3,bytes:=24,zl:=[.int .i64 0,.int .i64 0,.int .i64 0],ety:=some .arr3}),
 (72,{desc:= .map 3 3,size:=1,bytes:=8,zl:=[.map none],ety:=some (.mp (.int .i64) (.int .i64))}),
 (75,{desc:= .map 3 4,size:=1,bytes:=8,zl:=[.map none],ety:=some (.mp (.int .i64) .bool)}),
 (80,{desc:= .slice 56,size:=1,bytes:=24,zl:=[.slice none 0 0],ety:=some (.sl .arr2)}),
 (91,{desc:= .slice 128,size:=1,bytes:=24,zl:=[.slice none 0 0],ety:=some (.sl (.pair (.int .i64) (.pair (.int .i64) (.int .i64))))}),
 (93,{desc:= .map 57 3,size:=1,bytes:=8,zl:=[.map none],ety:=some (.mp .arr2 (.int .i64))}),
 (95, { desc := .struct #[{ name := "s", type := 24, offset := 0, embedded := false, tag := "", pkgPath := "gypsum/corner", byteOffset := 0 }, { name := "faces", type := 93, offset := 2, embedded := false, tag := "", pkgPath := "gypsum/corner", byteOffset := 32 }, { name := "first", type := 38, offset := 3, embedded := false, tag := "", pkgPath := "gypsum/corner", byteOffset := 40 }], size := 4, bytes := 64, zl := [.int .i64 0, .slice none 0 0, .map none, .slice none 0 0], ety := some (.pair (.pair (.int .i64) (.sl .arr3)) (.pair (.mp .arr2 (.int .i64)) (.sl (.int .i64)))) }),
 (110,{desc:= .slice 4,size:=1,bytes:=24,zl:=[.slice none 0 0],ety:=some (.sl .bool)}),
 (113,{desc:= .slice 116,size:=1,bytes:=24,zl:=[.slice none 0 0],ety:=some (.sl (.pair (.int .i64) (.pair (.int .i64) (.pair (.int .i64) (.pair (.int .i64) (.pair (.int .i64) (.int .i64)))))))}),
 (116, { desc := .struct #[{ name := "V", type := 3, offset := 0, embedded := false, tag := "", pkgPath := "", byteOffset := 0 }, { name := "E", type := 3, offset := 1, embedded := false, tag := "", pkgPath := "", byteOffset := 8 }, { name := "F", type := 3, offset := 2, embedded := false, tag := "", pkgPath := "", byteOffset := 16 }, { name := "Borders", type := 3, offset := 3, embedded := false, tag := "", pkgPath := "", byteOffset := 24 }, { name := "Euler", type := 3, offset := 4, embedded := false, tag := "", pkgPath := "", byteOffset := 32 }, { name := "Genus", type := 3, offset := 5, embedded := false, tag := "", pkgPath := "", byteOffset := 40 }], size := 6, bytes := 48, zl := [.int .i64 0, .int .i64 0, .int .i64 0, .int .i64 0, .int .i64 0, .int .i64 0], ety := some (.pair (.int .i64) (.pair (.int .i64) (.pair (.int .i64) (.pair (.int .i64) (.pair (.int .i64) (.int .i64)))))) }),
 (125,{desc:= .slice 45,size:=1,bytes:=24,zl:=[.slice none 0 0],ety:=some (.sl (.pair (.int .i64) (.pair (.int .i64) (.int .i64))))}),
 (126,{desc:= .func #[24] #[125] false,size:=1,bytes:=8,zl:=[.nilFunc],ety:=some .fnc}),
 (128, { desc := .struct #[{ name := "Kind", type := 3, offset := 0, embedded := false, tag := "", pkgPath := "", byteOffset := 0 }, { name := "A", type := 3, offset := 1, embedded := false, tag := "", pkgPath := "", byteOffset := 8 }, { name := "B", type := 3, offset := 2, embedded := false, tag := "", pkgPath := "", byteOffset := 16 }], size := 3, bytes := 24, zl := [.int .i64 0, .int .i64 0, .int .i64 0], ety := some (.pair (.int .i64) (.pair (.int .i64) (.int .i64))) }),
 (144,{desc:= .int .u64,size:=1,bytes:=8,zl:=[.int .u64 0],ety:=some (.int .u64)}),
 (145,{desc:= .map 3 68,size:=1,bytes:=8,zl:=[.map none],ety:=some (.mp (.int .i64) .arr3)}),
 (149,{desc:= .slice 126,size:=1,bytes:=24,zl:=[.slice none 0 0],ety:=some (.sl .fnc)}),
 (157,{desc:= .int .i64,size:=1,bytes:=8,zl:=[.int .i64 0],ety:=some (.int .i64)}),
 (166,{desc:= .int .u64,size:=1,bytes:=8,zl:=[.int .u64 0],ety:=some (.int .u64)}),
 (168,{desc:= .slice 67,size:=1,bytes:=24,zl:=[.slice none 0 0],ety:=some (.sl .arr3)}),
 (169,{desc:= .func #[68] #[168] false,size:=1,bytes:=8,zl:=[.nilFunc],ety:=some .fnc}),
 (185,{desc:= .map 67 38,size:=1,bytes:=8,zl:=[.map none],ety:=some (.mp .arr3 (.sl (.int .i64)))}),
 (186,{desc:= .map 56 4,size:=1,bytes:=8,zl:=[.map none],ety:=some (.mp .arr2 .bool)}),
 (187,{desc:= .map 3 38,size:=1,bytes:=8,zl:=[.map none],ety:=some (.mp (.int .i64) (.sl (.int .i64)))})]
theorem z5N:zI2 prog tyL:=by
 repeat' (first|exact trivial|refine zI2.cons ?_ ?_ ?_ ?_ ?_ ?_)
 all_goals kernel_rfl
theorem z31:(tyL.all fun x=>zA7 x.2.desc|| x.2.size==1)=true:=by kernel_rfl
theorem z3e:zIL tyL:=by
 repeat' (first|exact trivial|exact ⟨zQY rfl rfl rfl,trivial⟩|refine ⟨zQY rfl rfl rfl,?_⟩|refine ⟨zW6 rfl,?_⟩)
theorem z4u:zDR prog 3 (.int .i64):=zDR.int (by kernel_rfl)
theorem z5n:zDR prog 56 .arr2:=zDR.arr2 (deep_law (m:=3) (by decide) (by kernel_rfl) (by kernel_rfl) (by kernel_rfl)) (u:=3) (by kernel_rfl) (by kernel_rfl) (by kernel_rfl) (by kernel_rfl) (by kernel_rfl) (by decide +kernel)
theorem z54:zDR prog 57 .arr2:=zDR.arr2 (deep_law (m:=3) (by decide) (by kernel_rfl) (by kernel_rfl) (by kernel_rfl)) (u:=3) (by kernel_rfl) (by kernel_rfl) (by kernel_rfl) (by kernel_rfl) (by kernel_rfl) (by decide +kernel)
theorem z5D:zDR prog 67 .arr3:=zDR.arr3 (deep_law (m:=3) (by decide) (by kernel_rfl) (by kernel_rfl) (by kernel_rfl)) (u:=3) (by kernel_rfl) (by kernel_rfl) (by kernel_rfl) (by kernel_rfl) (by kernel_rfl) (by decide +kernel)
theorem z27:zFH prog 3 3 (.int .i64) (.int .i64):=⟨z4u,fun i h=>by
 have:(Tryz.prog.info? 3).map (·.zero)=some (some (.int .i64 0)):=by kernel_rfl
 rw [h] at this;exact Option.some.inj this⟩
theorem z1p:zFH prog 3 4 (.int .i64) .bool:=⟨z4u,fun i h=>by
 have:(Tryz.prog.info? 4).map (·.zero)=some (some (.bool false)):=by kernel_rfl
 rw [h] at this;exact Option.some.inj this⟩
theorem z00:zFH prog 57 3 .arr2 (.int .i64):=⟨z54,fun i h=>by
 have:(Tryz.prog.info? 3).map (·.zero)=some (some (.int .i64 0)):=by kernel_rfl
 rw [h] at this;exact Option.some.inj this⟩
theorem zXQ:zFH prog 3 68 (.int .i64) .arr3:=⟨z4u,fun i h=>by
 have:(Tryz.prog.info? 68).map (·.zero)=some (some (.agg #[.int .i64 0,.int .i64 0,.int .i64 0])):=by kernel_rfl
 rw [h] at this;exact Option.some.inj this⟩
theorem zXR:zFH prog 67 38 .arr3 (.sl (.int .i64)):=⟨z5D,fun i h=>by
 have:(Tryz.prog.info? 38).map (·.zero)=some (some (.slice none 0 0)):=by kernel_rfl
 rw [h] at this;exact Option.some.inj this⟩
theorem zXd:zFH prog 56 4 .arr2 .bool:=⟨z5n,fun i h=>by
 have:(Tryz.prog.info? 4).map (·.zero)=some (some (.bool false)):=by kernel_rfl
 rw [h] at this;exact Option.some.inj this⟩
theorem zX0:zFH prog 3 38 (.int .i64) (.sl (.int .i64)):=⟨z4u,fun i h=>by
 have:(Tryz.prog.info? 38).map (·.zero)=some (some (.slice none 0 0)):=by kernel_rfl
 rw [h] at this;exact Option.some.inj this⟩
theorem z3V (fn:List (Nat×(List AV->Option Res))) (fr:List (Nat×FrE)):zIW prog ⟨tyL,fn,fr⟩ tyL:=by
 repeat' (first|exact trivial|refine ⟨z0x rfl,?_⟩|refine ⟨zIx rfl rfl rfl rfl z27 rfl,?_⟩|refine ⟨zIx rfl rfl rfl rfl z1p rfl,?_⟩|refine ⟨zIx rfl rfl rfl rfl z00 rfl,?_⟩|refine ⟨zIx rfl rfl rfl rfl zXQ rfl,?_⟩|refine ⟨zIx rfl rfl rfl rfl zXR rfl,?_⟩|refine ⟨zIx rfl rfl rfl rfl zXd rfl,?_⟩|refine ⟨zIx rfl rfl rfl rfl zX0 rfl,?_⟩)
theorem mixed:Tryz.prog.follows .mixedOrders=true:=by kernel_rfl
theorem zCv {fn:List (Nat×(List AV->Option Res))} {fr:List (Nat×FrE)} (hf:zJ4 prog fn) (hr:zKf prog fr):zAU prog ⟨tyL,fn,fr⟩:=zXf z5N z31 z3e z3V mixed hf hr
theorem zYT {fn:List (Nat×(List AV->Option Res))} (hf:zJ4 prog fn):zAU prog ⟨tyL,fn,[]⟩:=zCv hf trivial
theorem fb {fn:List (Nat×(List AV->Option Res))} {fr:List (Nat×FrE)} (p1:zJ4 prog fn) {f:FuncId} {g:Func} (hf:Tryz.prog.funcs[f]? =some g) {args:List AV} {q:Option Prop} {u:AV} (h:zB4 args->Opt q->zAk ⟨tyL,fn,fr⟩ g args (fun v=>v=u)) (p2:zKf prog fr:=by exact trivial) (hchk:zGo g args.length=true:=by kernel_rfl):zDY prog f args (none,q,u):=z5d (zCv p1 p2) hf hchk h
theorem fbF {fn:List (Nat×(List AV->Option Res))} {fr:List (Nat×FrE)} (p1:zJ4 prog fn) {f:FuncId} {g:Func} (hf:Tryz.prog.funcs[f]? =some g) {args:List AV} {q:Option Prop} {u:AV} {us:List Ob} (h:zB4 args->Opt q->zGM ⟨tyL,fn,fr⟩ g args (fun v obs=>v=u/\obs=us)) (p2:zKf prog fr:=by exact trivial) (hchk:zGo g args.length=true:=by kernel_rfl):zCo prog f args (none,q,u,us):=z2o (zCv p1 p2) hf hchk h
end S1
