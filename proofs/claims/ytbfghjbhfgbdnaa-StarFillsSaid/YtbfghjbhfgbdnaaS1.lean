/- A part of the proofs of the laws. -/
import Derived.Test.YtbfghjbhfgbdnaaVmCode2toVmKit
import Derived.Test.YtbfghjbhfgbdnaaProg
set_option linter.unusedSimpArgs false
set_option linter.unusedVariables false
set_option maxHeartbeats 8000000
set_option maxRecDepth 100000
open Go.Proofs.Try
open Go Go.Vm Go.Proofs
namespace S1
def tyL:List (Nat×TI):=[
 (3,{desc:= .int .i64,size:=1,bytes:=8,zl:=[.int .i64 0],ety:=some (.int .i64)}),
 (4,{desc:= .bool,size:=1,bytes:=1,zl:=[.bool false],ety:=some .bool}),
 (5,{desc:= .int .u8,size:=1,bytes:=1,zl:=[.int .u8 0],ety:=some (.int .u8)}),
 (12,{desc:= .int .u64,size:=1,bytes:=8,zl:=[.int .u64 0],ety:=some (.int .u64)}),
 (22,{desc:= .slice 58,size:=1,bytes:=24,zl:=[.slice none 0 0],ety:=some (.sl .arr3)}),
 (24, { desc := .struct #[{ name := "N", type := 3, offset := 0, embedded := false, tag := "", pkgPath := "", byteOffset := 0 }, { name := "T", type := 22, offset := 1, embedded := false, tag := "", pkgPath := "", byteOffset := 8 }], size := 2, bytes := 32, zl := [.int .i64 0, .slice none 0 0], ety := some (.pair (.int .i64) (.sl .arr3)) }),
 (26,{desc:= .pointer 66,size:=1,bytes:=8,zl:=[.pointer none],ety:=some (.pt (.pair (.pair (.int .i64) (.sl .arr3)) (.pair (.mp .arr2 (.int .i64)) (.sl (.int .i64)))))}),
 (28,{desc:= .array 2 3,size:=2,bytes:=16,zl:=[.int .i64 0,.int .i64 0],ety:=some .arr2}),
 (29,{desc:= .array 2 3,size:=2,bytes:=16,zl:=[.int .i64 0,.int .i64 0],ety:=some .arr2}),
 (33, { desc := .struct #[{ name := "Kind", type := 3, offset := 0, embedded := false, tag := "", pkgPath := "", byteOffset := 0 }, { name := "A", type := 3, offset := 1, embedded := false, tag := "", pkgPath := "", byteOffset := 8 }, { name := "B", type := 3, offset := 2, embedded := false, tag := "", pkgPath := "", byteOffset := 16 }], size := 3, bytes := 24, zl := [.int .i64 0, .int .i64 0, .int .i64 0], ety := some (.pair (.int .i64) (.pair (.int .i64) (.int .i64))) }),
 (38, { desc := .struct #[{ name := "V", type := 3, offset := 0, embedded := false, tag := "", pkgPath := "", byteOffset := 0 }, { name := "E", type := 3, offset := 1, embedded := false, tag := "", pkgPath := "", byteOffset := 8 }, { name := "F", type := 3, offset := 2, embedded := false, tag := "", pkgPath := "", byteOffset := 16 }, { name := "Borders", type := 3, offset := 3, embedded := false, tag := "", pkgPath := "", byteOffset := 24 }, { name := "Euler", type := 3, offset := 4, embedded := false, tag := "", pkgPath := "", byteOffset := 32 }, { name := "Genus", type := 3, offset := 5, embedded := false, tag := "", pkgPath := "", byteOffset := 40 }], size := 6, bytes := 48, zl := [.int .i64 0, .int .i64 0, .int .i64 0, .int .i64 0, .int .i64 0, .int .i64 0], ety := some (.pair (.int .i64) (.pair (.int .i64) (.pair (.int .i64) (.pair (.int .i64) (.pair (.int .i64) (.int .i64)))))) }),
 (43,{desc:= .slice 3,size:=1,bytes:=24,zl:=[.slice none 0 0],ety:=some (.sl (.int .i64))}),
 (44,{desc:= .int .i64,size:=1,bytes:=8,zl:=[.int .i64 0],ety:=some (.int .i64)}),
 (47,{desc:= .slice 29,size:=1,bytes:=24,zl:=[.slice none 0 0],ety:=some (.sl .arr2)}),
 (49,{desc:= .slice 43,size:=1,bytes:=24,zl:=[.slice none 0 0],ety:=some (.sl (.sl (.int .i64)))}),
 (52,{desc:= .slice 38,size:=1,bytes:=24,zl:=[.slice none 0 0],ety:=some (.sl (.pair (.int .i64) (.pair (.int .i64) (.pair (.int .i64) (.pair (.int .i64) (.pair (.int .i64) (.int .i64)))))))}),
 (57,{desc:= .array 3 3,size:=3,bytes:=24,zl:=[.int .i64 0,.int .i64 0,.int .i64 0],ety:=some .arr3}),
 (58,{desc:= .array 3 3,size:=3,bytes:=24,zl:=[.int .i64 0,.int .i64 0,.int .i64 0],ety:=some .arr3}),
 (64,{desc:= .map 29 3,size:=1,bytes:=8,zl:=[.map none],ety:=some (.mp .arr2 (.int .i64))}),
 (66, { desc := .struct #[{ name := "s", type := 24, offset := 0, embedded := false, tag := "", pkgPath := "gypsum/corner", byteOffset := 0 }, { name := "faces", type := 64, offset := 2, embedded := false, tag := "", pkgPath := "gypsum/corner", byteOffset := 32 }, { name := "first", type := 43, offset := 3, embedded := false, tag := "", pkgPath := "gypsum/corner", byteOffset := 40 }], size := 4, bytes := 64, zl := [.int .i64 0, .slice none 0 0, .map none, .slice none 0 0], ety := some (.pair (.pair (.int .i64) (.sl .arr3)) (.pair (.mp .arr2 (.int .i64)) (.sl (.int .i64)))) }),
 (69,{desc:= .slice 92,size:=1,bytes:=24,zl:=[.slice none 0 0],ety:=some (.sl (.pair (.int .i64) (.pair (.int .i64) (.int .i64))))}),
 (72,{desc:= .map 3 4,size:=1,bytes:=8,zl:=[.map none],ety:=some (.mp (.int .i64) .bool)}),
 (88,{desc:= .slice 33,size:=1,bytes:=24,zl:=[.slice none 0 0],ety:=some (.sl (.pair (.int .i64) (.pair (.int .i64) (.int .i64))))}),
 (89,{desc:= .func #[24] #[88] false,size:=1,bytes:=8,zl:=[.nilFunc],ety:=some .fnc}),
 (92, { desc := .struct #[{ name := "Kind", type := 3, offset := 0, embedded := false, tag := "", pkgPath := "", byteOffset := 0 }, { name := "A", type := 3, offset := 1, embedded := false, tag := "", pkgPath := "", byteOffset := 8 }, { name := "B", type := 3, offset := 2, embedded := false, tag := "", pkgPath := "", byteOffset := 16 }], size := 3, bytes := 24, zl := [.int .i64 0, .int .i64 0, .int .i64 0], ety := some (.pair (.int .i64) (.pair (.int .i64) (.int .i64))) }),
 (97,{desc:= .map 3 3,size:=1,bytes:=8,zl:=[.map none],ety:=some (.mp (.int .i64) (.int .i64))}),
 (100,{desc:= .slice 4,size:=1,bytes:=24,zl:=[.slice none 0 0],ety:=some (.sl .bool)}),
 (107,{desc:= .int .u64,size:=1,bytes:=8,zl:=[.int .u64 0],ety:=some (.int .u64)}),
 (109,{desc:= .slice 89,size:=1,bytes:=24,zl:=[.slice none 0 0],ety:=some (.sl .fnc)}),
 (116,{desc:= .int .i64,size:=1,bytes:=8,zl:=[.int .i64 0],ety:=some (.int .i64)}),
 (126,{desc:= .int .u64,size:=1,bytes:=8,zl:=[.int .u64 0],ety:=some (.int .u64)}),
 (128,{desc:= .slice 57,size:=1,bytes:=24,zl:=[.slice none 0 0],ety:=some (.sl .arr3)}),
 (129,{desc:= .func #[58] #[128] false,size:=1,bytes:=8,zl:=[.nilFunc],ety:=some .fnc}),
 (139,{desc:= .map 57 43,size:=1,bytes:=8,zl:=[.map none],ety:=some (.mp .arr3 (.sl (.int .i64)))}),
 (140,{desc:= .map 28 4,size:=1,bytes:=8,zl:=[.map none],ety:=some (.mp .arr2 .bool)}),
 (141,{desc:= .map 3 43,size:=1,bytes:=8,zl:=[.map none],ety:=some (.mp (.int .i64) (.sl (.int .i64)))})]
theorem z2r:zIS prog tyL:=by
 repeat' (first|exact trivial|refine zIS.cons ?_ ?_ ?_ ?_ ?_ ?_)
 all_goals kernel_rfl
theorem z1N:(tyL.all fun x=>zA6 x.2.desc|| x.2.size==1)=true:=by kernel_rfl
theorem z1Z:zIE tyL:=by
 repeat' (first|exact trivial|exact ⟨zP3 rfl rfl rfl,trivial⟩|refine ⟨zP3 rfl rfl rfl,?_⟩|refine ⟨zWx rfl,?_⟩)
theorem z2t:zDU prog 3 (.int .i64):=zDU.int (by kernel_rfl)
theorem z2p:zDU prog 28 .arr2:=zDU.arr2 (deep_law (m:=3) (by decide) (by kernel_rfl) (by kernel_rfl) (by kernel_rfl)) (u:=3) (by kernel_rfl) (by kernel_rfl) (by kernel_rfl) (by kernel_rfl) (by kernel_rfl) (by decide +kernel)
theorem z2h:zDU prog 29 .arr2:=zDU.arr2 (deep_law (m:=3) (by decide) (by kernel_rfl) (by kernel_rfl) (by kernel_rfl)) (u:=3) (by kernel_rfl) (by kernel_rfl) (by kernel_rfl) (by kernel_rfl) (by kernel_rfl) (by decide +kernel)
theorem z2E:zDU prog 57 .arr3:=zDU.arr3 (deep_law (m:=3) (by decide) (by kernel_rfl) (by kernel_rfl) (by kernel_rfl)) (u:=3) (by kernel_rfl) (by kernel_rfl) (by kernel_rfl) (by kernel_rfl) (by kernel_rfl) (by decide +kernel)
theorem zYG:zFK prog 29 3 .arr2 (.int .i64):=⟨z2h,fun i h=>by
 have:(Try.prog.info? 3).map (·.zero)=some (some (.int .i64 0)):=by kernel_rfl
 rw [h] at this;exact Option.some.inj this⟩
theorem zY9:zFK prog 3 4 (.int .i64) .bool:=⟨z2t,fun i h=>by
 have:(Try.prog.info? 4).map (·.zero)=some (some (.bool false)):=by kernel_rfl
 rw [h] at this;exact Option.some.inj this⟩
theorem zZo:zFK prog 3 3 (.int .i64) (.int .i64):=⟨z2t,fun i h=>by
 have:(Try.prog.info? 3).map (·.zero)=some (some (.int .i64 0)):=by kernel_rfl
 rw [h] at this;exact Option.some.inj this⟩
theorem zV7:zFK prog 57 43 .arr3 (.sl (.int .i64)):=⟨z2E,fun i h=>by
 have:(Try.prog.info? 43).map (·.zero)=some (some (.slice none 0 0)):=by kernel_rfl
 rw [h] at this;exact Option.some.inj this⟩
theorem zW7:zFK prog 28 4 .arr2 .bool:=⟨z2p,fun i h=>by
 have:(Try.prog.info? 4).map (·.zero)=some (some (.bool false)):=by kernel_rfl
 rw [h] at this;exact Option.some.inj this⟩
theorem zVj:zFK prog 3 43 (.int .i64) (.sl (.int .i64)):=⟨z2t,fun i h=>by
 have:(Try.prog.info? 43).map (·.zero)=some (some (.slice none 0 0)):=by kernel_rfl
 rw [h] at this;exact Option.some.inj this⟩
theorem z07 (fn:List (Nat×(List AV->Option Res))) (fr:List (Nat×FrE)):zIt prog ⟨tyL,fn,fr⟩ tyL:=by
 repeat' (first|exact trivial|refine ⟨zZR rfl,?_⟩|refine ⟨zKA rfl rfl rfl rfl zYG rfl,?_⟩|refine ⟨zKA rfl rfl rfl rfl zY9 rfl,?_⟩|refine ⟨zKA rfl rfl rfl rfl zZo rfl,?_⟩|refine ⟨zKA rfl rfl rfl rfl zV7 rfl,?_⟩|refine ⟨zKA rfl rfl rfl rfl zW7 rfl,?_⟩|refine ⟨zKA rfl rfl rfl rfl zVj rfl,?_⟩)
theorem mixed:Try.prog.follows .mixedOrders=true:=by kernel_rfl
theorem zCw {fn:List (Nat×(List AV->Option Res))} {fr:List (Nat×FrE)} (hf:zJN prog fn) (hr:zLa prog fr):zAS prog ⟨tyL,fn,fr⟩:=zWQ z2r z1N z1Z z07 mixed hf hr
theorem z0s {fn:List (Nat×(List AV->Option Res))} (hf:zJN prog fn):zAS prog ⟨tyL,fn,[]⟩:=zCw hf trivial
theorem fb {fn:List (Nat×(List AV->Option Res))} {fr:List (Nat×FrE)} (p1:zJN prog fn) {f:FuncId} {g:Func} (hf:Try.prog.funcs[f]? =some g) {args:List AV} {q:Option Prop} {u:AV} (h:zBV args->Opt q->zB7 ⟨tyL,fn,fr⟩ g args (fun v=>v=u)) (p2:zLa prog fr:=by exact trivial) (hchk:zGg g args.length=true:=by kernel_rfl):zDn prog f args (none,q,u):=z2d (zCw p1 p2) hf hchk h
theorem fbF {fn:List (Nat×(List AV->Option Res))} {fr:List (Nat×FrE)} (p1:zJN prog fn) {f:FuncId} {g:Func} (hf:Try.prog.funcs[f]? =some g) {args:List AV} {q:Option Prop} {u:AV} {us:List Ob} (h:zBV args->Opt q->zGL ⟨tyL,fn,fr⟩ g args (fun v obs=>v=u/\obs=us)) (p2:zLa prog fr:=by exact trivial) (hchk:zGg g args.length=true:=by kernel_rfl):zCc prog f args (none,q,u,us):=z0c (zCw p1 p2) hf hchk h
end S1
