/- A part of the proofs of the laws. -/
import Derived.Test.YtlhoihabllompaaGreatVmGrow2toVmKit
import Derived.Test.YtlhoihabllompaaGreatProg
set_option linter.unusedSimpArgs false
set_option linter.unusedVariables false
set_option maxHeartbeats 8000000
set_option maxRecDepth 100000
open Go.Proofs.Tryz
open Go Go.Vm Go.Proofs
namespace S1
def tyL:List (Nat×TI):=[
 (3,{desc:= .int .i64,size:=1,bytes:=8,zl:=[.int .i64 0],ety:=some (.int .i64)}),
 (4,{desc:= .bool,size:=1,bytes:=1,zl:=[.bool false],ety:=some .bool}),
 (5,{desc:= .int .u8,size:=1,bytes:=1,zl:=[.int .u8 0],ety:=some (.int .u8)}),
 (12,{desc:= .int .u64,size:=1,bytes:=8,zl:=[.int .u64 0],ety:=some (.int .u64)}),
 (22,{desc:= .slice 86,size:=1,bytes:=24,zl:=[.slice none 0 0],ety:=some (.sl .arr3)}),
 (24, { desc := .struct #[{ name := "N", type := 3, offset := 0, embedded := false, tag := "", pkgPath := "", byteOffset := 0 }, { name := "T", type := 22, offset := 1, embedded := false, tag := "", pkgPath := "", byteOffset := 8 }], size := 2, bytes := 32, zl := [.int .i64 0, .slice none 0 0], ety := some (.pair (.int .i64) (.sl .arr3)) }),
 (25,{desc:= .slice 33,size:=1,bytes:=24,zl:=[.slice none 0 0],ety:=some (.sl .arr2)}),
 (29,{desc:= .pointer 139,size:=1,bytes:=8,zl:=[.pointer none],ety:=some (.pt (.pair (.pair (.int .i64) (.sl .arr3)) (.pair (.mp .arr2 (.int .i64)) (.sl (.int .i64)))))}),
 (32,{desc:= .array 2 3,size:=2,bytes:=16,zl:=[.int .i64 0,.int .i64 0],ety:=some .arr2}),
 (33,{desc:= .array 2 3,size:=2,bytes:=16,zl:=[.int .i64 0,.int .i64 0],ety:=some .arr2}),
 (39,{desc:= .slice 103,size:=1,bytes:=24,zl:=[.slice none 0 0],ety:=some (.sl (.pair (.int .i64) (.pair (.int .i64) (.pair (.sl (.int .i64)) (.pair (.sl .arr3) (.sl (.int .i64)))))))}),
 (40,{desc:= .int .i64,size:=1,bytes:=8,zl:=[.int .i64 0],ety:=some (.int .i64)}),
 (49,{desc:= .slice 24,size:=1,bytes:=24,zl:=[.slice none 0 0],ety:=some (.sl (.pair (.int .i64) (.sl .arr3)))}),
 (54,{desc:= .slice 3,size:=1,bytes:=24,zl:=[.slice none 0 0],ety:=some (.sl (.int .i64))}),
 (62,{desc:= .map 3 4,size:=1,bytes:=8,zl:=[.map none],ety:=some (.mp (.int .i64) .bool)}),
 (65,{desc:= .slice 113,size:=1,bytes:=24,zl:=[.slice none 0 0],ety:=some (.sl .arr3)}),
 (67, { desc := .struct #[{ name := "S", type := 24, offset := 0, embedded := false, tag := "", pkgPath := "", byteOffset := 0 }, { name := "P", type := 65, offset := 2, embedded := false, tag := "", pkgPath := "", byteOffset := 32 }, { name := "K", type := 54, offset := 3, embedded := false, tag := "", pkgPath := "", byteOffset := 56 }], size := 4, bytes := 80, zl := [.int .i64 0, .slice none 0 0, .slice none 0 0, .slice none 0 0], ety := some (.pair (.pair (.int .i64) (.sl .arr3)) (.pair (.sl .arr3) (.sl (.int .i64)))) }),
 (78,{desc:= .slice 54,size:=1,bytes:=24,zl:=[.slice none 0 0],ety:=some (.sl (.sl (.int .i64)))}),
 (85,{desc:= .array 3 3,size:=3,bytes:=24,zl:=[.int .i64 0,.int .i64 0,.int .i64 0],ety:=some .arr3}),
 (86,{desc:= .array 3 3,size:=3,bytes:=24,zl:=[.int .i64 0,.int .i64 0,.int .i64 0],ety:=some .arr3}),
 (91, { desc := .struct #[{ name := "Kind", type := 3, offset := 0, embedded := false, tag := "", pkgPath := "", byteOffset := 0 }, { name := "A", type := 3, offset := 1, embedded := false, tag := "", pkgPath := "", byteOffset := 8 }, { name := "B", type := 3, offset := 2, embedded := false, tag := "", pkgPath := "", byteOffset := 16 }], size := 3, bytes := 24, zl := [.int .i64 0, .int .i64 0, .int .i64 0], ety := some (.pair (.int .i64) (.pair (.int .i64) (.int .i64))) }),
 (98,{desc:= .map 3 3,size:=1,bytes:=8,zl:=[.map none],ety:=some (.mp (.int .i64) (.int .i64))}),
 (103, { desc := .struct #[{ name := "A", type := 3, offset := 0, embedded := false, tag := "", pkgPath := "", byteOffset := 0 }, { name := "B", type := 3, offset := 1, embedded := false, tag := "", pkgPath := "", byteOffset := 8 }, { name := "At", type := 54, offset := 2, embedded := false, tag := "", pkgPath := "", byteOffset := 16 }, { name := "T", type := 22, offset := 3, embedded := false, tag := "", pkgPath := "", byteOffset := 40 }, { name := "Fan", type := 54, offset := 4, embedded := false, tag := "", pkgPath := "", byteOffset := 64 }], size := 5, bytes := 88, zl := [.int .i64 0, .int .i64 0, .slice none 0 0, .slice none 0 0, .slice none 0 0], ety := some (.pair (.int .i64) (.pair (.int .i64) (.pair (.sl (.int .i64)) (.pair (.sl .arr3) (.sl (.int .i64)))))) }),
 (113,{desc:= .array 3 3,size:=3,bytes:=24,zl:=[.int .i64 0,.int .i64 0,.int .i64 0],ety:=some .arr3}),
 (117,{desc:= .slice 4,size:=1,bytes:=24,zl:=[.slice none 0 0],ety:=some (.sl .bool)}),
 (122,{desc:= .pointer 126,size:=1,bytes:=8,zl:=[.pointer none],ety:=some (.pt (.pair (.pair (.pair (.int .i64) (.sl .arr3)) (.pair (.sl .arr3) (.sl (.int .i64)))) (.sl (.int .i64))))}),
 (126, { desc := .struct #[{ name := "Body", type := 67, offset := 0, embedded := true, tag := "", pkgPath := "", byteOffset := 0 }, { name := "own", type := 54, offset := 4, embedded := false, tag := "", pkgPath := "gypsum/carve", byteOffset := 80 }], size := 5, bytes := 104, zl := [.int .i64 0, .slice none 0 0, .slice none 0 0, .slice none 0 0, .slice none 0 0], ety := some (.pair (.pair (.pair (.int .i64) (.sl .arr3)) (.pair (.sl .arr3) (.sl (.int .i64)))) (.sl (.int .i64))) }),
 (134,{desc:= .slice 165,size:=1,bytes:=24,zl:=[.slice none 0 0],ety:=some (.sl (.pair (.int .i64) (.pair (.int .i64) (.int .i64))))}),
 (137,{desc:= .map 33 3,size:=1,bytes:=8,zl:=[.map none],ety:=some (.mp .arr2 (.int .i64))}),
 (139, { desc := .struct #[{ name := "s", type := 24, offset := 0, embedded := false, tag := "", pkgPath := "gypsum/corner", byteOffset := 0 }, { name := "faces", type := 137, offset := 2, embedded := false, tag := "", pkgPath := "gypsum/corner", byteOffset := 32 }, { name := "first", type := 54, offset := 3, embedded := false, tag := "", pkgPath := "gypsum/corner", byteOffset := 40 }], size := 4, bytes := 64, zl := [.int .i64 0, .slice none 0 0, .map none, .slice none 0 0], ety := some (.pair (.pair (.int .i64) (.sl .arr3)) (.pair (.mp .arr2 (.int .i64)) (.sl (.int .i64)))) }),
 (152,{desc:= .map 33 4,size:=1,bytes:=8,zl:=[.map none],ety:=some (.mp .arr2 .bool)}),
 (160,{desc:= .int .u64,size:=1,bytes:=8,zl:=[.int .u64 0],ety:=some (.int .u64)}),
 (165, { desc := .struct #[{ name := "Kind", type := 3, offset := 0, embedded := false, tag := "", pkgPath := "", byteOffset := 0 }, { name := "A", type := 3, offset := 1, embedded := false, tag := "", pkgPath := "", byteOffset := 8 }, { name := "B", type := 3, offset := 2, embedded := false, tag := "", pkgPath := "", byteOffset := 16 }], size := 3, bytes := 24, zl := [.int .i64 0, .int .i64 0, .int .i64 0], ety := some (.pair (.int .i64) (.pair (.int .i64) (.int .i64))) }),
 (167,{desc:= .slice 91,size:=1,bytes:=24,zl:=[.slice none 0 0],ety:=some (.sl (.pair (.int .i64) (.pair (.int .i64) (.int .i64))))}),
 (168,{desc:= .func #[24] #[167] false,size:=1,bytes:=8,zl:=[.nilFunc],ety:=some .fnc}),
 (171,{desc:= .map 3 86,size:=1,bytes:=8,zl:=[.map none],ety:=some (.mp (.int .i64) .arr3)}),
 (178,{desc:= .int .i64,size:=1,bytes:=8,zl:=[.int .i64 0],ety:=some (.int .i64)}),
 (188,{desc:= .int .u64,size:=1,bytes:=8,zl:=[.int .u64 0],ety:=some (.int .u64)}),
 (190,{desc:= .slice 168,size:=1,bytes:=24,zl:=[.slice none 0 0],ety:=some (.sl .fnc)}),
 (204,{desc:= .slice 85,size:=1,bytes:=24,zl:=[.slice none 0 0],ety:=some (.sl .arr3)}),
 (205,{desc:= .func #[86] #[204] false,size:=1,bytes:=8,zl:=[.nilFunc],ety:=some .fnc}),
 (210,{desc:= .map 85 54,size:=1,bytes:=8,zl:=[.map none],ety:=some (.mp .arr3 (.sl (.int .i64)))}),
 (211,{desc:= .map 32 4,size:=1,bytes:=8,zl:=[.map none],ety:=some (.mp .arr2 .bool)}),
 (212,{desc:= .map 3 54,size:=1,bytes:=8,zl:=[.map none],ety:=some (.mp (.int .i64) (.sl (.int .i64)))})]
theorem z8n:zJX prog tyL:=by
 repeat' (first|exact trivial|refine zJX.cons ?_ ?_ ?_ ?_ ?_ ?_)
 all_goals kernel_rfl
theorem z6f:(tyL.all fun x=>zAE x.2.desc|| x.2.size==1)=true:=by kernel_rfl
theorem z6z:zIG tyL:=by
 repeat' (first|exact trivial|exact ⟨zRt rfl rfl rfl,trivial⟩|refine ⟨zRt rfl rfl rfl,?_⟩|refine ⟨z1a rfl,?_⟩)
theorem z8S:zDH prog 3 (.int .i64):=zDH.int (by kernel_rfl)
theorem z9M:zDH prog 32 .arr2:=zDH.arr2 (deep_law (m:=3) (by decide) (by kernel_rfl) (by kernel_rfl) (by kernel_rfl)) (u:=3) (by kernel_rfl) (by kernel_rfl) (by kernel_rfl) (by kernel_rfl) (by kernel_rfl) (by decide +kernel)
theorem z8X:zDH prog 33 .arr2:=zDH.arr2 (deep_law (m:=3) (by decide) (by kernel_rfl) (by kernel_rfl) (by kernel_rfl)) (u:=3) (by kernel_rfl) (by kernel_rfl) (by kernel_rfl) (by kernel_rfl) (by kernel_rfl) (by decide +kernel)
theorem z8h:zDH prog 85 .arr3:=zDH.arr3 (deep_law (m:=3) (by decide) (by kernel_rfl) (by kernel_rfl) (by kernel_rfl)) (u:=3) (by kernel_rfl) (by kernel_rfl) (by kernel_rfl) (by kernel_rfl) (by kernel_rfl) (by decide +kernel)
theorem z3r:zFC prog 3 4 (.int .i64) .bool:=⟨z8S,fun i h=>by
 have:(Tryz.prog.info? 4).map (·.zero)=some (some (.bool false)):=by kernel_rfl
 rw [h] at this;exact Option.some.inj this⟩
theorem z3o:zFC prog 3 3 (.int .i64) (.int .i64):=⟨z8S,fun i h=>by
 have:(Tryz.prog.info? 3).map (·.zero)=some (some (.int .i64 0)):=by kernel_rfl
 rw [h] at this;exact Option.some.inj this⟩
theorem zZM:zFC prog 33 3 .arr2 (.int .i64):=⟨z8X,fun i h=>by
 have:(Tryz.prog.info? 3).map (·.zero)=some (some (.int .i64 0)):=by kernel_rfl
 rw [h] at this;exact Option.some.inj this⟩
theorem zcz:zFC prog 33 4 .arr2 .bool:=⟨z8X,fun i h=>by
 have:(Tryz.prog.info? 4).map (·.zero)=some (some (.bool false)):=by kernel_rfl
 rw [h] at this;exact Option.some.inj this⟩
theorem z10:zFC prog 3 86 (.int .i64) .arr3:=⟨z8S,fun i h=>by
 have:(Tryz.prog.info? 86).map (·.zero)=some (some (.agg #[.int .i64 0,.int .i64 0,.int .i64 0])):=by kernel_rfl
 rw [h] at this;exact Option.some.inj this⟩
theorem z1G:zFC prog 85 54 .arr3 (.sl (.int .i64)):=⟨z8h,fun i h=>by
 have:(Tryz.prog.info? 54).map (·.zero)=some (some (.slice none 0 0)):=by kernel_rfl
 rw [h] at this;exact Option.some.inj this⟩
theorem z1K:zFC prog 32 4 .arr2 .bool:=⟨z9M,fun i h=>by
 have:(Tryz.prog.info? 4).map (·.zero)=some (some (.bool false)):=by kernel_rfl
 rw [h] at this;exact Option.some.inj this⟩
theorem z0U:zFC prog 3 54 (.int .i64) (.sl (.int .i64)):=⟨z8S,fun i h=>by
 have:(Tryz.prog.info? 54).map (·.zero)=some (some (.slice none 0 0)):=by kernel_rfl
 rw [h] at this;exact Option.some.inj this⟩
theorem z73 (fn:List (Nat×(List AV->Option Res))) (fr:List (Nat×FrE)):zIW prog ⟨tyL,fn,fr⟩ tyL:=by
 repeat' (first|exact trivial|refine ⟨z4s rfl,?_⟩|refine ⟨zI2 rfl rfl rfl rfl z3r rfl,?_⟩|refine ⟨zI2 rfl rfl rfl rfl z3o rfl,?_⟩|refine ⟨zI2 rfl rfl rfl rfl zZM rfl,?_⟩|refine ⟨zI2 rfl rfl rfl rfl zcz rfl,?_⟩|refine ⟨zI2 rfl rfl rfl rfl z10 rfl,?_⟩|refine ⟨zI2 rfl rfl rfl rfl z1G rfl,?_⟩|refine ⟨zI2 rfl rfl rfl rfl z1K rfl,?_⟩|refine ⟨zI2 rfl rfl rfl rfl z0U rfl,?_⟩)
theorem mixed:Tryz.prog.follows .mixedOrders=true:=by kernel_rfl
theorem yN {fn:List (Nat×(List AV->Option Res))} {fr:List (Nat×FrE)} (hf:zON prog fn) (hr:zQO prog fr):jM prog ⟨tyL,fn,fr⟩:=zZi z8n z6f z6z z73 mixed hf hr
theorem z6m {fn:List (Nat×(List AV->Option Res))} (hf:zON prog fn):jM prog ⟨tyL,fn,[]⟩:=yN hf trivial
theorem fb {fn:List (Nat×(List AV->Option Res))} {fr:List (Nat×FrE)} (p1:zON prog fn) {f:FuncId} {g:Func} (hf:Tryz.prog.funcs[f]? =some g) {args:List AV} {q:Option Prop} {u:AV} (h:zBl args->Opt q->zAG ⟨tyL,fn,fr⟩ g args (fun v=>v=u)) (p2:zQO prog fr:=by exact trivial) (hchk:zLg g args.length=true:=by kernel_rfl):zCn prog f args (none,q,u):=qL (yN p1 p2) hf hchk h
theorem fbF {fn:List (Nat×(List AV->Option Res))} {fr:List (Nat×FrE)} (p1:zON prog fn) {f:FuncId} {g:Func} (hf:Tryz.prog.funcs[f]? =some g) {args:List AV} {q:Option Prop} {u:AV} {us:List Ob} (h:zBl args->Opt q->zFB ⟨tyL,fn,fr⟩ g args (fun v obs=>v=u/\obs=us)) (p2:zQO prog fr:=by exact trivial) (hchk:zLg g args.length=true:=by kernel_rfl):zCv prog f args (none,q,u,us):=zDk (yN p1 p2) hf hchk h
end S1
