/- What the evaluator is told of this seat's program, and that it is so. Conditions: none. Written by wip/tools/mkenv.py. -/
import Derived.Test.YtliecnadoklgoaaDoorProg
import Derived.Test.YtliecnadoklgoaaDoorEvFrame
import Derived.Test.YtliecnadoklgoaaDoorEvClone
import Derived.Test.YtliecnadoklgoaaDoorSortC
import Derived.Test.YtliecnadoklgoaaDoorGrow
import Derived.KernelRfl
namespace Go.Proofs.YtliecnadoklgoaaDoor
open Ev Go.RowKit
set_option linter.unusedVariables false
set_option linter.unusedSimpArgs false
set_option linter.unusedSectionVars false
set_option maxHeartbeats 4000000
def envTy : Nat → TD
  | 1 => .fn
  | 2 => .int .i64
  | 3 => .int .i64
  | 4 => .bool
  | 5 => .int .u8
  | 9 => .str
  | 12 => .int .u64
  | 21 => .int .i32
  | 22 => .sl 5
  | 23 => .fn
  | 24 => .sl 3
  | 25 => .st [(0, 3), (1, 24)]
  | 26 => .st [(0, 3), (1, 24)]
  | 28 => .fn
  | 30 => .fn
  | 31 => .fn
  | 32 => .fn
  | 33 => .fn
  | 34 => .fn
  | 35 => .fn
  | 36 => .fn
  | 37 => .fn
  | 38 => .fn
  | 39 => .int .u64
  | 40 => .fn
  | 41 => .fn
  | 42 => .ptr 60
  | 43 => .fn
  | 44 => .fn
  | 45 => .sl 64
  | 46 => .fn
  | 47 => .fn
  | 48 => .fn
  | 49 => .fn
  | 50 => .fn
  | 51 => .fn
  | 52 => .fn
  | 53 => .fn
  | 54 => .fn
  | 55 => .sl 24
  | 56 => .fn
  | 57 => .fn
  | 58 => .fn
  | 59 => .st [(0, 22), (1, 3), (2, 3)]
  | 60 => .st [(0, 22), (1, 3), (2, 3)]
  | 61 => .fn
  | 62 => .fn
  | 63 => .st [(0, 3), (1, 3)]
  | 64 => .st [(0, 3), (1, 3)]
  | 65 => .fn
  | 67 => .fn
  | 68 => .fn
  | 69 => .fn
  | 70 => .fn
  | 71 => .fn
  | 72 => .fn
  | 73 => .fn
  | 74 => .fn
  | 75 => .fn
  | 76 => .fn
  | 77 => .int .i64
  | 79 => .fn
  | 80 => .fn
  | 81 => .fn
  | 82 => .fn
  | 83 => .fn
  | 84 => .int .u32
  | 85 => .fn
  | 86 => .int .u64
  | 87 => .int .u64
  | 88 => .fn
  | 89 => .fn
  | 90 => .fn
  | 91 => .ptr 3
  | 92 => .fn
  | 93 => .arr 32 5
  | 94 => .arr 64 5
  | 95 => .ptr 87
  | 97 => .fn
  | 98 => .fn
  | 104 => .fn
  | 107 => .fn
  | 108 => .ptr 5
  | 113 => .fn
  | _ => .other
def envSize : Nat → Nat
  | 2 => 1
  | 3 => 1
  | 4 => 1
  | 5 => 1
  | 9 => 1
  | 12 => 1
  | 21 => 1
  | 22 => 1
  | 24 => 1
  | 25 => 2
  | 26 => 2
  | 39 => 1
  | 45 => 1
  | 55 => 1
  | 59 => 3
  | 60 => 3
  | 63 => 2
  | 64 => 2
  | 77 => 1
  | 84 => 1
  | 86 => 1
  | 87 => 1
  | 93 => 32
  | 94 => 64
  | _ => 0
def envZero : Nat → AV
  | 2 => (.int .i64 0)
  | 3 => (.int .i64 0)
  | 4 => (.bool false)
  | 5 => (.int .u8 0)
  | 9 => (.str ⟨#[]⟩)
  | 12 => (.int .u64 0)
  | 21 => (.int .i32 0)
  | 22 => (.sl 0 .lit [])
  | 24 => (.sl 0 .lit [])
  | 25 => (.agg [(.int .i64 0), (.sl 0 .lit [])])
  | 26 => (.agg [(.int .i64 0), (.sl 0 .lit [])])
  | 39 => (.int .u64 0)
  | 45 => (.sl 0 .lit [])
  | 55 => (.sl 0 .lit [])
  | 59 => (.agg [(.sl 0 .lit []), (.int .i64 0), (.int .i64 0)])
  | 60 => (.agg [(.sl 0 .lit []), (.int .i64 0), (.int .i64 0)])
  | 63 => (.agg [(.int .i64 0), (.int .i64 0)])
  | 64 => (.agg [(.int .i64 0), (.int .i64 0)])
  | 77 => (.int .i64 0)
  | 84 => (.int .u32 0)
  | 86 => (.int .u64 0)
  | 87 => (.int .u64 0)
  | 93 => (.agg [(.int .u8 0), (.int .u8 0), (.int .u8 0), (.int .u8 0), (.int .u8 0), (.int .u8 0), (.int .u8 0), (.int .u8 0), (.int .u8 0), (.int .u8 0), (.int .u8 0), (.int .u8 0), (.int .u8 0), (.int .u8 0), (.int .u8 0), (.int .u8 0), (.int .u8 0), (.int .u8 0), (.int .u8 0), (.int .u8 0), (.int .u8 0), (.int .u8 0), (.int .u8 0), (.int .u8 0), (.int .u8 0), (.int .u8 0), (.int .u8 0), (.int .u8 0), (.int .u8 0), (.int .u8 0), (.int .u8 0), (.int .u8 0)])
  | 94 => (.agg [(.int .u8 0), (.int .u8 0), (.int .u8 0), (.int .u8 0), (.int .u8 0), (.int .u8 0), (.int .u8 0), (.int .u8 0), (.int .u8 0), (.int .u8 0), (.int .u8 0), (.int .u8 0), (.int .u8 0), (.int .u8 0), (.int .u8 0), (.int .u8 0), (.int .u8 0), (.int .u8 0), (.int .u8 0), (.int .u8 0), (.int .u8 0), (.int .u8 0), (.int .u8 0), (.int .u8 0), (.int .u8 0), (.int .u8 0), (.int .u8 0), (.int .u8 0), (.int .u8 0), (.int .u8 0), (.int .u8 0), (.int .u8 0), (.int .u8 0), (.int .u8 0), (.int .u8 0), (.int .u8 0), (.int .u8 0), (.int .u8 0), (.int .u8 0), (.int .u8 0), (.int .u8 0), (.int .u8 0), (.int .u8 0), (.int .u8 0), (.int .u8 0), (.int .u8 0), (.int .u8 0), (.int .u8 0), (.int .u8 0), (.int .u8 0), (.int .u8 0), (.int .u8 0), (.int .u8 0), (.int .u8 0), (.int .u8 0), (.int .u8 0), (.int .u8 0), (.int .u8 0), (.int .u8 0), (.int .u8 0), (.int .u8 0), (.int .u8 0), (.int .u8 0), (.int .u8 0)])
  | _ => .un
noncomputable def envFn0 : Nat → Option Func
  | 3 => some Tryd.f3
  | 4 => some Tryd.f4
  | 5 => some Tryd.f5
  | 6 => some Tryd.f6
  | 7 => some Tryd.f7
  | 8 => some Tryd.f8
  | 9 => some Tryd.f9
  | 10 => some Tryd.f10
  | 11 => some Tryd.f11
  | 12 => some Tryd.f12
  | 13 => some Tryd.f13
  | 14 => some Tryd.f14
  | 15 => some Tryd.f15
  | 16 => some Tryd.f16
  | 17 => some Tryd.f17
  | 18 => some Tryd.f18
  | 19 => some Tryd.f19
  | 20 => some Tryd.f20
  | 21 => some Tryd.f21
  | 22 => some Tryd.f22
  | 23 => some Tryd.f23
  | 24 => some Tryd.f24
  | 25 => some Tryd.f25
  | 26 => some Tryd.f26
  | 27 => some Tryd.f27
  | 28 => some Tryd.f28
  | 29 => some Tryd.f29
  | 30 => some Tryd.f30
  | 31 => some Tryd.f31
  | 32 => some Tryd.f32
  | 33 => some Tryd.f33
  | 34 => some Tryd.f34
  | 35 => some Tryd.f35
  | 36 => some Tryd.f36
  | 37 => some Tryd.f37
  | 38 => some Tryd.f38
  | 39 => some Tryd.f39
  | 40 => some Tryd.f40
  | 41 => some Tryd.f41
  | 42 => some Tryd.f42
  | 43 => some Tryd.f43
  | 44 => some Tryd.f44
  | 45 => some Tryd.f45
  | 46 => some Tryd.f46
  | 47 => some Tryd.f47
  | 48 => some Tryd.f48
  | 49 => some Tryd.f49
  | 50 => some Tryd.f50
  | 51 => some Tryd.f51
  | 52 => some Tryd.f52
  | 53 => some Tryd.f53
  | 54 => some Tryd.f54
  | 55 => some Tryd.f55
  | 56 => some Tryd.f56
  | 57 => some Tryd.f57
  | 58 => some Tryd.f58
  | 59 => some Tryd.f59
  | 60 => some Tryd.f60
  | 61 => some Tryd.f61
  | 62 => some Tryd.f62
  | 63 => some Tryd.f63
  | 64 => some Tryd.f64
  | 65 => some Tryd.f65
  | 66 => some Tryd.f66
  | 67 => some Tryd.f67
  | 68 => some Tryd.f68
  | 69 => some Tryd.f69
  | 70 => some Tryd.f70
  | 71 => some Tryd.f71
  | 72 => some Tryd.f72
  | 73 => some Tryd.f73
  | 74 => some Tryd.f74
  | 75 => some Tryd.f75
  | 76 => some Tryd.f76
  | 77 => some Tryd.f77
  | 78 => some Tryd.f78
  | 79 => some Tryd.f79
  | 80 => some Tryd.f80
  | 81 => some Tryd.f81
  | 82 => some Tryd.f82
  | 83 => some Tryd.f83
  | 84 => some Tryd.f84
  | 85 => some Tryd.f85
  | 86 => some Tryd.f86
  | 87 => some Tryd.f87
  | 88 => some Tryd.f88
  | 89 => some Tryd.f89
  | 90 => some Tryd.f90
  | 91 => some Tryd.f91
  | 92 => some Tryd.f92
  | _ => none
noncomputable def envFn1 : Nat → Option Func
  | 94 => some Tryd.f94
  | 95 => some Tryd.f95
  | 96 => some Tryd.f96
  | 112 => some Tryd.f112
  | 114 => some Tryd.f114
  | 115 => some Tryd.f115
  | 116 => some Tryd.f116
  | 117 => some Tryd.f117
  | _ => none
noncomputable def envFn (k : Nat) : Option Func := if k < 94 then envFn0 k else envFn1 k
def envOpen : Nat → Bool
  | 25 => true
  | 57 => true
  | 39 => true
  | 40 => true
  | 49 => true
  | 50 => true
  | 38 => true
  | 48 => true
  | 28 => true
  | _ => false
def envMat : Nat → Nat → Nat
  | 6, 8 => 3
  | 12, 8 => 3
  | 14, 4 => 1
  | 21, 8 => 1
  | _, _ => 0
def envCmp : Nat → Bool
  | 64 => true
  | _ => false
def envOwn : Nat → Bool
  | 47 => true
  | _ => false
noncomputable def envExt : Nat → Option (List AV → Option AV)
  | 59 => some sortF
  | 47 => some growF
  | _ => none
noncomputable def env : Env := { fn := envFn, ty := envTy, size := envSize, zero := envZero, open_ := envOpen, mat := envMat, ext := envExt, cmp := envCmp, own := envOwn }
@[simp] theorem env_own (f : Nat) : env.own f = envOwn f := id rfl
attribute [simp] envOwn
@[simp] theorem env_cmp64 : env.cmp 64 = true := id rfl
@[simp] theorem env_mat (f d : Nat) : env.mat f d = envMat f d := id rfl
attribute [simp] envMat
@[simp] theorem env_ty1 : env.ty 1 = .fn := id rfl
@[simp] theorem env_ty2 : env.ty 2 = .int .i64 := id rfl
@[simp] theorem env_size2 : env.size 2 = 1 := id rfl
@[simp] theorem env_zero2 : env.zero 2 = (.int .i64 0) := id rfl
@[simp] theorem env_ty3 : env.ty 3 = .int .i64 := id rfl
@[simp] theorem env_size3 : env.size 3 = 1 := id rfl
@[simp] theorem env_zero3 : env.zero 3 = (.int .i64 0) := id rfl
@[simp] theorem env_ty4 : env.ty 4 = .bool := id rfl
@[simp] theorem env_size4 : env.size 4 = 1 := id rfl
@[simp] theorem env_zero4 : env.zero 4 = (.bool false) := id rfl
@[simp] theorem env_ty5 : env.ty 5 = .int .u8 := id rfl
@[simp] theorem env_size5 : env.size 5 = 1 := id rfl
@[simp] theorem env_zero5 : env.zero 5 = (.int .u8 0) := id rfl
@[simp] theorem env_ty9 : env.ty 9 = .str := id rfl
@[simp] theorem env_size9 : env.size 9 = 1 := id rfl
@[simp] theorem env_zero9 : env.zero 9 = (.str ⟨#[]⟩) := id rfl
@[simp] theorem env_ty12 : env.ty 12 = .int .u64 := id rfl
@[simp] theorem env_size12 : env.size 12 = 1 := id rfl
@[simp] theorem env_zero12 : env.zero 12 = (.int .u64 0) := id rfl
@[simp] theorem env_ty21 : env.ty 21 = .int .i32 := id rfl
@[simp] theorem env_size21 : env.size 21 = 1 := id rfl
@[simp] theorem env_zero21 : env.zero 21 = (.int .i32 0) := id rfl
@[simp] theorem env_ty22 : env.ty 22 = .sl 5 := id rfl
@[simp] theorem env_size22 : env.size 22 = 1 := id rfl
@[simp] theorem env_zero22 : env.zero 22 = (.sl 0 .lit []) := id rfl
@[simp] theorem env_ty23 : env.ty 23 = .fn := id rfl
@[simp] theorem env_ty24 : env.ty 24 = .sl 3 := id rfl
@[simp] theorem env_size24 : env.size 24 = 1 := id rfl
@[simp] theorem env_zero24 : env.zero 24 = (.sl 0 .lit []) := id rfl
@[simp] theorem env_ty25 : env.ty 25 = .st [(0, 3), (1, 24)] := id rfl
@[simp] theorem env_size25 : env.size 25 = 2 := id rfl
@[simp] theorem env_zero25 : env.zero 25 = (.agg [(.int .i64 0), (.sl 0 .lit [])]) := id rfl
@[simp] theorem env_ty26 : env.ty 26 = .st [(0, 3), (1, 24)] := id rfl
@[simp] theorem env_size26 : env.size 26 = 2 := id rfl
@[simp] theorem env_zero26 : env.zero 26 = (.agg [(.int .i64 0), (.sl 0 .lit [])]) := id rfl
@[simp] theorem env_ty28 : env.ty 28 = .fn := id rfl
@[simp] theorem env_ty30 : env.ty 30 = .fn := id rfl
@[simp] theorem env_ty31 : env.ty 31 = .fn := id rfl
@[simp] theorem env_ty32 : env.ty 32 = .fn := id rfl
@[simp] theorem env_ty33 : env.ty 33 = .fn := id rfl
@[simp] theorem env_ty34 : env.ty 34 = .fn := id rfl
@[simp] theorem env_ty35 : env.ty 35 = .fn := id rfl
@[simp] theorem env_ty36 : env.ty 36 = .fn := id rfl
@[simp] theorem env_ty37 : env.ty 37 = .fn := id rfl
@[simp] theorem env_ty38 : env.ty 38 = .fn := id rfl
@[simp] theorem env_ty39 : env.ty 39 = .int .u64 := id rfl
@[simp] theorem env_size39 : env.size 39 = 1 := id rfl
@[simp] theorem env_zero39 : env.zero 39 = (.int .u64 0) := id rfl
@[simp] theorem env_ty40 : env.ty 40 = .fn := id rfl
@[simp] theorem env_ty41 : env.ty 41 = .fn := id rfl
@[simp] theorem env_ty42 : env.ty 42 = .ptr 60 := id rfl
@[simp] theorem env_ty43 : env.ty 43 = .fn := id rfl
@[simp] theorem env_ty44 : env.ty 44 = .fn := id rfl
@[simp] theorem env_ty45 : env.ty 45 = .sl 64 := id rfl
@[simp] theorem env_size45 : env.size 45 = 1 := id rfl
@[simp] theorem env_zero45 : env.zero 45 = (.sl 0 .lit []) := id rfl
@[simp] theorem env_ty46 : env.ty 46 = .fn := id rfl
@[simp] theorem env_ty47 : env.ty 47 = .fn := id rfl
@[simp] theorem env_ty48 : env.ty 48 = .fn := id rfl
@[simp] theorem env_ty49 : env.ty 49 = .fn := id rfl
@[simp] theorem env_ty50 : env.ty 50 = .fn := id rfl
@[simp] theorem env_ty51 : env.ty 51 = .fn := id rfl
@[simp] theorem env_ty52 : env.ty 52 = .fn := id rfl
@[simp] theorem env_ty53 : env.ty 53 = .fn := id rfl
@[simp] theorem env_ty54 : env.ty 54 = .fn := id rfl
@[simp] theorem env_ty55 : env.ty 55 = .sl 24 := id rfl
@[simp] theorem env_size55 : env.size 55 = 1 := id rfl
@[simp] theorem env_zero55 : env.zero 55 = (.sl 0 .lit []) := id rfl
@[simp] theorem env_ty56 : env.ty 56 = .fn := id rfl
@[simp] theorem env_ty57 : env.ty 57 = .fn := id rfl
@[simp] theorem env_ty58 : env.ty 58 = .fn := id rfl
@[simp] theorem env_ty59 : env.ty 59 = .st [(0, 22), (1, 3), (2, 3)] := id rfl
@[simp] theorem env_size59 : env.size 59 = 3 := id rfl
@[simp] theorem env_zero59 : env.zero 59 = (.agg [(.sl 0 .lit []), (.int .i64 0), (.int .i64 0)]) := id rfl
@[simp] theorem env_ty60 : env.ty 60 = .st [(0, 22), (1, 3), (2, 3)] := id rfl
@[simp] theorem env_size60 : env.size 60 = 3 := id rfl
@[simp] theorem env_zero60 : env.zero 60 = (.agg [(.sl 0 .lit []), (.int .i64 0), (.int .i64 0)]) := id rfl
@[simp] theorem env_ty61 : env.ty 61 = .fn := id rfl
@[simp] theorem env_ty62 : env.ty 62 = .fn := id rfl
@[simp] theorem env_ty63 : env.ty 63 = .st [(0, 3), (1, 3)] := id rfl
@[simp] theorem env_size63 : env.size 63 = 2 := id rfl
@[simp] theorem env_zero63 : env.zero 63 = (.agg [(.int .i64 0), (.int .i64 0)]) := id rfl
@[simp] theorem env_ty64 : env.ty 64 = .st [(0, 3), (1, 3)] := id rfl
@[simp] theorem env_size64 : env.size 64 = 2 := id rfl
@[simp] theorem env_zero64 : env.zero 64 = (.agg [(.int .i64 0), (.int .i64 0)]) := id rfl
@[simp] theorem env_ty65 : env.ty 65 = .fn := id rfl
@[simp] theorem env_ty67 : env.ty 67 = .fn := id rfl
@[simp] theorem env_ty68 : env.ty 68 = .fn := id rfl
@[simp] theorem env_ty69 : env.ty 69 = .fn := id rfl
@[simp] theorem env_ty70 : env.ty 70 = .fn := id rfl
@[simp] theorem env_ty71 : env.ty 71 = .fn := id rfl
@[simp] theorem env_ty72 : env.ty 72 = .fn := id rfl
@[simp] theorem env_ty73 : env.ty 73 = .fn := id rfl
@[simp] theorem env_ty74 : env.ty 74 = .fn := id rfl
@[simp] theorem env_ty75 : env.ty 75 = .fn := id rfl
@[simp] theorem env_ty76 : env.ty 76 = .fn := id rfl
@[simp] theorem env_ty77 : env.ty 77 = .int .i64 := id rfl
@[simp] theorem env_size77 : env.size 77 = 1 := id rfl
@[simp] theorem env_zero77 : env.zero 77 = (.int .i64 0) := id rfl
@[simp] theorem env_ty79 : env.ty 79 = .fn := id rfl
@[simp] theorem env_ty80 : env.ty 80 = .fn := id rfl
@[simp] theorem env_ty81 : env.ty 81 = .fn := id rfl
@[simp] theorem env_ty82 : env.ty 82 = .fn := id rfl
@[simp] theorem env_ty83 : env.ty 83 = .fn := id rfl
@[simp] theorem env_ty84 : env.ty 84 = .int .u32 := id rfl
@[simp] theorem env_size84 : env.size 84 = 1 := id rfl
@[simp] theorem env_zero84 : env.zero 84 = (.int .u32 0) := id rfl
@[simp] theorem env_ty85 : env.ty 85 = .fn := id rfl
@[simp] theorem env_ty86 : env.ty 86 = .int .u64 := id rfl
@[simp] theorem env_size86 : env.size 86 = 1 := id rfl
@[simp] theorem env_zero86 : env.zero 86 = (.int .u64 0) := id rfl
@[simp] theorem env_ty87 : env.ty 87 = .int .u64 := id rfl
@[simp] theorem env_size87 : env.size 87 = 1 := id rfl
@[simp] theorem env_zero87 : env.zero 87 = (.int .u64 0) := id rfl
@[simp] theorem env_ty88 : env.ty 88 = .fn := id rfl
@[simp] theorem env_ty89 : env.ty 89 = .fn := id rfl
@[simp] theorem env_ty90 : env.ty 90 = .fn := id rfl
@[simp] theorem env_ty91 : env.ty 91 = .ptr 3 := id rfl
@[simp] theorem env_ty92 : env.ty 92 = .fn := id rfl
@[simp] theorem env_ty93 : env.ty 93 = .arr 32 5 := id rfl
@[simp] theorem env_size93 : env.size 93 = 32 := id rfl
@[simp] theorem env_zero93 : env.zero 93 = (.agg [(.int .u8 0), (.int .u8 0), (.int .u8 0), (.int .u8 0), (.int .u8 0), (.int .u8 0), (.int .u8 0), (.int .u8 0), (.int .u8 0), (.int .u8 0), (.int .u8 0), (.int .u8 0), (.int .u8 0), (.int .u8 0), (.int .u8 0), (.int .u8 0), (.int .u8 0), (.int .u8 0), (.int .u8 0), (.int .u8 0), (.int .u8 0), (.int .u8 0), (.int .u8 0), (.int .u8 0), (.int .u8 0), (.int .u8 0), (.int .u8 0), (.int .u8 0), (.int .u8 0), (.int .u8 0), (.int .u8 0), (.int .u8 0)]) := id rfl
@[simp] theorem env_ty94 : env.ty 94 = .arr 64 5 := id rfl
@[simp] theorem env_size94 : env.size 94 = 64 := id rfl
@[simp] theorem env_zero94 : env.zero 94 = (.agg [(.int .u8 0), (.int .u8 0), (.int .u8 0), (.int .u8 0), (.int .u8 0), (.int .u8 0), (.int .u8 0), (.int .u8 0), (.int .u8 0), (.int .u8 0), (.int .u8 0), (.int .u8 0), (.int .u8 0), (.int .u8 0), (.int .u8 0), (.int .u8 0), (.int .u8 0), (.int .u8 0), (.int .u8 0), (.int .u8 0), (.int .u8 0), (.int .u8 0), (.int .u8 0), (.int .u8 0), (.int .u8 0), (.int .u8 0), (.int .u8 0), (.int .u8 0), (.int .u8 0), (.int .u8 0), (.int .u8 0), (.int .u8 0), (.int .u8 0), (.int .u8 0), (.int .u8 0), (.int .u8 0), (.int .u8 0), (.int .u8 0), (.int .u8 0), (.int .u8 0), (.int .u8 0), (.int .u8 0), (.int .u8 0), (.int .u8 0), (.int .u8 0), (.int .u8 0), (.int .u8 0), (.int .u8 0), (.int .u8 0), (.int .u8 0), (.int .u8 0), (.int .u8 0), (.int .u8 0), (.int .u8 0), (.int .u8 0), (.int .u8 0), (.int .u8 0), (.int .u8 0), (.int .u8 0), (.int .u8 0), (.int .u8 0), (.int .u8 0), (.int .u8 0), (.int .u8 0)]) := id rfl
@[simp] theorem env_ty95 : env.ty 95 = .ptr 87 := id rfl
@[simp] theorem env_ty97 : env.ty 97 = .fn := id rfl
@[simp] theorem env_ty98 : env.ty 98 = .fn := id rfl
@[simp] theorem env_ty104 : env.ty 104 = .fn := id rfl
@[simp] theorem env_ty107 : env.ty 107 = .fn := id rfl
@[simp] theorem env_ty108 : env.ty 108 = .ptr 5 := id rfl
@[simp] theorem env_ty113 : env.ty 113 = .fn := id rfl
@[simp] theorem env_open3 : env.open_ 3 = false := id rfl
@[simp] theorem env_ext3 : env.ext 3 = none := id rfl
@[simp] theorem env_open4 : env.open_ 4 = false := id rfl
@[simp] theorem env_ext4 : env.ext 4 = none := id rfl
@[simp] theorem env_open5 : env.open_ 5 = false := id rfl
@[simp] theorem env_ext5 : env.ext 5 = none := id rfl
@[simp] theorem env_open6 : env.open_ 6 = false := id rfl
@[simp] theorem env_ext6 : env.ext 6 = none := id rfl
@[simp] theorem env_open7 : env.open_ 7 = false := id rfl
@[simp] theorem env_ext7 : env.ext 7 = none := id rfl
@[simp] theorem env_open8 : env.open_ 8 = false := id rfl
@[simp] theorem env_ext8 : env.ext 8 = none := id rfl
@[simp] theorem env_open9 : env.open_ 9 = false := id rfl
@[simp] theorem env_ext9 : env.ext 9 = none := id rfl
@[simp] theorem env_open10 : env.open_ 10 = false := id rfl
@[simp] theorem env_ext10 : env.ext 10 = none := id rfl
@[simp] theorem env_open11 : env.open_ 11 = false := id rfl
@[simp] theorem env_ext11 : env.ext 11 = none := id rfl
@[simp] theorem env_open12 : env.open_ 12 = false := id rfl
@[simp] theorem env_ext12 : env.ext 12 = none := id rfl
@[simp] theorem env_open13 : env.open_ 13 = false := id rfl
@[simp] theorem env_ext13 : env.ext 13 = none := id rfl
@[simp] theorem env_open14 : env.open_ 14 = false := id rfl
@[simp] theorem env_ext14 : env.ext 14 = none := id rfl
@[simp] theorem env_open15 : env.open_ 15 = false := id rfl
@[simp] theorem env_ext15 : env.ext 15 = none := id rfl
@[simp] theorem env_open16 : env.open_ 16 = false := id rfl
@[simp] theorem env_ext16 : env.ext 16 = none := id rfl
@[simp] theorem env_open17 : env.open_ 17 = false := id rfl
@[simp] theorem env_ext17 : env.ext 17 = none := id rfl
@[simp] theorem env_open18 : env.open_ 18 = false := id rfl
@[simp] theorem env_ext18 : env.ext 18 = none := id rfl
@[simp] theorem env_open19 : env.open_ 19 = false := id rfl
@[simp] theorem env_ext19 : env.ext 19 = none := id rfl
@[simp] theorem env_open20 : env.open_ 20 = false := id rfl
@[simp] theorem env_ext20 : env.ext 20 = none := id rfl
@[simp] theorem env_open21 : env.open_ 21 = false := id rfl
@[simp] theorem env_ext21 : env.ext 21 = none := id rfl
@[simp] theorem env_open22 : env.open_ 22 = false := id rfl
@[simp] theorem env_ext22 : env.ext 22 = none := id rfl
@[simp] theorem env_open23 : env.open_ 23 = false := id rfl
@[simp] theorem env_ext23 : env.ext 23 = none := id rfl
@[simp] theorem env_open24 : env.open_ 24 = false := id rfl
@[simp] theorem env_ext24 : env.ext 24 = none := id rfl
@[simp] theorem env_open25 : env.open_ 25 = true := id rfl
@[simp] theorem env_ext25 : env.ext 25 = none := id rfl
@[simp] theorem env_open26 : env.open_ 26 = false := id rfl
@[simp] theorem env_ext26 : env.ext 26 = none := id rfl
@[simp] theorem env_open27 : env.open_ 27 = false := id rfl
@[simp] theorem env_ext27 : env.ext 27 = none := id rfl
@[simp] theorem env_open28 : env.open_ 28 = true := id rfl
@[simp] theorem env_ext28 : env.ext 28 = none := id rfl
@[simp] theorem env_open29 : env.open_ 29 = false := id rfl
@[simp] theorem env_ext29 : env.ext 29 = none := id rfl
@[simp] theorem env_open30 : env.open_ 30 = false := id rfl
@[simp] theorem env_ext30 : env.ext 30 = none := id rfl
@[simp] theorem env_open31 : env.open_ 31 = false := id rfl
@[simp] theorem env_ext31 : env.ext 31 = none := id rfl
@[simp] theorem env_open32 : env.open_ 32 = false := id rfl
@[simp] theorem env_ext32 : env.ext 32 = none := id rfl
@[simp] theorem env_open33 : env.open_ 33 = false := id rfl
@[simp] theorem env_ext33 : env.ext 33 = none := id rfl
@[simp] theorem env_open34 : env.open_ 34 = false := id rfl
@[simp] theorem env_ext34 : env.ext 34 = none := id rfl
@[simp] theorem env_open35 : env.open_ 35 = false := id rfl
@[simp] theorem env_ext35 : env.ext 35 = none := id rfl
@[simp] theorem env_open36 : env.open_ 36 = false := id rfl
@[simp] theorem env_ext36 : env.ext 36 = none := id rfl
@[simp] theorem env_open37 : env.open_ 37 = false := id rfl
@[simp] theorem env_ext37 : env.ext 37 = none := id rfl
@[simp] theorem env_open38 : env.open_ 38 = true := id rfl
@[simp] theorem env_ext38 : env.ext 38 = none := id rfl
@[simp] theorem env_open39 : env.open_ 39 = true := id rfl
@[simp] theorem env_ext39 : env.ext 39 = none := id rfl
@[simp] theorem env_open40 : env.open_ 40 = true := id rfl
@[simp] theorem env_ext40 : env.ext 40 = none := id rfl
@[simp] theorem env_open41 : env.open_ 41 = false := id rfl
@[simp] theorem env_ext41 : env.ext 41 = none := id rfl
@[simp] theorem env_open42 : env.open_ 42 = false := id rfl
@[simp] theorem env_ext42 : env.ext 42 = none := id rfl
@[simp] theorem env_open43 : env.open_ 43 = false := id rfl
@[simp] theorem env_ext43 : env.ext 43 = none := id rfl
@[simp] theorem env_open44 : env.open_ 44 = false := id rfl
@[simp] theorem env_ext44 : env.ext 44 = none := id rfl
@[simp] theorem env_open45 : env.open_ 45 = false := id rfl
@[simp] theorem env_ext45 : env.ext 45 = none := id rfl
@[simp] theorem env_open46 : env.open_ 46 = false := id rfl
@[simp] theorem env_ext46 : env.ext 46 = none := id rfl
@[simp] theorem env_open47 : env.open_ 47 = false := id rfl
@[simp] theorem env_ext47 : env.ext 47 = some growF := id rfl
@[simp] theorem env_open48 : env.open_ 48 = true := id rfl
@[simp] theorem env_ext48 : env.ext 48 = none := id rfl
@[simp] theorem env_open49 : env.open_ 49 = true := id rfl
@[simp] theorem env_ext49 : env.ext 49 = none := id rfl
@[simp] theorem env_open50 : env.open_ 50 = true := id rfl
@[simp] theorem env_ext50 : env.ext 50 = none := id rfl
@[simp] theorem env_open51 : env.open_ 51 = false := id rfl
@[simp] theorem env_ext51 : env.ext 51 = none := id rfl
@[simp] theorem env_open52 : env.open_ 52 = false := id rfl
@[simp] theorem env_ext52 : env.ext 52 = none := id rfl
@[simp] theorem env_open53 : env.open_ 53 = false := id rfl
@[simp] theorem env_ext53 : env.ext 53 = none := id rfl
@[simp] theorem env_open54 : env.open_ 54 = false := id rfl
@[simp] theorem env_ext54 : env.ext 54 = none := id rfl
@[simp] theorem env_open55 : env.open_ 55 = false := id rfl
@[simp] theorem env_ext55 : env.ext 55 = none := id rfl
@[simp] theorem env_open56 : env.open_ 56 = false := id rfl
@[simp] theorem env_ext56 : env.ext 56 = none := id rfl
@[simp] theorem env_open57 : env.open_ 57 = true := id rfl
@[simp] theorem env_ext57 : env.ext 57 = none := id rfl
@[simp] theorem env_open58 : env.open_ 58 = false := id rfl
@[simp] theorem env_ext58 : env.ext 58 = none := id rfl
@[simp] theorem env_open59 : env.open_ 59 = false := id rfl
@[simp] theorem env_ext59 : env.ext 59 = some sortF := id rfl
@[simp] theorem env_open60 : env.open_ 60 = false := id rfl
@[simp] theorem env_ext60 : env.ext 60 = none := id rfl
@[simp] theorem env_open61 : env.open_ 61 = false := id rfl
@[simp] theorem env_ext61 : env.ext 61 = none := id rfl
@[simp] theorem env_open62 : env.open_ 62 = false := id rfl
@[simp] theorem env_ext62 : env.ext 62 = none := id rfl
@[simp] theorem env_open63 : env.open_ 63 = false := id rfl
@[simp] theorem env_ext63 : env.ext 63 = none := id rfl
@[simp] theorem env_open64 : env.open_ 64 = false := id rfl
@[simp] theorem env_ext64 : env.ext 64 = none := id rfl
@[simp] theorem env_open65 : env.open_ 65 = false := id rfl
@[simp] theorem env_ext65 : env.ext 65 = none := id rfl
@[simp] theorem env_open66 : env.open_ 66 = false := id rfl
@[simp] theorem env_ext66 : env.ext 66 = none := id rfl
@[simp] theorem env_open67 : env.open_ 67 = false := id rfl
@[simp] theorem env_ext67 : env.ext 67 = none := id rfl
@[simp] theorem env_open68 : env.open_ 68 = false := id rfl
@[simp] theorem env_ext68 : env.ext 68 = none := id rfl
@[simp] theorem env_open69 : env.open_ 69 = false := id rfl
@[simp] theorem env_ext69 : env.ext 69 = none := id rfl
@[simp] theorem env_open70 : env.open_ 70 = false := id rfl
@[simp] theorem env_ext70 : env.ext 70 = none := id rfl
@[simp] theorem env_open71 : env.open_ 71 = false := id rfl
@[simp] theorem env_ext71 : env.ext 71 = none := id rfl
@[simp] theorem env_open72 : env.open_ 72 = false := id rfl
@[simp] theorem env_ext72 : env.ext 72 = none := id rfl
@[simp] theorem env_open73 : env.open_ 73 = false := id rfl
@[simp] theorem env_ext73 : env.ext 73 = none := id rfl
@[simp] theorem env_open74 : env.open_ 74 = false := id rfl
@[simp] theorem env_ext74 : env.ext 74 = none := id rfl
@[simp] theorem env_open75 : env.open_ 75 = false := id rfl
@[simp] theorem env_ext75 : env.ext 75 = none := id rfl
@[simp] theorem env_open76 : env.open_ 76 = false := id rfl
@[simp] theorem env_ext76 : env.ext 76 = none := id rfl
@[simp] theorem env_open77 : env.open_ 77 = false := id rfl
@[simp] theorem env_ext77 : env.ext 77 = none := id rfl
@[simp] theorem env_open78 : env.open_ 78 = false := id rfl
@[simp] theorem env_ext78 : env.ext 78 = none := id rfl
@[simp] theorem env_open79 : env.open_ 79 = false := id rfl
@[simp] theorem env_ext79 : env.ext 79 = none := id rfl
@[simp] theorem env_open80 : env.open_ 80 = false := id rfl
@[simp] theorem env_ext80 : env.ext 80 = none := id rfl
@[simp] theorem env_open81 : env.open_ 81 = false := id rfl
@[simp] theorem env_ext81 : env.ext 81 = none := id rfl
@[simp] theorem env_open82 : env.open_ 82 = false := id rfl
@[simp] theorem env_ext82 : env.ext 82 = none := id rfl
@[simp] theorem env_open83 : env.open_ 83 = false := id rfl
@[simp] theorem env_ext83 : env.ext 83 = none := id rfl
@[simp] theorem env_open84 : env.open_ 84 = false := id rfl
@[simp] theorem env_ext84 : env.ext 84 = none := id rfl
@[simp] theorem env_open85 : env.open_ 85 = false := id rfl
@[simp] theorem env_ext85 : env.ext 85 = none := id rfl
@[simp] theorem env_open86 : env.open_ 86 = false := id rfl
@[simp] theorem env_ext86 : env.ext 86 = none := id rfl
@[simp] theorem env_open87 : env.open_ 87 = false := id rfl
@[simp] theorem env_ext87 : env.ext 87 = none := id rfl
@[simp] theorem env_open88 : env.open_ 88 = false := id rfl
@[simp] theorem env_ext88 : env.ext 88 = none := id rfl
@[simp] theorem env_open89 : env.open_ 89 = false := id rfl
@[simp] theorem env_ext89 : env.ext 89 = none := id rfl
@[simp] theorem env_open90 : env.open_ 90 = false := id rfl
@[simp] theorem env_ext90 : env.ext 90 = none := id rfl
@[simp] theorem env_open91 : env.open_ 91 = false := id rfl
@[simp] theorem env_ext91 : env.ext 91 = none := id rfl
@[simp] theorem env_open92 : env.open_ 92 = false := id rfl
@[simp] theorem env_ext92 : env.ext 92 = none := id rfl
@[simp] theorem env_open94 : env.open_ 94 = false := id rfl
@[simp] theorem env_ext94 : env.ext 94 = none := id rfl
@[simp] theorem env_open95 : env.open_ 95 = false := id rfl
@[simp] theorem env_ext95 : env.ext 95 = none := id rfl
@[simp] theorem env_open96 : env.open_ 96 = false := id rfl
@[simp] theorem env_ext96 : env.ext 96 = none := id rfl
@[simp] theorem env_open112 : env.open_ 112 = false := id rfl
@[simp] theorem env_ext112 : env.ext 112 = none := id rfl
@[simp] theorem env_open114 : env.open_ 114 = false := id rfl
@[simp] theorem env_ext114 : env.ext 114 = none := id rfl
@[simp] theorem env_open115 : env.open_ 115 = false := id rfl
@[simp] theorem env_ext115 : env.ext 115 = none := id rfl
@[simp] theorem env_open116 : env.open_ 116 = false := id rfl
@[simp] theorem env_ext116 : env.ext 116 = none := id rfl
@[simp] theorem env_open117 : env.open_ 117 = false := id rfl
@[simp] theorem env_ext117 : env.ext 117 = none := id rfl
theorem info2 : (Tryd.prog.info? 2).map (fun i => (i.size, i.bytes, i.zero)) = some (1, 8, some (.int .i64 0)) := by kernel_rfl
theorem info3 : (Tryd.prog.info? 3).map (fun i => (i.size, i.bytes, i.zero)) = some (1, 8, some (.int .i64 0)) := by kernel_rfl
theorem info4 : (Tryd.prog.info? 4).map (fun i => (i.size, i.bytes, i.zero)) = some (1, 1, some (.bool false)) := by kernel_rfl
theorem info5 : (Tryd.prog.info? 5).map (fun i => (i.size, i.bytes, i.zero)) = some (1, 1, some (.int .u8 0)) := by kernel_rfl
theorem info9 : (Tryd.prog.info? 9).map (fun i => (i.size, i.bytes, i.zero)) = some (1, 16, some (.string ⟨#[]⟩)) := by kernel_rfl
theorem info12 : (Tryd.prog.info? 12).map (fun i => (i.size, i.bytes, i.zero)) = some (1, 8, some (.int .u64 0)) := by kernel_rfl
theorem info21 : (Tryd.prog.info? 21).map (fun i => (i.size, i.bytes, i.zero)) = some (1, 4, some (.int .i32 0)) := by kernel_rfl
theorem info22 : (Tryd.prog.info? 22).map (fun i => (i.size, i.bytes, i.zero)) = some (1, 24, some (.slice none 0 0)) := by kernel_rfl
theorem info24 : (Tryd.prog.info? 24).map (fun i => (i.size, i.bytes, i.zero)) = some (1, 24, some (.slice none 0 0)) := by kernel_rfl
theorem info25 : (Tryd.prog.info? 25).map (fun i => (i.size, i.bytes, i.zero)) = some (2, 32, some (.agg #[(.int .i64 0), (.slice none 0 0)])) := by kernel_rfl
theorem info26 : (Tryd.prog.info? 26).map (fun i => (i.size, i.bytes, i.zero)) = some (2, 32, some (.agg #[(.int .i64 0), (.slice none 0 0)])) := by kernel_rfl
theorem info39 : (Tryd.prog.info? 39).map (fun i => (i.size, i.bytes, i.zero)) = some (1, 8, some (.int .u64 0)) := by kernel_rfl
theorem info45 : (Tryd.prog.info? 45).map (fun i => (i.size, i.bytes, i.zero)) = some (1, 24, some (.slice none 0 0)) := by kernel_rfl
theorem info55 : (Tryd.prog.info? 55).map (fun i => (i.size, i.bytes, i.zero)) = some (1, 24, some (.slice none 0 0)) := by kernel_rfl
theorem info59 : (Tryd.prog.info? 59).map (fun i => (i.size, i.bytes, i.zero)) = some (3, 40, some (.agg #[(.slice none 0 0), (.int .i64 0), (.int .i64 0)])) := by kernel_rfl
theorem info60 : (Tryd.prog.info? 60).map (fun i => (i.size, i.bytes, i.zero)) = some (3, 40, some (.agg #[(.slice none 0 0), (.int .i64 0), (.int .i64 0)])) := by kernel_rfl
theorem info63 : (Tryd.prog.info? 63).map (fun i => (i.size, i.bytes, i.zero)) = some (2, 16, some (.agg #[(.int .i64 0), (.int .i64 0)])) := by kernel_rfl
theorem info64 : (Tryd.prog.info? 64).map (fun i => (i.size, i.bytes, i.zero)) = some (2, 16, some (.agg #[(.int .i64 0), (.int .i64 0)])) := by kernel_rfl
theorem info77 : (Tryd.prog.info? 77).map (fun i => (i.size, i.bytes, i.zero)) = some (1, 8, some (.int .i64 0)) := by kernel_rfl
theorem info84 : (Tryd.prog.info? 84).map (fun i => (i.size, i.bytes, i.zero)) = some (1, 4, some (.int .u32 0)) := by kernel_rfl
theorem info86 : (Tryd.prog.info? 86).map (fun i => (i.size, i.bytes, i.zero)) = some (1, 8, some (.int .u64 0)) := by kernel_rfl
theorem info87 : (Tryd.prog.info? 87).map (fun i => (i.size, i.bytes, i.zero)) = some (1, 8, some (.int .u64 0)) := by kernel_rfl
theorem info93 : (Tryd.prog.info? 93).map (fun i => (i.size, i.bytes, i.zero)) = some (32, 32, some (.agg #[(.int .u8 0), (.int .u8 0), (.int .u8 0), (.int .u8 0), (.int .u8 0), (.int .u8 0), (.int .u8 0), (.int .u8 0), (.int .u8 0), (.int .u8 0), (.int .u8 0), (.int .u8 0), (.int .u8 0), (.int .u8 0), (.int .u8 0), (.int .u8 0), (.int .u8 0), (.int .u8 0), (.int .u8 0), (.int .u8 0), (.int .u8 0), (.int .u8 0), (.int .u8 0), (.int .u8 0), (.int .u8 0), (.int .u8 0), (.int .u8 0), (.int .u8 0), (.int .u8 0), (.int .u8 0), (.int .u8 0), (.int .u8 0)])) := by kernel_rfl
theorem info94 : (Tryd.prog.info? 94).map (fun i => (i.size, i.bytes, i.zero)) = some (64, 64, some (.agg #[(.int .u8 0), (.int .u8 0), (.int .u8 0), (.int .u8 0), (.int .u8 0), (.int .u8 0), (.int .u8 0), (.int .u8 0), (.int .u8 0), (.int .u8 0), (.int .u8 0), (.int .u8 0), (.int .u8 0), (.int .u8 0), (.int .u8 0), (.int .u8 0), (.int .u8 0), (.int .u8 0), (.int .u8 0), (.int .u8 0), (.int .u8 0), (.int .u8 0), (.int .u8 0), (.int .u8 0), (.int .u8 0), (.int .u8 0), (.int .u8 0), (.int .u8 0), (.int .u8 0), (.int .u8 0), (.int .u8 0), (.int .u8 0), (.int .u8 0), (.int .u8 0), (.int .u8 0), (.int .u8 0), (.int .u8 0), (.int .u8 0), (.int .u8 0), (.int .u8 0), (.int .u8 0), (.int .u8 0), (.int .u8 0), (.int .u8 0), (.int .u8 0), (.int .u8 0), (.int .u8 0), (.int .u8 0), (.int .u8 0), (.int .u8 0), (.int .u8 0), (.int .u8 0), (.int .u8 0), (.int .u8 0), (.int .u8 0), (.int .u8 0), (.int .u8 0), (.int .u8 0), (.int .u8 0), (.int .u8 0), (.int .u8 0), (.int .u8 0), (.int .u8 0), (.int .u8 0)])) := by kernel_rfl
theorem env_parts {t s b : Nat} {z : Value} {a : AV} (hi : (Tryd.prog.info? t).map (fun i => (i.size, i.bytes, i.zero)) = some (s, b, some z)) (hb : b ≤ 131072) (hz : ∀ c, VR a c z) (hl : a.cells.length = s) (ho : a.cells.all AV.one = true) :
    ∃ i z, Tryd.prog.info? t = some i ∧ i.size = s ∧ i.bytes ≤ 131072 ∧ i.zero = some z ∧ (∀ c, VR a c z) ∧ a.cells.length = s ∧ a.cells.all AV.one = true := by
  rw [Option.map_eq_some_iff] at hi
  obtain ⟨i, h1, h2⟩ := hi
  obtain ⟨rfl, h3⟩ := Prod.mk.inj h2
  obtain ⟨rfl, h4⟩ := Prod.mk.inj h3
  exact ⟨i, z, h1, rfl, hb, h4, hz, hl, ho⟩
theorem vr_nil (c : Cx) : VR (.sl 0 .lit []) c (.slice none 0 0) := by simp only [VR]; exact ⟨none, 0, rfl, Nat.le_refl _, Nat.zero_le _, fun _ => rfl, fun h => (h rfl).elim, rfl⟩
theorem vz_agg {c : Cx} {cs : List AV} {rc : List Value} (h : VRl cs c rc) : VR (.agg cs) c (.agg rc.toArray) := by simp only [VR]; exact ⟨_, rfl, h⟩
theorem vz_int {c : Cx} {k : IntKind} {n : Int} : VR (.int k n) c (.int k n) := by simp only [VR]
theorem vz_bool {c : Cx} {b : Bool} : VR (.bool b) c (.bool b) := by simp only [VR]
theorem vz_str {c : Cx} {s : ByteArray} : VR (.str s) c (.string s) := by simp only [VR]
theorem vz_nilf {c : Cx} : VR .nilf c .nilFunc := by simp only [VR]
theorem vz_nil {c : Cx} : VRl [] c [] := by simp only [VRl]
theorem vz_cons {c : Cx} {x : AV} {xs : List AV} {v : Value} {vs : List Value} (h : VR x c v) (t : VRl xs c vs) : VRl (x :: xs) c (v :: vs) := by simp only [VRl]; exact ⟨_, _, rfl, h, t⟩
set_option maxRecDepth 100000 in
theorem env_tys : ∀ t, envTy t ≠ .other → ∃ d, Tryd.prog.underlying t = some d ∧ TD.of d = envTy t := by
  intro t h
  unfold envTy at h ⊢
  split at h
  · exact ⟨_, Tryd.underlying1, rfl⟩
  · exact ⟨_, Tryd.underlying2, rfl⟩
  · exact ⟨_, Tryd.underlying3, rfl⟩
  · exact ⟨_, Tryd.underlying4, rfl⟩
  · exact ⟨_, Tryd.underlying5, rfl⟩
  · exact ⟨_, Tryd.underlying9, rfl⟩
  · exact ⟨_, Tryd.underlying12, rfl⟩
  · exact ⟨_, Tryd.underlying21, rfl⟩
  · exact ⟨_, Tryd.underlying22, rfl⟩
  · exact ⟨_, Tryd.underlying23, rfl⟩
  · exact ⟨_, Tryd.underlying24, rfl⟩
  · exact ⟨_, Tryd.underlying25, rfl⟩
  · exact ⟨_, Tryd.underlying26, rfl⟩
  · exact ⟨_, Tryd.underlying28, rfl⟩
  · exact ⟨_, Tryd.underlying30, rfl⟩
  · exact ⟨_, Tryd.underlying31, rfl⟩
  · exact ⟨_, Tryd.underlying32, rfl⟩
  · exact ⟨_, Tryd.underlying33, rfl⟩
  · exact ⟨_, Tryd.underlying34, rfl⟩
  · exact ⟨_, Tryd.underlying35, rfl⟩
  · exact ⟨_, Tryd.underlying36, rfl⟩
  · exact ⟨_, Tryd.underlying37, rfl⟩
  · exact ⟨_, Tryd.underlying38, rfl⟩
  · exact ⟨_, Tryd.underlying39, rfl⟩
  · exact ⟨_, Tryd.underlying40, rfl⟩
  · exact ⟨_, Tryd.underlying41, rfl⟩
  · exact ⟨_, Tryd.underlying42, rfl⟩
  · exact ⟨_, Tryd.underlying43, rfl⟩
  · exact ⟨_, Tryd.underlying44, rfl⟩
  · exact ⟨_, Tryd.underlying45, rfl⟩
  · exact ⟨_, Tryd.underlying46, rfl⟩
  · exact ⟨_, Tryd.underlying47, rfl⟩
  · exact ⟨_, Tryd.underlying48, rfl⟩
  · exact ⟨_, Tryd.underlying49, rfl⟩
  · exact ⟨_, Tryd.underlying50, rfl⟩
  · exact ⟨_, Tryd.underlying51, rfl⟩
  · exact ⟨_, Tryd.underlying52, rfl⟩
  · exact ⟨_, Tryd.underlying53, rfl⟩
  · exact ⟨_, Tryd.underlying54, rfl⟩
  · exact ⟨_, Tryd.underlying55, rfl⟩
  · exact ⟨_, Tryd.underlying56, rfl⟩
  · exact ⟨_, Tryd.underlying57, rfl⟩
  · exact ⟨_, Tryd.underlying58, rfl⟩
  · exact ⟨_, Tryd.underlying59, rfl⟩
  · exact ⟨_, Tryd.underlying60, rfl⟩
  · exact ⟨_, Tryd.underlying61, rfl⟩
  · exact ⟨_, Tryd.underlying62, rfl⟩
  · exact ⟨_, Tryd.underlying63, rfl⟩
  · exact ⟨_, Tryd.underlying64, rfl⟩
  · exact ⟨_, Tryd.underlying65, rfl⟩
  · exact ⟨_, Tryd.underlying67, rfl⟩
  · exact ⟨_, Tryd.underlying68, rfl⟩
  · exact ⟨_, Tryd.underlying69, rfl⟩
  · exact ⟨_, Tryd.underlying70, rfl⟩
  · exact ⟨_, Tryd.underlying71, rfl⟩
  · exact ⟨_, Tryd.underlying72, rfl⟩
  · exact ⟨_, Tryd.underlying73, rfl⟩
  · exact ⟨_, Tryd.underlying74, rfl⟩
  · exact ⟨_, Tryd.underlying75, rfl⟩
  · exact ⟨_, Tryd.underlying76, rfl⟩
  · exact ⟨_, Tryd.underlying77, rfl⟩
  · exact ⟨_, Tryd.underlying79, rfl⟩
  · exact ⟨_, Tryd.underlying80, rfl⟩
  · exact ⟨_, Tryd.underlying81, rfl⟩
  · exact ⟨_, Tryd.underlying82, rfl⟩
  · exact ⟨_, Tryd.underlying83, rfl⟩
  · exact ⟨_, Tryd.underlying84, rfl⟩
  · exact ⟨_, Tryd.underlying85, rfl⟩
  · exact ⟨_, Tryd.underlying86, rfl⟩
  · exact ⟨_, Tryd.underlying87, rfl⟩
  · exact ⟨_, Tryd.underlying88, rfl⟩
  · exact ⟨_, Tryd.underlying89, rfl⟩
  · exact ⟨_, Tryd.underlying90, rfl⟩
  · exact ⟨_, Tryd.underlying91, rfl⟩
  · exact ⟨_, Tryd.underlying92, rfl⟩
  · exact ⟨_, Tryd.underlying93, rfl⟩
  · exact ⟨_, Tryd.underlying94, rfl⟩
  · exact ⟨_, Tryd.underlying95, rfl⟩
  · exact ⟨_, Tryd.underlying97, rfl⟩
  · exact ⟨_, Tryd.underlying98, rfl⟩
  · exact ⟨_, Tryd.underlying104, rfl⟩
  · exact ⟨_, Tryd.underlying107, rfl⟩
  · exact ⟨_, Tryd.underlying108, rfl⟩
  · exact ⟨_, Tryd.underlying113, rfl⟩
  · exact (h rfl).elim
set_option maxRecDepth 100000 in
theorem env_sizes : ∀ t, envSize t ≠ 0 → ∃ i z, Tryd.prog.info? t = some i ∧ i.size = envSize t ∧ i.bytes ≤ 131072 ∧ i.zero = some z ∧ (∀ c, VR (envZero t) c z) ∧ (envZero t).cells.length = envSize t ∧ (envZero t).cells.all AV.one = true := by
  intro t h
  unfold envSize at h
  split at h
  · exact env_parts info2 (by decide) (fun c => vz_int) rfl rfl
  · exact env_parts info3 (by decide) (fun c => vz_int) rfl rfl
  · exact env_parts info4 (by decide) (fun c => vz_bool) rfl rfl
  · exact env_parts info5 (by decide) (fun c => vz_int) rfl rfl
  · exact env_parts info9 (by decide) (fun c => vz_str) rfl rfl
  · exact env_parts info12 (by decide) (fun c => vz_int) rfl rfl
  · exact env_parts info21 (by decide) (fun c => vz_int) rfl rfl
  · exact env_parts info22 (by decide) (fun c => (vr_nil c)) rfl rfl
  · exact env_parts info24 (by decide) (fun c => (vr_nil c)) rfl rfl
  · exact env_parts info25 (by decide) (fun c => (vz_agg (vz_cons vz_int (vz_cons (vr_nil c) vz_nil)))) rfl rfl
  · exact env_parts info26 (by decide) (fun c => (vz_agg (vz_cons vz_int (vz_cons (vr_nil c) vz_nil)))) rfl rfl
  · exact env_parts info39 (by decide) (fun c => vz_int) rfl rfl
  · exact env_parts info45 (by decide) (fun c => (vr_nil c)) rfl rfl
  · exact env_parts info55 (by decide) (fun c => (vr_nil c)) rfl rfl
  · exact env_parts info59 (by decide) (fun c => (vz_agg (vz_cons (vr_nil c) (vz_cons vz_int (vz_cons vz_int vz_nil))))) rfl rfl
  · exact env_parts info60 (by decide) (fun c => (vz_agg (vz_cons (vr_nil c) (vz_cons vz_int (vz_cons vz_int vz_nil))))) rfl rfl
  · exact env_parts info63 (by decide) (fun c => (vz_agg (vz_cons vz_int (vz_cons vz_int vz_nil)))) rfl rfl
  · exact env_parts info64 (by decide) (fun c => (vz_agg (vz_cons vz_int (vz_cons vz_int vz_nil)))) rfl rfl
  · exact env_parts info77 (by decide) (fun c => vz_int) rfl rfl
  · exact env_parts info84 (by decide) (fun c => vz_int) rfl rfl
  · exact env_parts info86 (by decide) (fun c => vz_int) rfl rfl
  · exact env_parts info87 (by decide) (fun c => vz_int) rfl rfl
  · exact env_parts info93 (by decide) (fun c => (vz_agg (vz_cons vz_int (vz_cons vz_int (vz_cons vz_int (vz_cons vz_int (vz_cons vz_int (vz_cons vz_int (vz_cons vz_int (vz_cons vz_int (vz_cons vz_int (vz_cons vz_int (vz_cons vz_int (vz_cons vz_int (vz_cons vz_int (vz_cons vz_int (vz_cons vz_int (vz_cons vz_int (vz_cons vz_int (vz_cons vz_int (vz_cons vz_int (vz_cons vz_int (vz_cons vz_int (vz_cons vz_int (vz_cons vz_int (vz_cons vz_int (vz_cons vz_int (vz_cons vz_int (vz_cons vz_int (vz_cons vz_int (vz_cons vz_int (vz_cons vz_int (vz_cons vz_int (vz_cons vz_int vz_nil)))))))))))))))))))))))))))))))))) rfl rfl
  · exact env_parts info94 (by decide) (fun c => (vz_agg (vz_cons vz_int (vz_cons vz_int (vz_cons vz_int (vz_cons vz_int (vz_cons vz_int (vz_cons vz_int (vz_cons vz_int (vz_cons vz_int (vz_cons vz_int (vz_cons vz_int (vz_cons vz_int (vz_cons vz_int (vz_cons vz_int (vz_cons vz_int (vz_cons vz_int (vz_cons vz_int (vz_cons vz_int (vz_cons vz_int (vz_cons vz_int (vz_cons vz_int (vz_cons vz_int (vz_cons vz_int (vz_cons vz_int (vz_cons vz_int (vz_cons vz_int (vz_cons vz_int (vz_cons vz_int (vz_cons vz_int (vz_cons vz_int (vz_cons vz_int (vz_cons vz_int (vz_cons vz_int (vz_cons vz_int (vz_cons vz_int (vz_cons vz_int (vz_cons vz_int (vz_cons vz_int (vz_cons vz_int (vz_cons vz_int (vz_cons vz_int (vz_cons vz_int (vz_cons vz_int (vz_cons vz_int (vz_cons vz_int (vz_cons vz_int (vz_cons vz_int (vz_cons vz_int (vz_cons vz_int (vz_cons vz_int (vz_cons vz_int (vz_cons vz_int (vz_cons vz_int (vz_cons vz_int (vz_cons vz_int (vz_cons vz_int (vz_cons vz_int (vz_cons vz_int (vz_cons vz_int (vz_cons vz_int (vz_cons vz_int (vz_cons vz_int (vz_cons vz_int (vz_cons vz_int (vz_cons vz_int vz_nil)))))))))))))))))))))))))))))))))))))))))))))))))))))))))))))))))) rfl rfl
  · exact (h rfl).elim
set_option maxRecDepth 100000 in
theorem env_fns0 : ∀ f F, envFn0 f = some F → Tryd.prog.funcs[f]? = some F ∧ F.name ≠ "runtime.NumGoroutine" := by
  intro f F h
  unfold envFn0 at h
  split at h
  · obtain rfl := Option.some.inj h; exact ⟨Tryd.func3, by simp [Tryd.f3]⟩
  · obtain rfl := Option.some.inj h; exact ⟨Tryd.func4, by simp [Tryd.f4]⟩
  · obtain rfl := Option.some.inj h; exact ⟨Tryd.func5, by simp [Tryd.f5]⟩
  · obtain rfl := Option.some.inj h; exact ⟨Tryd.func6, by simp [Tryd.f6]⟩
  · obtain rfl := Option.some.inj h; exact ⟨Tryd.func7, by simp [Tryd.f7]⟩
  · obtain rfl := Option.some.inj h; exact ⟨Tryd.func8, by simp [Tryd.f8]⟩
  · obtain rfl := Option.some.inj h; exact ⟨Tryd.func9, by simp [Tryd.f9]⟩
  · obtain rfl := Option.some.inj h; exact ⟨Tryd.func10, by simp [Tryd.f10]⟩
  · obtain rfl := Option.some.inj h; exact ⟨Tryd.func11, by simp [Tryd.f11]⟩
  · obtain rfl := Option.some.inj h; exact ⟨Tryd.func12, by simp [Tryd.f12]⟩
  · obtain rfl := Option.some.inj h; exact ⟨Tryd.func13, by simp [Tryd.f13]⟩
  · obtain rfl := Option.some.inj h; exact ⟨Tryd.func14, by simp [Tryd.f14]⟩
  · obtain rfl := Option.some.inj h; exact ⟨Tryd.func15, by simp [Tryd.f15]⟩
  · obtain rfl := Option.some.inj h; exact ⟨Tryd.func16, by simp [Tryd.f16]⟩
  · obtain rfl := Option.some.inj h; exact ⟨Tryd.func17, by simp [Tryd.f17]⟩
  · obtain rfl := Option.some.inj h; exact ⟨Tryd.func18, by simp [Tryd.f18]⟩
  · obtain rfl := Option.some.inj h; exact ⟨Tryd.func19, by simp [Tryd.f19]⟩
  · obtain rfl := Option.some.inj h; exact ⟨Tryd.func20, by simp [Tryd.f20]⟩
  · obtain rfl := Option.some.inj h; exact ⟨Tryd.func21, by simp [Tryd.f21]⟩
  · obtain rfl := Option.some.inj h; exact ⟨Tryd.func22, by simp [Tryd.f22]⟩
  · obtain rfl := Option.some.inj h; exact ⟨Tryd.func23, by simp [Tryd.f23]⟩
  · obtain rfl := Option.some.inj h; exact ⟨Tryd.func24, by simp [Tryd.f24]⟩
  · obtain rfl := Option.some.inj h; exact ⟨Tryd.func25, by simp [Tryd.f25]⟩
  · obtain rfl := Option.some.inj h; exact ⟨Tryd.func26, by simp [Tryd.f26]⟩
  · obtain rfl := Option.some.inj h; exact ⟨Tryd.func27, by simp [Tryd.f27]⟩
  · obtain rfl := Option.some.inj h; exact ⟨Tryd.func28, by simp [Tryd.f28]⟩
  · obtain rfl := Option.some.inj h; exact ⟨Tryd.func29, by simp [Tryd.f29]⟩
  · obtain rfl := Option.some.inj h; exact ⟨Tryd.func30, by simp [Tryd.f30]⟩
  · obtain rfl := Option.some.inj h; exact ⟨Tryd.func31, by simp [Tryd.f31]⟩
  · obtain rfl := Option.some.inj h; exact ⟨Tryd.func32, by simp [Tryd.f32]⟩
  · obtain rfl := Option.some.inj h; exact ⟨Tryd.func33, by simp [Tryd.f33]⟩
  · obtain rfl := Option.some.inj h; exact ⟨Tryd.func34, by simp [Tryd.f34]⟩
  · obtain rfl := Option.some.inj h; exact ⟨Tryd.func35, by simp [Tryd.f35]⟩
  · obtain rfl := Option.some.inj h; exact ⟨Tryd.func36, by simp [Tryd.f36]⟩
  · obtain rfl := Option.some.inj h; exact ⟨Tryd.func37, by simp [Tryd.f37]⟩
  · obtain rfl := Option.some.inj h; exact ⟨Tryd.func38, by simp [Tryd.f38]⟩
  · obtain rfl := Option.some.inj h; exact ⟨Tryd.func39, by simp [Tryd.f39]⟩
  · obtain rfl := Option.some.inj h; exact ⟨Tryd.func40, by simp [Tryd.f40]⟩
  · obtain rfl := Option.some.inj h; exact ⟨Tryd.func41, by simp [Tryd.f41]⟩
  · obtain rfl := Option.some.inj h; exact ⟨Tryd.func42, by simp [Tryd.f42]⟩
  · obtain rfl := Option.some.inj h; exact ⟨Tryd.func43, by simp [Tryd.f43]⟩
  · obtain rfl := Option.some.inj h; exact ⟨Tryd.func44, by simp [Tryd.f44]⟩
  · obtain rfl := Option.some.inj h; exact ⟨Tryd.func45, by simp [Tryd.f45]⟩
  · obtain rfl := Option.some.inj h; exact ⟨Tryd.func46, by simp [Tryd.f46]⟩
  · obtain rfl := Option.some.inj h; exact ⟨Tryd.func47, by simp [Tryd.f47]⟩
  · obtain rfl := Option.some.inj h; exact ⟨Tryd.func48, by simp [Tryd.f48]⟩
  · obtain rfl := Option.some.inj h; exact ⟨Tryd.func49, by simp [Tryd.f49]⟩
  · obtain rfl := Option.some.inj h; exact ⟨Tryd.func50, by simp [Tryd.f50]⟩
  · obtain rfl := Option.some.inj h; exact ⟨Tryd.func51, by simp [Tryd.f51]⟩
  · obtain rfl := Option.some.inj h; exact ⟨Tryd.func52, by simp [Tryd.f52]⟩
  · obtain rfl := Option.some.inj h; exact ⟨Tryd.func53, by simp [Tryd.f53]⟩
  · obtain rfl := Option.some.inj h; exact ⟨Tryd.func54, by simp [Tryd.f54]⟩
  · obtain rfl := Option.some.inj h; exact ⟨Tryd.func55, by simp [Tryd.f55]⟩
  · obtain rfl := Option.some.inj h; exact ⟨Tryd.func56, by simp [Tryd.f56]⟩
  · obtain rfl := Option.some.inj h; exact ⟨Tryd.func57, by simp [Tryd.f57]⟩
  · obtain rfl := Option.some.inj h; exact ⟨Tryd.func58, by simp [Tryd.f58]⟩
  · obtain rfl := Option.some.inj h; exact ⟨Tryd.func59, by simp [Tryd.f59]⟩
  · obtain rfl := Option.some.inj h; exact ⟨Tryd.func60, by simp [Tryd.f60]⟩
  · obtain rfl := Option.some.inj h; exact ⟨Tryd.func61, by simp [Tryd.f61]⟩
  · obtain rfl := Option.some.inj h; exact ⟨Tryd.func62, by simp [Tryd.f62]⟩
  · obtain rfl := Option.some.inj h; exact ⟨Tryd.func63, by simp [Tryd.f63]⟩
  · obtain rfl := Option.some.inj h; exact ⟨Tryd.func64, by simp [Tryd.f64]⟩
  · obtain rfl := Option.some.inj h; exact ⟨Tryd.func65, by simp [Tryd.f65]⟩
  · obtain rfl := Option.some.inj h; exact ⟨Tryd.func66, by simp [Tryd.f66]⟩
  · obtain rfl := Option.some.inj h; exact ⟨Tryd.func67, by simp [Tryd.f67]⟩
  · obtain rfl := Option.some.inj h; exact ⟨Tryd.func68, by simp [Tryd.f68]⟩
  · obtain rfl := Option.some.inj h; exact ⟨Tryd.func69, by simp [Tryd.f69]⟩
  · obtain rfl := Option.some.inj h; exact ⟨Tryd.func70, by simp [Tryd.f70]⟩
  · obtain rfl := Option.some.inj h; exact ⟨Tryd.func71, by simp [Tryd.f71]⟩
  · obtain rfl := Option.some.inj h; exact ⟨Tryd.func72, by simp [Tryd.f72]⟩
  · obtain rfl := Option.some.inj h; exact ⟨Tryd.func73, by simp [Tryd.f73]⟩
  · obtain rfl := Option.some.inj h; exact ⟨Tryd.func74, by simp [Tryd.f74]⟩
  · obtain rfl := Option.some.inj h; exact ⟨Tryd.func75, by simp [Tryd.f75]⟩
  · obtain rfl := Option.some.inj h; exact ⟨Tryd.func76, by simp [Tryd.f76]⟩
  · obtain rfl := Option.some.inj h; exact ⟨Tryd.func77, by simp [Tryd.f77]⟩
  · obtain rfl := Option.some.inj h; exact ⟨Tryd.func78, by simp [Tryd.f78]⟩
  · obtain rfl := Option.some.inj h; exact ⟨Tryd.func79, by simp [Tryd.f79]⟩
  · obtain rfl := Option.some.inj h; exact ⟨Tryd.func80, by simp [Tryd.f80]⟩
  · obtain rfl := Option.some.inj h; exact ⟨Tryd.func81, by simp [Tryd.f81]⟩
  · obtain rfl := Option.some.inj h; exact ⟨Tryd.func82, by simp [Tryd.f82]⟩
  · obtain rfl := Option.some.inj h; exact ⟨Tryd.func83, by simp [Tryd.f83]⟩
  · obtain rfl := Option.some.inj h; exact ⟨Tryd.func84, by simp [Tryd.f84]⟩
  · obtain rfl := Option.some.inj h; exact ⟨Tryd.func85, by simp [Tryd.f85]⟩
  · obtain rfl := Option.some.inj h; exact ⟨Tryd.func86, by simp [Tryd.f86]⟩
  · obtain rfl := Option.some.inj h; exact ⟨Tryd.func87, by simp [Tryd.f87]⟩
  · obtain rfl := Option.some.inj h; exact ⟨Tryd.func88, by simp [Tryd.f88]⟩
  · obtain rfl := Option.some.inj h; exact ⟨Tryd.func89, by simp [Tryd.f89]⟩
  · obtain rfl := Option.some.inj h; exact ⟨Tryd.func90, by simp [Tryd.f90]⟩
  · obtain rfl := Option.some.inj h; exact ⟨Tryd.func91, by simp [Tryd.f91]⟩
  · obtain rfl := Option.some.inj h; exact ⟨Tryd.func92, by simp [Tryd.f92]⟩
  · cases h
set_option maxRecDepth 100000 in
theorem env_fns1 : ∀ f F, envFn1 f = some F → Tryd.prog.funcs[f]? = some F ∧ F.name ≠ "runtime.NumGoroutine" := by
  intro f F h
  unfold envFn1 at h
  split at h
  · obtain rfl := Option.some.inj h; exact ⟨Tryd.func94, by simp [Tryd.f94]⟩
  · obtain rfl := Option.some.inj h; exact ⟨Tryd.func95, by simp [Tryd.f95]⟩
  · obtain rfl := Option.some.inj h; exact ⟨Tryd.func96, by simp [Tryd.f96]⟩
  · obtain rfl := Option.some.inj h; exact ⟨Tryd.func112, by simp [Tryd.f112]⟩
  · obtain rfl := Option.some.inj h; exact ⟨Tryd.func114, by simp [Tryd.f114]⟩
  · obtain rfl := Option.some.inj h; exact ⟨Tryd.func115, by simp [Tryd.f115]⟩
  · obtain rfl := Option.some.inj h; exact ⟨Tryd.func116, by simp [Tryd.f116]⟩
  · obtain rfl := Option.some.inj h; exact ⟨Tryd.func117, by simp [Tryd.f117]⟩
  · cases h
theorem env_fns : ∀ f F, envFn f = some F → Tryd.prog.funcs[f]? = some F ∧ F.name ≠ "runtime.NumGoroutine" := by
  intro f F h
  unfold envFn at h
  split at h
  · exact env_fns0 f F h
  exact env_fns1 f F h
theorem env_names {t : Nat} (h9 : (Tryd.prog.fieldsOf t).toList.all (fun f => decide (f.name ≠ "_")) = true) : ∀ f ∈ (Tryd.prog.fieldsOf t).toList, f.name ≠ "_" := fun f hf => of_decide_eq_true (List.all_eq_true.1 h9 f hf)
theorem env_cmps : ∀ t, envCmp t = true → Tryd.prog.stoodInHeld t = false ∧ Tryd.prog.eqGuardType Tryd.prog.depth t = false ∧ ∀ f ∈ (Tryd.prog.fieldsOf t).toList, f.name ≠ "_" := by
  intro t h
  unfold envCmp at h
  split at h
  · exact ⟨by kernel_rfl, by kernel_rfl, env_names (by kernel_rfl)⟩
  · cases h
theorem env_ok : EnvOk env Tryd.prog := ⟨env_tys, env_sizes, env_cmps⟩
theorem prog_ok : ProgOk env Tryd.prog (laidT) := ⟨env_ok, env_fns, fun w w' h hb => laidT.keep h h.size hb, fun f F h => by
  unfold env envExt at h
  dsimp only at h
  split at h
  · obtain rfl := Option.some.inj h; exact ext_val rfl sortI_ok
  · obtain rfl := Option.some.inj h; exact ⟨grow_ok.1, fun args res hr w B M rargs _ hv => (grow_ok.2 args res hr w B M rargs hv).mono fun e w' ⟨rv, h1, h2, h3⟩ => ⟨rv, h1, h2, fun h9 => by simp [envOwn] at h9, fun _ => h3⟩⟩
  · cases h⟩

end Go.Proofs.YtliecnadoklgoaaDoor
