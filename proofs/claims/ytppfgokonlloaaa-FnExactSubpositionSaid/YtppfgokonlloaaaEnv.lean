/- What the evaluator is told of this seat's program, and that it is so. Conditions: none. Written by wip/tools/mkenv.py. -/
import Derived.Test.YtppfgokonlloaaaProg
import Derived.Test.YtppfgokonlloaaaEvFrame
import Derived.Test.YtppfgokonlloaaaEvClone
import Derived.Test.YtppfgokonlloaaaClone
import Derived.Test.YtppfgokonlloaaaGrow
import Derived.KernelRfl
namespace Go.Proofs.Ytppfgokonlloaaa
open Ev Go.RowKit
set_option linter.unusedVariables false
set_option linter.unusedSimpArgs false
set_option linter.unusedSectionVars false
set_option maxHeartbeats 4000000
def envTy : Nat → TD
  | 1 => .fn
  | 2 => .int .i64
  | 3 => .int .i64
  | 4 => .bool
  | 5 => .int .u8
  | 9 => .str
  | 12 => .int .u64
  | 21 => .int .i32
  | 22 => .sl 3
  | 23 => .st [(0, 3), (1, 22)]
  | 24 => .st [(0, 3), (1, 22)]
  | 25 => .fn
  | 26 => .st [(0, 3), (1, 22)]
  | 28 => .fn
  | 29 => .fn
  | 30 => .fn
  | 31 => .fn
  | 32 => .fn
  | 33 => .sl 22
  | 34 => .st [(0, 22), (1, 33)]
  | 35 => .st [(0, 22), (1, 33)]
  | 36 => .fn
  | 37 => .fn
  | 38 => .st [(0, 22), (1, 33)]
  | 39 => .fn
  | 40 => .fn
  | 41 => .fn
  | 42 => .fn
  | 43 => .fn
  | 44 => .fn
  | 45 => .fn
  | 46 => .fn
  | 47 => .fn
  | 48 => .fn
  | 49 => .fn
  | 50 => .fn
  | 51 => .fn
  | 52 => .fn
  | 53 => .fn
  | 54 => .fn
  | 55 => .fn
  | 56 => .fn
  | 57 => .fn
  | 58 => .sl 70
  | 59 => .fn
  | 60 => .fn
  | 61 => .fn
  | 62 => .fn
  | 63 => .fn
  | 64 => .fn
  | 65 => .fn
  | 66 => .int .u64
  | 67 => .fn
  | 68 => .fn
  | 69 => .st [(0, 3), (1, 64)]
  | 70 => .st [(0, 3), (1, 64)]
  | 71 => .fn
  | 72 => .fn
  | 78 => .fn
  | 79 => .int .u32
  | 82 => .fn
  | 83 => .ptr 5
  | 88 => .fn
  | _ => .other
def envSize : Nat → Nat
  | 1 => 1
  | 2 => 1
  | 3 => 1
  | 4 => 1
  | 5 => 1
  | 9 => 1
  | 12 => 1
  | 21 => 1
  | 22 => 1
  | 23 => 2
  | 24 => 2
  | 25 => 1
  | 26 => 2
  | 28 => 1
  | 29 => 1
  | 30 => 1
  | 31 => 1
  | 32 => 1
  | 33 => 1
  | 34 => 2
  | 35 => 2
  | 36 => 1
  | 37 => 1
  | 38 => 2
  | 39 => 1
  | 40 => 1
  | 41 => 1
  | 42 => 1
  | 43 => 1
  | 44 => 1
  | 45 => 1
  | 46 => 1
  | 47 => 1
  | 48 => 1
  | 49 => 1
  | 50 => 1
  | 51 => 1
  | 52 => 1
  | 53 => 1
  | 54 => 1
  | 55 => 1
  | 56 => 1
  | 57 => 1
  | 58 => 1
  | 59 => 1
  | 60 => 1
  | 61 => 1
  | 62 => 1
  | 63 => 1
  | 64 => 1
  | 65 => 1
  | 66 => 1
  | 67 => 1
  | 68 => 1
  | 69 => 2
  | 70 => 2
  | 71 => 1
  | 72 => 1
  | 78 => 1
  | 79 => 1
  | 82 => 1
  | 88 => 1
  | _ => 0
def envZero : Nat → AV
  | 1 => .nilf
  | 2 => (.int .i64 0)
  | 3 => (.int .i64 0)
  | 4 => (.bool false)
  | 5 => (.int .u8 0)
  | 9 => (.str ⟨#[]⟩)
  | 12 => (.int .u64 0)
  | 21 => (.int .i32 0)
  | 22 => (.sl 0 .lit [])
  | 23 => (.agg [(.int .i64 0), (.sl 0 .lit [])])
  | 24 => (.agg [(.int .i64 0), (.sl 0 .lit [])])
  | 25 => .nilf
  | 26 => (.agg [(.int .i64 0), (.sl 0 .lit [])])
  | 28 => .nilf
  | 29 => .nilf
  | 30 => .nilf
  | 31 => .nilf
  | 32 => .nilf
  | 33 => (.sl 0 .lit [])
  | 34 => (.agg [(.sl 0 .lit []), (.sl 0 .lit [])])
  | 35 => (.agg [(.sl 0 .lit []), (.sl 0 .lit [])])
  | 36 => .nilf
  | 37 => .nilf
  | 38 => (.agg [(.sl 0 .lit []), (.sl 0 .lit [])])
  | 39 => .nilf
  | 40 => .nilf
  | 41 => .nilf
  | 42 => .nilf
  | 43 => .nilf
  | 44 => .nilf
  | 45 => .nilf
  | 46 => .nilf
  | 47 => .nilf
  | 48 => .nilf
  | 49 => .nilf
  | 50 => .nilf
  | 51 => .nilf
  | 52 => .nilf
  | 53 => .nilf
  | 54 => .nilf
  | 55 => .nilf
  | 56 => .nilf
  | 57 => .nilf
  | 58 => (.sl 0 .lit [])
  | 59 => .nilf
  | 60 => .nilf
  | 61 => .nilf
  | 62 => .nilf
  | 63 => .nilf
  | 64 => .nilf
  | 65 => .nilf
  | 66 => (.int .u64 0)
  | 67 => .nilf
  | 68 => .nilf
  | 69 => (.agg [(.int .i64 0), .nilf])
  | 70 => (.agg [(.int .i64 0), .nilf])
  | 71 => .nilf
  | 72 => .nilf
  | 78 => .nilf
  | 79 => (.int .u32 0)
  | 82 => .nilf
  | 88 => .nilf
  | _ => .un
noncomputable def envFn0 : Nat → Option Func
  | 3 => some Try.f3
  | 4 => some Try.f4
  | 5 => some Try.f5
  | 6 => some Try.f6
  | 7 => some Try.f7
  | 8 => some Try.f8
  | 9 => some Try.f9
  | 10 => some Try.f10
  | 11 => some Try.f11
  | 12 => some Try.f12
  | 13 => some Try.f13
  | 14 => some Try.f14
  | 15 => some Try.f15
  | 16 => some Try.f16
  | 17 => some Try.f17
  | 18 => some Try.f18
  | 19 => some Try.f19
  | 20 => some Try.f20
  | 21 => some Try.f21
  | 22 => some Try.f22
  | 23 => some Try.f23
  | 24 => some Try.f24
  | 25 => some Try.f25
  | 26 => some Try.f26
  | 27 => some Try.f27
  | 28 => some Try.f28
  | 29 => some Try.f29
  | 30 => some Try.f30
  | 31 => some Try.f31
  | 32 => some Try.f32
  | 33 => some Try.f33
  | 34 => some Try.f34
  | 35 => some Try.f35
  | 36 => some Try.f36
  | 37 => some Try.f37
  | 38 => some Try.f38
  | 39 => some Try.f39
  | 40 => some Try.f40
  | 41 => some Try.f41
  | 42 => some Try.f42
  | 43 => some Try.f43
  | 44 => some Try.f44
  | 45 => some Try.f45
  | 46 => some Try.f46
  | 47 => some Try.f47
  | 48 => some Try.f48
  | 49 => some Try.f49
  | 50 => some Try.f50
  | 51 => some Try.f51
  | 52 => some Try.f52
  | 53 => some Try.f53
  | 54 => some Try.f54
  | 55 => some Try.f55
  | 56 => some Try.f56
  | 57 => some Try.f57
  | 58 => some Try.f58
  | 59 => some Try.f59
  | 60 => some Try.f60
  | 61 => some Try.f61
  | 62 => some Try.f62
  | 63 => some Try.f63
  | 64 => some Try.f64
  | 65 => some Try.f65
  | 66 => some Try.f66
  | 67 => some Try.f67
  | 68 => some Try.f68
  | 69 => some Try.f69
  | 85 => some Try.f85
  | _ => none
noncomputable def envFn (k : Nat) : Option Func :=  envFn0 k
def envOpen : Nat → Bool
  | 34 => true
  | 13 => true
  | 31 => true
  | 39 => true
  | 17 => true
  | 44 => true
  | 20 => true
  | 41 => true
  | _ => false
def envMat : Nat → Nat → Nat
  | 51, 8 => 2
  | 48, 18 => 8
  | 50, 18 => 8
  | 52, 18 => 8
  | 10, 9 => 3
  | 22, 5 => 3
  | 24, 5 => 3
  | 26, 5 => 3
  | 18, 12 => 1
  | 11, 29 => 2
  | 39, 20 => 2007
  | 17, 6 => 3
  | 3, 36 => 3
  | 3, 38 => 3
  | 3, 42 => 3
  | 4, 26 => 3
  | 4, 29 => 3
  | 5, 26 => 3
  | 5, 29 => 3
  | 6, 26 => 3
  | 6, 29 => 3
  | 7, 26 => 3
  | 7, 29 => 3
  | _, _ => 0
def envCmp : Nat → Bool

  | _ => false
def envDeep : Nat → Bool
  | 19 => true
  | 18 => true
  | 22 => true
  | 24 => true
  | 26 => true
  | 16 => true
  | 21 => true
  | 23 => true
  | 25 => true
  | _ => false
def envFar : Nat → Nat
  | 17 => deepFar
  | _ => 0
def envOwn : Nat → Bool
  | 59 => true
  | _ => false
noncomputable def envExt : Nat → Option (List AV → Option AV)
  | 59 => some growF
  | _ => none
noncomputable def env : Env := { fn := envFn, ty := envTy, size := envSize, zero := envZero, open_ := envOpen, mat := envMat, ext := envExt, cmp := envCmp, own := envOwn, deep := envDeep, far := envFar }
@[simp] theorem env_deep3 : env.deep 3 = false := id rfl
@[simp] theorem env_deep4 : env.deep 4 = false := id rfl
@[simp] theorem env_deep5 : env.deep 5 = false := id rfl
@[simp] theorem env_deep6 : env.deep 6 = false := id rfl
@[simp] theorem env_deep7 : env.deep 7 = false := id rfl
@[simp] theorem env_deep8 : env.deep 8 = false := id rfl
@[simp] theorem env_deep9 : env.deep 9 = false := id rfl
@[simp] theorem env_deep10 : env.deep 10 = false := id rfl
@[simp] theorem env_deep11 : env.deep 11 = false := id rfl
@[simp] theorem env_deep12 : env.deep 12 = false := id rfl
@[simp] theorem env_deep13 : env.deep 13 = false := id rfl
@[simp] theorem env_deep14 : env.deep 14 = false := id rfl
@[simp] theorem env_deep15 : env.deep 15 = false := id rfl
@[simp] theorem env_deep16 : env.deep 16 = true := id rfl
@[simp] theorem env_deep17 : env.deep 17 = false := id rfl
@[simp] theorem env_deep18 : env.deep 18 = true := id rfl
@[simp] theorem env_deep19 : env.deep 19 = true := id rfl
@[simp] theorem env_deep20 : env.deep 20 = false := id rfl
@[simp] theorem env_deep21 : env.deep 21 = true := id rfl
@[simp] theorem env_deep22 : env.deep 22 = true := id rfl
@[simp] theorem env_deep23 : env.deep 23 = true := id rfl
@[simp] theorem env_deep24 : env.deep 24 = true := id rfl
@[simp] theorem env_deep25 : env.deep 25 = true := id rfl
@[simp] theorem env_deep26 : env.deep 26 = true := id rfl
@[simp] theorem env_deep27 : env.deep 27 = false := id rfl
@[simp] theorem env_deep28 : env.deep 28 = false := id rfl
@[simp] theorem env_deep29 : env.deep 29 = false := id rfl
@[simp] theorem env_deep30 : env.deep 30 = false := id rfl
@[simp] theorem env_deep31 : env.deep 31 = false := id rfl
@[simp] theorem env_deep32 : env.deep 32 = false := id rfl
@[simp] theorem env_deep33 : env.deep 33 = false := id rfl
@[simp] theorem env_deep34 : env.deep 34 = false := id rfl
@[simp] theorem env_deep35 : env.deep 35 = false := id rfl
@[simp] theorem env_deep36 : env.deep 36 = false := id rfl
@[simp] theorem env_deep37 : env.deep 37 = false := id rfl
@[simp] theorem env_deep38 : env.deep 38 = false := id rfl
@[simp] theorem env_deep39 : env.deep 39 = false := id rfl
@[simp] theorem env_deep40 : env.deep 40 = false := id rfl
@[simp] theorem env_deep41 : env.deep 41 = false := id rfl
@[simp] theorem env_deep42 : env.deep 42 = false := id rfl
@[simp] theorem env_deep43 : env.deep 43 = false := id rfl
@[simp] theorem env_deep44 : env.deep 44 = false := id rfl
@[simp] theorem env_deep45 : env.deep 45 = false := id rfl
@[simp] theorem env_deep46 : env.deep 46 = false := id rfl
@[simp] theorem env_deep47 : env.deep 47 = false := id rfl
@[simp] theorem env_deep48 : env.deep 48 = false := id rfl
@[simp] theorem env_deep49 : env.deep 49 = false := id rfl
@[simp] theorem env_deep50 : env.deep 50 = false := id rfl
@[simp] theorem env_deep51 : env.deep 51 = false := id rfl
@[simp] theorem env_deep52 : env.deep 52 = false := id rfl
@[simp] theorem env_deep53 : env.deep 53 = false := id rfl
@[simp] theorem env_deep54 : env.deep 54 = false := id rfl
@[simp] theorem env_deep55 : env.deep 55 = false := id rfl
@[simp] theorem env_deep56 : env.deep 56 = false := id rfl
@[simp] theorem env_deep57 : env.deep 57 = false := id rfl
@[simp] theorem env_deep58 : env.deep 58 = false := id rfl
@[simp] theorem env_deep59 : env.deep 59 = false := id rfl
@[simp] theorem env_deep60 : env.deep 60 = false := id rfl
@[simp] theorem env_deep61 : env.deep 61 = false := id rfl
@[simp] theorem env_deep62 : env.deep 62 = false := id rfl
@[simp] theorem env_deep63 : env.deep 63 = false := id rfl
@[simp] theorem env_deep64 : env.deep 64 = false := id rfl
@[simp] theorem env_deep65 : env.deep 65 = false := id rfl
@[simp] theorem env_deep66 : env.deep 66 = false := id rfl
@[simp] theorem env_deep67 : env.deep 67 = false := id rfl
@[simp] theorem env_deep68 : env.deep 68 = false := id rfl
@[simp] theorem env_deep69 : env.deep 69 = false := id rfl
@[simp] theorem env_deep85 : env.deep 85 = false := id rfl
@[simp] theorem env_far (f : Nat) : env.far f = envFar f := id rfl
attribute [simp] envFar
@[simp] theorem env_own (f : Nat) : env.own f = envOwn f := id rfl
attribute [simp] envOwn

@[simp] theorem env_mat (f d : Nat) : env.mat f d = envMat f d := id rfl
attribute [simp] envMat
@[simp] theorem env_ty1 : env.ty 1 = .fn := id rfl
@[simp] theorem env_size1 : env.size 1 = 1 := id rfl
@[simp] theorem env_zero1 : env.zero 1 = .nilf := id rfl
@[simp] theorem env_ty2 : env.ty 2 = .int .i64 := id rfl
@[simp] theorem env_size2 : env.size 2 = 1 := id rfl
@[simp] theorem env_zero2 : env.zero 2 = (.int .i64 0) := id rfl
@[simp] theorem env_ty3 : env.ty 3 = .int .i64 := id rfl
@[simp] theorem env_size3 : env.size 3 = 1 := id rfl
@[simp] theorem env_zero3 : env.zero 3 = (.int .i64 0) := id rfl
@[simp] theorem env_ty4 : env.ty 4 = .bool := id rfl
@[simp] theorem env_size4 : env.size 4 = 1 := id rfl
@[simp] theorem env_zero4 : env.zero 4 = (.bool false) := id rfl
@[simp] theorem env_ty5 : env.ty 5 = .int .u8 := id rfl
@[simp] theorem env_size5 : env.size 5 = 1 := id rfl
@[simp] theorem env_zero5 : env.zero 5 = (.int .u8 0) := id rfl
@[simp] theorem env_ty9 : env.ty 9 = .str := id rfl
@[simp] theorem env_size9 : env.size 9 = 1 := id rfl
@[simp] theorem env_zero9 : env.zero 9 = (.str ⟨#[]⟩) := id rfl
@[simp] theorem env_ty12 : env.ty 12 = .int .u64 := id rfl
@[simp] theorem env_size12 : env.size 12 = 1 := id rfl
@[simp] theorem env_zero12 : env.zero 12 = (.int .u64 0) := id rfl
@[simp] theorem env_ty21 : env.ty 21 = .int .i32 := id rfl
@[simp] theorem env_size21 : env.size 21 = 1 := id rfl
@[simp] theorem env_zero21 : env.zero 21 = (.int .i32 0) := id rfl
@[simp] theorem env_ty22 : env.ty 22 = .sl 3 := id rfl
@[simp] theorem env_size22 : env.size 22 = 1 := id rfl
@[simp] theorem env_zero22 : env.zero 22 = (.sl 0 .lit []) := id rfl
@[simp] theorem env_ty23 : env.ty 23 = .st [(0, 3), (1, 22)] := id rfl
@[simp] theorem env_size23 : env.size 23 = 2 := id rfl
@[simp] theorem env_zero23 : env.zero 23 = (.agg [(.int .i64 0), (.sl 0 .lit [])]) := id rfl
@[simp] theorem env_ty24 : env.ty 24 = .st [(0, 3), (1, 22)] := id rfl
@[simp] theorem env_size24 : env.size 24 = 2 := id rfl
@[simp] theorem env_zero24 : env.zero 24 = (.agg [(.int .i64 0), (.sl 0 .lit [])]) := id rfl
@[simp] theorem env_ty25 : env.ty 25 = .fn := id rfl
@[simp] theorem env_size25 : env.size 25 = 1 := id rfl
@[simp] theorem env_zero25 : env.zero 25 = .nilf := id rfl
@[simp] theorem env_ty26 : env.ty 26 = .st [(0, 3), (1, 22)] := id rfl
@[simp] theorem env_size26 : env.size 26 = 2 := id rfl
@[simp] theorem env_zero26 : env.zero 26 = (.agg [(.int .i64 0), (.sl 0 .lit [])]) := id rfl
@[simp] theorem env_ty28 : env.ty 28 = .fn := id rfl
@[simp] theorem env_size28 : env.size 28 = 1 := id rfl
@[simp] theorem env_zero28 : env.zero 28 = .nilf := id rfl
@[simp] theorem env_ty29 : env.ty 29 = .fn := id rfl
@[simp] theorem env_size29 : env.size 29 = 1 := id rfl
@[simp] theorem env_zero29 : env.zero 29 = .nilf := id rfl
@[simp] theorem env_ty30 : env.ty 30 = .fn := id rfl
@[simp] theorem env_size30 : env.size 30 = 1 := id rfl
@[simp] theorem env_zero30 : env.zero 30 = .nilf := id rfl
@[simp] theorem env_ty31 : env.ty 31 = .fn := id rfl
@[simp] theorem env_size31 : env.size 31 = 1 := id rfl
@[simp] theorem env_zero31 : env.zero 31 = .nilf := id rfl
@[simp] theorem env_ty32 : env.ty 32 = .fn := id rfl
@[simp] theorem env_size32 : env.size 32 = 1 := id rfl
@[simp] theorem env_zero32 : env.zero 32 = .nilf := id rfl
@[simp] theorem env_ty33 : env.ty 33 = .sl 22 := id rfl
@[simp] theorem env_size33 : env.size 33 = 1 := id rfl
@[simp] theorem env_zero33 : env.zero 33 = (.sl 0 .lit []) := id rfl
@[simp] theorem env_ty34 : env.ty 34 = .st [(0, 22), (1, 33)] := id rfl
@[simp] theorem env_size34 : env.size 34 = 2 := id rfl
@[simp] theorem env_zero34 : env.zero 34 = (.agg [(.sl 0 .lit []), (.sl 0 .lit [])]) := id rfl
@[simp] theorem env_ty35 : env.ty 35 = .st [(0, 22), (1, 33)] := id rfl
@[simp] theorem env_size35 : env.size 35 = 2 := id rfl
@[simp] theorem env_zero35 : env.zero 35 = (.agg [(.sl 0 .lit []), (.sl 0 .lit [])]) := id rfl
@[simp] theorem env_ty36 : env.ty 36 = .fn := id rfl
@[simp] theorem env_size36 : env.size 36 = 1 := id rfl
@[simp] theorem env_zero36 : env.zero 36 = .nilf := id rfl
@[simp] theorem env_ty37 : env.ty 37 = .fn := id rfl
@[simp] theorem env_size37 : env.size 37 = 1 := id rfl
@[simp] theorem env_zero37 : env.zero 37 = .nilf := id rfl
@[simp] theorem env_ty38 : env.ty 38 = .st [(0, 22), (1, 33)] := id rfl
@[simp] theorem env_size38 : env.size 38 = 2 := id rfl
@[simp] theorem env_zero38 : env.zero 38 = (.agg [(.sl 0 .lit []), (.sl 0 .lit [])]) := id rfl
@[simp] theorem env_ty39 : env.ty 39 = .fn := id rfl
@[simp] theorem env_size39 : env.size 39 = 1 := id rfl
@[simp] theorem env_zero39 : env.zero 39 = .nilf := id rfl
@[simp] theorem env_ty40 : env.ty 40 = .fn := id rfl
@[simp] theorem env_size40 : env.size 40 = 1 := id rfl
@[simp] theorem env_zero40 : env.zero 40 = .nilf := id rfl
@[simp] theorem env_ty41 : env.ty 41 = .fn := id rfl
@[simp] theorem env_size41 : env.size 41 = 1 := id rfl
@[simp] theorem env_zero41 : env.zero 41 = .nilf := id rfl
@[simp] theorem env_ty42 : env.ty 42 = .fn := id rfl
@[simp] theorem env_size42 : env.size 42 = 1 := id rfl
@[simp] theorem env_zero42 : env.zero 42 = .nilf := id rfl
@[simp] theorem env_ty43 : env.ty 43 = .fn := id rfl
@[simp] theorem env_size43 : env.size 43 = 1 := id rfl
@[simp] theorem env_zero43 : env.zero 43 = .nilf := id rfl
@[simp] theorem env_ty44 : env.ty 44 = .fn := id rfl
@[simp] theorem env_size44 : env.size 44 = 1 := id rfl
@[simp] theorem env_zero44 : env.zero 44 = .nilf := id rfl
@[simp] theorem env_ty45 : env.ty 45 = .fn := id rfl
@[simp] theorem env_size45 : env.size 45 = 1 := id rfl
@[simp] theorem env_zero45 : env.zero 45 = .nilf := id rfl
@[simp] theorem env_ty46 : env.ty 46 = .fn := id rfl
@[simp] theorem env_size46 : env.size 46 = 1 := id rfl
@[simp] theorem env_zero46 : env.zero 46 = .nilf := id rfl
@[simp] theorem env_ty47 : env.ty 47 = .fn := id rfl
@[simp] theorem env_size47 : env.size 47 = 1 := id rfl
@[simp] theorem env_zero47 : env.zero 47 = .nilf := id rfl
@[simp] theorem env_ty48 : env.ty 48 = .fn := id rfl
@[simp] theorem env_size48 : env.size 48 = 1 := id rfl
@[simp] theorem env_zero48 : env.zero 48 = .nilf := id rfl
@[simp] theorem env_ty49 : env.ty 49 = .fn := id rfl
@[simp] theorem env_size49 : env.size 49 = 1 := id rfl
@[simp] theorem env_zero49 : env.zero 49 = .nilf := id rfl
@[simp] theorem env_ty50 : env.ty 50 = .fn := id rfl
@[simp] theorem env_size50 : env.size 50 = 1 := id rfl
@[simp] theorem env_zero50 : env.zero 50 = .nilf := id rfl
@[simp] theorem env_ty51 : env.ty 51 = .fn := id rfl
@[simp] theorem env_size51 : env.size 51 = 1 := id rfl
@[simp] theorem env_zero51 : env.zero 51 = .nilf := id rfl
@[simp] theorem env_ty52 : env.ty 52 = .fn := id rfl
@[simp] theorem env_size52 : env.size 52 = 1 := id rfl
@[simp] theorem env_zero52 : env.zero 52 = .nilf := id rfl
@[simp] theorem env_ty53 : env.ty 53 = .fn := id rfl
@[simp] theorem env_size53 : env.size 53 = 1 := id rfl
@[simp] theorem env_zero53 : env.zero 53 = .nilf := id rfl
@[simp] theorem env_ty54 : env.ty 54 = .fn := id rfl
@[simp] theorem env_size54 : env.size 54 = 1 := id rfl
@[simp] theorem env_zero54 : env.zero 54 = .nilf := id rfl
@[simp] theorem env_ty55 : env.ty 55 = .fn := id rfl
@[simp] theorem env_size55 : env.size 55 = 1 := id rfl
@[simp] theorem env_zero55 : env.zero 55 = .nilf := id rfl
@[simp] theorem env_ty56 : env.ty 56 = .fn := id rfl
@[simp] theorem env_size56 : env.size 56 = 1 := id rfl
@[simp] theorem env_zero56 : env.zero 56 = .nilf := id rfl
@[simp] theorem env_ty57 : env.ty 57 = .fn := id rfl
@[simp] theorem env_size57 : env.size 57 = 1 := id rfl
@[simp] theorem env_zero57 : env.zero 57 = .nilf := id rfl
@[simp] theorem env_ty58 : env.ty 58 = .sl 70 := id rfl
@[simp] theorem env_size58 : env.size 58 = 1 := id rfl
@[simp] theorem env_zero58 : env.zero 58 = (.sl 0 .lit []) := id rfl
@[simp] theorem env_ty59 : env.ty 59 = .fn := id rfl
@[simp] theorem env_size59 : env.size 59 = 1 := id rfl
@[simp] theorem env_zero59 : env.zero 59 = .nilf := id rfl
@[simp] theorem env_ty60 : env.ty 60 = .fn := id rfl
@[simp] theorem env_size60 : env.size 60 = 1 := id rfl
@[simp] theorem env_zero60 : env.zero 60 = .nilf := id rfl
@[simp] theorem env_ty61 : env.ty 61 = .fn := id rfl
@[simp] theorem env_size61 : env.size 61 = 1 := id rfl
@[simp] theorem env_zero61 : env.zero 61 = .nilf := id rfl
@[simp] theorem env_ty62 : env.ty 62 = .fn := id rfl
@[simp] theorem env_size62 : env.size 62 = 1 := id rfl
@[simp] theorem env_zero62 : env.zero 62 = .nilf := id rfl
@[simp] theorem env_ty63 : env.ty 63 = .fn := id rfl
@[simp] theorem env_size63 : env.size 63 = 1 := id rfl
@[simp] theorem env_zero63 : env.zero 63 = .nilf := id rfl
@[simp] theorem env_ty64 : env.ty 64 = .fn := id rfl
@[simp] theorem env_size64 : env.size 64 = 1 := id rfl
@[simp] theorem env_zero64 : env.zero 64 = .nilf := id rfl
@[simp] theorem env_ty65 : env.ty 65 = .fn := id rfl
@[simp] theorem env_size65 : env.size 65 = 1 := id rfl
@[simp] theorem env_zero65 : env.zero 65 = .nilf := id rfl
@[simp] theorem env_ty66 : env.ty 66 = .int .u64 := id rfl
@[simp] theorem env_size66 : env.size 66 = 1 := id rfl
@[simp] theorem env_zero66 : env.zero 66 = (.int .u64 0) := id rfl
@[simp] theorem env_ty67 : env.ty 67 = .fn := id rfl
@[simp] theorem env_size67 : env.size 67 = 1 := id rfl
@[simp] theorem env_zero67 : env.zero 67 = .nilf := id rfl
@[simp] theorem env_ty68 : env.ty 68 = .fn := id rfl
@[simp] theorem env_size68 : env.size 68 = 1 := id rfl
@[simp] theorem env_zero68 : env.zero 68 = .nilf := id rfl
@[simp] theorem env_ty69 : env.ty 69 = .st [(0, 3), (1, 64)] := id rfl
@[simp] theorem env_size69 : env.size 69 = 2 := id rfl
@[simp] theorem env_zero69 : env.zero 69 = (.agg [(.int .i64 0), .nilf]) := id rfl
@[simp] theorem env_ty70 : env.ty 70 = .st [(0, 3), (1, 64)] := id rfl
@[simp] theorem env_size70 : env.size 70 = 2 := id rfl
@[simp] theorem env_zero70 : env.zero 70 = (.agg [(.int .i64 0), .nilf]) := id rfl
@[simp] theorem env_ty71 : env.ty 71 = .fn := id rfl
@[simp] theorem env_size71 : env.size 71 = 1 := id rfl
@[simp] theorem env_zero71 : env.zero 71 = .nilf := id rfl
@[simp] theorem env_ty72 : env.ty 72 = .fn := id rfl
@[simp] theorem env_size72 : env.size 72 = 1 := id rfl
@[simp] theorem env_zero72 : env.zero 72 = .nilf := id rfl
@[simp] theorem env_ty78 : env.ty 78 = .fn := id rfl
@[simp] theorem env_size78 : env.size 78 = 1 := id rfl
@[simp] theorem env_zero78 : env.zero 78 = .nilf := id rfl
@[simp] theorem env_ty79 : env.ty 79 = .int .u32 := id rfl
@[simp] theorem env_size79 : env.size 79 = 1 := id rfl
@[simp] theorem env_zero79 : env.zero 79 = (.int .u32 0) := id rfl
@[simp] theorem env_ty82 : env.ty 82 = .fn := id rfl
@[simp] theorem env_size82 : env.size 82 = 1 := id rfl
@[simp] theorem env_zero82 : env.zero 82 = .nilf := id rfl
@[simp] theorem env_ty83 : env.ty 83 = .ptr 5 := id rfl
@[simp] theorem env_ty88 : env.ty 88 = .fn := id rfl
@[simp] theorem env_size88 : env.size 88 = 1 := id rfl
@[simp] theorem env_zero88 : env.zero 88 = .nilf := id rfl
@[simp] theorem env_open3 : env.open_ 3 = false := id rfl
@[simp] theorem env_ext3 : env.ext 3 = none := id rfl
@[simp] theorem env_open4 : env.open_ 4 = false := id rfl
@[simp] theorem env_ext4 : env.ext 4 = none := id rfl
@[simp] theorem env_open5 : env.open_ 5 = false := id rfl
@[simp] theorem env_ext5 : env.ext 5 = none := id rfl
@[simp] theorem env_open6 : env.open_ 6 = false := id rfl
@[simp] theorem env_ext6 : env.ext 6 = none := id rfl
@[simp] theorem env_open7 : env.open_ 7 = false := id rfl
@[simp] theorem env_ext7 : env.ext 7 = none := id rfl
@[simp] theorem env_open8 : env.open_ 8 = false := id rfl
@[simp] theorem env_ext8 : env.ext 8 = none := id rfl
@[simp] theorem env_open9 : env.open_ 9 = false := id rfl
@[simp] theorem env_ext9 : env.ext 9 = none := id rfl
@[simp] theorem env_open10 : env.open_ 10 = false := id rfl
@[simp] theorem env_ext10 : env.ext 10 = none := id rfl
@[simp] theorem env_open11 : env.open_ 11 = false := id rfl
@[simp] theorem env_ext11 : env.ext 11 = none := id rfl
@[simp] theorem env_open12 : env.open_ 12 = false := id rfl
@[simp] theorem env_ext12 : env.ext 12 = none := id rfl
@[simp] theorem env_open13 : env.open_ 13 = true := id rfl
@[simp] theorem env_ext13 : env.ext 13 = none := id rfl
@[simp] theorem env_open14 : env.open_ 14 = false := id rfl
@[simp] theorem env_ext14 : env.ext 14 = none := id rfl
@[simp] theorem env_open15 : env.open_ 15 = false := id rfl
@[simp] theorem env_ext15 : env.ext 15 = none := id rfl
@[simp] theorem env_open16 : env.open_ 16 = false := id rfl
@[simp] theorem env_ext16 : env.ext 16 = none := id rfl
@[simp] theorem env_open17 : env.open_ 17 = true := id rfl
@[simp] theorem env_ext17 : env.ext 17 = none := id rfl
@[simp] theorem env_open18 : env.open_ 18 = false := id rfl
@[simp] theorem env_ext18 : env.ext 18 = none := id rfl
@[simp] theorem env_open19 : env.open_ 19 = false := id rfl
@[simp] theorem env_ext19 : env.ext 19 = none := id rfl
@[simp] theorem env_open20 : env.open_ 20 = true := id rfl
@[simp] theorem env_ext20 : env.ext 20 = none := id rfl
@[simp] theorem env_open21 : env.open_ 21 = false := id rfl
@[simp] theorem env_ext21 : env.ext 21 = none := id rfl
@[simp] theorem env_open22 : env.open_ 22 = false := id rfl
@[simp] theorem env_ext22 : env.ext 22 = none := id rfl
@[simp] theorem env_open23 : env.open_ 23 = false := id rfl
@[simp] theorem env_ext23 : env.ext 23 = none := id rfl
@[simp] theorem env_open24 : env.open_ 24 = false := id rfl
@[simp] theorem env_ext24 : env.ext 24 = none := id rfl
@[simp] theorem env_open25 : env.open_ 25 = false := id rfl
@[simp] theorem env_ext25 : env.ext 25 = none := id rfl
@[simp] theorem env_open26 : env.open_ 26 = false := id rfl
@[simp] theorem env_ext26 : env.ext 26 = none := id rfl
@[simp] theorem env_open27 : env.open_ 27 = false := id rfl
@[simp] theorem env_ext27 : env.ext 27 = none := id rfl
@[simp] theorem env_open28 : env.open_ 28 = false := id rfl
@[simp] theorem env_ext28 : env.ext 28 = none := id rfl
@[simp] theorem env_open29 : env.open_ 29 = false := id rfl
@[simp] theorem env_ext29 : env.ext 29 = none := id rfl
@[simp] theorem env_open30 : env.open_ 30 = false := id rfl
@[simp] theorem env_ext30 : env.ext 30 = none := id rfl
@[simp] theorem env_open31 : env.open_ 31 = true := id rfl
@[simp] theorem env_ext31 : env.ext 31 = none := id rfl
@[simp] theorem env_open32 : env.open_ 32 = false := id rfl
@[simp] theorem env_ext32 : env.ext 32 = none := id rfl
@[simp] theorem env_open33 : env.open_ 33 = false := id rfl
@[simp] theorem env_ext33 : env.ext 33 = none := id rfl
@[simp] theorem env_open34 : env.open_ 34 = true := id rfl
@[simp] theorem env_ext34 : env.ext 34 = none := id rfl
@[simp] theorem env_open35 : env.open_ 35 = false := id rfl
@[simp] theorem env_ext35 : env.ext 35 = none := id rfl
@[simp] theorem env_open36 : env.open_ 36 = false := id rfl
@[simp] theorem env_ext36 : env.ext 36 = none := id rfl
@[simp] theorem env_open37 : env.open_ 37 = false := id rfl
@[simp] theorem env_ext37 : env.ext 37 = none := id rfl
@[simp] theorem env_open38 : env.open_ 38 = false := id rfl
@[simp] theorem env_ext38 : env.ext 38 = none := id rfl
@[simp] theorem env_open39 : env.open_ 39 = true := id rfl
@[simp] theorem env_ext39 : env.ext 39 = none := id rfl
@[simp] theorem env_open40 : env.open_ 40 = false := id rfl
@[simp] theorem env_ext40 : env.ext 40 = none := id rfl
@[simp] theorem env_open41 : env.open_ 41 = true := id rfl
@[simp] theorem env_ext41 : env.ext 41 = none := id rfl
@[simp] theorem env_open42 : env.open_ 42 = false := id rfl
@[simp] theorem env_ext42 : env.ext 42 = none := id rfl
@[simp] theorem env_open43 : env.open_ 43 = false := id rfl
@[simp] theorem env_ext43 : env.ext 43 = none := id rfl
@[simp] theorem env_open44 : env.open_ 44 = true := id rfl
@[simp] theorem env_ext44 : env.ext 44 = none := id rfl
@[simp] theorem env_open45 : env.open_ 45 = false := id rfl
@[simp] theorem env_ext45 : env.ext 45 = none := id rfl
@[simp] theorem env_open46 : env.open_ 46 = false := id rfl
@[simp] theorem env_ext46 : env.ext 46 = none := id rfl
@[simp] theorem env_open47 : env.open_ 47 = false := id rfl
@[simp] theorem env_ext47 : env.ext 47 = none := id rfl
@[simp] theorem env_open48 : env.open_ 48 = false := id rfl
@[simp] theorem env_ext48 : env.ext 48 = none := id rfl
@[simp] theorem env_open49 : env.open_ 49 = false := id rfl
@[simp] theorem env_ext49 : env.ext 49 = none := id rfl
@[simp] theorem env_open50 : env.open_ 50 = false := id rfl
@[simp] theorem env_ext50 : env.ext 50 = none := id rfl
@[simp] theorem env_open51 : env.open_ 51 = false := id rfl
@[simp] theorem env_ext51 : env.ext 51 = none := id rfl
@[simp] theorem env_open52 : env.open_ 52 = false := id rfl
@[simp] theorem env_ext52 : env.ext 52 = none := id rfl
@[simp] theorem env_open53 : env.open_ 53 = false := id rfl
@[simp] theorem env_ext53 : env.ext 53 = none := id rfl
@[simp] theorem env_open54 : env.open_ 54 = false := id rfl
@[simp] theorem env_ext54 : env.ext 54 = none := id rfl
@[simp] theorem env_open55 : env.open_ 55 = false := id rfl
@[simp] theorem env_ext55 : env.ext 55 = none := id rfl
@[simp] theorem env_open56 : env.open_ 56 = false := id rfl
@[simp] theorem env_ext56 : env.ext 56 = none := id rfl
@[simp] theorem env_open57 : env.open_ 57 = false := id rfl
@[simp] theorem env_ext57 : env.ext 57 = none := id rfl
@[simp] theorem env_open58 : env.open_ 58 = false := id rfl
@[simp] theorem env_ext58 : env.ext 58 = none := id rfl
@[simp] theorem env_open59 : env.open_ 59 = false := id rfl
@[simp] theorem env_ext59 : env.ext 59 = some growF := id rfl
@[simp] theorem env_open60 : env.open_ 60 = false := id rfl
@[simp] theorem env_ext60 : env.ext 60 = none := id rfl
@[simp] theorem env_open61 : env.open_ 61 = false := id rfl
@[simp] theorem env_ext61 : env.ext 61 = none := id rfl
@[simp] theorem env_open62 : env.open_ 62 = false := id rfl
@[simp] theorem env_ext62 : env.ext 62 = none := id rfl
@[simp] theorem env_open63 : env.open_ 63 = false := id rfl
@[simp] theorem env_ext63 : env.ext 63 = none := id rfl
@[simp] theorem env_open64 : env.open_ 64 = false := id rfl
@[simp] theorem env_ext64 : env.ext 64 = none := id rfl
@[simp] theorem env_open65 : env.open_ 65 = false := id rfl
@[simp] theorem env_ext65 : env.ext 65 = none := id rfl
@[simp] theorem env_open66 : env.open_ 66 = false := id rfl
@[simp] theorem env_ext66 : env.ext 66 = none := id rfl
@[simp] theorem env_open67 : env.open_ 67 = false := id rfl
@[simp] theorem env_ext67 : env.ext 67 = none := id rfl
@[simp] theorem env_open68 : env.open_ 68 = false := id rfl
@[simp] theorem env_ext68 : env.ext 68 = none := id rfl
@[simp] theorem env_open69 : env.open_ 69 = false := id rfl
@[simp] theorem env_ext69 : env.ext 69 = none := id rfl
@[simp] theorem env_open85 : env.open_ 85 = false := id rfl
@[simp] theorem env_ext85 : env.ext 85 = none := id rfl
theorem info1 : (Try.prog.info? 1).map (fun i => (i.size, i.bytes, i.zero)) = some (1, 8, some .nilFunc) := by kernel_rfl
theorem info2 : (Try.prog.info? 2).map (fun i => (i.size, i.bytes, i.zero)) = some (1, 8, some (.int .i64 0)) := by kernel_rfl
theorem info3 : (Try.prog.info? 3).map (fun i => (i.size, i.bytes, i.zero)) = some (1, 8, some (.int .i64 0)) := by kernel_rfl
theorem info4 : (Try.prog.info? 4).map (fun i => (i.size, i.bytes, i.zero)) = some (1, 1, some (.bool false)) := by kernel_rfl
theorem info5 : (Try.prog.info? 5).map (fun i => (i.size, i.bytes, i.zero)) = some (1, 1, some (.int .u8 0)) := by kernel_rfl
theorem info9 : (Try.prog.info? 9).map (fun i => (i.size, i.bytes, i.zero)) = some (1, 16, some (.string ⟨#[]⟩)) := by kernel_rfl
theorem info12 : (Try.prog.info? 12).map (fun i => (i.size, i.bytes, i.zero)) = some (1, 8, some (.int .u64 0)) := by kernel_rfl
theorem info21 : (Try.prog.info? 21).map (fun i => (i.size, i.bytes, i.zero)) = some (1, 4, some (.int .i32 0)) := by kernel_rfl
theorem info22 : (Try.prog.info? 22).map (fun i => (i.size, i.bytes, i.zero)) = some (1, 24, some (.slice none 0 0)) := by kernel_rfl
theorem info23 : (Try.prog.info? 23).map (fun i => (i.size, i.bytes, i.zero)) = some (2, 32, some (.agg #[(.int .i64 0), (.slice none 0 0)])) := by kernel_rfl
theorem info24 : (Try.prog.info? 24).map (fun i => (i.size, i.bytes, i.zero)) = some (2, 32, some (.agg #[(.int .i64 0), (.slice none 0 0)])) := by kernel_rfl
theorem info25 : (Try.prog.info? 25).map (fun i => (i.size, i.bytes, i.zero)) = some (1, 8, some .nilFunc) := by kernel_rfl
theorem info26 : (Try.prog.info? 26).map (fun i => (i.size, i.bytes, i.zero)) = some (2, 32, some (.agg #[(.int .i64 0), (.slice none 0 0)])) := by kernel_rfl
theorem info28 : (Try.prog.info? 28).map (fun i => (i.size, i.bytes, i.zero)) = some (1, 8, some .nilFunc) := by kernel_rfl
theorem info29 : (Try.prog.info? 29).map (fun i => (i.size, i.bytes, i.zero)) = some (1, 8, some .nilFunc) := by kernel_rfl
theorem info30 : (Try.prog.info? 30).map (fun i => (i.size, i.bytes, i.zero)) = some (1, 8, some .nilFunc) := by kernel_rfl
theorem info31 : (Try.prog.info? 31).map (fun i => (i.size, i.bytes, i.zero)) = some (1, 8, some .nilFunc) := by kernel_rfl
theorem info32 : (Try.prog.info? 32).map (fun i => (i.size, i.bytes, i.zero)) = some (1, 8, some .nilFunc) := by kernel_rfl
theorem info33 : (Try.prog.info? 33).map (fun i => (i.size, i.bytes, i.zero)) = some (1, 24, some (.slice none 0 0)) := by kernel_rfl
theorem info34 : (Try.prog.info? 34).map (fun i => (i.size, i.bytes, i.zero)) = some (2, 48, some (.agg #[(.slice none 0 0), (.slice none 0 0)])) := by kernel_rfl
theorem info35 : (Try.prog.info? 35).map (fun i => (i.size, i.bytes, i.zero)) = some (2, 48, some (.agg #[(.slice none 0 0), (.slice none 0 0)])) := by kernel_rfl
theorem info36 : (Try.prog.info? 36).map (fun i => (i.size, i.bytes, i.zero)) = some (1, 8, some .nilFunc) := by kernel_rfl
theorem info37 : (Try.prog.info? 37).map (fun i => (i.size, i.bytes, i.zero)) = some (1, 8, some .nilFunc) := by kernel_rfl
theorem info38 : (Try.prog.info? 38).map (fun i => (i.size, i.bytes, i.zero)) = some (2, 48, some (.agg #[(.slice none 0 0), (.slice none 0 0)])) := by kernel_rfl
theorem info39 : (Try.prog.info? 39).map (fun i => (i.size, i.bytes, i.zero)) = some (1, 8, some .nilFunc) := by kernel_rfl
theorem info40 : (Try.prog.info? 40).map (fun i => (i.size, i.bytes, i.zero)) = some (1, 8, some .nilFunc) := by kernel_rfl
theorem info41 : (Try.prog.info? 41).map (fun i => (i.size, i.bytes, i.zero)) = some (1, 8, some .nilFunc) := by kernel_rfl
theorem info42 : (Try.prog.info? 42).map (fun i => (i.size, i.bytes, i.zero)) = some (1, 8, some .nilFunc) := by kernel_rfl
theorem info43 : (Try.prog.info? 43).map (fun i => (i.size, i.bytes, i.zero)) = some (1, 8, some .nilFunc) := by kernel_rfl
theorem info44 : (Try.prog.info? 44).map (fun i => (i.size, i.bytes, i.zero)) = some (1, 8, some .nilFunc) := by kernel_rfl
theorem info45 : (Try.prog.info? 45).map (fun i => (i.size, i.bytes, i.zero)) = some (1, 8, some .nilFunc) := by kernel_rfl
theorem info46 : (Try.prog.info? 46).map (fun i => (i.size, i.bytes, i.zero)) = some (1, 8, some .nilFunc) := by kernel_rfl
theorem info47 : (Try.prog.info? 47).map (fun i => (i.size, i.bytes, i.zero)) = some (1, 8, some .nilFunc) := by kernel_rfl
theorem info48 : (Try.prog.info? 48).map (fun i => (i.size, i.bytes, i.zero)) = some (1, 8, some .nilFunc) := by kernel_rfl
theorem info49 : (Try.prog.info? 49).map (fun i => (i.size, i.bytes, i.zero)) = some (1, 8, some .nilFunc) := by kernel_rfl
theorem info50 : (Try.prog.info? 50).map (fun i => (i.size, i.bytes, i.zero)) = some (1, 8, some .nilFunc) := by kernel_rfl
theorem info51 : (Try.prog.info? 51).map (fun i => (i.size, i.bytes, i.zero)) = some (1, 8, some .nilFunc) := by kernel_rfl
theorem info52 : (Try.prog.info? 52).map (fun i => (i.size, i.bytes, i.zero)) = some (1, 8, some .nilFunc) := by kernel_rfl
theorem info53 : (Try.prog.info? 53).map (fun i => (i.size, i.bytes, i.zero)) = some (1, 8, some .nilFunc) := by kernel_rfl
theorem info54 : (Try.prog.info? 54).map (fun i => (i.size, i.bytes, i.zero)) = some (1, 8, some .nilFunc) := by kernel_rfl
theorem info55 : (Try.prog.info? 55).map (fun i => (i.size, i.bytes, i.zero)) = some (1, 8, some .nilFunc) := by kernel_rfl
theorem info56 : (Try.prog.info? 56).map (fun i => (i.size, i.bytes, i.zero)) = some (1, 8, some .nilFunc) := by kernel_rfl
theorem info57 : (Try.prog.info? 57).map (fun i => (i.size, i.bytes, i.zero)) = some (1, 8, some .nilFunc) := by kernel_rfl
theorem info58 : (Try.prog.info? 58).map (fun i => (i.size, i.bytes, i.zero)) = some (1, 24, some (.slice none 0 0)) := by kernel_rfl
theorem info59 : (Try.prog.info? 59).map (fun i => (i.size, i.bytes, i.zero)) = some (1, 8, some .nilFunc) := by kernel_rfl
theorem info60 : (Try.prog.info? 60).map (fun i => (i.size, i.bytes, i.zero)) = some (1, 8, some .nilFunc) := by kernel_rfl
theorem info61 : (Try.prog.info? 61).map (fun i => (i.size, i.bytes, i.zero)) = some (1, 8, some .nilFunc) := by kernel_rfl
theorem info62 : (Try.prog.info? 62).map (fun i => (i.size, i.bytes, i.zero)) = some (1, 8, some .nilFunc) := by kernel_rfl
theorem info63 : (Try.prog.info? 63).map (fun i => (i.size, i.bytes, i.zero)) = some (1, 8, some .nilFunc) := by kernel_rfl
theorem info64 : (Try.prog.info? 64).map (fun i => (i.size, i.bytes, i.zero)) = some (1, 8, some .nilFunc) := by kernel_rfl
theorem info65 : (Try.prog.info? 65).map (fun i => (i.size, i.bytes, i.zero)) = some (1, 8, some .nilFunc) := by kernel_rfl
theorem info66 : (Try.prog.info? 66).map (fun i => (i.size, i.bytes, i.zero)) = some (1, 8, some (.int .u64 0)) := by kernel_rfl
theorem info67 : (Try.prog.info? 67).map (fun i => (i.size, i.bytes, i.zero)) = some (1, 8, some .nilFunc) := by kernel_rfl
theorem info68 : (Try.prog.info? 68).map (fun i => (i.size, i.bytes, i.zero)) = some (1, 8, some .nilFunc) := by kernel_rfl
theorem info69 : (Try.prog.info? 69).map (fun i => (i.size, i.bytes, i.zero)) = some (2, 16, some (.agg #[(.int .i64 0), .nilFunc])) := by kernel_rfl
theorem info70 : (Try.prog.info? 70).map (fun i => (i.size, i.bytes, i.zero)) = some (2, 16, some (.agg #[(.int .i64 0), .nilFunc])) := by kernel_rfl
theorem info71 : (Try.prog.info? 71).map (fun i => (i.size, i.bytes, i.zero)) = some (1, 8, some .nilFunc) := by kernel_rfl
theorem info72 : (Try.prog.info? 72).map (fun i => (i.size, i.bytes, i.zero)) = some (1, 8, some .nilFunc) := by kernel_rfl
theorem info78 : (Try.prog.info? 78).map (fun i => (i.size, i.bytes, i.zero)) = some (1, 8, some .nilFunc) := by kernel_rfl
theorem info79 : (Try.prog.info? 79).map (fun i => (i.size, i.bytes, i.zero)) = some (1, 4, some (.int .u32 0)) := by kernel_rfl
theorem info82 : (Try.prog.info? 82).map (fun i => (i.size, i.bytes, i.zero)) = some (1, 8, some .nilFunc) := by kernel_rfl
theorem info88 : (Try.prog.info? 88).map (fun i => (i.size, i.bytes, i.zero)) = some (1, 8, some .nilFunc) := by kernel_rfl
theorem env_parts {t s b : Nat} {z : Value} {a : AV} (hi : (Try.prog.info? t).map (fun i => (i.size, i.bytes, i.zero)) = some (s, b, some z)) (hb : b ≤ 131072) (hz : ∀ c, VR a c z) (hl : a.cells.length = s) (ho : a.cells.all AV.one = true) :
    ∃ i z, Try.prog.info? t = some i ∧ i.size = s ∧ i.bytes ≤ 131072 ∧ i.zero = some z ∧ (∀ c, VR a c z) ∧ a.cells.length = s ∧ a.cells.all AV.one = true := by
  rw [Option.map_eq_some_iff] at hi
  obtain ⟨i, h1, h2⟩ := hi
  obtain ⟨rfl, h3⟩ := Prod.mk.inj h2
  obtain ⟨rfl, h4⟩ := Prod.mk.inj h3
  exact ⟨i, z, h1, rfl, hb, h4, hz, hl, ho⟩
theorem vr_nil (c : Cx) : VR (.sl 0 .lit []) c (.slice none 0 0) := by simp only [VR]; exact ⟨none, 0, rfl, Nat.le_refl _, Nat.zero_le _, fun _ => rfl, fun h => (h rfl).elim, rfl⟩
theorem vz_agg {c : Cx} {cs : List AV} {rc : List Value} (h : VRl cs c rc) : VR (.agg cs) c (.agg rc.toArray) := by simp only [VR]; exact ⟨_, rfl, h⟩
theorem vz_int {c : Cx} {k : IntKind} {n : Int} : VR (.int k n) c (.int k n) := by simp only [VR]
theorem vz_bool {c : Cx} {b : Bool} : VR (.bool b) c (.bool b) := by simp only [VR]
theorem vz_str {c : Cx} {s : ByteArray} : VR (.str s) c (.string s) := by simp only [VR]
theorem vz_nilf {c : Cx} : VR .nilf c .nilFunc := by simp only [VR]
theorem vz_nil {c : Cx} : VRl [] c [] := by simp only [VRl]
theorem vz_cons {c : Cx} {x : AV} {xs : List AV} {v : Value} {vs : List Value} (h : VR x c v) (t : VRl xs c vs) : VRl (x :: xs) c (v :: vs) := by simp only [VRl]; exact ⟨_, _, rfl, h, t⟩
set_option maxRecDepth 100000 in
theorem env_tys : ∀ t, envTy t ≠ .other → ∃ d, Try.prog.underlying t = some d ∧ TD.of d = envTy t := by
  intro t h
  unfold envTy at h ⊢
  split at h
  · exact ⟨_, Try.underlying1, rfl⟩
  · exact ⟨_, Try.underlying2, rfl⟩
  · exact ⟨_, Try.underlying3, rfl⟩
  · exact ⟨_, Try.underlying4, rfl⟩
  · exact ⟨_, Try.underlying5, rfl⟩
  · exact ⟨_, Try.underlying9, rfl⟩
  · exact ⟨_, Try.underlying12, rfl⟩
  · exact ⟨_, Try.underlying21, rfl⟩
  · exact ⟨_, Try.underlying22, rfl⟩
  · exact ⟨_, Try.underlying23, rfl⟩
  · exact ⟨_, Try.underlying24, rfl⟩
  · exact ⟨_, Try.underlying25, rfl⟩
  · exact ⟨_, Try.underlying26, rfl⟩
  · exact ⟨_, Try.underlying28, rfl⟩
  · exact ⟨_, Try.underlying29, rfl⟩
  · exact ⟨_, Try.underlying30, rfl⟩
  · exact ⟨_, Try.underlying31, rfl⟩
  · exact ⟨_, Try.underlying32, rfl⟩
  · exact ⟨_, Try.underlying33, rfl⟩
  · exact ⟨_, Try.underlying34, rfl⟩
  · exact ⟨_, Try.underlying35, rfl⟩
  · exact ⟨_, Try.underlying36, rfl⟩
  · exact ⟨_, Try.underlying37, rfl⟩
  · exact ⟨_, Try.underlying38, rfl⟩
  · exact ⟨_, Try.underlying39, rfl⟩
  · exact ⟨_, Try.underlying40, rfl⟩
  · exact ⟨_, Try.underlying41, rfl⟩
  · exact ⟨_, Try.underlying42, rfl⟩
  · exact ⟨_, Try.underlying43, rfl⟩
  · exact ⟨_, Try.underlying44, rfl⟩
  · exact ⟨_, Try.underlying45, rfl⟩
  · exact ⟨_, Try.underlying46, rfl⟩
  · exact ⟨_, Try.underlying47, rfl⟩
  · exact ⟨_, Try.underlying48, rfl⟩
  · exact ⟨_, Try.underlying49, rfl⟩
  · exact ⟨_, Try.underlying50, rfl⟩
  · exact ⟨_, Try.underlying51, rfl⟩
  · exact ⟨_, Try.underlying52, rfl⟩
  · exact ⟨_, Try.underlying53, rfl⟩
  · exact ⟨_, Try.underlying54, rfl⟩
  · exact ⟨_, Try.underlying55, rfl⟩
  · exact ⟨_, Try.underlying56, rfl⟩
  · exact ⟨_, Try.underlying57, rfl⟩
  · exact ⟨_, Try.underlying58, rfl⟩
  · exact ⟨_, Try.underlying59, rfl⟩
  · exact ⟨_, Try.underlying60, rfl⟩
  · exact ⟨_, Try.underlying61, rfl⟩
  · exact ⟨_, Try.underlying62, rfl⟩
  · exact ⟨_, Try.underlying63, rfl⟩
  · exact ⟨_, Try.underlying64, rfl⟩
  · exact ⟨_, Try.underlying65, rfl⟩
  · exact ⟨_, Try.underlying66, rfl⟩
  · exact ⟨_, Try.underlying67, rfl⟩
  · exact ⟨_, Try.underlying68, rfl⟩
  · exact ⟨_, Try.underlying69, rfl⟩
  · exact ⟨_, Try.underlying70, rfl⟩
  · exact ⟨_, Try.underlying71, rfl⟩
  · exact ⟨_, Try.underlying72, rfl⟩
  · exact ⟨_, Try.underlying78, rfl⟩
  · exact ⟨_, Try.underlying79, rfl⟩
  · exact ⟨_, Try.underlying82, rfl⟩
  · exact ⟨_, Try.underlying83, rfl⟩
  · exact ⟨_, Try.underlying88, rfl⟩
  · exact (h rfl).elim
set_option maxRecDepth 100000 in
theorem env_sizes : ∀ t, envSize t ≠ 0 → ∃ i z, Try.prog.info? t = some i ∧ i.size = envSize t ∧ i.bytes ≤ 131072 ∧ i.zero = some z ∧ (∀ c, VR (envZero t) c z) ∧ (envZero t).cells.length = envSize t ∧ (envZero t).cells.all AV.one = true := by
  intro t h
  unfold envSize at h
  split at h
  · exact env_parts info1 (by decide) (fun c => vz_nilf) rfl rfl
  · exact env_parts info2 (by decide) (fun c => vz_int) rfl rfl
  · exact env_parts info3 (by decide) (fun c => vz_int) rfl rfl
  · exact env_parts info4 (by decide) (fun c => vz_bool) rfl rfl
  · exact env_parts info5 (by decide) (fun c => vz_int) rfl rfl
  · exact env_parts info9 (by decide) (fun c => vz_str) rfl rfl
  · exact env_parts info12 (by decide) (fun c => vz_int) rfl rfl
  · exact env_parts info21 (by decide) (fun c => vz_int) rfl rfl
  · exact env_parts info22 (by decide) (fun c => (vr_nil c)) rfl rfl
  · exact env_parts info23 (by decide) (fun c => (vz_agg (vz_cons vz_int (vz_cons (vr_nil c) vz_nil)))) rfl rfl
  · exact env_parts info24 (by decide) (fun c => (vz_agg (vz_cons vz_int (vz_cons (vr_nil c) vz_nil)))) rfl rfl
  · exact env_parts info25 (by decide) (fun c => vz_nilf) rfl rfl
  · exact env_parts info26 (by decide) (fun c => (vz_agg (vz_cons vz_int (vz_cons (vr_nil c) vz_nil)))) rfl rfl
  · exact env_parts info28 (by decide) (fun c => vz_nilf) rfl rfl
  · exact env_parts info29 (by decide) (fun c => vz_nilf) rfl rfl
  · exact env_parts info30 (by decide) (fun c => vz_nilf) rfl rfl
  · exact env_parts info31 (by decide) (fun c => vz_nilf) rfl rfl
  · exact env_parts info32 (by decide) (fun c => vz_nilf) rfl rfl
  · exact env_parts info33 (by decide) (fun c => (vr_nil c)) rfl rfl
  · exact env_parts info34 (by decide) (fun c => (vz_agg (vz_cons (vr_nil c) (vz_cons (vr_nil c) vz_nil)))) rfl rfl
  · exact env_parts info35 (by decide) (fun c => (vz_agg (vz_cons (vr_nil c) (vz_cons (vr_nil c) vz_nil)))) rfl rfl
  · exact env_parts info36 (by decide) (fun c => vz_nilf) rfl rfl
  · exact env_parts info37 (by decide) (fun c => vz_nilf) rfl rfl
  · exact env_parts info38 (by decide) (fun c => (vz_agg (vz_cons (vr_nil c) (vz_cons (vr_nil c) vz_nil)))) rfl rfl
  · exact env_parts info39 (by decide) (fun c => vz_nilf) rfl rfl
  · exact env_parts info40 (by decide) (fun c => vz_nilf) rfl rfl
  · exact env_parts info41 (by decide) (fun c => vz_nilf) rfl rfl
  · exact env_parts info42 (by decide) (fun c => vz_nilf) rfl rfl
  · exact env_parts info43 (by decide) (fun c => vz_nilf) rfl rfl
  · exact env_parts info44 (by decide) (fun c => vz_nilf) rfl rfl
  · exact env_parts info45 (by decide) (fun c => vz_nilf) rfl rfl
  · exact env_parts info46 (by decide) (fun c => vz_nilf) rfl rfl
  · exact env_parts info47 (by decide) (fun c => vz_nilf) rfl rfl
  · exact env_parts info48 (by decide) (fun c => vz_nilf) rfl rfl
  · exact env_parts info49 (by decide) (fun c => vz_nilf) rfl rfl
  · exact env_parts info50 (by decide) (fun c => vz_nilf) rfl rfl
  · exact env_parts info51 (by decide) (fun c => vz_nilf) rfl rfl
  · exact env_parts info52 (by decide) (fun c => vz_nilf) rfl rfl
  · exact env_parts info53 (by decide) (fun c => vz_nilf) rfl rfl
  · exact env_parts info54 (by decide) (fun c => vz_nilf) rfl rfl
  · exact env_parts info55 (by decide) (fun c => vz_nilf) rfl rfl
  · exact env_parts info56 (by decide) (fun c => vz_nilf) rfl rfl
  · exact env_parts info57 (by decide) (fun c => vz_nilf) rfl rfl
  · exact env_parts info58 (by decide) (fun c => (vr_nil c)) rfl rfl
  · exact env_parts info59 (by decide) (fun c => vz_nilf) rfl rfl
  · exact env_parts info60 (by decide) (fun c => vz_nilf) rfl rfl
  · exact env_parts info61 (by decide) (fun c => vz_nilf) rfl rfl
  · exact env_parts info62 (by decide) (fun c => vz_nilf) rfl rfl
  · exact env_parts info63 (by decide) (fun c => vz_nilf) rfl rfl
  · exact env_parts info64 (by decide) (fun c => vz_nilf) rfl rfl
  · exact env_parts info65 (by decide) (fun c => vz_nilf) rfl rfl
  · exact env_parts info66 (by decide) (fun c => vz_int) rfl rfl
  · exact env_parts info67 (by decide) (fun c => vz_nilf) rfl rfl
  · exact env_parts info68 (by decide) (fun c => vz_nilf) rfl rfl
  · exact env_parts info69 (by decide) (fun c => (vz_agg (vz_cons vz_int (vz_cons vz_nilf vz_nil)))) rfl rfl
  · exact env_parts info70 (by decide) (fun c => (vz_agg (vz_cons vz_int (vz_cons vz_nilf vz_nil)))) rfl rfl
  · exact env_parts info71 (by decide) (fun c => vz_nilf) rfl rfl
  · exact env_parts info72 (by decide) (fun c => vz_nilf) rfl rfl
  · exact env_parts info78 (by decide) (fun c => vz_nilf) rfl rfl
  · exact env_parts info79 (by decide) (fun c => vz_int) rfl rfl
  · exact env_parts info82 (by decide) (fun c => vz_nilf) rfl rfl
  · exact env_parts info88 (by decide) (fun c => vz_nilf) rfl rfl
  · exact (h rfl).elim
set_option maxRecDepth 100000 in
theorem env_fns0 : ∀ f F, envFn0 f = some F → Try.prog.funcs[f]? = some F ∧ F.name ≠ "runtime.NumGoroutine" := by
  intro f F h
  unfold envFn0 at h
  split at h
  · obtain rfl := Option.some.inj h; exact ⟨Try.func3, by simp [Try.f3]⟩
  · obtain rfl := Option.some.inj h; exact ⟨Try.func4, by simp [Try.f4]⟩
  · obtain rfl := Option.some.inj h; exact ⟨Try.func5, by simp [Try.f5]⟩
  · obtain rfl := Option.some.inj h; exact ⟨Try.func6, by simp [Try.f6]⟩
  · obtain rfl := Option.some.inj h; exact ⟨Try.func7, by simp [Try.f7]⟩
  · obtain rfl := Option.some.inj h; exact ⟨Try.func8, by simp [Try.f8]⟩
  · obtain rfl := Option.some.inj h; exact ⟨Try.func9, by simp [Try.f9]⟩
  · obtain rfl := Option.some.inj h; exact ⟨Try.func10, by simp [Try.f10]⟩
  · obtain rfl := Option.some.inj h; exact ⟨Try.func11, by simp [Try.f11]⟩
  · obtain rfl := Option.some.inj h; exact ⟨Try.func12, by simp [Try.f12]⟩
  · obtain rfl := Option.some.inj h; exact ⟨Try.func13, by simp [Try.f13]⟩
  · obtain rfl := Option.some.inj h; exact ⟨Try.func14, by simp [Try.f14]⟩
  · obtain rfl := Option.some.inj h; exact ⟨Try.func15, by simp [Try.f15]⟩
  · obtain rfl := Option.some.inj h; exact ⟨Try.func16, by simp [Try.f16]⟩
  · obtain rfl := Option.some.inj h; exact ⟨Try.func17, by simp [Try.f17]⟩
  · obtain rfl := Option.some.inj h; exact ⟨Try.func18, by simp [Try.f18]⟩
  · obtain rfl := Option.some.inj h; exact ⟨Try.func19, by simp [Try.f19]⟩
  · obtain rfl := Option.some.inj h; exact ⟨Try.func20, by simp [Try.f20]⟩
  · obtain rfl := Option.some.inj h; exact ⟨Try.func21, by simp [Try.f21]⟩
  · obtain rfl := Option.some.inj h; exact ⟨Try.func22, by simp [Try.f22]⟩
  · obtain rfl := Option.some.inj h; exact ⟨Try.func23, by simp [Try.f23]⟩
  · obtain rfl := Option.some.inj h; exact ⟨Try.func24, by simp [Try.f24]⟩
  · obtain rfl := Option.some.inj h; exact ⟨Try.func25, by simp [Try.f25]⟩
  · obtain rfl := Option.some.inj h; exact ⟨Try.func26, by simp [Try.f26]⟩
  · obtain rfl := Option.some.inj h; exact ⟨Try.func27, by simp [Try.f27]⟩
  · obtain rfl := Option.some.inj h; exact ⟨Try.func28, by simp [Try.f28]⟩
  · obtain rfl := Option.some.inj h; exact ⟨Try.func29, by simp [Try.f29]⟩
  · obtain rfl := Option.some.inj h; exact ⟨Try.func30, by simp [Try.f30]⟩
  · obtain rfl := Option.some.inj h; exact ⟨Try.func31, by simp [Try.f31]⟩
  · obtain rfl := Option.some.inj h; exact ⟨Try.func32, by simp [Try.f32]⟩
  · obtain rfl := Option.some.inj h; exact ⟨Try.func33, by simp [Try.f33]⟩
  · obtain rfl := Option.some.inj h; exact ⟨Try.func34, by simp [Try.f34]⟩
  · obtain rfl := Option.some.inj h; exact ⟨Try.func35, by simp [Try.f35]⟩
  · obtain rfl := Option.some.inj h; exact ⟨Try.func36, by simp [Try.f36]⟩
  · obtain rfl := Option.some.inj h; exact ⟨Try.func37, by simp [Try.f37]⟩
  · obtain rfl := Option.some.inj h; exact ⟨Try.func38, by simp [Try.f38]⟩
  · obtain rfl := Option.some.inj h; exact ⟨Try.func39, by simp [Try.f39]⟩
  · obtain rfl := Option.some.inj h; exact ⟨Try.func40, by simp [Try.f40]⟩
  · obtain rfl := Option.some.inj h; exact ⟨Try.func41, by simp [Try.f41]⟩
  · obtain rfl := Option.some.inj h; exact ⟨Try.func42, by simp [Try.f42]⟩
  · obtain rfl := Option.some.inj h; exact ⟨Try.func43, by simp [Try.f43]⟩
  · obtain rfl := Option.some.inj h; exact ⟨Try.func44, by simp [Try.f44]⟩
  · obtain rfl := Option.some.inj h; exact ⟨Try.func45, by simp [Try.f45]⟩
  · obtain rfl := Option.some.inj h; exact ⟨Try.func46, by simp [Try.f46]⟩
  · obtain rfl := Option.some.inj h; exact ⟨Try.func47, by simp [Try.f47]⟩
  · obtain rfl := Option.some.inj h; exact ⟨Try.func48, by simp [Try.f48]⟩
  · obtain rfl := Option.some.inj h; exact ⟨Try.func49, by simp [Try.f49]⟩
  · obtain rfl := Option.some.inj h; exact ⟨Try.func50, by simp [Try.f50]⟩
  · obtain rfl := Option.some.inj h; exact ⟨Try.func51, by simp [Try.f51]⟩
  · obtain rfl := Option.some.inj h; exact ⟨Try.func52, by simp [Try.f52]⟩
  · obtain rfl := Option.some.inj h; exact ⟨Try.func53, by simp [Try.f53]⟩
  · obtain rfl := Option.some.inj h; exact ⟨Try.func54, by simp [Try.f54]⟩
  · obtain rfl := Option.some.inj h; exact ⟨Try.func55, by simp [Try.f55]⟩
  · obtain rfl := Option.some.inj h; exact ⟨Try.func56, by simp [Try.f56]⟩
  · obtain rfl := Option.some.inj h; exact ⟨Try.func57, by simp [Try.f57]⟩
  · obtain rfl := Option.some.inj h; exact ⟨Try.func58, by simp [Try.f58]⟩
  · obtain rfl := Option.some.inj h; exact ⟨Try.func59, by simp [Try.f59]⟩
  · obtain rfl := Option.some.inj h; exact ⟨Try.func60, by simp [Try.f60]⟩
  · obtain rfl := Option.some.inj h; exact ⟨Try.func61, by simp [Try.f61]⟩
  · obtain rfl := Option.some.inj h; exact ⟨Try.func62, by simp [Try.f62]⟩
  · obtain rfl := Option.some.inj h; exact ⟨Try.func63, by simp [Try.f63]⟩
  · obtain rfl := Option.some.inj h; exact ⟨Try.func64, by simp [Try.f64]⟩
  · obtain rfl := Option.some.inj h; exact ⟨Try.func65, by simp [Try.f65]⟩
  · obtain rfl := Option.some.inj h; exact ⟨Try.func66, by simp [Try.f66]⟩
  · obtain rfl := Option.some.inj h; exact ⟨Try.func67, by simp [Try.f67]⟩
  · obtain rfl := Option.some.inj h; exact ⟨Try.func68, by simp [Try.f68]⟩
  · obtain rfl := Option.some.inj h; exact ⟨Try.func69, by simp [Try.f69]⟩
  · obtain rfl := Option.some.inj h; exact ⟨Try.func85, by simp [Try.f85]⟩
  · cases h
theorem env_fns : ∀ f F, envFn f = some F → Try.prog.funcs[f]? = some F ∧ F.name ≠ "runtime.NumGoroutine" := by
  intro f F h
  unfold envFn at h
  exact env_fns0 f F h
theorem env_names {t : Nat} (h9 : (Try.prog.fieldsOf t).toList.all (fun f => decide (f.name ≠ "_")) = true) : ∀ f ∈ (Try.prog.fieldsOf t).toList, f.name ≠ "_" := fun f hf => of_decide_eq_true (List.all_eq_true.1 h9 f hf)
theorem env_cmps : ∀ t, envCmp t = true → Try.prog.stoodInHeld t = false ∧ Try.prog.eqGuardType Try.prog.depth t = false ∧ ∀ f ∈ (Try.prog.fieldsOf t).toList, f.name ≠ "_" := by
  intro t h
  unfold envCmp at h
  split at h
  · cases h
theorem env_ok : EnvOk env Try.prog := ⟨env_tys, env_sizes, env_cmps⟩
theorem prog_ok : ProgOk env Try.prog (fun _ => True) := ⟨env_ok, env_fns, fun _ _ _ _ => trivial, fun f F h => by
  unfold env envExt at h
  dsimp only at h
  split at h
  · obtain rfl := Option.some.inj h; exact ⟨grow_ok.1, fun args res hr w B M rargs _ hv => (grow_ok.2 args res hr w B M rargs hv).mono fun e w' ⟨rv, h1, h2, h3⟩ => ⟨rv, h1, h2, fun h9 => by simp [envOwn] at h9, fun _ => h3⟩⟩
  · cases h⟩

end Go.Proofs.Ytppfgokonlloaaa
