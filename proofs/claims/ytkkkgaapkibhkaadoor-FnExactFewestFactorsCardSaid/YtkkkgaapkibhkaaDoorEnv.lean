/- What the evaluator is told of this seat's program, and that it is so. Conditions: none. Written by wip/tools/mkenv.py. -/
import Derived.Test.YtkkkgaapkibhkaaDoorProg
import Derived.Test.YtkkkgaapkibhkaaDoorEvFrame
import Derived.Test.YtkkkgaapkibhkaaDoorEvClone
import Derived.Test.YtkkkgaapkibhkaaDoorCloneC
import Derived.KernelRfl
namespace Go.Proofs.YtkkkgaapkibhkaaDoor
open Ev Go.RowKit
set_option linter.unusedVariables false
set_option linter.unusedSimpArgs false
set_option linter.unusedSectionVars false
set_option maxHeartbeats 4000000
def envTy : Nat → TD
  | 1 => .fn
  | 2 => .int .i64
  | 3 => .int .i64
  | 4 => .bool
  | 5 => .int .u8
  | 9 => .str
  | 12 => .int .u64
  | 21 => .int .i32
  | 22 => .sl 3
  | 23 => .st [(0, 3), (1, 22)]
  | 24 => .st [(0, 3), (1, 22)]
  | 25 => .fn
  | 26 => .fn
  | 27 => .st [(0, 3), (1, 22)]
  | 28 => .fn
  | 29 => .fn
  | 30 => .fn
  | 31 => .sl 57
  | 33 => .fn
  | 34 => .fn
  | 35 => .fn
  | 36 => .fn
  | 37 => .fn
  | 38 => .sl 5
  | 39 => .fn
  | 41 => .fn
  | 43 => .fn
  | 44 => .fn
  | 45 => .fn
  | 46 => .fn
  | 47 => .fn
  | 48 => .fn
  | 49 => .fn
  | 50 => .fn
  | 51 => .fn
  | 52 => .fn
  | 53 => .fn
  | 54 => .fn
  | 55 => .fn
  | 56 => .st [(0, 3), (1, 3)]
  | 57 => .st [(0, 3), (1, 3)]
  | 58 => .fn
  | 59 => .fn
  | 60 => .int .u64
  | 61 => .fn
  | 62 => .fn
  | 63 => .ptr 90
  | 64 => .fn
  | 65 => .fn
  | 66 => .sl 22
  | 67 => .fn
  | 68 => .sl 57
  | 70 => .fn
  | 71 => .fn
  | 72 => .fn
  | 73 => .fn
  | 75 => .fn
  | 76 => .fn
  | 77 => .fn
  | 78 => .fn
  | 79 => .fn
  | 80 => .fn
  | 81 => .fn
  | 82 => .fn
  | 83 => .fn
  | 84 => .fn
  | 85 => .fn
  | 86 => .fn
  | 87 => .fn
  | 88 => .fn
  | 89 => .st [(0, 38), (1, 3), (2, 3)]
  | 90 => .st [(0, 38), (1, 3), (2, 3)]
  | 91 => .fn
  | 92 => .fn
  | 93 => .fn
  | 94 => .fn
  | 95 => .fn
  | 96 => .fn
  | 97 => .fn
  | 98 => .fn
  | 99 => .fn
  | 100 => .fn
  | 101 => .fn
  | 102 => .fn
  | 103 => .fn
  | 104 => .fn
  | 105 => .fn
  | 106 => .fn
  | 107 => .int .i64
  | 109 => .fn
  | 110 => .fn
  | 111 => .fn
  | 112 => .fn
  | 113 => .fn
  | 114 => .int .u32
  | 115 => .fn
  | 116 => .int .u64
  | 117 => .int .u64
  | 118 => .fn
  | 119 => .fn
  | 120 => .fn
  | 121 => .ptr 3
  | 122 => .fn
  | 123 => .arr 32 5
  | 124 => .arr 64 5
  | 125 => .ptr 117
  | 127 => .fn
  | 128 => .fn
  | 134 => .fn
  | 137 => .fn
  | 138 => .ptr 5
  | 143 => .fn
  | _ => .other
def envSize : Nat → Nat
  | 2 => 1
  | 3 => 1
  | 4 => 1
  | 5 => 1
  | 9 => 1
  | 12 => 1
  | 21 => 1
  | 22 => 1
  | 23 => 2
  | 24 => 2
  | 27 => 2
  | 31 => 1
  | 38 => 1
  | 56 => 2
  | 57 => 2
  | 60 => 1
  | 66 => 1
  | 68 => 1
  | 89 => 3
  | 90 => 3
  | 107 => 1
  | 114 => 1
  | 116 => 1
  | 117 => 1
  | 123 => 32
  | 124 => 64
  | _ => 0
def envZero : Nat → AV
  | 2 => (.int .i64 0)
  | 3 => (.int .i64 0)
  | 4 => (.bool false)
  | 5 => (.int .u8 0)
  | 9 => (.str ⟨#[]⟩)
  | 12 => (.int .u64 0)
  | 21 => (.int .i32 0)
  | 22 => (.sl 0 .lit [])
  | 23 => (.agg [(.int .i64 0), (.sl 0 .lit [])])
  | 24 => (.agg [(.int .i64 0), (.sl 0 .lit [])])
  | 27 => (.agg [(.int .i64 0), (.sl 0 .lit [])])
  | 31 => (.sl 0 .lit [])
  | 38 => (.sl 0 .lit [])
  | 56 => (.agg [(.int .i64 0), (.int .i64 0)])
  | 57 => (.agg [(.int .i64 0), (.int .i64 0)])
  | 60 => (.int .u64 0)
  | 66 => (.sl 0 .lit [])
  | 68 => (.sl 0 .lit [])
  | 89 => (.agg [(.sl 0 .lit []), (.int .i64 0), (.int .i64 0)])
  | 90 => (.agg [(.sl 0 .lit []), (.int .i64 0), (.int .i64 0)])
  | 107 => (.int .i64 0)
  | 114 => (.int .u32 0)
  | 116 => (.int .u64 0)
  | 117 => (.int .u64 0)
  | 123 => (.agg [(.int .u8 0), (.int .u8 0), (.int .u8 0), (.int .u8 0), (.int .u8 0), (.int .u8 0), (.int .u8 0), (.int .u8 0), (.int .u8 0), (.int .u8 0), (.int .u8 0), (.int .u8 0), (.int .u8 0), (.int .u8 0), (.int .u8 0), (.int .u8 0), (.int .u8 0), (.int .u8 0), (.int .u8 0), (.int .u8 0), (.int .u8 0), (.int .u8 0), (.int .u8 0), (.int .u8 0), (.int .u8 0), (.int .u8 0), (.int .u8 0), (.int .u8 0), (.int .u8 0), (.int .u8 0), (.int .u8 0), (.int .u8 0)])
  | 124 => (.agg [(.int .u8 0), (.int .u8 0), (.int .u8 0), (.int .u8 0), (.int .u8 0), (.int .u8 0), (.int .u8 0), (.int .u8 0), (.int .u8 0), (.int .u8 0), (.int .u8 0), (.int .u8 0), (.int .u8 0), (.int .u8 0), (.int .u8 0), (.int .u8 0), (.int .u8 0), (.int .u8 0), (.int .u8 0), (.int .u8 0), (.int .u8 0), (.int .u8 0), (.int .u8 0), (.int .u8 0), (.int .u8 0), (.int .u8 0), (.int .u8 0), (.int .u8 0), (.int .u8 0), (.int .u8 0), (.int .u8 0), (.int .u8 0), (.int .u8 0), (.int .u8 0), (.int .u8 0), (.int .u8 0), (.int .u8 0), (.int .u8 0), (.int .u8 0), (.int .u8 0), (.int .u8 0), (.int .u8 0), (.int .u8 0), (.int .u8 0), (.int .u8 0), (.int .u8 0), (.int .u8 0), (.int .u8 0), (.int .u8 0), (.int .u8 0), (.int .u8 0), (.int .u8 0), (.int .u8 0), (.int .u8 0), (.int .u8 0), (.int .u8 0), (.int .u8 0), (.int .u8 0), (.int .u8 0), (.int .u8 0), (.int .u8 0), (.int .u8 0), (.int .u8 0), (.int .u8 0)])
  | _ => .un
noncomputable def envFn0 : Nat → Option Func
  | 3 => some Tryd.f3
  | 4 => some Tryd.f4
  | 5 => some Tryd.f5
  | 6 => some Tryd.f6
  | 7 => some Tryd.f7
  | 8 => some Tryd.f8
  | 9 => some Tryd.f9
  | 10 => some Tryd.f10
  | 11 => some Tryd.f11
  | 12 => some Tryd.f12
  | 13 => some Tryd.f13
  | 14 => some Tryd.f14
  | 15 => some Tryd.f15
  | 16 => some Tryd.f16
  | 17 => some Tryd.f17
  | 18 => some Tryd.f18
  | 19 => some Tryd.f19
  | 20 => some Tryd.f20
  | 21 => some Tryd.f21
  | 22 => some Tryd.f22
  | 23 => some Tryd.f23
  | 24 => some Tryd.f24
  | 25 => some Tryd.f25
  | 26 => some Tryd.f26
  | 27 => some Tryd.f27
  | 28 => some Tryd.f28
  | 29 => some Tryd.f29
  | 30 => some Tryd.f30
  | 31 => some Tryd.f31
  | 32 => some Tryd.f32
  | 33 => some Tryd.f33
  | 34 => some Tryd.f34
  | 35 => some Tryd.f35
  | 36 => some Tryd.f36
  | 37 => some Tryd.f37
  | 38 => some Tryd.f38
  | 39 => some Tryd.f39
  | 40 => some Tryd.f40
  | 41 => some Tryd.f41
  | 42 => some Tryd.f42
  | 43 => some Tryd.f43
  | 44 => some Tryd.f44
  | 45 => some Tryd.f45
  | 46 => some Tryd.f46
  | 47 => some Tryd.f47
  | 48 => some Tryd.f48
  | 49 => some Tryd.f49
  | 50 => some Tryd.f50
  | 51 => some Tryd.f51
  | 52 => some Tryd.f52
  | 53 => some Tryd.f53
  | 54 => some Tryd.f54
  | 55 => some Tryd.f55
  | 56 => some Tryd.f56
  | 57 => some Tryd.f57
  | 58 => some Tryd.f58
  | 59 => some Tryd.f59
  | 60 => some Tryd.f60
  | 61 => some Tryd.f61
  | 62 => some Tryd.f62
  | 63 => some Tryd.f63
  | 64 => some Tryd.f64
  | 65 => some Tryd.f65
  | 66 => some Tryd.f66
  | 67 => some Tryd.f67
  | 68 => some Tryd.f68
  | 69 => some Tryd.f69
  | 70 => some Tryd.f70
  | 71 => some Tryd.f71
  | 72 => some Tryd.f72
  | 73 => some Tryd.f73
  | 74 => some Tryd.f74
  | 75 => some Tryd.f75
  | 76 => some Tryd.f76
  | 77 => some Tryd.f77
  | 78 => some Tryd.f78
  | 79 => some Tryd.f79
  | 80 => some Tryd.f80
  | 81 => some Tryd.f81
  | 82 => some Tryd.f82
  | 83 => some Tryd.f83
  | 84 => some Tryd.f84
  | 85 => some Tryd.f85
  | 86 => some Tryd.f86
  | 87 => some Tryd.f87
  | 88 => some Tryd.f88
  | 89 => some Tryd.f89
  | 90 => some Tryd.f90
  | 91 => some Tryd.f91
  | 92 => some Tryd.f92
  | _ => none
noncomputable def envFn1 : Nat → Option Func
  | 93 => some Tryd.f93
  | 94 => some Tryd.f94
  | 95 => some Tryd.f95
  | 96 => some Tryd.f96
  | 97 => some Tryd.f97
  | 98 => some Tryd.f98
  | 99 => some Tryd.f99
  | 100 => some Tryd.f100
  | 101 => some Tryd.f101
  | 102 => some Tryd.f102
  | 103 => some Tryd.f103
  | 104 => some Tryd.f104
  | 105 => some Tryd.f105
  | 106 => some Tryd.f106
  | 107 => some Tryd.f107
  | 108 => some Tryd.f108
  | 109 => some Tryd.f109
  | 110 => some Tryd.f110
  | 111 => some Tryd.f111
  | 112 => some Tryd.f112
  | 113 => some Tryd.f113
  | 114 => some Tryd.f114
  | 115 => some Tryd.f115
  | 116 => some Tryd.f116
  | 117 => some Tryd.f117
  | 118 => some Tryd.f118
  | 119 => some Tryd.f119
  | 120 => some Tryd.f120
  | 121 => some Tryd.f121
  | 122 => some Tryd.f122
  | 123 => some Tryd.f123
  | 124 => some Tryd.f124
  | 125 => some Tryd.f125
  | 126 => some Tryd.f126
  | 127 => some Tryd.f127
  | 128 => some Tryd.f128
  | 129 => some Tryd.f129
  | 130 => some Tryd.f130
  | 131 => some Tryd.f131
  | 132 => some Tryd.f132
  | 133 => some Tryd.f133
  | 134 => some Tryd.f134
  | 135 => some Tryd.f135
  | 136 => some Tryd.f136
  | 137 => some Tryd.f137
  | 138 => some Tryd.f138
  | 139 => some Tryd.f139
  | 140 => some Tryd.f140
  | 141 => some Tryd.f141
  | 142 => some Tryd.f142
  | 143 => some Tryd.f143
  | 144 => some Tryd.f144
  | 145 => some Tryd.f145
  | 146 => some Tryd.f146
  | 147 => some Tryd.f147
  | 148 => some Tryd.f148
  | 149 => some Tryd.f149
  | 150 => some Tryd.f150
  | 152 => some Tryd.f152
  | 153 => some Tryd.f153
  | 154 => some Tryd.f154
  | 170 => some Tryd.f170
  | 171 => some Tryd.f171
  | 173 => some Tryd.f173
  | 174 => some Tryd.f174
  | 175 => some Tryd.f175
  | 176 => some Tryd.f176
  | _ => none
noncomputable def envFn (k : Nat) : Option Func := if k < 93 then envFn0 k else envFn1 k
def envOpen : Nat → Bool
  | 56 => true
  | 20 => true
  | 21 => true
  | 60 => true
  | 54 => true
  | 115 => true
  | 88 => true
  | 89 => true
  | 94 => true
  | 95 => true
  | 87 => true
  | 93 => true
  | 62 => true
  | _ => false
def envMat : Nat → Nat → Nat
  | 50, 51 => 4
  | 54, 32 => 2
  | 10, 9 => 3
  | 25, 8 => 3
  | 31, 8 => 3
  | 75, 9 => 3
  | 33, 4 => 1
  | 57, 8 => 1
  | 6, 29 => 3
  | 6, 33 => 3
  | _, _ => 0
noncomputable def envExt : Nat → Option (List AV → Option AV)
  | 104 => some sortF
  | 86 => some cloneCF
  | _ => none
noncomputable def env : Env := { fn := envFn, ty := envTy, size := envSize, zero := envZero, open_ := envOpen, mat := envMat, ext := envExt }
@[simp] theorem env_mat (f d : Nat) : env.mat f d = envMat f d := id rfl
attribute [simp] envMat
@[simp] theorem env_ty1 : env.ty 1 = .fn := id rfl
@[simp] theorem env_ty2 : env.ty 2 = .int .i64 := id rfl
@[simp] theorem env_size2 : env.size 2 = 1 := id rfl
@[simp] theorem env_zero2 : env.zero 2 = (.int .i64 0) := id rfl
@[simp] theorem env_ty3 : env.ty 3 = .int .i64 := id rfl
@[simp] theorem env_size3 : env.size 3 = 1 := id rfl
@[simp] theorem env_zero3 : env.zero 3 = (.int .i64 0) := id rfl
@[simp] theorem env_ty4 : env.ty 4 = .bool := id rfl
@[simp] theorem env_size4 : env.size 4 = 1 := id rfl
@[simp] theorem env_zero4 : env.zero 4 = (.bool false) := id rfl
@[simp] theorem env_ty5 : env.ty 5 = .int .u8 := id rfl
@[simp] theorem env_size5 : env.size 5 = 1 := id rfl
@[simp] theorem env_zero5 : env.zero 5 = (.int .u8 0) := id rfl
@[simp] theorem env_ty9 : env.ty 9 = .str := id rfl
@[simp] theorem env_size9 : env.size 9 = 1 := id rfl
@[simp] theorem env_zero9 : env.zero 9 = (.str ⟨#[]⟩) := id rfl
@[simp] theorem env_ty12 : env.ty 12 = .int .u64 := id rfl
@[simp] theorem env_size12 : env.size 12 = 1 := id rfl
@[simp] theorem env_zero12 : env.zero 12 = (.int .u64 0) := id rfl
@[simp] theorem env_ty21 : env.ty 21 = .int .i32 := id rfl
@[simp] theorem env_size21 : env.size 21 = 1 := id rfl
@[simp] theorem env_zero21 : env.zero 21 = (.int .i32 0) := id rfl
@[simp] theorem env_ty22 : env.ty 22 = .sl 3 := id rfl
@[simp] theorem env_size22 : env.size 22 = 1 := id rfl
@[simp] theorem env_zero22 : env.zero 22 = (.sl 0 .lit []) := id rfl
@[simp] theorem env_ty23 : env.ty 23 = .st [(0, 3), (1, 22)] := id rfl
@[simp] theorem env_size23 : env.size 23 = 2 := id rfl
@[simp] theorem env_zero23 : env.zero 23 = (.agg [(.int .i64 0), (.sl 0 .lit [])]) := id rfl
@[simp] theorem env_ty24 : env.ty 24 = .st [(0, 3), (1, 22)] := id rfl
@[simp] theorem env_size24 : env.size 24 = 2 := id rfl
@[simp] theorem env_zero24 : env.zero 24 = (.agg [(.int .i64 0), (.sl 0 .lit [])]) := id rfl
@[simp] theorem env_ty25 : env.ty 25 = .fn := id rfl
@[simp] theorem env_ty26 : env.ty 26 = .fn := id rfl
@[simp] theorem env_ty27 : env.ty 27 = .st [(0, 3), (1, 22)] := id rfl
@[simp] theorem env_size27 : env.size 27 = 2 := id rfl
@[simp] theorem env_zero27 : env.zero 27 = (.agg [(.int .i64 0), (.sl 0 .lit [])]) := id rfl
@[simp] theorem env_ty28 : env.ty 28 = .fn := id rfl
@[simp] theorem env_ty29 : env.ty 29 = .fn := id rfl
@[simp] theorem env_ty30 : env.ty 30 = .fn := id rfl
@[simp] theorem env_ty31 : env.ty 31 = .sl 57 := id rfl
@[simp] theorem env_size31 : env.size 31 = 1 := id rfl
@[simp] theorem env_zero31 : env.zero 31 = (.sl 0 .lit []) := id rfl
@[simp] theorem env_ty33 : env.ty 33 = .fn := id rfl
@[simp] theorem env_ty34 : env.ty 34 = .fn := id rfl
@[simp] theorem env_ty35 : env.ty 35 = .fn := id rfl
@[simp] theorem env_ty36 : env.ty 36 = .fn := id rfl
@[simp] theorem env_ty37 : env.ty 37 = .fn := id rfl
@[simp] theorem env_ty38 : env.ty 38 = .sl 5 := id rfl
@[simp] theorem env_size38 : env.size 38 = 1 := id rfl
@[simp] theorem env_zero38 : env.zero 38 = (.sl 0 .lit []) := id rfl
@[simp] theorem env_ty39 : env.ty 39 = .fn := id rfl
@[simp] theorem env_ty41 : env.ty 41 = .fn := id rfl
@[simp] theorem env_ty43 : env.ty 43 = .fn := id rfl
@[simp] theorem env_ty44 : env.ty 44 = .fn := id rfl
@[simp] theorem env_ty45 : env.ty 45 = .fn := id rfl
@[simp] theorem env_ty46 : env.ty 46 = .fn := id rfl
@[simp] theorem env_ty47 : env.ty 47 = .fn := id rfl
@[simp] theorem env_ty48 : env.ty 48 = .fn := id rfl
@[simp] theorem env_ty49 : env.ty 49 = .fn := id rfl
@[simp] theorem env_ty50 : env.ty 50 = .fn := id rfl
@[simp] theorem env_ty51 : env.ty 51 = .fn := id rfl
@[simp] theorem env_ty52 : env.ty 52 = .fn := id rfl
@[simp] theorem env_ty53 : env.ty 53 = .fn := id rfl
@[simp] theorem env_ty54 : env.ty 54 = .fn := id rfl
@[simp] theorem env_ty55 : env.ty 55 = .fn := id rfl
@[simp] theorem env_ty56 : env.ty 56 = .st [(0, 3), (1, 3)] := id rfl
@[simp] theorem env_size56 : env.size 56 = 2 := id rfl
@[simp] theorem env_zero56 : env.zero 56 = (.agg [(.int .i64 0), (.int .i64 0)]) := id rfl
@[simp] theorem env_ty57 : env.ty 57 = .st [(0, 3), (1, 3)] := id rfl
@[simp] theorem env_size57 : env.size 57 = 2 := id rfl
@[simp] theorem env_zero57 : env.zero 57 = (.agg [(.int .i64 0), (.int .i64 0)]) := id rfl
@[simp] theorem env_ty58 : env.ty 58 = .fn := id rfl
@[simp] theorem env_ty59 : env.ty 59 = .fn := id rfl
@[simp] theorem env_ty60 : env.ty 60 = .int .u64 := id rfl
@[simp] theorem env_size60 : env.size 60 = 1 := id rfl
@[simp] theorem env_zero60 : env.zero 60 = (.int .u64 0) := id rfl
@[simp] theorem env_ty61 : env.ty 61 = .fn := id rfl
@[simp] theorem env_ty62 : env.ty 62 = .fn := id rfl
@[simp] theorem env_ty63 : env.ty 63 = .ptr 90 := id rfl
@[simp] theorem env_ty64 : env.ty 64 = .fn := id rfl
@[simp] theorem env_ty65 : env.ty 65 = .fn := id rfl
@[simp] theorem env_ty66 : env.ty 66 = .sl 22 := id rfl
@[simp] theorem env_size66 : env.size 66 = 1 := id rfl
@[simp] theorem env_zero66 : env.zero 66 = (.sl 0 .lit []) := id rfl
@[simp] theorem env_ty67 : env.ty 67 = .fn := id rfl
@[simp] theorem env_ty68 : env.ty 68 = .sl 57 := id rfl
@[simp] theorem env_size68 : env.size 68 = 1 := id rfl
@[simp] theorem env_zero68 : env.zero 68 = (.sl 0 .lit []) := id rfl
@[simp] theorem env_ty70 : env.ty 70 = .fn := id rfl
@[simp] theorem env_ty71 : env.ty 71 = .fn := id rfl
@[simp] theorem env_ty72 : env.ty 72 = .fn := id rfl
@[simp] theorem env_ty73 : env.ty 73 = .fn := id rfl
@[simp] theorem env_ty75 : env.ty 75 = .fn := id rfl
@[simp] theorem env_ty76 : env.ty 76 = .fn := id rfl
@[simp] theorem env_ty77 : env.ty 77 = .fn := id rfl
@[simp] theorem env_ty78 : env.ty 78 = .fn := id rfl
@[simp] theorem env_ty79 : env.ty 79 = .fn := id rfl
@[simp] theorem env_ty80 : env.ty 80 = .fn := id rfl
@[simp] theorem env_ty81 : env.ty 81 = .fn := id rfl
@[simp] theorem env_ty82 : env.ty 82 = .fn := id rfl
@[simp] theorem env_ty83 : env.ty 83 = .fn := id rfl
@[simp] theorem env_ty84 : env.ty 84 = .fn := id rfl
@[simp] theorem env_ty85 : env.ty 85 = .fn := id rfl
@[simp] theorem env_ty86 : env.ty 86 = .fn := id rfl
@[simp] theorem env_ty87 : env.ty 87 = .fn := id rfl
@[simp] theorem env_ty88 : env.ty 88 = .fn := id rfl
@[simp] theorem env_ty89 : env.ty 89 = .st [(0, 38), (1, 3), (2, 3)] := id rfl
@[simp] theorem env_size89 : env.size 89 = 3 := id rfl
@[simp] theorem env_zero89 : env.zero 89 = (.agg [(.sl 0 .lit []), (.int .i64 0), (.int .i64 0)]) := id rfl
@[simp] theorem env_ty90 : env.ty 90 = .st [(0, 38), (1, 3), (2, 3)] := id rfl
@[simp] theorem env_size90 : env.size 90 = 3 := id rfl
@[simp] theorem env_zero90 : env.zero 90 = (.agg [(.sl 0 .lit []), (.int .i64 0), (.int .i64 0)]) := id rfl
@[simp] theorem env_ty91 : env.ty 91 = .fn := id rfl
@[simp] theorem env_ty92 : env.ty 92 = .fn := id rfl
@[simp] theorem env_ty93 : env.ty 93 = .fn := id rfl
@[simp] theorem env_ty94 : env.ty 94 = .fn := id rfl
@[simp] theorem env_ty95 : env.ty 95 = .fn := id rfl
@[simp] theorem env_ty96 : env.ty 96 = .fn := id rfl
@[simp] theorem env_ty97 : env.ty 97 = .fn := id rfl
@[simp] theorem env_ty98 : env.ty 98 = .fn := id rfl
@[simp] theorem env_ty99 : env.ty 99 = .fn := id rfl
@[simp] theorem env_ty100 : env.ty 100 = .fn := id rfl
@[simp] theorem env_ty101 : env.ty 101 = .fn := id rfl
@[simp] theorem env_ty102 : env.ty 102 = .fn := id rfl
@[simp] theorem env_ty103 : env.ty 103 = .fn := id rfl
@[simp] theorem env_ty104 : env.ty 104 = .fn := id rfl
@[simp] theorem env_ty105 : env.ty 105 = .fn := id rfl
@[simp] theorem env_ty106 : env.ty 106 = .fn := id rfl
@[simp] theorem env_ty107 : env.ty 107 = .int .i64 := id rfl
@[simp] theorem env_size107 : env.size 107 = 1 := id rfl
@[simp] theorem env_zero107 : env.zero 107 = (.int .i64 0) := id rfl
@[simp] theorem env_ty109 : env.ty 109 = .fn := id rfl
@[simp] theorem env_ty110 : env.ty 110 = .fn := id rfl
@[simp] theorem env_ty111 : env.ty 111 = .fn := id rfl
@[simp] theorem env_ty112 : env.ty 112 = .fn := id rfl
@[simp] theorem env_ty113 : env.ty 113 = .fn := id rfl
@[simp] theorem env_ty114 : env.ty 114 = .int .u32 := id rfl
@[simp] theorem env_size114 : env.size 114 = 1 := id rfl
@[simp] theorem env_zero114 : env.zero 114 = (.int .u32 0) := id rfl
@[simp] theorem env_ty115 : env.ty 115 = .fn := id rfl
@[simp] theorem env_ty116 : env.ty 116 = .int .u64 := id rfl
@[simp] theorem env_size116 : env.size 116 = 1 := id rfl
@[simp] theorem env_zero116 : env.zero 116 = (.int .u64 0) := id rfl
@[simp] theorem env_ty117 : env.ty 117 = .int .u64 := id rfl
@[simp] theorem env_size117 : env.size 117 = 1 := id rfl
@[simp] theorem env_zero117 : env.zero 117 = (.int .u64 0) := id rfl
@[simp] theorem env_ty118 : env.ty 118 = .fn := id rfl
@[simp] theorem env_ty119 : env.ty 119 = .fn := id rfl
@[simp] theorem env_ty120 : env.ty 120 = .fn := id rfl
@[simp] theorem env_ty121 : env.ty 121 = .ptr 3 := id rfl
@[simp] theorem env_ty122 : env.ty 122 = .fn := id rfl
@[simp] theorem env_ty123 : env.ty 123 = .arr 32 5 := id rfl
@[simp] theorem env_size123 : env.size 123 = 32 := id rfl
@[simp] theorem env_zero123 : env.zero 123 = (.agg [(.int .u8 0), (.int .u8 0), (.int .u8 0), (.int .u8 0), (.int .u8 0), (.int .u8 0), (.int .u8 0), (.int .u8 0), (.int .u8 0), (.int .u8 0), (.int .u8 0), (.int .u8 0), (.int .u8 0), (.int .u8 0), (.int .u8 0), (.int .u8 0), (.int .u8 0), (.int .u8 0), (.int .u8 0), (.int .u8 0), (.int .u8 0), (.int .u8 0), (.int .u8 0), (.int .u8 0), (.int .u8 0), (.int .u8 0), (.int .u8 0), (.int .u8 0), (.int .u8 0), (.int .u8 0), (.int .u8 0), (.int .u8 0)]) := id rfl
@[simp] theorem env_ty124 : env.ty 124 = .arr 64 5 := id rfl
@[simp] theorem env_size124 : env.size 124 = 64 := id rfl
@[simp] theorem env_zero124 : env.zero 124 = (.agg [(.int .u8 0), (.int .u8 0), (.int .u8 0), (.int .u8 0), (.int .u8 0), (.int .u8 0), (.int .u8 0), (.int .u8 0), (.int .u8 0), (.int .u8 0), (.int .u8 0), (.int .u8 0), (.int .u8 0), (.int .u8 0), (.int .u8 0), (.int .u8 0), (.int .u8 0), (.int .u8 0), (.int .u8 0), (.int .u8 0), (.int .u8 0), (.int .u8 0), (.int .u8 0), (.int .u8 0), (.int .u8 0), (.int .u8 0), (.int .u8 0), (.int .u8 0), (.int .u8 0), (.int .u8 0), (.int .u8 0), (.int .u8 0), (.int .u8 0), (.int .u8 0), (.int .u8 0), (.int .u8 0), (.int .u8 0), (.int .u8 0), (.int .u8 0), (.int .u8 0), (.int .u8 0), (.int .u8 0), (.int .u8 0), (.int .u8 0), (.int .u8 0), (.int .u8 0), (.int .u8 0), (.int .u8 0), (.int .u8 0), (.int .u8 0), (.int .u8 0), (.int .u8 0), (.int .u8 0), (.int .u8 0), (.int .u8 0), (.int .u8 0), (.int .u8 0), (.int .u8 0), (.int .u8 0), (.int .u8 0), (.int .u8 0), (.int .u8 0), (.int .u8 0), (.int .u8 0)]) := id rfl
@[simp] theorem env_ty125 : env.ty 125 = .ptr 117 := id rfl
@[simp] theorem env_ty127 : env.ty 127 = .fn := id rfl
@[simp] theorem env_ty128 : env.ty 128 = .fn := id rfl
@[simp] theorem env_ty134 : env.ty 134 = .fn := id rfl
@[simp] theorem env_ty137 : env.ty 137 = .fn := id rfl
@[simp] theorem env_ty138 : env.ty 138 = .ptr 5 := id rfl
@[simp] theorem env_ty143 : env.ty 143 = .fn := id rfl
@[simp] theorem env_open3 : env.open_ 3 = false := id rfl
@[simp] theorem env_ext3 : env.ext 3 = none := id rfl
@[simp] theorem env_open4 : env.open_ 4 = false := id rfl
@[simp] theorem env_ext4 : env.ext 4 = none := id rfl
@[simp] theorem env_open5 : env.open_ 5 = false := id rfl
@[simp] theorem env_ext5 : env.ext 5 = none := id rfl
@[simp] theorem env_open6 : env.open_ 6 = false := id rfl
@[simp] theorem env_ext6 : env.ext 6 = none := id rfl
@[simp] theorem env_open7 : env.open_ 7 = false := id rfl
@[simp] theorem env_ext7 : env.ext 7 = none := id rfl
@[simp] theorem env_open8 : env.open_ 8 = false := id rfl
@[simp] theorem env_ext8 : env.ext 8 = none := id rfl
@[simp] theorem env_open9 : env.open_ 9 = false := id rfl
@[simp] theorem env_ext9 : env.ext 9 = none := id rfl
@[simp] theorem env_open10 : env.open_ 10 = false := id rfl
@[simp] theorem env_ext10 : env.ext 10 = none := id rfl
@[simp] theorem env_open11 : env.open_ 11 = false := id rfl
@[simp] theorem env_ext11 : env.ext 11 = none := id rfl
@[simp] theorem env_open12 : env.open_ 12 = false := id rfl
@[simp] theorem env_ext12 : env.ext 12 = none := id rfl
@[simp] theorem env_open13 : env.open_ 13 = false := id rfl
@[simp] theorem env_ext13 : env.ext 13 = none := id rfl
@[simp] theorem env_open14 : env.open_ 14 = false := id rfl
@[simp] theorem env_ext14 : env.ext 14 = none := id rfl
@[simp] theorem env_open15 : env.open_ 15 = false := id rfl
@[simp] theorem env_ext15 : env.ext 15 = none := id rfl
@[simp] theorem env_open16 : env.open_ 16 = false := id rfl
@[simp] theorem env_ext16 : env.ext 16 = none := id rfl
@[simp] theorem env_open17 : env.open_ 17 = false := id rfl
@[simp] theorem env_ext17 : env.ext 17 = none := id rfl
@[simp] theorem env_open18 : env.open_ 18 = false := id rfl
@[simp] theorem env_ext18 : env.ext 18 = none := id rfl
@[simp] theorem env_open19 : env.open_ 19 = false := id rfl
@[simp] theorem env_ext19 : env.ext 19 = none := id rfl
@[simp] theorem env_open20 : env.open_ 20 = true := id rfl
@[simp] theorem env_ext20 : env.ext 20 = none := id rfl
@[simp] theorem env_open21 : env.open_ 21 = true := id rfl
@[simp] theorem env_ext21 : env.ext 21 = none := id rfl
@[simp] theorem env_open22 : env.open_ 22 = false := id rfl
@[simp] theorem env_ext22 : env.ext 22 = none := id rfl
@[simp] theorem env_open23 : env.open_ 23 = false := id rfl
@[simp] theorem env_ext23 : env.ext 23 = none := id rfl
@[simp] theorem env_open24 : env.open_ 24 = false := id rfl
@[simp] theorem env_ext24 : env.ext 24 = none := id rfl
@[simp] theorem env_open25 : env.open_ 25 = false := id rfl
@[simp] theorem env_ext25 : env.ext 25 = none := id rfl
@[simp] theorem env_open26 : env.open_ 26 = false := id rfl
@[simp] theorem env_ext26 : env.ext 26 = none := id rfl
@[simp] theorem env_open27 : env.open_ 27 = false := id rfl
@[simp] theorem env_ext27 : env.ext 27 = none := id rfl
@[simp] theorem env_open28 : env.open_ 28 = false := id rfl
@[simp] theorem env_ext28 : env.ext 28 = none := id rfl
@[simp] theorem env_open29 : env.open_ 29 = false := id rfl
@[simp] theorem env_ext29 : env.ext 29 = none := id rfl
@[simp] theorem env_open30 : env.open_ 30 = false := id rfl
@[simp] theorem env_ext30 : env.ext 30 = none := id rfl
@[simp] theorem env_open31 : env.open_ 31 = false := id rfl
@[simp] theorem env_ext31 : env.ext 31 = none := id rfl
@[simp] theorem env_open32 : env.open_ 32 = false := id rfl
@[simp] theorem env_ext32 : env.ext 32 = none := id rfl
@[simp] theorem env_open33 : env.open_ 33 = false := id rfl
@[simp] theorem env_ext33 : env.ext 33 = none := id rfl
@[simp] theorem env_open34 : env.open_ 34 = false := id rfl
@[simp] theorem env_ext34 : env.ext 34 = none := id rfl
@[simp] theorem env_open35 : env.open_ 35 = false := id rfl
@[simp] theorem env_ext35 : env.ext 35 = none := id rfl
@[simp] theorem env_open36 : env.open_ 36 = false := id rfl
@[simp] theorem env_ext36 : env.ext 36 = none := id rfl
@[simp] theorem env_open37 : env.open_ 37 = false := id rfl
@[simp] theorem env_ext37 : env.ext 37 = none := id rfl
@[simp] theorem env_open38 : env.open_ 38 = false := id rfl
@[simp] theorem env_ext38 : env.ext 38 = none := id rfl
@[simp] theorem env_open39 : env.open_ 39 = false := id rfl
@[simp] theorem env_ext39 : env.ext 39 = none := id rfl
@[simp] theorem env_open40 : env.open_ 40 = false := id rfl
@[simp] theorem env_ext40 : env.ext 40 = none := id rfl
@[simp] theorem env_open41 : env.open_ 41 = false := id rfl
@[simp] theorem env_ext41 : env.ext 41 = none := id rfl
@[simp] theorem env_open42 : env.open_ 42 = false := id rfl
@[simp] theorem env_ext42 : env.ext 42 = none := id rfl
@[simp] theorem env_open43 : env.open_ 43 = false := id rfl
@[simp] theorem env_ext43 : env.ext 43 = none := id rfl
@[simp] theorem env_open44 : env.open_ 44 = false := id rfl
@[simp] theorem env_ext44 : env.ext 44 = none := id rfl
@[simp] theorem env_open45 : env.open_ 45 = false := id rfl
@[simp] theorem env_ext45 : env.ext 45 = none := id rfl
@[simp] theorem env_open46 : env.open_ 46 = false := id rfl
@[simp] theorem env_ext46 : env.ext 46 = none := id rfl
@[simp] theorem env_open47 : env.open_ 47 = false := id rfl
@[simp] theorem env_ext47 : env.ext 47 = none := id rfl
@[simp] theorem env_open48 : env.open_ 48 = false := id rfl
@[simp] theorem env_ext48 : env.ext 48 = none := id rfl
@[simp] theorem env_open49 : env.open_ 49 = false := id rfl
@[simp] theorem env_ext49 : env.ext 49 = none := id rfl
@[simp] theorem env_open50 : env.open_ 50 = false := id rfl
@[simp] theorem env_ext50 : env.ext 50 = none := id rfl
@[simp] theorem env_open51 : env.open_ 51 = false := id rfl
@[simp] theorem env_ext51 : env.ext 51 = none := id rfl
@[simp] theorem env_open52 : env.open_ 52 = false := id rfl
@[simp] theorem env_ext52 : env.ext 52 = none := id rfl
@[simp] theorem env_open53 : env.open_ 53 = false := id rfl
@[simp] theorem env_ext53 : env.ext 53 = none := id rfl
@[simp] theorem env_open54 : env.open_ 54 = true := id rfl
@[simp] theorem env_ext54 : env.ext 54 = none := id rfl
@[simp] theorem env_open55 : env.open_ 55 = false := id rfl
@[simp] theorem env_ext55 : env.ext 55 = none := id rfl
@[simp] theorem env_open56 : env.open_ 56 = true := id rfl
@[simp] theorem env_ext56 : env.ext 56 = none := id rfl
@[simp] theorem env_open57 : env.open_ 57 = false := id rfl
@[simp] theorem env_ext57 : env.ext 57 = none := id rfl
@[simp] theorem env_open58 : env.open_ 58 = false := id rfl
@[simp] theorem env_ext58 : env.ext 58 = none := id rfl
@[simp] theorem env_open59 : env.open_ 59 = false := id rfl
@[simp] theorem env_ext59 : env.ext 59 = none := id rfl
@[simp] theorem env_open60 : env.open_ 60 = true := id rfl
@[simp] theorem env_ext60 : env.ext 60 = none := id rfl
@[simp] theorem env_open61 : env.open_ 61 = false := id rfl
@[simp] theorem env_ext61 : env.ext 61 = none := id rfl
@[simp] theorem env_open62 : env.open_ 62 = true := id rfl
@[simp] theorem env_ext62 : env.ext 62 = none := id rfl
@[simp] theorem env_open63 : env.open_ 63 = false := id rfl
@[simp] theorem env_ext63 : env.ext 63 = none := id rfl
@[simp] theorem env_open64 : env.open_ 64 = false := id rfl
@[simp] theorem env_ext64 : env.ext 64 = none := id rfl
@[simp] theorem env_open65 : env.open_ 65 = false := id rfl
@[simp] theorem env_ext65 : env.ext 65 = none := id rfl
@[simp] theorem env_open66 : env.open_ 66 = false := id rfl
@[simp] theorem env_ext66 : env.ext 66 = none := id rfl
@[simp] theorem env_open67 : env.open_ 67 = false := id rfl
@[simp] theorem env_ext67 : env.ext 67 = none := id rfl
@[simp] theorem env_open68 : env.open_ 68 = false := id rfl
@[simp] theorem env_ext68 : env.ext 68 = none := id rfl
@[simp] theorem env_open69 : env.open_ 69 = false := id rfl
@[simp] theorem env_ext69 : env.ext 69 = none := id rfl
@[simp] theorem env_open70 : env.open_ 70 = false := id rfl
@[simp] theorem env_ext70 : env.ext 70 = none := id rfl
@[simp] theorem env_open71 : env.open_ 71 = false := id rfl
@[simp] theorem env_ext71 : env.ext 71 = none := id rfl
@[simp] theorem env_open72 : env.open_ 72 = false := id rfl
@[simp] theorem env_ext72 : env.ext 72 = none := id rfl
@[simp] theorem env_open73 : env.open_ 73 = false := id rfl
@[simp] theorem env_ext73 : env.ext 73 = none := id rfl
@[simp] theorem env_open74 : env.open_ 74 = false := id rfl
@[simp] theorem env_ext74 : env.ext 74 = none := id rfl
@[simp] theorem env_open75 : env.open_ 75 = false := id rfl
@[simp] theorem env_ext75 : env.ext 75 = none := id rfl
@[simp] theorem env_open76 : env.open_ 76 = false := id rfl
@[simp] theorem env_ext76 : env.ext 76 = none := id rfl
@[simp] theorem env_open77 : env.open_ 77 = false := id rfl
@[simp] theorem env_ext77 : env.ext 77 = none := id rfl
@[simp] theorem env_open78 : env.open_ 78 = false := id rfl
@[simp] theorem env_ext78 : env.ext 78 = none := id rfl
@[simp] theorem env_open79 : env.open_ 79 = false := id rfl
@[simp] theorem env_ext79 : env.ext 79 = none := id rfl
@[simp] theorem env_open80 : env.open_ 80 = false := id rfl
@[simp] theorem env_ext80 : env.ext 80 = none := id rfl
@[simp] theorem env_open81 : env.open_ 81 = false := id rfl
@[simp] theorem env_ext81 : env.ext 81 = none := id rfl
@[simp] theorem env_open82 : env.open_ 82 = false := id rfl
@[simp] theorem env_ext82 : env.ext 82 = none := id rfl
@[simp] theorem env_open83 : env.open_ 83 = false := id rfl
@[simp] theorem env_ext83 : env.ext 83 = none := id rfl
@[simp] theorem env_open84 : env.open_ 84 = false := id rfl
@[simp] theorem env_ext84 : env.ext 84 = none := id rfl
@[simp] theorem env_open85 : env.open_ 85 = false := id rfl
@[simp] theorem env_ext85 : env.ext 85 = none := id rfl
@[simp] theorem env_open86 : env.open_ 86 = false := id rfl
@[simp] theorem env_ext86 : env.ext 86 = some cloneCF := id rfl
@[simp] theorem env_open87 : env.open_ 87 = true := id rfl
@[simp] theorem env_ext87 : env.ext 87 = none := id rfl
@[simp] theorem env_open88 : env.open_ 88 = true := id rfl
@[simp] theorem env_ext88 : env.ext 88 = none := id rfl
@[simp] theorem env_open89 : env.open_ 89 = true := id rfl
@[simp] theorem env_ext89 : env.ext 89 = none := id rfl
@[simp] theorem env_open90 : env.open_ 90 = false := id rfl
@[simp] theorem env_ext90 : env.ext 90 = none := id rfl
@[simp] theorem env_open91 : env.open_ 91 = false := id rfl
@[simp] theorem env_ext91 : env.ext 91 = none := id rfl
@[simp] theorem env_open92 : env.open_ 92 = false := id rfl
@[simp] theorem env_ext92 : env.ext 92 = none := id rfl
@[simp] theorem env_open93 : env.open_ 93 = true := id rfl
@[simp] theorem env_ext93 : env.ext 93 = none := id rfl
@[simp] theorem env_open94 : env.open_ 94 = true := id rfl
@[simp] theorem env_ext94 : env.ext 94 = none := id rfl
@[simp] theorem env_open95 : env.open_ 95 = true := id rfl
@[simp] theorem env_ext95 : env.ext 95 = none := id rfl
@[simp] theorem env_open96 : env.open_ 96 = false := id rfl
@[simp] theorem env_ext96 : env.ext 96 = none := id rfl
@[simp] theorem env_open97 : env.open_ 97 = false := id rfl
@[simp] theorem env_ext97 : env.ext 97 = none := id rfl
@[simp] theorem env_open98 : env.open_ 98 = false := id rfl
@[simp] theorem env_ext98 : env.ext 98 = none := id rfl
@[simp] theorem env_open99 : env.open_ 99 = false := id rfl
@[simp] theorem env_ext99 : env.ext 99 = none := id rfl
@[simp] theorem env_open100 : env.open_ 100 = false := id rfl
@[simp] theorem env_ext100 : env.ext 100 = none := id rfl
@[simp] theorem env_open101 : env.open_ 101 = false := id rfl
@[simp] theorem env_ext101 : env.ext 101 = none := id rfl
@[simp] theorem env_open102 : env.open_ 102 = false := id rfl
@[simp] theorem env_ext102 : env.ext 102 = none := id rfl
@[simp] theorem env_open103 : env.open_ 103 = false := id rfl
@[simp] theorem env_ext103 : env.ext 103 = none := id rfl
@[simp] theorem env_open104 : env.open_ 104 = false := id rfl
@[simp] theorem env_ext104 : env.ext 104 = some sortF := id rfl
@[simp] theorem env_open105 : env.open_ 105 = false := id rfl
@[simp] theorem env_ext105 : env.ext 105 = none := id rfl
@[simp] theorem env_open106 : env.open_ 106 = false := id rfl
@[simp] theorem env_ext106 : env.ext 106 = none := id rfl
@[simp] theorem env_open107 : env.open_ 107 = false := id rfl
@[simp] theorem env_ext107 : env.ext 107 = none := id rfl
@[simp] theorem env_open108 : env.open_ 108 = false := id rfl
@[simp] theorem env_ext108 : env.ext 108 = none := id rfl
@[simp] theorem env_open109 : env.open_ 109 = false := id rfl
@[simp] theorem env_ext109 : env.ext 109 = none := id rfl
@[simp] theorem env_open110 : env.open_ 110 = false := id rfl
@[simp] theorem env_ext110 : env.ext 110 = none := id rfl
@[simp] theorem env_open111 : env.open_ 111 = false := id rfl
@[simp] theorem env_ext111 : env.ext 111 = none := id rfl
@[simp] theorem env_open112 : env.open_ 112 = false := id rfl
@[simp] theorem env_ext112 : env.ext 112 = none := id rfl
@[simp] theorem env_open113 : env.open_ 113 = false := id rfl
@[simp] theorem env_ext113 : env.ext 113 = none := id rfl
@[simp] theorem env_open114 : env.open_ 114 = false := id rfl
@[simp] theorem env_ext114 : env.ext 114 = none := id rfl
@[simp] theorem env_open115 : env.open_ 115 = true := id rfl
@[simp] theorem env_ext115 : env.ext 115 = none := id rfl
@[simp] theorem env_open116 : env.open_ 116 = false := id rfl
@[simp] theorem env_ext116 : env.ext 116 = none := id rfl
@[simp] theorem env_open117 : env.open_ 117 = false := id rfl
@[simp] theorem env_ext117 : env.ext 117 = none := id rfl
@[simp] theorem env_open118 : env.open_ 118 = false := id rfl
@[simp] theorem env_ext118 : env.ext 118 = none := id rfl
@[simp] theorem env_open119 : env.open_ 119 = false := id rfl
@[simp] theorem env_ext119 : env.ext 119 = none := id rfl
@[simp] theorem env_open120 : env.open_ 120 = false := id rfl
@[simp] theorem env_ext120 : env.ext 120 = none := id rfl
@[simp] theorem env_open121 : env.open_ 121 = false := id rfl
@[simp] theorem env_ext121 : env.ext 121 = none := id rfl
@[simp] theorem env_open122 : env.open_ 122 = false := id rfl
@[simp] theorem env_ext122 : env.ext 122 = none := id rfl
@[simp] theorem env_open123 : env.open_ 123 = false := id rfl
@[simp] theorem env_ext123 : env.ext 123 = none := id rfl
@[simp] theorem env_open124 : env.open_ 124 = false := id rfl
@[simp] theorem env_ext124 : env.ext 124 = none := id rfl
@[simp] theorem env_open125 : env.open_ 125 = false := id rfl
@[simp] theorem env_ext125 : env.ext 125 = none := id rfl
@[simp] theorem env_open126 : env.open_ 126 = false := id rfl
@[simp] theorem env_ext126 : env.ext 126 = none := id rfl
@[simp] theorem env_open127 : env.open_ 127 = false := id rfl
@[simp] theorem env_ext127 : env.ext 127 = none := id rfl
@[simp] theorem env_open128 : env.open_ 128 = false := id rfl
@[simp] theorem env_ext128 : env.ext 128 = none := id rfl
@[simp] theorem env_open129 : env.open_ 129 = false := id rfl
@[simp] theorem env_ext129 : env.ext 129 = none := id rfl
@[simp] theorem env_open130 : env.open_ 130 = false := id rfl
@[simp] theorem env_ext130 : env.ext 130 = none := id rfl
@[simp] theorem env_open131 : env.open_ 131 = false := id rfl
@[simp] theorem env_ext131 : env.ext 131 = none := id rfl
@[simp] theorem env_open132 : env.open_ 132 = false := id rfl
@[simp] theorem env_ext132 : env.ext 132 = none := id rfl
@[simp] theorem env_open133 : env.open_ 133 = false := id rfl
@[simp] theorem env_ext133 : env.ext 133 = none := id rfl
@[simp] theorem env_open134 : env.open_ 134 = false := id rfl
@[simp] theorem env_ext134 : env.ext 134 = none := id rfl
@[simp] theorem env_open135 : env.open_ 135 = false := id rfl
@[simp] theorem env_ext135 : env.ext 135 = none := id rfl
@[simp] theorem env_open136 : env.open_ 136 = false := id rfl
@[simp] theorem env_ext136 : env.ext 136 = none := id rfl
@[simp] theorem env_open137 : env.open_ 137 = false := id rfl
@[simp] theorem env_ext137 : env.ext 137 = none := id rfl
@[simp] theorem env_open138 : env.open_ 138 = false := id rfl
@[simp] theorem env_ext138 : env.ext 138 = none := id rfl
@[simp] theorem env_open139 : env.open_ 139 = false := id rfl
@[simp] theorem env_ext139 : env.ext 139 = none := id rfl
@[simp] theorem env_open140 : env.open_ 140 = false := id rfl
@[simp] theorem env_ext140 : env.ext 140 = none := id rfl
@[simp] theorem env_open141 : env.open_ 141 = false := id rfl
@[simp] theorem env_ext141 : env.ext 141 = none := id rfl
@[simp] theorem env_open142 : env.open_ 142 = false := id rfl
@[simp] theorem env_ext142 : env.ext 142 = none := id rfl
@[simp] theorem env_open143 : env.open_ 143 = false := id rfl
@[simp] theorem env_ext143 : env.ext 143 = none := id rfl
@[simp] theorem env_open144 : env.open_ 144 = false := id rfl
@[simp] theorem env_ext144 : env.ext 144 = none := id rfl
@[simp] theorem env_open145 : env.open_ 145 = false := id rfl
@[simp] theorem env_ext145 : env.ext 145 = none := id rfl
@[simp] theorem env_open146 : env.open_ 146 = false := id rfl
@[simp] theorem env_ext146 : env.ext 146 = none := id rfl
@[simp] theorem env_open147 : env.open_ 147 = false := id rfl
@[simp] theorem env_ext147 : env.ext 147 = none := id rfl
@[simp] theorem env_open148 : env.open_ 148 = false := id rfl
@[simp] theorem env_ext148 : env.ext 148 = none := id rfl
@[simp] theorem env_open149 : env.open_ 149 = false := id rfl
@[simp] theorem env_ext149 : env.ext 149 = none := id rfl
@[simp] theorem env_open150 : env.open_ 150 = false := id rfl
@[simp] theorem env_ext150 : env.ext 150 = none := id rfl
@[simp] theorem env_open152 : env.open_ 152 = false := id rfl
@[simp] theorem env_ext152 : env.ext 152 = none := id rfl
@[simp] theorem env_open153 : env.open_ 153 = false := id rfl
@[simp] theorem env_ext153 : env.ext 153 = none := id rfl
@[simp] theorem env_open154 : env.open_ 154 = false := id rfl
@[simp] theorem env_ext154 : env.ext 154 = none := id rfl
@[simp] theorem env_open170 : env.open_ 170 = false := id rfl
@[simp] theorem env_ext170 : env.ext 170 = none := id rfl
@[simp] theorem env_open171 : env.open_ 171 = false := id rfl
@[simp] theorem env_ext171 : env.ext 171 = none := id rfl
@[simp] theorem env_open173 : env.open_ 173 = false := id rfl
@[simp] theorem env_ext173 : env.ext 173 = none := id rfl
@[simp] theorem env_open174 : env.open_ 174 = false := id rfl
@[simp] theorem env_ext174 : env.ext 174 = none := id rfl
@[simp] theorem env_open175 : env.open_ 175 = false := id rfl
@[simp] theorem env_ext175 : env.ext 175 = none := id rfl
@[simp] theorem env_open176 : env.open_ 176 = false := id rfl
@[simp] theorem env_ext176 : env.ext 176 = none := id rfl
theorem info2 : (Tryd.prog.info? 2).map (fun i => (i.size, i.bytes, i.zero)) = some (1, 8, some (.int .i64 0)) := by kernel_rfl
theorem info3 : (Tryd.prog.info? 3).map (fun i => (i.size, i.bytes, i.zero)) = some (1, 8, some (.int .i64 0)) := by kernel_rfl
theorem info4 : (Tryd.prog.info? 4).map (fun i => (i.size, i.bytes, i.zero)) = some (1, 1, some (.bool false)) := by kernel_rfl
theorem info5 : (Tryd.prog.info? 5).map (fun i => (i.size, i.bytes, i.zero)) = some (1, 1, some (.int .u8 0)) := by kernel_rfl
theorem info9 : (Tryd.prog.info? 9).map (fun i => (i.size, i.bytes, i.zero)) = some (1, 16, some (.string ⟨#[]⟩)) := by kernel_rfl
theorem info12 : (Tryd.prog.info? 12).map (fun i => (i.size, i.bytes, i.zero)) = some (1, 8, some (.int .u64 0)) := by kernel_rfl
theorem info21 : (Tryd.prog.info? 21).map (fun i => (i.size, i.bytes, i.zero)) = some (1, 4, some (.int .i32 0)) := by kernel_rfl
theorem info22 : (Tryd.prog.info? 22).map (fun i => (i.size, i.bytes, i.zero)) = some (1, 24, some (.slice none 0 0)) := by kernel_rfl
theorem info23 : (Tryd.prog.info? 23).map (fun i => (i.size, i.bytes, i.zero)) = some (2, 32, some (.agg #[(.int .i64 0), (.slice none 0 0)])) := by kernel_rfl
theorem info24 : (Tryd.prog.info? 24).map (fun i => (i.size, i.bytes, i.zero)) = some (2, 32, some (.agg #[(.int .i64 0), (.slice none 0 0)])) := by kernel_rfl
theorem info27 : (Tryd.prog.info? 27).map (fun i => (i.size, i.bytes, i.zero)) = some (2, 32, some (.agg #[(.int .i64 0), (.slice none 0 0)])) := by kernel_rfl
theorem info31 : (Tryd.prog.info? 31).map (fun i => (i.size, i.bytes, i.zero)) = some (1, 24, some (.slice none 0 0)) := by kernel_rfl
theorem info38 : (Tryd.prog.info? 38).map (fun i => (i.size, i.bytes, i.zero)) = some (1, 24, some (.slice none 0 0)) := by kernel_rfl
theorem info56 : (Tryd.prog.info? 56).map (fun i => (i.size, i.bytes, i.zero)) = some (2, 16, some (.agg #[(.int .i64 0), (.int .i64 0)])) := by kernel_rfl
theorem info57 : (Tryd.prog.info? 57).map (fun i => (i.size, i.bytes, i.zero)) = some (2, 16, some (.agg #[(.int .i64 0), (.int .i64 0)])) := by kernel_rfl
theorem info60 : (Tryd.prog.info? 60).map (fun i => (i.size, i.bytes, i.zero)) = some (1, 8, some (.int .u64 0)) := by kernel_rfl
theorem info66 : (Tryd.prog.info? 66).map (fun i => (i.size, i.bytes, i.zero)) = some (1, 24, some (.slice none 0 0)) := by kernel_rfl
theorem info68 : (Tryd.prog.info? 68).map (fun i => (i.size, i.bytes, i.zero)) = some (1, 24, some (.slice none 0 0)) := by kernel_rfl
theorem info89 : (Tryd.prog.info? 89).map (fun i => (i.size, i.bytes, i.zero)) = some (3, 40, some (.agg #[(.slice none 0 0), (.int .i64 0), (.int .i64 0)])) := by kernel_rfl
theorem info90 : (Tryd.prog.info? 90).map (fun i => (i.size, i.bytes, i.zero)) = some (3, 40, some (.agg #[(.slice none 0 0), (.int .i64 0), (.int .i64 0)])) := by kernel_rfl
theorem info107 : (Tryd.prog.info? 107).map (fun i => (i.size, i.bytes, i.zero)) = some (1, 8, some (.int .i64 0)) := by kernel_rfl
theorem info114 : (Tryd.prog.info? 114).map (fun i => (i.size, i.bytes, i.zero)) = some (1, 4, some (.int .u32 0)) := by kernel_rfl
theorem info116 : (Tryd.prog.info? 116).map (fun i => (i.size, i.bytes, i.zero)) = some (1, 8, some (.int .u64 0)) := by kernel_rfl
theorem info117 : (Tryd.prog.info? 117).map (fun i => (i.size, i.bytes, i.zero)) = some (1, 8, some (.int .u64 0)) := by kernel_rfl
theorem info123 : (Tryd.prog.info? 123).map (fun i => (i.size, i.bytes, i.zero)) = some (32, 32, some (.agg #[(.int .u8 0), (.int .u8 0), (.int .u8 0), (.int .u8 0), (.int .u8 0), (.int .u8 0), (.int .u8 0), (.int .u8 0), (.int .u8 0), (.int .u8 0), (.int .u8 0), (.int .u8 0), (.int .u8 0), (.int .u8 0), (.int .u8 0), (.int .u8 0), (.int .u8 0), (.int .u8 0), (.int .u8 0), (.int .u8 0), (.int .u8 0), (.int .u8 0), (.int .u8 0), (.int .u8 0), (.int .u8 0), (.int .u8 0), (.int .u8 0), (.int .u8 0), (.int .u8 0), (.int .u8 0), (.int .u8 0), (.int .u8 0)])) := by kernel_rfl
theorem info124 : (Tryd.prog.info? 124).map (fun i => (i.size, i.bytes, i.zero)) = some (64, 64, some (.agg #[(.int .u8 0), (.int .u8 0), (.int .u8 0), (.int .u8 0), (.int .u8 0), (.int .u8 0), (.int .u8 0), (.int .u8 0), (.int .u8 0), (.int .u8 0), (.int .u8 0), (.int .u8 0), (.int .u8 0), (.int .u8 0), (.int .u8 0), (.int .u8 0), (.int .u8 0), (.int .u8 0), (.int .u8 0), (.int .u8 0), (.int .u8 0), (.int .u8 0), (.int .u8 0), (.int .u8 0), (.int .u8 0), (.int .u8 0), (.int .u8 0), (.int .u8 0), (.int .u8 0), (.int .u8 0), (.int .u8 0), (.int .u8 0), (.int .u8 0), (.int .u8 0), (.int .u8 0), (.int .u8 0), (.int .u8 0), (.int .u8 0), (.int .u8 0), (.int .u8 0), (.int .u8 0), (.int .u8 0), (.int .u8 0), (.int .u8 0), (.int .u8 0), (.int .u8 0), (.int .u8 0), (.int .u8 0), (.int .u8 0), (.int .u8 0), (.int .u8 0), (.int .u8 0), (.int .u8 0), (.int .u8 0), (.int .u8 0), (.int .u8 0), (.int .u8 0), (.int .u8 0), (.int .u8 0), (.int .u8 0), (.int .u8 0), (.int .u8 0), (.int .u8 0), (.int .u8 0)])) := by kernel_rfl
theorem env_parts {t s b : Nat} {z : Value} {a : AV} (hi : (Tryd.prog.info? t).map (fun i => (i.size, i.bytes, i.zero)) = some (s, b, some z)) (hb : b ≤ 131072) (hz : ∀ c, VR a c z) (hl : a.cells.length = s) (ho : a.cells.all AV.one = true) :
    ∃ i z, Tryd.prog.info? t = some i ∧ i.size = s ∧ i.bytes ≤ 131072 ∧ i.zero = some z ∧ (∀ c, VR a c z) ∧ a.cells.length = s ∧ a.cells.all AV.one = true := by
  rw [Option.map_eq_some_iff] at hi
  obtain ⟨i, h1, h2⟩ := hi
  obtain ⟨rfl, h3⟩ := Prod.mk.inj h2
  obtain ⟨rfl, h4⟩ := Prod.mk.inj h3
  exact ⟨i, z, h1, rfl, hb, h4, hz, hl, ho⟩
theorem vr_nil (c : Cx) : VR (.sl 0 .lit []) c (.slice none 0 0) := by simp only [VR]; exact ⟨none, 0, rfl, Nat.le_refl _, Nat.zero_le _, fun _ => rfl, fun h => (h rfl).elim, rfl⟩
theorem vz_agg {c : Cx} {cs : List AV} {rc : List Value} (h : VRl cs c rc) : VR (.agg cs) c (.agg rc.toArray) := by simp only [VR]; exact ⟨_, rfl, h⟩
theorem vz_int {c : Cx} {k : IntKind} {n : Int} : VR (.int k n) c (.int k n) := by simp only [VR]
theorem vz_bool {c : Cx} {b : Bool} : VR (.bool b) c (.bool b) := by simp only [VR]
theorem vz_str {c : Cx} {s : ByteArray} : VR (.str s) c (.string s) := by simp only [VR]
theorem vz_nilf {c : Cx} : VR .nilf c .nilFunc := by simp only [VR]
theorem vz_nil {c : Cx} : VRl [] c [] := by simp only [VRl]
theorem vz_cons {c : Cx} {x : AV} {xs : List AV} {v : Value} {vs : List Value} (h : VR x c v) (t : VRl xs c vs) : VRl (x :: xs) c (v :: vs) := by simp only [VRl]; exact ⟨_, _, rfl, h, t⟩
set_option maxRecDepth 100000 in
theorem env_tys : ∀ t, envTy t ≠ .other → ∃ d, Tryd.prog.underlying t = some d ∧ TD.of d = envTy t := by
  intro t h
  unfold envTy at h ⊢
  split at h
  · exact ⟨_, Tryd.underlying1, rfl⟩
  · exact ⟨_, Tryd.underlying2, rfl⟩
  · exact ⟨_, Tryd.underlying3, rfl⟩
  · exact ⟨_, Tryd.underlying4, rfl⟩
  · exact ⟨_, Tryd.underlying5, rfl⟩
  · exact ⟨_, Tryd.underlying9, rfl⟩
  · exact ⟨_, Tryd.underlying12, rfl⟩
  · exact ⟨_, Tryd.underlying21, rfl⟩
  · exact ⟨_, Tryd.underlying22, rfl⟩
  · exact ⟨_, Tryd.underlying23, rfl⟩
  · exact ⟨_, Tryd.underlying24, rfl⟩
  · exact ⟨_, Tryd.underlying25, rfl⟩
  · exact ⟨_, Tryd.underlying26, rfl⟩
  · exact ⟨_, Tryd.underlying27, rfl⟩
  · exact ⟨_, Tryd.underlying28, rfl⟩
  · exact ⟨_, Tryd.underlying29, rfl⟩
  · exact ⟨_, Tryd.underlying30, rfl⟩
  · exact ⟨_, Tryd.underlying31, rfl⟩
  · exact ⟨_, Tryd.underlying33, rfl⟩
  · exact ⟨_, Tryd.underlying34, rfl⟩
  · exact ⟨_, Tryd.underlying35, rfl⟩
  · exact ⟨_, Tryd.underlying36, rfl⟩
  · exact ⟨_, Tryd.underlying37, rfl⟩
  · exact ⟨_, Tryd.underlying38, rfl⟩
  · exact ⟨_, Tryd.underlying39, rfl⟩
  · exact ⟨_, Tryd.underlying41, rfl⟩
  · exact ⟨_, Tryd.underlying43, rfl⟩
  · exact ⟨_, Tryd.underlying44, rfl⟩
  · exact ⟨_, Tryd.underlying45, rfl⟩
  · exact ⟨_, Tryd.underlying46, rfl⟩
  · exact ⟨_, Tryd.underlying47, rfl⟩
  · exact ⟨_, Tryd.underlying48, rfl⟩
  · exact ⟨_, Tryd.underlying49, rfl⟩
  · exact ⟨_, Tryd.underlying50, rfl⟩
  · exact ⟨_, Tryd.underlying51, rfl⟩
  · exact ⟨_, Tryd.underlying52, rfl⟩
  · exact ⟨_, Tryd.underlying53, rfl⟩
  · exact ⟨_, Tryd.underlying54, rfl⟩
  · exact ⟨_, Tryd.underlying55, rfl⟩
  · exact ⟨_, Tryd.underlying56, rfl⟩
  · exact ⟨_, Tryd.underlying57, rfl⟩
  · exact ⟨_, Tryd.underlying58, rfl⟩
  · exact ⟨_, Tryd.underlying59, rfl⟩
  · exact ⟨_, Tryd.underlying60, rfl⟩
  · exact ⟨_, Tryd.underlying61, rfl⟩
  · exact ⟨_, Tryd.underlying62, rfl⟩
  · exact ⟨_, Tryd.underlying63, rfl⟩
  · exact ⟨_, Tryd.underlying64, rfl⟩
  · exact ⟨_, Tryd.underlying65, rfl⟩
  · exact ⟨_, Tryd.underlying66, rfl⟩
  · exact ⟨_, Tryd.underlying67, rfl⟩
  · exact ⟨_, Tryd.underlying68, rfl⟩
  · exact ⟨_, Tryd.underlying70, rfl⟩
  · exact ⟨_, Tryd.underlying71, rfl⟩
  · exact ⟨_, Tryd.underlying72, rfl⟩
  · exact ⟨_, Tryd.underlying73, rfl⟩
  · exact ⟨_, Tryd.underlying75, rfl⟩
  · exact ⟨_, Tryd.underlying76, rfl⟩
  · exact ⟨_, Tryd.underlying77, rfl⟩
  · exact ⟨_, Tryd.underlying78, rfl⟩
  · exact ⟨_, Tryd.underlying79, rfl⟩
  · exact ⟨_, Tryd.underlying80, rfl⟩
  · exact ⟨_, Tryd.underlying81, rfl⟩
  · exact ⟨_, Tryd.underlying82, rfl⟩
  · exact ⟨_, Tryd.underlying83, rfl⟩
  · exact ⟨_, Tryd.underlying84, rfl⟩
  · exact ⟨_, Tryd.underlying85, rfl⟩
  · exact ⟨_, Tryd.underlying86, rfl⟩
  · exact ⟨_, Tryd.underlying87, rfl⟩
  · exact ⟨_, Tryd.underlying88, rfl⟩
  · exact ⟨_, Tryd.underlying89, rfl⟩
  · exact ⟨_, Tryd.underlying90, rfl⟩
  · exact ⟨_, Tryd.underlying91, rfl⟩
  · exact ⟨_, Tryd.underlying92, rfl⟩
  · exact ⟨_, Tryd.underlying93, rfl⟩
  · exact ⟨_, Tryd.underlying94, rfl⟩
  · exact ⟨_, Tryd.underlying95, rfl⟩
  · exact ⟨_, Tryd.underlying96, rfl⟩
  · exact ⟨_, Tryd.underlying97, rfl⟩
  · exact ⟨_, Tryd.underlying98, rfl⟩
  · exact ⟨_, Tryd.underlying99, rfl⟩
  · exact ⟨_, Tryd.underlying100, rfl⟩
  · exact ⟨_, Tryd.underlying101, rfl⟩
  · exact ⟨_, Tryd.underlying102, rfl⟩
  · exact ⟨_, Tryd.underlying103, rfl⟩
  · exact ⟨_, Tryd.underlying104, rfl⟩
  · exact ⟨_, Tryd.underlying105, rfl⟩
  · exact ⟨_, Tryd.underlying106, rfl⟩
  · exact ⟨_, Tryd.underlying107, rfl⟩
  · exact ⟨_, Tryd.underlying109, rfl⟩
  · exact ⟨_, Tryd.underlying110, rfl⟩
  · exact ⟨_, Tryd.underlying111, rfl⟩
  · exact ⟨_, Tryd.underlying112, rfl⟩
  · exact ⟨_, Tryd.underlying113, rfl⟩
  · exact ⟨_, Tryd.underlying114, rfl⟩
  · exact ⟨_, Tryd.underlying115, rfl⟩
  · exact ⟨_, Tryd.underlying116, rfl⟩
  · exact ⟨_, Tryd.underlying117, rfl⟩
  · exact ⟨_, Tryd.underlying118, rfl⟩
  · exact ⟨_, Tryd.underlying119, rfl⟩
  · exact ⟨_, Tryd.underlying120, rfl⟩
  · exact ⟨_, Tryd.underlying121, rfl⟩
  · exact ⟨_, Tryd.underlying122, rfl⟩
  · exact ⟨_, Tryd.underlying123, rfl⟩
  · exact ⟨_, Tryd.underlying124, rfl⟩
  · exact ⟨_, Tryd.underlying125, rfl⟩
  · exact ⟨_, Tryd.underlying127, rfl⟩
  · exact ⟨_, Tryd.underlying128, rfl⟩
  · exact ⟨_, Tryd.underlying134, rfl⟩
  · exact ⟨_, Tryd.underlying137, rfl⟩
  · exact ⟨_, Tryd.underlying138, rfl⟩
  · exact ⟨_, Tryd.underlying143, rfl⟩
  · exact (h rfl).elim
set_option maxRecDepth 100000 in
theorem env_sizes : ∀ t, envSize t ≠ 0 → ∃ i z, Tryd.prog.info? t = some i ∧ i.size = envSize t ∧ i.bytes ≤ 131072 ∧ i.zero = some z ∧ (∀ c, VR (envZero t) c z) ∧ (envZero t).cells.length = envSize t ∧ (envZero t).cells.all AV.one = true := by
  intro t h
  unfold envSize at h
  split at h
  · exact env_parts info2 (by decide) (fun c => vz_int) rfl rfl
  · exact env_parts info3 (by decide) (fun c => vz_int) rfl rfl
  · exact env_parts info4 (by decide) (fun c => vz_bool) rfl rfl
  · exact env_parts info5 (by decide) (fun c => vz_int) rfl rfl
  · exact env_parts info9 (by decide) (fun c => vz_str) rfl rfl
  · exact env_parts info12 (by decide) (fun c => vz_int) rfl rfl
  · exact env_parts info21 (by decide) (fun c => vz_int) rfl rfl
  · exact env_parts info22 (by decide) (fun c => (vr_nil c)) rfl rfl
  · exact env_parts info23 (by decide) (fun c => (vz_agg (vz_cons vz_int (vz_cons (vr_nil c) vz_nil)))) rfl rfl
  · exact env_parts info24 (by decide) (fun c => (vz_agg (vz_cons vz_int (vz_cons (vr_nil c) vz_nil)))) rfl rfl
  · exact env_parts info27 (by decide) (fun c => (vz_agg (vz_cons vz_int (vz_cons (vr_nil c) vz_nil)))) rfl rfl
  · exact env_parts info31 (by decide) (fun c => (vr_nil c)) rfl rfl
  · exact env_parts info38 (by decide) (fun c => (vr_nil c)) rfl rfl
  · exact env_parts info56 (by decide) (fun c => (vz_agg (vz_cons vz_int (vz_cons vz_int vz_nil)))) rfl rfl
  · exact env_parts info57 (by decide) (fun c => (vz_agg (vz_cons vz_int (vz_cons vz_int vz_nil)))) rfl rfl
  · exact env_parts info60 (by decide) (fun c => vz_int) rfl rfl
  · exact env_parts info66 (by decide) (fun c => (vr_nil c)) rfl rfl
  · exact env_parts info68 (by decide) (fun c => (vr_nil c)) rfl rfl
  · exact env_parts info89 (by decide) (fun c => (vz_agg (vz_cons (vr_nil c) (vz_cons vz_int (vz_cons vz_int vz_nil))))) rfl rfl
  · exact env_parts info90 (by decide) (fun c => (vz_agg (vz_cons (vr_nil c) (vz_cons vz_int (vz_cons vz_int vz_nil))))) rfl rfl
  · exact env_parts info107 (by decide) (fun c => vz_int) rfl rfl
  · exact env_parts info114 (by decide) (fun c => vz_int) rfl rfl
  · exact env_parts info116 (by decide) (fun c => vz_int) rfl rfl
  · exact env_parts info117 (by decide) (fun c => vz_int) rfl rfl
  · exact env_parts info123 (by decide) (fun c => (vz_agg (vz_cons vz_int (vz_cons vz_int (vz_cons vz_int (vz_cons vz_int (vz_cons vz_int (vz_cons vz_int (vz_cons vz_int (vz_cons vz_int (vz_cons vz_int (vz_cons vz_int (vz_cons vz_int (vz_cons vz_int (vz_cons vz_int (vz_cons vz_int (vz_cons vz_int (vz_cons vz_int (vz_cons vz_int (vz_cons vz_int (vz_cons vz_int (vz_cons vz_int (vz_cons vz_int (vz_cons vz_int (vz_cons vz_int (vz_cons vz_int (vz_cons vz_int (vz_cons vz_int (vz_cons vz_int (vz_cons vz_int (vz_cons vz_int (vz_cons vz_int (vz_cons vz_int (vz_cons vz_int vz_nil)))))))))))))))))))))))))))))))))) rfl rfl
  · exact env_parts info124 (by decide) (fun c => (vz_agg (vz_cons vz_int (vz_cons vz_int (vz_cons vz_int (vz_cons vz_int (vz_cons vz_int (vz_cons vz_int (vz_cons vz_int (vz_cons vz_int (vz_cons vz_int (vz_cons vz_int (vz_cons vz_int (vz_cons vz_int (vz_cons vz_int (vz_cons vz_int (vz_cons vz_int (vz_cons vz_int (vz_cons vz_int (vz_cons vz_int (vz_cons vz_int (vz_cons vz_int (vz_cons vz_int (vz_cons vz_int (vz_cons vz_int (vz_cons vz_int (vz_cons vz_int (vz_cons vz_int (vz_cons vz_int (vz_cons vz_int (vz_cons vz_int (vz_cons vz_int (vz_cons vz_int (vz_cons vz_int (vz_cons vz_int (vz_cons vz_int (vz_cons vz_int (vz_cons vz_int (vz_cons vz_int (vz_cons vz_int (vz_cons vz_int (vz_cons vz_int (vz_cons vz_int (vz_cons vz_int (vz_cons vz_int (vz_cons vz_int (vz_cons vz_int (vz_cons vz_int (vz_cons vz_int (vz_cons vz_int (vz_cons vz_int (vz_cons vz_int (vz_cons vz_int (vz_cons vz_int (vz_cons vz_int (vz_cons vz_int (vz_cons vz_int (vz_cons vz_int (vz_cons vz_int (vz_cons vz_int (vz_cons vz_int (vz_cons vz_int (vz_cons vz_int (vz_cons vz_int (vz_cons vz_int (vz_cons vz_int vz_nil)))))))))))))))))))))))))))))))))))))))))))))))))))))))))))))))))) rfl rfl
  · exact (h rfl).elim
set_option maxRecDepth 100000 in
theorem env_fns0 : ∀ f F, envFn0 f = some F → Tryd.prog.funcs[f]? = some F ∧ F.name ≠ "runtime.NumGoroutine" := by
  intro f F h
  unfold envFn0 at h
  split at h
  · obtain rfl := Option.some.inj h; exact ⟨Tryd.func3, by simp [Tryd.f3]⟩
  · obtain rfl := Option.some.inj h; exact ⟨Tryd.func4, by simp [Tryd.f4]⟩
  · obtain rfl := Option.some.inj h; exact ⟨Tryd.func5, by simp [Tryd.f5]⟩
  · obtain rfl := Option.some.inj h; exact ⟨Tryd.func6, by simp [Tryd.f6]⟩
  · obtain rfl := Option.some.inj h; exact ⟨Tryd.func7, by simp [Tryd.f7]⟩
  · obtain rfl := Option.some.inj h; exact ⟨Tryd.func8, by simp [Tryd.f8]⟩
  · obtain rfl := Option.some.inj h; exact ⟨Tryd.func9, by simp [Tryd.f9]⟩
  · obtain rfl := Option.some.inj h; exact ⟨Tryd.func10, by simp [Tryd.f10]⟩
  · obtain rfl := Option.some.inj h; exact ⟨Tryd.func11, by simp [Tryd.f11]⟩
  · obtain rfl := Option.some.inj h; exact ⟨Tryd.func12, by simp [Tryd.f12]⟩
  · obtain rfl := Option.some.inj h; exact ⟨Tryd.func13, by simp [Tryd.f13]⟩
  · obtain rfl := Option.some.inj h; exact ⟨Tryd.func14, by simp [Tryd.f14]⟩
  · obtain rfl := Option.some.inj h; exact ⟨Tryd.func15, by simp [Tryd.f15]⟩
  · obtain rfl := Option.some.inj h; exact ⟨Tryd.func16, by simp [Tryd.f16]⟩
  · obtain rfl := Option.some.inj h; exact ⟨Tryd.func17, by simp [Tryd.f17]⟩
  · obtain rfl := Option.some.inj h; exact ⟨Tryd.func18, by simp [Tryd.f18]⟩
  · obtain rfl := Option.some.inj h; exact ⟨Tryd.func19, by simp [Tryd.f19]⟩
  · obtain rfl := Option.some.inj h; exact ⟨Tryd.func20, by simp [Tryd.f20]⟩
  · obtain rfl := Option.some.inj h; exact ⟨Tryd.func21, by simp [Tryd.f21]⟩
  · obtain rfl := Option.some.inj h; exact ⟨Tryd.func22, by simp [Tryd.f22]⟩
  · obtain rfl := Option.some.inj h; exact ⟨Tryd.func23, by simp [Tryd.f23]⟩
  · obtain rfl := Option.some.inj h; exact ⟨Tryd.func24, by simp [Tryd.f24]⟩
  · obtain rfl := Option.some.inj h; exact ⟨Tryd.func25, by simp [Tryd.f25]⟩
  · obtain rfl := Option.some.inj h; exact ⟨Tryd.func26, by simp [Tryd.f26]⟩
  · obtain rfl := Option.some.inj h; exact ⟨Tryd.func27, by simp [Tryd.f27]⟩
  · obtain rfl := Option.some.inj h; exact ⟨Tryd.func28, by simp [Tryd.f28]⟩
  · obtain rfl := Option.some.inj h; exact ⟨Tryd.func29, by simp [Tryd.f29]⟩
  · obtain rfl := Option.some.inj h; exact ⟨Tryd.func30, by simp [Tryd.f30]⟩
  · obtain rfl := Option.some.inj h; exact ⟨Tryd.func31, by simp [Tryd.f31]⟩
  · obtain rfl := Option.some.inj h; exact ⟨Tryd.func32, by simp [Tryd.f32]⟩
  · obtain rfl := Option.some.inj h; exact ⟨Tryd.func33, by simp [Tryd.f33]⟩
  · obtain rfl := Option.some.inj h; exact ⟨Tryd.func34, by simp [Tryd.f34]⟩
  · obtain rfl := Option.some.inj h; exact ⟨Tryd.func35, by simp [Tryd.f35]⟩
  · obtain rfl := Option.some.inj h; exact ⟨Tryd.func36, by simp [Tryd.f36]⟩
  · obtain rfl := Option.some.inj h; exact ⟨Tryd.func37, by simp [Tryd.f37]⟩
  · obtain rfl := Option.some.inj h; exact ⟨Tryd.func38, by simp [Tryd.f38]⟩
  · obtain rfl := Option.some.inj h; exact ⟨Tryd.func39, by simp [Tryd.f39]⟩
  · obtain rfl := Option.some.inj h; exact ⟨Tryd.func40, by simp [Tryd.f40]⟩
  · obtain rfl := Option.some.inj h; exact ⟨Tryd.func41, by simp [Tryd.f41]⟩
  · obtain rfl := Option.some.inj h; exact ⟨Tryd.func42, by simp [Tryd.f42]⟩
  · obtain rfl := Option.some.inj h; exact ⟨Tryd.func43, by simp [Tryd.f43]⟩
  · obtain rfl := Option.some.inj h; exact ⟨Tryd.func44, by simp [Tryd.f44]⟩
  · obtain rfl := Option.some.inj h; exact ⟨Tryd.func45, by simp [Tryd.f45]⟩
  · obtain rfl := Option.some.inj h; exact ⟨Tryd.func46, by simp [Tryd.f46]⟩
  · obtain rfl := Option.some.inj h; exact ⟨Tryd.func47, by simp [Tryd.f47]⟩
  · obtain rfl := Option.some.inj h; exact ⟨Tryd.func48, by simp [Tryd.f48]⟩
  · obtain rfl := Option.some.inj h; exact ⟨Tryd.func49, by simp [Tryd.f49]⟩
  · obtain rfl := Option.some.inj h; exact ⟨Tryd.func50, by simp [Tryd.f50]⟩
  · obtain rfl := Option.some.inj h; exact ⟨Tryd.func51, by simp [Tryd.f51]⟩
  · obtain rfl := Option.some.inj h; exact ⟨Tryd.func52, by simp [Tryd.f52]⟩
  · obtain rfl := Option.some.inj h; exact ⟨Tryd.func53, by simp [Tryd.f53]⟩
  · obtain rfl := Option.some.inj h; exact ⟨Tryd.func54, by simp [Tryd.f54]⟩
  · obtain rfl := Option.some.inj h; exact ⟨Tryd.func55, by simp [Tryd.f55]⟩
  · obtain rfl := Option.some.inj h; exact ⟨Tryd.func56, by simp [Tryd.f56]⟩
  · obtain rfl := Option.some.inj h; exact ⟨Tryd.func57, by simp [Tryd.f57]⟩
  · obtain rfl := Option.some.inj h; exact ⟨Tryd.func58, by simp [Tryd.f58]⟩
  · obtain rfl := Option.some.inj h; exact ⟨Tryd.func59, by simp [Tryd.f59]⟩
  · obtain rfl := Option.some.inj h; exact ⟨Tryd.func60, by simp [Tryd.f60]⟩
  · obtain rfl := Option.some.inj h; exact ⟨Tryd.func61, by simp [Tryd.f61]⟩
  · obtain rfl := Option.some.inj h; exact ⟨Tryd.func62, by simp [Tryd.f62]⟩
  · obtain rfl := Option.some.inj h; exact ⟨Tryd.func63, by simp [Tryd.f63]⟩
  · obtain rfl := Option.some.inj h; exact ⟨Tryd.func64, by simp [Tryd.f64]⟩
  · obtain rfl := Option.some.inj h; exact ⟨Tryd.func65, by simp [Tryd.f65]⟩
  · obtain rfl := Option.some.inj h; exact ⟨Tryd.func66, by simp [Tryd.f66]⟩
  · obtain rfl := Option.some.inj h; exact ⟨Tryd.func67, by simp [Tryd.f67]⟩
  · obtain rfl := Option.some.inj h; exact ⟨Tryd.func68, by simp [Tryd.f68]⟩
  · obtain rfl := Option.some.inj h; exact ⟨Tryd.func69, by simp [Tryd.f69]⟩
  · obtain rfl := Option.some.inj h; exact ⟨Tryd.func70, by simp [Tryd.f70]⟩
  · obtain rfl := Option.some.inj h; exact ⟨Tryd.func71, by simp [Tryd.f71]⟩
  · obtain rfl := Option.some.inj h; exact ⟨Tryd.func72, by simp [Tryd.f72]⟩
  · obtain rfl := Option.some.inj h; exact ⟨Tryd.func73, by simp [Tryd.f73]⟩
  · obtain rfl := Option.some.inj h; exact ⟨Tryd.func74, by simp [Tryd.f74]⟩
  · obtain rfl := Option.some.inj h; exact ⟨Tryd.func75, by simp [Tryd.f75]⟩
  · obtain rfl := Option.some.inj h; exact ⟨Tryd.func76, by simp [Tryd.f76]⟩
  · obtain rfl := Option.some.inj h; exact ⟨Tryd.func77, by simp [Tryd.f77]⟩
  · obtain rfl := Option.some.inj h; exact ⟨Tryd.func78, by simp [Tryd.f78]⟩
  · obtain rfl := Option.some.inj h; exact ⟨Tryd.func79, by simp [Tryd.f79]⟩
  · obtain rfl := Option.some.inj h; exact ⟨Tryd.func80, by simp [Tryd.f80]⟩
  · obtain rfl := Option.some.inj h; exact ⟨Tryd.func81, by simp [Tryd.f81]⟩
  · obtain rfl := Option.some.inj h; exact ⟨Tryd.func82, by simp [Tryd.f82]⟩
  · obtain rfl := Option.some.inj h; exact ⟨Tryd.func83, by simp [Tryd.f83]⟩
  · obtain rfl := Option.some.inj h; exact ⟨Tryd.func84, by simp [Tryd.f84]⟩
  · obtain rfl := Option.some.inj h; exact ⟨Tryd.func85, by simp [Tryd.f85]⟩
  · obtain rfl := Option.some.inj h; exact ⟨Tryd.func86, by simp [Tryd.f86]⟩
  · obtain rfl := Option.some.inj h; exact ⟨Tryd.func87, by simp [Tryd.f87]⟩
  · obtain rfl := Option.some.inj h; exact ⟨Tryd.func88, by simp [Tryd.f88]⟩
  · obtain rfl := Option.some.inj h; exact ⟨Tryd.func89, by simp [Tryd.f89]⟩
  · obtain rfl := Option.some.inj h; exact ⟨Tryd.func90, by simp [Tryd.f90]⟩
  · obtain rfl := Option.some.inj h; exact ⟨Tryd.func91, by simp [Tryd.f91]⟩
  · obtain rfl := Option.some.inj h; exact ⟨Tryd.func92, by simp [Tryd.f92]⟩
  · cases h
set_option maxRecDepth 100000 in
theorem env_fns1 : ∀ f F, envFn1 f = some F → Tryd.prog.funcs[f]? = some F ∧ F.name ≠ "runtime.NumGoroutine" := by
  intro f F h
  unfold envFn1 at h
  split at h
  · obtain rfl := Option.some.inj h; exact ⟨Tryd.func93, by simp [Tryd.f93]⟩
  · obtain rfl := Option.some.inj h; exact ⟨Tryd.func94, by simp [Tryd.f94]⟩
  · obtain rfl := Option.some.inj h; exact ⟨Tryd.func95, by simp [Tryd.f95]⟩
  · obtain rfl := Option.some.inj h; exact ⟨Tryd.func96, by simp [Tryd.f96]⟩
  · obtain rfl := Option.some.inj h; exact ⟨Tryd.func97, by simp [Tryd.f97]⟩
  · obtain rfl := Option.some.inj h; exact ⟨Tryd.func98, by simp [Tryd.f98]⟩
  · obtain rfl := Option.some.inj h; exact ⟨Tryd.func99, by simp [Tryd.f99]⟩
  · obtain rfl := Option.some.inj h; exact ⟨Tryd.func100, by simp [Tryd.f100]⟩
  · obtain rfl := Option.some.inj h; exact ⟨Tryd.func101, by simp [Tryd.f101]⟩
  · obtain rfl := Option.some.inj h; exact ⟨Tryd.func102, by simp [Tryd.f102]⟩
  · obtain rfl := Option.some.inj h; exact ⟨Tryd.func103, by simp [Tryd.f103]⟩
  · obtain rfl := Option.some.inj h; exact ⟨Tryd.func104, by simp [Tryd.f104]⟩
  · obtain rfl := Option.some.inj h; exact ⟨Tryd.func105, by simp [Tryd.f105]⟩
  · obtain rfl := Option.some.inj h; exact ⟨Tryd.func106, by simp [Tryd.f106]⟩
  · obtain rfl := Option.some.inj h; exact ⟨Tryd.func107, by simp [Tryd.f107]⟩
  · obtain rfl := Option.some.inj h; exact ⟨Tryd.func108, by simp [Tryd.f108]⟩
  · obtain rfl := Option.some.inj h; exact ⟨Tryd.func109, by simp [Tryd.f109]⟩
  · obtain rfl := Option.some.inj h; exact ⟨Tryd.func110, by simp [Tryd.f110]⟩
  · obtain rfl := Option.some.inj h; exact ⟨Tryd.func111, by simp [Tryd.f111]⟩
  · obtain rfl := Option.some.inj h; exact ⟨Tryd.func112, by simp [Tryd.f112]⟩
  · obtain rfl := Option.some.inj h; exact ⟨Tryd.func113, by simp [Tryd.f113]⟩
  · obtain rfl := Option.some.inj h; exact ⟨Tryd.func114, by simp [Tryd.f114]⟩
  · obtain rfl := Option.some.inj h; exact ⟨Tryd.func115, by simp [Tryd.f115]⟩
  · obtain rfl := Option.some.inj h; exact ⟨Tryd.func116, by simp [Tryd.f116]⟩
  · obtain rfl := Option.some.inj h; exact ⟨Tryd.func117, by simp [Tryd.f117]⟩
  · obtain rfl := Option.some.inj h; exact ⟨Tryd.func118, by simp [Tryd.f118]⟩
  · obtain rfl := Option.some.inj h; exact ⟨Tryd.func119, by simp [Tryd.f119]⟩
  · obtain rfl := Option.some.inj h; exact ⟨Tryd.func120, by simp [Tryd.f120]⟩
  · obtain rfl := Option.some.inj h; exact ⟨Tryd.func121, by simp [Tryd.f121]⟩
  · obtain rfl := Option.some.inj h; exact ⟨Tryd.func122, by simp [Tryd.f122]⟩
  · obtain rfl := Option.some.inj h; exact ⟨Tryd.func123, by simp [Tryd.f123]⟩
  · obtain rfl := Option.some.inj h; exact ⟨Tryd.func124, by simp [Tryd.f124]⟩
  · obtain rfl := Option.some.inj h; exact ⟨Tryd.func125, by simp [Tryd.f125]⟩
  · obtain rfl := Option.some.inj h; exact ⟨Tryd.func126, by simp [Tryd.f126]⟩
  · obtain rfl := Option.some.inj h; exact ⟨Tryd.func127, by simp [Tryd.f127]⟩
  · obtain rfl := Option.some.inj h; exact ⟨Tryd.func128, by simp [Tryd.f128]⟩
  · obtain rfl := Option.some.inj h; exact ⟨Tryd.func129, by simp [Tryd.f129]⟩
  · obtain rfl := Option.some.inj h; exact ⟨Tryd.func130, by simp [Tryd.f130]⟩
  · obtain rfl := Option.some.inj h; exact ⟨Tryd.func131, by simp [Tryd.f131]⟩
  · obtain rfl := Option.some.inj h; exact ⟨Tryd.func132, by simp [Tryd.f132]⟩
  · obtain rfl := Option.some.inj h; exact ⟨Tryd.func133, by simp [Tryd.f133]⟩
  · obtain rfl := Option.some.inj h; exact ⟨Tryd.func134, by simp [Tryd.f134]⟩
  · obtain rfl := Option.some.inj h; exact ⟨Tryd.func135, by simp [Tryd.f135]⟩
  · obtain rfl := Option.some.inj h; exact ⟨Tryd.func136, by simp [Tryd.f136]⟩
  · obtain rfl := Option.some.inj h; exact ⟨Tryd.func137, by simp [Tryd.f137]⟩
  · obtain rfl := Option.some.inj h; exact ⟨Tryd.func138, by simp [Tryd.f138]⟩
  · obtain rfl := Option.some.inj h; exact ⟨Tryd.func139, by simp [Tryd.f139]⟩
  · obtain rfl := Option.some.inj h; exact ⟨Tryd.func140, by simp [Tryd.f140]⟩
  · obtain rfl := Option.some.inj h; exact ⟨Tryd.func141, by simp [Tryd.f141]⟩
  · obtain rfl := Option.some.inj h; exact ⟨Tryd.func142, by simp [Tryd.f142]⟩
  · obtain rfl := Option.some.inj h; exact ⟨Tryd.func143, by simp [Tryd.f143]⟩
  · obtain rfl := Option.some.inj h; exact ⟨Tryd.func144, by simp [Tryd.f144]⟩
  · obtain rfl := Option.some.inj h; exact ⟨Tryd.func145, by simp [Tryd.f145]⟩
  · obtain rfl := Option.some.inj h; exact ⟨Tryd.func146, by simp [Tryd.f146]⟩
  · obtain rfl := Option.some.inj h; exact ⟨Tryd.func147, by simp [Tryd.f147]⟩
  · obtain rfl := Option.some.inj h; exact ⟨Tryd.func148, by simp [Tryd.f148]⟩
  · obtain rfl := Option.some.inj h; exact ⟨Tryd.func149, by simp [Tryd.f149]⟩
  · obtain rfl := Option.some.inj h; exact ⟨Tryd.func150, by simp [Tryd.f150]⟩
  · obtain rfl := Option.some.inj h; exact ⟨Tryd.func152, by simp [Tryd.f152]⟩
  · obtain rfl := Option.some.inj h; exact ⟨Tryd.func153, by simp [Tryd.f153]⟩
  · obtain rfl := Option.some.inj h; exact ⟨Tryd.func154, by simp [Tryd.f154]⟩
  · obtain rfl := Option.some.inj h; exact ⟨Tryd.func170, by simp [Tryd.f170]⟩
  · obtain rfl := Option.some.inj h; exact ⟨Tryd.func171, by simp [Tryd.f171]⟩
  · obtain rfl := Option.some.inj h; exact ⟨Tryd.func173, by simp [Tryd.f173]⟩
  · obtain rfl := Option.some.inj h; exact ⟨Tryd.func174, by simp [Tryd.f174]⟩
  · obtain rfl := Option.some.inj h; exact ⟨Tryd.func175, by simp [Tryd.f175]⟩
  · obtain rfl := Option.some.inj h; exact ⟨Tryd.func176, by simp [Tryd.f176]⟩
  · cases h
theorem env_fns : ∀ f F, envFn f = some F → Tryd.prog.funcs[f]? = some F ∧ F.name ≠ "runtime.NumGoroutine" := by
  intro f F h
  unfold envFn at h
  split at h
  · exact env_fns0 f F h
  exact env_fns1 f F h
theorem env_ok : EnvOk env Tryd.prog := ⟨env_tys, env_sizes⟩
theorem prog_ok : ProgOk env Tryd.prog (laidT) := ⟨env_ok, env_fns, fun w w' h hb => laidT.keep h h.size hb, fun f F h => by
  unfold env envExt at h
  dsimp only at h
  split at h
  · obtain rfl := Option.some.inj h; exact sortI_ok
  · obtain rfl := Option.some.inj h; exact cloneC_ok
  · cases h⟩

end Go.Proofs.YtkkkgaapkibhkaaDoor
