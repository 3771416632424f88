/- What the evaluator is told of this seat's program, and that it is so. Conditions: none. Written by wip/tools/mkenv.py. -/
import Derived.Test.YtlglhokpaplifaaGreatDoorProg
import Derived.Test.YtlglhokpaplifaaGreatDoorEvFrame
import Derived.Test.YtlglhokpaplifaaGreatDoorEvClone
import Derived.Test.YtlglhokpaplifaaGreatDoorSortG
import Derived.KernelRfl
namespace Go.Proofs.YtlglhokpaplifaaGreatDoor
open Ev Go.RowKit
set_option linter.unusedVariables false
set_option linter.unusedSimpArgs false
set_option linter.unusedSectionVars false
set_option maxHeartbeats 4000000
def envTy : Nat → TD
  | 1 => .fn
  | 2 => .int .i64
  | 3 => .int .i64
  | 4 => .bool
  | 5 => .int .u8
  | 9 => .str
  | 12 => .int .u64
  | 21 => .int .i32
  | 22 => .sl 5
  | 23 => .fn
  | 24 => .sl 3
  | 25 => .st [(0, 3), (1, 24)]
  | 26 => .st [(0, 3), (1, 24)]
  | 28 => .fn
  | 29 => .sl 42
  | 30 => .sl 40
  | 31 => .st [(0, 29), (1, 30), (2, 26)]
  | 32 => .st [(0, 29), (1, 30), (2, 26)]
  | 34 => .fn
  | 36 => .fn
  | 38 => .fn
  | 39 => .st [(0, 3), (1, 3)]
  | 40 => .st [(0, 3), (1, 3)]
  | 41 => .st [(0, 40), (2, 4), (3, 3)]
  | 42 => .st [(0, 40), (2, 4), (3, 3)]
  | 43 => .fn
  | 44 => .fn
  | 45 => .fn
  | 46 => .fn
  | 47 => .fn
  | 48 => .fn
  | 49 => .fn
  | 50 => .fn
  | 51 => .fn
  | 52 => .st [(0, 3), (1, 24)]
  | 53 => .fn
  | 54 => .fn
  | 55 => .fn
  | 56 => .fn
  | 57 => .fn
  | 58 => .fn
  | 59 => .fn
  | 60 => .fn
  | 61 => .fn
  | 62 => .fn
  | 63 => .fn
  | 64 => .fn
  | 65 => .fn
  | 66 => .fn
  | 67 => .fn
  | 68 => .fn
  | 69 => .fn
  | 70 => .fn
  | 72 => .fn
  | 73 => .ptr 95
  | 74 => .fn
  | 75 => .fn
  | 76 => .fn
  | 77 => .fn
  | 78 => .fn
  | 79 => .fn
  | 80 => .fn
  | 81 => .fn
  | 82 => .fn
  | 83 => .fn
  | 84 => .fn
  | 85 => .fn
  | 86 => .fn
  | 87 => .fn
  | 88 => .fn
  | 89 => .fn
  | 90 => .fn
  | 91 => .fn
  | 92 => .int .u64
  | 93 => .fn
  | 94 => .st [(0, 22), (1, 3), (2, 3)]
  | 95 => .st [(0, 22), (1, 3), (2, 3)]
  | 96 => .fn
  | 97 => .fn
  | 98 => .fn
  | 99 => .fn
  | 100 => .fn
  | 101 => .fn
  | 102 => .fn
  | 103 => .fn
  | 104 => .fn
  | 105 => .fn
  | 106 => .fn
  | 107 => .fn
  | 108 => .fn
  | 109 => .int .u32
  | 110 => .fn
  | 111 => .int .u64
  | 112 => .fn
  | 113 => .fn
  | 114 => .fn
  | 115 => .arr 32 5
  | 116 => .arr 64 5
  | 117 => .arr 24 5
  | 118 => .fn
  | 120 => .fn
  | 121 => .fn
  | 122 => .int .i64
  | 124 => .fn
  | 125 => .fn
  | 126 => .fn
  | 127 => .fn
  | 128 => .arr 20 111
  | 129 => .arr 65 5
  | 130 => .int .u64
  | 131 => .fn
  | 132 => .fn
  | 133 => .fn
  | 134 => .ptr 3
  | 135 => .fn
  | 136 => .ptr 130
  | 138 => .fn
  | 139 => .fn
  | 145 => .fn
  | 148 => .fn
  | 149 => .ptr 5
  | 154 => .fn
  | _ => .other
def envSize : Nat → Nat
  | 2 => 1
  | 3 => 1
  | 4 => 1
  | 5 => 1
  | 9 => 1
  | 12 => 1
  | 21 => 1
  | 22 => 1
  | 24 => 1
  | 25 => 2
  | 26 => 2
  | 29 => 1
  | 30 => 1
  | 31 => 4
  | 32 => 4
  | 39 => 2
  | 40 => 2
  | 41 => 4
  | 42 => 4
  | 52 => 2
  | 92 => 1
  | 94 => 3
  | 95 => 3
  | 109 => 1
  | 111 => 1
  | 115 => 32
  | 116 => 64
  | 117 => 24
  | 122 => 1
  | 128 => 20
  | 129 => 65
  | 130 => 1
  | _ => 0
def envZero : Nat → AV
  | 2 => (.int .i64 0)
  | 3 => (.int .i64 0)
  | 4 => (.bool false)
  | 5 => (.int .u8 0)
  | 9 => (.str ⟨#[]⟩)
  | 12 => (.int .u64 0)
  | 21 => (.int .i32 0)
  | 22 => (.sl 0 .lit [])
  | 24 => (.sl 0 .lit [])
  | 25 => (.agg [(.int .i64 0), (.sl 0 .lit [])])
  | 26 => (.agg [(.int .i64 0), (.sl 0 .lit [])])
  | 29 => (.sl 0 .lit [])
  | 30 => (.sl 0 .lit [])
  | 31 => (.agg [(.sl 0 .lit []), (.sl 0 .lit []), (.int .i64 0), (.sl 0 .lit [])])
  | 32 => (.agg [(.sl 0 .lit []), (.sl 0 .lit []), (.int .i64 0), (.sl 0 .lit [])])
  | 39 => (.agg [(.int .i64 0), (.int .i64 0)])
  | 40 => (.agg [(.int .i64 0), (.int .i64 0)])
  | 41 => (.agg [(.int .i64 0), (.int .i64 0), (.bool false), (.int .i64 0)])
  | 42 => (.agg [(.int .i64 0), (.int .i64 0), (.bool false), (.int .i64 0)])
  | 52 => (.agg [(.int .i64 0), (.sl 0 .lit [])])
  | 92 => (.int .u64 0)
  | 94 => (.agg [(.sl 0 .lit []), (.int .i64 0), (.int .i64 0)])
  | 95 => (.agg [(.sl 0 .lit []), (.int .i64 0), (.int .i64 0)])
  | 109 => (.int .u32 0)
  | 111 => (.int .u64 0)
  | 115 => (.agg [(.int .u8 0), (.int .u8 0), (.int .u8 0), (.int .u8 0), (.int .u8 0), (.int .u8 0), (.int .u8 0), (.int .u8 0), (.int .u8 0), (.int .u8 0), (.int .u8 0), (.int .u8 0), (.int .u8 0), (.int .u8 0), (.int .u8 0), (.int .u8 0), (.int .u8 0), (.int .u8 0), (.int .u8 0), (.int .u8 0), (.int .u8 0), (.int .u8 0), (.int .u8 0), (.int .u8 0), (.int .u8 0), (.int .u8 0), (.int .u8 0), (.int .u8 0), (.int .u8 0), (.int .u8 0), (.int .u8 0), (.int .u8 0)])
  | 116 => (.agg [(.int .u8 0), (.int .u8 0), (.int .u8 0), (.int .u8 0), (.int .u8 0), (.int .u8 0), (.int .u8 0), (.int .u8 0), (.int .u8 0), (.int .u8 0), (.int .u8 0), (.int .u8 0), (.int .u8 0), (.int .u8 0), (.int .u8 0), (.int .u8 0), (.int .u8 0), (.int .u8 0), (.int .u8 0), (.int .u8 0), (.int .u8 0), (.int .u8 0), (.int .u8 0), (.int .u8 0), (.int .u8 0), (.int .u8 0), (.int .u8 0), (.int .u8 0), (.int .u8 0), (.int .u8 0), (.int .u8 0), (.int .u8 0), (.int .u8 0), (.int .u8 0), (.int .u8 0), (.int .u8 0), (.int .u8 0), (.int .u8 0), (.int .u8 0), (.int .u8 0), (.int .u8 0), (.int .u8 0), (.int .u8 0), (.int .u8 0), (.int .u8 0), (.int .u8 0), (.int .u8 0), (.int .u8 0), (.int .u8 0), (.int .u8 0), (.int .u8 0), (.int .u8 0), (.int .u8 0), (.int .u8 0), (.int .u8 0), (.int .u8 0), (.int .u8 0), (.int .u8 0), (.int .u8 0), (.int .u8 0), (.int .u8 0), (.int .u8 0), (.int .u8 0), (.int .u8 0)])
  | 117 => (.agg [(.int .u8 0), (.int .u8 0), (.int .u8 0), (.int .u8 0), (.int .u8 0), (.int .u8 0), (.int .u8 0), (.int .u8 0), (.int .u8 0), (.int .u8 0), (.int .u8 0), (.int .u8 0), (.int .u8 0), (.int .u8 0), (.int .u8 0), (.int .u8 0), (.int .u8 0), (.int .u8 0), (.int .u8 0), (.int .u8 0), (.int .u8 0), (.int .u8 0), (.int .u8 0), (.int .u8 0)])
  | 122 => (.int .i64 0)
  | 128 => (.agg [(.int .u64 0), (.int .u64 0), (.int .u64 0), (.int .u64 0), (.int .u64 0), (.int .u64 0), (.int .u64 0), (.int .u64 0), (.int .u64 0), (.int .u64 0), (.int .u64 0), (.int .u64 0), (.int .u64 0), (.int .u64 0), (.int .u64 0), (.int .u64 0), (.int .u64 0), (.int .u64 0), (.int .u64 0), (.int .u64 0)])
  | 129 => (.agg [(.int .u8 0), (.int .u8 0), (.int .u8 0), (.int .u8 0), (.int .u8 0), (.int .u8 0), (.int .u8 0), (.int .u8 0), (.int .u8 0), (.int .u8 0), (.int .u8 0), (.int .u8 0), (.int .u8 0), (.int .u8 0), (.int .u8 0), (.int .u8 0), (.int .u8 0), (.int .u8 0), (.int .u8 0), (.int .u8 0), (.int .u8 0), (.int .u8 0), (.int .u8 0), (.int .u8 0), (.int .u8 0), (.int .u8 0), (.int .u8 0), (.int .u8 0), (.int .u8 0), (.int .u8 0), (.int .u8 0), (.int .u8 0), (.int .u8 0), (.int .u8 0), (.int .u8 0), (.int .u8 0), (.int .u8 0), (.int .u8 0), (.int .u8 0), (.int .u8 0), (.int .u8 0), (.int .u8 0), (.int .u8 0), (.int .u8 0), (.int .u8 0), (.int .u8 0), (.int .u8 0), (.int .u8 0), (.int .u8 0), (.int .u8 0), (.int .u8 0), (.int .u8 0), (.int .u8 0), (.int .u8 0), (.int .u8 0), (.int .u8 0), (.int .u8 0), (.int .u8 0), (.int .u8 0), (.int .u8 0), (.int .u8 0), (.int .u8 0), (.int .u8 0), (.int .u8 0), (.int .u8 0)])
  | 130 => (.int .u64 0)
  | _ => .un
noncomputable def envFn0 : Nat → Option Func
  | 3 => some Tryz.f3
  | 4 => some Tryz.f4
  | 5 => some Tryz.f5
  | 6 => some Tryz.f6
  | 7 => some Tryz.f7
  | 8 => some Tryz.f8
  | 9 => some Tryz.f9
  | 10 => some Tryz.f10
  | 11 => some Tryz.f11
  | 12 => some Tryz.f12
  | 13 => some Tryz.f13
  | 14 => some Tryz.f14
  | 15 => some Tryz.f15
  | 16 => some Tryz.f16
  | 17 => some Tryz.f17
  | 18 => some Tryz.f18
  | 19 => some Tryz.f19
  | 20 => some Tryz.f20
  | 21 => some Tryz.f21
  | 22 => some Tryz.f22
  | 23 => some Tryz.f23
  | 24 => some Tryz.f24
  | 25 => some Tryz.f25
  | 26 => some Tryz.f26
  | 27 => some Tryz.f27
  | 28 => some Tryz.f28
  | 29 => some Tryz.f29
  | 30 => some Tryz.f30
  | 31 => some Tryz.f31
  | 32 => some Tryz.f32
  | 33 => some Tryz.f33
  | 34 => some Tryz.f34
  | 35 => some Tryz.f35
  | 36 => some Tryz.f36
  | 37 => some Tryz.f37
  | 38 => some Tryz.f38
  | 39 => some Tryz.f39
  | 40 => some Tryz.f40
  | 41 => some Tryz.f41
  | 42 => some Tryz.f42
  | 43 => some Tryz.f43
  | 44 => some Tryz.f44
  | 45 => some Tryz.f45
  | 46 => some Tryz.f46
  | 47 => some Tryz.f47
  | 48 => some Tryz.f48
  | 49 => some Tryz.f49
  | 50 => some Tryz.f50
  | 51 => some Tryz.f51
  | 52 => some Tryz.f52
  | 53 => some Tryz.f53
  | 54 => some Tryz.f54
  | 55 => some Tryz.f55
  | 56 => some Tryz.f56
  | 57 => some Tryz.f57
  | 58 => some Tryz.f58
  | 59 => some Tryz.f59
  | 60 => some Tryz.f60
  | 61 => some Tryz.f61
  | 62 => some Tryz.f62
  | 63 => some Tryz.f63
  | 64 => some Tryz.f64
  | 65 => some Tryz.f65
  | 66 => some Tryz.f66
  | 67 => some Tryz.f67
  | 68 => some Tryz.f68
  | 69 => some Tryz.f69
  | 70 => some Tryz.f70
  | 71 => some Tryz.f71
  | 72 => some Tryz.f72
  | 73 => some Tryz.f73
  | 74 => some Tryz.f74
  | 75 => some Tryz.f75
  | 76 => some Tryz.f76
  | 77 => some Tryz.f77
  | 78 => some Tryz.f78
  | 79 => some Tryz.f79
  | 80 => some Tryz.f80
  | 81 => some Tryz.f81
  | 82 => some Tryz.f82
  | 83 => some Tryz.f83
  | 84 => some Tryz.f84
  | 85 => some Tryz.f85
  | 86 => some Tryz.f86
  | 87 => some Tryz.f87
  | 88 => some Tryz.f88
  | 89 => some Tryz.f89
  | 90 => some Tryz.f90
  | 91 => some Tryz.f91
  | 92 => some Tryz.f92
  | _ => none
noncomputable def envFn1 : Nat → Option Func
  | 93 => some Tryz.f93
  | 94 => some Tryz.f94
  | 95 => some Tryz.f95
  | 96 => some Tryz.f96
  | 97 => some Tryz.f97
  | 98 => some Tryz.f98
  | 99 => some Tryz.f99
  | 100 => some Tryz.f100
  | 101 => some Tryz.f101
  | 102 => some Tryz.f102
  | 103 => some Tryz.f103
  | 104 => some Tryz.f104
  | 105 => some Tryz.f105
  | 106 => some Tryz.f106
  | 107 => some Tryz.f107
  | 108 => some Tryz.f108
  | 109 => some Tryz.f109
  | 110 => some Tryz.f110
  | 111 => some Tryz.f111
  | 112 => some Tryz.f112
  | 113 => some Tryz.f113
  | 114 => some Tryz.f114
  | 115 => some Tryz.f115
  | 116 => some Tryz.f116
  | 117 => some Tryz.f117
  | 118 => some Tryz.f118
  | 119 => some Tryz.f119
  | 121 => some Tryz.f121
  | 122 => some Tryz.f122
  | 123 => some Tryz.f123
  | 124 => some Tryz.f124
  | 125 => some Tryz.f125
  | 126 => some Tryz.f126
  | 127 => some Tryz.f127
  | 128 => some Tryz.f128
  | 129 => some Tryz.f129
  | 130 => some Tryz.f130
  | 131 => some Tryz.f131
  | 133 => some Tryz.f133
  | 134 => some Tryz.f134
  | 135 => some Tryz.f135
  | 136 => some Tryz.f136
  | 137 => some Tryz.f137
  | 142 => some Tryz.f142
  | 143 => some Tryz.f143
  | 144 => some Tryz.f144
  | 145 => some Tryz.f145
  | 146 => some Tryz.f146
  | 147 => some Tryz.f147
  | 148 => some Tryz.f148
  | 149 => some Tryz.f149
  | 150 => some Tryz.f150
  | 151 => some Tryz.f151
  | 155 => some Tryz.f155
  | 156 => some Tryz.f156
  | 158 => some Tryz.f158
  | 159 => some Tryz.f159
  | 160 => some Tryz.f160
  | 176 => some Tryz.f176
  | 178 => some Tryz.f178
  | 179 => some Tryz.f179
  | 180 => some Tryz.f180
  | 181 => some Tryz.f181
  | 182 => some Tryz.f182
  | _ => none
noncomputable def envFn (k : Nat) : Option Func := if k < 93 then envFn0 k else envFn1 k
def envOpen : Nat → Bool
  | 30 => true
  | 29 => true
  | 73 => true
  | 72 => true
  | 31 => true
  | 94 => true
  | 50 => true
  | 58 => true
  | 78 => true
  | 59 => true
  | 123 => true
  | 106 => true
  | 77 => true
  | 57 => true
  | 116 => true
  | 93 => true
  | _ => false
def envMat : Nat → Nat → Nat
  | 122, 54 => 6
  | 122, 56 => 6
  | 24, 9 => 3
  | 9, 14 => 1
  | 12, 6 => 1
  | 33, 9 => 1
  | 48, 8 => 1
  | 4, 34 => 3
  | 4, 36 => 3
  | 4, 40 => 3
  | _, _ => 0
def envCmp : Nat → Bool
  | 40 => true
  | 42 => true
  | _ => false
def envDeep : Nat → Bool

  | _ => false
def envFar : Nat → Nat

  | _ => 0
def envOwn : Nat → Bool

  | _ => false
noncomputable def envExt : Nat → Option (List AV → Option AV)
  | 110 => some sortF
  | 87 => some beforeF
  | 62 => some numF
  | _ => none
noncomputable def env : Env := { fn := envFn, ty := envTy, size := envSize, zero := envZero, open_ := envOpen, mat := envMat, ext := envExt, cmp := envCmp, own := envOwn, deep := envDeep, far := envFar }
@[simp] theorem env_deep3 : env.deep 3 = false := id rfl
@[simp] theorem env_deep4 : env.deep 4 = false := id rfl
@[simp] theorem env_deep5 : env.deep 5 = false := id rfl
@[simp] theorem env_deep6 : env.deep 6 = false := id rfl
@[simp] theorem env_deep7 : env.deep 7 = false := id rfl
@[simp] theorem env_deep8 : env.deep 8 = false := id rfl
@[simp] theorem env_deep9 : env.deep 9 = false := id rfl
@[simp] theorem env_deep10 : env.deep 10 = false := id rfl
@[simp] theorem env_deep11 : env.deep 11 = false := id rfl
@[simp] theorem env_deep12 : env.deep 12 = false := id rfl
@[simp] theorem env_deep13 : env.deep 13 = false := id rfl
@[simp] theorem env_deep14 : env.deep 14 = false := id rfl
@[simp] theorem env_deep15 : env.deep 15 = false := id rfl
@[simp] theorem env_deep16 : env.deep 16 = false := id rfl
@[simp] theorem env_deep17 : env.deep 17 = false := id rfl
@[simp] theorem env_deep18 : env.deep 18 = false := id rfl
@[simp] theorem env_deep19 : env.deep 19 = false := id rfl
@[simp] theorem env_deep20 : env.deep 20 = false := id rfl
@[simp] theorem env_deep21 : env.deep 21 = false := id rfl
@[simp] theorem env_deep22 : env.deep 22 = false := id rfl
@[simp] theorem env_deep23 : env.deep 23 = false := id rfl
@[simp] theorem env_deep24 : env.deep 24 = false := id rfl
@[simp] theorem env_deep25 : env.deep 25 = false := id rfl
@[simp] theorem env_deep26 : env.deep 26 = false := id rfl
@[simp] theorem env_deep27 : env.deep 27 = false := id rfl
@[simp] theorem env_deep28 : env.deep 28 = false := id rfl
@[simp] theorem env_deep29 : env.deep 29 = false := id rfl
@[simp] theorem env_deep30 : env.deep 30 = false := id rfl
@[simp] theorem env_deep31 : env.deep 31 = false := id rfl
@[simp] theorem env_deep32 : env.deep 32 = false := id rfl
@[simp] theorem env_deep33 : env.deep 33 = false := id rfl
@[simp] theorem env_deep34 : env.deep 34 = false := id rfl
@[simp] theorem env_deep35 : env.deep 35 = false := id rfl
@[simp] theorem env_deep36 : env.deep 36 = false := id rfl
@[simp] theorem env_deep37 : env.deep 37 = false := id rfl
@[simp] theorem env_deep38 : env.deep 38 = false := id rfl
@[simp] theorem env_deep39 : env.deep 39 = false := id rfl
@[simp] theorem env_deep40 : env.deep 40 = false := id rfl
@[simp] theorem env_deep41 : env.deep 41 = false := id rfl
@[simp] theorem env_deep42 : env.deep 42 = false := id rfl
@[simp] theorem env_deep43 : env.deep 43 = false := id rfl
@[simp] theorem env_deep44 : env.deep 44 = false := id rfl
@[simp] theorem env_deep45 : env.deep 45 = false := id rfl
@[simp] theorem env_deep46 : env.deep 46 = false := id rfl
@[simp] theorem env_deep47 : env.deep 47 = false := id rfl
@[simp] theorem env_deep48 : env.deep 48 = false := id rfl
@[simp] theorem env_deep49 : env.deep 49 = false := id rfl
@[simp] theorem env_deep50 : env.deep 50 = false := id rfl
@[simp] theorem env_deep51 : env.deep 51 = false := id rfl
@[simp] theorem env_deep52 : env.deep 52 = false := id rfl
@[simp] theorem env_deep53 : env.deep 53 = false := id rfl
@[simp] theorem env_deep54 : env.deep 54 = false := id rfl
@[simp] theorem env_deep55 : env.deep 55 = false := id rfl
@[simp] theorem env_deep56 : env.deep 56 = false := id rfl
@[simp] theorem env_deep57 : env.deep 57 = false := id rfl
@[simp] theorem env_deep58 : env.deep 58 = false := id rfl
@[simp] theorem env_deep59 : env.deep 59 = false := id rfl
@[simp] theorem env_deep60 : env.deep 60 = false := id rfl
@[simp] theorem env_deep61 : env.deep 61 = false := id rfl
@[simp] theorem env_deep62 : env.deep 62 = false := id rfl
@[simp] theorem env_deep63 : env.deep 63 = false := id rfl
@[simp] theorem env_deep64 : env.deep 64 = false := id rfl
@[simp] theorem env_deep65 : env.deep 65 = false := id rfl
@[simp] theorem env_deep66 : env.deep 66 = false := id rfl
@[simp] theorem env_deep67 : env.deep 67 = false := id rfl
@[simp] theorem env_deep68 : env.deep 68 = false := id rfl
@[simp] theorem env_deep69 : env.deep 69 = false := id rfl
@[simp] theorem env_deep70 : env.deep 70 = false := id rfl
@[simp] theorem env_deep71 : env.deep 71 = false := id rfl
@[simp] theorem env_deep72 : env.deep 72 = false := id rfl
@[simp] theorem env_deep73 : env.deep 73 = false := id rfl
@[simp] theorem env_deep74 : env.deep 74 = false := id rfl
@[simp] theorem env_deep75 : env.deep 75 = false := id rfl
@[simp] theorem env_deep76 : env.deep 76 = false := id rfl
@[simp] theorem env_deep77 : env.deep 77 = false := id rfl
@[simp] theorem env_deep78 : env.deep 78 = false := id rfl
@[simp] theorem env_deep79 : env.deep 79 = false := id rfl
@[simp] theorem env_deep80 : env.deep 80 = false := id rfl
@[simp] theorem env_deep81 : env.deep 81 = false := id rfl
@[simp] theorem env_deep82 : env.deep 82 = false := id rfl
@[simp] theorem env_deep83 : env.deep 83 = false := id rfl
@[simp] theorem env_deep84 : env.deep 84 = false := id rfl
@[simp] theorem env_deep85 : env.deep 85 = false := id rfl
@[simp] theorem env_deep86 : env.deep 86 = false := id rfl
@[simp] theorem env_deep87 : env.deep 87 = false := id rfl
@[simp] theorem env_deep88 : env.deep 88 = false := id rfl
@[simp] theorem env_deep89 : env.deep 89 = false := id rfl
@[simp] theorem env_deep90 : env.deep 90 = false := id rfl
@[simp] theorem env_deep91 : env.deep 91 = false := id rfl
@[simp] theorem env_deep92 : env.deep 92 = false := id rfl
@[simp] theorem env_deep93 : env.deep 93 = false := id rfl
@[simp] theorem env_deep94 : env.deep 94 = false := id rfl
@[simp] theorem env_deep95 : env.deep 95 = false := id rfl
@[simp] theorem env_deep96 : env.deep 96 = false := id rfl
@[simp] theorem env_deep97 : env.deep 97 = false := id rfl
@[simp] theorem env_deep98 : env.deep 98 = false := id rfl
@[simp] theorem env_deep99 : env.deep 99 = false := id rfl
@[simp] theorem env_deep100 : env.deep 100 = false := id rfl
@[simp] theorem env_deep101 : env.deep 101 = false := id rfl
@[simp] theorem env_deep102 : env.deep 102 = false := id rfl
@[simp] theorem env_deep103 : env.deep 103 = false := id rfl
@[simp] theorem env_deep104 : env.deep 104 = false := id rfl
@[simp] theorem env_deep105 : env.deep 105 = false := id rfl
@[simp] theorem env_deep106 : env.deep 106 = false := id rfl
@[simp] theorem env_deep107 : env.deep 107 = false := id rfl
@[simp] theorem env_deep108 : env.deep 108 = false := id rfl
@[simp] theorem env_deep109 : env.deep 109 = false := id rfl
@[simp] theorem env_deep110 : env.deep 110 = false := id rfl
@[simp] theorem env_deep111 : env.deep 111 = false := id rfl
@[simp] theorem env_deep112 : env.deep 112 = false := id rfl
@[simp] theorem env_deep113 : env.deep 113 = false := id rfl
@[simp] theorem env_deep114 : env.deep 114 = false := id rfl
@[simp] theorem env_deep115 : env.deep 115 = false := id rfl
@[simp] theorem env_deep116 : env.deep 116 = false := id rfl
@[simp] theorem env_deep117 : env.deep 117 = false := id rfl
@[simp] theorem env_deep118 : env.deep 118 = false := id rfl
@[simp] theorem env_deep119 : env.deep 119 = false := id rfl
@[simp] theorem env_deep121 : env.deep 121 = false := id rfl
@[simp] theorem env_deep122 : env.deep 122 = false := id rfl
@[simp] theorem env_deep123 : env.deep 123 = false := id rfl
@[simp] theorem env_deep124 : env.deep 124 = false := id rfl
@[simp] theorem env_deep125 : env.deep 125 = false := id rfl
@[simp] theorem env_deep126 : env.deep 126 = false := id rfl
@[simp] theorem env_deep127 : env.deep 127 = false := id rfl
@[simp] theorem env_deep128 : env.deep 128 = false := id rfl
@[simp] theorem env_deep129 : env.deep 129 = false := id rfl
@[simp] theorem env_deep130 : env.deep 130 = false := id rfl
@[simp] theorem env_deep131 : env.deep 131 = false := id rfl
@[simp] theorem env_deep133 : env.deep 133 = false := id rfl
@[simp] theorem env_deep134 : env.deep 134 = false := id rfl
@[simp] theorem env_deep135 : env.deep 135 = false := id rfl
@[simp] theorem env_deep136 : env.deep 136 = false := id rfl
@[simp] theorem env_deep137 : env.deep 137 = false := id rfl
@[simp] theorem env_deep142 : env.deep 142 = false := id rfl
@[simp] theorem env_deep143 : env.deep 143 = false := id rfl
@[simp] theorem env_deep144 : env.deep 144 = false := id rfl
@[simp] theorem env_deep145 : env.deep 145 = false := id rfl
@[simp] theorem env_deep146 : env.deep 146 = false := id rfl
@[simp] theorem env_deep147 : env.deep 147 = false := id rfl
@[simp] theorem env_deep148 : env.deep 148 = false := id rfl
@[simp] theorem env_deep149 : env.deep 149 = false := id rfl
@[simp] theorem env_deep150 : env.deep 150 = false := id rfl
@[simp] theorem env_deep151 : env.deep 151 = false := id rfl
@[simp] theorem env_deep155 : env.deep 155 = false := id rfl
@[simp] theorem env_deep156 : env.deep 156 = false := id rfl
@[simp] theorem env_deep158 : env.deep 158 = false := id rfl
@[simp] theorem env_deep159 : env.deep 159 = false := id rfl
@[simp] theorem env_deep160 : env.deep 160 = false := id rfl
@[simp] theorem env_deep176 : env.deep 176 = false := id rfl
@[simp] theorem env_deep178 : env.deep 178 = false := id rfl
@[simp] theorem env_deep179 : env.deep 179 = false := id rfl
@[simp] theorem env_deep180 : env.deep 180 = false := id rfl
@[simp] theorem env_deep181 : env.deep 181 = false := id rfl
@[simp] theorem env_deep182 : env.deep 182 = false := id rfl
@[simp] theorem env_far (f : Nat) : env.far f = envFar f := id rfl
attribute [simp] envFar
@[simp] theorem env_own (f : Nat) : env.own f = envOwn f := id rfl
attribute [simp] envOwn
@[simp] theorem env_cmp40 : env.cmp 40 = true := id rfl
@[simp] theorem env_cmp42 : env.cmp 42 = true := id rfl
@[simp] theorem env_mat (f d : Nat) : env.mat f d = envMat f d := id rfl
attribute [simp] envMat
@[simp] theorem env_ty1 : env.ty 1 = .fn := id rfl
@[simp] theorem env_ty2 : env.ty 2 = .int .i64 := id rfl
@[simp] theorem env_size2 : env.size 2 = 1 := id rfl
@[simp] theorem env_zero2 : env.zero 2 = (.int .i64 0) := id rfl
@[simp] theorem env_ty3 : env.ty 3 = .int .i64 := id rfl
@[simp] theorem env_size3 : env.size 3 = 1 := id rfl
@[simp] theorem env_zero3 : env.zero 3 = (.int .i64 0) := id rfl
@[simp] theorem env_ty4 : env.ty 4 = .bool := id rfl
@[simp] theorem env_size4 : env.size 4 = 1 := id rfl
@[simp] theorem env_zero4 : env.zero 4 = (.bool false) := id rfl
@[simp] theorem env_ty5 : env.ty 5 = .int .u8 := id rfl
@[simp] theorem env_size5 : env.size 5 = 1 := id rfl
@[simp] theorem env_zero5 : env.zero 5 = (.int .u8 0) := id rfl
@[simp] theorem env_ty9 : env.ty 9 = .str := id rfl
@[simp] theorem env_size9 : env.size 9 = 1 := id rfl
@[simp] theorem env_zero9 : env.zero 9 = (.str ⟨#[]⟩) := id rfl
@[simp] theorem env_ty12 : env.ty 12 = .int .u64 := id rfl
@[simp] theorem env_size12 : env.size 12 = 1 := id rfl
@[simp] theorem env_zero12 : env.zero 12 = (.int .u64 0) := id rfl
@[simp] theorem env_ty21 : env.ty 21 = .int .i32 := id rfl
@[simp] theorem env_size21 : env.size 21 = 1 := id rfl
@[simp] theorem env_zero21 : env.zero 21 = (.int .i32 0) := id rfl
@[simp] theorem env_ty22 : env.ty 22 = .sl 5 := id rfl
@[simp] theorem env_size22 : env.size 22 = 1 := id rfl
@[simp] theorem env_zero22 : env.zero 22 = (.sl 0 .lit []) := id rfl
@[simp] theorem env_ty23 : env.ty 23 = .fn := id rfl
@[simp] theorem env_ty24 : env.ty 24 = .sl 3 := id rfl
@[simp] theorem env_size24 : env.size 24 = 1 := id rfl
@[simp] theorem env_zero24 : env.zero 24 = (.sl 0 .lit []) := id rfl
@[simp] theorem env_ty25 : env.ty 25 = .st [(0, 3), (1, 24)] := id rfl
@[simp] theorem env_size25 : env.size 25 = 2 := id rfl
@[simp] theorem env_zero25 : env.zero 25 = (.agg [(.int .i64 0), (.sl 0 .lit [])]) := id rfl
@[simp] theorem env_ty26 : env.ty 26 = .st [(0, 3), (1, 24)] := id rfl
@[simp] theorem env_size26 : env.size 26 = 2 := id rfl
@[simp] theorem env_zero26 : env.zero 26 = (.agg [(.int .i64 0), (.sl 0 .lit [])]) := id rfl
@[simp] theorem env_ty28 : env.ty 28 = .fn := id rfl
@[simp] theorem env_ty29 : env.ty 29 = .sl 42 := id rfl
@[simp] theorem env_size29 : env.size 29 = 1 := id rfl
@[simp] theorem env_zero29 : env.zero 29 = (.sl 0 .lit []) := id rfl
@[simp] theorem env_ty30 : env.ty 30 = .sl 40 := id rfl
@[simp] theorem env_size30 : env.size 30 = 1 := id rfl
@[simp] theorem env_zero30 : env.zero 30 = (.sl 0 .lit []) := id rfl
@[simp] theorem env_ty31 : env.ty 31 = .st [(0, 29), (1, 30), (2, 26)] := id rfl
@[simp] theorem env_size31 : env.size 31 = 4 := id rfl
@[simp] theorem env_zero31 : env.zero 31 = (.agg [(.sl 0 .lit []), (.sl 0 .lit []), (.int .i64 0), (.sl 0 .lit [])]) := id rfl
@[simp] theorem env_ty32 : env.ty 32 = .st [(0, 29), (1, 30), (2, 26)] := id rfl
@[simp] theorem env_size32 : env.size 32 = 4 := id rfl
@[simp] theorem env_zero32 : env.zero 32 = (.agg [(.sl 0 .lit []), (.sl 0 .lit []), (.int .i64 0), (.sl 0 .lit [])]) := id rfl
@[simp] theorem env_ty34 : env.ty 34 = .fn := id rfl
@[simp] theorem env_ty36 : env.ty 36 = .fn := id rfl
@[simp] theorem env_ty38 : env.ty 38 = .fn := id rfl
@[simp] theorem env_ty39 : env.ty 39 = .st [(0, 3), (1, 3)] := id rfl
@[simp] theorem env_size39 : env.size 39 = 2 := id rfl
@[simp] theorem env_zero39 : env.zero 39 = (.agg [(.int .i64 0), (.int .i64 0)]) := id rfl
@[simp] theorem env_ty40 : env.ty 40 = .st [(0, 3), (1, 3)] := id rfl
@[simp] theorem env_size40 : env.size 40 = 2 := id rfl
@[simp] theorem env_zero40 : env.zero 40 = (.agg [(.int .i64 0), (.int .i64 0)]) := id rfl
@[simp] theorem env_ty41 : env.ty 41 = .st [(0, 40), (2, 4), (3, 3)] := id rfl
@[simp] theorem env_size41 : env.size 41 = 4 := id rfl
@[simp] theorem env_zero41 : env.zero 41 = (.agg [(.int .i64 0), (.int .i64 0), (.bool false), (.int .i64 0)]) := id rfl
@[simp] theorem env_ty42 : env.ty 42 = .st [(0, 40), (2, 4), (3, 3)] := id rfl
@[simp] theorem env_size42 : env.size 42 = 4 := id rfl
@[simp] theorem env_zero42 : env.zero 42 = (.agg [(.int .i64 0), (.int .i64 0), (.bool false), (.int .i64 0)]) := id rfl
@[simp] theorem env_ty43 : env.ty 43 = .fn := id rfl
@[simp] theorem env_ty44 : env.ty 44 = .fn := id rfl
@[simp] theorem env_ty45 : env.ty 45 = .fn := id rfl
@[simp] theorem env_ty46 : env.ty 46 = .fn := id rfl
@[simp] theorem env_ty47 : env.ty 47 = .fn := id rfl
@[simp] theorem env_ty48 : env.ty 48 = .fn := id rfl
@[simp] theorem env_ty49 : env.ty 49 = .fn := id rfl
@[simp] theorem env_ty50 : env.ty 50 = .fn := id rfl
@[simp] theorem env_ty51 : env.ty 51 = .fn := id rfl
@[simp] theorem env_ty52 : env.ty 52 = .st [(0, 3), (1, 24)] := id rfl
@[simp] theorem env_size52 : env.size 52 = 2 := id rfl
@[simp] theorem env_zero52 : env.zero 52 = (.agg [(.int .i64 0), (.sl 0 .lit [])]) := id rfl
@[simp] theorem env_ty53 : env.ty 53 = .fn := id rfl
@[simp] theorem env_ty54 : env.ty 54 = .fn := id rfl
@[simp] theorem env_ty55 : env.ty 55 = .fn := id rfl
@[simp] theorem env_ty56 : env.ty 56 = .fn := id rfl
@[simp] theorem env_ty57 : env.ty 57 = .fn := id rfl
@[simp] theorem env_ty58 : env.ty 58 = .fn := id rfl
@[simp] theorem env_ty59 : env.ty 59 = .fn := id rfl
@[simp] theorem env_ty60 : env.ty 60 = .fn := id rfl
@[simp] theorem env_ty61 : env.ty 61 = .fn := id rfl
@[simp] theorem env_ty62 : env.ty 62 = .fn := id rfl
@[simp] theorem env_ty63 : env.ty 63 = .fn := id rfl
@[simp] theorem env_ty64 : env.ty 64 = .fn := id rfl
@[simp] theorem env_ty65 : env.ty 65 = .fn := id rfl
@[simp] theorem env_ty66 : env.ty 66 = .fn := id rfl
@[simp] theorem env_ty67 : env.ty 67 = .fn := id rfl
@[simp] theorem env_ty68 : env.ty 68 = .fn := id rfl
@[simp] theorem env_ty69 : env.ty 69 = .fn := id rfl
@[simp] theorem env_ty70 : env.ty 70 = .fn := id rfl
@[simp] theorem env_ty72 : env.ty 72 = .fn := id rfl
@[simp] theorem env_ty73 : env.ty 73 = .ptr 95 := id rfl
@[simp] theorem env_ty74 : env.ty 74 = .fn := id rfl
@[simp] theorem env_ty75 : env.ty 75 = .fn := id rfl
@[simp] theorem env_ty76 : env.ty 76 = .fn := id rfl
@[simp] theorem env_ty77 : env.ty 77 = .fn := id rfl
@[simp] theorem env_ty78 : env.ty 78 = .fn := id rfl
@[simp] theorem env_ty79 : env.ty 79 = .fn := id rfl
@[simp] theorem env_ty80 : env.ty 80 = .fn := id rfl
@[simp] theorem env_ty81 : env.ty 81 = .fn := id rfl
@[simp] theorem env_ty82 : env.ty 82 = .fn := id rfl
@[simp] theorem env_ty83 : env.ty 83 = .fn := id rfl
@[simp] theorem env_ty84 : env.ty 84 = .fn := id rfl
@[simp] theorem env_ty85 : env.ty 85 = .fn := id rfl
@[simp] theorem env_ty86 : env.ty 86 = .fn := id rfl
@[simp] theorem env_ty87 : env.ty 87 = .fn := id rfl
@[simp] theorem env_ty88 : env.ty 88 = .fn := id rfl
@[simp] theorem env_ty89 : env.ty 89 = .fn := id rfl
@[simp] theorem env_ty90 : env.ty 90 = .fn := id rfl
@[simp] theorem env_ty91 : env.ty 91 = .fn := id rfl
@[simp] theorem env_ty92 : env.ty 92 = .int .u64 := id rfl
@[simp] theorem env_size92 : env.size 92 = 1 := id rfl
@[simp] theorem env_zero92 : env.zero 92 = (.int .u64 0) := id rfl
@[simp] theorem env_ty93 : env.ty 93 = .fn := id rfl
@[simp] theorem env_ty94 : env.ty 94 = .st [(0, 22), (1, 3), (2, 3)] := id rfl
@[simp] theorem env_size94 : env.size 94 = 3 := id rfl
@[simp] theorem env_zero94 : env.zero 94 = (.agg [(.sl 0 .lit []), (.int .i64 0), (.int .i64 0)]) := id rfl
@[simp] theorem env_ty95 : env.ty 95 = .st [(0, 22), (1, 3), (2, 3)] := id rfl
@[simp] theorem env_size95 : env.size 95 = 3 := id rfl
@[simp] theorem env_zero95 : env.zero 95 = (.agg [(.sl 0 .lit []), (.int .i64 0), (.int .i64 0)]) := id rfl
@[simp] theorem env_ty96 : env.ty 96 = .fn := id rfl
@[simp] theorem env_ty97 : env.ty 97 = .fn := id rfl
@[simp] theorem env_ty98 : env.ty 98 = .fn := id rfl
@[simp] theorem env_ty99 : env.ty 99 = .fn := id rfl
@[simp] theorem env_ty100 : env.ty 100 = .fn := id rfl
@[simp] theorem env_ty101 : env.ty 101 = .fn := id rfl
@[simp] theorem env_ty102 : env.ty 102 = .fn := id rfl
@[simp] theorem env_ty103 : env.ty 103 = .fn := id rfl
@[simp] theorem env_ty104 : env.ty 104 = .fn := id rfl
@[simp] theorem env_ty105 : env.ty 105 = .fn := id rfl
@[simp] theorem env_ty106 : env.ty 106 = .fn := id rfl
@[simp] theorem env_ty107 : env.ty 107 = .fn := id rfl
@[simp] theorem env_ty108 : env.ty 108 = .fn := id rfl
@[simp] theorem env_ty109 : env.ty 109 = .int .u32 := id rfl
@[simp] theorem env_size109 : env.size 109 = 1 := id rfl
@[simp] theorem env_zero109 : env.zero 109 = (.int .u32 0) := id rfl
@[simp] theorem env_ty110 : env.ty 110 = .fn := id rfl
@[simp] theorem env_ty111 : env.ty 111 = .int .u64 := id rfl
@[simp] theorem env_size111 : env.size 111 = 1 := id rfl
@[simp] theorem env_zero111 : env.zero 111 = (.int .u64 0) := id rfl
@[simp] theorem env_ty112 : env.ty 112 = .fn := id rfl
@[simp] theorem env_ty113 : env.ty 113 = .fn := id rfl
@[simp] theorem env_ty114 : env.ty 114 = .fn := id rfl
@[simp] theorem env_ty115 : env.ty 115 = .arr 32 5 := id rfl
@[simp] theorem env_size115 : env.size 115 = 32 := id rfl
@[simp] theorem env_zero115 : env.zero 115 = (.agg [(.int .u8 0), (.int .u8 0), (.int .u8 0), (.int .u8 0), (.int .u8 0), (.int .u8 0), (.int .u8 0), (.int .u8 0), (.int .u8 0), (.int .u8 0), (.int .u8 0), (.int .u8 0), (.int .u8 0), (.int .u8 0), (.int .u8 0), (.int .u8 0), (.int .u8 0), (.int .u8 0), (.int .u8 0), (.int .u8 0), (.int .u8 0), (.int .u8 0), (.int .u8 0), (.int .u8 0), (.int .u8 0), (.int .u8 0), (.int .u8 0), (.int .u8 0), (.int .u8 0), (.int .u8 0), (.int .u8 0), (.int .u8 0)]) := id rfl
@[simp] theorem env_ty116 : env.ty 116 = .arr 64 5 := id rfl
@[simp] theorem env_size116 : env.size 116 = 64 := id rfl
@[simp] theorem env_zero116 : env.zero 116 = (.agg [(.int .u8 0), (.int .u8 0), (.int .u8 0), (.int .u8 0), (.int .u8 0), (.int .u8 0), (.int .u8 0), (.int .u8 0), (.int .u8 0), (.int .u8 0), (.int .u8 0), (.int .u8 0), (.int .u8 0), (.int .u8 0), (.int .u8 0), (.int .u8 0), (.int .u8 0), (.int .u8 0), (.int .u8 0), (.int .u8 0), (.int .u8 0), (.int .u8 0), (.int .u8 0), (.int .u8 0), (.int .u8 0), (.int .u8 0), (.int .u8 0), (.int .u8 0), (.int .u8 0), (.int .u8 0), (.int .u8 0), (.int .u8 0), (.int .u8 0), (.int .u8 0), (.int .u8 0), (.int .u8 0), (.int .u8 0), (.int .u8 0), (.int .u8 0), (.int .u8 0), (.int .u8 0), (.int .u8 0), (.int .u8 0), (.int .u8 0), (.int .u8 0), (.int .u8 0), (.int .u8 0), (.int .u8 0), (.int .u8 0), (.int .u8 0), (.int .u8 0), (.int .u8 0), (.int .u8 0), (.int .u8 0), (.int .u8 0), (.int .u8 0), (.int .u8 0), (.int .u8 0), (.int .u8 0), (.int .u8 0), (.int .u8 0), (.int .u8 0), (.int .u8 0), (.int .u8 0)]) := id rfl
@[simp] theorem env_ty117 : env.ty 117 = .arr 24 5 := id rfl
@[simp] theorem env_size117 : env.size 117 = 24 := id rfl
@[simp] theorem env_zero117 : env.zero 117 = (.agg [(.int .u8 0), (.int .u8 0), (.int .u8 0), (.int .u8 0), (.int .u8 0), (.int .u8 0), (.int .u8 0), (.int .u8 0), (.int .u8 0), (.int .u8 0), (.int .u8 0), (.int .u8 0), (.int .u8 0), (.int .u8 0), (.int .u8 0), (.int .u8 0), (.int .u8 0), (.int .u8 0), (.int .u8 0), (.int .u8 0), (.int .u8 0), (.int .u8 0), (.int .u8 0), (.int .u8 0)]) := id rfl
@[simp] theorem env_ty118 : env.ty 118 = .fn := id rfl
@[simp] theorem env_ty120 : env.ty 120 = .fn := id rfl
@[simp] theorem env_ty121 : env.ty 121 = .fn := id rfl
@[simp] theorem env_ty122 : env.ty 122 = .int .i64 := id rfl
@[simp] theorem env_size122 : env.size 122 = 1 := id rfl
@[simp] theorem env_zero122 : env.zero 122 = (.int .i64 0) := id rfl
@[simp] theorem env_ty124 : env.ty 124 = .fn := id rfl
@[simp] theorem env_ty125 : env.ty 125 = .fn := id rfl
@[simp] theorem env_ty126 : env.ty 126 = .fn := id rfl
@[simp] theorem env_ty127 : env.ty 127 = .fn := id rfl
@[simp] theorem env_ty128 : env.ty 128 = .arr 20 111 := id rfl
@[simp] theorem env_size128 : env.size 128 = 20 := id rfl
@[simp] theorem env_zero128 : env.zero 128 = (.agg [(.int .u64 0), (.int .u64 0), (.int .u64 0), (.int .u64 0), (.int .u64 0), (.int .u64 0), (.int .u64 0), (.int .u64 0), (.int .u64 0), (.int .u64 0), (.int .u64 0), (.int .u64 0), (.int .u64 0), (.int .u64 0), (.int .u64 0), (.int .u64 0), (.int .u64 0), (.int .u64 0), (.int .u64 0), (.int .u64 0)]) := id rfl
@[simp] theorem env_ty129 : env.ty 129 = .arr 65 5 := id rfl
@[simp] theorem env_size129 : env.size 129 = 65 := id rfl
@[simp] theorem env_zero129 : env.zero 129 = (.agg [(.int .u8 0), (.int .u8 0), (.int .u8 0), (.int .u8 0), (.int .u8 0), (.int .u8 0), (.int .u8 0), (.int .u8 0), (.int .u8 0), (.int .u8 0), (.int .u8 0), (.int .u8 0), (.int .u8 0), (.int .u8 0), (.int .u8 0), (.int .u8 0), (.int .u8 0), (.int .u8 0), (.int .u8 0), (.int .u8 0), (.int .u8 0), (.int .u8 0), (.int .u8 0), (.int .u8 0), (.int .u8 0), (.int .u8 0), (.int .u8 0), (.int .u8 0), (.int .u8 0), (.int .u8 0), (.int .u8 0), (.int .u8 0), (.int .u8 0), (.int .u8 0), (.int .u8 0), (.int .u8 0), (.int .u8 0), (.int .u8 0), (.int .u8 0), (.int .u8 0), (.int .u8 0), (.int .u8 0), (.int .u8 0), (.int .u8 0), (.int .u8 0), (.int .u8 0), (.int .u8 0), (.int .u8 0), (.int .u8 0), (.int .u8 0), (.int .u8 0), (.int .u8 0), (.int .u8 0), (.int .u8 0), (.int .u8 0), (.int .u8 0), (.int .u8 0), (.int .u8 0), (.int .u8 0), (.int .u8 0), (.int .u8 0), (.int .u8 0), (.int .u8 0), (.int .u8 0), (.int .u8 0)]) := id rfl
@[simp] theorem env_ty130 : env.ty 130 = .int .u64 := id rfl
@[simp] theorem env_size130 : env.size 130 = 1 := id rfl
@[simp] theorem env_zero130 : env.zero 130 = (.int .u64 0) := id rfl
@[simp] theorem env_ty131 : env.ty 131 = .fn := id rfl
@[simp] theorem env_ty132 : env.ty 132 = .fn := id rfl
@[simp] theorem env_ty133 : env.ty 133 = .fn := id rfl
@[simp] theorem env_ty134 : env.ty 134 = .ptr 3 := id rfl
@[simp] theorem env_ty135 : env.ty 135 = .fn := id rfl
@[simp] theorem env_ty136 : env.ty 136 = .ptr 130 := id rfl
@[simp] theorem env_ty138 : env.ty 138 = .fn := id rfl
@[simp] theorem env_ty139 : env.ty 139 = .fn := id rfl
@[simp] theorem env_ty145 : env.ty 145 = .fn := id rfl
@[simp] theorem env_ty148 : env.ty 148 = .fn := id rfl
@[simp] theorem env_ty149 : env.ty 149 = .ptr 5 := id rfl
@[simp] theorem env_ty154 : env.ty 154 = .fn := id rfl
@[simp] theorem env_open3 : env.open_ 3 = false := id rfl
@[simp] theorem env_ext3 : env.ext 3 = none := id rfl
@[simp] theorem env_open4 : env.open_ 4 = false := id rfl
@[simp] theorem env_ext4 : env.ext 4 = none := id rfl
@[simp] theorem env_open5 : env.open_ 5 = false := id rfl
@[simp] theorem env_ext5 : env.ext 5 = none := id rfl
@[simp] theorem env_open6 : env.open_ 6 = false := id rfl
@[simp] theorem env_ext6 : env.ext 6 = none := id rfl
@[simp] theorem env_open7 : env.open_ 7 = false := id rfl
@[simp] theorem env_ext7 : env.ext 7 = none := id rfl
@[simp] theorem env_open8 : env.open_ 8 = false := id rfl
@[simp] theorem env_ext8 : env.ext 8 = none := id rfl
@[simp] theorem env_open9 : env.open_ 9 = false := id rfl
@[simp] theorem env_ext9 : env.ext 9 = none := id rfl
@[simp] theorem env_open10 : env.open_ 10 = false := id rfl
@[simp] theorem env_ext10 : env.ext 10 = none := id rfl
@[simp] theorem env_open11 : env.open_ 11 = false := id rfl
@[simp] theorem env_ext11 : env.ext 11 = none := id rfl
@[simp] theorem env_open12 : env.open_ 12 = false := id rfl
@[simp] theorem env_ext12 : env.ext 12 = none := id rfl
@[simp] theorem env_open13 : env.open_ 13 = false := id rfl
@[simp] theorem env_ext13 : env.ext 13 = none := id rfl
@[simp] theorem env_open14 : env.open_ 14 = false := id rfl
@[simp] theorem env_ext14 : env.ext 14 = none := id rfl
@[simp] theorem env_open15 : env.open_ 15 = false := id rfl
@[simp] theorem env_ext15 : env.ext 15 = none := id rfl
@[simp] theorem env_open16 : env.open_ 16 = false := id rfl
@[simp] theorem env_ext16 : env.ext 16 = none := id rfl
@[simp] theorem env_open17 : env.open_ 17 = false := id rfl
@[simp] theorem env_ext17 : env.ext 17 = none := id rfl
@[simp] theorem env_open18 : env.open_ 18 = false := id rfl
@[simp] theorem env_ext18 : env.ext 18 = none := id rfl
@[simp] theorem env_open19 : env.open_ 19 = false := id rfl
@[simp] theorem env_ext19 : env.ext 19 = none := id rfl
@[simp] theorem env_open20 : env.open_ 20 = false := id rfl
@[simp] theorem env_ext20 : env.ext 20 = none := id rfl
@[simp] theorem env_open21 : env.open_ 21 = false := id rfl
@[simp] theorem env_ext21 : env.ext 21 = none := id rfl
@[simp] theorem env_open22 : env.open_ 22 = false := id rfl
@[simp] theorem env_ext22 : env.ext 22 = none := id rfl
@[simp] theorem env_open23 : env.open_ 23 = false := id rfl
@[simp] theorem env_ext23 : env.ext 23 = none := id rfl
@[simp] theorem env_open24 : env.open_ 24 = false := id rfl
@[simp] theorem env_ext24 : env.ext 24 = none := id rfl
@[simp] theorem env_open25 : env.open_ 25 = false := id rfl
@[simp] theorem env_ext25 : env.ext 25 = none := id rfl
@[simp] theorem env_open26 : env.open_ 26 = false := id rfl
@[simp] theorem env_ext26 : env.ext 26 = none := id rfl
@[simp] theorem env_open27 : env.open_ 27 = false := id rfl
@[simp] theorem env_ext27 : env.ext 27 = none := id rfl
@[simp] theorem env_open28 : env.open_ 28 = false := id rfl
@[simp] theorem env_ext28 : env.ext 28 = none := id rfl
@[simp] theorem env_open29 : env.open_ 29 = true := id rfl
@[simp] theorem env_ext29 : env.ext 29 = none := id rfl
@[simp] theorem env_open30 : env.open_ 30 = true := id rfl
@[simp] theorem env_ext30 : env.ext 30 = none := id rfl
@[simp] theorem env_open31 : env.open_ 31 = true := id rfl
@[simp] theorem env_ext31 : env.ext 31 = none := id rfl
@[simp] theorem env_open32 : env.open_ 32 = false := id rfl
@[simp] theorem env_ext32 : env.ext 32 = none := id rfl
@[simp] theorem env_open33 : env.open_ 33 = false := id rfl
@[simp] theorem env_ext33 : env.ext 33 = none := id rfl
@[simp] theorem env_open34 : env.open_ 34 = false := id rfl
@[simp] theorem env_ext34 : env.ext 34 = none := id rfl
@[simp] theorem env_open35 : env.open_ 35 = false := id rfl
@[simp] theorem env_ext35 : env.ext 35 = none := id rfl
@[simp] theorem env_open36 : env.open_ 36 = false := id rfl
@[simp] theorem env_ext36 : env.ext 36 = none := id rfl
@[simp] theorem env_open37 : env.open_ 37 = false := id rfl
@[simp] theorem env_ext37 : env.ext 37 = none := id rfl
@[simp] theorem env_open38 : env.open_ 38 = false := id rfl
@[simp] theorem env_ext38 : env.ext 38 = none := id rfl
@[simp] theorem env_open39 : env.open_ 39 = false := id rfl
@[simp] theorem env_ext39 : env.ext 39 = none := id rfl
@[simp] theorem env_open40 : env.open_ 40 = false := id rfl
@[simp] theorem env_ext40 : env.ext 40 = none := id rfl
@[simp] theorem env_open41 : env.open_ 41 = false := id rfl
@[simp] theorem env_ext41 : env.ext 41 = none := id rfl
@[simp] theorem env_open42 : env.open_ 42 = false := id rfl
@[simp] theorem env_ext42 : env.ext 42 = none := id rfl
@[simp] theorem env_open43 : env.open_ 43 = false := id rfl
@[simp] theorem env_ext43 : env.ext 43 = none := id rfl
@[simp] theorem env_open44 : env.open_ 44 = false := id rfl
@[simp] theorem env_ext44 : env.ext 44 = none := id rfl
@[simp] theorem env_open45 : env.open_ 45 = false := id rfl
@[simp] theorem env_ext45 : env.ext 45 = none := id rfl
@[simp] theorem env_open46 : env.open_ 46 = false := id rfl
@[simp] theorem env_ext46 : env.ext 46 = none := id rfl
@[simp] theorem env_open47 : env.open_ 47 = false := id rfl
@[simp] theorem env_ext47 : env.ext 47 = none := id rfl
@[simp] theorem env_open48 : env.open_ 48 = false := id rfl
@[simp] theorem env_ext48 : env.ext 48 = none := id rfl
@[simp] theorem env_open49 : env.open_ 49 = false := id rfl
@[simp] theorem env_ext49 : env.ext 49 = none := id rfl
@[simp] theorem env_open50 : env.open_ 50 = true := id rfl
@[simp] theorem env_ext50 : env.ext 50 = none := id rfl
@[simp] theorem env_open51 : env.open_ 51 = false := id rfl
@[simp] theorem env_ext51 : env.ext 51 = none := id rfl
@[simp] theorem env_open52 : env.open_ 52 = false := id rfl
@[simp] theorem env_ext52 : env.ext 52 = none := id rfl
@[simp] theorem env_open53 : env.open_ 53 = false := id rfl
@[simp] theorem env_ext53 : env.ext 53 = none := id rfl
@[simp] theorem env_open54 : env.open_ 54 = false := id rfl
@[simp] theorem env_ext54 : env.ext 54 = none := id rfl
@[simp] theorem env_open55 : env.open_ 55 = false := id rfl
@[simp] theorem env_ext55 : env.ext 55 = none := id rfl
@[simp] theorem env_open56 : env.open_ 56 = false := id rfl
@[simp] theorem env_ext56 : env.ext 56 = none := id rfl
@[simp] theorem env_open57 : env.open_ 57 = true := id rfl
@[simp] theorem env_ext57 : env.ext 57 = none := id rfl
@[simp] theorem env_open58 : env.open_ 58 = true := id rfl
@[simp] theorem env_ext58 : env.ext 58 = none := id rfl
@[simp] theorem env_open59 : env.open_ 59 = true := id rfl
@[simp] theorem env_ext59 : env.ext 59 = none := id rfl
@[simp] theorem env_open60 : env.open_ 60 = false := id rfl
@[simp] theorem env_ext60 : env.ext 60 = none := id rfl
@[simp] theorem env_open61 : env.open_ 61 = false := id rfl
@[simp] theorem env_ext61 : env.ext 61 = none := id rfl
@[simp] theorem env_open62 : env.open_ 62 = false := id rfl
@[simp] theorem env_ext62 : env.ext 62 = some numF := id rfl
@[simp] theorem env_open63 : env.open_ 63 = false := id rfl
@[simp] theorem env_ext63 : env.ext 63 = none := id rfl
@[simp] theorem env_open64 : env.open_ 64 = false := id rfl
@[simp] theorem env_ext64 : env.ext 64 = none := id rfl
@[simp] theorem env_open65 : env.open_ 65 = false := id rfl
@[simp] theorem env_ext65 : env.ext 65 = none := id rfl
@[simp] theorem env_open66 : env.open_ 66 = false := id rfl
@[simp] theorem env_ext66 : env.ext 66 = none := id rfl
@[simp] theorem env_open67 : env.open_ 67 = false := id rfl
@[simp] theorem env_ext67 : env.ext 67 = none := id rfl
@[simp] theorem env_open68 : env.open_ 68 = false := id rfl
@[simp] theorem env_ext68 : env.ext 68 = none := id rfl
@[simp] theorem env_open69 : env.open_ 69 = false := id rfl
@[simp] theorem env_ext69 : env.ext 69 = none := id rfl
@[simp] theorem env_open70 : env.open_ 70 = false := id rfl
@[simp] theorem env_ext70 : env.ext 70 = none := id rfl
@[simp] theorem env_open71 : env.open_ 71 = false := id rfl
@[simp] theorem env_ext71 : env.ext 71 = none := id rfl
@[simp] theorem env_open72 : env.open_ 72 = true := id rfl
@[simp] theorem env_ext72 : env.ext 72 = none := id rfl
@[simp] theorem env_open73 : env.open_ 73 = true := id rfl
@[simp] theorem env_ext73 : env.ext 73 = none := id rfl
@[simp] theorem env_open74 : env.open_ 74 = false := id rfl
@[simp] theorem env_ext74 : env.ext 74 = none := id rfl
@[simp] theorem env_open75 : env.open_ 75 = false := id rfl
@[simp] theorem env_ext75 : env.ext 75 = none := id rfl
@[simp] theorem env_open76 : env.open_ 76 = false := id rfl
@[simp] theorem env_ext76 : env.ext 76 = none := id rfl
@[simp] theorem env_open77 : env.open_ 77 = true := id rfl
@[simp] theorem env_ext77 : env.ext 77 = none := id rfl
@[simp] theorem env_open78 : env.open_ 78 = true := id rfl
@[simp] theorem env_ext78 : env.ext 78 = none := id rfl
@[simp] theorem env_open79 : env.open_ 79 = false := id rfl
@[simp] theorem env_ext79 : env.ext 79 = none := id rfl
@[simp] theorem env_open80 : env.open_ 80 = false := id rfl
@[simp] theorem env_ext80 : env.ext 80 = none := id rfl
@[simp] theorem env_open81 : env.open_ 81 = false := id rfl
@[simp] theorem env_ext81 : env.ext 81 = none := id rfl
@[simp] theorem env_open82 : env.open_ 82 = false := id rfl
@[simp] theorem env_ext82 : env.ext 82 = none := id rfl
@[simp] theorem env_open83 : env.open_ 83 = false := id rfl
@[simp] theorem env_ext83 : env.ext 83 = none := id rfl
@[simp] theorem env_open84 : env.open_ 84 = false := id rfl
@[simp] theorem env_ext84 : env.ext 84 = none := id rfl
@[simp] theorem env_open85 : env.open_ 85 = false := id rfl
@[simp] theorem env_ext85 : env.ext 85 = none := id rfl
@[simp] theorem env_open86 : env.open_ 86 = false := id rfl
@[simp] theorem env_ext86 : env.ext 86 = none := id rfl
@[simp] theorem env_open87 : env.open_ 87 = false := id rfl
@[simp] theorem env_ext87 : env.ext 87 = some beforeF := id rfl
@[simp] theorem env_open88 : env.open_ 88 = false := id rfl
@[simp] theorem env_ext88 : env.ext 88 = none := id rfl
@[simp] theorem env_open89 : env.open_ 89 = false := id rfl
@[simp] theorem env_ext89 : env.ext 89 = none := id rfl
@[simp] theorem env_open90 : env.open_ 90 = false := id rfl
@[simp] theorem env_ext90 : env.ext 90 = none := id rfl
@[simp] theorem env_open91 : env.open_ 91 = false := id rfl
@[simp] theorem env_ext91 : env.ext 91 = none := id rfl
@[simp] theorem env_open92 : env.open_ 92 = false := id rfl
@[simp] theorem env_ext92 : env.ext 92 = none := id rfl
@[simp] theorem env_open93 : env.open_ 93 = true := id rfl
@[simp] theorem env_ext93 : env.ext 93 = none := id rfl
@[simp] theorem env_open94 : env.open_ 94 = true := id rfl
@[simp] theorem env_ext94 : env.ext 94 = none := id rfl
@[simp] theorem env_open95 : env.open_ 95 = false := id rfl
@[simp] theorem env_ext95 : env.ext 95 = none := id rfl
@[simp] theorem env_open96 : env.open_ 96 = false := id rfl
@[simp] theorem env_ext96 : env.ext 96 = none := id rfl
@[simp] theorem env_open97 : env.open_ 97 = false := id rfl
@[simp] theorem env_ext97 : env.ext 97 = none := id rfl
@[simp] theorem env_open98 : env.open_ 98 = false := id rfl
@[simp] theorem env_ext98 : env.ext 98 = none := id rfl
@[simp] theorem env_open99 : env.open_ 99 = false := id rfl
@[simp] theorem env_ext99 : env.ext 99 = none := id rfl
@[simp] theorem env_open100 : env.open_ 100 = false := id rfl
@[simp] theorem env_ext100 : env.ext 100 = none := id rfl
@[simp] theorem env_open101 : env.open_ 101 = false := id rfl
@[simp] theorem env_ext101 : env.ext 101 = none := id rfl
@[simp] theorem env_open102 : env.open_ 102 = false := id rfl
@[simp] theorem env_ext102 : env.ext 102 = none := id rfl
@[simp] theorem env_open103 : env.open_ 103 = false := id rfl
@[simp] theorem env_ext103 : env.ext 103 = none := id rfl
@[simp] theorem env_open104 : env.open_ 104 = false := id rfl
@[simp] theorem env_ext104 : env.ext 104 = none := id rfl
@[simp] theorem env_open105 : env.open_ 105 = false := id rfl
@[simp] theorem env_ext105 : env.ext 105 = none := id rfl
@[simp] theorem env_open106 : env.open_ 106 = true := id rfl
@[simp] theorem env_ext106 : env.ext 106 = none := id rfl
@[simp] theorem env_open107 : env.open_ 107 = false := id rfl
@[simp] theorem env_ext107 : env.ext 107 = none := id rfl
@[simp] theorem env_open108 : env.open_ 108 = false := id rfl
@[simp] theorem env_ext108 : env.ext 108 = none := id rfl
@[simp] theorem env_open109 : env.open_ 109 = false := id rfl
@[simp] theorem env_ext109 : env.ext 109 = none := id rfl
@[simp] theorem env_open110 : env.open_ 110 = false := id rfl
@[simp] theorem env_ext110 : env.ext 110 = some sortF := id rfl
@[simp] theorem env_open111 : env.open_ 111 = false := id rfl
@[simp] theorem env_ext111 : env.ext 111 = none := id rfl
@[simp] theorem env_open112 : env.open_ 112 = false := id rfl
@[simp] theorem env_ext112 : env.ext 112 = none := id rfl
@[simp] theorem env_open113 : env.open_ 113 = false := id rfl
@[simp] theorem env_ext113 : env.ext 113 = none := id rfl
@[simp] theorem env_open114 : env.open_ 114 = false := id rfl
@[simp] theorem env_ext114 : env.ext 114 = none := id rfl
@[simp] theorem env_open115 : env.open_ 115 = false := id rfl
@[simp] theorem env_ext115 : env.ext 115 = none := id rfl
@[simp] theorem env_open116 : env.open_ 116 = true := id rfl
@[simp] theorem env_ext116 : env.ext 116 = none := id rfl
@[simp] theorem env_open117 : env.open_ 117 = false := id rfl
@[simp] theorem env_ext117 : env.ext 117 = none := id rfl
@[simp] theorem env_open118 : env.open_ 118 = false := id rfl
@[simp] theorem env_ext118 : env.ext 118 = none := id rfl
@[simp] theorem env_open119 : env.open_ 119 = false := id rfl
@[simp] theorem env_ext119 : env.ext 119 = none := id rfl
@[simp] theorem env_open121 : env.open_ 121 = false := id rfl
@[simp] theorem env_ext121 : env.ext 121 = none := id rfl
@[simp] theorem env_open122 : env.open_ 122 = false := id rfl
@[simp] theorem env_ext122 : env.ext 122 = none := id rfl
@[simp] theorem env_open123 : env.open_ 123 = true := id rfl
@[simp] theorem env_ext123 : env.ext 123 = none := id rfl
@[simp] theorem env_open124 : env.open_ 124 = false := id rfl
@[simp] theorem env_ext124 : env.ext 124 = none := id rfl
@[simp] theorem env_open125 : env.open_ 125 = false := id rfl
@[simp] theorem env_ext125 : env.ext 125 = none := id rfl
@[simp] theorem env_open126 : env.open_ 126 = false := id rfl
@[simp] theorem env_ext126 : env.ext 126 = none := id rfl
@[simp] theorem env_open127 : env.open_ 127 = false := id rfl
@[simp] theorem env_ext127 : env.ext 127 = none := id rfl
@[simp] theorem env_open128 : env.open_ 128 = false := id rfl
@[simp] theorem env_ext128 : env.ext 128 = none := id rfl
@[simp] theorem env_open129 : env.open_ 129 = false := id rfl
@[simp] theorem env_ext129 : env.ext 129 = none := id rfl
@[simp] theorem env_open130 : env.open_ 130 = false := id rfl
@[simp] theorem env_ext130 : env.ext 130 = none := id rfl
@[simp] theorem env_open131 : env.open_ 131 = false := id rfl
@[simp] theorem env_ext131 : env.ext 131 = none := id rfl
@[simp] theorem env_open133 : env.open_ 133 = false := id rfl
@[simp] theorem env_ext133 : env.ext 133 = none := id rfl
@[simp] theorem env_open134 : env.open_ 134 = false := id rfl
@[simp] theorem env_ext134 : env.ext 134 = none := id rfl
@[simp] theorem env_open135 : env.open_ 135 = false := id rfl
@[simp] theorem env_ext135 : env.ext 135 = none := id rfl
@[simp] theorem env_open136 : env.open_ 136 = false := id rfl
@[simp] theorem env_ext136 : env.ext 136 = none := id rfl
@[simp] theorem env_open137 : env.open_ 137 = false := id rfl
@[simp] theorem env_ext137 : env.ext 137 = none := id rfl
@[simp] theorem env_open142 : env.open_ 142 = false := id rfl
@[simp] theorem env_ext142 : env.ext 142 = none := id rfl
@[simp] theorem env_open143 : env.open_ 143 = false := id rfl
@[simp] theorem env_ext143 : env.ext 143 = none := id rfl
@[simp] theorem env_open144 : env.open_ 144 = false := id rfl
@[simp] theorem env_ext144 : env.ext 144 = none := id rfl
@[simp] theorem env_open145 : env.open_ 145 = false := id rfl
@[simp] theorem env_ext145 : env.ext 145 = none := id rfl
@[simp] theorem env_open146 : env.open_ 146 = false := id rfl
@[simp] theorem env_ext146 : env.ext 146 = none := id rfl
@[simp] theorem env_open147 : env.open_ 147 = false := id rfl
@[simp] theorem env_ext147 : env.ext 147 = none := id rfl
@[simp] theorem env_open148 : env.open_ 148 = false := id rfl
@[simp] theorem env_ext148 : env.ext 148 = none := id rfl
@[simp] theorem env_open149 : env.open_ 149 = false := id rfl
@[simp] theorem env_ext149 : env.ext 149 = none := id rfl
@[simp] theorem env_open150 : env.open_ 150 = false := id rfl
@[simp] theorem env_ext150 : env.ext 150 = none := id rfl
@[simp] theorem env_open151 : env.open_ 151 = false := id rfl
@[simp] theorem env_ext151 : env.ext 151 = none := id rfl
@[simp] theorem env_open155 : env.open_ 155 = false := id rfl
@[simp] theorem env_ext155 : env.ext 155 = none := id rfl
@[simp] theorem env_open156 : env.open_ 156 = false := id rfl
@[simp] theorem env_ext156 : env.ext 156 = none := id rfl
@[simp] theorem env_open158 : env.open_ 158 = false := id rfl
@[simp] theorem env_ext158 : env.ext 158 = none := id rfl
@[simp] theorem env_open159 : env.open_ 159 = false := id rfl
@[simp] theorem env_ext159 : env.ext 159 = none := id rfl
@[simp] theorem env_open160 : env.open_ 160 = false := id rfl
@[simp] theorem env_ext160 : env.ext 160 = none := id rfl
@[simp] theorem env_open176 : env.open_ 176 = false := id rfl
@[simp] theorem env_ext176 : env.ext 176 = none := id rfl
@[simp] theorem env_open178 : env.open_ 178 = false := id rfl
@[simp] theorem env_ext178 : env.ext 178 = none := id rfl
@[simp] theorem env_open179 : env.open_ 179 = false := id rfl
@[simp] theorem env_ext179 : env.ext 179 = none := id rfl
@[simp] theorem env_open180 : env.open_ 180 = false := id rfl
@[simp] theorem env_ext180 : env.ext 180 = none := id rfl
@[simp] theorem env_open181 : env.open_ 181 = false := id rfl
@[simp] theorem env_ext181 : env.ext 181 = none := id rfl
@[simp] theorem env_open182 : env.open_ 182 = false := id rfl
@[simp] theorem env_ext182 : env.ext 182 = none := id rfl
theorem info2 : (Tryz.prog.info? 2).map (fun i => (i.size, i.bytes, i.zero)) = some (1, 8, some (.int .i64 0)) := by kernel_rfl
theorem info3 : (Tryz.prog.info? 3).map (fun i => (i.size, i.bytes, i.zero)) = some (1, 8, some (.int .i64 0)) := by kernel_rfl
theorem info4 : (Tryz.prog.info? 4).map (fun i => (i.size, i.bytes, i.zero)) = some (1, 1, some (.bool false)) := by kernel_rfl
theorem info5 : (Tryz.prog.info? 5).map (fun i => (i.size, i.bytes, i.zero)) = some (1, 1, some (.int .u8 0)) := by kernel_rfl
theorem info9 : (Tryz.prog.info? 9).map (fun i => (i.size, i.bytes, i.zero)) = some (1, 16, some (.string ⟨#[]⟩)) := by kernel_rfl
theorem info12 : (Tryz.prog.info? 12).map (fun i => (i.size, i.bytes, i.zero)) = some (1, 8, some (.int .u64 0)) := by kernel_rfl
theorem info21 : (Tryz.prog.info? 21).map (fun i => (i.size, i.bytes, i.zero)) = some (1, 4, some (.int .i32 0)) := by kernel_rfl
theorem info22 : (Tryz.prog.info? 22).map (fun i => (i.size, i.bytes, i.zero)) = some (1, 24, some (.slice none 0 0)) := by kernel_rfl
theorem info24 : (Tryz.prog.info? 24).map (fun i => (i.size, i.bytes, i.zero)) = some (1, 24, some (.slice none 0 0)) := by kernel_rfl
theorem info25 : (Tryz.prog.info? 25).map (fun i => (i.size, i.bytes, i.zero)) = some (2, 32, some (.agg #[(.int .i64 0), (.slice none 0 0)])) := by kernel_rfl
theorem info26 : (Tryz.prog.info? 26).map (fun i => (i.size, i.bytes, i.zero)) = some (2, 32, some (.agg #[(.int .i64 0), (.slice none 0 0)])) := by kernel_rfl
theorem info29 : (Tryz.prog.info? 29).map (fun i => (i.size, i.bytes, i.zero)) = some (1, 24, some (.slice none 0 0)) := by kernel_rfl
theorem info30 : (Tryz.prog.info? 30).map (fun i => (i.size, i.bytes, i.zero)) = some (1, 24, some (.slice none 0 0)) := by kernel_rfl
theorem info31 : (Tryz.prog.info? 31).map (fun i => (i.size, i.bytes, i.zero)) = some (4, 80, some (.agg #[(.slice none 0 0), (.slice none 0 0), (.int .i64 0), (.slice none 0 0)])) := by kernel_rfl
theorem info32 : (Tryz.prog.info? 32).map (fun i => (i.size, i.bytes, i.zero)) = some (4, 80, some (.agg #[(.slice none 0 0), (.slice none 0 0), (.int .i64 0), (.slice none 0 0)])) := by kernel_rfl
theorem info39 : (Tryz.prog.info? 39).map (fun i => (i.size, i.bytes, i.zero)) = some (2, 16, some (.agg #[(.int .i64 0), (.int .i64 0)])) := by kernel_rfl
theorem info40 : (Tryz.prog.info? 40).map (fun i => (i.size, i.bytes, i.zero)) = some (2, 16, some (.agg #[(.int .i64 0), (.int .i64 0)])) := by kernel_rfl
theorem info41 : (Tryz.prog.info? 41).map (fun i => (i.size, i.bytes, i.zero)) = some (4, 32, some (.agg #[(.int .i64 0), (.int .i64 0), (.bool false), (.int .i64 0)])) := by kernel_rfl
theorem info42 : (Tryz.prog.info? 42).map (fun i => (i.size, i.bytes, i.zero)) = some (4, 32, some (.agg #[(.int .i64 0), (.int .i64 0), (.bool false), (.int .i64 0)])) := by kernel_rfl
theorem info52 : (Tryz.prog.info? 52).map (fun i => (i.size, i.bytes, i.zero)) = some (2, 32, some (.agg #[(.int .i64 0), (.slice none 0 0)])) := by kernel_rfl
theorem info92 : (Tryz.prog.info? 92).map (fun i => (i.size, i.bytes, i.zero)) = some (1, 8, some (.int .u64 0)) := by kernel_rfl
theorem info94 : (Tryz.prog.info? 94).map (fun i => (i.size, i.bytes, i.zero)) = some (3, 40, some (.agg #[(.slice none 0 0), (.int .i64 0), (.int .i64 0)])) := by kernel_rfl
theorem info95 : (Tryz.prog.info? 95).map (fun i => (i.size, i.bytes, i.zero)) = some (3, 40, some (.agg #[(.slice none 0 0), (.int .i64 0), (.int .i64 0)])) := by kernel_rfl
theorem info109 : (Tryz.prog.info? 109).map (fun i => (i.size, i.bytes, i.zero)) = some (1, 4, some (.int .u32 0)) := by kernel_rfl
theorem info111 : (Tryz.prog.info? 111).map (fun i => (i.size, i.bytes, i.zero)) = some (1, 8, some (.int .u64 0)) := by kernel_rfl
theorem info115 : (Tryz.prog.info? 115).map (fun i => (i.size, i.bytes, i.zero)) = some (32, 32, some (.agg #[(.int .u8 0), (.int .u8 0), (.int .u8 0), (.int .u8 0), (.int .u8 0), (.int .u8 0), (.int .u8 0), (.int .u8 0), (.int .u8 0), (.int .u8 0), (.int .u8 0), (.int .u8 0), (.int .u8 0), (.int .u8 0), (.int .u8 0), (.int .u8 0), (.int .u8 0), (.int .u8 0), (.int .u8 0), (.int .u8 0), (.int .u8 0), (.int .u8 0), (.int .u8 0), (.int .u8 0), (.int .u8 0), (.int .u8 0), (.int .u8 0), (.int .u8 0), (.int .u8 0), (.int .u8 0), (.int .u8 0), (.int .u8 0)])) := by kernel_rfl
theorem info116 : (Tryz.prog.info? 116).map (fun i => (i.size, i.bytes, i.zero)) = some (64, 64, some (.agg #[(.int .u8 0), (.int .u8 0), (.int .u8 0), (.int .u8 0), (.int .u8 0), (.int .u8 0), (.int .u8 0), (.int .u8 0), (.int .u8 0), (.int .u8 0), (.int .u8 0), (.int .u8 0), (.int .u8 0), (.int .u8 0), (.int .u8 0), (.int .u8 0), (.int .u8 0), (.int .u8 0), (.int .u8 0), (.int .u8 0), (.int .u8 0), (.int .u8 0), (.int .u8 0), (.int .u8 0), (.int .u8 0), (.int .u8 0), (.int .u8 0), (.int .u8 0), (.int .u8 0), (.int .u8 0), (.int .u8 0), (.int .u8 0), (.int .u8 0), (.int .u8 0), (.int .u8 0), (.int .u8 0), (.int .u8 0), (.int .u8 0), (.int .u8 0), (.int .u8 0), (.int .u8 0), (.int .u8 0), (.int .u8 0), (.int .u8 0), (.int .u8 0), (.int .u8 0), (.int .u8 0), (.int .u8 0), (.int .u8 0), (.int .u8 0), (.int .u8 0), (.int .u8 0), (.int .u8 0), (.int .u8 0), (.int .u8 0), (.int .u8 0), (.int .u8 0), (.int .u8 0), (.int .u8 0), (.int .u8 0), (.int .u8 0), (.int .u8 0), (.int .u8 0), (.int .u8 0)])) := by kernel_rfl
theorem info117 : (Tryz.prog.info? 117).map (fun i => (i.size, i.bytes, i.zero)) = some (24, 24, some (.agg #[(.int .u8 0), (.int .u8 0), (.int .u8 0), (.int .u8 0), (.int .u8 0), (.int .u8 0), (.int .u8 0), (.int .u8 0), (.int .u8 0), (.int .u8 0), (.int .u8 0), (.int .u8 0), (.int .u8 0), (.int .u8 0), (.int .u8 0), (.int .u8 0), (.int .u8 0), (.int .u8 0), (.int .u8 0), (.int .u8 0), (.int .u8 0), (.int .u8 0), (.int .u8 0), (.int .u8 0)])) := by kernel_rfl
theorem info122 : (Tryz.prog.info? 122).map (fun i => (i.size, i.bytes, i.zero)) = some (1, 8, some (.int .i64 0)) := by kernel_rfl
theorem info128 : (Tryz.prog.info? 128).map (fun i => (i.size, i.bytes, i.zero)) = some (20, 160, some (.agg #[(.int .u64 0), (.int .u64 0), (.int .u64 0), (.int .u64 0), (.int .u64 0), (.int .u64 0), (.int .u64 0), (.int .u64 0), (.int .u64 0), (.int .u64 0), (.int .u64 0), (.int .u64 0), (.int .u64 0), (.int .u64 0), (.int .u64 0), (.int .u64 0), (.int .u64 0), (.int .u64 0), (.int .u64 0), (.int .u64 0)])) := by kernel_rfl
theorem info129 : (Tryz.prog.info? 129).map (fun i => (i.size, i.bytes, i.zero)) = some (65, 65, some (.agg #[(.int .u8 0), (.int .u8 0), (.int .u8 0), (.int .u8 0), (.int .u8 0), (.int .u8 0), (.int .u8 0), (.int .u8 0), (.int .u8 0), (.int .u8 0), (.int .u8 0), (.int .u8 0), (.int .u8 0), (.int .u8 0), (.int .u8 0), (.int .u8 0), (.int .u8 0), (.int .u8 0), (.int .u8 0), (.int .u8 0), (.int .u8 0), (.int .u8 0), (.int .u8 0), (.int .u8 0), (.int .u8 0), (.int .u8 0), (.int .u8 0), (.int .u8 0), (.int .u8 0), (.int .u8 0), (.int .u8 0), (.int .u8 0), (.int .u8 0), (.int .u8 0), (.int .u8 0), (.int .u8 0), (.int .u8 0), (.int .u8 0), (.int .u8 0), (.int .u8 0), (.int .u8 0), (.int .u8 0), (.int .u8 0), (.int .u8 0), (.int .u8 0), (.int .u8 0), (.int .u8 0), (.int .u8 0), (.int .u8 0), (.int .u8 0), (.int .u8 0), (.int .u8 0), (.int .u8 0), (.int .u8 0), (.int .u8 0), (.int .u8 0), (.int .u8 0), (.int .u8 0), (.int .u8 0), (.int .u8 0), (.int .u8 0), (.int .u8 0), (.int .u8 0), (.int .u8 0), (.int .u8 0)])) := by kernel_rfl
theorem info130 : (Tryz.prog.info? 130).map (fun i => (i.size, i.bytes, i.zero)) = some (1, 8, some (.int .u64 0)) := by kernel_rfl
theorem env_parts {t s b : Nat} {z : Value} {a : AV} (hi : (Tryz.prog.info? t).map (fun i => (i.size, i.bytes, i.zero)) = some (s, b, some z)) (hb : b ≤ 131072) (hz : ∀ c, VR a c z) (hl : a.cells.length = s) (ho : a.cells.all AV.one = true) :
    ∃ i z, Tryz.prog.info? t = some i ∧ i.size = s ∧ i.bytes ≤ 131072 ∧ i.zero = some z ∧ (∀ c, VR a c z) ∧ a.cells.length = s ∧ a.cells.all AV.one = true := by
  rw [Option.map_eq_some_iff] at hi
  obtain ⟨i, h1, h2⟩ := hi
  obtain ⟨rfl, h3⟩ := Prod.mk.inj h2
  obtain ⟨rfl, h4⟩ := Prod.mk.inj h3
  exact ⟨i, z, h1, rfl, hb, h4, hz, hl, ho⟩
theorem vr_nil (c : Cx) : VR (.sl 0 .lit []) c (.slice none 0 0) := by simp only [VR]; exact ⟨none, 0, rfl, Nat.le_refl _, Nat.zero_le _, fun _ => rfl, fun h => (h rfl).elim, rfl⟩
theorem vz_agg {c : Cx} {cs : List AV} {rc : List Value} (h : VRl cs c rc) : VR (.agg cs) c (.agg rc.toArray) := by simp only [VR]; exact ⟨_, rfl, h⟩
theorem vz_int {c : Cx} {k : IntKind} {n : Int} : VR (.int k n) c (.int k n) := by simp only [VR]
theorem vz_bool {c : Cx} {b : Bool} : VR (.bool b) c (.bool b) := by simp only [VR]
theorem vz_str {c : Cx} {s : ByteArray} : VR (.str s) c (.string s) := by simp only [VR]
theorem vz_nilf {c : Cx} : VR .nilf c .nilFunc := by simp only [VR]
theorem vz_nil {c : Cx} : VRl [] c [] := by simp only [VRl]
theorem vz_cons {c : Cx} {x : AV} {xs : List AV} {v : Value} {vs : List Value} (h : VR x c v) (t : VRl xs c vs) : VRl (x :: xs) c (v :: vs) := by simp only [VRl]; exact ⟨_, _, rfl, h, t⟩
set_option maxRecDepth 100000 in
theorem env_tys : ∀ t, envTy t ≠ .other → ∃ d, Tryz.prog.underlying t = some d ∧ TD.of d = envTy t := by
  intro t h
  unfold envTy at h ⊢
  split at h
  · exact ⟨_, Tryz.underlying1, rfl⟩
  · exact ⟨_, Tryz.underlying2, rfl⟩
  · exact ⟨_, Tryz.underlying3, rfl⟩
  · exact ⟨_, Tryz.underlying4, rfl⟩
  · exact ⟨_, Tryz.underlying5, rfl⟩
  · exact ⟨_, Tryz.underlying9, rfl⟩
  · exact ⟨_, Tryz.underlying12, rfl⟩
  · exact ⟨_, Tryz.underlying21, rfl⟩
  · exact ⟨_, Tryz.underlying22, rfl⟩
  · exact ⟨_, Tryz.underlying23, rfl⟩
  · exact ⟨_, Tryz.underlying24, rfl⟩
  · exact ⟨_, Tryz.underlying25, rfl⟩
  · exact ⟨_, Tryz.underlying26, rfl⟩
  · exact ⟨_, Tryz.underlying28, rfl⟩
  · exact ⟨_, Tryz.underlying29, rfl⟩
  · exact ⟨_, Tryz.underlying30, rfl⟩
  · exact ⟨_, Tryz.underlying31, rfl⟩
  · exact ⟨_, Tryz.underlying32, rfl⟩
  · exact ⟨_, Tryz.underlying34, rfl⟩
  · exact ⟨_, Tryz.underlying36, rfl⟩
  · exact ⟨_, Tryz.underlying38, rfl⟩
  · exact ⟨_, Tryz.underlying39, rfl⟩
  · exact ⟨_, Tryz.underlying40, rfl⟩
  · exact ⟨_, Tryz.underlying41, rfl⟩
  · exact ⟨_, Tryz.underlying42, rfl⟩
  · exact ⟨_, Tryz.underlying43, rfl⟩
  · exact ⟨_, Tryz.underlying44, rfl⟩
  · exact ⟨_, Tryz.underlying45, rfl⟩
  · exact ⟨_, Tryz.underlying46, rfl⟩
  · exact ⟨_, Tryz.underlying47, rfl⟩
  · exact ⟨_, Tryz.underlying48, rfl⟩
  · exact ⟨_, Tryz.underlying49, rfl⟩
  · exact ⟨_, Tryz.underlying50, rfl⟩
  · exact ⟨_, Tryz.underlying51, rfl⟩
  · exact ⟨_, Tryz.underlying52, rfl⟩
  · exact ⟨_, Tryz.underlying53, rfl⟩
  · exact ⟨_, Tryz.underlying54, rfl⟩
  · exact ⟨_, Tryz.underlying55, rfl⟩
  · exact ⟨_, Tryz.underlying56, rfl⟩
  · exact ⟨_, Tryz.underlying57, rfl⟩
  · exact ⟨_, Tryz.underlying58, rfl⟩
  · exact ⟨_, Tryz.underlying59, rfl⟩
  · exact ⟨_, Tryz.underlying60, rfl⟩
  · exact ⟨_, Tryz.underlying61, rfl⟩
  · exact ⟨_, Tryz.underlying62, rfl⟩
  · exact ⟨_, Tryz.underlying63, rfl⟩
  · exact ⟨_, Tryz.underlying64, rfl⟩
  · exact ⟨_, Tryz.underlying65, rfl⟩
  · exact ⟨_, Tryz.underlying66, rfl⟩
  · exact ⟨_, Tryz.underlying67, rfl⟩
  · exact ⟨_, Tryz.underlying68, rfl⟩
  · exact ⟨_, Tryz.underlying69, rfl⟩
  · exact ⟨_, Tryz.underlying70, rfl⟩
  · exact ⟨_, Tryz.underlying72, rfl⟩
  · exact ⟨_, Tryz.underlying73, rfl⟩
  · exact ⟨_, Tryz.underlying74, rfl⟩
  · exact ⟨_, Tryz.underlying75, rfl⟩
  · exact ⟨_, Tryz.underlying76, rfl⟩
  · exact ⟨_, Tryz.underlying77, rfl⟩
  · exact ⟨_, Tryz.underlying78, rfl⟩
  · exact ⟨_, Tryz.underlying79, rfl⟩
  · exact ⟨_, Tryz.underlying80, rfl⟩
  · exact ⟨_, Tryz.underlying81, rfl⟩
  · exact ⟨_, Tryz.underlying82, rfl⟩
  · exact ⟨_, Tryz.underlying83, rfl⟩
  · exact ⟨_, Tryz.underlying84, rfl⟩
  · exact ⟨_, Tryz.underlying85, rfl⟩
  · exact ⟨_, Tryz.underlying86, rfl⟩
  · exact ⟨_, Tryz.underlying87, rfl⟩
  · exact ⟨_, Tryz.underlying88, rfl⟩
  · exact ⟨_, Tryz.underlying89, rfl⟩
  · exact ⟨_, Tryz.underlying90, rfl⟩
  · exact ⟨_, Tryz.underlying91, rfl⟩
  · exact ⟨_, Tryz.underlying92, rfl⟩
  · exact ⟨_, Tryz.underlying93, rfl⟩
  · exact ⟨_, Tryz.underlying94, rfl⟩
  · exact ⟨_, Tryz.underlying95, rfl⟩
  · exact ⟨_, Tryz.underlying96, rfl⟩
  · exact ⟨_, Tryz.underlying97, rfl⟩
  · exact ⟨_, Tryz.underlying98, rfl⟩
  · exact ⟨_, Tryz.underlying99, rfl⟩
  · exact ⟨_, Tryz.underlying100, rfl⟩
  · exact ⟨_, Tryz.underlying101, rfl⟩
  · exact ⟨_, Tryz.underlying102, rfl⟩
  · exact ⟨_, Tryz.underlying103, rfl⟩
  · exact ⟨_, Tryz.underlying104, rfl⟩
  · exact ⟨_, Tryz.underlying105, rfl⟩
  · exact ⟨_, Tryz.underlying106, rfl⟩
  · exact ⟨_, Tryz.underlying107, rfl⟩
  · exact ⟨_, Tryz.underlying108, rfl⟩
  · exact ⟨_, Tryz.underlying109, rfl⟩
  · exact ⟨_, Tryz.underlying110, rfl⟩
  · exact ⟨_, Tryz.underlying111, rfl⟩
  · exact ⟨_, Tryz.underlying112, rfl⟩
  · exact ⟨_, Tryz.underlying113, rfl⟩
  · exact ⟨_, Tryz.underlying114, rfl⟩
  · exact ⟨_, Tryz.underlying115, rfl⟩
  · exact ⟨_, Tryz.underlying116, rfl⟩
  · exact ⟨_, Tryz.underlying117, rfl⟩
  · exact ⟨_, Tryz.underlying118, rfl⟩
  · exact ⟨_, Tryz.underlying120, rfl⟩
  · exact ⟨_, Tryz.underlying121, rfl⟩
  · exact ⟨_, Tryz.underlying122, rfl⟩
  · exact ⟨_, Tryz.underlying124, rfl⟩
  · exact ⟨_, Tryz.underlying125, rfl⟩
  · exact ⟨_, Tryz.underlying126, rfl⟩
  · exact ⟨_, Tryz.underlying127, rfl⟩
  · exact ⟨_, Tryz.underlying128, rfl⟩
  · exact ⟨_, Tryz.underlying129, rfl⟩
  · exact ⟨_, Tryz.underlying130, rfl⟩
  · exact ⟨_, Tryz.underlying131, rfl⟩
  · exact ⟨_, Tryz.underlying132, rfl⟩
  · exact ⟨_, Tryz.underlying133, rfl⟩
  · exact ⟨_, Tryz.underlying134, rfl⟩
  · exact ⟨_, Tryz.underlying135, rfl⟩
  · exact ⟨_, Tryz.underlying136, rfl⟩
  · exact ⟨_, Tryz.underlying138, rfl⟩
  · exact ⟨_, Tryz.underlying139, rfl⟩
  · exact ⟨_, Tryz.underlying145, rfl⟩
  · exact ⟨_, Tryz.underlying148, rfl⟩
  · exact ⟨_, Tryz.underlying149, rfl⟩
  · exact ⟨_, Tryz.underlying154, rfl⟩
  · exact (h rfl).elim
set_option maxRecDepth 100000 in
theorem env_sizes : ∀ t, envSize t ≠ 0 → ∃ i z, Tryz.prog.info? t = some i ∧ i.size = envSize t ∧ i.bytes ≤ 131072 ∧ i.zero = some z ∧ (∀ c, VR (envZero t) c z) ∧ (envZero t).cells.length = envSize t ∧ (envZero t).cells.all AV.one = true := by
  intro t h
  unfold envSize at h
  split at h
  · exact env_parts info2 (by decide) (fun c => vz_int) rfl rfl
  · exact env_parts info3 (by decide) (fun c => vz_int) rfl rfl
  · exact env_parts info4 (by decide) (fun c => vz_bool) rfl rfl
  · exact env_parts info5 (by decide) (fun c => vz_int) rfl rfl
  · exact env_parts info9 (by decide) (fun c => vz_str) rfl rfl
  · exact env_parts info12 (by decide) (fun c => vz_int) rfl rfl
  · exact env_parts info21 (by decide) (fun c => vz_int) rfl rfl
  · exact env_parts info22 (by decide) (fun c => (vr_nil c)) rfl rfl
  · exact env_parts info24 (by decide) (fun c => (vr_nil c)) rfl rfl
  · exact env_parts info25 (by decide) (fun c => (vz_agg (vz_cons vz_int (vz_cons (vr_nil c) vz_nil)))) rfl rfl
  · exact env_parts info26 (by decide) (fun c => (vz_agg (vz_cons vz_int (vz_cons (vr_nil c) vz_nil)))) rfl rfl
  · exact env_parts info29 (by decide) (fun c => (vr_nil c)) rfl rfl
  · exact env_parts info30 (by decide) (fun c => (vr_nil c)) rfl rfl
  · exact env_parts info31 (by decide) (fun c => (vz_agg (vz_cons (vr_nil c) (vz_cons (vr_nil c) (vz_cons vz_int (vz_cons (vr_nil c) vz_nil)))))) rfl rfl
  · exact env_parts info32 (by decide) (fun c => (vz_agg (vz_cons (vr_nil c) (vz_cons (vr_nil c) (vz_cons vz_int (vz_cons (vr_nil c) vz_nil)))))) rfl rfl
  · exact env_parts info39 (by decide) (fun c => (vz_agg (vz_cons vz_int (vz_cons vz_int vz_nil)))) rfl rfl
  · exact env_parts info40 (by decide) (fun c => (vz_agg (vz_cons vz_int (vz_cons vz_int vz_nil)))) rfl rfl
  · exact env_parts info41 (by decide) (fun c => (vz_agg (vz_cons vz_int (vz_cons vz_int (vz_cons vz_bool (vz_cons vz_int vz_nil)))))) rfl rfl
  · exact env_parts info42 (by decide) (fun c => (vz_agg (vz_cons vz_int (vz_cons vz_int (vz_cons vz_bool (vz_cons vz_int vz_nil)))))) rfl rfl
  · exact env_parts info52 (by decide) (fun c => (vz_agg (vz_cons vz_int (vz_cons (vr_nil c) vz_nil)))) rfl rfl
  · exact env_parts info92 (by decide) (fun c => vz_int) rfl rfl
  · exact env_parts info94 (by decide) (fun c => (vz_agg (vz_cons (vr_nil c) (vz_cons vz_int (vz_cons vz_int vz_nil))))) rfl rfl
  · exact env_parts info95 (by decide) (fun c => (vz_agg (vz_cons (vr_nil c) (vz_cons vz_int (vz_cons vz_int vz_nil))))) rfl rfl
  · exact env_parts info109 (by decide) (fun c => vz_int) rfl rfl
  · exact env_parts info111 (by decide) (fun c => vz_int) rfl rfl
  · exact env_parts info115 (by decide) (fun c => (vz_agg (vz_cons vz_int (vz_cons vz_int (vz_cons vz_int (vz_cons vz_int (vz_cons vz_int (vz_cons vz_int (vz_cons vz_int (vz_cons vz_int (vz_cons vz_int (vz_cons vz_int (vz_cons vz_int (vz_cons vz_int (vz_cons vz_int (vz_cons vz_int (vz_cons vz_int (vz_cons vz_int (vz_cons vz_int (vz_cons vz_int (vz_cons vz_int (vz_cons vz_int (vz_cons vz_int (vz_cons vz_int (vz_cons vz_int (vz_cons vz_int (vz_cons vz_int (vz_cons vz_int (vz_cons vz_int (vz_cons vz_int (vz_cons vz_int (vz_cons vz_int (vz_cons vz_int (vz_cons vz_int vz_nil)))))))))))))))))))))))))))))))))) rfl rfl
  · exact env_parts info116 (by decide) (fun c => (vz_agg (vz_cons vz_int (vz_cons vz_int (vz_cons vz_int (vz_cons vz_int (vz_cons vz_int (vz_cons vz_int (vz_cons vz_int (vz_cons vz_int (vz_cons vz_int (vz_cons vz_int (vz_cons vz_int (vz_cons vz_int (vz_cons vz_int (vz_cons vz_int (vz_cons vz_int (vz_cons vz_int (vz_cons vz_int (vz_cons vz_int (vz_cons vz_int (vz_cons vz_int (vz_cons vz_int (vz_cons vz_int (vz_cons vz_int (vz_cons vz_int (vz_cons vz_int (vz_cons vz_int (vz_cons vz_int (vz_cons vz_int (vz_cons vz_int (vz_cons vz_int (vz_cons vz_int (vz_cons vz_int (vz_cons vz_int (vz_cons vz_int (vz_cons vz_int (vz_cons vz_int (vz_cons vz_int (vz_cons vz_int (vz_cons vz_int (vz_cons vz_int (vz_cons vz_int (vz_cons vz_int (vz_cons vz_int (vz_cons vz_int (vz_cons vz_int (vz_cons vz_int (vz_cons vz_int (vz_cons vz_int (vz_cons vz_int (vz_cons vz_int (vz_cons vz_int (vz_cons vz_int (vz_cons vz_int (vz_cons vz_int (vz_cons vz_int (vz_cons vz_int (vz_cons vz_int (vz_cons vz_int (vz_cons vz_int (vz_cons vz_int (vz_cons vz_int (vz_cons vz_int (vz_cons vz_int (vz_cons vz_int vz_nil)))))))))))))))))))))))))))))))))))))))))))))))))))))))))))))))))) rfl rfl
  · exact env_parts info117 (by decide) (fun c => (vz_agg (vz_cons vz_int (vz_cons vz_int (vz_cons vz_int (vz_cons vz_int (vz_cons vz_int (vz_cons vz_int (vz_cons vz_int (vz_cons vz_int (vz_cons vz_int (vz_cons vz_int (vz_cons vz_int (vz_cons vz_int (vz_cons vz_int (vz_cons vz_int (vz_cons vz_int (vz_cons vz_int (vz_cons vz_int (vz_cons vz_int (vz_cons vz_int (vz_cons vz_int (vz_cons vz_int (vz_cons vz_int (vz_cons vz_int (vz_cons vz_int vz_nil)))))))))))))))))))))))))) rfl rfl
  · exact env_parts info122 (by decide) (fun c => vz_int) rfl rfl
  · exact env_parts info128 (by decide) (fun c => (vz_agg (vz_cons vz_int (vz_cons vz_int (vz_cons vz_int (vz_cons vz_int (vz_cons vz_int (vz_cons vz_int (vz_cons vz_int (vz_cons vz_int (vz_cons vz_int (vz_cons vz_int (vz_cons vz_int (vz_cons vz_int (vz_cons vz_int (vz_cons vz_int (vz_cons vz_int (vz_cons vz_int (vz_cons vz_int (vz_cons vz_int (vz_cons vz_int (vz_cons vz_int vz_nil)))))))))))))))))))))) rfl rfl
  · exact env_parts info129 (by decide) (fun c => (vz_agg (vz_cons vz_int (vz_cons vz_int (vz_cons vz_int (vz_cons vz_int (vz_cons vz_int (vz_cons vz_int (vz_cons vz_int (vz_cons vz_int (vz_cons vz_int (vz_cons vz_int (vz_cons vz_int (vz_cons vz_int (vz_cons vz_int (vz_cons vz_int (vz_cons vz_int (vz_cons vz_int (vz_cons vz_int (vz_cons vz_int (vz_cons vz_int (vz_cons vz_int (vz_cons vz_int (vz_cons vz_int (vz_cons vz_int (vz_cons vz_int (vz_cons vz_int (vz_cons vz_int (vz_cons vz_int (vz_cons vz_int (vz_cons vz_int (vz_cons vz_int (vz_cons vz_int (vz_cons vz_int (vz_cons vz_int (vz_cons vz_int (vz_cons vz_int (vz_cons vz_int (vz_cons vz_int (vz_cons vz_int (vz_cons vz_int (vz_cons vz_int (vz_cons vz_int (vz_cons vz_int (vz_cons vz_int (vz_cons vz_int (vz_cons vz_int (vz_cons vz_int (vz_cons vz_int (vz_cons vz_int (vz_cons vz_int (vz_cons vz_int (vz_cons vz_int (vz_cons vz_int (vz_cons vz_int (vz_cons vz_int (vz_cons vz_int (vz_cons vz_int (vz_cons vz_int (vz_cons vz_int (vz_cons vz_int (vz_cons vz_int (vz_cons vz_int (vz_cons vz_int (vz_cons vz_int (vz_cons vz_int (vz_cons vz_int vz_nil))))))))))))))))))))))))))))))))))))))))))))))))))))))))))))))))))) rfl rfl
  · exact env_parts info130 (by decide) (fun c => vz_int) rfl rfl
  · exact (h rfl).elim
set_option maxRecDepth 100000 in
theorem env_fns0 : ∀ f F, envFn0 f = some F → Tryz.prog.funcs[f]? = some F ∧ F.name ≠ "runtime.NumGoroutine" := by
  intro f F h
  unfold envFn0 at h
  split at h
  · obtain rfl := Option.some.inj h; exact ⟨Tryz.func3, by simp [Tryz.f3]⟩
  · obtain rfl := Option.some.inj h; exact ⟨Tryz.func4, by simp [Tryz.f4]⟩
  · obtain rfl := Option.some.inj h; exact ⟨Tryz.func5, by simp [Tryz.f5]⟩
  · obtain rfl := Option.some.inj h; exact ⟨Tryz.func6, by simp [Tryz.f6]⟩
  · obtain rfl := Option.some.inj h; exact ⟨Tryz.func7, by simp [Tryz.f7]⟩
  · obtain rfl := Option.some.inj h; exact ⟨Tryz.func8, by simp [Tryz.f8]⟩
  · obtain rfl := Option.some.inj h; exact ⟨Tryz.func9, by simp [Tryz.f9]⟩
  · obtain rfl := Option.some.inj h; exact ⟨Tryz.func10, by simp [Tryz.f10]⟩
  · obtain rfl := Option.some.inj h; exact ⟨Tryz.func11, by simp [Tryz.f11]⟩
  · obtain rfl := Option.some.inj h; exact ⟨Tryz.func12, by simp [Tryz.f12]⟩
  · obtain rfl := Option.some.inj h; exact ⟨Tryz.func13, by simp [Tryz.f13]⟩
  · obtain rfl := Option.some.inj h; exact ⟨Tryz.func14, by simp [Tryz.f14]⟩
  · obtain rfl := Option.some.inj h; exact ⟨Tryz.func15, by simp [Tryz.f15]⟩
  · obtain rfl := Option.some.inj h; exact ⟨Tryz.func16, by simp [Tryz.f16]⟩
  · obtain rfl := Option.some.inj h; exact ⟨Tryz.func17, by simp [Tryz.f17]⟩
  · obtain rfl := Option.some.inj h; exact ⟨Tryz.func18, by simp [Tryz.f18]⟩
  · obtain rfl := Option.some.inj h; exact ⟨Tryz.func19, by simp [Tryz.f19]⟩
  · obtain rfl := Option.some.inj h; exact ⟨Tryz.func20, by simp [Tryz.f20]⟩
  · obtain rfl := Option.some.inj h; exact ⟨Tryz.func21, by simp [Tryz.f21]⟩
  · obtain rfl := Option.some.inj h; exact ⟨Tryz.func22, by simp [Tryz.f22]⟩
  · obtain rfl := Option.some.inj h; exact ⟨Tryz.func23, by simp [Tryz.f23]⟩
  · obtain rfl := Option.some.inj h; exact ⟨Tryz.func24, by simp [Tryz.f24]⟩
  · obtain rfl := Option.some.inj h; exact ⟨Tryz.func25, by simp [Tryz.f25]⟩
  · obtain rfl := Option.some.inj h; exact ⟨Tryz.func26, by simp [Tryz.f26]⟩
  · obtain rfl := Option.some.inj h; exact ⟨Tryz.func27, by simp [Tryz.f27]⟩
  · obtain rfl := Option.some.inj h; exact ⟨Tryz.func28, by simp [Tryz.f28]⟩
  · obtain rfl := Option.some.inj h; exact ⟨Tryz.func29, by simp [Tryz.f29]⟩
  · obtain rfl := Option.some.inj h; exact ⟨Tryz.func30, by simp [Tryz.f30]⟩
  · obtain rfl := Option.some.inj h; exact ⟨Tryz.func31, by simp [Tryz.f31]⟩
  · obtain rfl := Option.some.inj h; exact ⟨Tryz.func32, by simp [Tryz.f32]⟩
  · obtain rfl := Option.some.inj h; exact ⟨Tryz.func33, by simp [Tryz.f33]⟩
  · obtain rfl := Option.some.inj h; exact ⟨Tryz.func34, by simp [Tryz.f34]⟩
  · obtain rfl := Option.some.inj h; exact ⟨Tryz.func35, by simp [Tryz.f35]⟩
  · obtain rfl := Option.some.inj h; exact ⟨Tryz.func36, by simp [Tryz.f36]⟩
  · obtain rfl := Option.some.inj h; exact ⟨Tryz.func37, by simp [Tryz.f37]⟩
  · obtain rfl := Option.some.inj h; exact ⟨Tryz.func38, by simp [Tryz.f38]⟩
  · obtain rfl := Option.some.inj h; exact ⟨Tryz.func39, by simp [Tryz.f39]⟩
  · obtain rfl := Option.some.inj h; exact ⟨Tryz.func40, by simp [Tryz.f40]⟩
  · obtain rfl := Option.some.inj h; exact ⟨Tryz.func41, by simp [Tryz.f41]⟩
  · obtain rfl := Option.some.inj h; exact ⟨Tryz.func42, by simp [Tryz.f42]⟩
  · obtain rfl := Option.some.inj h; exact ⟨Tryz.func43, by simp [Tryz.f43]⟩
  · obtain rfl := Option.some.inj h; exact ⟨Tryz.func44, by simp [Tryz.f44]⟩
  · obtain rfl := Option.some.inj h; exact ⟨Tryz.func45, by simp [Tryz.f45]⟩
  · obtain rfl := Option.some.inj h; exact ⟨Tryz.func46, by simp [Tryz.f46]⟩
  · obtain rfl := Option.some.inj h; exact ⟨Tryz.func47, by simp [Tryz.f47]⟩
  · obtain rfl := Option.some.inj h; exact ⟨Tryz.func48, by simp [Tryz.f48]⟩
  · obtain rfl := Option.some.inj h; exact ⟨Tryz.func49, by simp [Tryz.f49]⟩
  · obtain rfl := Option.some.inj h; exact ⟨Tryz.func50, by simp [Tryz.f50]⟩
  · obtain rfl := Option.some.inj h; exact ⟨Tryz.func51, by simp [Tryz.f51]⟩
  · obtain rfl := Option.some.inj h; exact ⟨Tryz.func52, by simp [Tryz.f52]⟩
  · obtain rfl := Option.some.inj h; exact ⟨Tryz.func53, by simp [Tryz.f53]⟩
  · obtain rfl := Option.some.inj h; exact ⟨Tryz.func54, by simp [Tryz.f54]⟩
  · obtain rfl := Option.some.inj h; exact ⟨Tryz.func55, by simp [Tryz.f55]⟩
  · obtain rfl := Option.some.inj h; exact ⟨Tryz.func56, by simp [Tryz.f56]⟩
  · obtain rfl := Option.some.inj h; exact ⟨Tryz.func57, by simp [Tryz.f57]⟩
  · obtain rfl := Option.some.inj h; exact ⟨Tryz.func58, by simp [Tryz.f58]⟩
  · obtain rfl := Option.some.inj h; exact ⟨Tryz.func59, by simp [Tryz.f59]⟩
  · obtain rfl := Option.some.inj h; exact ⟨Tryz.func60, by simp [Tryz.f60]⟩
  · obtain rfl := Option.some.inj h; exact ⟨Tryz.func61, by simp [Tryz.f61]⟩
  · obtain rfl := Option.some.inj h; exact ⟨Tryz.func62, by simp [Tryz.f62]⟩
  · obtain rfl := Option.some.inj h; exact ⟨Tryz.func63, by simp [Tryz.f63]⟩
  · obtain rfl := Option.some.inj h; exact ⟨Tryz.func64, by simp [Tryz.f64]⟩
  · obtain rfl := Option.some.inj h; exact ⟨Tryz.func65, by simp [Tryz.f65]⟩
  · obtain rfl := Option.some.inj h; exact ⟨Tryz.func66, by simp [Tryz.f66]⟩
  · obtain rfl := Option.some.inj h; exact ⟨Tryz.func67, by simp [Tryz.f67]⟩
  · obtain rfl := Option.some.inj h; exact ⟨Tryz.func68, by simp [Tryz.f68]⟩
  · obtain rfl := Option.some.inj h; exact ⟨Tryz.func69, by simp [Tryz.f69]⟩
  · obtain rfl := Option.some.inj h; exact ⟨Tryz.func70, by simp [Tryz.f70]⟩
  · obtain rfl := Option.some.inj h; exact ⟨Tryz.func71, by simp [Tryz.f71]⟩
  · obtain rfl := Option.some.inj h; exact ⟨Tryz.func72, by simp [Tryz.f72]⟩
  · obtain rfl := Option.some.inj h; exact ⟨Tryz.func73, by simp [Tryz.f73]⟩
  · obtain rfl := Option.some.inj h; exact ⟨Tryz.func74, by simp [Tryz.f74]⟩
  · obtain rfl := Option.some.inj h; exact ⟨Tryz.func75, by simp [Tryz.f75]⟩
  · obtain rfl := Option.some.inj h; exact ⟨Tryz.func76, by simp [Tryz.f76]⟩
  · obtain rfl := Option.some.inj h; exact ⟨Tryz.func77, by simp [Tryz.f77]⟩
  · obtain rfl := Option.some.inj h; exact ⟨Tryz.func78, by simp [Tryz.f78]⟩
  · obtain rfl := Option.some.inj h; exact ⟨Tryz.func79, by simp [Tryz.f79]⟩
  · obtain rfl := Option.some.inj h; exact ⟨Tryz.func80, by simp [Tryz.f80]⟩
  · obtain rfl := Option.some.inj h; exact ⟨Tryz.func81, by simp [Tryz.f81]⟩
  · obtain rfl := Option.some.inj h; exact ⟨Tryz.func82, by simp [Tryz.f82]⟩
  · obtain rfl := Option.some.inj h; exact ⟨Tryz.func83, by simp [Tryz.f83]⟩
  · obtain rfl := Option.some.inj h; exact ⟨Tryz.func84, by simp [Tryz.f84]⟩
  · obtain rfl := Option.some.inj h; exact ⟨Tryz.func85, by simp [Tryz.f85]⟩
  · obtain rfl := Option.some.inj h; exact ⟨Tryz.func86, by simp [Tryz.f86]⟩
  · obtain rfl := Option.some.inj h; exact ⟨Tryz.func87, by simp [Tryz.f87]⟩
  · obtain rfl := Option.some.inj h; exact ⟨Tryz.func88, by simp [Tryz.f88]⟩
  · obtain rfl := Option.some.inj h; exact ⟨Tryz.func89, by simp [Tryz.f89]⟩
  · obtain rfl := Option.some.inj h; exact ⟨Tryz.func90, by simp [Tryz.f90]⟩
  · obtain rfl := Option.some.inj h; exact ⟨Tryz.func91, by simp [Tryz.f91]⟩
  · obtain rfl := Option.some.inj h; exact ⟨Tryz.func92, by simp [Tryz.f92]⟩
  · cases h
set_option maxRecDepth 100000 in
theorem env_fns1 : ∀ f F, envFn1 f = some F → Tryz.prog.funcs[f]? = some F ∧ F.name ≠ "runtime.NumGoroutine" := by
  intro f F h
  unfold envFn1 at h
  split at h
  · obtain rfl := Option.some.inj h; exact ⟨Tryz.func93, by simp [Tryz.f93]⟩
  · obtain rfl := Option.some.inj h; exact ⟨Tryz.func94, by simp [Tryz.f94]⟩
  · obtain rfl := Option.some.inj h; exact ⟨Tryz.func95, by simp [Tryz.f95]⟩
  · obtain rfl := Option.some.inj h; exact ⟨Tryz.func96, by simp [Tryz.f96]⟩
  · obtain rfl := Option.some.inj h; exact ⟨Tryz.func97, by simp [Tryz.f97]⟩
  · obtain rfl := Option.some.inj h; exact ⟨Tryz.func98, by simp [Tryz.f98]⟩
  · obtain rfl := Option.some.inj h; exact ⟨Tryz.func99, by simp [Tryz.f99]⟩
  · obtain rfl := Option.some.inj h; exact ⟨Tryz.func100, by simp [Tryz.f100]⟩
  · obtain rfl := Option.some.inj h; exact ⟨Tryz.func101, by simp [Tryz.f101]⟩
  · obtain rfl := Option.some.inj h; exact ⟨Tryz.func102, by simp [Tryz.f102]⟩
  · obtain rfl := Option.some.inj h; exact ⟨Tryz.func103, by simp [Tryz.f103]⟩
  · obtain rfl := Option.some.inj h; exact ⟨Tryz.func104, by simp [Tryz.f104]⟩
  · obtain rfl := Option.some.inj h; exact ⟨Tryz.func105, by simp [Tryz.f105]⟩
  · obtain rfl := Option.some.inj h; exact ⟨Tryz.func106, by simp [Tryz.f106]⟩
  · obtain rfl := Option.some.inj h; exact ⟨Tryz.func107, by simp [Tryz.f107]⟩
  · obtain rfl := Option.some.inj h; exact ⟨Tryz.func108, by simp [Tryz.f108]⟩
  · obtain rfl := Option.some.inj h; exact ⟨Tryz.func109, by simp [Tryz.f109]⟩
  · obtain rfl := Option.some.inj h; exact ⟨Tryz.func110, by simp [Tryz.f110]⟩
  · obtain rfl := Option.some.inj h; exact ⟨Tryz.func111, by simp [Tryz.f111]⟩
  · obtain rfl := Option.some.inj h; exact ⟨Tryz.func112, by simp [Tryz.f112]⟩
  · obtain rfl := Option.some.inj h; exact ⟨Tryz.func113, by simp [Tryz.f113]⟩
  · obtain rfl := Option.some.inj h; exact ⟨Tryz.func114, by simp [Tryz.f114]⟩
  · obtain rfl := Option.some.inj h; exact ⟨Tryz.func115, by simp [Tryz.f115]⟩
  · obtain rfl := Option.some.inj h; exact ⟨Tryz.func116, by simp [Tryz.f116]⟩
  · obtain rfl := Option.some.inj h; exact ⟨Tryz.func117, by simp [Tryz.f117]⟩
  · obtain rfl := Option.some.inj h; exact ⟨Tryz.func118, by simp [Tryz.f118]⟩
  · obtain rfl := Option.some.inj h; exact ⟨Tryz.func119, by simp [Tryz.f119]⟩
  · obtain rfl := Option.some.inj h; exact ⟨Tryz.func121, by simp [Tryz.f121]⟩
  · obtain rfl := Option.some.inj h; exact ⟨Tryz.func122, by simp [Tryz.f122]⟩
  · obtain rfl := Option.some.inj h; exact ⟨Tryz.func123, by simp [Tryz.f123]⟩
  · obtain rfl := Option.some.inj h; exact ⟨Tryz.func124, by simp [Tryz.f124]⟩
  · obtain rfl := Option.some.inj h; exact ⟨Tryz.func125, by simp [Tryz.f125]⟩
  · obtain rfl := Option.some.inj h; exact ⟨Tryz.func126, by simp [Tryz.f126]⟩
  · obtain rfl := Option.some.inj h; exact ⟨Tryz.func127, by simp [Tryz.f127]⟩
  · obtain rfl := Option.some.inj h; exact ⟨Tryz.func128, by simp [Tryz.f128]⟩
  · obtain rfl := Option.some.inj h; exact ⟨Tryz.func129, by simp [Tryz.f129]⟩
  · obtain rfl := Option.some.inj h; exact ⟨Tryz.func130, by simp [Tryz.f130]⟩
  · obtain rfl := Option.some.inj h; exact ⟨Tryz.func131, by simp [Tryz.f131]⟩
  · obtain rfl := Option.some.inj h; exact ⟨Tryz.func133, by simp [Tryz.f133]⟩
  · obtain rfl := Option.some.inj h; exact ⟨Tryz.func134, by simp [Tryz.f134]⟩
  · obtain rfl := Option.some.inj h; exact ⟨Tryz.func135, by simp [Tryz.f135]⟩
  · obtain rfl := Option.some.inj h; exact ⟨Tryz.func136, by simp [Tryz.f136]⟩
  · obtain rfl := Option.some.inj h; exact ⟨Tryz.func137, by simp [Tryz.f137]⟩
  · obtain rfl := Option.some.inj h; exact ⟨Tryz.func142, by simp [Tryz.f142]⟩
  · obtain rfl := Option.some.inj h; exact ⟨Tryz.func143, by simp [Tryz.f143]⟩
  · obtain rfl := Option.some.inj h; exact ⟨Tryz.func144, by simp [Tryz.f144]⟩
  · obtain rfl := Option.some.inj h; exact ⟨Tryz.func145, by simp [Tryz.f145]⟩
  · obtain rfl := Option.some.inj h; exact ⟨Tryz.func146, by simp [Tryz.f146]⟩
  · obtain rfl := Option.some.inj h; exact ⟨Tryz.func147, by simp [Tryz.f147]⟩
  · obtain rfl := Option.some.inj h; exact ⟨Tryz.func148, by simp [Tryz.f148]⟩
  · obtain rfl := Option.some.inj h; exact ⟨Tryz.func149, by simp [Tryz.f149]⟩
  · obtain rfl := Option.some.inj h; exact ⟨Tryz.func150, by simp [Tryz.f150]⟩
  · obtain rfl := Option.some.inj h; exact ⟨Tryz.func151, by simp [Tryz.f151]⟩
  · obtain rfl := Option.some.inj h; exact ⟨Tryz.func155, by simp [Tryz.f155]⟩
  · obtain rfl := Option.some.inj h; exact ⟨Tryz.func156, by simp [Tryz.f156]⟩
  · obtain rfl := Option.some.inj h; exact ⟨Tryz.func158, by simp [Tryz.f158]⟩
  · obtain rfl := Option.some.inj h; exact ⟨Tryz.func159, by simp [Tryz.f159]⟩
  · obtain rfl := Option.some.inj h; exact ⟨Tryz.func160, by simp [Tryz.f160]⟩
  · obtain rfl := Option.some.inj h; exact ⟨Tryz.func176, by simp [Tryz.f176]⟩
  · obtain rfl := Option.some.inj h; exact ⟨Tryz.func178, by simp [Tryz.f178]⟩
  · obtain rfl := Option.some.inj h; exact ⟨Tryz.func179, by simp [Tryz.f179]⟩
  · obtain rfl := Option.some.inj h; exact ⟨Tryz.func180, by simp [Tryz.f180]⟩
  · obtain rfl := Option.some.inj h; exact ⟨Tryz.func181, by simp [Tryz.f181]⟩
  · obtain rfl := Option.some.inj h; exact ⟨Tryz.func182, by simp [Tryz.f182]⟩
  · cases h
theorem env_fns : ∀ f F, envFn f = some F → Tryz.prog.funcs[f]? = some F ∧ F.name ≠ "runtime.NumGoroutine" := by
  intro f F h
  unfold envFn at h
  split at h
  · exact env_fns0 f F h
  exact env_fns1 f F h
theorem env_names {t : Nat} (h9 : (Tryz.prog.fieldsOf t).toList.all (fun f => decide (f.name ≠ "_")) = true) : ∀ f ∈ (Tryz.prog.fieldsOf t).toList, f.name ≠ "_" := fun f hf => of_decide_eq_true (List.all_eq_true.1 h9 f hf)
theorem env_cmps : ∀ t, envCmp t = true → Tryz.prog.stoodInHeld t = false ∧ Tryz.prog.eqGuardType Tryz.prog.depth t = false ∧ ∀ f ∈ (Tryz.prog.fieldsOf t).toList, f.name ≠ "_" := by
  intro t h
  unfold envCmp at h
  split at h
  · exact ⟨by kernel_rfl, by kernel_rfl, env_names (by kernel_rfl)⟩
  · exact ⟨by kernel_rfl, by kernel_rfl, env_names (by kernel_rfl)⟩
  · cases h
theorem env_ok : EnvOk env Tryz.prog := ⟨env_tys, env_sizes, env_cmps⟩
theorem prog_ok : ProgOk env Tryz.prog (laidG) := ⟨env_ok, env_fns, fun w w' h hb => laidG.keep h hb, fun f F h => by
  unfold env envExt at h
  dsimp only at h
  split at h
  · obtain rfl := Option.some.inj h; exact ext_val rfl sortG_ok
  · obtain rfl := Option.some.inj h; exact ext_val rfl beforeG_ok
  · obtain rfl := Option.some.inj h; exact ext_val rfl numI_ok
  · cases h⟩

end Go.Proofs.YtlglhokpaplifaaGreatDoor
