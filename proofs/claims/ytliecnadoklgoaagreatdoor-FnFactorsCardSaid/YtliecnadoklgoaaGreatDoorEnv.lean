/- What the evaluator is told of this seat's program, and that it is so. Conditions: none. Written by wip/tools/mkenv.py. -/
import Derived.Test.YtliecnadoklgoaaGreatDoorProg
import Derived.Test.YtliecnadoklgoaaGreatDoorEvFrame
import Derived.Test.YtliecnadoklgoaaGreatDoorEvClone
import Derived.Test.YtliecnadoklgoaaGreatDoorSortF
import Derived.KernelRfl
namespace Go.Proofs.YtliecnadoklgoaaGreatDoor
open Ev Go.RowKit
set_option linter.unusedVariables false
set_option linter.unusedSimpArgs false
set_option linter.unusedSectionVars false
set_option maxHeartbeats 4000000
def envTy : Nat → TD
  | 1 => .fn
  | 2 => .int .i64
  | 3 => .int .i64
  | 4 => .bool
  | 5 => .int .u8
  | 9 => .str
  | 12 => .int .u64
  | 21 => .int .i32
  | 22 => .sl 5
  | 23 => .fn
  | 24 => .sl 3
  | 25 => .st [(0, 3), (1, 24)]
  | 26 => .st [(0, 3), (1, 24)]
  | 27 => .fn
  | 28 => .fn
  | 30 => .fn
  | 31 => .fn
  | 32 => .fn
  | 33 => .fn
  | 34 => .fn
  | 36 => .fn
  | 37 => .int .u64
  | 39 => .fn
  | 40 => .fn
  | 41 => .fn
  | 43 => .fn
  | 44 => .fn
  | 45 => .fn
  | 47 => .fn
  | 48 => .sl 61
  | 49 => .sl 59
  | 50 => .st [(0, 48), (1, 49), (2, 26)]
  | 51 => .st [(0, 48), (1, 49), (2, 26)]
  | 53 => .fn
  | 55 => .fn
  | 57 => .fn
  | 58 => .st [(0, 3), (1, 3)]
  | 59 => .st [(0, 3), (1, 3)]
  | 60 => .st [(0, 59), (2, 4), (3, 3)]
  | 61 => .st [(0, 59), (2, 4), (3, 3)]
  | 62 => .fn
  | 63 => .fn
  | 64 => .fn
  | 65 => .fn
  | 66 => .fn
  | 67 => .fn
  | 68 => .fn
  | 69 => .fn
  | 70 => .fn
  | 71 => .st [(0, 3), (1, 24)]
  | 72 => .fn
  | 73 => .fn
  | 74 => .fn
  | 75 => .fn
  | 76 => .fn
  | 77 => .fn
  | 78 => .fn
  | 79 => .sl 101
  | 80 => .fn
  | 82 => .fn
  | 83 => .fn
  | 85 => .fn
  | 87 => .fn
  | 88 => .fn
  | 89 => .fn
  | 90 => .fn
  | 91 => .ptr 139
  | 92 => .fn
  | 93 => .fn
  | 94 => .sl 101
  | 95 => .fn
  | 96 => .fn
  | 97 => .fn
  | 98 => .fn
  | 99 => .fn
  | 100 => .st [(0, 3), (1, 3)]
  | 101 => .st [(0, 3), (1, 3)]
  | 102 => .fn
  | 103 => .fn
  | 104 => .fn
  | 105 => .fn
  | 106 => .fn
  | 107 => .fn
  | 108 => .fn
  | 110 => .fn
  | 111 => .fn
  | 112 => .fn
  | 113 => .fn
  | 114 => .fn
  | 115 => .fn
  | 116 => .fn
  | 117 => .fn
  | 118 => .fn
  | 119 => .fn
  | 121 => .fn
  | 122 => .fn
  | 123 => .fn
  | 124 => .fn
  | 125 => .fn
  | 126 => .fn
  | 127 => .fn
  | 128 => .fn
  | 129 => .fn
  | 130 => .fn
  | 131 => .fn
  | 132 => .fn
  | 133 => .fn
  | 134 => .fn
  | 135 => .fn
  | 136 => .fn
  | 137 => .fn
  | 138 => .st [(0, 22), (1, 3), (2, 3)]
  | 139 => .st [(0, 22), (1, 3), (2, 3)]
  | 140 => .sl 24
  | 142 => .fn
  | 143 => .fn
  | 144 => .fn
  | 145 => .fn
  | 146 => .fn
  | 147 => .fn
  | 148 => .fn
  | 149 => .fn
  | 150 => .fn
  | 151 => .fn
  | 152 => .fn
  | 153 => .fn
  | 154 => .fn
  | 155 => .fn
  | 156 => .fn
  | 157 => .fn
  | 158 => .fn
  | 159 => .fn
  | 160 => .fn
  | 161 => .fn
  | 162 => .fn
  | 163 => .fn
  | 164 => .int .u32
  | 165 => .fn
  | 166 => .int .u64
  | 167 => .fn
  | 168 => .fn
  | 169 => .fn
  | 170 => .fn
  | 171 => .arr 32 5
  | 172 => .arr 64 5
  | 173 => .arr 24 5
  | 174 => .fn
  | 176 => .fn
  | 177 => .fn
  | 178 => .int .i64
  | 180 => .fn
  | 181 => .fn
  | 182 => .fn
  | 183 => .fn
  | 184 => .arr 20 166
  | 185 => .arr 65 5
  | 186 => .int .u64
  | 187 => .fn
  | 188 => .fn
  | 189 => .fn
  | 190 => .ptr 3
  | 191 => .fn
  | 192 => .ptr 186
  | 193 => .fn
  | 194 => .fn
  | 200 => .fn
  | 203 => .fn
  | 204 => .ptr 5
  | 209 => .fn
  | _ => .other
def envSize : Nat → Nat
  | 2 => 1
  | 3 => 1
  | 4 => 1
  | 5 => 1
  | 9 => 1
  | 12 => 1
  | 21 => 1
  | 22 => 1
  | 24 => 1
  | 25 => 2
  | 26 => 2
  | 37 => 1
  | 48 => 1
  | 49 => 1
  | 50 => 4
  | 51 => 4
  | 58 => 2
  | 59 => 2
  | 60 => 4
  | 61 => 4
  | 71 => 2
  | 79 => 1
  | 94 => 1
  | 100 => 2
  | 101 => 2
  | 138 => 3
  | 139 => 3
  | 140 => 1
  | 164 => 1
  | 166 => 1
  | 171 => 32
  | 172 => 64
  | 173 => 24
  | 178 => 1
  | 184 => 20
  | 185 => 65
  | 186 => 1
  | _ => 0
def envZero : Nat → AV
  | 2 => (.int .i64 0)
  | 3 => (.int .i64 0)
  | 4 => (.bool false)
  | 5 => (.int .u8 0)
  | 9 => (.str ⟨#[]⟩)
  | 12 => (.int .u64 0)
  | 21 => (.int .i32 0)
  | 22 => (.sl 0 .lit [])
  | 24 => (.sl 0 .lit [])
  | 25 => (.agg [(.int .i64 0), (.sl 0 .lit [])])
  | 26 => (.agg [(.int .i64 0), (.sl 0 .lit [])])
  | 37 => (.int .u64 0)
  | 48 => (.sl 0 .lit [])
  | 49 => (.sl 0 .lit [])
  | 50 => (.agg [(.sl 0 .lit []), (.sl 0 .lit []), (.int .i64 0), (.sl 0 .lit [])])
  | 51 => (.agg [(.sl 0 .lit []), (.sl 0 .lit []), (.int .i64 0), (.sl 0 .lit [])])
  | 58 => (.agg [(.int .i64 0), (.int .i64 0)])
  | 59 => (.agg [(.int .i64 0), (.int .i64 0)])
  | 60 => (.agg [(.int .i64 0), (.int .i64 0), (.bool false), (.int .i64 0)])
  | 61 => (.agg [(.int .i64 0), (.int .i64 0), (.bool false), (.int .i64 0)])
  | 71 => (.agg [(.int .i64 0), (.sl 0 .lit [])])
  | 79 => (.sl 0 .lit [])
  | 94 => (.sl 0 .lit [])
  | 100 => (.agg [(.int .i64 0), (.int .i64 0)])
  | 101 => (.agg [(.int .i64 0), (.int .i64 0)])
  | 138 => (.agg [(.sl 0 .lit []), (.int .i64 0), (.int .i64 0)])
  | 139 => (.agg [(.sl 0 .lit []), (.int .i64 0), (.int .i64 0)])
  | 140 => (.sl 0 .lit [])
  | 164 => (.int .u32 0)
  | 166 => (.int .u64 0)
  | 171 => (.agg [(.int .u8 0), (.int .u8 0), (.int .u8 0), (.int .u8 0), (.int .u8 0), (.int .u8 0), (.int .u8 0), (.int .u8 0), (.int .u8 0), (.int .u8 0), (.int .u8 0), (.int .u8 0), (.int .u8 0), (.int .u8 0), (.int .u8 0), (.int .u8 0), (.int .u8 0), (.int .u8 0), (.int .u8 0), (.int .u8 0), (.int .u8 0), (.int .u8 0), (.int .u8 0), (.int .u8 0), (.int .u8 0), (.int .u8 0), (.int .u8 0), (.int .u8 0), (.int .u8 0), (.int .u8 0), (.int .u8 0), (.int .u8 0)])
  | 172 => (.agg [(.int .u8 0), (.int .u8 0), (.int .u8 0), (.int .u8 0), (.int .u8 0), (.int .u8 0), (.int .u8 0), (.int .u8 0), (.int .u8 0), (.int .u8 0), (.int .u8 0), (.int .u8 0), (.int .u8 0), (.int .u8 0), (.int .u8 0), (.int .u8 0), (.int .u8 0), (.int .u8 0), (.int .u8 0), (.int .u8 0), (.int .u8 0), (.int .u8 0), (.int .u8 0), (.int .u8 0), (.int .u8 0), (.int .u8 0), (.int .u8 0), (.int .u8 0), (.int .u8 0), (.int .u8 0), (.int .u8 0), (.int .u8 0), (.int .u8 0), (.int .u8 0), (.int .u8 0), (.int .u8 0), (.int .u8 0), (.int .u8 0), (.int .u8 0), (.int .u8 0), (.int .u8 0), (.int .u8 0), (.int .u8 0), (.int .u8 0), (.int .u8 0), (.int .u8 0), (.int .u8 0), (.int .u8 0), (.int .u8 0), (.int .u8 0), (.int .u8 0), (.int .u8 0), (.int .u8 0), (.int .u8 0), (.int .u8 0), (.int .u8 0), (.int .u8 0), (.int .u8 0), (.int .u8 0), (.int .u8 0), (.int .u8 0), (.int .u8 0), (.int .u8 0), (.int .u8 0)])
  | 173 => (.agg [(.int .u8 0), (.int .u8 0), (.int .u8 0), (.int .u8 0), (.int .u8 0), (.int .u8 0), (.int .u8 0), (.int .u8 0), (.int .u8 0), (.int .u8 0), (.int .u8 0), (.int .u8 0), (.int .u8 0), (.int .u8 0), (.int .u8 0), (.int .u8 0), (.int .u8 0), (.int .u8 0), (.int .u8 0), (.int .u8 0), (.int .u8 0), (.int .u8 0), (.int .u8 0), (.int .u8 0)])
  | 178 => (.int .i64 0)
  | 184 => (.agg [(.int .u64 0), (.int .u64 0), (.int .u64 0), (.int .u64 0), (.int .u64 0), (.int .u64 0), (.int .u64 0), (.int .u64 0), (.int .u64 0), (.int .u64 0), (.int .u64 0), (.int .u64 0), (.int .u64 0), (.int .u64 0), (.int .u64 0), (.int .u64 0), (.int .u64 0), (.int .u64 0), (.int .u64 0), (.int .u64 0)])
  | 185 => (.agg [(.int .u8 0), (.int .u8 0), (.int .u8 0), (.int .u8 0), (.int .u8 0), (.int .u8 0), (.int .u8 0), (.int .u8 0), (.int .u8 0), (.int .u8 0), (.int .u8 0), (.int .u8 0), (.int .u8 0), (.int .u8 0), (.int .u8 0), (.int .u8 0), (.int .u8 0), (.int .u8 0), (.int .u8 0), (.int .u8 0), (.int .u8 0), (.int .u8 0), (.int .u8 0), (.int .u8 0), (.int .u8 0), (.int .u8 0), (.int .u8 0), (.int .u8 0), (.int .u8 0), (.int .u8 0), (.int .u8 0), (.int .u8 0), (.int .u8 0), (.int .u8 0), (.int .u8 0), (.int .u8 0), (.int .u8 0), (.int .u8 0), (.int .u8 0), (.int .u8 0), (.int .u8 0), (.int .u8 0), (.int .u8 0), (.int .u8 0), (.int .u8 0), (.int .u8 0), (.int .u8 0), (.int .u8 0), (.int .u8 0), (.int .u8 0), (.int .u8 0), (.int .u8 0), (.int .u8 0), (.int .u8 0), (.int .u8 0), (.int .u8 0), (.int .u8 0), (.int .u8 0), (.int .u8 0), (.int .u8 0), (.int .u8 0), (.int .u8 0), (.int .u8 0), (.int .u8 0), (.int .u8 0)])
  | 186 => (.int .u64 0)
  | _ => .un
noncomputable def envFn0 : Nat → Option Func
  | 3 => some Tryz.f3
  | 4 => some Tryz.f4
  | 5 => some Tryz.f5
  | 6 => some Tryz.f6
  | 7 => some Tryz.f7
  | 8 => some Tryz.f8
  | 9 => some Tryz.f9
  | 10 => some Tryz.f10
  | 11 => some Tryz.f11
  | 12 => some Tryz.f12
  | 13 => some Tryz.f13
  | 14 => some Tryz.f14
  | 15 => some Tryz.f15
  | 16 => some Tryz.f16
  | 17 => some Tryz.f17
  | 18 => some Tryz.f18
  | 19 => some Tryz.f19
  | 20 => some Tryz.f20
  | 21 => some Tryz.f21
  | 22 => some Tryz.f22
  | 23 => some Tryz.f23
  | 24 => some Tryz.f24
  | 25 => some Tryz.f25
  | 26 => some Tryz.f26
  | 27 => some Tryz.f27
  | 28 => some Tryz.f28
  | 29 => some Tryz.f29
  | 30 => some Tryz.f30
  | 31 => some Tryz.f31
  | 32 => some Tryz.f32
  | 33 => some Tryz.f33
  | 34 => some Tryz.f34
  | 35 => some Tryz.f35
  | 36 => some Tryz.f36
  | 37 => some Tryz.f37
  | 38 => some Tryz.f38
  | 39 => some Tryz.f39
  | 40 => some Tryz.f40
  | 41 => some Tryz.f41
  | 42 => some Tryz.f42
  | 43 => some Tryz.f43
  | 44 => some Tryz.f44
  | 45 => some Tryz.f45
  | 46 => some Tryz.f46
  | 47 => some Tryz.f47
  | 48 => some Tryz.f48
  | 49 => some Tryz.f49
  | 50 => some Tryz.f50
  | 51 => some Tryz.f51
  | 52 => some Tryz.f52
  | 53 => some Tryz.f53
  | 54 => some Tryz.f54
  | 55 => some Tryz.f55
  | 56 => some Tryz.f56
  | 57 => some Tryz.f57
  | 58 => some Tryz.f58
  | 59 => some Tryz.f59
  | 60 => some Tryz.f60
  | 61 => some Tryz.f61
  | 62 => some Tryz.f62
  | 63 => some Tryz.f63
  | 64 => some Tryz.f64
  | 65 => some Tryz.f65
  | 66 => some Tryz.f66
  | 67 => some Tryz.f67
  | 68 => some Tryz.f68
  | 69 => some Tryz.f69
  | 70 => some Tryz.f70
  | 71 => some Tryz.f71
  | 72 => some Tryz.f72
  | 73 => some Tryz.f73
  | 74 => some Tryz.f74
  | 75 => some Tryz.f75
  | 76 => some Tryz.f76
  | 77 => some Tryz.f77
  | 78 => some Tryz.f78
  | 79 => some Tryz.f79
  | 80 => some Tryz.f80
  | 81 => some Tryz.f81
  | 82 => some Tryz.f82
  | 83 => some Tryz.f83
  | 84 => some Tryz.f84
  | 85 => some Tryz.f85
  | 86 => some Tryz.f86
  | 87 => some Tryz.f87
  | 88 => some Tryz.f88
  | 89 => some Tryz.f89
  | 90 => some Tryz.f90
  | 91 => some Tryz.f91
  | 92 => some Tryz.f92
  | _ => none
noncomputable def envFn1 : Nat → Option Func
  | 93 => some Tryz.f93
  | 94 => some Tryz.f94
  | 95 => some Tryz.f95
  | 96 => some Tryz.f96
  | 97 => some Tryz.f97
  | 98 => some Tryz.f98
  | 99 => some Tryz.f99
  | 100 => some Tryz.f100
  | 101 => some Tryz.f101
  | 102 => some Tryz.f102
  | 103 => some Tryz.f103
  | 104 => some Tryz.f104
  | 105 => some Tryz.f105
  | 106 => some Tryz.f106
  | 107 => some Tryz.f107
  | 108 => some Tryz.f108
  | 109 => some Tryz.f109
  | 110 => some Tryz.f110
  | 111 => some Tryz.f111
  | 112 => some Tryz.f112
  | 113 => some Tryz.f113
  | 114 => some Tryz.f114
  | 115 => some Tryz.f115
  | 116 => some Tryz.f116
  | 117 => some Tryz.f117
  | 118 => some Tryz.f118
  | 119 => some Tryz.f119
  | 120 => some Tryz.f120
  | 121 => some Tryz.f121
  | 122 => some Tryz.f122
  | 123 => some Tryz.f123
  | 124 => some Tryz.f124
  | 125 => some Tryz.f125
  | 126 => some Tryz.f126
  | 127 => some Tryz.f127
  | 128 => some Tryz.f128
  | 129 => some Tryz.f129
  | 130 => some Tryz.f130
  | 131 => some Tryz.f131
  | 132 => some Tryz.f132
  | 133 => some Tryz.f133
  | 134 => some Tryz.f134
  | 135 => some Tryz.f135
  | 136 => some Tryz.f136
  | 137 => some Tryz.f137
  | 138 => some Tryz.f138
  | 139 => some Tryz.f139
  | 140 => some Tryz.f140
  | 141 => some Tryz.f141
  | 142 => some Tryz.f142
  | 143 => some Tryz.f143
  | 144 => some Tryz.f144
  | 145 => some Tryz.f145
  | 146 => some Tryz.f146
  | 147 => some Tryz.f147
  | 148 => some Tryz.f148
  | 149 => some Tryz.f149
  | 150 => some Tryz.f150
  | 151 => some Tryz.f151
  | 152 => some Tryz.f152
  | 153 => some Tryz.f153
  | 154 => some Tryz.f154
  | 155 => some Tryz.f155
  | 156 => some Tryz.f156
  | 157 => some Tryz.f157
  | 158 => some Tryz.f158
  | 159 => some Tryz.f159
  | 160 => some Tryz.f160
  | 161 => some Tryz.f161
  | 162 => some Tryz.f162
  | 163 => some Tryz.f163
  | 164 => some Tryz.f164
  | 165 => some Tryz.f165
  | 166 => some Tryz.f166
  | 167 => some Tryz.f167
  | 168 => some Tryz.f168
  | 169 => some Tryz.f169
  | 170 => some Tryz.f170
  | 171 => some Tryz.f171
  | 172 => some Tryz.f172
  | 173 => some Tryz.f173
  | 174 => some Tryz.f174
  | 175 => some Tryz.f175
  | 176 => some Tryz.f176
  | 177 => some Tryz.f177
  | 178 => some Tryz.f178
  | 179 => some Tryz.f179
  | 180 => some Tryz.f180
  | 181 => some Tryz.f181
  | 182 => some Tryz.f182
  | _ => none
noncomputable def envFn2 : Nat → Option Func
  | 183 => some Tryz.f183
  | 184 => some Tryz.f184
  | 185 => some Tryz.f185
  | 186 => some Tryz.f186
  | 187 => some Tryz.f187
  | 188 => some Tryz.f188
  | 189 => some Tryz.f189
  | 190 => some Tryz.f190
  | 191 => some Tryz.f191
  | 192 => some Tryz.f192
  | 193 => some Tryz.f193
  | 194 => some Tryz.f194
  | 195 => some Tryz.f195
  | 196 => some Tryz.f196
  | 197 => some Tryz.f197
  | 198 => some Tryz.f198
  | 199 => some Tryz.f199
  | 200 => some Tryz.f200
  | 201 => some Tryz.f201
  | 202 => some Tryz.f202
  | 203 => some Tryz.f203
  | 204 => some Tryz.f204
  | 205 => some Tryz.f205
  | 206 => some Tryz.f206
  | 207 => some Tryz.f207
  | 208 => some Tryz.f208
  | 209 => some Tryz.f209
  | 210 => some Tryz.f210
  | 211 => some Tryz.f211
  | 212 => some Tryz.f212
  | 213 => some Tryz.f213
  | 214 => some Tryz.f214
  | 215 => some Tryz.f215
  | 216 => some Tryz.f216
  | 217 => some Tryz.f217
  | 218 => some Tryz.f218
  | 219 => some Tryz.f219
  | 220 => some Tryz.f220
  | 221 => some Tryz.f221
  | 222 => some Tryz.f222
  | 223 => some Tryz.f223
  | 224 => some Tryz.f224
  | 225 => some Tryz.f225
  | 226 => some Tryz.f226
  | 227 => some Tryz.f227
  | 228 => some Tryz.f228
  | 229 => some Tryz.f229
  | 230 => some Tryz.f230
  | 231 => some Tryz.f231
  | 232 => some Tryz.f232
  | 233 => some Tryz.f233
  | 234 => some Tryz.f234
  | 235 => some Tryz.f235
  | 236 => some Tryz.f236
  | 237 => some Tryz.f237
  | 238 => some Tryz.f238
  | 239 => some Tryz.f239
  | 240 => some Tryz.f240
  | 241 => some Tryz.f241
  | 242 => some Tryz.f242
  | 243 => some Tryz.f243
  | 244 => some Tryz.f244
  | 246 => some Tryz.f246
  | 247 => some Tryz.f247
  | 248 => some Tryz.f248
  | 249 => some Tryz.f249
  | 250 => some Tryz.f250
  | 251 => some Tryz.f251
  | 252 => some Tryz.f252
  | 253 => some Tryz.f253
  | 254 => some Tryz.f254
  | 255 => some Tryz.f255
  | 256 => some Tryz.f256
  | 258 => some Tryz.f258
  | 259 => some Tryz.f259
  | 260 => some Tryz.f260
  | 261 => some Tryz.f261
  | 262 => some Tryz.f262
  | 267 => some Tryz.f267
  | 268 => some Tryz.f268
  | 269 => some Tryz.f269
  | 270 => some Tryz.f270
  | 271 => some Tryz.f271
  | 272 => some Tryz.f272
  | 273 => some Tryz.f273
  | 274 => some Tryz.f274
  | 275 => some Tryz.f275
  | 276 => some Tryz.f276
  | 280 => some Tryz.f280
  | 281 => some Tryz.f281
  | _ => none
noncomputable def envFn3 : Nat → Option Func
  | 283 => some Tryz.f283
  | 284 => some Tryz.f284
  | 285 => some Tryz.f285
  | 301 => some Tryz.f301
  | 303 => some Tryz.f303
  | 304 => some Tryz.f304
  | 305 => some Tryz.f305
  | 306 => some Tryz.f306
  | 307 => some Tryz.f307
  | _ => none
noncomputable def envFn (k : Nat) : Option Func := if k < 93 then envFn0 k else if k < 183 then envFn1 k else if k < 283 then envFn2 k else envFn3 k
def envOpen : Nat → Bool
  | 68 => true
  | 67 => true
  | 164 => true
  | 163 => true
  | 69 => true
  | 175 => true
  | 206 => true
  | 129 => true
  | 126 => true
  | 174 => true
  | 153 => true
  | 128 => true
  | 201 => true
  | 127 => true
  | 152 => true
  | 242 => true
  | 211 => true
  | 85 => true
  | _ => false
def envMat : Nat → Nat → Nat
  | 171, 12 => 5
  | 176, 51 => 4
  | 175, 32 => 2
  | 62, 9 => 3
  | 32, 31 => 3
  | 90, 9 => 3
  | 23, 16 => 3
  | 81, 15 => 4
  | 72, 20 => 1
  | 16, 8 => 3
  | 17, 8 => 3
  | 9, 4 => 1
  | 37, 5 => 1
  | 47, 14 => 1
  | 50, 6 => 1
  | 71, 4 => 1
  | 73, 14 => 1
  | 77, 7 => 1
  | 93, 10 => 1
  | 112, 13 => 1
  | 134, 9 => 1
  | 146, 8 => 1
  | 171, 8 => 1
  | 6, 34 => 3
  | 6, 36 => 3
  | 6, 40 => 3
  | _, _ => 0
def envCmp : Nat → Bool
  | 59 => true
  | 101 => true
  | _ => false
def envOwn : Nat → Bool

  | _ => false
noncomputable def envExt : Nat → Option (List AV → Option AV)
  | 227 => some sortF
  | 209 => some beforeF
  | 168 => some cloneF
  | 224 => some cloneCF
  | _ => none
noncomputable def env : Env := { fn := envFn, ty := envTy, size := envSize, zero := envZero, open_ := envOpen, mat := envMat, ext := envExt, cmp := envCmp, own := envOwn }
@[simp] theorem env_own (f : Nat) : env.own f = envOwn f := id rfl
attribute [simp] envOwn
@[simp] theorem env_cmp59 : env.cmp 59 = true := id rfl
@[simp] theorem env_cmp101 : env.cmp 101 = true := id rfl
@[simp] theorem env_mat (f d : Nat) : env.mat f d = envMat f d := id rfl
attribute [simp] envMat
@[simp] theorem env_ty1 : env.ty 1 = .fn := id rfl
@[simp] theorem env_ty2 : env.ty 2 = .int .i64 := id rfl
@[simp] theorem env_size2 : env.size 2 = 1 := id rfl
@[simp] theorem env_zero2 : env.zero 2 = (.int .i64 0) := id rfl
@[simp] theorem env_ty3 : env.ty 3 = .int .i64 := id rfl
@[simp] theorem env_size3 : env.size 3 = 1 := id rfl
@[simp] theorem env_zero3 : env.zero 3 = (.int .i64 0) := id rfl
@[simp] theorem env_ty4 : env.ty 4 = .bool := id rfl
@[simp] theorem env_size4 : env.size 4 = 1 := id rfl
@[simp] theorem env_zero4 : env.zero 4 = (.bool false) := id rfl
@[simp] theorem env_ty5 : env.ty 5 = .int .u8 := id rfl
@[simp] theorem env_size5 : env.size 5 = 1 := id rfl
@[simp] theorem env_zero5 : env.zero 5 = (.int .u8 0) := id rfl
@[simp] theorem env_ty9 : env.ty 9 = .str := id rfl
@[simp] theorem env_size9 : env.size 9 = 1 := id rfl
@[simp] theorem env_zero9 : env.zero 9 = (.str ⟨#[]⟩) := id rfl
@[simp] theorem env_ty12 : env.ty 12 = .int .u64 := id rfl
@[simp] theorem env_size12 : env.size 12 = 1 := id rfl
@[simp] theorem env_zero12 : env.zero 12 = (.int .u64 0) := id rfl
@[simp] theorem env_ty21 : env.ty 21 = .int .i32 := id rfl
@[simp] theorem env_size21 : env.size 21 = 1 := id rfl
@[simp] theorem env_zero21 : env.zero 21 = (.int .i32 0) := id rfl
@[simp] theorem env_ty22 : env.ty 22 = .sl 5 := id rfl
@[simp] theorem env_size22 : env.size 22 = 1 := id rfl
@[simp] theorem env_zero22 : env.zero 22 = (.sl 0 .lit []) := id rfl
@[simp] theorem env_ty23 : env.ty 23 = .fn := id rfl
@[simp] theorem env_ty24 : env.ty 24 = .sl 3 := id rfl
@[simp] theorem env_size24 : env.size 24 = 1 := id rfl
@[simp] theorem env_zero24 : env.zero 24 = (.sl 0 .lit []) := id rfl
@[simp] theorem env_ty25 : env.ty 25 = .st [(0, 3), (1, 24)] := id rfl
@[simp] theorem env_size25 : env.size 25 = 2 := id rfl
@[simp] theorem env_zero25 : env.zero 25 = (.agg [(.int .i64 0), (.sl 0 .lit [])]) := id rfl
@[simp] theorem env_ty26 : env.ty 26 = .st [(0, 3), (1, 24)] := id rfl
@[simp] theorem env_size26 : env.size 26 = 2 := id rfl
@[simp] theorem env_zero26 : env.zero 26 = (.agg [(.int .i64 0), (.sl 0 .lit [])]) := id rfl
@[simp] theorem env_ty27 : env.ty 27 = .fn := id rfl
@[simp] theorem env_ty28 : env.ty 28 = .fn := id rfl
@[simp] theorem env_ty30 : env.ty 30 = .fn := id rfl
@[simp] theorem env_ty31 : env.ty 31 = .fn := id rfl
@[simp] theorem env_ty32 : env.ty 32 = .fn := id rfl
@[simp] theorem env_ty33 : env.ty 33 = .fn := id rfl
@[simp] theorem env_ty34 : env.ty 34 = .fn := id rfl
@[simp] theorem env_ty36 : env.ty 36 = .fn := id rfl
@[simp] theorem env_ty37 : env.ty 37 = .int .u64 := id rfl
@[simp] theorem env_size37 : env.size 37 = 1 := id rfl
@[simp] theorem env_zero37 : env.zero 37 = (.int .u64 0) := id rfl
@[simp] theorem env_ty39 : env.ty 39 = .fn := id rfl
@[simp] theorem env_ty40 : env.ty 40 = .fn := id rfl
@[simp] theorem env_ty41 : env.ty 41 = .fn := id rfl
@[simp] theorem env_ty43 : env.ty 43 = .fn := id rfl
@[simp] theorem env_ty44 : env.ty 44 = .fn := id rfl
@[simp] theorem env_ty45 : env.ty 45 = .fn := id rfl
@[simp] theorem env_ty47 : env.ty 47 = .fn := id rfl
@[simp] theorem env_ty48 : env.ty 48 = .sl 61 := id rfl
@[simp] theorem env_size48 : env.size 48 = 1 := id rfl
@[simp] theorem env_zero48 : env.zero 48 = (.sl 0 .lit []) := id rfl
@[simp] theorem env_ty49 : env.ty 49 = .sl 59 := id rfl
@[simp] theorem env_size49 : env.size 49 = 1 := id rfl
@[simp] theorem env_zero49 : env.zero 49 = (.sl 0 .lit []) := id rfl
@[simp] theorem env_ty50 : env.ty 50 = .st [(0, 48), (1, 49), (2, 26)] := id rfl
@[simp] theorem env_size50 : env.size 50 = 4 := id rfl
@[simp] theorem env_zero50 : env.zero 50 = (.agg [(.sl 0 .lit []), (.sl 0 .lit []), (.int .i64 0), (.sl 0 .lit [])]) := id rfl
@[simp] theorem env_ty51 : env.ty 51 = .st [(0, 48), (1, 49), (2, 26)] := id rfl
@[simp] theorem env_size51 : env.size 51 = 4 := id rfl
@[simp] theorem env_zero51 : env.zero 51 = (.agg [(.sl 0 .lit []), (.sl 0 .lit []), (.int .i64 0), (.sl 0 .lit [])]) := id rfl
@[simp] theorem env_ty53 : env.ty 53 = .fn := id rfl
@[simp] theorem env_ty55 : env.ty 55 = .fn := id rfl
@[simp] theorem env_ty57 : env.ty 57 = .fn := id rfl
@[simp] theorem env_ty58 : env.ty 58 = .st [(0, 3), (1, 3)] := id rfl
@[simp] theorem env_size58 : env.size 58 = 2 := id rfl
@[simp] theorem env_zero58 : env.zero 58 = (.agg [(.int .i64 0), (.int .i64 0)]) := id rfl
@[simp] theorem env_ty59 : env.ty 59 = .st [(0, 3), (1, 3)] := id rfl
@[simp] theorem env_size59 : env.size 59 = 2 := id rfl
@[simp] theorem env_zero59 : env.zero 59 = (.agg [(.int .i64 0), (.int .i64 0)]) := id rfl
@[simp] theorem env_ty60 : env.ty 60 = .st [(0, 59), (2, 4), (3, 3)] := id rfl
@[simp] theorem env_size60 : env.size 60 = 4 := id rfl
@[simp] theorem env_zero60 : env.zero 60 = (.agg [(.int .i64 0), (.int .i64 0), (.bool false), (.int .i64 0)]) := id rfl
@[simp] theorem env_ty61 : env.ty 61 = .st [(0, 59), (2, 4), (3, 3)] := id rfl
@[simp] theorem env_size61 : env.size 61 = 4 := id rfl
@[simp] theorem env_zero61 : env.zero 61 = (.agg [(.int .i64 0), (.int .i64 0), (.bool false), (.int .i64 0)]) := id rfl
@[simp] theorem env_ty62 : env.ty 62 = .fn := id rfl
@[simp] theorem env_ty63 : env.ty 63 = .fn := id rfl
@[simp] theorem env_ty64 : env.ty 64 = .fn := id rfl
@[simp] theorem env_ty65 : env.ty 65 = .fn := id rfl
@[simp] theorem env_ty66 : env.ty 66 = .fn := id rfl
@[simp] theorem env_ty67 : env.ty 67 = .fn := id rfl
@[simp] theorem env_ty68 : env.ty 68 = .fn := id rfl
@[simp] theorem env_ty69 : env.ty 69 = .fn := id rfl
@[simp] theorem env_ty70 : env.ty 70 = .fn := id rfl
@[simp] theorem env_ty71 : env.ty 71 = .st [(0, 3), (1, 24)] := id rfl
@[simp] theorem env_size71 : env.size 71 = 2 := id rfl
@[simp] theorem env_zero71 : env.zero 71 = (.agg [(.int .i64 0), (.sl 0 .lit [])]) := id rfl
@[simp] theorem env_ty72 : env.ty 72 = .fn := id rfl
@[simp] theorem env_ty73 : env.ty 73 = .fn := id rfl
@[simp] theorem env_ty74 : env.ty 74 = .fn := id rfl
@[simp] theorem env_ty75 : env.ty 75 = .fn := id rfl
@[simp] theorem env_ty76 : env.ty 76 = .fn := id rfl
@[simp] theorem env_ty77 : env.ty 77 = .fn := id rfl
@[simp] theorem env_ty78 : env.ty 78 = .fn := id rfl
@[simp] theorem env_ty79 : env.ty 79 = .sl 101 := id rfl
@[simp] theorem env_size79 : env.size 79 = 1 := id rfl
@[simp] theorem env_zero79 : env.zero 79 = (.sl 0 .lit []) := id rfl
@[simp] theorem env_ty80 : env.ty 80 = .fn := id rfl
@[simp] theorem env_ty82 : env.ty 82 = .fn := id rfl
@[simp] theorem env_ty83 : env.ty 83 = .fn := id rfl
@[simp] theorem env_ty85 : env.ty 85 = .fn := id rfl
@[simp] theorem env_ty87 : env.ty 87 = .fn := id rfl
@[simp] theorem env_ty88 : env.ty 88 = .fn := id rfl
@[simp] theorem env_ty89 : env.ty 89 = .fn := id rfl
@[simp] theorem env_ty90 : env.ty 90 = .fn := id rfl
@[simp] theorem env_ty91 : env.ty 91 = .ptr 139 := id rfl
@[simp] theorem env_ty92 : env.ty 92 = .fn := id rfl
@[simp] theorem env_ty93 : env.ty 93 = .fn := id rfl
@[simp] theorem env_ty94 : env.ty 94 = .sl 101 := id rfl
@[simp] theorem env_size94 : env.size 94 = 1 := id rfl
@[simp] theorem env_zero94 : env.zero 94 = (.sl 0 .lit []) := id rfl
@[simp] theorem env_ty95 : env.ty 95 = .fn := id rfl
@[simp] theorem env_ty96 : env.ty 96 = .fn := id rfl
@[simp] theorem env_ty97 : env.ty 97 = .fn := id rfl
@[simp] theorem env_ty98 : env.ty 98 = .fn := id rfl
@[simp] theorem env_ty99 : env.ty 99 = .fn := id rfl
@[simp] theorem env_ty100 : env.ty 100 = .st [(0, 3), (1, 3)] := id rfl
@[simp] theorem env_size100 : env.size 100 = 2 := id rfl
@[simp] theorem env_zero100 : env.zero 100 = (.agg [(.int .i64 0), (.int .i64 0)]) := id rfl
@[simp] theorem env_ty101 : env.ty 101 = .st [(0, 3), (1, 3)] := id rfl
@[simp] theorem env_size101 : env.size 101 = 2 := id rfl
@[simp] theorem env_zero101 : env.zero 101 = (.agg [(.int .i64 0), (.int .i64 0)]) := id rfl
@[simp] theorem env_ty102 : env.ty 102 = .fn := id rfl
@[simp] theorem env_ty103 : env.ty 103 = .fn := id rfl
@[simp] theorem env_ty104 : env.ty 104 = .fn := id rfl
@[simp] theorem env_ty105 : env.ty 105 = .fn := id rfl
@[simp] theorem env_ty106 : env.ty 106 = .fn := id rfl
@[simp] theorem env_ty107 : env.ty 107 = .fn := id rfl
@[simp] theorem env_ty108 : env.ty 108 = .fn := id rfl
@[simp] theorem env_ty110 : env.ty 110 = .fn := id rfl
@[simp] theorem env_ty111 : env.ty 111 = .fn := id rfl
@[simp] theorem env_ty112 : env.ty 112 = .fn := id rfl
@[simp] theorem env_ty113 : env.ty 113 = .fn := id rfl
@[simp] theorem env_ty114 : env.ty 114 = .fn := id rfl
@[simp] theorem env_ty115 : env.ty 115 = .fn := id rfl
@[simp] theorem env_ty116 : env.ty 116 = .fn := id rfl
@[simp] theorem env_ty117 : env.ty 117 = .fn := id rfl
@[simp] theorem env_ty118 : env.ty 118 = .fn := id rfl
@[simp] theorem env_ty119 : env.ty 119 = .fn := id rfl
@[simp] theorem env_ty121 : env.ty 121 = .fn := id rfl
@[simp] theorem env_ty122 : env.ty 122 = .fn := id rfl
@[simp] theorem env_ty123 : env.ty 123 = .fn := id rfl
@[simp] theorem env_ty124 : env.ty 124 = .fn := id rfl
@[simp] theorem env_ty125 : env.ty 125 = .fn := id rfl
@[simp] theorem env_ty126 : env.ty 126 = .fn := id rfl
@[simp] theorem env_ty127 : env.ty 127 = .fn := id rfl
@[simp] theorem env_ty128 : env.ty 128 = .fn := id rfl
@[simp] theorem env_ty129 : env.ty 129 = .fn := id rfl
@[simp] theorem env_ty130 : env.ty 130 = .fn := id rfl
@[simp] theorem env_ty131 : env.ty 131 = .fn := id rfl
@[simp] theorem env_ty132 : env.ty 132 = .fn := id rfl
@[simp] theorem env_ty133 : env.ty 133 = .fn := id rfl
@[simp] theorem env_ty134 : env.ty 134 = .fn := id rfl
@[simp] theorem env_ty135 : env.ty 135 = .fn := id rfl
@[simp] theorem env_ty136 : env.ty 136 = .fn := id rfl
@[simp] theorem env_ty137 : env.ty 137 = .fn := id rfl
@[simp] theorem env_ty138 : env.ty 138 = .st [(0, 22), (1, 3), (2, 3)] := id rfl
@[simp] theorem env_size138 : env.size 138 = 3 := id rfl
@[simp] theorem env_zero138 : env.zero 138 = (.agg [(.sl 0 .lit []), (.int .i64 0), (.int .i64 0)]) := id rfl
@[simp] theorem env_ty139 : env.ty 139 = .st [(0, 22), (1, 3), (2, 3)] := id rfl
@[simp] theorem env_size139 : env.size 139 = 3 := id rfl
@[simp] theorem env_zero139 : env.zero 139 = (.agg [(.sl 0 .lit []), (.int .i64 0), (.int .i64 0)]) := id rfl
@[simp] theorem env_ty140 : env.ty 140 = .sl 24 := id rfl
@[simp] theorem env_size140 : env.size 140 = 1 := id rfl
@[simp] theorem env_zero140 : env.zero 140 = (.sl 0 .lit []) := id rfl
@[simp] theorem env_ty142 : env.ty 142 = .fn := id rfl
@[simp] theorem env_ty143 : env.ty 143 = .fn := id rfl
@[simp] theorem env_ty144 : env.ty 144 = .fn := id rfl
@[simp] theorem env_ty145 : env.ty 145 = .fn := id rfl
@[simp] theorem env_ty146 : env.ty 146 = .fn := id rfl
@[simp] theorem env_ty147 : env.ty 147 = .fn := id rfl
@[simp] theorem env_ty148 : env.ty 148 = .fn := id rfl
@[simp] theorem env_ty149 : env.ty 149 = .fn := id rfl
@[simp] theorem env_ty150 : env.ty 150 = .fn := id rfl
@[simp] theorem env_ty151 : env.ty 151 = .fn := id rfl
@[simp] theorem env_ty152 : env.ty 152 = .fn := id rfl
@[simp] theorem env_ty153 : env.ty 153 = .fn := id rfl
@[simp] theorem env_ty154 : env.ty 154 = .fn := id rfl
@[simp] theorem env_ty155 : env.ty 155 = .fn := id rfl
@[simp] theorem env_ty156 : env.ty 156 = .fn := id rfl
@[simp] theorem env_ty157 : env.ty 157 = .fn := id rfl
@[simp] theorem env_ty158 : env.ty 158 = .fn := id rfl
@[simp] theorem env_ty159 : env.ty 159 = .fn := id rfl
@[simp] theorem env_ty160 : env.ty 160 = .fn := id rfl
@[simp] theorem env_ty161 : env.ty 161 = .fn := id rfl
@[simp] theorem env_ty162 : env.ty 162 = .fn := id rfl
@[simp] theorem env_ty163 : env.ty 163 = .fn := id rfl
@[simp] theorem env_ty164 : env.ty 164 = .int .u32 := id rfl
@[simp] theorem env_size164 : env.size 164 = 1 := id rfl
@[simp] theorem env_zero164 : env.zero 164 = (.int .u32 0) := id rfl
@[simp] theorem env_ty165 : env.ty 165 = .fn := id rfl
@[simp] theorem env_ty166 : env.ty 166 = .int .u64 := id rfl
@[simp] theorem env_size166 : env.size 166 = 1 := id rfl
@[simp] theorem env_zero166 : env.zero 166 = (.int .u64 0) := id rfl
@[simp] theorem env_ty167 : env.ty 167 = .fn := id rfl
@[simp] theorem env_ty168 : env.ty 168 = .fn := id rfl
@[simp] theorem env_ty169 : env.ty 169 = .fn := id rfl
@[simp] theorem env_ty170 : env.ty 170 = .fn := id rfl
@[simp] theorem env_ty171 : env.ty 171 = .arr 32 5 := id rfl
@[simp] theorem env_size171 : env.size 171 = 32 := id rfl
@[simp] theorem env_zero171 : env.zero 171 = (.agg [(.int .u8 0), (.int .u8 0), (.int .u8 0), (.int .u8 0), (.int .u8 0), (.int .u8 0), (.int .u8 0), (.int .u8 0), (.int .u8 0), (.int .u8 0), (.int .u8 0), (.int .u8 0), (.int .u8 0), (.int .u8 0), (.int .u8 0), (.int .u8 0), (.int .u8 0), (.int .u8 0), (.int .u8 0), (.int .u8 0), (.int .u8 0), (.int .u8 0), (.int .u8 0), (.int .u8 0), (.int .u8 0), (.int .u8 0), (.int .u8 0), (.int .u8 0), (.int .u8 0), (.int .u8 0), (.int .u8 0), (.int .u8 0)]) := id rfl
@[simp] theorem env_ty172 : env.ty 172 = .arr 64 5 := id rfl
@[simp] theorem env_size172 : env.size 172 = 64 := id rfl
@[simp] theorem env_zero172 : env.zero 172 = (.agg [(.int .u8 0), (.int .u8 0), (.int .u8 0), (.int .u8 0), (.int .u8 0), (.int .u8 0), (.int .u8 0), (.int .u8 0), (.int .u8 0), (.int .u8 0), (.int .u8 0), (.int .u8 0), (.int .u8 0), (.int .u8 0), (.int .u8 0), (.int .u8 0), (.int .u8 0), (.int .u8 0), (.int .u8 0), (.int .u8 0), (.int .u8 0), (.int .u8 0), (.int .u8 0), (.int .u8 0), (.int .u8 0), (.int .u8 0), (.int .u8 0), (.int .u8 0), (.int .u8 0), (.int .u8 0), (.int .u8 0), (.int .u8 0), (.int .u8 0), (.int .u8 0), (.int .u8 0), (.int .u8 0), (.int .u8 0), (.int .u8 0), (.int .u8 0), (.int .u8 0), (.int .u8 0), (.int .u8 0), (.int .u8 0), (.int .u8 0), (.int .u8 0), (.int .u8 0), (.int .u8 0), (.int .u8 0), (.int .u8 0), (.int .u8 0), (.int .u8 0), (.int .u8 0), (.int .u8 0), (.int .u8 0), (.int .u8 0), (.int .u8 0), (.int .u8 0), (.int .u8 0), (.int .u8 0), (.int .u8 0), (.int .u8 0), (.int .u8 0), (.int .u8 0), (.int .u8 0)]) := id rfl
@[simp] theorem env_ty173 : env.ty 173 = .arr 24 5 := id rfl
@[simp] theorem env_size173 : env.size 173 = 24 := id rfl
@[simp] theorem env_zero173 : env.zero 173 = (.agg [(.int .u8 0), (.int .u8 0), (.int .u8 0), (.int .u8 0), (.int .u8 0), (.int .u8 0), (.int .u8 0), (.int .u8 0), (.int .u8 0), (.int .u8 0), (.int .u8 0), (.int .u8 0), (.int .u8 0), (.int .u8 0), (.int .u8 0), (.int .u8 0), (.int .u8 0), (.int .u8 0), (.int .u8 0), (.int .u8 0), (.int .u8 0), (.int .u8 0), (.int .u8 0), (.int .u8 0)]) := id rfl
@[simp] theorem env_ty174 : env.ty 174 = .fn := id rfl
@[simp] theorem env_ty176 : env.ty 176 = .fn := id rfl
@[simp] theorem env_ty177 : env.ty 177 = .fn := id rfl
@[simp] theorem env_ty178 : env.ty 178 = .int .i64 := id rfl
@[simp] theorem env_size178 : env.size 178 = 1 := id rfl
@[simp] theorem env_zero178 : env.zero 178 = (.int .i64 0) := id rfl
@[simp] theorem env_ty180 : env.ty 180 = .fn := id rfl
@[simp] theorem env_ty181 : env.ty 181 = .fn := id rfl
@[simp] theorem env_ty182 : env.ty 182 = .fn := id rfl
@[simp] theorem env_ty183 : env.ty 183 = .fn := id rfl
@[simp] theorem env_ty184 : env.ty 184 = .arr 20 166 := id rfl
@[simp] theorem env_size184 : env.size 184 = 20 := id rfl
@[simp] theorem env_zero184 : env.zero 184 = (.agg [(.int .u64 0), (.int .u64 0), (.int .u64 0), (.int .u64 0), (.int .u64 0), (.int .u64 0), (.int .u64 0), (.int .u64 0), (.int .u64 0), (.int .u64 0), (.int .u64 0), (.int .u64 0), (.int .u64 0), (.int .u64 0), (.int .u64 0), (.int .u64 0), (.int .u64 0), (.int .u64 0), (.int .u64 0), (.int .u64 0)]) := id rfl
@[simp] theorem env_ty185 : env.ty 185 = .arr 65 5 := id rfl
@[simp] theorem env_size185 : env.size 185 = 65 := id rfl
@[simp] theorem env_zero185 : env.zero 185 = (.agg [(.int .u8 0), (.int .u8 0), (.int .u8 0), (.int .u8 0), (.int .u8 0), (.int .u8 0), (.int .u8 0), (.int .u8 0), (.int .u8 0), (.int .u8 0), (.int .u8 0), (.int .u8 0), (.int .u8 0), (.int .u8 0), (.int .u8 0), (.int .u8 0), (.int .u8 0), (.int .u8 0), (.int .u8 0), (.int .u8 0), (.int .u8 0), (.int .u8 0), (.int .u8 0), (.int .u8 0), (.int .u8 0), (.int .u8 0), (.int .u8 0), (.int .u8 0), (.int .u8 0), (.int .u8 0), (.int .u8 0), (.int .u8 0), (.int .u8 0), (.int .u8 0), (.int .u8 0), (.int .u8 0), (.int .u8 0), (.int .u8 0), (.int .u8 0), (.int .u8 0), (.int .u8 0), (.int .u8 0), (.int .u8 0), (.int .u8 0), (.int .u8 0), (.int .u8 0), (.int .u8 0), (.int .u8 0), (.int .u8 0), (.int .u8 0), (.int .u8 0), (.int .u8 0), (.int .u8 0), (.int .u8 0), (.int .u8 0), (.int .u8 0), (.int .u8 0), (.int .u8 0), (.int .u8 0), (.int .u8 0), (.int .u8 0), (.int .u8 0), (.int .u8 0), (.int .u8 0), (.int .u8 0)]) := id rfl
@[simp] theorem env_ty186 : env.ty 186 = .int .u64 := id rfl
@[simp] theorem env_size186 : env.size 186 = 1 := id rfl
@[simp] theorem env_zero186 : env.zero 186 = (.int .u64 0) := id rfl
@[simp] theorem env_ty187 : env.ty 187 = .fn := id rfl
@[simp] theorem env_ty188 : env.ty 188 = .fn := id rfl
@[simp] theorem env_ty189 : env.ty 189 = .fn := id rfl
@[simp] theorem env_ty190 : env.ty 190 = .ptr 3 := id rfl
@[simp] theorem env_ty191 : env.ty 191 = .fn := id rfl
@[simp] theorem env_ty192 : env.ty 192 = .ptr 186 := id rfl
@[simp] theorem env_ty193 : env.ty 193 = .fn := id rfl
@[simp] theorem env_ty194 : env.ty 194 = .fn := id rfl
@[simp] theorem env_ty200 : env.ty 200 = .fn := id rfl
@[simp] theorem env_ty203 : env.ty 203 = .fn := id rfl
@[simp] theorem env_ty204 : env.ty 204 = .ptr 5 := id rfl
@[simp] theorem env_ty209 : env.ty 209 = .fn := id rfl
@[simp] theorem env_open3 : env.open_ 3 = false := id rfl
@[simp] theorem env_ext3 : env.ext 3 = none := id rfl
@[simp] theorem env_open4 : env.open_ 4 = false := id rfl
@[simp] theorem env_ext4 : env.ext 4 = none := id rfl
@[simp] theorem env_open5 : env.open_ 5 = false := id rfl
@[simp] theorem env_ext5 : env.ext 5 = none := id rfl
@[simp] theorem env_open6 : env.open_ 6 = false := id rfl
@[simp] theorem env_ext6 : env.ext 6 = none := id rfl
@[simp] theorem env_open7 : env.open_ 7 = false := id rfl
@[simp] theorem env_ext7 : env.ext 7 = none := id rfl
@[simp] theorem env_open8 : env.open_ 8 = false := id rfl
@[simp] theorem env_ext8 : env.ext 8 = none := id rfl
@[simp] theorem env_open9 : env.open_ 9 = false := id rfl
@[simp] theorem env_ext9 : env.ext 9 = none := id rfl
@[simp] theorem env_open10 : env.open_ 10 = false := id rfl
@[simp] theorem env_ext10 : env.ext 10 = none := id rfl
@[simp] theorem env_open11 : env.open_ 11 = false := id rfl
@[simp] theorem env_ext11 : env.ext 11 = none := id rfl
@[simp] theorem env_open12 : env.open_ 12 = false := id rfl
@[simp] theorem env_ext12 : env.ext 12 = none := id rfl
@[simp] theorem env_open13 : env.open_ 13 = false := id rfl
@[simp] theorem env_ext13 : env.ext 13 = none := id rfl
@[simp] theorem env_open14 : env.open_ 14 = false := id rfl
@[simp] theorem env_ext14 : env.ext 14 = none := id rfl
@[simp] theorem env_open15 : env.open_ 15 = false := id rfl
@[simp] theorem env_ext15 : env.ext 15 = none := id rfl
@[simp] theorem env_open16 : env.open_ 16 = false := id rfl
@[simp] theorem env_ext16 : env.ext 16 = none := id rfl
@[simp] theorem env_open17 : env.open_ 17 = false := id rfl
@[simp] theorem env_ext17 : env.ext 17 = none := id rfl
@[simp] theorem env_open18 : env.open_ 18 = false := id rfl
@[simp] theorem env_ext18 : env.ext 18 = none := id rfl
@[simp] theorem env_open19 : env.open_ 19 = false := id rfl
@[simp] theorem env_ext19 : env.ext 19 = none := id rfl
@[simp] theorem env_open20 : env.open_ 20 = false := id rfl
@[simp] theorem env_ext20 : env.ext 20 = none := id rfl
@[simp] theorem env_open21 : env.open_ 21 = false := id rfl
@[simp] theorem env_ext21 : env.ext 21 = none := id rfl
@[simp] theorem env_open22 : env.open_ 22 = false := id rfl
@[simp] theorem env_ext22 : env.ext 22 = none := id rfl
@[simp] theorem env_open23 : env.open_ 23 = false := id rfl
@[simp] theorem env_ext23 : env.ext 23 = none := id rfl
@[simp] theorem env_open24 : env.open_ 24 = false := id rfl
@[simp] theorem env_ext24 : env.ext 24 = none := id rfl
@[simp] theorem env_open25 : env.open_ 25 = false := id rfl
@[simp] theorem env_ext25 : env.ext 25 = none := id rfl
@[simp] theorem env_open26 : env.open_ 26 = false := id rfl
@[simp] theorem env_ext26 : env.ext 26 = none := id rfl
@[simp] theorem env_open27 : env.open_ 27 = false := id rfl
@[simp] theorem env_ext27 : env.ext 27 = none := id rfl
@[simp] theorem env_open28 : env.open_ 28 = false := id rfl
@[simp] theorem env_ext28 : env.ext 28 = none := id rfl
@[simp] theorem env_open29 : env.open_ 29 = false := id rfl
@[simp] theorem env_ext29 : env.ext 29 = none := id rfl
@[simp] theorem env_open30 : env.open_ 30 = false := id rfl
@[simp] theorem env_ext30 : env.ext 30 = none := id rfl
@[simp] theorem env_open31 : env.open_ 31 = false := id rfl
@[simp] theorem env_ext31 : env.ext 31 = none := id rfl
@[simp] theorem env_open32 : env.open_ 32 = false := id rfl
@[simp] theorem env_ext32 : env.ext 32 = none := id rfl
@[simp] theorem env_open33 : env.open_ 33 = false := id rfl
@[simp] theorem env_ext33 : env.ext 33 = none := id rfl
@[simp] theorem env_open34 : env.open_ 34 = false := id rfl
@[simp] theorem env_ext34 : env.ext 34 = none := id rfl
@[simp] theorem env_open35 : env.open_ 35 = false := id rfl
@[simp] theorem env_ext35 : env.ext 35 = none := id rfl
@[simp] theorem env_open36 : env.open_ 36 = false := id rfl
@[simp] theorem env_ext36 : env.ext 36 = none := id rfl
@[simp] theorem env_open37 : env.open_ 37 = false := id rfl
@[simp] theorem env_ext37 : env.ext 37 = none := id rfl
@[simp] theorem env_open38 : env.open_ 38 = false := id rfl
@[simp] theorem env_ext38 : env.ext 38 = none := id rfl
@[simp] theorem env_open39 : env.open_ 39 = false := id rfl
@[simp] theorem env_ext39 : env.ext 39 = none := id rfl
@[simp] theorem env_open40 : env.open_ 40 = false := id rfl
@[simp] theorem env_ext40 : env.ext 40 = none := id rfl
@[simp] theorem env_open41 : env.open_ 41 = false := id rfl
@[simp] theorem env_ext41 : env.ext 41 = none := id rfl
@[simp] theorem env_open42 : env.open_ 42 = false := id rfl
@[simp] theorem env_ext42 : env.ext 42 = none := id rfl
@[simp] theorem env_open43 : env.open_ 43 = false := id rfl
@[simp] theorem env_ext43 : env.ext 43 = none := id rfl
@[simp] theorem env_open44 : env.open_ 44 = false := id rfl
@[simp] theorem env_ext44 : env.ext 44 = none := id rfl
@[simp] theorem env_open45 : env.open_ 45 = false := id rfl
@[simp] theorem env_ext45 : env.ext 45 = none := id rfl
@[simp] theorem env_open46 : env.open_ 46 = false := id rfl
@[simp] theorem env_ext46 : env.ext 46 = none := id rfl
@[simp] theorem env_open47 : env.open_ 47 = false := id rfl
@[simp] theorem env_ext47 : env.ext 47 = none := id rfl
@[simp] theorem env_open48 : env.open_ 48 = false := id rfl
@[simp] theorem env_ext48 : env.ext 48 = none := id rfl
@[simp] theorem env_open49 : env.open_ 49 = false := id rfl
@[simp] theorem env_ext49 : env.ext 49 = none := id rfl
@[simp] theorem env_open50 : env.open_ 50 = false := id rfl
@[simp] theorem env_ext50 : env.ext 50 = none := id rfl
@[simp] theorem env_open51 : env.open_ 51 = false := id rfl
@[simp] theorem env_ext51 : env.ext 51 = none := id rfl
@[simp] theorem env_open52 : env.open_ 52 = false := id rfl
@[simp] theorem env_ext52 : env.ext 52 = none := id rfl
@[simp] theorem env_open53 : env.open_ 53 = false := id rfl
@[simp] theorem env_ext53 : env.ext 53 = none := id rfl
@[simp] theorem env_open54 : env.open_ 54 = false := id rfl
@[simp] theorem env_ext54 : env.ext 54 = none := id rfl
@[simp] theorem env_open55 : env.open_ 55 = false := id rfl
@[simp] theorem env_ext55 : env.ext 55 = none := id rfl
@[simp] theorem env_open56 : env.open_ 56 = false := id rfl
@[simp] theorem env_ext56 : env.ext 56 = none := id rfl
@[simp] theorem env_open57 : env.open_ 57 = false := id rfl
@[simp] theorem env_ext57 : env.ext 57 = none := id rfl
@[simp] theorem env_open58 : env.open_ 58 = false := id rfl
@[simp] theorem env_ext58 : env.ext 58 = none := id rfl
@[simp] theorem env_open59 : env.open_ 59 = false := id rfl
@[simp] theorem env_ext59 : env.ext 59 = none := id rfl
@[simp] theorem env_open60 : env.open_ 60 = false := id rfl
@[simp] theorem env_ext60 : env.ext 60 = none := id rfl
@[simp] theorem env_open61 : env.open_ 61 = false := id rfl
@[simp] theorem env_ext61 : env.ext 61 = none := id rfl
@[simp] theorem env_open62 : env.open_ 62 = false := id rfl
@[simp] theorem env_ext62 : env.ext 62 = none := id rfl
@[simp] theorem env_open63 : env.open_ 63 = false := id rfl
@[simp] theorem env_ext63 : env.ext 63 = none := id rfl
@[simp] theorem env_open64 : env.open_ 64 = false := id rfl
@[simp] theorem env_ext64 : env.ext 64 = none := id rfl
@[simp] theorem env_open65 : env.open_ 65 = false := id rfl
@[simp] theorem env_ext65 : env.ext 65 = none := id rfl
@[simp] theorem env_open66 : env.open_ 66 = false := id rfl
@[simp] theorem env_ext66 : env.ext 66 = none := id rfl
@[simp] theorem env_open67 : env.open_ 67 = true := id rfl
@[simp] theorem env_ext67 : env.ext 67 = none := id rfl
@[simp] theorem env_open68 : env.open_ 68 = true := id rfl
@[simp] theorem env_ext68 : env.ext 68 = none := id rfl
@[simp] theorem env_open69 : env.open_ 69 = true := id rfl
@[simp] theorem env_ext69 : env.ext 69 = none := id rfl
@[simp] theorem env_open70 : env.open_ 70 = false := id rfl
@[simp] theorem env_ext70 : env.ext 70 = none := id rfl
@[simp] theorem env_open71 : env.open_ 71 = false := id rfl
@[simp] theorem env_ext71 : env.ext 71 = none := id rfl
@[simp] theorem env_open72 : env.open_ 72 = false := id rfl
@[simp] theorem env_ext72 : env.ext 72 = none := id rfl
@[simp] theorem env_open73 : env.open_ 73 = false := id rfl
@[simp] theorem env_ext73 : env.ext 73 = none := id rfl
@[simp] theorem env_open74 : env.open_ 74 = false := id rfl
@[simp] theorem env_ext74 : env.ext 74 = none := id rfl
@[simp] theorem env_open75 : env.open_ 75 = false := id rfl
@[simp] theorem env_ext75 : env.ext 75 = none := id rfl
@[simp] theorem env_open76 : env.open_ 76 = false := id rfl
@[simp] theorem env_ext76 : env.ext 76 = none := id rfl
@[simp] theorem env_open77 : env.open_ 77 = false := id rfl
@[simp] theorem env_ext77 : env.ext 77 = none := id rfl
@[simp] theorem env_open78 : env.open_ 78 = false := id rfl
@[simp] theorem env_ext78 : env.ext 78 = none := id rfl
@[simp] theorem env_open79 : env.open_ 79 = false := id rfl
@[simp] theorem env_ext79 : env.ext 79 = none := id rfl
@[simp] theorem env_open80 : env.open_ 80 = false := id rfl
@[simp] theorem env_ext80 : env.ext 80 = none := id rfl
@[simp] theorem env_open81 : env.open_ 81 = false := id rfl
@[simp] theorem env_ext81 : env.ext 81 = none := id rfl
@[simp] theorem env_open82 : env.open_ 82 = false := id rfl
@[simp] theorem env_ext82 : env.ext 82 = none := id rfl
@[simp] theorem env_open83 : env.open_ 83 = false := id rfl
@[simp] theorem env_ext83 : env.ext 83 = none := id rfl
@[simp] theorem env_open84 : env.open_ 84 = false := id rfl
@[simp] theorem env_ext84 : env.ext 84 = none := id rfl
@[simp] theorem env_open85 : env.open_ 85 = true := id rfl
@[simp] theorem env_ext85 : env.ext 85 = none := id rfl
@[simp] theorem env_open86 : env.open_ 86 = false := id rfl
@[simp] theorem env_ext86 : env.ext 86 = none := id rfl
@[simp] theorem env_open87 : env.open_ 87 = false := id rfl
@[simp] theorem env_ext87 : env.ext 87 = none := id rfl
@[simp] theorem env_open88 : env.open_ 88 = false := id rfl
@[simp] theorem env_ext88 : env.ext 88 = none := id rfl
@[simp] theorem env_open89 : env.open_ 89 = false := id rfl
@[simp] theorem env_ext89 : env.ext 89 = none := id rfl
@[simp] theorem env_open90 : env.open_ 90 = false := id rfl
@[simp] theorem env_ext90 : env.ext 90 = none := id rfl
@[simp] theorem env_open91 : env.open_ 91 = false := id rfl
@[simp] theorem env_ext91 : env.ext 91 = none := id rfl
@[simp] theorem env_open92 : env.open_ 92 = false := id rfl
@[simp] theorem env_ext92 : env.ext 92 = none := id rfl
@[simp] theorem env_open93 : env.open_ 93 = false := id rfl
@[simp] theorem env_ext93 : env.ext 93 = none := id rfl
@[simp] theorem env_open94 : env.open_ 94 = false := id rfl
@[simp] theorem env_ext94 : env.ext 94 = none := id rfl
@[simp] theorem env_open95 : env.open_ 95 = false := id rfl
@[simp] theorem env_ext95 : env.ext 95 = none := id rfl
@[simp] theorem env_open96 : env.open_ 96 = false := id rfl
@[simp] theorem env_ext96 : env.ext 96 = none := id rfl
@[simp] theorem env_open97 : env.open_ 97 = false := id rfl
@[simp] theorem env_ext97 : env.ext 97 = none := id rfl
@[simp] theorem env_open98 : env.open_ 98 = false := id rfl
@[simp] theorem env_ext98 : env.ext 98 = none := id rfl
@[simp] theorem env_open99 : env.open_ 99 = false := id rfl
@[simp] theorem env_ext99 : env.ext 99 = none := id rfl
@[simp] theorem env_open100 : env.open_ 100 = false := id rfl
@[simp] theorem env_ext100 : env.ext 100 = none := id rfl
@[simp] theorem env_open101 : env.open_ 101 = false := id rfl
@[simp] theorem env_ext101 : env.ext 101 = none := id rfl
@[simp] theorem env_open102 : env.open_ 102 = false := id rfl
@[simp] theorem env_ext102 : env.ext 102 = none := id rfl
@[simp] theorem env_open103 : env.open_ 103 = false := id rfl
@[simp] theorem env_ext103 : env.ext 103 = none := id rfl
@[simp] theorem env_open104 : env.open_ 104 = false := id rfl
@[simp] theorem env_ext104 : env.ext 104 = none := id rfl
@[simp] theorem env_open105 : env.open_ 105 = false := id rfl
@[simp] theorem env_ext105 : env.ext 105 = none := id rfl
@[simp] theorem env_open106 : env.open_ 106 = false := id rfl
@[simp] theorem env_ext106 : env.ext 106 = none := id rfl
@[simp] theorem env_open107 : env.open_ 107 = false := id rfl
@[simp] theorem env_ext107 : env.ext 107 = none := id rfl
@[simp] theorem env_open108 : env.open_ 108 = false := id rfl
@[simp] theorem env_ext108 : env.ext 108 = none := id rfl
@[simp] theorem env_open109 : env.open_ 109 = false := id rfl
@[simp] theorem env_ext109 : env.ext 109 = none := id rfl
@[simp] theorem env_open110 : env.open_ 110 = false := id rfl
@[simp] theorem env_ext110 : env.ext 110 = none := id rfl
@[simp] theorem env_open111 : env.open_ 111 = false := id rfl
@[simp] theorem env_ext111 : env.ext 111 = none := id rfl
@[simp] theorem env_open112 : env.open_ 112 = false := id rfl
@[simp] theorem env_ext112 : env.ext 112 = none := id rfl
@[simp] theorem env_open113 : env.open_ 113 = false := id rfl
@[simp] theorem env_ext113 : env.ext 113 = none := id rfl
@[simp] theorem env_open114 : env.open_ 114 = false := id rfl
@[simp] theorem env_ext114 : env.ext 114 = none := id rfl
@[simp] theorem env_open115 : env.open_ 115 = false := id rfl
@[simp] theorem env_ext115 : env.ext 115 = none := id rfl
@[simp] theorem env_open116 : env.open_ 116 = false := id rfl
@[simp] theorem env_ext116 : env.ext 116 = none := id rfl
@[simp] theorem env_open117 : env.open_ 117 = false := id rfl
@[simp] theorem env_ext117 : env.ext 117 = none := id rfl
@[simp] theorem env_open118 : env.open_ 118 = false := id rfl
@[simp] theorem env_ext118 : env.ext 118 = none := id rfl
@[simp] theorem env_open119 : env.open_ 119 = false := id rfl
@[simp] theorem env_ext119 : env.ext 119 = none := id rfl
@[simp] theorem env_open120 : env.open_ 120 = false := id rfl
@[simp] theorem env_ext120 : env.ext 120 = none := id rfl
@[simp] theorem env_open121 : env.open_ 121 = false := id rfl
@[simp] theorem env_ext121 : env.ext 121 = none := id rfl
@[simp] theorem env_open122 : env.open_ 122 = false := id rfl
@[simp] theorem env_ext122 : env.ext 122 = none := id rfl
@[simp] theorem env_open123 : env.open_ 123 = false := id rfl
@[simp] theorem env_ext123 : env.ext 123 = none := id rfl
@[simp] theorem env_open124 : env.open_ 124 = false := id rfl
@[simp] theorem env_ext124 : env.ext 124 = none := id rfl
@[simp] theorem env_open125 : env.open_ 125 = false := id rfl
@[simp] theorem env_ext125 : env.ext 125 = none := id rfl
@[simp] theorem env_open126 : env.open_ 126 = true := id rfl
@[simp] theorem env_ext126 : env.ext 126 = none := id rfl
@[simp] theorem env_open127 : env.open_ 127 = true := id rfl
@[simp] theorem env_ext127 : env.ext 127 = none := id rfl
@[simp] theorem env_open128 : env.open_ 128 = true := id rfl
@[simp] theorem env_ext128 : env.ext 128 = none := id rfl
@[simp] theorem env_open129 : env.open_ 129 = true := id rfl
@[simp] theorem env_ext129 : env.ext 129 = none := id rfl
@[simp] theorem env_open130 : env.open_ 130 = false := id rfl
@[simp] theorem env_ext130 : env.ext 130 = none := id rfl
@[simp] theorem env_open131 : env.open_ 131 = false := id rfl
@[simp] theorem env_ext131 : env.ext 131 = none := id rfl
@[simp] theorem env_open132 : env.open_ 132 = false := id rfl
@[simp] theorem env_ext132 : env.ext 132 = none := id rfl
@[simp] theorem env_open133 : env.open_ 133 = false := id rfl
@[simp] theorem env_ext133 : env.ext 133 = none := id rfl
@[simp] theorem env_open134 : env.open_ 134 = false := id rfl
@[simp] theorem env_ext134 : env.ext 134 = none := id rfl
@[simp] theorem env_open135 : env.open_ 135 = false := id rfl
@[simp] theorem env_ext135 : env.ext 135 = none := id rfl
@[simp] theorem env_open136 : env.open_ 136 = false := id rfl
@[simp] theorem env_ext136 : env.ext 136 = none := id rfl
@[simp] theorem env_open137 : env.open_ 137 = false := id rfl
@[simp] theorem env_ext137 : env.ext 137 = none := id rfl
@[simp] theorem env_open138 : env.open_ 138 = false := id rfl
@[simp] theorem env_ext138 : env.ext 138 = none := id rfl
@[simp] theorem env_open139 : env.open_ 139 = false := id rfl
@[simp] theorem env_ext139 : env.ext 139 = none := id rfl
@[simp] theorem env_open140 : env.open_ 140 = false := id rfl
@[simp] theorem env_ext140 : env.ext 140 = none := id rfl
@[simp] theorem env_open141 : env.open_ 141 = false := id rfl
@[simp] theorem env_ext141 : env.ext 141 = none := id rfl
@[simp] theorem env_open142 : env.open_ 142 = false := id rfl
@[simp] theorem env_ext142 : env.ext 142 = none := id rfl
@[simp] theorem env_open143 : env.open_ 143 = false := id rfl
@[simp] theorem env_ext143 : env.ext 143 = none := id rfl
@[simp] theorem env_open144 : env.open_ 144 = false := id rfl
@[simp] theorem env_ext144 : env.ext 144 = none := id rfl
@[simp] theorem env_open145 : env.open_ 145 = false := id rfl
@[simp] theorem env_ext145 : env.ext 145 = none := id rfl
@[simp] theorem env_open146 : env.open_ 146 = false := id rfl
@[simp] theorem env_ext146 : env.ext 146 = none := id rfl
@[simp] theorem env_open147 : env.open_ 147 = false := id rfl
@[simp] theorem env_ext147 : env.ext 147 = none := id rfl
@[simp] theorem env_open148 : env.open_ 148 = false := id rfl
@[simp] theorem env_ext148 : env.ext 148 = none := id rfl
@[simp] theorem env_open149 : env.open_ 149 = false := id rfl
@[simp] theorem env_ext149 : env.ext 149 = none := id rfl
@[simp] theorem env_open150 : env.open_ 150 = false := id rfl
@[simp] theorem env_ext150 : env.ext 150 = none := id rfl
@[simp] theorem env_open151 : env.open_ 151 = false := id rfl
@[simp] theorem env_ext151 : env.ext 151 = none := id rfl
@[simp] theorem env_open152 : env.open_ 152 = true := id rfl
@[simp] theorem env_ext152 : env.ext 152 = none := id rfl
@[simp] theorem env_open153 : env.open_ 153 = true := id rfl
@[simp] theorem env_ext153 : env.ext 153 = none := id rfl
@[simp] theorem env_open154 : env.open_ 154 = false := id rfl
@[simp] theorem env_ext154 : env.ext 154 = none := id rfl
@[simp] theorem env_open155 : env.open_ 155 = false := id rfl
@[simp] theorem env_ext155 : env.ext 155 = none := id rfl
@[simp] theorem env_open156 : env.open_ 156 = false := id rfl
@[simp] theorem env_ext156 : env.ext 156 = none := id rfl
@[simp] theorem env_open157 : env.open_ 157 = false := id rfl
@[simp] theorem env_ext157 : env.ext 157 = none := id rfl
@[simp] theorem env_open158 : env.open_ 158 = false := id rfl
@[simp] theorem env_ext158 : env.ext 158 = none := id rfl
@[simp] theorem env_open159 : env.open_ 159 = false := id rfl
@[simp] theorem env_ext159 : env.ext 159 = none := id rfl
@[simp] theorem env_open160 : env.open_ 160 = false := id rfl
@[simp] theorem env_ext160 : env.ext 160 = none := id rfl
@[simp] theorem env_open161 : env.open_ 161 = false := id rfl
@[simp] theorem env_ext161 : env.ext 161 = none := id rfl
@[simp] theorem env_open162 : env.open_ 162 = false := id rfl
@[simp] theorem env_ext162 : env.ext 162 = none := id rfl
@[simp] theorem env_open163 : env.open_ 163 = true := id rfl
@[simp] theorem env_ext163 : env.ext 163 = none := id rfl
@[simp] theorem env_open164 : env.open_ 164 = true := id rfl
@[simp] theorem env_ext164 : env.ext 164 = none := id rfl
@[simp] theorem env_open165 : env.open_ 165 = false := id rfl
@[simp] theorem env_ext165 : env.ext 165 = none := id rfl
@[simp] theorem env_open166 : env.open_ 166 = false := id rfl
@[simp] theorem env_ext166 : env.ext 166 = none := id rfl
@[simp] theorem env_open167 : env.open_ 167 = false := id rfl
@[simp] theorem env_ext167 : env.ext 167 = none := id rfl
@[simp] theorem env_open168 : env.open_ 168 = false := id rfl
@[simp] theorem env_ext168 : env.ext 168 = some cloneF := id rfl
@[simp] theorem env_open169 : env.open_ 169 = false := id rfl
@[simp] theorem env_ext169 : env.ext 169 = none := id rfl
@[simp] theorem env_open170 : env.open_ 170 = false := id rfl
@[simp] theorem env_ext170 : env.ext 170 = none := id rfl
@[simp] theorem env_open171 : env.open_ 171 = false := id rfl
@[simp] theorem env_ext171 : env.ext 171 = none := id rfl
@[simp] theorem env_open172 : env.open_ 172 = false := id rfl
@[simp] theorem env_ext172 : env.ext 172 = none := id rfl
@[simp] theorem env_open173 : env.open_ 173 = false := id rfl
@[simp] theorem env_ext173 : env.ext 173 = none := id rfl
@[simp] theorem env_open174 : env.open_ 174 = true := id rfl
@[simp] theorem env_ext174 : env.ext 174 = none := id rfl
@[simp] theorem env_open175 : env.open_ 175 = true := id rfl
@[simp] theorem env_ext175 : env.ext 175 = none := id rfl
@[simp] theorem env_open176 : env.open_ 176 = false := id rfl
@[simp] theorem env_ext176 : env.ext 176 = none := id rfl
@[simp] theorem env_open177 : env.open_ 177 = false := id rfl
@[simp] theorem env_ext177 : env.ext 177 = none := id rfl
@[simp] theorem env_open178 : env.open_ 178 = false := id rfl
@[simp] theorem env_ext178 : env.ext 178 = none := id rfl
@[simp] theorem env_open179 : env.open_ 179 = false := id rfl
@[simp] theorem env_ext179 : env.ext 179 = none := id rfl
@[simp] theorem env_open180 : env.open_ 180 = false := id rfl
@[simp] theorem env_ext180 : env.ext 180 = none := id rfl
@[simp] theorem env_open181 : env.open_ 181 = false := id rfl
@[simp] theorem env_ext181 : env.ext 181 = none := id rfl
@[simp] theorem env_open182 : env.open_ 182 = false := id rfl
@[simp] theorem env_ext182 : env.ext 182 = none := id rfl
@[simp] theorem env_open183 : env.open_ 183 = false := id rfl
@[simp] theorem env_ext183 : env.ext 183 = none := id rfl
@[simp] theorem env_open184 : env.open_ 184 = false := id rfl
@[simp] theorem env_ext184 : env.ext 184 = none := id rfl
@[simp] theorem env_open185 : env.open_ 185 = false := id rfl
@[simp] theorem env_ext185 : env.ext 185 = none := id rfl
@[simp] theorem env_open186 : env.open_ 186 = false := id rfl
@[simp] theorem env_ext186 : env.ext 186 = none := id rfl
@[simp] theorem env_open187 : env.open_ 187 = false := id rfl
@[simp] theorem env_ext187 : env.ext 187 = none := id rfl
@[simp] theorem env_open188 : env.open_ 188 = false := id rfl
@[simp] theorem env_ext188 : env.ext 188 = none := id rfl
@[simp] theorem env_open189 : env.open_ 189 = false := id rfl
@[simp] theorem env_ext189 : env.ext 189 = none := id rfl
@[simp] theorem env_open190 : env.open_ 190 = false := id rfl
@[simp] theorem env_ext190 : env.ext 190 = none := id rfl
@[simp] theorem env_open191 : env.open_ 191 = false := id rfl
@[simp] theorem env_ext191 : env.ext 191 = none := id rfl
@[simp] theorem env_open192 : env.open_ 192 = false := id rfl
@[simp] theorem env_ext192 : env.ext 192 = none := id rfl
@[simp] theorem env_open193 : env.open_ 193 = false := id rfl
@[simp] theorem env_ext193 : env.ext 193 = none := id rfl
@[simp] theorem env_open194 : env.open_ 194 = false := id rfl
@[simp] theorem env_ext194 : env.ext 194 = none := id rfl
@[simp] theorem env_open195 : env.open_ 195 = false := id rfl
@[simp] theorem env_ext195 : env.ext 195 = none := id rfl
@[simp] theorem env_open196 : env.open_ 196 = false := id rfl
@[simp] theorem env_ext196 : env.ext 196 = none := id rfl
@[simp] theorem env_open197 : env.open_ 197 = false := id rfl
@[simp] theorem env_ext197 : env.ext 197 = none := id rfl
@[simp] theorem env_open198 : env.open_ 198 = false := id rfl
@[simp] theorem env_ext198 : env.ext 198 = none := id rfl
@[simp] theorem env_open199 : env.open_ 199 = false := id rfl
@[simp] theorem env_ext199 : env.ext 199 = none := id rfl
@[simp] theorem env_open200 : env.open_ 200 = false := id rfl
@[simp] theorem env_ext200 : env.ext 200 = none := id rfl
@[simp] theorem env_open201 : env.open_ 201 = true := id rfl
@[simp] theorem env_ext201 : env.ext 201 = none := id rfl
@[simp] theorem env_open202 : env.open_ 202 = false := id rfl
@[simp] theorem env_ext202 : env.ext 202 = none := id rfl
@[simp] theorem env_open203 : env.open_ 203 = false := id rfl
@[simp] theorem env_ext203 : env.ext 203 = none := id rfl
@[simp] theorem env_open204 : env.open_ 204 = false := id rfl
@[simp] theorem env_ext204 : env.ext 204 = none := id rfl
@[simp] theorem env_open205 : env.open_ 205 = false := id rfl
@[simp] theorem env_ext205 : env.ext 205 = none := id rfl
@[simp] theorem env_open206 : env.open_ 206 = true := id rfl
@[simp] theorem env_ext206 : env.ext 206 = none := id rfl
@[simp] theorem env_open207 : env.open_ 207 = false := id rfl
@[simp] theorem env_ext207 : env.ext 207 = none := id rfl
@[simp] theorem env_open208 : env.open_ 208 = false := id rfl
@[simp] theorem env_ext208 : env.ext 208 = none := id rfl
@[simp] theorem env_open209 : env.open_ 209 = false := id rfl
@[simp] theorem env_ext209 : env.ext 209 = some beforeF := id rfl
@[simp] theorem env_open210 : env.open_ 210 = false := id rfl
@[simp] theorem env_ext210 : env.ext 210 = none := id rfl
@[simp] theorem env_open211 : env.open_ 211 = true := id rfl
@[simp] theorem env_ext211 : env.ext 211 = none := id rfl
@[simp] theorem env_open212 : env.open_ 212 = false := id rfl
@[simp] theorem env_ext212 : env.ext 212 = none := id rfl
@[simp] theorem env_open213 : env.open_ 213 = false := id rfl
@[simp] theorem env_ext213 : env.ext 213 = none := id rfl
@[simp] theorem env_open214 : env.open_ 214 = false := id rfl
@[simp] theorem env_ext214 : env.ext 214 = none := id rfl
@[simp] theorem env_open215 : env.open_ 215 = false := id rfl
@[simp] theorem env_ext215 : env.ext 215 = none := id rfl
@[simp] theorem env_open216 : env.open_ 216 = false := id rfl
@[simp] theorem env_ext216 : env.ext 216 = none := id rfl
@[simp] theorem env_open217 : env.open_ 217 = false := id rfl
@[simp] theorem env_ext217 : env.ext 217 = none := id rfl
@[simp] theorem env_open218 : env.open_ 218 = false := id rfl
@[simp] theorem env_ext218 : env.ext 218 = none := id rfl
@[simp] theorem env_open219 : env.open_ 219 = false := id rfl
@[simp] theorem env_ext219 : env.ext 219 = none := id rfl
@[simp] theorem env_open220 : env.open_ 220 = false := id rfl
@[simp] theorem env_ext220 : env.ext 220 = none := id rfl
@[simp] theorem env_open221 : env.open_ 221 = false := id rfl
@[simp] theorem env_ext221 : env.ext 221 = none := id rfl
@[simp] theorem env_open222 : env.open_ 222 = false := id rfl
@[simp] theorem env_ext222 : env.ext 222 = none := id rfl
@[simp] theorem env_open223 : env.open_ 223 = false := id rfl
@[simp] theorem env_ext223 : env.ext 223 = none := id rfl
@[simp] theorem env_open224 : env.open_ 224 = false := id rfl
@[simp] theorem env_ext224 : env.ext 224 = some cloneCF := id rfl
@[simp] theorem env_open225 : env.open_ 225 = false := id rfl
@[simp] theorem env_ext225 : env.ext 225 = none := id rfl
@[simp] theorem env_open226 : env.open_ 226 = false := id rfl
@[simp] theorem env_ext226 : env.ext 226 = none := id rfl
@[simp] theorem env_open227 : env.open_ 227 = false := id rfl
@[simp] theorem env_ext227 : env.ext 227 = some sortF := id rfl
@[simp] theorem env_open228 : env.open_ 228 = false := id rfl
@[simp] theorem env_ext228 : env.ext 228 = none := id rfl
@[simp] theorem env_open229 : env.open_ 229 = false := id rfl
@[simp] theorem env_ext229 : env.ext 229 = none := id rfl
@[simp] theorem env_open230 : env.open_ 230 = false := id rfl
@[simp] theorem env_ext230 : env.ext 230 = none := id rfl
@[simp] theorem env_open231 : env.open_ 231 = false := id rfl
@[simp] theorem env_ext231 : env.ext 231 = none := id rfl
@[simp] theorem env_open232 : env.open_ 232 = false := id rfl
@[simp] theorem env_ext232 : env.ext 232 = none := id rfl
@[simp] theorem env_open233 : env.open_ 233 = false := id rfl
@[simp] theorem env_ext233 : env.ext 233 = none := id rfl
@[simp] theorem env_open234 : env.open_ 234 = false := id rfl
@[simp] theorem env_ext234 : env.ext 234 = none := id rfl
@[simp] theorem env_open235 : env.open_ 235 = false := id rfl
@[simp] theorem env_ext235 : env.ext 235 = none := id rfl
@[simp] theorem env_open236 : env.open_ 236 = false := id rfl
@[simp] theorem env_ext236 : env.ext 236 = none := id rfl
@[simp] theorem env_open237 : env.open_ 237 = false := id rfl
@[simp] theorem env_ext237 : env.ext 237 = none := id rfl
@[simp] theorem env_open238 : env.open_ 238 = false := id rfl
@[simp] theorem env_ext238 : env.ext 238 = none := id rfl
@[simp] theorem env_open239 : env.open_ 239 = false := id rfl
@[simp] theorem env_ext239 : env.ext 239 = none := id rfl
@[simp] theorem env_open240 : env.open_ 240 = false := id rfl
@[simp] theorem env_ext240 : env.ext 240 = none := id rfl
@[simp] theorem env_open241 : env.open_ 241 = false := id rfl
@[simp] theorem env_ext241 : env.ext 241 = none := id rfl
@[simp] theorem env_open242 : env.open_ 242 = true := id rfl
@[simp] theorem env_ext242 : env.ext 242 = none := id rfl
@[simp] theorem env_open243 : env.open_ 243 = false := id rfl
@[simp] theorem env_ext243 : env.ext 243 = none := id rfl
@[simp] theorem env_open244 : env.open_ 244 = false := id rfl
@[simp] theorem env_ext244 : env.ext 244 = none := id rfl
@[simp] theorem env_open246 : env.open_ 246 = false := id rfl
@[simp] theorem env_ext246 : env.ext 246 = none := id rfl
@[simp] theorem env_open247 : env.open_ 247 = false := id rfl
@[simp] theorem env_ext247 : env.ext 247 = none := id rfl
@[simp] theorem env_open248 : env.open_ 248 = false := id rfl
@[simp] theorem env_ext248 : env.ext 248 = none := id rfl
@[simp] theorem env_open249 : env.open_ 249 = false := id rfl
@[simp] theorem env_ext249 : env.ext 249 = none := id rfl
@[simp] theorem env_open250 : env.open_ 250 = false := id rfl
@[simp] theorem env_ext250 : env.ext 250 = none := id rfl
@[simp] theorem env_open251 : env.open_ 251 = false := id rfl
@[simp] theorem env_ext251 : env.ext 251 = none := id rfl
@[simp] theorem env_open252 : env.open_ 252 = false := id rfl
@[simp] theorem env_ext252 : env.ext 252 = none := id rfl
@[simp] theorem env_open253 : env.open_ 253 = false := id rfl
@[simp] theorem env_ext253 : env.ext 253 = none := id rfl
@[simp] theorem env_open254 : env.open_ 254 = false := id rfl
@[simp] theorem env_ext254 : env.ext 254 = none := id rfl
@[simp] theorem env_open255 : env.open_ 255 = false := id rfl
@[simp] theorem env_ext255 : env.ext 255 = none := id rfl
@[simp] theorem env_open256 : env.open_ 256 = false := id rfl
@[simp] theorem env_ext256 : env.ext 256 = none := id rfl
@[simp] theorem env_open258 : env.open_ 258 = false := id rfl
@[simp] theorem env_ext258 : env.ext 258 = none := id rfl
@[simp] theorem env_open259 : env.open_ 259 = false := id rfl
@[simp] theorem env_ext259 : env.ext 259 = none := id rfl
@[simp] theorem env_open260 : env.open_ 260 = false := id rfl
@[simp] theorem env_ext260 : env.ext 260 = none := id rfl
@[simp] theorem env_open261 : env.open_ 261 = false := id rfl
@[simp] theorem env_ext261 : env.ext 261 = none := id rfl
@[simp] theorem env_open262 : env.open_ 262 = false := id rfl
@[simp] theorem env_ext262 : env.ext 262 = none := id rfl
@[simp] theorem env_open267 : env.open_ 267 = false := id rfl
@[simp] theorem env_ext267 : env.ext 267 = none := id rfl
@[simp] theorem env_open268 : env.open_ 268 = false := id rfl
@[simp] theorem env_ext268 : env.ext 268 = none := id rfl
@[simp] theorem env_open269 : env.open_ 269 = false := id rfl
@[simp] theorem env_ext269 : env.ext 269 = none := id rfl
@[simp] theorem env_open270 : env.open_ 270 = false := id rfl
@[simp] theorem env_ext270 : env.ext 270 = none := id rfl
@[simp] theorem env_open271 : env.open_ 271 = false := id rfl
@[simp] theorem env_ext271 : env.ext 271 = none := id rfl
@[simp] theorem env_open272 : env.open_ 272 = false := id rfl
@[simp] theorem env_ext272 : env.ext 272 = none := id rfl
@[simp] theorem env_open273 : env.open_ 273 = false := id rfl
@[simp] theorem env_ext273 : env.ext 273 = none := id rfl
@[simp] theorem env_open274 : env.open_ 274 = false := id rfl
@[simp] theorem env_ext274 : env.ext 274 = none := id rfl
@[simp] theorem env_open275 : env.open_ 275 = false := id rfl
@[simp] theorem env_ext275 : env.ext 275 = none := id rfl
@[simp] theorem env_open276 : env.open_ 276 = false := id rfl
@[simp] theorem env_ext276 : env.ext 276 = none := id rfl
@[simp] theorem env_open280 : env.open_ 280 = false := id rfl
@[simp] theorem env_ext280 : env.ext 280 = none := id rfl
@[simp] theorem env_open281 : env.open_ 281 = false := id rfl
@[simp] theorem env_ext281 : env.ext 281 = none := id rfl
@[simp] theorem env_open283 : env.open_ 283 = false := id rfl
@[simp] theorem env_ext283 : env.ext 283 = none := id rfl
@[simp] theorem env_open284 : env.open_ 284 = false := id rfl
@[simp] theorem env_ext284 : env.ext 284 = none := id rfl
@[simp] theorem env_open285 : env.open_ 285 = false := id rfl
@[simp] theorem env_ext285 : env.ext 285 = none := id rfl
@[simp] theorem env_open301 : env.open_ 301 = false := id rfl
@[simp] theorem env_ext301 : env.ext 301 = none := id rfl
@[simp] theorem env_open303 : env.open_ 303 = false := id rfl
@[simp] theorem env_ext303 : env.ext 303 = none := id rfl
@[simp] theorem env_open304 : env.open_ 304 = false := id rfl
@[simp] theorem env_ext304 : env.ext 304 = none := id rfl
@[simp] theorem env_open305 : env.open_ 305 = false := id rfl
@[simp] theorem env_ext305 : env.ext 305 = none := id rfl
@[simp] theorem env_open306 : env.open_ 306 = false := id rfl
@[simp] theorem env_ext306 : env.ext 306 = none := id rfl
@[simp] theorem env_open307 : env.open_ 307 = false := id rfl
@[simp] theorem env_ext307 : env.ext 307 = none := id rfl
theorem info2 : (Tryz.prog.info? 2).map (fun i => (i.size, i.bytes, i.zero)) = some (1, 8, some (.int .i64 0)) := by kernel_rfl
theorem info3 : (Tryz.prog.info? 3).map (fun i => (i.size, i.bytes, i.zero)) = some (1, 8, some (.int .i64 0)) := by kernel_rfl
theorem info4 : (Tryz.prog.info? 4).map (fun i => (i.size, i.bytes, i.zero)) = some (1, 1, some (.bool false)) := by kernel_rfl
theorem info5 : (Tryz.prog.info? 5).map (fun i => (i.size, i.bytes, i.zero)) = some (1, 1, some (.int .u8 0)) := by kernel_rfl
theorem info9 : (Tryz.prog.info? 9).map (fun i => (i.size, i.bytes, i.zero)) = some (1, 16, some (.string ⟨#[]⟩)) := by kernel_rfl
theorem info12 : (Tryz.prog.info? 12).map (fun i => (i.size, i.bytes, i.zero)) = some (1, 8, some (.int .u64 0)) := by kernel_rfl
theorem info21 : (Tryz.prog.info? 21).map (fun i => (i.size, i.bytes, i.zero)) = some (1, 4, some (.int .i32 0)) := by kernel_rfl
theorem info22 : (Tryz.prog.info? 22).map (fun i => (i.size, i.bytes, i.zero)) = some (1, 24, some (.slice none 0 0)) := by kernel_rfl
theorem info24 : (Tryz.prog.info? 24).map (fun i => (i.size, i.bytes, i.zero)) = some (1, 24, some (.slice none 0 0)) := by kernel_rfl
theorem info25 : (Tryz.prog.info? 25).map (fun i => (i.size, i.bytes, i.zero)) = some (2, 32, some (.agg #[(.int .i64 0), (.slice none 0 0)])) := by kernel_rfl
theorem info26 : (Tryz.prog.info? 26).map (fun i => (i.size, i.bytes, i.zero)) = some (2, 32, some (.agg #[(.int .i64 0), (.slice none 0 0)])) := by kernel_rfl
theorem info37 : (Tryz.prog.info? 37).map (fun i => (i.size, i.bytes, i.zero)) = some (1, 8, some (.int .u64 0)) := by kernel_rfl
theorem info48 : (Tryz.prog.info? 48).map (fun i => (i.size, i.bytes, i.zero)) = some (1, 24, some (.slice none 0 0)) := by kernel_rfl
theorem info49 : (Tryz.prog.info? 49).map (fun i => (i.size, i.bytes, i.zero)) = some (1, 24, some (.slice none 0 0)) := by kernel_rfl
theorem info50 : (Tryz.prog.info? 50).map (fun i => (i.size, i.bytes, i.zero)) = some (4, 80, some (.agg #[(.slice none 0 0), (.slice none 0 0), (.int .i64 0), (.slice none 0 0)])) := by kernel_rfl
theorem info51 : (Tryz.prog.info? 51).map (fun i => (i.size, i.bytes, i.zero)) = some (4, 80, some (.agg #[(.slice none 0 0), (.slice none 0 0), (.int .i64 0), (.slice none 0 0)])) := by kernel_rfl
theorem info58 : (Tryz.prog.info? 58).map (fun i => (i.size, i.bytes, i.zero)) = some (2, 16, some (.agg #[(.int .i64 0), (.int .i64 0)])) := by kernel_rfl
theorem info59 : (Tryz.prog.info? 59).map (fun i => (i.size, i.bytes, i.zero)) = some (2, 16, some (.agg #[(.int .i64 0), (.int .i64 0)])) := by kernel_rfl
theorem info60 : (Tryz.prog.info? 60).map (fun i => (i.size, i.bytes, i.zero)) = some (4, 32, some (.agg #[(.int .i64 0), (.int .i64 0), (.bool false), (.int .i64 0)])) := by kernel_rfl
theorem info61 : (Tryz.prog.info? 61).map (fun i => (i.size, i.bytes, i.zero)) = some (4, 32, some (.agg #[(.int .i64 0), (.int .i64 0), (.bool false), (.int .i64 0)])) := by kernel_rfl
theorem info71 : (Tryz.prog.info? 71).map (fun i => (i.size, i.bytes, i.zero)) = some (2, 32, some (.agg #[(.int .i64 0), (.slice none 0 0)])) := by kernel_rfl
theorem info79 : (Tryz.prog.info? 79).map (fun i => (i.size, i.bytes, i.zero)) = some (1, 24, some (.slice none 0 0)) := by kernel_rfl
theorem info94 : (Tryz.prog.info? 94).map (fun i => (i.size, i.bytes, i.zero)) = some (1, 24, some (.slice none 0 0)) := by kernel_rfl
theorem info100 : (Tryz.prog.info? 100).map (fun i => (i.size, i.bytes, i.zero)) = some (2, 16, some (.agg #[(.int .i64 0), (.int .i64 0)])) := by kernel_rfl
theorem info101 : (Tryz.prog.info? 101).map (fun i => (i.size, i.bytes, i.zero)) = some (2, 16, some (.agg #[(.int .i64 0), (.int .i64 0)])) := by kernel_rfl
theorem info138 : (Tryz.prog.info? 138).map (fun i => (i.size, i.bytes, i.zero)) = some (3, 40, some (.agg #[(.slice none 0 0), (.int .i64 0), (.int .i64 0)])) := by kernel_rfl
theorem info139 : (Tryz.prog.info? 139).map (fun i => (i.size, i.bytes, i.zero)) = some (3, 40, some (.agg #[(.slice none 0 0), (.int .i64 0), (.int .i64 0)])) := by kernel_rfl
theorem info140 : (Tryz.prog.info? 140).map (fun i => (i.size, i.bytes, i.zero)) = some (1, 24, some (.slice none 0 0)) := by kernel_rfl
theorem info164 : (Tryz.prog.info? 164).map (fun i => (i.size, i.bytes, i.zero)) = some (1, 4, some (.int .u32 0)) := by kernel_rfl
theorem info166 : (Tryz.prog.info? 166).map (fun i => (i.size, i.bytes, i.zero)) = some (1, 8, some (.int .u64 0)) := by kernel_rfl
theorem info171 : (Tryz.prog.info? 171).map (fun i => (i.size, i.bytes, i.zero)) = some (32, 32, some (.agg #[(.int .u8 0), (.int .u8 0), (.int .u8 0), (.int .u8 0), (.int .u8 0), (.int .u8 0), (.int .u8 0), (.int .u8 0), (.int .u8 0), (.int .u8 0), (.int .u8 0), (.int .u8 0), (.int .u8 0), (.int .u8 0), (.int .u8 0), (.int .u8 0), (.int .u8 0), (.int .u8 0), (.int .u8 0), (.int .u8 0), (.int .u8 0), (.int .u8 0), (.int .u8 0), (.int .u8 0), (.int .u8 0), (.int .u8 0), (.int .u8 0), (.int .u8 0), (.int .u8 0), (.int .u8 0), (.int .u8 0), (.int .u8 0)])) := by kernel_rfl
theorem info172 : (Tryz.prog.info? 172).map (fun i => (i.size, i.bytes, i.zero)) = some (64, 64, some (.agg #[(.int .u8 0), (.int .u8 0), (.int .u8 0), (.int .u8 0), (.int .u8 0), (.int .u8 0), (.int .u8 0), (.int .u8 0), (.int .u8 0), (.int .u8 0), (.int .u8 0), (.int .u8 0), (.int .u8 0), (.int .u8 0), (.int .u8 0), (.int .u8 0), (.int .u8 0), (.int .u8 0), (.int .u8 0), (.int .u8 0), (.int .u8 0), (.int .u8 0), (.int .u8 0), (.int .u8 0), (.int .u8 0), (.int .u8 0), (.int .u8 0), (.int .u8 0), (.int .u8 0), (.int .u8 0), (.int .u8 0), (.int .u8 0), (.int .u8 0), (.int .u8 0), (.int .u8 0), (.int .u8 0), (.int .u8 0), (.int .u8 0), (.int .u8 0), (.int .u8 0), (.int .u8 0), (.int .u8 0), (.int .u8 0), (.int .u8 0), (.int .u8 0), (.int .u8 0), (.int .u8 0), (.int .u8 0), (.int .u8 0), (.int .u8 0), (.int .u8 0), (.int .u8 0), (.int .u8 0), (.int .u8 0), (.int .u8 0), (.int .u8 0), (.int .u8 0), (.int .u8 0), (.int .u8 0), (.int .u8 0), (.int .u8 0), (.int .u8 0), (.int .u8 0), (.int .u8 0)])) := by kernel_rfl
theorem info173 : (Tryz.prog.info? 173).map (fun i => (i.size, i.bytes, i.zero)) = some (24, 24, some (.agg #[(.int .u8 0), (.int .u8 0), (.int .u8 0), (.int .u8 0), (.int .u8 0), (.int .u8 0), (.int .u8 0), (.int .u8 0), (.int .u8 0), (.int .u8 0), (.int .u8 0), (.int .u8 0), (.int .u8 0), (.int .u8 0), (.int .u8 0), (.int .u8 0), (.int .u8 0), (.int .u8 0), (.int .u8 0), (.int .u8 0), (.int .u8 0), (.int .u8 0), (.int .u8 0), (.int .u8 0)])) := by kernel_rfl
theorem info178 : (Tryz.prog.info? 178).map (fun i => (i.size, i.bytes, i.zero)) = some (1, 8, some (.int .i64 0)) := by kernel_rfl
theorem info184 : (Tryz.prog.info? 184).map (fun i => (i.size, i.bytes, i.zero)) = some (20, 160, some (.agg #[(.int .u64 0), (.int .u64 0), (.int .u64 0), (.int .u64 0), (.int .u64 0), (.int .u64 0), (.int .u64 0), (.int .u64 0), (.int .u64 0), (.int .u64 0), (.int .u64 0), (.int .u64 0), (.int .u64 0), (.int .u64 0), (.int .u64 0), (.int .u64 0), (.int .u64 0), (.int .u64 0), (.int .u64 0), (.int .u64 0)])) := by kernel_rfl
theorem info185 : (Tryz.prog.info? 185).map (fun i => (i.size, i.bytes, i.zero)) = some (65, 65, some (.agg #[(.int .u8 0), (.int .u8 0), (.int .u8 0), (.int .u8 0), (.int .u8 0), (.int .u8 0), (.int .u8 0), (.int .u8 0), (.int .u8 0), (.int .u8 0), (.int .u8 0), (.int .u8 0), (.int .u8 0), (.int .u8 0), (.int .u8 0), (.int .u8 0), (.int .u8 0), (.int .u8 0), (.int .u8 0), (.int .u8 0), (.int .u8 0), (.int .u8 0), (.int .u8 0), (.int .u8 0), (.int .u8 0), (.int .u8 0), (.int .u8 0), (.int .u8 0), (.int .u8 0), (.int .u8 0), (.int .u8 0), (.int .u8 0), (.int .u8 0), (.int .u8 0), (.int .u8 0), (.int .u8 0), (.int .u8 0), (.int .u8 0), (.int .u8 0), (.int .u8 0), (.int .u8 0), (.int .u8 0), (.int .u8 0), (.int .u8 0), (.int .u8 0), (.int .u8 0), (.int .u8 0), (.int .u8 0), (.int .u8 0), (.int .u8 0), (.int .u8 0), (.int .u8 0), (.int .u8 0), (.int .u8 0), (.int .u8 0), (.int .u8 0), (.int .u8 0), (.int .u8 0), (.int .u8 0), (.int .u8 0), (.int .u8 0), (.int .u8 0), (.int .u8 0), (.int .u8 0), (.int .u8 0)])) := by kernel_rfl
theorem info186 : (Tryz.prog.info? 186).map (fun i => (i.size, i.bytes, i.zero)) = some (1, 8, some (.int .u64 0)) := by kernel_rfl
theorem env_parts {t s b : Nat} {z : Value} {a : AV} (hi : (Tryz.prog.info? t).map (fun i => (i.size, i.bytes, i.zero)) = some (s, b, some z)) (hb : b ≤ 131072) (hz : ∀ c, VR a c z) (hl : a.cells.length = s) (ho : a.cells.all AV.one = true) :
    ∃ i z, Tryz.prog.info? t = some i ∧ i.size = s ∧ i.bytes ≤ 131072 ∧ i.zero = some z ∧ (∀ c, VR a c z) ∧ a.cells.length = s ∧ a.cells.all AV.one = true := by
  rw [Option.map_eq_some_iff] at hi
  obtain ⟨i, h1, h2⟩ := hi
  obtain ⟨rfl, h3⟩ := Prod.mk.inj h2
  obtain ⟨rfl, h4⟩ := Prod.mk.inj h3
  exact ⟨i, z, h1, rfl, hb, h4, hz, hl, ho⟩
theorem vr_nil (c : Cx) : VR (.sl 0 .lit []) c (.slice none 0 0) := by simp only [VR]; exact ⟨none, 0, rfl, Nat.le_refl _, Nat.zero_le _, fun _ => rfl, fun h => (h rfl).elim, rfl⟩
theorem vz_agg {c : Cx} {cs : List AV} {rc : List Value} (h : VRl cs c rc) : VR (.agg cs) c (.agg rc.toArray) := by simp only [VR]; exact ⟨_, rfl, h⟩
theorem vz_int {c : Cx} {k : IntKind} {n : Int} : VR (.int k n) c (.int k n) := by simp only [VR]
theorem vz_bool {c : Cx} {b : Bool} : VR (.bool b) c (.bool b) := by simp only [VR]
theorem vz_str {c : Cx} {s : ByteArray} : VR (.str s) c (.string s) := by simp only [VR]
theorem vz_nilf {c : Cx} : VR .nilf c .nilFunc := by simp only [VR]
theorem vz_nil {c : Cx} : VRl [] c [] := by simp only [VRl]
theorem vz_cons {c : Cx} {x : AV} {xs : List AV} {v : Value} {vs : List Value} (h : VR x c v) (t : VRl xs c vs) : VRl (x :: xs) c (v :: vs) := by simp only [VRl]; exact ⟨_, _, rfl, h, t⟩
set_option maxRecDepth 100000 in
theorem env_tys : ∀ t, envTy t ≠ .other → ∃ d, Tryz.prog.underlying t = some d ∧ TD.of d = envTy t := by
  intro t h
  unfold envTy at h ⊢
  split at h
  · exact ⟨_, Tryz.underlying1, rfl⟩
  · exact ⟨_, Tryz.underlying2, rfl⟩
  · exact ⟨_, Tryz.underlying3, rfl⟩
  · exact ⟨_, Tryz.underlying4, rfl⟩
  · exact ⟨_, Tryz.underlying5, rfl⟩
  · exact ⟨_, Tryz.underlying9, rfl⟩
  · exact ⟨_, Tryz.underlying12, rfl⟩
  · exact ⟨_, Tryz.underlying21, rfl⟩
  · exact ⟨_, Tryz.underlying22, rfl⟩
  · exact ⟨_, Tryz.underlying23, rfl⟩
  · exact ⟨_, Tryz.underlying24, rfl⟩
  · exact ⟨_, Tryz.underlying25, rfl⟩
  · exact ⟨_, Tryz.underlying26, rfl⟩
  · exact ⟨_, Tryz.underlying27, rfl⟩
  · exact ⟨_, Tryz.underlying28, rfl⟩
  · exact ⟨_, Tryz.underlying30, rfl⟩
  · exact ⟨_, Tryz.underlying31, rfl⟩
  · exact ⟨_, Tryz.underlying32, rfl⟩
  · exact ⟨_, Tryz.underlying33, rfl⟩
  · exact ⟨_, Tryz.underlying34, rfl⟩
  · exact ⟨_, Tryz.underlying36, rfl⟩
  · exact ⟨_, Tryz.underlying37, rfl⟩
  · exact ⟨_, Tryz.underlying39, rfl⟩
  · exact ⟨_, Tryz.underlying40, rfl⟩
  · exact ⟨_, Tryz.underlying41, rfl⟩
  · exact ⟨_, Tryz.underlying43, rfl⟩
  · exact ⟨_, Tryz.underlying44, rfl⟩
  · exact ⟨_, Tryz.underlying45, rfl⟩
  · exact ⟨_, Tryz.underlying47, rfl⟩
  · exact ⟨_, Tryz.underlying48, rfl⟩
  · exact ⟨_, Tryz.underlying49, rfl⟩
  · exact ⟨_, Tryz.underlying50, rfl⟩
  · exact ⟨_, Tryz.underlying51, rfl⟩
  · exact ⟨_, Tryz.underlying53, rfl⟩
  · exact ⟨_, Tryz.underlying55, rfl⟩
  · exact ⟨_, Tryz.underlying57, rfl⟩
  · exact ⟨_, Tryz.underlying58, rfl⟩
  · exact ⟨_, Tryz.underlying59, rfl⟩
  · exact ⟨_, Tryz.underlying60, rfl⟩
  · exact ⟨_, Tryz.underlying61, rfl⟩
  · exact ⟨_, Tryz.underlying62, rfl⟩
  · exact ⟨_, Tryz.underlying63, rfl⟩
  · exact ⟨_, Tryz.underlying64, rfl⟩
  · exact ⟨_, Tryz.underlying65, rfl⟩
  · exact ⟨_, Tryz.underlying66, rfl⟩
  · exact ⟨_, Tryz.underlying67, rfl⟩
  · exact ⟨_, Tryz.underlying68, rfl⟩
  · exact ⟨_, Tryz.underlying69, rfl⟩
  · exact ⟨_, Tryz.underlying70, rfl⟩
  · exact ⟨_, Tryz.underlying71, rfl⟩
  · exact ⟨_, Tryz.underlying72, rfl⟩
  · exact ⟨_, Tryz.underlying73, rfl⟩
  · exact ⟨_, Tryz.underlying74, rfl⟩
  · exact ⟨_, Tryz.underlying75, rfl⟩
  · exact ⟨_, Tryz.underlying76, rfl⟩
  · exact ⟨_, Tryz.underlying77, rfl⟩
  · exact ⟨_, Tryz.underlying78, rfl⟩
  · exact ⟨_, Tryz.underlying79, rfl⟩
  · exact ⟨_, Tryz.underlying80, rfl⟩
  · exact ⟨_, Tryz.underlying82, rfl⟩
  · exact ⟨_, Tryz.underlying83, rfl⟩
  · exact ⟨_, Tryz.underlying85, rfl⟩
  · exact ⟨_, Tryz.underlying87, rfl⟩
  · exact ⟨_, Tryz.underlying88, rfl⟩
  · exact ⟨_, Tryz.underlying89, rfl⟩
  · exact ⟨_, Tryz.underlying90, rfl⟩
  · exact ⟨_, Tryz.underlying91, rfl⟩
  · exact ⟨_, Tryz.underlying92, rfl⟩
  · exact ⟨_, Tryz.underlying93, rfl⟩
  · exact ⟨_, Tryz.underlying94, rfl⟩
  · exact ⟨_, Tryz.underlying95, rfl⟩
  · exact ⟨_, Tryz.underlying96, rfl⟩
  · exact ⟨_, Tryz.underlying97, rfl⟩
  · exact ⟨_, Tryz.underlying98, rfl⟩
  · exact ⟨_, Tryz.underlying99, rfl⟩
  · exact ⟨_, Tryz.underlying100, rfl⟩
  · exact ⟨_, Tryz.underlying101, rfl⟩
  · exact ⟨_, Tryz.underlying102, rfl⟩
  · exact ⟨_, Tryz.underlying103, rfl⟩
  · exact ⟨_, Tryz.underlying104, rfl⟩
  · exact ⟨_, Tryz.underlying105, rfl⟩
  · exact ⟨_, Tryz.underlying106, rfl⟩
  · exact ⟨_, Tryz.underlying107, rfl⟩
  · exact ⟨_, Tryz.underlying108, rfl⟩
  · exact ⟨_, Tryz.underlying110, rfl⟩
  · exact ⟨_, Tryz.underlying111, rfl⟩
  · exact ⟨_, Tryz.underlying112, rfl⟩
  · exact ⟨_, Tryz.underlying113, rfl⟩
  · exact ⟨_, Tryz.underlying114, rfl⟩
  · exact ⟨_, Tryz.underlying115, rfl⟩
  · exact ⟨_, Tryz.underlying116, rfl⟩
  · exact ⟨_, Tryz.underlying117, rfl⟩
  · exact ⟨_, Tryz.underlying118, rfl⟩
  · exact ⟨_, Tryz.underlying119, rfl⟩
  · exact ⟨_, Tryz.underlying121, rfl⟩
  · exact ⟨_, Tryz.underlying122, rfl⟩
  · exact ⟨_, Tryz.underlying123, rfl⟩
  · exact ⟨_, Tryz.underlying124, rfl⟩
  · exact ⟨_, Tryz.underlying125, rfl⟩
  · exact ⟨_, Tryz.underlying126, rfl⟩
  · exact ⟨_, Tryz.underlying127, rfl⟩
  · exact ⟨_, Tryz.underlying128, rfl⟩
  · exact ⟨_, Tryz.underlying129, rfl⟩
  · exact ⟨_, Tryz.underlying130, rfl⟩
  · exact ⟨_, Tryz.underlying131, rfl⟩
  · exact ⟨_, Tryz.underlying132, rfl⟩
  · exact ⟨_, Tryz.underlying133, rfl⟩
  · exact ⟨_, Tryz.underlying134, rfl⟩
  · exact ⟨_, Tryz.underlying135, rfl⟩
  · exact ⟨_, Tryz.underlying136, rfl⟩
  · exact ⟨_, Tryz.underlying137, rfl⟩
  · exact ⟨_, Tryz.underlying138, rfl⟩
  · exact ⟨_, Tryz.underlying139, rfl⟩
  · exact ⟨_, Tryz.underlying140, rfl⟩
  · exact ⟨_, Tryz.underlying142, rfl⟩
  · exact ⟨_, Tryz.underlying143, rfl⟩
  · exact ⟨_, Tryz.underlying144, rfl⟩
  · exact ⟨_, Tryz.underlying145, rfl⟩
  · exact ⟨_, Tryz.underlying146, rfl⟩
  · exact ⟨_, Tryz.underlying147, rfl⟩
  · exact ⟨_, Tryz.underlying148, rfl⟩
  · exact ⟨_, Tryz.underlying149, rfl⟩
  · exact ⟨_, Tryz.underlying150, rfl⟩
  · exact ⟨_, Tryz.underlying151, rfl⟩
  · exact ⟨_, Tryz.underlying152, rfl⟩
  · exact ⟨_, Tryz.underlying153, rfl⟩
  · exact ⟨_, Tryz.underlying154, rfl⟩
  · exact ⟨_, Tryz.underlying155, rfl⟩
  · exact ⟨_, Tryz.underlying156, rfl⟩
  · exact ⟨_, Tryz.underlying157, rfl⟩
  · exact ⟨_, Tryz.underlying158, rfl⟩
  · exact ⟨_, Tryz.underlying159, rfl⟩
  · exact ⟨_, Tryz.underlying160, rfl⟩
  · exact ⟨_, Tryz.underlying161, rfl⟩
  · exact ⟨_, Tryz.underlying162, rfl⟩
  · exact ⟨_, Tryz.underlying163, rfl⟩
  · exact ⟨_, Tryz.underlying164, rfl⟩
  · exact ⟨_, Tryz.underlying165, rfl⟩
  · exact ⟨_, Tryz.underlying166, rfl⟩
  · exact ⟨_, Tryz.underlying167, rfl⟩
  · exact ⟨_, Tryz.underlying168, rfl⟩
  · exact ⟨_, Tryz.underlying169, rfl⟩
  · exact ⟨_, Tryz.underlying170, rfl⟩
  · exact ⟨_, Tryz.underlying171, rfl⟩
  · exact ⟨_, Tryz.underlying172, rfl⟩
  · exact ⟨_, Tryz.underlying173, rfl⟩
  · exact ⟨_, Tryz.underlying174, rfl⟩
  · exact ⟨_, Tryz.underlying176, rfl⟩
  · exact ⟨_, Tryz.underlying177, rfl⟩
  · exact ⟨_, Tryz.underlying178, rfl⟩
  · exact ⟨_, Tryz.underlying180, rfl⟩
  · exact ⟨_, Tryz.underlying181, rfl⟩
  · exact ⟨_, Tryz.underlying182, rfl⟩
  · exact ⟨_, Tryz.underlying183, rfl⟩
  · exact ⟨_, Tryz.underlying184, rfl⟩
  · exact ⟨_, Tryz.underlying185, rfl⟩
  · exact ⟨_, Tryz.underlying186, rfl⟩
  · exact ⟨_, Tryz.underlying187, rfl⟩
  · exact ⟨_, Tryz.underlying188, rfl⟩
  · exact ⟨_, Tryz.underlying189, rfl⟩
  · exact ⟨_, Tryz.underlying190, rfl⟩
  · exact ⟨_, Tryz.underlying191, rfl⟩
  · exact ⟨_, Tryz.underlying192, rfl⟩
  · exact ⟨_, Tryz.underlying193, rfl⟩
  · exact ⟨_, Tryz.underlying194, rfl⟩
  · exact ⟨_, Tryz.underlying200, rfl⟩
  · exact ⟨_, Tryz.underlying203, rfl⟩
  · exact ⟨_, Tryz.underlying204, rfl⟩
  · exact ⟨_, Tryz.underlying209, rfl⟩
  · exact (h rfl).elim
set_option maxRecDepth 100000 in
theorem env_sizes : ∀ t, envSize t ≠ 0 → ∃ i z, Tryz.prog.info? t = some i ∧ i.size = envSize t ∧ i.bytes ≤ 131072 ∧ i.zero = some z ∧ (∀ c, VR (envZero t) c z) ∧ (envZero t).cells.length = envSize t ∧ (envZero t).cells.all AV.one = true := by
  intro t h
  unfold envSize at h
  split at h
  · exact env_parts info2 (by decide) (fun c => vz_int) rfl rfl
  · exact env_parts info3 (by decide) (fun c => vz_int) rfl rfl
  · exact env_parts info4 (by decide) (fun c => vz_bool) rfl rfl
  · exact env_parts info5 (by decide) (fun c => vz_int) rfl rfl
  · exact env_parts info9 (by decide) (fun c => vz_str) rfl rfl
  · exact env_parts info12 (by decide) (fun c => vz_int) rfl rfl
  · exact env_parts info21 (by decide) (fun c => vz_int) rfl rfl
  · exact env_parts info22 (by decide) (fun c => (vr_nil c)) rfl rfl
  · exact env_parts info24 (by decide) (fun c => (vr_nil c)) rfl rfl
  · exact env_parts info25 (by decide) (fun c => (vz_agg (vz_cons vz_int (vz_cons (vr_nil c) vz_nil)))) rfl rfl
  · exact env_parts info26 (by decide) (fun c => (vz_agg (vz_cons vz_int (vz_cons (vr_nil c) vz_nil)))) rfl rfl
  · exact env_parts info37 (by decide) (fun c => vz_int) rfl rfl
  · exact env_parts info48 (by decide) (fun c => (vr_nil c)) rfl rfl
  · exact env_parts info49 (by decide) (fun c => (vr_nil c)) rfl rfl
  · exact env_parts info50 (by decide) (fun c => (vz_agg (vz_cons (vr_nil c) (vz_cons (vr_nil c) (vz_cons vz_int (vz_cons (vr_nil c) vz_nil)))))) rfl rfl
  · exact env_parts info51 (by decide) (fun c => (vz_agg (vz_cons (vr_nil c) (vz_cons (vr_nil c) (vz_cons vz_int (vz_cons (vr_nil c) vz_nil)))))) rfl rfl
  · exact env_parts info58 (by decide) (fun c => (vz_agg (vz_cons vz_int (vz_cons vz_int vz_nil)))) rfl rfl
  · exact env_parts info59 (by decide) (fun c => (vz_agg (vz_cons vz_int (vz_cons vz_int vz_nil)))) rfl rfl
  · exact env_parts info60 (by decide) (fun c => (vz_agg (vz_cons vz_int (vz_cons vz_int (vz_cons vz_bool (vz_cons vz_int vz_nil)))))) rfl rfl
  · exact env_parts info61 (by decide) (fun c => (vz_agg (vz_cons vz_int (vz_cons vz_int (vz_cons vz_bool (vz_cons vz_int vz_nil)))))) rfl rfl
  · exact env_parts info71 (by decide) (fun c => (vz_agg (vz_cons vz_int (vz_cons (vr_nil c) vz_nil)))) rfl rfl
  · exact env_parts info79 (by decide) (fun c => (vr_nil c)) rfl rfl
  · exact env_parts info94 (by decide) (fun c => (vr_nil c)) rfl rfl
  · exact env_parts info100 (by decide) (fun c => (vz_agg (vz_cons vz_int (vz_cons vz_int vz_nil)))) rfl rfl
  · exact env_parts info101 (by decide) (fun c => (vz_agg (vz_cons vz_int (vz_cons vz_int vz_nil)))) rfl rfl
  · exact env_parts info138 (by decide) (fun c => (vz_agg (vz_cons (vr_nil c) (vz_cons vz_int (vz_cons vz_int vz_nil))))) rfl rfl
  · exact env_parts info139 (by decide) (fun c => (vz_agg (vz_cons (vr_nil c) (vz_cons vz_int (vz_cons vz_int vz_nil))))) rfl rfl
  · exact env_parts info140 (by decide) (fun c => (vr_nil c)) rfl rfl
  · exact env_parts info164 (by decide) (fun c => vz_int) rfl rfl
  · exact env_parts info166 (by decide) (fun c => vz_int) rfl rfl
  · exact env_parts info171 (by decide) (fun c => (vz_agg (vz_cons vz_int (vz_cons vz_int (vz_cons vz_int (vz_cons vz_int (vz_cons vz_int (vz_cons vz_int (vz_cons vz_int (vz_cons vz_int (vz_cons vz_int (vz_cons vz_int (vz_cons vz_int (vz_cons vz_int (vz_cons vz_int (vz_cons vz_int (vz_cons vz_int (vz_cons vz_int (vz_cons vz_int (vz_cons vz_int (vz_cons vz_int (vz_cons vz_int (vz_cons vz_int (vz_cons vz_int (vz_cons vz_int (vz_cons vz_int (vz_cons vz_int (vz_cons vz_int (vz_cons vz_int (vz_cons vz_int (vz_cons vz_int (vz_cons vz_int (vz_cons vz_int (vz_cons vz_int vz_nil)))))))))))))))))))))))))))))))))) rfl rfl
  · exact env_parts info172 (by decide) (fun c => (vz_agg (vz_cons vz_int (vz_cons vz_int (vz_cons vz_int (vz_cons vz_int (vz_cons vz_int (vz_cons vz_int (vz_cons vz_int (vz_cons vz_int (vz_cons vz_int (vz_cons vz_int (vz_cons vz_int (vz_cons vz_int (vz_cons vz_int (vz_cons vz_int (vz_cons vz_int (vz_cons vz_int (vz_cons vz_int (vz_cons vz_int (vz_cons vz_int (vz_cons vz_int (vz_cons vz_int (vz_cons vz_int (vz_cons vz_int (vz_cons vz_int (vz_cons vz_int (vz_cons vz_int (vz_cons vz_int (vz_cons vz_int (vz_cons vz_int (vz_cons vz_int (vz_cons vz_int (vz_cons vz_int (vz_cons vz_int (vz_cons vz_int (vz_cons vz_int (vz_cons vz_int (vz_cons vz_int (vz_cons vz_int (vz_cons vz_int (vz_cons vz_int (vz_cons vz_int (vz_cons vz_int (vz_cons vz_int (vz_cons vz_int (vz_cons vz_int (vz_cons vz_int (vz_cons vz_int (vz_cons vz_int (vz_cons vz_int (vz_cons vz_int (vz_cons vz_int (vz_cons vz_int (vz_cons vz_int (vz_cons vz_int (vz_cons vz_int (vz_cons vz_int (vz_cons vz_int (vz_cons vz_int (vz_cons vz_int (vz_cons vz_int (vz_cons vz_int (vz_cons vz_int (vz_cons vz_int (vz_cons vz_int vz_nil)))))))))))))))))))))))))))))))))))))))))))))))))))))))))))))))))) rfl rfl
  · exact env_parts info173 (by decide) (fun c => (vz_agg (vz_cons vz_int (vz_cons vz_int (vz_cons vz_int (vz_cons vz_int (vz_cons vz_int (vz_cons vz_int (vz_cons vz_int (vz_cons vz_int (vz_cons vz_int (vz_cons vz_int (vz_cons vz_int (vz_cons vz_int (vz_cons vz_int (vz_cons vz_int (vz_cons vz_int (vz_cons vz_int (vz_cons vz_int (vz_cons vz_int (vz_cons vz_int (vz_cons vz_int (vz_cons vz_int (vz_cons vz_int (vz_cons vz_int (vz_cons vz_int vz_nil)))))))))))))))))))))))))) rfl rfl
  · exact env_parts info178 (by decide) (fun c => vz_int) rfl rfl
  · exact env_parts info184 (by decide) (fun c => (vz_agg (vz_cons vz_int (vz_cons vz_int (vz_cons vz_int (vz_cons vz_int (vz_cons vz_int (vz_cons vz_int (vz_cons vz_int (vz_cons vz_int (vz_cons vz_int (vz_cons vz_int (vz_cons vz_int (vz_cons vz_int (vz_cons vz_int (vz_cons vz_int (vz_cons vz_int (vz_cons vz_int (vz_cons vz_int (vz_cons vz_int (vz_cons vz_int (vz_cons vz_int vz_nil)))))))))))))))))))))) rfl rfl
  · exact env_parts info185 (by decide) (fun c => (vz_agg (vz_cons vz_int (vz_cons vz_int (vz_cons vz_int (vz_cons vz_int (vz_cons vz_int (vz_cons vz_int (vz_cons vz_int (vz_cons vz_int (vz_cons vz_int (vz_cons vz_int (vz_cons vz_int (vz_cons vz_int (vz_cons vz_int (vz_cons vz_int (vz_cons vz_int (vz_cons vz_int (vz_cons vz_int (vz_cons vz_int (vz_cons vz_int (vz_cons vz_int (vz_cons vz_int (vz_cons vz_int (vz_cons vz_int (vz_cons vz_int (vz_cons vz_int (vz_cons vz_int (vz_cons vz_int (vz_cons vz_int (vz_cons vz_int (vz_cons vz_int (vz_cons vz_int (vz_cons vz_int (vz_cons vz_int (vz_cons vz_int (vz_cons vz_int (vz_cons vz_int (vz_cons vz_int (vz_cons vz_int (vz_cons vz_int (vz_cons vz_int (vz_cons vz_int (vz_cons vz_int (vz_cons vz_int (vz_cons vz_int (vz_cons vz_int (vz_cons vz_int (vz_cons vz_int (vz_cons vz_int (vz_cons vz_int (vz_cons vz_int (vz_cons vz_int (vz_cons vz_int (vz_cons vz_int (vz_cons vz_int (vz_cons vz_int (vz_cons vz_int (vz_cons vz_int (vz_cons vz_int (vz_cons vz_int (vz_cons vz_int (vz_cons vz_int (vz_cons vz_int (vz_cons vz_int (vz_cons vz_int (vz_cons vz_int vz_nil))))))))))))))))))))))))))))))))))))))))))))))))))))))))))))))))))) rfl rfl
  · exact env_parts info186 (by decide) (fun c => vz_int) rfl rfl
  · exact (h rfl).elim
set_option maxRecDepth 100000 in
theorem env_fns0 : ∀ f F, envFn0 f = some F → Tryz.prog.funcs[f]? = some F ∧ F.name ≠ "runtime.NumGoroutine" := by
  intro f F h
  unfold envFn0 at h
  split at h
  · obtain rfl := Option.some.inj h; exact ⟨Tryz.func3, by simp [Tryz.f3]⟩
  · obtain rfl := Option.some.inj h; exact ⟨Tryz.func4, by simp [Tryz.f4]⟩
  · obtain rfl := Option.some.inj h; exact ⟨Tryz.func5, by simp [Tryz.f5]⟩
  · obtain rfl := Option.some.inj h; exact ⟨Tryz.func6, by simp [Tryz.f6]⟩
  · obtain rfl := Option.some.inj h; exact ⟨Tryz.func7, by simp [Tryz.f7]⟩
  · obtain rfl := Option.some.inj h; exact ⟨Tryz.func8, by simp [Tryz.f8]⟩
  · obtain rfl := Option.some.inj h; exact ⟨Tryz.func9, by simp [Tryz.f9]⟩
  · obtain rfl := Option.some.inj h; exact ⟨Tryz.func10, by simp [Tryz.f10]⟩
  · obtain rfl := Option.some.inj h; exact ⟨Tryz.func11, by simp [Tryz.f11]⟩
  · obtain rfl := Option.some.inj h; exact ⟨Tryz.func12, by simp [Tryz.f12]⟩
  · obtain rfl := Option.some.inj h; exact ⟨Tryz.func13, by simp [Tryz.f13]⟩
  · obtain rfl := Option.some.inj h; exact ⟨Tryz.func14, by simp [Tryz.f14]⟩
  · obtain rfl := Option.some.inj h; exact ⟨Tryz.func15, by simp [Tryz.f15]⟩
  · obtain rfl := Option.some.inj h; exact ⟨Tryz.func16, by simp [Tryz.f16]⟩
  · obtain rfl := Option.some.inj h; exact ⟨Tryz.func17, by simp [Tryz.f17]⟩
  · obtain rfl := Option.some.inj h; exact ⟨Tryz.func18, by simp [Tryz.f18]⟩
  · obtain rfl := Option.some.inj h; exact ⟨Tryz.func19, by simp [Tryz.f19]⟩
  · obtain rfl := Option.some.inj h; exact ⟨Tryz.func20, by simp [Tryz.f20]⟩
  · obtain rfl := Option.some.inj h; exact ⟨Tryz.func21, by simp [Tryz.f21]⟩
  · obtain rfl := Option.some.inj h; exact ⟨Tryz.func22, by simp [Tryz.f22]⟩
  · obtain rfl := Option.some.inj h; exact ⟨Tryz.func23, by simp [Tryz.f23]⟩
  · obtain rfl := Option.some.inj h; exact ⟨Tryz.func24, by simp [Tryz.f24]⟩
  · obtain rfl := Option.some.inj h; exact ⟨Tryz.func25, by simp [Tryz.f25]⟩
  · obtain rfl := Option.some.inj h; exact ⟨Tryz.func26, by simp [Tryz.f26]⟩
  · obtain rfl := Option.some.inj h; exact ⟨Tryz.func27, by simp [Tryz.f27]⟩
  · obtain rfl := Option.some.inj h; exact ⟨Tryz.func28, by simp [Tryz.f28]⟩
  · obtain rfl := Option.some.inj h; exact ⟨Tryz.func29, by simp [Tryz.f29]⟩
  · obtain rfl := Option.some.inj h; exact ⟨Tryz.func30, by simp [Tryz.f30]⟩
  · obtain rfl := Option.some.inj h; exact ⟨Tryz.func31, by simp [Tryz.f31]⟩
  · obtain rfl := Option.some.inj h; exact ⟨Tryz.func32, by simp [Tryz.f32]⟩
  · obtain rfl := Option.some.inj h; exact ⟨Tryz.func33, by simp [Tryz.f33]⟩
  · obtain rfl := Option.some.inj h; exact ⟨Tryz.func34, by simp [Tryz.f34]⟩
  · obtain rfl := Option.some.inj h; exact ⟨Tryz.func35, by simp [Tryz.f35]⟩
  · obtain rfl := Option.some.inj h; exact ⟨Tryz.func36, by simp [Tryz.f36]⟩
  · obtain rfl := Option.some.inj h; exact ⟨Tryz.func37, by simp [Tryz.f37]⟩
  · obtain rfl := Option.some.inj h; exact ⟨Tryz.func38, by simp [Tryz.f38]⟩
  · obtain rfl := Option.some.inj h; exact ⟨Tryz.func39, by simp [Tryz.f39]⟩
  · obtain rfl := Option.some.inj h; exact ⟨Tryz.func40, by simp [Tryz.f40]⟩
  · obtain rfl := Option.some.inj h; exact ⟨Tryz.func41, by simp [Tryz.f41]⟩
  · obtain rfl := Option.some.inj h; exact ⟨Tryz.func42, by simp [Tryz.f42]⟩
  · obtain rfl := Option.some.inj h; exact ⟨Tryz.func43, by simp [Tryz.f43]⟩
  · obtain rfl := Option.some.inj h; exact ⟨Tryz.func44, by simp [Tryz.f44]⟩
  · obtain rfl := Option.some.inj h; exact ⟨Tryz.func45, by simp [Tryz.f45]⟩
  · obtain rfl := Option.some.inj h; exact ⟨Tryz.func46, by simp [Tryz.f46]⟩
  · obtain rfl := Option.some.inj h; exact ⟨Tryz.func47, by simp [Tryz.f47]⟩
  · obtain rfl := Option.some.inj h; exact ⟨Tryz.func48, by simp [Tryz.f48]⟩
  · obtain rfl := Option.some.inj h; exact ⟨Tryz.func49, by simp [Tryz.f49]⟩
  · obtain rfl := Option.some.inj h; exact ⟨Tryz.func50, by simp [Tryz.f50]⟩
  · obtain rfl := Option.some.inj h; exact ⟨Tryz.func51, by simp [Tryz.f51]⟩
  · obtain rfl := Option.some.inj h; exact ⟨Tryz.func52, by simp [Tryz.f52]⟩
  · obtain rfl := Option.some.inj h; exact ⟨Tryz.func53, by simp [Tryz.f53]⟩
  · obtain rfl := Option.some.inj h; exact ⟨Tryz.func54, by simp [Tryz.f54]⟩
  · obtain rfl := Option.some.inj h; exact ⟨Tryz.func55, by simp [Tryz.f55]⟩
  · obtain rfl := Option.some.inj h; exact ⟨Tryz.func56, by simp [Tryz.f56]⟩
  · obtain rfl := Option.some.inj h; exact ⟨Tryz.func57, by simp [Tryz.f57]⟩
  · obtain rfl := Option.some.inj h; exact ⟨Tryz.func58, by simp [Tryz.f58]⟩
  · obtain rfl := Option.some.inj h; exact ⟨Tryz.func59, by simp [Tryz.f59]⟩
  · obtain rfl := Option.some.inj h; exact ⟨Tryz.func60, by simp [Tryz.f60]⟩
  · obtain rfl := Option.some.inj h; exact ⟨Tryz.func61, by simp [Tryz.f61]⟩
  · obtain rfl := Option.some.inj h; exact ⟨Tryz.func62, by simp [Tryz.f62]⟩
  · obtain rfl := Option.some.inj h; exact ⟨Tryz.func63, by simp [Tryz.f63]⟩
  · obtain rfl := Option.some.inj h; exact ⟨Tryz.func64, by simp [Tryz.f64]⟩
  · obtain rfl := Option.some.inj h; exact ⟨Tryz.func65, by simp [Tryz.f65]⟩
  · obtain rfl := Option.some.inj h; exact ⟨Tryz.func66, by simp [Tryz.f66]⟩
  · obtain rfl := Option.some.inj h; exact ⟨Tryz.func67, by simp [Tryz.f67]⟩
  · obtain rfl := Option.some.inj h; exact ⟨Tryz.func68, by simp [Tryz.f68]⟩
  · obtain rfl := Option.some.inj h; exact ⟨Tryz.func69, by simp [Tryz.f69]⟩
  · obtain rfl := Option.some.inj h; exact ⟨Tryz.func70, by simp [Tryz.f70]⟩
  · obtain rfl := Option.some.inj h; exact ⟨Tryz.func71, by simp [Tryz.f71]⟩
  · obtain rfl := Option.some.inj h; exact ⟨Tryz.func72, by simp [Tryz.f72]⟩
  · obtain rfl := Option.some.inj h; exact ⟨Tryz.func73, by simp [Tryz.f73]⟩
  · obtain rfl := Option.some.inj h; exact ⟨Tryz.func74, by simp [Tryz.f74]⟩
  · obtain rfl := Option.some.inj h; exact ⟨Tryz.func75, by simp [Tryz.f75]⟩
  · obtain rfl := Option.some.inj h; exact ⟨Tryz.func76, by simp [Tryz.f76]⟩
  · obtain rfl := Option.some.inj h; exact ⟨Tryz.func77, by simp [Tryz.f77]⟩
  · obtain rfl := Option.some.inj h; exact ⟨Tryz.func78, by simp [Tryz.f78]⟩
  · obtain rfl := Option.some.inj h; exact ⟨Tryz.func79, by simp [Tryz.f79]⟩
  · obtain rfl := Option.some.inj h; exact ⟨Tryz.func80, by simp [Tryz.f80]⟩
  · obtain rfl := Option.some.inj h; exact ⟨Tryz.func81, by simp [Tryz.f81]⟩
  · obtain rfl := Option.some.inj h; exact ⟨Tryz.func82, by simp [Tryz.f82]⟩
  · obtain rfl := Option.some.inj h; exact ⟨Tryz.func83, by simp [Tryz.f83]⟩
  · obtain rfl := Option.some.inj h; exact ⟨Tryz.func84, by simp [Tryz.f84]⟩
  · obtain rfl := Option.some.inj h; exact ⟨Tryz.func85, by simp [Tryz.f85]⟩
  · obtain rfl := Option.some.inj h; exact ⟨Tryz.func86, by simp [Tryz.f86]⟩
  · obtain rfl := Option.some.inj h; exact ⟨Tryz.func87, by simp [Tryz.f87]⟩
  · obtain rfl := Option.some.inj h; exact ⟨Tryz.func88, by simp [Tryz.f88]⟩
  · obtain rfl := Option.some.inj h; exact ⟨Tryz.func89, by simp [Tryz.f89]⟩
  · obtain rfl := Option.some.inj h; exact ⟨Tryz.func90, by simp [Tryz.f90]⟩
  · obtain rfl := Option.some.inj h; exact ⟨Tryz.func91, by simp [Tryz.f91]⟩
  · obtain rfl := Option.some.inj h; exact ⟨Tryz.func92, by simp [Tryz.f92]⟩
  · cases h
set_option maxRecDepth 100000 in
theorem env_fns1 : ∀ f F, envFn1 f = some F → Tryz.prog.funcs[f]? = some F ∧ F.name ≠ "runtime.NumGoroutine" := by
  intro f F h
  unfold envFn1 at h
  split at h
  · obtain rfl := Option.some.inj h; exact ⟨Tryz.func93, by simp [Tryz.f93]⟩
  · obtain rfl := Option.some.inj h; exact ⟨Tryz.func94, by simp [Tryz.f94]⟩
  · obtain rfl := Option.some.inj h; exact ⟨Tryz.func95, by simp [Tryz.f95]⟩
  · obtain rfl := Option.some.inj h; exact ⟨Tryz.func96, by simp [Tryz.f96]⟩
  · obtain rfl := Option.some.inj h; exact ⟨Tryz.func97, by simp [Tryz.f97]⟩
  · obtain rfl := Option.some.inj h; exact ⟨Tryz.func98, by simp [Tryz.f98]⟩
  · obtain rfl := Option.some.inj h; exact ⟨Tryz.func99, by simp [Tryz.f99]⟩
  · obtain rfl := Option.some.inj h; exact ⟨Tryz.func100, by simp [Tryz.f100]⟩
  · obtain rfl := Option.some.inj h; exact ⟨Tryz.func101, by simp [Tryz.f101]⟩
  · obtain rfl := Option.some.inj h; exact ⟨Tryz.func102, by simp [Tryz.f102]⟩
  · obtain rfl := Option.some.inj h; exact ⟨Tryz.func103, by simp [Tryz.f103]⟩
  · obtain rfl := Option.some.inj h; exact ⟨Tryz.func104, by simp [Tryz.f104]⟩
  · obtain rfl := Option.some.inj h; exact ⟨Tryz.func105, by simp [Tryz.f105]⟩
  · obtain rfl := Option.some.inj h; exact ⟨Tryz.func106, by simp [Tryz.f106]⟩
  · obtain rfl := Option.some.inj h; exact ⟨Tryz.func107, by simp [Tryz.f107]⟩
  · obtain rfl := Option.some.inj h; exact ⟨Tryz.func108, by simp [Tryz.f108]⟩
  · obtain rfl := Option.some.inj h; exact ⟨Tryz.func109, by simp [Tryz.f109]⟩
  · obtain rfl := Option.some.inj h; exact ⟨Tryz.func110, by simp [Tryz.f110]⟩
  · obtain rfl := Option.some.inj h; exact ⟨Tryz.func111, by simp [Tryz.f111]⟩
  · obtain rfl := Option.some.inj h; exact ⟨Tryz.func112, by simp [Tryz.f112]⟩
  · obtain rfl := Option.some.inj h; exact ⟨Tryz.func113, by simp [Tryz.f113]⟩
  · obtain rfl := Option.some.inj h; exact ⟨Tryz.func114, by simp [Tryz.f114]⟩
  · obtain rfl := Option.some.inj h; exact ⟨Tryz.func115, by simp [Tryz.f115]⟩
  · obtain rfl := Option.some.inj h; exact ⟨Tryz.func116, by simp [Tryz.f116]⟩
  · obtain rfl := Option.some.inj h; exact ⟨Tryz.func117, by simp [Tryz.f117]⟩
  · obtain rfl := Option.some.inj h; exact ⟨Tryz.func118, by simp [Tryz.f118]⟩
  · obtain rfl := Option.some.inj h; exact ⟨Tryz.func119, by simp [Tryz.f119]⟩
  · obtain rfl := Option.some.inj h; exact ⟨Tryz.func120, by simp [Tryz.f120]⟩
  · obtain rfl := Option.some.inj h; exact ⟨Tryz.func121, by simp [Tryz.f121]⟩
  · obtain rfl := Option.some.inj h; exact ⟨Tryz.func122, by simp [Tryz.f122]⟩
  · obtain rfl := Option.some.inj h; exact ⟨Tryz.func123, by simp [Tryz.f123]⟩
  · obtain rfl := Option.some.inj h; exact ⟨Tryz.func124, by simp [Tryz.f124]⟩
  · obtain rfl := Option.some.inj h; exact ⟨Tryz.func125, by simp [Tryz.f125]⟩
  · obtain rfl := Option.some.inj h; exact ⟨Tryz.func126, by simp [Tryz.f126]⟩
  · obtain rfl := Option.some.inj h; exact ⟨Tryz.func127, by simp [Tryz.f127]⟩
  · obtain rfl := Option.some.inj h; exact ⟨Tryz.func128, by simp [Tryz.f128]⟩
  · obtain rfl := Option.some.inj h; exact ⟨Tryz.func129, by simp [Tryz.f129]⟩
  · obtain rfl := Option.some.inj h; exact ⟨Tryz.func130, by simp [Tryz.f130]⟩
  · obtain rfl := Option.some.inj h; exact ⟨Tryz.func131, by simp [Tryz.f131]⟩
  · obtain rfl := Option.some.inj h; exact ⟨Tryz.func132, by simp [Tryz.f132]⟩
  · obtain rfl := Option.some.inj h; exact ⟨Tryz.func133, by simp [Tryz.f133]⟩
  · obtain rfl := Option.some.inj h; exact ⟨Tryz.func134, by simp [Tryz.f134]⟩
  · obtain rfl := Option.some.inj h; exact ⟨Tryz.func135, by simp [Tryz.f135]⟩
  · obtain rfl := Option.some.inj h; exact ⟨Tryz.func136, by simp [Tryz.f136]⟩
  · obtain rfl := Option.some.inj h; exact ⟨Tryz.func137, by simp [Tryz.f137]⟩
  · obtain rfl := Option.some.inj h; exact ⟨Tryz.func138, by simp [Tryz.f138]⟩
  · obtain rfl := Option.some.inj h; exact ⟨Tryz.func139, by simp [Tryz.f139]⟩
  · obtain rfl := Option.some.inj h; exact ⟨Tryz.func140, by simp [Tryz.f140]⟩
  · obtain rfl := Option.some.inj h; exact ⟨Tryz.func141, by simp [Tryz.f141]⟩
  · obtain rfl := Option.some.inj h; exact ⟨Tryz.func142, by simp [Tryz.f142]⟩
  · obtain rfl := Option.some.inj h; exact ⟨Tryz.func143, by simp [Tryz.f143]⟩
  · obtain rfl := Option.some.inj h; exact ⟨Tryz.func144, by simp [Tryz.f144]⟩
  · obtain rfl := Option.some.inj h; exact ⟨Tryz.func145, by simp [Tryz.f145]⟩
  · obtain rfl := Option.some.inj h; exact ⟨Tryz.func146, by simp [Tryz.f146]⟩
  · obtain rfl := Option.some.inj h; exact ⟨Tryz.func147, by simp [Tryz.f147]⟩
  · obtain rfl := Option.some.inj h; exact ⟨Tryz.func148, by simp [Tryz.f148]⟩
  · obtain rfl := Option.some.inj h; exact ⟨Tryz.func149, by simp [Tryz.f149]⟩
  · obtain rfl := Option.some.inj h; exact ⟨Tryz.func150, by simp [Tryz.f150]⟩
  · obtain rfl := Option.some.inj h; exact ⟨Tryz.func151, by simp [Tryz.f151]⟩
  · obtain rfl := Option.some.inj h; exact ⟨Tryz.func152, by simp [Tryz.f152]⟩
  · obtain rfl := Option.some.inj h; exact ⟨Tryz.func153, by simp [Tryz.f153]⟩
  · obtain rfl := Option.some.inj h; exact ⟨Tryz.func154, by simp [Tryz.f154]⟩
  · obtain rfl := Option.some.inj h; exact ⟨Tryz.func155, by simp [Tryz.f155]⟩
  · obtain rfl := Option.some.inj h; exact ⟨Tryz.func156, by simp [Tryz.f156]⟩
  · obtain rfl := Option.some.inj h; exact ⟨Tryz.func157, by simp [Tryz.f157]⟩
  · obtain rfl := Option.some.inj h; exact ⟨Tryz.func158, by simp [Tryz.f158]⟩
  · obtain rfl := Option.some.inj h; exact ⟨Tryz.func159, by simp [Tryz.f159]⟩
  · obtain rfl := Option.some.inj h; exact ⟨Tryz.func160, by simp [Tryz.f160]⟩
  · obtain rfl := Option.some.inj h; exact ⟨Tryz.func161, by simp [Tryz.f161]⟩
  · obtain rfl := Option.some.inj h; exact ⟨Tryz.func162, by simp [Tryz.f162]⟩
  · obtain rfl := Option.some.inj h; exact ⟨Tryz.func163, by simp [Tryz.f163]⟩
  · obtain rfl := Option.some.inj h; exact ⟨Tryz.func164, by simp [Tryz.f164]⟩
  · obtain rfl := Option.some.inj h; exact ⟨Tryz.func165, by simp [Tryz.f165]⟩
  · obtain rfl := Option.some.inj h; exact ⟨Tryz.func166, by simp [Tryz.f166]⟩
  · obtain rfl := Option.some.inj h; exact ⟨Tryz.func167, by simp [Tryz.f167]⟩
  · obtain rfl := Option.some.inj h; exact ⟨Tryz.func168, by simp [Tryz.f168]⟩
  · obtain rfl := Option.some.inj h; exact ⟨Tryz.func169, by simp [Tryz.f169]⟩
  · obtain rfl := Option.some.inj h; exact ⟨Tryz.func170, by simp [Tryz.f170]⟩
  · obtain rfl := Option.some.inj h; exact ⟨Tryz.func171, by simp [Tryz.f171]⟩
  · obtain rfl := Option.some.inj h; exact ⟨Tryz.func172, by simp [Tryz.f172]⟩
  · obtain rfl := Option.some.inj h; exact ⟨Tryz.func173, by simp [Tryz.f173]⟩
  · obtain rfl := Option.some.inj h; exact ⟨Tryz.func174, by simp [Tryz.f174]⟩
  · obtain rfl := Option.some.inj h; exact ⟨Tryz.func175, by simp [Tryz.f175]⟩
  · obtain rfl := Option.some.inj h; exact ⟨Tryz.func176, by simp [Tryz.f176]⟩
  · obtain rfl := Option.some.inj h; exact ⟨Tryz.func177, by simp [Tryz.f177]⟩
  · obtain rfl := Option.some.inj h; exact ⟨Tryz.func178, by simp [Tryz.f178]⟩
  · obtain rfl := Option.some.inj h; exact ⟨Tryz.func179, by simp [Tryz.f179]⟩
  · obtain rfl := Option.some.inj h; exact ⟨Tryz.func180, by simp [Tryz.f180]⟩
  · obtain rfl := Option.some.inj h; exact ⟨Tryz.func181, by simp [Tryz.f181]⟩
  · obtain rfl := Option.some.inj h; exact ⟨Tryz.func182, by simp [Tryz.f182]⟩
  · cases h
set_option maxRecDepth 100000 in
theorem env_fns2 : ∀ f F, envFn2 f = some F → Tryz.prog.funcs[f]? = some F ∧ F.name ≠ "runtime.NumGoroutine" := by
  intro f F h
  unfold envFn2 at h
  split at h
  · obtain rfl := Option.some.inj h; exact ⟨Tryz.func183, by simp [Tryz.f183]⟩
  · obtain rfl := Option.some.inj h; exact ⟨Tryz.func184, by simp [Tryz.f184]⟩
  · obtain rfl := Option.some.inj h; exact ⟨Tryz.func185, by simp [Tryz.f185]⟩
  · obtain rfl := Option.some.inj h; exact ⟨Tryz.func186, by simp [Tryz.f186]⟩
  · obtain rfl := Option.some.inj h; exact ⟨Tryz.func187, by simp [Tryz.f187]⟩
  · obtain rfl := Option.some.inj h; exact ⟨Tryz.func188, by simp [Tryz.f188]⟩
  · obtain rfl := Option.some.inj h; exact ⟨Tryz.func189, by simp [Tryz.f189]⟩
  · obtain rfl := Option.some.inj h; exact ⟨Tryz.func190, by simp [Tryz.f190]⟩
  · obtain rfl := Option.some.inj h; exact ⟨Tryz.func191, by simp [Tryz.f191]⟩
  · obtain rfl := Option.some.inj h; exact ⟨Tryz.func192, by simp [Tryz.f192]⟩
  · obtain rfl := Option.some.inj h; exact ⟨Tryz.func193, by simp [Tryz.f193]⟩
  · obtain rfl := Option.some.inj h; exact ⟨Tryz.func194, by simp [Tryz.f194]⟩
  · obtain rfl := Option.some.inj h; exact ⟨Tryz.func195, by simp [Tryz.f195]⟩
  · obtain rfl := Option.some.inj h; exact ⟨Tryz.func196, by simp [Tryz.f196]⟩
  · obtain rfl := Option.some.inj h; exact ⟨Tryz.func197, by simp [Tryz.f197]⟩
  · obtain rfl := Option.some.inj h; exact ⟨Tryz.func198, by simp [Tryz.f198]⟩
  · obtain rfl := Option.some.inj h; exact ⟨Tryz.func199, by simp [Tryz.f199]⟩
  · obtain rfl := Option.some.inj h; exact ⟨Tryz.func200, by simp [Tryz.f200]⟩
  · obtain rfl := Option.some.inj h; exact ⟨Tryz.func201, by simp [Tryz.f201]⟩
  · obtain rfl := Option.some.inj h; exact ⟨Tryz.func202, by simp [Tryz.f202]⟩
  · obtain rfl := Option.some.inj h; exact ⟨Tryz.func203, by simp [Tryz.f203]⟩
  · obtain rfl := Option.some.inj h; exact ⟨Tryz.func204, by simp [Tryz.f204]⟩
  · obtain rfl := Option.some.inj h; exact ⟨Tryz.func205, by simp [Tryz.f205]⟩
  · obtain rfl := Option.some.inj h; exact ⟨Tryz.func206, by simp [Tryz.f206]⟩
  · obtain rfl := Option.some.inj h; exact ⟨Tryz.func207, by simp [Tryz.f207]⟩
  · obtain rfl := Option.some.inj h; exact ⟨Tryz.func208, by simp [Tryz.f208]⟩
  · obtain rfl := Option.some.inj h; exact ⟨Tryz.func209, by simp [Tryz.f209]⟩
  · obtain rfl := Option.some.inj h; exact ⟨Tryz.func210, by simp [Tryz.f210]⟩
  · obtain rfl := Option.some.inj h; exact ⟨Tryz.func211, by simp [Tryz.f211]⟩
  · obtain rfl := Option.some.inj h; exact ⟨Tryz.func212, by simp [Tryz.f212]⟩
  · obtain rfl := Option.some.inj h; exact ⟨Tryz.func213, by simp [Tryz.f213]⟩
  · obtain rfl := Option.some.inj h; exact ⟨Tryz.func214, by simp [Tryz.f214]⟩
  · obtain rfl := Option.some.inj h; exact ⟨Tryz.func215, by simp [Tryz.f215]⟩
  · obtain rfl := Option.some.inj h; exact ⟨Tryz.func216, by simp [Tryz.f216]⟩
  · obtain rfl := Option.some.inj h; exact ⟨Tryz.func217, by simp [Tryz.f217]⟩
  · obtain rfl := Option.some.inj h; exact ⟨Tryz.func218, by simp [Tryz.f218]⟩
  · obtain rfl := Option.some.inj h; exact ⟨Tryz.func219, by simp [Tryz.f219]⟩
  · obtain rfl := Option.some.inj h; exact ⟨Tryz.func220, by simp [Tryz.f220]⟩
  · obtain rfl := Option.some.inj h; exact ⟨Tryz.func221, by simp [Tryz.f221]⟩
  · obtain rfl := Option.some.inj h; exact ⟨Tryz.func222, by simp [Tryz.f222]⟩
  · obtain rfl := Option.some.inj h; exact ⟨Tryz.func223, by simp [Tryz.f223]⟩
  · obtain rfl := Option.some.inj h; exact ⟨Tryz.func224, by simp [Tryz.f224]⟩
  · obtain rfl := Option.some.inj h; exact ⟨Tryz.func225, by simp [Tryz.f225]⟩
  · obtain rfl := Option.some.inj h; exact ⟨Tryz.func226, by simp [Tryz.f226]⟩
  · obtain rfl := Option.some.inj h; exact ⟨Tryz.func227, by simp [Tryz.f227]⟩
  · obtain rfl := Option.some.inj h; exact ⟨Tryz.func228, by simp [Tryz.f228]⟩
  · obtain rfl := Option.some.inj h; exact ⟨Tryz.func229, by simp [Tryz.f229]⟩
  · obtain rfl := Option.some.inj h; exact ⟨Tryz.func230, by simp [Tryz.f230]⟩
  · obtain rfl := Option.some.inj h; exact ⟨Tryz.func231, by simp [Tryz.f231]⟩
  · obtain rfl := Option.some.inj h; exact ⟨Tryz.func232, by simp [Tryz.f232]⟩
  · obtain rfl := Option.some.inj h; exact ⟨Tryz.func233, by simp [Tryz.f233]⟩
  · obtain rfl := Option.some.inj h; exact ⟨Tryz.func234, by simp [Tryz.f234]⟩
  · obtain rfl := Option.some.inj h; exact ⟨Tryz.func235, by simp [Tryz.f235]⟩
  · obtain rfl := Option.some.inj h; exact ⟨Tryz.func236, by simp [Tryz.f236]⟩
  · obtain rfl := Option.some.inj h; exact ⟨Tryz.func237, by simp [Tryz.f237]⟩
  · obtain rfl := Option.some.inj h; exact ⟨Tryz.func238, by simp [Tryz.f238]⟩
  · obtain rfl := Option.some.inj h; exact ⟨Tryz.func239, by simp [Tryz.f239]⟩
  · obtain rfl := Option.some.inj h; exact ⟨Tryz.func240, by simp [Tryz.f240]⟩
  · obtain rfl := Option.some.inj h; exact ⟨Tryz.func241, by simp [Tryz.f241]⟩
  · obtain rfl := Option.some.inj h; exact ⟨Tryz.func242, by simp [Tryz.f242]⟩
  · obtain rfl := Option.some.inj h; exact ⟨Tryz.func243, by simp [Tryz.f243]⟩
  · obtain rfl := Option.some.inj h; exact ⟨Tryz.func244, by simp [Tryz.f244]⟩
  · obtain rfl := Option.some.inj h; exact ⟨Tryz.func246, by simp [Tryz.f246]⟩
  · obtain rfl := Option.some.inj h; exact ⟨Tryz.func247, by simp [Tryz.f247]⟩
  · obtain rfl := Option.some.inj h; exact ⟨Tryz.func248, by simp [Tryz.f248]⟩
  · obtain rfl := Option.some.inj h; exact ⟨Tryz.func249, by simp [Tryz.f249]⟩
  · obtain rfl := Option.some.inj h; exact ⟨Tryz.func250, by simp [Tryz.f250]⟩
  · obtain rfl := Option.some.inj h; exact ⟨Tryz.func251, by simp [Tryz.f251]⟩
  · obtain rfl := Option.some.inj h; exact ⟨Tryz.func252, by simp [Tryz.f252]⟩
  · obtain rfl := Option.some.inj h; exact ⟨Tryz.func253, by simp [Tryz.f253]⟩
  · obtain rfl := Option.some.inj h; exact ⟨Tryz.func254, by simp [Tryz.f254]⟩
  · obtain rfl := Option.some.inj h; exact ⟨Tryz.func255, by simp [Tryz.f255]⟩
  · obtain rfl := Option.some.inj h; exact ⟨Tryz.func256, by simp [Tryz.f256]⟩
  · obtain rfl := Option.some.inj h; exact ⟨Tryz.func258, by simp [Tryz.f258]⟩
  · obtain rfl := Option.some.inj h; exact ⟨Tryz.func259, by simp [Tryz.f259]⟩
  · obtain rfl := Option.some.inj h; exact ⟨Tryz.func260, by simp [Tryz.f260]⟩
  · obtain rfl := Option.some.inj h; exact ⟨Tryz.func261, by simp [Tryz.f261]⟩
  · obtain rfl := Option.some.inj h; exact ⟨Tryz.func262, by simp [Tryz.f262]⟩
  · obtain rfl := Option.some.inj h; exact ⟨Tryz.func267, by simp [Tryz.f267]⟩
  · obtain rfl := Option.some.inj h; exact ⟨Tryz.func268, by simp [Tryz.f268]⟩
  · obtain rfl := Option.some.inj h; exact ⟨Tryz.func269, by simp [Tryz.f269]⟩
  · obtain rfl := Option.some.inj h; exact ⟨Tryz.func270, by simp [Tryz.f270]⟩
  · obtain rfl := Option.some.inj h; exact ⟨Tryz.func271, by simp [Tryz.f271]⟩
  · obtain rfl := Option.some.inj h; exact ⟨Tryz.func272, by simp [Tryz.f272]⟩
  · obtain rfl := Option.some.inj h; exact ⟨Tryz.func273, by simp [Tryz.f273]⟩
  · obtain rfl := Option.some.inj h; exact ⟨Tryz.func274, by simp [Tryz.f274]⟩
  · obtain rfl := Option.some.inj h; exact ⟨Tryz.func275, by simp [Tryz.f275]⟩
  · obtain rfl := Option.some.inj h; exact ⟨Tryz.func276, by simp [Tryz.f276]⟩
  · obtain rfl := Option.some.inj h; exact ⟨Tryz.func280, by simp [Tryz.f280]⟩
  · obtain rfl := Option.some.inj h; exact ⟨Tryz.func281, by simp [Tryz.f281]⟩
  · cases h
set_option maxRecDepth 100000 in
theorem env_fns3 : ∀ f F, envFn3 f = some F → Tryz.prog.funcs[f]? = some F ∧ F.name ≠ "runtime.NumGoroutine" := by
  intro f F h
  unfold envFn3 at h
  split at h
  · obtain rfl := Option.some.inj h; exact ⟨Tryz.func283, by simp [Tryz.f283]⟩
  · obtain rfl := Option.some.inj h; exact ⟨Tryz.func284, by simp [Tryz.f284]⟩
  · obtain rfl := Option.some.inj h; exact ⟨Tryz.func285, by simp [Tryz.f285]⟩
  · obtain rfl := Option.some.inj h; exact ⟨Tryz.func301, by simp [Tryz.f301]⟩
  · obtain rfl := Option.some.inj h; exact ⟨Tryz.func303, by simp [Tryz.f303]⟩
  · obtain rfl := Option.some.inj h; exact ⟨Tryz.func304, by simp [Tryz.f304]⟩
  · obtain rfl := Option.some.inj h; exact ⟨Tryz.func305, by simp [Tryz.f305]⟩
  · obtain rfl := Option.some.inj h; exact ⟨Tryz.func306, by simp [Tryz.f306]⟩
  · obtain rfl := Option.some.inj h; exact ⟨Tryz.func307, by simp [Tryz.f307]⟩
  · cases h
theorem env_fns : ∀ f F, envFn f = some F → Tryz.prog.funcs[f]? = some F ∧ F.name ≠ "runtime.NumGoroutine" := by
  intro f F h
  unfold envFn at h
  split at h
  · exact env_fns0 f F h
  split at h
  · exact env_fns1 f F h
  split at h
  · exact env_fns2 f F h
  exact env_fns3 f F h
theorem env_names {t : Nat} (h9 : (Tryz.prog.fieldsOf t).toList.all (fun f => decide (f.name ≠ "_")) = true) : ∀ f ∈ (Tryz.prog.fieldsOf t).toList, f.name ≠ "_" := fun f hf => of_decide_eq_true (List.all_eq_true.1 h9 f hf)
theorem env_cmps : ∀ t, envCmp t = true → Tryz.prog.stoodInHeld t = false ∧ Tryz.prog.eqGuardType Tryz.prog.depth t = false ∧ ∀ f ∈ (Tryz.prog.fieldsOf t).toList, f.name ≠ "_" := by
  intro t h
  unfold envCmp at h
  split at h
  · exact ⟨by kernel_rfl, by kernel_rfl, env_names (by kernel_rfl)⟩
  · exact ⟨by kernel_rfl, by kernel_rfl, env_names (by kernel_rfl)⟩
  · cases h
theorem env_ok : EnvOk env Tryz.prog := ⟨env_tys, env_sizes, env_cmps⟩
theorem prog_ok : ProgOk env Tryz.prog (laidT) := ⟨env_ok, env_fns, fun w w' h hb => laidT.keep h h.size hb, fun f F h => by
  unfold env envExt at h
  dsimp only at h
  split at h
  · obtain rfl := Option.some.inj h; exact ext_val rfl sortI_ok
  · obtain rfl := Option.some.inj h; exact ext_val rfl beforeI_ok
  · obtain rfl := Option.some.inj h; exact ext_val rfl cloneI_okI
  · obtain rfl := Option.some.inj h; exact ext_val rfl cloneC_ok
  · cases h⟩

end Go.Proofs.YtliecnadoklgoaaGreatDoor
