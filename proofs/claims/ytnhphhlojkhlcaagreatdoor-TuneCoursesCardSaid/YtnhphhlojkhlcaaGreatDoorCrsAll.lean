/- All runs together. Nothing is claimed here. -/
import Derived.Test.YtnhphhlojkhlcaaGreatDoorCrsOk
import Derived.Test.YtnhphhlojkhlcaaGreatDoorOfA
import Derived.Test.YtnhphhlojkhlcaaGreatDoorOfB0
import Derived.Test.YtnhphhlojkhlcaaGreatDoorOfB1
import Derived.Test.YtnhphhlojkhlcaaGreatDoorRelR0
import Derived.Test.YtnhphhlojkhlcaaGreatDoorRelR1
import Derived.Test.YtnhphhlojkhlcaaGreatDoorRelR2
import Derived.Test.YtnhphhlojkhlcaaGreatDoorRelR3
import Derived.Test.YtnhphhlojkhlcaaGreatDoorRelR4
import Derived.Test.YtnhphhlojkhlcaaGreatDoorRelR5
import Derived.Test.YtnhphhlojkhlcaaGreatDoorRelR6
import Derived.Test.YtnhphhlojkhlcaaGreatDoorRelR7
import Derived.Test.YtnhphhlojkhlcaaGreatDoorRelR8
import Derived.Test.YtnhphhlojkhlcaaGreatDoorRelR9
import Derived.Test.YtnhphhlojkhlcaaGreatDoorRelR10
import Derived.Test.YtnhphhlojkhlcaaGreatDoorRelR11
namespace Go.Proofs.YtnhphhlojkhlcaaGreatDoor
open Go Go.Sx Go.RowKit
theorem rels_0 (c : Nat) (h1 : 0 ≤ c) (h2 : c < 16) : relAt c = .ok := by
  have h : c = 0 ∨ c = 1 ∨ c = 2 ∨ c = 3 ∨ c = 4 ∨ c = 5 ∨ c = 6 ∨ c = 7 ∨ c = 8 ∨ c = 9 ∨ c = 10 ∨ c = 11 ∨ c = 12 ∨ c = 13 ∨ c = 14 ∨ c = 15 := by omega
  rcases h with rfl | rfl | rfl | rfl | rfl | rfl | rfl | rfl | rfl | rfl | rfl | rfl | rfl | rfl | rfl | rfl
  · exact rel0
  · exact rel1
  · exact rel2
  · exact rel3
  · exact rel4
  · exact rel5
  · exact rel6
  · exact rel7
  · exact rel8
  · exact rel9
  · exact rel10
  · exact rel11
  · exact rel12
  · exact rel13
  · exact rel14
  · exact rel15
theorem rels_1 (c : Nat) (h1 : 16 ≤ c) (h2 : c < 32) : relAt c = .ok := by
  have h : c = 16 ∨ c = 17 ∨ c = 18 ∨ c = 19 ∨ c = 20 ∨ c = 21 ∨ c = 22 ∨ c = 23 ∨ c = 24 ∨ c = 25 ∨ c = 26 ∨ c = 27 ∨ c = 28 ∨ c = 29 ∨ c = 30 ∨ c = 31 := by omega
  rcases h with rfl | rfl | rfl | rfl | rfl | rfl | rfl | rfl | rfl | rfl | rfl | rfl | rfl | rfl | rfl | rfl
  · exact rel16
  · exact rel17
  · exact rel18
  · exact rel19
  · exact rel20
  · exact rel21
  · exact rel22
  · exact rel23
  · exact rel24
  · exact rel25
  · exact rel26
  · exact rel27
  · exact rel28
  · exact rel29
  · exact rel30
  · exact rel31
theorem rels_2 (c : Nat) (h1 : 32 ≤ c) (h2 : c < 48) : relAt c = .ok := by
  have h : c = 32 ∨ c = 33 ∨ c = 34 ∨ c = 35 ∨ c = 36 ∨ c = 37 ∨ c = 38 ∨ c = 39 ∨ c = 40 ∨ c = 41 ∨ c = 42 ∨ c = 43 ∨ c = 44 ∨ c = 45 ∨ c = 46 ∨ c = 47 := by omega
  rcases h with rfl | rfl | rfl | rfl | rfl | rfl | rfl | rfl | rfl | rfl | rfl | rfl | rfl | rfl | rfl | rfl
  · exact rel32
  · exact rel33
  · exact rel34
  · exact rel35
  · exact rel36
  · exact rel37
  · exact rel38
  · exact rel39
  · exact rel40
  · exact rel41
  · exact rel42
  · exact rel43
  · exact rel44
  · exact rel45
  · exact rel46
  · exact rel47
theorem rels_3 (c : Nat) (h1 : 48 ≤ c) (h2 : c < 64) : relAt c = .ok := by
  have h : c = 48 ∨ c = 49 ∨ c = 50 ∨ c = 51 ∨ c = 52 ∨ c = 53 ∨ c = 54 ∨ c = 55 ∨ c = 56 ∨ c = 57 ∨ c = 58 ∨ c = 59 ∨ c = 60 ∨ c = 61 ∨ c = 62 ∨ c = 63 := by omega
  rcases h with rfl | rfl | rfl | rfl | rfl | rfl | rfl | rfl | rfl | rfl | rfl | rfl | rfl | rfl | rfl | rfl
  · exact rel48
  · exact rel49
  · exact rel50
  · exact rel51
  · exact rel52
  · exact rel53
  · exact rel54
  · exact rel55
  · exact rel56
  · exact rel57
  · exact rel58
  · exact rel59
  · exact rel60
  · exact rel61
  · exact rel62
  · exact rel63
theorem rels_4 (c : Nat) (h1 : 64 ≤ c) (h2 : c < 80) : relAt c = .ok := by
  have h : c = 64 ∨ c = 65 ∨ c = 66 ∨ c = 67 ∨ c = 68 ∨ c = 69 ∨ c = 70 ∨ c = 71 ∨ c = 72 ∨ c = 73 ∨ c = 74 ∨ c = 75 ∨ c = 76 ∨ c = 77 ∨ c = 78 ∨ c = 79 := by omega
  rcases h with rfl | rfl | rfl | rfl | rfl | rfl | rfl | rfl | rfl | rfl | rfl | rfl | rfl | rfl | rfl | rfl
  · exact rel64
  · exact rel65
  · exact rel66
  · exact rel67
  · exact rel68
  · exact rel69
  · exact rel70
  · exact rel71
  · exact rel72
  · exact rel73
  · exact rel74
  · exact rel75
  · exact rel76
  · exact rel77
  · exact rel78
  · exact rel79
theorem rels_5 (c : Nat) (h1 : 80 ≤ c) (h2 : c < 96) : relAt c = .ok := by
  have h : c = 80 ∨ c = 81 ∨ c = 82 ∨ c = 83 ∨ c = 84 ∨ c = 85 ∨ c = 86 ∨ c = 87 ∨ c = 88 ∨ c = 89 ∨ c = 90 ∨ c = 91 ∨ c = 92 ∨ c = 93 ∨ c = 94 ∨ c = 95 := by omega
  rcases h with rfl | rfl | rfl | rfl | rfl | rfl | rfl | rfl | rfl | rfl | rfl | rfl | rfl | rfl | rfl | rfl
  · exact rel80
  · exact rel81
  · exact rel82
  · exact rel83
  · exact rel84
  · exact rel85
  · exact rel86
  · exact rel87
  · exact rel88
  · exact rel89
  · exact rel90
  · exact rel91
  · exact rel92
  · exact rel93
  · exact rel94
  · exact rel95
theorem rels_6 (c : Nat) (h1 : 96 ≤ c) (h2 : c < 112) : relAt c = .ok := by
  have h : c = 96 ∨ c = 97 ∨ c = 98 ∨ c = 99 ∨ c = 100 ∨ c = 101 ∨ c = 102 ∨ c = 103 ∨ c = 104 ∨ c = 105 ∨ c = 106 ∨ c = 107 ∨ c = 108 ∨ c = 109 ∨ c = 110 ∨ c = 111 := by omega
  rcases h with rfl | rfl | rfl | rfl | rfl | rfl | rfl | rfl | rfl | rfl | rfl | rfl | rfl | rfl | rfl | rfl
  · exact rel96
  · exact rel97
  · exact rel98
  · exact rel99
  · exact rel100
  · exact rel101
  · exact rel102
  · exact rel103
  · exact rel104
  · exact rel105
  · exact rel106
  · exact rel107
  · exact rel108
  · exact rel109
  · exact rel110
  · exact rel111
theorem rels_7 (c : Nat) (h1 : 112 ≤ c) (h2 : c < 128) : relAt c = .ok := by
  have h : c = 112 ∨ c = 113 ∨ c = 114 ∨ c = 115 ∨ c = 116 ∨ c = 117 ∨ c = 118 ∨ c = 119 ∨ c = 120 ∨ c = 121 ∨ c = 122 ∨ c = 123 ∨ c = 124 ∨ c = 125 ∨ c = 126 ∨ c = 127 := by omega
  rcases h with rfl | rfl | rfl | rfl | rfl | rfl | rfl | rfl | rfl | rfl | rfl | rfl | rfl | rfl | rfl | rfl
  · exact rel112
  · exact rel113
  · exact rel114
  · exact rel115
  · exact rel116
  · exact rel117
  · exact rel118
  · exact rel119
  · exact rel120
  · exact rel121
  · exact rel122
  · exact rel123
  · exact rel124
  · exact rel125
  · exact rel126
  · exact rel127
theorem rels_8 (c : Nat) (h1 : 128 ≤ c) (h2 : c < 144) : relAt c = .ok := by
  have h : c = 128 ∨ c = 129 ∨ c = 130 ∨ c = 131 ∨ c = 132 ∨ c = 133 ∨ c = 134 ∨ c = 135 ∨ c = 136 ∨ c = 137 ∨ c = 138 ∨ c = 139 ∨ c = 140 ∨ c = 141 ∨ c = 142 ∨ c = 143 := by omega
  rcases h with rfl | rfl | rfl | rfl | rfl | rfl | rfl | rfl | rfl | rfl | rfl | rfl | rfl | rfl | rfl | rfl
  · exact rel128
  · exact rel129
  · exact rel130
  · exact rel131
  · exact rel132
  · exact rel133
  · exact rel134
  · exact rel135
  · exact rel136
  · exact rel137
  · exact rel138
  · exact rel139
  · exact rel140
  · exact rel141
  · exact rel142
  · exact rel143
theorem rels_9 (c : Nat) (h1 : 144 ≤ c) (h2 : c < 160) : relAt c = .ok := by
  have h : c = 144 ∨ c = 145 ∨ c = 146 ∨ c = 147 ∨ c = 148 ∨ c = 149 ∨ c = 150 ∨ c = 151 ∨ c = 152 ∨ c = 153 ∨ c = 154 ∨ c = 155 ∨ c = 156 ∨ c = 157 ∨ c = 158 ∨ c = 159 := by omega
  rcases h with rfl | rfl | rfl | rfl | rfl | rfl | rfl | rfl | rfl | rfl | rfl | rfl | rfl | rfl | rfl | rfl
  · exact rel144
  · exact rel145
  · exact rel146
  · exact rel147
  · exact rel148
  · exact rel149
  · exact rel150
  · exact rel151
  · exact rel152
  · exact rel153
  · exact rel154
  · exact rel155
  · exact rel156
  · exact rel157
  · exact rel158
  · exact rel159
theorem rels_10 (c : Nat) (h1 : 160 ≤ c) (h2 : c < 176) : relAt c = .ok := by
  have h : c = 160 ∨ c = 161 ∨ c = 162 ∨ c = 163 ∨ c = 164 ∨ c = 165 ∨ c = 166 ∨ c = 167 ∨ c = 168 ∨ c = 169 ∨ c = 170 ∨ c = 171 ∨ c = 172 ∨ c = 173 ∨ c = 174 ∨ c = 175 := by omega
  rcases h with rfl | rfl | rfl | rfl | rfl | rfl | rfl | rfl | rfl | rfl | rfl | rfl | rfl | rfl | rfl | rfl
  · exact rel160
  · exact rel161
  · exact rel162
  · exact rel163
  · exact rel164
  · exact rel165
  · exact rel166
  · exact rel167
  · exact rel168
  · exact rel169
  · exact rel170
  · exact rel171
  · exact rel172
  · exact rel173
  · exact rel174
  · exact rel175
theorem rels_11 (c : Nat) (h1 : 176 ≤ c) (h2 : c < 192) : relAt c = .ok := by
  have h : c = 176 ∨ c = 177 ∨ c = 178 ∨ c = 179 ∨ c = 180 ∨ c = 181 ∨ c = 182 ∨ c = 183 ∨ c = 184 ∨ c = 185 ∨ c = 186 ∨ c = 187 ∨ c = 188 ∨ c = 189 ∨ c = 190 ∨ c = 191 := by omega
  rcases h with rfl | rfl | rfl | rfl | rfl | rfl | rfl | rfl | rfl | rfl | rfl | rfl | rfl | rfl | rfl | rfl
  · exact rel176
  · exact rel177
  · exact rel178
  · exact rel179
  · exact rel180
  · exact rel181
  · exact rel182
  · exact rel183
  · exact rel184
  · exact rel185
  · exact rel186
  · exact rel187
  · exact rel188
  · exact rel189
  · exact rel190
  · exact rel191
theorem rels_12 (c : Nat) (h1 : 192 ≤ c) (h2 : c < 208) : relAt c = .ok := by
  have h : c = 192 ∨ c = 193 ∨ c = 194 ∨ c = 195 ∨ c = 196 ∨ c = 197 ∨ c = 198 ∨ c = 199 ∨ c = 200 ∨ c = 201 ∨ c = 202 ∨ c = 203 ∨ c = 204 ∨ c = 205 ∨ c = 206 ∨ c = 207 := by omega
  rcases h with rfl | rfl | rfl | rfl | rfl | rfl | rfl | rfl | rfl | rfl | rfl | rfl | rfl | rfl | rfl | rfl
  · exact rel192
  · exact rel193
  · exact rel194
  · exact rel195
  · exact rel196
  · exact rel197
  · exact rel198
  · exact rel199
  · exact rel200
  · exact rel201
  · exact rel202
  · exact rel203
  · exact rel204
  · exact rel205
  · exact rel206
  · exact rel207
theorem rels_13 (c : Nat) (h1 : 208 ≤ c) (h2 : c < 224) : relAt c = .ok := by
  have h : c = 208 ∨ c = 209 ∨ c = 210 ∨ c = 211 ∨ c = 212 ∨ c = 213 ∨ c = 214 ∨ c = 215 ∨ c = 216 ∨ c = 217 ∨ c = 218 ∨ c = 219 ∨ c = 220 ∨ c = 221 ∨ c = 222 ∨ c = 223 := by omega
  rcases h with rfl | rfl | rfl | rfl | rfl | rfl | rfl | rfl | rfl | rfl | rfl | rfl | rfl | rfl | rfl | rfl
  · exact rel208
  · exact rel209
  · exact rel210
  · exact rel211
  · exact rel212
  · exact rel213
  · exact rel214
  · exact rel215
  · exact rel216
  · exact rel217
  · exact rel218
  · exact rel219
  · exact rel220
  · exact rel221
  · exact rel222
  · exact rel223
theorem rels_14 (c : Nat) (h1 : 224 ≤ c) (h2 : c < 240) : relAt c = .ok := by
  have h : c = 224 ∨ c = 225 ∨ c = 226 ∨ c = 227 ∨ c = 228 ∨ c = 229 ∨ c = 230 ∨ c = 231 ∨ c = 232 ∨ c = 233 ∨ c = 234 ∨ c = 235 ∨ c = 236 ∨ c = 237 ∨ c = 238 ∨ c = 239 := by omega
  rcases h with rfl | rfl | rfl | rfl | rfl | rfl | rfl | rfl | rfl | rfl | rfl | rfl | rfl | rfl | rfl | rfl
  · exact rel224
  · exact rel225
  · exact rel226
  · exact rel227
  · exact rel228
  · exact rel229
  · exact rel230
  · exact rel231
  · exact rel232
  · exact rel233
  · exact rel234
  · exact rel235
  · exact rel236
  · exact rel237
  · exact rel238
  · exact rel239
theorem rels_15 (c : Nat) (h1 : 240 ≤ c) (h2 : c < 256) : relAt c = .ok := by
  have h : c = 240 ∨ c = 241 ∨ c = 242 ∨ c = 243 ∨ c = 244 ∨ c = 245 ∨ c = 246 ∨ c = 247 ∨ c = 248 ∨ c = 249 ∨ c = 250 ∨ c = 251 ∨ c = 252 ∨ c = 253 ∨ c = 254 ∨ c = 255 := by omega
  rcases h with rfl | rfl | rfl | rfl | rfl | rfl | rfl | rfl | rfl | rfl | rfl | rfl | rfl | rfl | rfl | rfl
  · exact rel240
  · exact rel241
  · exact rel242
  · exact rel243
  · exact rel244
  · exact rel245
  · exact rel246
  · exact rel247
  · exact rel248
  · exact rel249
  · exact rel250
  · exact rel251
  · exact rel252
  · exact rel253
  · exact rel254
  · exact rel255
theorem rels_all (c : Nat) (h : c < 256) : relAt c = .ok := by
  by_cases g0 : c < 16
  · exact rels_0 c (by omega) g0
  by_cases g1 : c < 32
  · exact rels_1 c (by omega) g1
  by_cases g2 : c < 48
  · exact rels_2 c (by omega) g2
  by_cases g3 : c < 64
  · exact rels_3 c (by omega) g3
  by_cases g4 : c < 80
  · exact rels_4 c (by omega) g4
  by_cases g5 : c < 96
  · exact rels_5 c (by omega) g5
  by_cases g6 : c < 112
  · exact rels_6 c (by omega) g6
  by_cases g7 : c < 128
  · exact rels_7 c (by omega) g7
  by_cases g8 : c < 144
  · exact rels_8 c (by omega) g8
  by_cases g9 : c < 160
  · exact rels_9 c (by omega) g9
  by_cases g10 : c < 176
  · exact rels_10 c (by omega) g10
  by_cases g11 : c < 192
  · exact rels_11 c (by omega) g11
  by_cases g12 : c < 208
  · exact rels_12 c (by omega) g12
  by_cases g13 : c < 224
  · exact rels_13 c (by omega) g13
  by_cases g14 : c < 240
  · exact rels_14 c (by omega) g14
  exact rels_15 c (by omega) h
theorem relsOK : RelsOK := ⟨rels_all, relNone_ok, of_run ofA0 ofA1 ofA2 ofA3, of_run ofB0 ofB1 ofB2 ofB3⟩
end Go.Proofs.YtnhphhlojkhlcaaGreatDoor
