/-
  DERIVED: THE SHELF's CONTRACTS AT THIS DUMP, IN PLAIN WORDS (tools/lay-plain.mjs out of 'TryzShelf.lean', which tools/lay-shelf.mjs wrote): THE SAME DECLARATIONS UNDER THE SAME NAMES: 'import', 'namespace', 'open', 'def', 'theorem' AND NOTHING ELSE: no command of the shelf's: FOR A HAND-IN. Each laying: the table of numbers ('.._ren') and one theorem, a field a fact of the dump's own or the kernel's comparison; each contract: ONE APPLICATION.
  A slice of structs that came in: it reads as a list of plain data. (The first lemma is a block of the guide's page on structs, to be copied.)
  Scripts: what of the library's memory is leant on; Itoa; a word's number.
  Plain: what package part reckons. No program in sight.
-/
import Derived.Shelf.Small.Utf8
import Derived.Shelf.Small.Bits
import Derived.Shelf.Small.Wraps
import Derived.Shelf.Strconv.Atoi
import Derived.Shelf.Strconv.Itoa0
import Derived.Shelf.Strconv.Itoa1
import Derived.Shelf.LaysM
import Derived.Shelf.Strconv.Itoa2
import Derived.Shelf.Strconv.Itoa3
import Derived.Shelf.Strconv.AtoiErrFast
import Derived.Shelf.Strconv.ParseIntEmpty
import Derived.Shelf.Strconv.AtoiFail
import Derived.Shelf.Strconv.Clone
import Derived.Shelf.Strconv.SyntaxError
import Derived.Shelf.LaysC
import Derived.Shelf.Strconv.ToError
import Derived.Shelf.Strconv.Lower
import Derived.Shelf.Strconv.ParseUint10
import Derived.Shelf.Strconv.ParseUint10Empty
import Derived.Shelf.Strconv.ParseUint10Any
import Derived.Shelf.Strconv.ParseInt10
import Derived.Shelf.Strconv.AtoiLong
import Derived.Shelf.Strconv.AtoiInnerAll
import Derived.Shelf.Strconv.RangeError
import Derived.Shelf.Strconv.ToErrorRange
import Derived.Shelf.Strconv.AtoiAll
import Derived.Shelf.Strconv.ErrVarAll
import Derived.Shelf.Strings.Search1
import Derived.Shelf.Strings.Search2
import Derived.Shelf.Strings.Search3
import Derived.Shelf.Strings.Count
import Derived.Shelf.Strings.Shaped
import Derived.Shelf.Sort.Plain
import Derived.Shelf.Strings.Split
import Derived.Shelf.Strings.SplitShaped
import Derived.Shelf.Bits.Mul64
import Derived.Shelf.Unicode.DecodeSlow
import Derived.Shelf.Slices.Turned
import Derived.Ground.Names2Prog
import Derived.Shelf.Slices.SearchI
import Derived.Shelf.Slices.In.SortNone
import Derived.Test.YtajnfkmkombajaaGreatDoorProg
import Derived.Test.YtajnfkmkombajaaGreatDoorQSP01
import Derived.Deep.Slices
import Derived.Deep.Fields
import Derived.ChangeSame
import Derived.OpenShut
import Derived.Sort.WalkA
import Derived.Lib.AtoiAllCases
import Derived.Deep.RegionWith
import Derived.WalkKit
set_option linter.unusedVariables false
set_option linter.unusedSimpArgs false
set_option linter.unusedVariables false
namespace Go.Proofs
open Go.Shelf
def Tryz.lays134_ren : Go.Shelf.Ren := ⟨fun | 134 => 238 | 129 => 231 | n => n, fun | 53 => 22 | 3 => 3 | 4 => 4 | 46 => 181 | 5 => 5 | 9 => 9 | n => n, fun | n => n⟩
theorem Tryz.lays134 : Go.Proofs.Lays.n134 Tryz.prog Tryz.lays134_ren := {
 mixed := by kernel_rfl
 f129 := Tryz.func231.trans (congrArg some (by kernel_rfl))
 f134 := Tryz.func238.trans (congrArg some (by kernel_rfl))
 t3 := Tryz.underlying3
 a3 := Tryz.isAgg3
 z3 := Tryz.sizeOf3
 v3 := Tryz.zeroValue3
 t4 := Tryz.underlying4
 a4 := Tryz.isAgg4
 z4 := Tryz.sizeOf4
 v4 := Tryz.zeroValue4
 t5 := Tryz.underlying5
 a5 := Tryz.isAgg5
 z5 := Tryz.sizeOf5
 v5 := Tryz.zeroValue5
 t9 := Tryz.underlying9
 a9 := Tryz.isAgg9
 z9 := Tryz.sizeOf9
 v9 := Tryz.zeroValue9
 t46 := Tryz.underlying181
 a46 := Tryz.isAgg181
 z46 := Tryz.sizeOf181
 v46 := Tryz.zeroValue181
 t53 := Tryz.underlying22
 a53 := Tryz.isAgg22
 z53 := Tryz.sizeOf22
 v53 := Tryz.zeroValue22 }
theorem Tryz.bits_LeadingZeros64 (x : Int) (w : World) (h0 : 0 ≤ x) (h1 : x ≤ 18446744073709551615) :
   Calls Tryz.prog 238 #[.int .u64 x] w fun e w' => e = .returned (.int .i64 (64 - (Lib.bitLen x.toNat : Int))) ∧ w' = w := Any.bits_LeadingZeros64 Tryz.lays134 x w h0 h1
def Tryz.laysM171_ren : Go.Shelf.Ren := ⟨fun | 171 => 106 | 243 => 152 | 246 => 180 | 283 => 207 | 284 => 208 | 285 => 209 | 286 => 210 | 129 => 231 | 317 => 230 | 318 => 232 | 319 => 233 | 320 => 234 | 337 => 243 | 338 => 244 | n => n, fun | 3 => 3 | 9 => 9 | 2 => 2 | 4 => 4 | 171 => 243 | 0 => 0 | 53 => 22 | 37 => 182 | 5 => 5 | 173 => 246 | 212 => 273 | 51 => 261 | 20 => 20 | 213 => 274 | 46 => 181 | 232 => 292 | 233 => 293 | n => n, fun | 17 => 14 | 18 => 19 | 19 => 20 | n => n⟩
theorem Tryz.laysM171 : Go.Proofs.LaysM.n171 Tryz.prog Tryz.laysM171_ren := {
 mixed := by kernel_rfl
 f129 := Tryz.func231.trans (congrArg some (by kernel_rfl))
 f171 := Tryz.func106.trans (congrArg some (by kernel_rfl))
 f243 := Tryz.func152.trans (congrArg some (by kernel_rfl))
 f246 := Tryz.func180.trans (congrArg some (by kernel_rfl))
 f283 := Tryz.func207.trans (congrArg some (by kernel_rfl))
 f284 := Tryz.func208.trans (congrArg some (by kernel_rfl))
 f285 := Tryz.func209.trans (congrArg some (by kernel_rfl))
 f286 := Tryz.func210.trans (congrArg some (by kernel_rfl))
 f317 := Tryz.func230.trans (congrArg some (by kernel_rfl))
 f318 := Tryz.func232.trans (congrArg some (by kernel_rfl))
 f319 := Tryz.func233.trans (congrArg some (by kernel_rfl))
 f320 := Tryz.func234.trans (congrArg some (by kernel_rfl))
 f337 := Tryz.func243.trans (congrArg some (by kernel_rfl))
 f338 := Tryz.func244.trans (congrArg some (by kernel_rfl))
 t0 := Tryz.underlying0
 a0 := Tryz.isAgg0
 z0 := Tryz.sizeOf0
 v0 := Tryz.zeroValue0
 t2 := Tryz.underlying2
 a2 := Tryz.isAgg2
 z2 := Tryz.sizeOf2
 v2 := Tryz.zeroValue2
 t3 := Tryz.underlying3
 a3 := Tryz.isAgg3
 z3 := Tryz.sizeOf3
 v3 := Tryz.zeroValue3
 t4 := Tryz.underlying4
 a4 := Tryz.isAgg4
 z4 := Tryz.sizeOf4
 v4 := Tryz.zeroValue4
 t5 := Tryz.underlying5
 a5 := Tryz.isAgg5
 z5 := Tryz.sizeOf5
 v5 := Tryz.zeroValue5
 t9 := Tryz.underlying9
 a9 := Tryz.isAgg9
 z9 := Tryz.sizeOf9
 v9 := Tryz.zeroValue9
 t20 := Tryz.underlying20
 a20 := Tryz.isAgg20
 z20 := Tryz.sizeOf20
 v20 := Tryz.zeroValue20
 t37 := Tryz.underlying182
 a37 := Tryz.isAgg182
 z37 := Tryz.sizeOf182
 v37 := Tryz.zeroValue182
 t46 := Tryz.underlying181
 a46 := Tryz.isAgg181
 z46 := Tryz.sizeOf181
 v46 := Tryz.zeroValue181
 t51 := Tryz.underlying261
 a51 := Tryz.isAgg261
 z51 := Tryz.sizeOf261
 v51 := Tryz.zeroValue261
 t53 := Tryz.underlying22
 a53 := Tryz.isAgg22
 z53 := Tryz.sizeOf22
 v53 := Tryz.zeroValue22
 t171 := Tryz.underlying243
 a171 := Tryz.isAgg243
 z171 := Tryz.sizeOf243
 v171 := Tryz.zeroValue243
 t173 := Tryz.underlying246
 a173 := Tryz.isAgg246
 z173 := Tryz.sizeOf246
 v173 := Tryz.zeroValue246
 t212 := Tryz.underlying273
 a212 := Tryz.isAgg273
 z212 := Tryz.sizeOf273
 v212 := Tryz.zeroValue273
 t213 := Tryz.underlying274
 a213 := Tryz.isAgg274
 z213 := Tryz.sizeOf274
 t232 := Tryz.underlying292
 a232 := Tryz.isAgg292
 z232 := Tryz.sizeOf292
 v232 := Tryz.zeroValue292
 t233 := Tryz.underlying293
 a233 := Tryz.isAgg293
 z233 := Tryz.sizeOf293
 v233 := Tryz.zeroValue293
 g17 := by kernel_rfl
 g18 := by kernel_rfl
 g19 := by kernel_rfl
 i0 := by kernel_rfl
 i2 := by kernel_rfl
 i3 := by kernel_rfl
 i4 := by kernel_rfl
 i5 := by kernel_rfl
 i9 := by kernel_rfl
 i20 := by kernel_rfl
 i37 := by kernel_rfl
 i46 := by kernel_rfl
 i51 := by kernel_rfl
 i53 := by kernel_rfl
 i171 := by kernel_rfl
 i173 := by kernel_rfl
 i212 := by kernel_rfl
 i232 := by kernel_rfl
 i233 := by kernel_rfl
 m17 := by kernel_rfl
 m18 := by kernel_rfl
 m19 := by kernel_rfl }
open Go.RowKit Go.Sort Go.Lib in
theorem Tryz.strconv_Itoa (n : Int) (h0 : -9223372036854775808 ≤ n) (h1 : n ≤ 9223372036854775807) (w : World) (htab : Lib.TabIs Tryz.prog w "internal/strconv.uint64pow10" .u64 Lib.pow10Tab) :
   Calls Tryz.prog 106 #[.int .i64 n] w fun e w' => e = .returned (.string ⟨(Lib.itoa n).toArray⟩) ∧ ∃ k os, w' = grow (w.drewN k) os := Any.strconv_Itoa Tryz.laysM171 n h0 h1 w htab
def Tryz.laysC172_ren : Go.Shelf.Ren := ⟨fun | 172 => 155 | 244 => 181 | 245 => 182 | 247 => 211 | 279 => 212 | 280 => 213 | 281 => 214 | 282 => 215 | 287 => 235 | 316 => 236 | 171 => 106 | 205 => 237 | 321 => 245 | 322 => 246 | 243 => 152 | 246 => 180 | 283 => 207 | 284 => 208 | 285 => 209 | 286 => 210 | 129 => 231 | 317 => 230 | 318 => 232 | 319 => 233 | 320 => 234 | 337 => 243 | 338 => 244 | n => n, fun | 9 => 9 | 3 => 3 | 75 => 35 | 76 => 160 | 4 => 4 | 5 => 5 | 167 => 248 | 37 => 182 | 0 => 0 | 85 => 249 | 2 => 2 | 168 => 251 | 53 => 22 | 175 => 276 | 46 => 181 | 210 => 280 | 127 => 287 | 145 => 290 | 143 => 288 | 21 => 21 | 171 => 243 | 173 => 246 | 212 => 273 | 51 => 261 | 20 => 20 | 213 => 274 | 232 => 292 | 233 => 293 | 80 => 81 | n => n, fun | 15 => 15 | 16 => 16 | 17 => 14 | 18 => 19 | 19 => 20 | n => n⟩
theorem Tryz.laysC172 : Go.Proofs.LaysC.n172 Tryz.prog Tryz.laysC172_ren := {
 mixed := by kernel_rfl
 f129 := Tryz.func231.trans (congrArg some (by kernel_rfl))
 f171 := Tryz.func106.trans (congrArg some (by kernel_rfl))
 f172 := Tryz.func155.trans (congrArg some (by kernel_rfl))
 f205 := Tryz.func237.trans (congrArg some (by kernel_rfl))
 f243 := Tryz.func152.trans (congrArg some (by kernel_rfl))
 f244 := Tryz.func181.trans (congrArg some (by kernel_rfl))
 f245 := Tryz.func182.trans (congrArg some (by kernel_rfl))
 f246 := Tryz.func180.trans (congrArg some (by kernel_rfl))
 f247 := Tryz.func211.trans (congrArg some (by kernel_rfl))
 f279 := Tryz.func212.trans (congrArg some (by kernel_rfl))
 f280 := Tryz.func213.trans (congrArg some (by kernel_rfl))
 f281 := Tryz.func214.trans (congrArg some (by kernel_rfl))
 f282 := Tryz.func215.trans (congrArg some (by kernel_rfl))
 f283 := Tryz.func207.trans (congrArg some (by kernel_rfl))
 f284 := Tryz.func208.trans (congrArg some (by kernel_rfl))
 f285 := Tryz.func209.trans (congrArg some (by kernel_rfl))
 f286 := Tryz.func210.trans (congrArg some (by kernel_rfl))
 f287 := Tryz.func235.trans (congrArg some (by kernel_rfl))
 f316 := Tryz.func236.trans (congrArg some (by kernel_rfl))
 f317 := Tryz.func230.trans (congrArg some (by kernel_rfl))
 f318 := Tryz.func232.trans (congrArg some (by kernel_rfl))
 f319 := Tryz.func233.trans (congrArg some (by kernel_rfl))
 f320 := Tryz.func234.trans (congrArg some (by kernel_rfl))
 f321 := Tryz.func245.trans (congrArg some (by kernel_rfl))
 f322 := Tryz.func246.trans (congrArg some (by kernel_rfl))
 f337 := Tryz.func243.trans (congrArg some (by kernel_rfl))
 f338 := Tryz.func244.trans (congrArg some (by kernel_rfl))
 t0 := Tryz.underlying0
 a0 := Tryz.isAgg0
 z0 := Tryz.sizeOf0
 v0 := Tryz.zeroValue0
 t2 := Tryz.underlying2
 a2 := Tryz.isAgg2
 z2 := Tryz.sizeOf2
 v2 := Tryz.zeroValue2
 t3 := Tryz.underlying3
 a3 := Tryz.isAgg3
 z3 := Tryz.sizeOf3
 v3 := Tryz.zeroValue3
 t4 := Tryz.underlying4
 a4 := Tryz.isAgg4
 z4 := Tryz.sizeOf4
 v4 := Tryz.zeroValue4
 t5 := Tryz.underlying5
 a5 := Tryz.isAgg5
 z5 := Tryz.sizeOf5
 v5 := Tryz.zeroValue5
 t9 := Tryz.underlying9
 a9 := Tryz.isAgg9
 z9 := Tryz.sizeOf9
 v9 := Tryz.zeroValue9
 t20 := Tryz.underlying20
 a20 := Tryz.isAgg20
 z20 := Tryz.sizeOf20
 v20 := Tryz.zeroValue20
 t21 := Tryz.underlying21
 a21 := Tryz.isAgg21
 z21 := Tryz.sizeOf21
 v21 := Tryz.zeroValue21
 t37 := Tryz.underlying182
 a37 := Tryz.isAgg182
 z37 := Tryz.sizeOf182
 v37 := Tryz.zeroValue182
 t46 := Tryz.underlying181
 a46 := Tryz.isAgg181
 z46 := Tryz.sizeOf181
 v46 := Tryz.zeroValue181
 t51 := Tryz.underlying261
 a51 := Tryz.isAgg261
 z51 := Tryz.sizeOf261
 v51 := Tryz.zeroValue261
 t53 := Tryz.underlying22
 a53 := Tryz.isAgg22
 z53 := Tryz.sizeOf22
 v53 := Tryz.zeroValue22
 t75 := Tryz.underlying35
 a75 := Tryz.isAgg35
 z75 := Tryz.sizeOf35
 v75 := Tryz.zeroValue35
 t76 := Tryz.underlying160
 a76 := Tryz.isAgg160
 z76 := Tryz.sizeOf160
 v76 := Tryz.zeroValue160
 t85 := Tryz.underlying249
 a85 := Tryz.isAgg249
 z85 := Tryz.sizeOf249
 v85 := Tryz.zeroValue249
 t127 := Tryz.underlying287
 a127 := Tryz.isAgg287
 z127 := Tryz.sizeOf287
 v127 := Tryz.zeroValue287
 t143 := Tryz.underlying288
 a143 := Tryz.isAgg288
 z143 := Tryz.sizeOf288
 v143 := Tryz.zeroValue288
 t145 := Tryz.underlying290
 a145 := Tryz.isAgg290
 z145 := Tryz.sizeOf290
 v145 := Tryz.zeroValue290
 t167 := Tryz.underlying248
 a167 := Tryz.isAgg248
 z167 := Tryz.sizeOf248
 v167 := Tryz.zeroValue248
 t168 := Tryz.underlying251
 a168 := Tryz.isAgg251
 z168 := Tryz.sizeOf251
 v168 := Tryz.zeroValue251
 t171 := Tryz.underlying243
 a171 := Tryz.isAgg243
 z171 := Tryz.sizeOf243
 v171 := Tryz.zeroValue243
 t173 := Tryz.underlying246
 a173 := Tryz.isAgg246
 z173 := Tryz.sizeOf246
 v173 := Tryz.zeroValue246
 t175 := Tryz.underlying276
 a175 := Tryz.isAgg276
 z175 := Tryz.sizeOf276
 v175 := Tryz.zeroValue276
 t210 := Tryz.underlying280
 a210 := Tryz.isAgg280
 z210 := Tryz.sizeOf280
 v210 := Tryz.zeroValue280
 t212 := Tryz.underlying273
 a212 := Tryz.isAgg273
 z212 := Tryz.sizeOf273
 v212 := Tryz.zeroValue273
 t213 := Tryz.underlying274
 a213 := Tryz.isAgg274
 z213 := Tryz.sizeOf274
 t232 := Tryz.underlying292
 a232 := Tryz.isAgg292
 z232 := Tryz.sizeOf292
 v232 := Tryz.zeroValue292
 t233 := Tryz.underlying293
 a233 := Tryz.isAgg293
 z233 := Tryz.sizeOf293
 v233 := Tryz.zeroValue293
 g15 := by kernel_rfl
 g16 := by kernel_rfl
 g17 := by kernel_rfl
 g18 := by kernel_rfl
 g19 := by kernel_rfl
 t80 := Tryz.underlying81
 a80 := Tryz.isAgg81
 z80 := Tryz.sizeOf81
 v80 := Tryz.zeroValue81
 i0 := by kernel_rfl
 i2 := by kernel_rfl
 i3 := by kernel_rfl
 i4 := by kernel_rfl
 i5 := by kernel_rfl
 i9 := by kernel_rfl
 i20 := by kernel_rfl
 i21 := by kernel_rfl
 i37 := by kernel_rfl
 i46 := by kernel_rfl
 i51 := by kernel_rfl
 i53 := by kernel_rfl
 i75 := by kernel_rfl
 i76 := by kernel_rfl
 i80 := by kernel_rfl
 i85 := by kernel_rfl
 i127 := by kernel_rfl
 i143 := by kernel_rfl
 i145 := by kernel_rfl
 i167 := by kernel_rfl
 i168 := by kernel_rfl
 i171 := by kernel_rfl
 i173 := by kernel_rfl
 i175 := by kernel_rfl
 i210 := by kernel_rfl
 i212 := by kernel_rfl
 i232 := by kernel_rfl
 i233 := by kernel_rfl
 m15 := by kernel_rfl
 m16 := by kernel_rfl
 m17 := by kernel_rfl
 m18 := by kernel_rfl
 m19 := by kernel_rfl
 c0 := by kernel_rfl
 c2 := by kernel_rfl
 c3 := by kernel_rfl
 c4 := by kernel_rfl
 c5 := by kernel_rfl
 c9 := by kernel_rfl
 c20 := by kernel_rfl
 c21 := by kernel_rfl
 c37 := by kernel_rfl
 c46 := by kernel_rfl
 c51 := by kernel_rfl
 c53 := by kernel_rfl
 c75 := by kernel_rfl
 c76 := by kernel_rfl
 c80 := by kernel_rfl
 c85 := by kernel_rfl
 c127 := by kernel_rfl
 c143 := by kernel_rfl
 c145 := by kernel_rfl
 c167 := by kernel_rfl
 c168 := by kernel_rfl
 c171 := by kernel_rfl
 c173 := by kernel_rfl
 c175 := by kernel_rfl
 c210 := by kernel_rfl
 c212 := by kernel_rfl
 c213 := by kernel_rfl
 c232 := by kernel_rfl
 c233 := by kernel_rfl }
open Go.RowKit in
theorem Tryz.strconv_Atoi_ok (s : ByteArray) (hmax : s.size ≤ 9223372036854775806) (v : Int) (h : Lib.atoiAll s.data.toList = .ok v) (w : World) :
   Calls Tryz.prog 155 #[.string s] w fun e w' => e = .returned (.tuple #[.int .i64 v, .nilIface]) ∧ (w' = w ∨ ∃ t, w' = Lib.bytesWorld w 5 t) := Any.strconv_Atoi_ok Tryz.laysC172 s hmax v h w
open Go.RowKit in
theorem Tryz.strconv_Atoi_range (s : ByteArray) (hlim : s.size ≤ 281474976710656) (h : Lib.atoiAll s.data.toList = .range) (ev : Value) (w : World) (hv : w.cell? ⟨16, 0, none⟩ = some ev) (hev : ev = .nilIface ∨ ∃ te pe, ev = .iface te pe) :
   Calls Tryz.prog 155 #[.string s] w fun e w' => ∃ N, e = .returned (.tuple #[.int .i64 (Lib.atoiSat s.data.toList), .iface 251 (.pointer (some ⟨N, 0, none⟩))]) ∧ w.heap.size ≤ N ∧ w'.heap[N]? = some (.cells #[.string ⟨#[65, 116, 111, 105]⟩, .string s, ev] 280 (0, 0)) ∧ Below w.heap.size w w' := Any.strconv_Atoi_range Tryz.laysC172 s hlim h ev w hv hev
def Tryz.lays189_ren : Go.Shelf.Ren := ⟨fun | 189 => 242 | 125 => 248 | 257 => 247 | 128 => 258 | 129 => 231 | 294 => 249 | 295 => 250 | 296 => 251 | 297 => 252 | 298 => 253 | 299 => 254 | 216 => 255 | 300 => 256 | 301 => 257 | 328 => 259 | 329 => 260 | 330 => 261 | 331 => 262 | 332 => 263 | 215 => 264 | 343 => 265 | n => n, fun | 28 => 28 | 3 => 3 | 46 => 181 | 0 => 0 | 51 => 261 | 53 => 22 | 4 => 4 | 183 => 296 | 182 => 295 | 131 => 167 | 5 => 5 | 9 => 9 | 218 => 302 | 222 => 305 | 228 => 307 | 229 => 62 | n => n, fun | n => n⟩
theorem Tryz.lays189 : Go.Proofs.Lays.n189 Tryz.prog Tryz.lays189_ren := {
 mixed := by kernel_rfl
 f125 := Tryz.func248.trans (congrArg some (by kernel_rfl))
 f128 := Tryz.func258.trans (congrArg some (by kernel_rfl))
 f129 := Tryz.func231.trans (congrArg some (by kernel_rfl))
 f189 := Tryz.func242.trans (congrArg some (by kernel_rfl))
 f215 := Tryz.func264.trans (congrArg some (by kernel_rfl))
 f216 := Tryz.func255.trans (congrArg some (by kernel_rfl))
 f257 := Tryz.func247.trans (congrArg some (by kernel_rfl))
 f294 := Tryz.func249.trans (congrArg some (by kernel_rfl))
 f295 := Tryz.func250.trans (congrArg some (by kernel_rfl))
 f296 := Tryz.func251.trans (congrArg some (by kernel_rfl))
 f297 := Tryz.func252.trans (congrArg some (by kernel_rfl))
 f298 := Tryz.func253.trans (congrArg some (by kernel_rfl))
 f299 := Tryz.func254.trans (congrArg some (by kernel_rfl))
 f300 := Tryz.func256.trans (congrArg some (by kernel_rfl))
 f301 := Tryz.func257.trans (congrArg some (by kernel_rfl))
 f328 := Tryz.func259.trans (congrArg some (by kernel_rfl))
 f329 := Tryz.func260.trans (congrArg some (by kernel_rfl))
 f330 := Tryz.func261.trans (congrArg some (by kernel_rfl))
 f331 := Tryz.func262.trans (congrArg some (by kernel_rfl))
 f332 := Tryz.func263.trans (congrArg some (by kernel_rfl))
 f343 := Tryz.func265.trans (congrArg some (by kernel_rfl))
 t0 := Tryz.underlying0
 a0 := Tryz.isAgg0
 z0 := Tryz.sizeOf0
 v0 := Tryz.zeroValue0
 t3 := Tryz.underlying3
 a3 := Tryz.isAgg3
 z3 := Tryz.sizeOf3
 v3 := Tryz.zeroValue3
 t4 := Tryz.underlying4
 a4 := Tryz.isAgg4
 z4 := Tryz.sizeOf4
 v4 := Tryz.zeroValue4
 t5 := Tryz.underlying5
 a5 := Tryz.isAgg5
 z5 := Tryz.sizeOf5
 v5 := Tryz.zeroValue5
 t9 := Tryz.underlying9
 a9 := Tryz.isAgg9
 z9 := Tryz.sizeOf9
 v9 := Tryz.zeroValue9
 t28 := Tryz.underlying28
 a28 := Tryz.isAgg28
 z28 := Tryz.sizeOf28
 v28 := Tryz.zeroValue28
 t46 := Tryz.underlying181
 a46 := Tryz.isAgg181
 z46 := Tryz.sizeOf181
 v46 := Tryz.zeroValue181
 t51 := Tryz.underlying261
 a51 := Tryz.isAgg261
 z51 := Tryz.sizeOf261
 v51 := Tryz.zeroValue261
 t53 := Tryz.underlying22
 a53 := Tryz.isAgg22
 z53 := Tryz.sizeOf22
 v53 := Tryz.zeroValue22
 t131 := Tryz.underlying167
 a131 := Tryz.isAgg167
 z131 := Tryz.sizeOf167
 v131 := Tryz.zeroValue167
 t182 := Tryz.underlying295
 a182 := Tryz.isAgg295
 z182 := Tryz.sizeOf295
 v182 := Tryz.zeroValue295
 t183 := Tryz.underlying296
 a183 := Tryz.isAgg296
 z183 := Tryz.sizeOf296
 v183 := Tryz.zeroValue296
 t218 := Tryz.underlying302
 a218 := Tryz.isAgg302
 z218 := Tryz.sizeOf302
 v218 := Tryz.zeroValue302
 t222 := Tryz.underlying305
 a222 := Tryz.isAgg305
 z222 := Tryz.sizeOf305
 v222 := Tryz.zeroValue305
 t228 := Tryz.underlying307
 a228 := Tryz.isAgg307
 z228 := Tryz.sizeOf307
 v228 := Tryz.zeroValue307
 t229 := Tryz.underlying62
 a229 := Tryz.isAgg62
 z229 := Tryz.sizeOf62
 v229 := Tryz.zeroValue62 }
open Go.Sort Go.RowKit in
theorem Tryz.slices_Sort_int (blk off cap : Nat) (zs : List Int) (w : World) (hH : Holds (Value.int .i64) w blk off zs.toArray) (hblk : blk < w.heap.size) (hsz : zs.length < 4611686018427387904) :
   Calls Tryz.prog 242 #[.slice (some ⟨blk, off, none⟩) zs.length cap] w fun e w' =>
     e = .returned (.tuple #[]) ∧ ∃ n os, w' = grow (putRow (Value.int .i64) (Sort.ahead w n) blk off (zs.mergeSort fun x y => decide (x ≤ y)).toArray) os := Any.slices_Sort_int Tryz.lays189 blk off cap zs w hH hblk hsz
def Tryz.lays146_ren : Go.Shelf.Ren := ⟨fun | 146 => 56 | 221 => 88 | 268 => 141 | 138 => 142 | 143 => 143 | 195 => 163 | 197 => 164 | 218 => 165 | 219 => 166 | 260 => 184 | 217 => 185 | 225 => 186 | 224 => 187 | 267 => 188 | 266 => 218 | 314 => 219 | n => n, fun | 9 => 9 | 31 => 25 | 3 => 3 | 4 => 4 | 0 => 0 | 105 => 219 | 21 => 21 | 5 => 5 | 46 => 181 | 119 => 257 | 139 => 260 | 138 => 259 | 146 => 262 | 51 => 261 | n => n, fun | 1 => 10 | 3 => 12 | 4 => 13 | n => n⟩
theorem Tryz.lays146 : Go.Proofs.Lays.n146 Tryz.prog Tryz.lays146_ren := {
 mixed := by kernel_rfl
 f138 := Tryz.func142.trans (congrArg some (by kernel_rfl))
 f143 := Tryz.func143.trans (congrArg some (by kernel_rfl))
 f146 := Tryz.func56.trans (congrArg some (by kernel_rfl))
 f195 := Tryz.func163.trans (congrArg some (by kernel_rfl))
 f197 := Tryz.func164.trans (congrArg some (by kernel_rfl))
 f217 := Tryz.func185.trans (congrArg some (by kernel_rfl))
 f218 := Tryz.func165.trans (congrArg some (by kernel_rfl))
 f219 := Tryz.func166.trans (congrArg some (by kernel_rfl))
 f221 := Tryz.func88.trans (congrArg some (by kernel_rfl))
 f224 := Tryz.func187.trans (congrArg some (by kernel_rfl))
 f225 := Tryz.func186.trans (congrArg some (by kernel_rfl))
 f260 := Tryz.func184.trans (congrArg some (by kernel_rfl))
 f266 := Tryz.func218.trans (congrArg some (by kernel_rfl))
 f267 := Tryz.func188.trans (congrArg some (by kernel_rfl))
 f268 := Tryz.func141.trans (congrArg some (by kernel_rfl))
 f314 := Tryz.func219.trans (congrArg some (by kernel_rfl))
 t0 := Tryz.underlying0
 a0 := Tryz.isAgg0
 z0 := Tryz.sizeOf0
 v0 := Tryz.zeroValue0
 t3 := Tryz.underlying3
 a3 := Tryz.isAgg3
 z3 := Tryz.sizeOf3
 v3 := Tryz.zeroValue3
 t4 := Tryz.underlying4
 a4 := Tryz.isAgg4
 z4 := Tryz.sizeOf4
 v4 := Tryz.zeroValue4
 t5 := Tryz.underlying5
 a5 := Tryz.isAgg5
 z5 := Tryz.sizeOf5
 v5 := Tryz.zeroValue5
 t9 := Tryz.underlying9
 a9 := Tryz.isAgg9
 z9 := Tryz.sizeOf9
 v9 := Tryz.zeroValue9
 t21 := Tryz.underlying21
 a21 := Tryz.isAgg21
 z21 := Tryz.sizeOf21
 v21 := Tryz.zeroValue21
 t31 := Tryz.underlying25
 a31 := Tryz.isAgg25
 z31 := Tryz.sizeOf25
 v31 := Tryz.zeroValue25
 t46 := Tryz.underlying181
 a46 := Tryz.isAgg181
 z46 := Tryz.sizeOf181
 v46 := Tryz.zeroValue181
 t51 := Tryz.underlying261
 a51 := Tryz.isAgg261
 z51 := Tryz.sizeOf261
 v51 := Tryz.zeroValue261
 t105 := Tryz.underlying219
 a105 := Tryz.isAgg219
 z105 := Tryz.sizeOf219
 v105 := Tryz.zeroValue219
 t119 := Tryz.underlying257
 a119 := Tryz.isAgg257
 z119 := Tryz.sizeOf257
 t138 := Tryz.underlying259
 a138 := Tryz.isAgg259
 z138 := Tryz.sizeOf259
 v138 := Tryz.zeroValue259
 t139 := Tryz.underlying260
 a139 := Tryz.isAgg260
 z139 := Tryz.sizeOf260
 v139 := Tryz.zeroValue260
 t146 := Tryz.underlying262
 a146 := Tryz.isAgg262
 z146 := Tryz.sizeOf262
 v146 := Tryz.zeroValue262
 g1 := by kernel_rfl
 g3 := by kernel_rfl
 g4 := by kernel_rfl }
open Go.RowKit Go.Lib in
theorem Tryz.strings_Split (s sep : ByteArray) (m : Int) (w : World) (hs : s.size < 4294967281) (hm : w.cell? ⟨10, 0, none⟩ = some (.int .i64 m)) (h1 : 1 ≤ sep.size) :
   Calls Tryz.prog 56 #[.string s, .string sep] w fun e w' =>
     e = .returned (.slice (some ⟨w.heap.size, 0, none⟩) (Lib.countB s sep + 1) (Lib.countB s sep + 1)) ∧ w' = w.alloc (.cells ((Lib.splitB sep 0 (Lib.countB s sep) s).map Value.string).toArray 9) := Any.strings_Split Tryz.lays146 (by kernel_rfl) s sep m w hs hm h1
def Tryz.lays264_ren : Go.Shelf.Ren := ⟨fun | 264 => 216 | n => n, fun | 53 => 22 | 46 => 181 | n => n, fun | n => n⟩
theorem Tryz.lays264 : Go.Proofs.Lays.n264 Tryz.prog Tryz.lays264_ren := {
 mixed := by kernel_rfl
 f264 := Tryz.func216.trans (congrArg some (by kernel_rfl))
 t46 := Tryz.underlying181
 a46 := Tryz.isAgg181
 z46 := Tryz.sizeOf181
 v46 := Tryz.zeroValue181
 t53 := Tryz.underlying22
 a53 := Tryz.isAgg22
 z53 := Tryz.sizeOf22
 v53 := Tryz.zeroValue22 }
open Go.RowKit Go.Lib in
theorem Tryz.bits_Mul64 (x y : Nat) (hx : x < 18446744073709551616) (hy : y < 18446744073709551616) (w : World) :
   Calls Tryz.prog 216 #[.int .u64 x, .int .u64 y] w fun e w' => e = .returned (.tuple #[.int .u64 ((x * y / 18446744073709551616 : Nat) : Int), .int .u64 ((x * y % 18446744073709551616 : Nat) : Int)]) ∧ w' = w := Any.bits_Mul64 Tryz.lays264 x y hx hy w
def Tryz.lays113_ren : Go.Shelf.Ren := ⟨fun | 113 => 206 | n => n, fun | 28 => 28 | 3 => 3 | 4 => 4 | 9 => 9 | 20 => 20 | 0 => 0 | n => n, fun | n => n⟩
theorem Tryz.lays113 : Go.Proofs.Lays.n113 Tryz.prog Tryz.lays113_ren := {
 mixed := by kernel_rfl
 f113 := Tryz.func206.trans (congrArg some (by kernel_rfl))
 t0 := Tryz.underlying0
 a0 := Tryz.isAgg0
 z0 := Tryz.sizeOf0
 v0 := Tryz.zeroValue0
 t3 := Tryz.underlying3
 a3 := Tryz.isAgg3
 z3 := Tryz.sizeOf3
 v3 := Tryz.zeroValue3
 t4 := Tryz.underlying4
 a4 := Tryz.isAgg4
 z4 := Tryz.sizeOf4
 v4 := Tryz.zeroValue4
 t9 := Tryz.underlying9
 a9 := Tryz.isAgg9
 z9 := Tryz.sizeOf9
 v9 := Tryz.zeroValue9
 t20 := Tryz.underlying20
 a20 := Tryz.isAgg20
 z20 := Tryz.sizeOf20
 v20 := Tryz.zeroValue20
 t28 := Tryz.underlying28
 a28 := Tryz.isAgg28
 z28 := Tryz.sizeOf28
 v28 := Tryz.zeroValue28 }
open Go.Lib in
theorem Tryz.slices_Max_int (b off n c : Nat) (zs : List Int) (w : World) (hn : 0 < n) (hz : n ≤ zs.length) (hbig : n ≤ 9223372036854775807) (hc : ∀ j, j < zs.length → w.cell? ⟨b, off + j, none⟩ = some (.int .i64 (zs.getD j 0))) :
   Calls Tryz.prog 206 #[.slice (some ⟨b, off, none⟩) n c] w fun e w' => e = .returned (.int .i64 (Lib.maxOf (zs.take n))) ∧ w' = w := Any.slices_Max_int Tryz.lays113 b off n c zs w hn hz hbig hc
open Go.RowKit Go.Sort in
theorem Tryz.slices_Sort_int_none (p : Option Addr) (cap : Nat) (w : World) :
   Calls Tryz.prog 242 #[.slice p 0 cap] w fun e w' => e = .returned (.tuple #[]) ∧ w' = w := Any.slices_Sort_int_none Tryz.lays189 p cap w
end Go.Proofs
namespace Go.Proofs.YtajnfkmkombajaaGreatDoor
open Go.RowKit Go.ChangeShapes Go.WideShapes Go.Deep
section
variable {H : Type} {enc : TypeId × Value → H} {P : Program} {w : World} {base : Nat} {spare : Nat → Bool} {held : Bool}
end
structure RdR {α : Type} (enc : α → List Value) (C : Nat) (w : World) (ao : Option Addr) (len cap : Nat) (l : List α) : Prop where
 size : l.length = len
 lc : len ≤ cap
 cm : cap ≤ maxLen
 nul : ao = none → cap = 0
 cells : ∀ i x, l[i]? = some x → ∃ b off, ao = some ⟨b, off, none⟩ ∧ b < w.heap.size ∧ ∀ j, j < C → w.cell? ⟨b, off + i * C + j, none⟩ = (enc x)[j]?
section
variable {α : Type} {enc : α → List Value} {C : Nat} {w w' : World} {ao : Option Addr} {len cap : Nat} {l : List α}
theorem RdR.below (h : RdR enc C w ao len cap l) (hb : Below w.heap.size w w') : RdR enc C w' ao len cap l := by
 refine ⟨h.size, h.lc, h.cm, h.nul, fun i x hx => ?_⟩
 obtain ⟨b, off, ha, hl, hc⟩ := h.cells i x hx
 exact ⟨b, off, ha, Nat.lt_of_lt_of_le hl hb.size, fun j hj => by rw [hb.cell (p := ⟨b, _, none⟩) hl]; exact hc j hj⟩
theorem list_choose {α : Type} {Q : Nat → α → Prop} : ∀ n, (∀ i, i < n → ∃ x, Q i x) → ∃ l : List α, l.length = n ∧ ∀ i x, l[i]? = some x → Q i x
 | 0, _ => ⟨[], rfl, fun i x h => by simp at h⟩
 | n + 1, h => by
   obtain ⟨l, hl, hq⟩ := list_choose n (fun i hi => h i (by omega))
   obtain ⟨y, hy⟩ := h n (by omega)
   refine ⟨l ++ [y], by simp [hl], fun i x hx => ?_⟩
   rw [List.getElem?_append] at hx
   split at hx
   · exact hq i x hx
   · next hge =>
     have : i - l.length = 0 := by
       rcases Nat.eq_zero_or_pos (i - l.length) with h0 | h0
       · exact h0
       · rw [List.getElem?_eq_none (by simp; omega)] at hx; cases hx
     rw [this] at hx
     cases hx
     have : i = n := by omega
     subst this; exact hy
theorem RdR.of_cells {a : Addr} {Q : α → Prop} (hC : 0 < C) (hl : len ≤ cap) (hm : cap ≤ maxLen)
   (h : ∀ i, i < len → ∃ x, (∀ j, j < C → w.cell? (a.add (i * C + j)) = (enc x)[j]?) ∧ C ≤ (enc x).length ∧ Q x) : ∃ l, RdR enc C w (some a) len cap l ∧ ∀ x ∈ l, Q x := by
 obtain ⟨l, hlen, hq⟩ := list_choose len h
 refine ⟨l, ⟨hlen, hl, hm, fun h => (by cases h), fun i x hx => ?_⟩, fun x hx => ?_⟩
 · obtain ⟨h1, h2, _⟩ := hq i x hx
   have h00 := h1 0 hC
   rw [List.getElem?_eq_getElem (show 0 < (enc x).length by omega)] at h00
   have hs : (a.add (i * C + 0)).spot = none := World.cell?_spot h00
   have hblk := World.block_lt_of_cell? w _ h00
   obtain ⟨b, off, spot⟩ := a
   have hs0 : spot = none := by
     by_cases h0 : i * C = 0
     · rw [h0] at hs; simpa [Addr.add] using hs
     · have hi0 : 0 < len := by have := (List.getElem?_eq_some_iff.1 hx).1; omega
       obtain ⟨x0, hx0⟩ : ∃ x0, l[0]? = some x0 := ⟨_, List.getElem?_eq_getElem (by omega)⟩
       obtain ⟨z1, z2, _⟩ := hq 0 x0 hx0
       have := z1 0 hC
       rw [List.getElem?_eq_getElem (show 0 < (enc x0).length by omega)] at this
       have h0c := World.cell?_spot this; simpa [Addr.add] using h0c
   subst hs0
   have e : ∀ j, (⟨b, off, none⟩ : Addr).add j = ⟨b, off + j, none⟩ := fun j => by unfold Addr.add; split <;> simp_all
   rw [e] at hblk
   exact ⟨b, off, rfl, hblk, fun j hj => by rw [← h1 j hj, e, Nat.add_assoc]⟩
 · obtain ⟨i, hi⟩ := List.getElem?_of_mem hx
   exact (hq i x hi).2.2
theorem RdR.nil (enc : α → List Value) (C : Nat) (w : World) : RdR enc C w none 0 0 [] := ⟨rfl, Nat.le_refl _, by decide, fun _ => rfl, fun i x h => by simp at h⟩
end
end Go.Proofs.YtajnfkmkombajaaGreatDoor
namespace Go.Proofs.YtajnfkmkombajaaGreatDoor
open Go.RowKit Go.Maps
structure Lw (A : Nat → Addr) (w : World) : Prop where
 sents : Sents A w
 text : ∀ c, 1 ≤ c → c ≤ 10 → w.cell? (A c) = some (.string (errB c))
 syn : ∃ tp p, w.cell? ⟨15, 0, none⟩ = some (.iface tp p)
 ran : ∃ tp p, w.cell? ⟨16, 0, none⟩ = some (.iface tp p)
 tab : Lib.TabIs Tryz.prog w "internal/strconv.uint64pow10" .u64 Lib.pow10Tab
 maxl : ∃ m, w.cell? ⟨10, 0, none⟩ = some (.int .i64 m)
theorem pow10_named : Tryz.prog.globalNamed "internal/strconv.uint64pow10" = some 14 := by kernel_rfl
theorem Lw.below {A : Nat → Addr} {w w' : World} (h : Lw A w) (hb : Below w.heap.size w w') : Lw A w' := by
 have hc : ∀ {p : Addr} {v : Value}, w.cell? p = some v → w'.cell? p = some v := fun {p v} hv => by rw [hb.cell (World.block_lt_of_cell? w _ hv)]; exact hv
 refine ⟨h.sents.below hb, fun c h1 h2 => hc (h.text c h1 h2), ?_, ?_, ?_, ?_⟩
 · obtain ⟨tp, p, hv⟩ := h.syn; exact ⟨tp, p, hc hv⟩
 · obtain ⟨tp, p, hv⟩ := h.ran; exact ⟨tp, p, hc hv⟩
 · have ht := h.tab
   have h0 := World.block_lt_of_cell? w _ (ht.cell pow10_named 0 (by decide))
   unfold Lib.TabIs World.var? at ht ⊢
   simp only [pow10_named, Option.bind_some] at ht ⊢
   rw [hb.block _ h0]
   exact ht
 · obtain ⟨m, hv⟩ := h.maxl; exact ⟨m, hc hv⟩
theorem Lw.drewN {A : Nat → Addr} {w : World} (h : Lw A w) (n : Nat) : Lw A (w.drewN n) := h.below ((Below.refl _ _).drewN n)
theorem scr_below_grow (w : World) (k : Nat) (os : Array Obj) : Below w.heap.size w (Sort.grow (w.drewN k) os) :=
 ⟨rfl, rfl, rfl, by show w.heap.size ≤ (w.heap ++ os).size; rw [Array.size_append]; omega, fun j hj => by show (w.heap ++ os)[j]? = _; rw [Array.getElem?_append_left hj]⟩
theorem scr_below_bytes (w : World) (e : TypeId) (s : ByteArray) : Below w.heap.size w (Lib.bytesWorld w e s) :=
 ⟨rfl, rfl, rfl, by rw [Lib.bytesWorld_size]; omega, fun k hk => Lib.bytesWorld_at_old w e s k hk⟩
def I64 (n : Int) : Prop := -9223372036854775808 ≤ n ∧ n ≤ 9223372036854775807
theorem scr_Itoa (A : Nat → Addr) (n : Int) (hn : I64 n) (w : World) (h : Lw A w) : Calls Tryz.prog 106 #[.int .i64 n] w fun e w' => e = .returned (.string (itoaB n)) ∧ Below w.heap.size w w' :=
 (Tryz.strconv_Itoa n hn.1 hn.2 w h.tab).mono fun _ _ ⟨e, k, os, hw⟩ => ⟨e, by rw [hw]; exact scr_below_grow _ _ _⟩
def numV (s : ByteArray) : Int :=
 match Lib.atoiAll s.data.toList with
 | .ok v => v
 | .range => Lib.atoiSat s.data.toList
 | _ => 0
theorem numOf_some {s : ByteArray} {v : Int} (h : numOf s = some v) : numV s = v := by
 obtain ⟨-, -, -, ha⟩ := numOf_bd h
 unfold numV; rw [ha]
theorem numOf_is {s : ByteArray} {v : Int} (h : Lib.atoiAll s.data.toList = .ok v) : (numOf s).isSome = (decide (s.size ≤ 7) && (decide (0 ≤ v) && (itoaB v == s))) := by
 have hb : (itoaB v == s) = decide (itoaB v = s) := by rw [Bool.eq_iff_iff, MapKept.bytes_beq]; simp
 rw [hb]
 unfold numOf
 rw [h]
 simp only
 by_cases h1 : s.size ≤ 7 <;> by_cases h2 : 0 ≤ v <;> by_cases h3 : itoaB v = s <;> simp [h1, h2, h3]
theorem num_enter (A : Nat → Addr) (s : ByteArray) (v : Int) (ha : Lib.atoiAll s.data.toList = .ok v) (hs : s.size ≤ 1000000) (w : World) : ∀ (Q : Int → World → Prop), (∀ w', Below w.heap.size w w' → Q v w') → Calls Tryz.prog 155 #[.string s] w fun e w' => ∃ n, e = .returned (.tuple #[.int .i64 n, .nilIface]) ∧ n = v ∧ Q n w' := fun Q hQ =>
 (Tryz.strconv_Atoi_ok s (by omega) v ha w).mono fun _ _ ⟨e, hw⟩ => ⟨v, e, rfl, hQ _ (by
   rcases hw with rfl | ⟨t, rfl⟩
   · exact Below.refl _ _
   · exact scr_below_bytes _ _ _)⟩
set_option maxRecDepth 8000 in
theorem scr_number (A : Nat → Addr) (s : ByteArray) (hs : s.size ≤ 1000000) (w : World) (h : Lw A w) :
   Calls Tryz.prog 123 #[.string s] w fun e w' => e = .returned (.tuple #[.int .i64 (numV s), .bool (numOf s).isSome]) ∧ Below w.heap.size w w' := by
 have HL := Lib.hid h; clear h
 cases ha : Lib.atoiAll s.data.toList with
 | ok v =>
   have hv : numV s = v := by unfold numV; rw [ha]
   have hi := numOf_is ha
   have hI : I64 v := Lib.atoiAll_bounds ha
   rw [hv, hi]
   have HA := Lib.hid (num_enter A s v ha hs w (fun _ w' => Below w.heap.size w w') (fun _ hb => hb))
   have HIT := Lib.hid (fun wx (hb : Below w.heap.size w wx) => scr_Itoa A v hI wx (HL.out.below hb))
   clear hv hi ha hI
   have hE : (itoaB v == s) = ((itoaB v).toList == s.toList) := beq_toListBytes _ _
   rw [hE]
   clear hE
   by_cases h7 : s.size ≤ 7
   · have k7 : decide (s.size ≤ 7) = true := decide_eq_true h7
     have i7 : (s.size : Int) ≤ 7 := by omega
     clear h7
     by_cases h0 : 0 ≤ v
     · have k0 : decide (0 ≤ v) = true := decide_eq_true h0
       clear h0 hs
       rw [k7, k0]
       go_enter Tryz.func123, Tryz.ntmps123
       go_wp2_with fail
       refine HA.out.mono ?_
       rintro e w1 ⟨n, rfl, rfl, hb1⟩
       have HB1 := Lib.hid hb1; clear hb1
       go_wp2_with fail
       refine (HIT.out _ HB1.out).mono ?_
       rintro e w2 ⟨rfl, hb2⟩
       have HB2 := Lib.hid (btrans HB1.out hb2); clear hb2
       go_wp2_with fail
       go_ret2
       exact ⟨by simp, HB2.out⟩
     · have k0 : decide (0 ≤ v) = false := decide_eq_false h0
       clear h0 hs
       rw [k7, k0]
       go_enter Tryz.func123, Tryz.ntmps123
       go_wp2_with fail
       refine HA.out.mono ?_
       rintro e w1 ⟨n, rfl, rfl, hb1⟩
       have HB1 := Lib.hid hb1; clear hb1
       go_wp2_with fail
       go_ret2
       exact ⟨by simp, HB1.out⟩
   · have k7 : decide (s.size ≤ 7) = false := decide_eq_false h7
     have i7 : 7 < (s.size : Int) := by omega
     clear h7 hs
     rw [k7]
     go_enter Tryz.func123, Tryz.ntmps123
     go_wp2_with fail
     refine HA.out.mono ?_
     rintro e w1 ⟨n, rfl, rfl, hb1⟩
     have HB1 := Lib.hid hb1; clear hb1
     go_wp2_with fail
     go_ret2
     exact ⟨by simp, HB1.out⟩
 | range =>
   have hv : numV s = Lib.atoiSat s.data.toList := by unfold numV; rw [ha]
   have hi : numOf s = none := by unfold numOf; rw [ha]
   obtain ⟨tp, p, hs1⟩ := HL.out.ran
   have HA := Lib.hid (Tryz.strconv_Atoi_range s (by omega) ha _ w hs1 (.inr ⟨tp, p, rfl⟩))
   rw [hv, hi]
   clear hv hi ha hs1 hs
   generalize Lib.atoiSat s.data.toList = sat at *
   go_enter Tryz.func123, Tryz.ntmps123
   go_wp2_with fail
   refine HA.out.mono ?_
   rintro e w1 ⟨N, rfl, -, -, hb1⟩
   have HB1 := Lib.hid hb1; clear hb1
   go_wp2_with fail
   go_ret2
   exact ⟨rfl, HB1.out⟩
 | _ =>
   have hv : numV s = 0 := by unfold numV; rw [ha]
   have hi : numOf s = none := by unfold numOf; rw [ha]
   obtain ⟨tp, p, hs1⟩ := HL.out.syn
   have HA0 : Calls Tryz.prog 155 #[.string s] w fun e w' => ∃ N, e = .returned (.tuple #[.int .i64 (0), .iface 251 (.pointer (some ⟨N, 0, none⟩))]) ∧ Below w.heap.size w w' :=
     (Any.strconv_Atoi_syntax Tryz.laysC172 s (by omega) ha _ w hs1 (.inr ⟨tp, p, rfl⟩)).mono fun _ _ ⟨N, a, _, _, b⟩ => ⟨N, a, b⟩
   have HA := Lib.hid HA0
   clear HA0
   rw [hv, hi]
   clear hv hi ha hs1 hs
   go_enter Tryz.func123, Tryz.ntmps123
   go_wp2_with fail
   refine HA.out.mono ?_
   rintro e w1 ⟨N, rfl, hb1⟩
   have HB1 := Lib.hid hb1; clear hb1
   go_wp2_with fail
   go_ret2
   exact ⟨rfl, HB1.out⟩
end Go.Proofs.YtajnfkmkombajaaGreatDoor
namespace Go.Proofs.YtajnfkmkombajaaGreatDoor
open Go.RowKit
def amtB (n : Int) : Bool := decide (0 ≤ n) && decide (n ≤ 1125899906842624)
theorem amtB_iff {n : Int} : amtB n = true ↔ 0 ≤ n ∧ n ≤ 1125899906842624 := by simp [amtB]
theorem amtB_false {n : Int} : amtB n = false ↔ ¬ (0 ≤ n ∧ n ≤ 1125899906842624) := by rw [← amtB_iff]; simp
def overOk (a b c : Int) : Prop := (0 ≤ a ∧ a ≤ 1125899906842624) ∧ (0 ≤ b ∧ b ≤ 1125899906842624) ∧ (1 ≤ c ∧ c ≤ 1125899906842624) ∧ a * b / c ≤ 1125899906842624
instance (a b c : Int) : Decidable (overOk a b c) := by unfold overOk; infer_instance
def overC (a b c : Int) : Nat := if overOk a b c then 0 else 2
def overN (a b c : Int) : Int := if overOk a b c then a * b / c else 0
def overR (a b c : Int) : Int := if overOk a b c then a * b % c else 0
theorem over_yes {a b c : Int} (h : overOk a b c) : overC a b c = 0 ∧ overN a b c = a * b / c ∧ overR a b c = a * b % c := by simp [overC, overN, overR, h]
theorem over_no {a b c : Int} (h : ¬ overOk a b c) : overC a b c = 2 ∧ overN a b c = 0 ∧ overR a b c = 0 := by simp [overC, overN, overR, h]
def upOk (a b c : Int) : Prop := overOk a b c ∧ a * b / c + (if a * b % c = 0 then 0 else 1) ≤ 1125899906842624
instance (a b c : Int) : Decidable (upOk a b c) := by unfold upOk; infer_instance
def upC (a b c : Int) : Nat := if upOk a b c then 0 else 2
def upN (a b c : Int) : Int := if upOk a b c then a * b / c + (if a * b % c = 0 then 0 else 1) else 0
theorem up_yes {a b c : Int} (h : upOk a b c) : upC a b c = 0 ∧ upN a b c = a * b / c + (if a * b % c = 0 then 0 else 1) := by simp [upC, upN, h]
theorem up_no {a b c : Int} (h : ¬ upOk a b c) : upC a b c = 2 ∧ upN a b c = 0 := by simp [upC, upN, h]
end Go.Proofs.YtajnfkmkombajaaGreatDoor
