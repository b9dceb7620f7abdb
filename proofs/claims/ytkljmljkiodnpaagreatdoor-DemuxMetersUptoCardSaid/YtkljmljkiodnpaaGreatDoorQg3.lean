/- Part 3 of the texts behind the theorem of this claim: DERIVED: THE SHELF's CONTRACTS AT THIS DUMP, IN PLAIN WORDS (tools/lay-plain.mjs out of 'TryzShelf.lean', which tools/lay-shelf.mjs wrote): THE SAME DECLARATIONS UNDER THE SAME NAMES: 'import', 'namespace', 'open', 'def', 'theorem' AND NOTHING ELSE: no command of the shelf's: FOR A HAND-IN. Each lay -/
import Derived.Shelf.Strings.Builder1
import Derived.Shelf.Strings.Trim
import Derived.Shelf.Small.Utf8
import Derived.Shelf.Small.Strs
import Derived.Shelf.Strings.BuilderF
import Derived.Shelf.Strings.BuilderK
import Derived.Shelf.Strconv.Atoi
import Derived.Shelf.Strconv.Itoa0
import Derived.Shelf.Strconv.Itoa1
import Derived.Shelf.LaysM
import Derived.Shelf.Strconv.Itoa2
import Derived.Shelf.Strconv.Itoa3
import Derived.Shelf.Strconv.AtoiErrFast
import Derived.Shelf.Strconv.ParseIntEmpty
import Derived.Shelf.Strconv.AtoiFail
import Derived.Shelf.Strconv.Clone
import Derived.Shelf.Strconv.SyntaxError
import Derived.Shelf.LaysC
import Derived.Shelf.Strconv.ToError
import Derived.Shelf.Strconv.Lower
import Derived.Shelf.Strconv.ParseUint10
import Derived.Shelf.Strconv.ParseUint10Empty
import Derived.Shelf.Strconv.ParseUint10Any
import Derived.Shelf.Strconv.ParseInt10
import Derived.Shelf.Strconv.AtoiLong
import Derived.Shelf.Strconv.AtoiInnerAll
import Derived.Shelf.Strconv.RangeError
import Derived.Shelf.Strconv.ToErrorRange
import Derived.Shelf.Strconv.AtoiAll
import Derived.Shelf.Strings.Search1
import Derived.Shelf.Strings.Search2
import Derived.Shelf.Strings.Search3
import Derived.Shelf.Strings.Cut
import Derived.Shelf.Strings.Count
import Derived.Shelf.Strings.Shaped
import Derived.Shelf.Strings.Prefix
import Derived.Shelf.Strings.Split
import Derived.Shelf.Unicode.Decode
import Derived.Shelf.Strings.Runes
import Derived.Shelf.Strings.RuneCount
import Derived.Shelf.Strings.IndexAny
import Derived.Shelf.Strings.AsciiSet
import Derived.Shelf.Strings.IndexAnyAll
import Derived.Shelf.Strings.Explode
import Derived.Shelf.Unicode.DecodeSlow
import Derived.Shelf.Unicode.DecodeAny
import Derived.Shelf.Unicode.DecodeLast
import Derived.Shelf.Strings.BuilderCap
import Derived.Test.YtkljmljkiodnpaaGreatDoorProg
import Derived.Test.YtkljmljkiodnpaaGreatDoorQg2
import Derived.Shelf.Strings.SlTrimAscii
set_option linter.unusedVariables false
set_option linter.unusedSimpArgs false
set_option maxRecDepth 100000
namespace Go.Proofs
open Go.Shelf
def Tryz.lays160_ren : Go.Shelf.Ren := ⟨fun|160 => 89|232 => 132|231 => 131|227 => 133|234 => 135|233 => 134|236 => 137|235 => 136|228 => 153|271 => 163|151 => 162|197 => 161|120 => 175|152 => 151|260 => 174|137 => 147|119 => 168|224 => 113|225 => 112|217 => 111|266 => 149|n => n,fun|9 => 9|4 => 4|3 => 3|5 => 5|117 => 179|116 => 178|0 => 0|124 => 182|21 => 21|105 => 203|46 => 149|119 => 226|139 => 229|138 => 228|n => n,fun|3 => 4|4 => 5|n => n⟩
theorem Tryz.lays160 : Go.Proofs.Lays.n160 Tryz.prog Tryz.lays160_ren := {
  mixed := by kernel_rfl
  f119 := Tryz.func168.trans (congrArg some (by kernel_rfl))
  f120 := Tryz.func175.trans (congrArg some (by kernel_rfl))
  f137 := Tryz.func147.trans (congrArg some (by kernel_rfl))
  f151 := Tryz.func162.trans (congrArg some (by kernel_rfl))
  f152 := Tryz.func151.trans (congrArg some (by kernel_rfl))
  f160 := Tryz.func89.trans (congrArg some (by kernel_rfl))
  f197 := Tryz.func161.trans (congrArg some (by kernel_rfl))
  f217 := Tryz.func111.trans (congrArg some (by kernel_rfl))
  f224 := Tryz.func113.trans (congrArg some (by kernel_rfl))
  f225 := Tryz.func112.trans (congrArg some (by kernel_rfl))
  f227 := Tryz.func133.trans (congrArg some (by kernel_rfl))
  f228 := Tryz.func153.trans (congrArg some (by kernel_rfl))
  f231 := Tryz.func131.trans (congrArg some (by kernel_rfl))
  f232 := Tryz.func132.trans (congrArg some (by kernel_rfl))
  f233 := Tryz.func134.trans (congrArg some (by kernel_rfl))
  f234 := Tryz.func135.trans (congrArg some (by kernel_rfl))
  f235 := Tryz.func136.trans (congrArg some (by kernel_rfl))
  f236 := Tryz.func137.trans (congrArg some (by kernel_rfl))
  f260 := Tryz.func174.trans (congrArg some (by kernel_rfl))
  f266 := Tryz.func149.trans (congrArg some (by kernel_rfl))
  f271 := Tryz.func163.trans (congrArg some (by kernel_rfl))
  t0 := Tryz.underlying0
  a0 := Tryz.isAgg0
  z0 := Tryz.sizeOf0
  v0 := Tryz.zeroValue0
  t3 := Tryz.underlying3
  a3 := Tryz.isAgg3
  z3 := Tryz.sizeOf3
  v3 := Tryz.zeroValue3
  t4 := Tryz.underlying4
  a4 := Tryz.isAgg4
  z4 := Tryz.sizeOf4
  v4 := Tryz.zeroValue4
  t5 := Tryz.underlying5
  a5 := Tryz.isAgg5
  z5 := Tryz.sizeOf5
  v5 := Tryz.zeroValue5
  t9 := Tryz.underlying9
  a9 := Tryz.isAgg9
  z9 := Tryz.sizeOf9
  v9 := Tryz.zeroValue9
  t21 := Tryz.underlying21
  a21 := Tryz.isAgg21
  z21 := Tryz.sizeOf21
  v21 := Tryz.zeroValue21
  t46 := Tryz.underlying149
  a46 := Tryz.isAgg149
  z46 := Tryz.sizeOf149
  v46 := Tryz.zeroValue149
  t105 := Tryz.underlying203
  a105 := Tryz.isAgg203
  z105 := Tryz.sizeOf203
  v105 := Tryz.zeroValue203
  t116 := Tryz.underlying178
  a116 := Tryz.isAgg178
  z116 := Tryz.sizeOf178
  t117 := Tryz.underlying179
  a117 := Tryz.isAgg179
  z117 := Tryz.sizeOf179
  v117 := Tryz.zeroValue179
  t119 := Tryz.underlying226
  a119 := Tryz.isAgg226
  z119 := Tryz.sizeOf226
  t124 := Tryz.underlying182
  a124 := Tryz.isAgg182
  z124 := Tryz.sizeOf182
  v124 := Tryz.zeroValue182
  t138 := Tryz.underlying228
  a138 := Tryz.isAgg228
  z138 := Tryz.sizeOf228
  v138 := Tryz.zeroValue228
  t139 := Tryz.underlying229
  a139 := Tryz.isAgg229
  z139 := Tryz.sizeOf229
  v139 := Tryz.zeroValue229
  g3 := by kernel_rfl
  g4 := by kernel_rfl }
def Tryz.lays137_ren : Go.Shelf.Ren := ⟨fun | 137 => 147 | 217 => 111 | 266 => 149 | n => n, fun | 9 => 9 | 5 => 5 | 3 => 3 | n => n, fun | n => n⟩
theorem Tryz.lays137 : Go.Proofs.Lays.n137 Tryz.prog Tryz.lays137_ren := {
  mixed := by kernel_rfl
  f137 := Tryz.func147.trans (congrArg some (by kernel_rfl))
  f217 := Tryz.func111.trans (congrArg some (by kernel_rfl))
  f266 := Tryz.func149.trans (congrArg some (by kernel_rfl))
  t3 := Tryz.underlying3
  a3 := Tryz.isAgg3
  z3 := Tryz.sizeOf3
  v3 := Tryz.zeroValue3
  t5 := Tryz.underlying5
  a5 := Tryz.isAgg5
  z5 := Tryz.sizeOf5
  v5 := Tryz.zeroValue5
  t9 := Tryz.underlying9
  a9 := Tryz.isAgg9
  z9 := Tryz.sizeOf9
  v9 := Tryz.zeroValue9 }
open Go.RowKit in
theorem Tryz.strings_IndexByte (s : ByteArray) (c : Int) (w : World) :
    Calls Tryz.prog 147 #[.string s, .int .u8 c] w fun e w' => e = .returned (.int .i64 (Lib.indexByte s.data.toList c.toNat.toUInt8)) ∧ w' = w := Any.strings_IndexByte Tryz.lays137 s c w
def Tryz.lays172_ren : Go.Shelf.Ren := ⟨fun|172 => 80|244 => 123|245 => 124|247 => 154|279 => 155|280 => 156|281 => 157|282 => 158|287 => 169|316 => 170|171 => 56|205 => 171|321 => 181|322 => 182|243 => 96|246 => 140|283 => 164|284 => 165|285 => 166|286 => 167|129 => 177|317 => 176|318 => 178|319 => 179|320 => 180|337 => 183|338 => 184|n => n,fun|9 => 9|3 => 3|75 => 130|76 => 131|4 => 4|5 => 5|167 => 196|37 => 126|0 => 0|85 => 197|2 => 2|168 => 199|53 => 207|175 => 213|46 => 149|210 => 216|127 => 168|145 => 225|143 => 223|21 => 21|171 => 206|173 => 210|212 => 219|51 => 192|20 => 20|213 => 220|232 => 231|233 => 232|80 => 134|n => n,fun|15 => 1|16 => 2|17 => 3|18 => 6|19 => 7|n => n⟩
theorem Tryz.lays172 : Go.Proofs.Lays.n172 Tryz.prog Tryz.lays172_ren := {
  mixed := by kernel_rfl
  f129 := Tryz.func177.trans (congrArg some (by kernel_rfl))
  f171 := Tryz.func56.trans (congrArg some (by kernel_rfl))
  f172 := Tryz.func80.trans (congrArg some (by kernel_rfl))
  f205 := Tryz.func171.trans (congrArg some (by kernel_rfl))
  f243 := Tryz.func96.trans (congrArg some (by kernel_rfl))
  f244 := Tryz.func123.trans (congrArg some (by kernel_rfl))
  f245 := Tryz.func124.trans (congrArg some (by kernel_rfl))
  f246 := Tryz.func140.trans (congrArg some (by kernel_rfl))
  f247 := Tryz.func154.trans (congrArg some (by kernel_rfl))
  f279 := Tryz.func155.trans (congrArg some (by kernel_rfl))
  f280 := Tryz.func156.trans (congrArg some (by kernel_rfl))
  f281 := Tryz.func157.trans (congrArg some (by kernel_rfl))
  f282 := Tryz.func158.trans (congrArg some (by kernel_rfl))
  f283 := Tryz.func164.trans (congrArg some (by kernel_rfl))
  f284 := Tryz.func165.trans (congrArg some (by kernel_rfl))
  f285 := Tryz.func166.trans (congrArg some (by kernel_rfl))
  f286 := Tryz.func167.trans (congrArg some (by kernel_rfl))
  f287 := Tryz.func169.trans (congrArg some (by kernel_rfl))
  f316 := Tryz.func170.trans (congrArg some (by kernel_rfl))
  f317 := Tryz.func176.trans (congrArg some (by kernel_rfl))
  f318 := Tryz.func178.trans (congrArg some (by kernel_rfl))
  f319 := Tryz.func179.trans (congrArg some (by kernel_rfl))
  f320 := Tryz.func180.trans (congrArg some (by kernel_rfl))
  f321 := Tryz.func181.trans (congrArg some (by kernel_rfl))
  f322 := Tryz.func182.trans (congrArg some (by kernel_rfl))
  f337 := Tryz.func183.trans (congrArg some (by kernel_rfl))
  f338 := Tryz.func184.trans (congrArg some (by kernel_rfl))
  t0 := Tryz.underlying0
  a0 := Tryz.isAgg0
  z0 := Tryz.sizeOf0
  v0 := Tryz.zeroValue0
  t2 := Tryz.underlying2
  a2 := Tryz.isAgg2
  z2 := Tryz.sizeOf2
  v2 := Tryz.zeroValue2
  t3 := Tryz.underlying3
  a3 := Tryz.isAgg3
  z3 := Tryz.sizeOf3
  v3 := Tryz.zeroValue3
  t4 := Tryz.underlying4
  a4 := Tryz.isAgg4
  z4 := Tryz.sizeOf4
  v4 := Tryz.zeroValue4
  t5 := Tryz.underlying5
  a5 := Tryz.isAgg5
  z5 := Tryz.sizeOf5
  v5 := Tryz.zeroValue5
  t9 := Tryz.underlying9
  a9 := Tryz.isAgg9
  z9 := Tryz.sizeOf9
  v9 := Tryz.zeroValue9
  t20 := Tryz.underlying20
  a20 := Tryz.isAgg20
  z20 := Tryz.sizeOf20
  v20 := Tryz.zeroValue20
  t21 := Tryz.underlying21
  a21 := Tryz.isAgg21
  z21 := Tryz.sizeOf21
  v21 := Tryz.zeroValue21
  t37 := Tryz.underlying126
  a37 := Tryz.isAgg126
  z37 := Tryz.sizeOf126
  v37 := Tryz.zeroValue126
  t46 := Tryz.underlying149
  a46 := Tryz.isAgg149
  z46 := Tryz.sizeOf149
  v46 := Tryz.zeroValue149
  t51 := Tryz.underlying192
  a51 := Tryz.isAgg192
  z51 := Tryz.sizeOf192
  v51 := Tryz.zeroValue192
  t53 := Tryz.underlying207
  a53 := Tryz.isAgg207
  z53 := Tryz.sizeOf207
  v53 := Tryz.zeroValue207
  t75 := Tryz.underlying130
  a75 := Tryz.isAgg130
  z75 := Tryz.sizeOf130
  v75 := Tryz.zeroValue130
  t76 := Tryz.underlying131
  a76 := Tryz.isAgg131
  z76 := Tryz.sizeOf131
  v76 := Tryz.zeroValue131
  t85 := Tryz.underlying197
  a85 := Tryz.isAgg197
  z85 := Tryz.sizeOf197
  v85 := Tryz.zeroValue197
  t127 := Tryz.underlying168
  a127 := Tryz.isAgg168
  z127 := Tryz.sizeOf168
  v127 := Tryz.zeroValue168
  t143 := Tryz.underlying223
  a143 := Tryz.isAgg223
  z143 := Tryz.sizeOf223
  v143 := Tryz.zeroValue223
  t145 := Tryz.underlying225
  a145 := Tryz.isAgg225
  z145 := Tryz.sizeOf225
  v145 := Tryz.zeroValue225
  t167 := Tryz.underlying196
  a167 := Tryz.isAgg196
  z167 := Tryz.sizeOf196
  v167 := Tryz.zeroValue196
  t168 := Tryz.underlying199
  a168 := Tryz.isAgg199
  z168 := Tryz.sizeOf199
  v168 := Tryz.zeroValue199
  t171 := Tryz.underlying206
  a171 := Tryz.isAgg206
  z171 := Tryz.sizeOf206
  v171 := Tryz.zeroValue206
  t173 := Tryz.underlying210
  a173 := Tryz.isAgg210
  z173 := Tryz.sizeOf210
  v173 := Tryz.zeroValue210
  t175 := Tryz.underlying213
  a175 := Tryz.isAgg213
  z175 := Tryz.sizeOf213
  v175 := Tryz.zeroValue213
  t210 := Tryz.underlying216
  a210 := Tryz.isAgg216
  z210 := Tryz.sizeOf216
  v210 := Tryz.zeroValue216
  t212 := Tryz.underlying219
  a212 := Tryz.isAgg219
  z212 := Tryz.sizeOf219
  v212 := Tryz.zeroValue219
  t213 := Tryz.underlying220
  a213 := Tryz.isAgg220
  z213 := Tryz.sizeOf220
  t232 := Tryz.underlying231
  a232 := Tryz.isAgg231
  z232 := Tryz.sizeOf231
  v232 := Tryz.zeroValue231
  t233 := Tryz.underlying232
  a233 := Tryz.isAgg232
  z233 := Tryz.sizeOf232
  v233 := Tryz.zeroValue232
  g15 := by kernel_rfl
  g16 := by kernel_rfl
  g17 := by kernel_rfl
  g18 := by kernel_rfl
  g19 := by kernel_rfl }
open Go.RowKit in
theorem Tryz.strconv_Atoi (s : ByteArray) (n : Int) (hl : s.size ≤ 18) (h : Lib.atoi s.data.toList = some n) (w : World) :
    Calls Tryz.prog 80 #[.string s] w fun e w' => e = .returned (.tuple #[.int .i64 n, .nilIface]) ∧ ∃ t, w' = Lib.bytesWorld w 5 t := Any.strconv_Atoi Tryz.lays172 s n hl h w
def Tryz.laysM246_ren : Go.Shelf.Ren := ⟨fun|246 => 140|283 => 164|284 => 165|285 => 166|286 => 167|129 => 177|317 => 176|318 => 178|319 => 179|320 => 180|337 => 183|338 => 184|n => n,fun|2 => 2|3 => 3|9 => 9|4 => 4|171 => 206|0 => 0|53 => 207|37 => 126|5 => 5|173 => 210|212 => 219|51 => 192|20 => 20|213 => 220|46 => 149|232 => 231|233 => 232|n => n,fun|17 => 3|18 => 6|19 => 7|n => n⟩
def Tryz.laysM243_ren : Go.Shelf.Ren := ⟨fun|243 => 96|246 => 140|283 => 164|284 => 165|285 => 166|286 => 167|129 => 177|317 => 176|318 => 178|319 => 179|320 => 180|337 => 183|338 => 184|n => n,fun|3 => 3|9 => 9|2 => 2|4 => 4|171 => 206|0 => 0|53 => 207|37 => 126|5 => 5|173 => 210|212 => 219|51 => 192|20 => 20|213 => 220|46 => 149|232 => 231|233 => 232|n => n,fun|17 => 3|18 => 6|19 => 7|n => n⟩
def Tryz.laysM171_ren : Go.Shelf.Ren := ⟨fun|171 => 56|243 => 96|246 => 140|283 => 164|284 => 165|285 => 166|286 => 167|129 => 177|317 => 176|318 => 178|319 => 179|320 => 180|337 => 183|338 => 184|n => n,fun|3 => 3|9 => 9|2 => 2|4 => 4|171 => 206|0 => 0|53 => 207|37 => 126|5 => 5|173 => 210|212 => 219|51 => 192|20 => 20|213 => 220|46 => 149|232 => 231|233 => 232|n => n,fun|17 => 3|18 => 6|19 => 7|n => n⟩
theorem Tryz.laysM171 : Go.Proofs.LaysM.n171 Tryz.prog Tryz.laysM171_ren := {
  mixed := by kernel_rfl
  f129 := Tryz.func177.trans (congrArg some (by kernel_rfl))
  f171 := Tryz.func56.trans (congrArg some (by kernel_rfl))
  f243 := Tryz.func96.trans (congrArg some (by kernel_rfl))
  f246 := Tryz.func140.trans (congrArg some (by kernel_rfl))
  f283 := Tryz.func164.trans (congrArg some (by kernel_rfl))
  f284 := Tryz.func165.trans (congrArg some (by kernel_rfl))
  f285 := Tryz.func166.trans (congrArg some (by kernel_rfl))
  f286 := Tryz.func167.trans (congrArg some (by kernel_rfl))
  f317 := Tryz.func176.trans (congrArg some (by kernel_rfl))
  f318 := Tryz.func178.trans (congrArg some (by kernel_rfl))
  f319 := Tryz.func179.trans (congrArg some (by kernel_rfl))
  f320 := Tryz.func180.trans (congrArg some (by kernel_rfl))
  f337 := Tryz.func183.trans (congrArg some (by kernel_rfl))
  f338 := Tryz.func184.trans (congrArg some (by kernel_rfl))
  t0 := Tryz.underlying0
  a0 := Tryz.isAgg0
  z0 := Tryz.sizeOf0
  v0 := Tryz.zeroValue0
  t2 := Tryz.underlying2
  a2 := Tryz.isAgg2
  z2 := Tryz.sizeOf2
  v2 := Tryz.zeroValue2
  t3 := Tryz.underlying3
  a3 := Tryz.isAgg3
  z3 := Tryz.sizeOf3
  v3 := Tryz.zeroValue3
  t4 := Tryz.underlying4
  a4 := Tryz.isAgg4
  z4 := Tryz.sizeOf4
  v4 := Tryz.zeroValue4
  t5 := Tryz.underlying5
  a5 := Tryz.isAgg5
  z5 := Tryz.sizeOf5
  v5 := Tryz.zeroValue5
  t9 := Tryz.underlying9
  a9 := Tryz.isAgg9
  z9 := Tryz.sizeOf9
  v9 := Tryz.zeroValue9
  t20 := Tryz.underlying20
  a20 := Tryz.isAgg20
  z20 := Tryz.sizeOf20
  v20 := Tryz.zeroValue20
  t37 := Tryz.underlying126
  a37 := Tryz.isAgg126
  z37 := Tryz.sizeOf126
  v37 := Tryz.zeroValue126
  t46 := Tryz.underlying149
  a46 := Tryz.isAgg149
  z46 := Tryz.sizeOf149
  v46 := Tryz.zeroValue149
  t51 := Tryz.underlying192
  a51 := Tryz.isAgg192
  z51 := Tryz.sizeOf192
  v51 := Tryz.zeroValue192
  t53 := Tryz.underlying207
  a53 := Tryz.isAgg207
  z53 := Tryz.sizeOf207
  v53 := Tryz.zeroValue207
  t171 := Tryz.underlying206
  a171 := Tryz.isAgg206
  z171 := Tryz.sizeOf206
  v171 := Tryz.zeroValue206
  t173 := Tryz.underlying210
  a173 := Tryz.isAgg210
  z173 := Tryz.sizeOf210
  v173 := Tryz.zeroValue210
  t212 := Tryz.underlying219
  a212 := Tryz.isAgg219
  z212 := Tryz.sizeOf219
  v212 := Tryz.zeroValue219
  t213 := Tryz.underlying220
  a213 := Tryz.isAgg220
  z213 := Tryz.sizeOf220
  t232 := Tryz.underlying231
  a232 := Tryz.isAgg231
  z232 := Tryz.sizeOf231
  v232 := Tryz.zeroValue231
  t233 := Tryz.underlying232
  a233 := Tryz.isAgg232
  z233 := Tryz.sizeOf232
  v233 := Tryz.zeroValue232
  g17 := by kernel_rfl
  g18 := by kernel_rfl
  g19 := by kernel_rfl
  i0 := by kernel_rfl
  i2 := by kernel_rfl
  i3 := by kernel_rfl
  i4 := by kernel_rfl
  i5 := by kernel_rfl
  i9 := by kernel_rfl
  i20 := by kernel_rfl
  i37 := by kernel_rfl
  i46 := by kernel_rfl
  i51 := by kernel_rfl
  i53 := by kernel_rfl
  i171 := by kernel_rfl
  i173 := by kernel_rfl
  i212 := by kernel_rfl
  i232 := by kernel_rfl
  i233 := by kernel_rfl
  m17 := by kernel_rfl
  m18 := by kernel_rfl
  m19 := by kernel_rfl }
open Go.RowKit Go.Sort Go.Lib in
theorem Tryz.strconv_Itoa (n : Int) (h0 : -9223372036854775808 ≤ n) (h1 : n ≤ 9223372036854775807) (w : World) (htab : Lib.TabIs Tryz.prog w "internal/strconv.uint64pow10" .u64 Lib.pow10Tab) :
    Calls Tryz.prog 56 #[.int .i64 n] w fun e w' => e = .returned (.string ⟨(Lib.itoa n).toArray⟩) ∧ ∃ k os, w' = grow (w.drewN k) os := Any.strconv_Itoa Tryz.laysM171 n h0 h1 w htab
def Tryz.lays219_ren : Go.Shelf.Ren := ⟨fun | 219 => 69 | 217 => 111 | 225 => 112 | 224 => 113 | 267 => 114 | 266 => 149 | 314 => 150 | n => n, fun | 9 => 9 | 3 => 3 | 4 => 4 | 5 => 5 | 46 => 149 | 146 => 193 | 51 => 192 | n => n, fun | 1 => 0 | n => n⟩
def Tryz.lays143_ren : Go.Shelf.Ren := ⟨fun | 143 => 44 | 219 => 69 | 217 => 111 | 225 => 112 | 224 => 113 | 267 => 114 | 266 => 149 | 314 => 150 | n => n, fun | 9 => 9 | 3 => 3 | 4 => 4 | 5 => 5 | 46 => 149 | 146 => 193 | 51 => 192 | n => n, fun | 1 => 0 | n => n⟩
theorem Tryz.lays143 : Go.Proofs.Lays.n143 Tryz.prog Tryz.lays143_ren := {
  mixed := by kernel_rfl
  f143 := Tryz.func44.trans (congrArg some (by kernel_rfl))
  f217 := Tryz.func111.trans (congrArg some (by kernel_rfl))
  f219 := Tryz.func69.trans (congrArg some (by kernel_rfl))
  f224 := Tryz.func113.trans (congrArg some (by kernel_rfl))
  f225 := Tryz.func112.trans (congrArg some (by kernel_rfl))
  f266 := Tryz.func149.trans (congrArg some (by kernel_rfl))
  f267 := Tryz.func114.trans (congrArg some (by kernel_rfl))
  f314 := Tryz.func150.trans (congrArg some (by kernel_rfl))
  t3 := Tryz.underlying3
  a3 := Tryz.isAgg3
  z3 := Tryz.sizeOf3
  v3 := Tryz.zeroValue3
  t4 := Tryz.underlying4
  a4 := Tryz.isAgg4
  z4 := Tryz.sizeOf4
  v4 := Tryz.zeroValue4
  t5 := Tryz.underlying5
  a5 := Tryz.isAgg5
  z5 := Tryz.sizeOf5
  v5 := Tryz.zeroValue5
  t9 := Tryz.underlying9
  a9 := Tryz.isAgg9
  z9 := Tryz.sizeOf9
  v9 := Tryz.zeroValue9
  t46 := Tryz.underlying149
  a46 := Tryz.isAgg149
  z46 := Tryz.sizeOf149
  v46 := Tryz.zeroValue149
  t51 := Tryz.underlying192
  a51 := Tryz.isAgg192
  z51 := Tryz.sizeOf192
  v51 := Tryz.zeroValue192
  t146 := Tryz.underlying193
  a146 := Tryz.isAgg193
  z146 := Tryz.sizeOf193
  v146 := Tryz.zeroValue193
  g1 := by kernel_rfl }
open Go.RowKit Go.Lib in
theorem Tryz.strings_Index (s sub : ByteArray) (m : Int) (w : World) (hs : s.size < 4294967281) (hm : w.cell? ⟨0, 0, none⟩ = some (.int .i64 m)) :
    Calls Tryz.prog 44 #[.string s, .string sub] w fun e w' => e = .returned (.int .i64 (Lib.index s.data.toList sub.data.toList)) ∧ w' = w := Any.strings_Index Tryz.lays143 s sub m w hs hm
def Tryz.lays145_ren : Go.Shelf.Ren := ⟨fun | 145 => 72 | 220 => 120 | 219 => 69 | 217 => 111 | 225 => 112 | 224 => 113 | 267 => 114 | 266 => 149 | 314 => 150 | n => n, fun | 9 => 9 | 4 => 4 | 59 => 139 | 3 => 3 | 5 => 5 | 46 => 149 | 146 => 193 | 51 => 192 | n => n, fun | 1 => 0 | n => n⟩
theorem Tryz.lays145 : Go.Proofs.Lays.n145 Tryz.prog Tryz.lays145_ren := {
  mixed := by kernel_rfl
  f145 := Tryz.func72.trans (congrArg some (by kernel_rfl))
  f217 := Tryz.func111.trans (congrArg some (by kernel_rfl))
  f219 := Tryz.func69.trans (congrArg some (by kernel_rfl))
  f220 := Tryz.func120.trans (congrArg some (by kernel_rfl))
  f224 := Tryz.func113.trans (congrArg some (by kernel_rfl))
  f225 := Tryz.func112.trans (congrArg some (by kernel_rfl))
  f266 := Tryz.func149.trans (congrArg some (by kernel_rfl))
  f267 := Tryz.func114.trans (congrArg some (by kernel_rfl))
  f314 := Tryz.func150.trans (congrArg some (by kernel_rfl))
  t3 := Tryz.underlying3
  a3 := Tryz.isAgg3
  z3 := Tryz.sizeOf3
  v3 := Tryz.zeroValue3
  t4 := Tryz.underlying4
  a4 := Tryz.isAgg4
  z4 := Tryz.sizeOf4
  v4 := Tryz.zeroValue4
  t5 := Tryz.underlying5
  a5 := Tryz.isAgg5
  z5 := Tryz.sizeOf5
  v5 := Tryz.zeroValue5
  t9 := Tryz.underlying9
  a9 := Tryz.isAgg9
  z9 := Tryz.sizeOf9
  v9 := Tryz.zeroValue9
  t46 := Tryz.underlying149
  a46 := Tryz.isAgg149
  z46 := Tryz.sizeOf149
  v46 := Tryz.zeroValue149
  t51 := Tryz.underlying192
  a51 := Tryz.isAgg192
  z51 := Tryz.sizeOf192
  v51 := Tryz.zeroValue192
  t59 := Tryz.underlying139
  a59 := Tryz.isAgg139
  z59 := Tryz.sizeOf139
  v59 := Tryz.zeroValue139
  t146 := Tryz.underlying193
  a146 := Tryz.isAgg193
  z146 := Tryz.sizeOf193
  v146 := Tryz.zeroValue193
  g1 := by kernel_rfl }
open Go.RowKit Go.Lib in
theorem Tryz.strings_Cut (s sep : ByteArray) (m : Int) (w : World) (hs : s.size < 4294967281) (hm : w.cell? ⟨0, 0, none⟩ = some (.int .i64 m)) :
    Calls Tryz.prog 72 #[.string s, .string sep] w fun e w' => e = .returned (.tuple #[.string ⟨(Lib.cut s.data.toList sep.data.toList).1.toArray⟩, .string ⟨(Lib.cut s.data.toList sep.data.toList).2.1.toArray⟩, .bool (Lib.cut s.data.toList sep.data.toList).2.2]) ∧ ∃ n, w' = w.drewN n := Any.strings_Cut Tryz.lays145 s sep m w hs hm
def Tryz.lays206_ren : Go.Shelf.Ren := ⟨fun | 206 => 125 | n => n, fun | 9 => 9 | 4 => 4 | 3 => 3 | n => n, fun | n => n⟩
def Tryz.lays99_ren : Go.Shelf.Ren := ⟨fun | 99 => 84 | 206 => 125 | n => n, fun | 9 => 9 | 4 => 4 | 3 => 3 | n => n, fun | n => n⟩
theorem Tryz.lays99 : Go.Proofs.Lays.n99 Tryz.prog Tryz.lays99_ren := {
  mixed := by kernel_rfl
  f99 := Tryz.func84.trans (congrArg some (by kernel_rfl))
  f206 := Tryz.func125.trans (congrArg some (by kernel_rfl))
  t3 := Tryz.underlying3
  a3 := Tryz.isAgg3
  z3 := Tryz.sizeOf3
  v3 := Tryz.zeroValue3
  t4 := Tryz.underlying4
  a4 := Tryz.isAgg4
  z4 := Tryz.sizeOf4
  v4 := Tryz.zeroValue4
  t9 := Tryz.underlying9
  a9 := Tryz.isAgg9
  z9 := Tryz.sizeOf9
  v9 := Tryz.zeroValue9 }
open Go.RowKit Go.Lib in
theorem Tryz.strings_HasPrefix (s p : ByteArray) (w : World) :
    Calls Tryz.prog 84 #[.string s, .string p] w fun e w' => e = .returned (.bool (Lib.hasPrefix s.data.toList p.data.toList)) ∧ w' = w := Any.strings_HasPrefix Tryz.lays99 s p w
def Tryz.lays221_ren : Go.Shelf.Ren := ⟨fun|221 => 130|268 => 159|138 => 160|143 => 44|195 => 172|197 => 161|218 => 173|219 => 69|260 => 174|217 => 111|225 => 112|224 => 113|267 => 114|266 => 149|314 => 150|n => n,fun|9 => 9|3 => 3|31 => 52|4 => 4|0 => 0|105 => 203|21 => 21|5 => 5|46 => 149|119 => 226|139 => 229|138 => 228|146 => 193|51 => 192|n => n,fun|1 => 0|3 => 4|4 => 5|n => n⟩
def Tryz.lays146_ren : Go.Shelf.Ren := ⟨fun|146 => 88|221 => 130|268 => 159|138 => 160|143 => 44|195 => 172|197 => 161|218 => 173|219 => 69|260 => 174|217 => 111|225 => 112|224 => 113|267 => 114|266 => 149|314 => 150|n => n,fun|9 => 9|31 => 52|3 => 3|4 => 4|0 => 0|105 => 203|21 => 21|5 => 5|46 => 149|119 => 226|139 => 229|138 => 228|146 => 193|51 => 192|n => n,fun|1 => 0|3 => 4|4 => 5|n => n⟩
theorem Tryz.lays146 : Go.Proofs.Lays.n146 Tryz.prog Tryz.lays146_ren := {
  mixed := by kernel_rfl
  f138 := Tryz.func160.trans (congrArg some (by kernel_rfl))
  f143 := Tryz.func44.trans (congrArg some (by kernel_rfl))
  f146 := Tryz.func88.trans (congrArg some (by kernel_rfl))
  f195 := Tryz.func172.trans (congrArg some (by kernel_rfl))
  f197 := Tryz.func161.trans (congrArg some (by kernel_rfl))
  f217 := Tryz.func111.trans (congrArg some (by kernel_rfl))
  f218 := Tryz.func173.trans (congrArg some (by kernel_rfl))
  f219 := Tryz.func69.trans (congrArg some (by kernel_rfl))
  f221 := Tryz.func130.trans (congrArg some (by kernel_rfl))
  f224 := Tryz.func113.trans (congrArg some (by kernel_rfl))
  f225 := Tryz.func112.trans (congrArg some (by kernel_rfl))
  f260 := Tryz.func174.trans (congrArg some (by kernel_rfl))
  f266 := Tryz.func149.trans (congrArg some (by kernel_rfl))
  f267 := Tryz.func114.trans (congrArg some (by kernel_rfl))
  f268 := Tryz.func159.trans (congrArg some (by kernel_rfl))
  f314 := Tryz.func150.trans (congrArg some (by kernel_rfl))
  t0 := Tryz.underlying0
  a0 := Tryz.isAgg0
  z0 := Tryz.sizeOf0
  v0 := Tryz.zeroValue0
  t3 := Tryz.underlying3
  a3 := Tryz.isAgg3
  z3 := Tryz.sizeOf3
  v3 := Tryz.zeroValue3
  t4 := Tryz.underlying4
  a4 := Tryz.isAgg4
  z4 := Tryz.sizeOf4
  v4 := Tryz.zeroValue4
  t5 := Tryz.underlying5
  a5 := Tryz.isAgg5
  z5 := Tryz.sizeOf5
  v5 := Tryz.zeroValue5
  t9 := Tryz.underlying9
  a9 := Tryz.isAgg9
  z9 := Tryz.sizeOf9
  v9 := Tryz.zeroValue9
  t21 := Tryz.underlying21
  a21 := Tryz.isAgg21
  z21 := Tryz.sizeOf21
  v21 := Tryz.zeroValue21
  t31 := Tryz.underlying52
  a31 := Tryz.isAgg52
  z31 := Tryz.sizeOf52
  v31 := Tryz.zeroValue52
  t46 := Tryz.underlying149
  a46 := Tryz.isAgg149
  z46 := Tryz.sizeOf149
  v46 := Tryz.zeroValue149
  t51 := Tryz.underlying192
  a51 := Tryz.isAgg192
  z51 := Tryz.sizeOf192
  v51 := Tryz.zeroValue192
  t105 := Tryz.underlying203
  a105 := Tryz.isAgg203
  z105 := Tryz.sizeOf203
  v105 := Tryz.zeroValue203
  t119 := Tryz.underlying226
  a119 := Tryz.isAgg226
  z119 := Tryz.sizeOf226
  t138 := Tryz.underlying228
  a138 := Tryz.isAgg228
  z138 := Tryz.sizeOf228
  v138 := Tryz.zeroValue228
  t139 := Tryz.underlying229
  a139 := Tryz.isAgg229
  z139 := Tryz.sizeOf229
  v139 := Tryz.zeroValue229
  t146 := Tryz.underlying193
  a146 := Tryz.isAgg193
  z146 := Tryz.sizeOf193
  v146 := Tryz.zeroValue193
  g1 := by kernel_rfl
  g3 := by kernel_rfl
  g4 := by kernel_rfl }
open Go.RowKit Go.Lib in
theorem Tryz.strings_Split (s sep : ByteArray) (m : Int) (w : World) (hs : s.size < 4294967281) (hm : w.cell? ⟨0, 0, none⟩ = some (.int .i64 m)) (h1 : 1 ≤ sep.size) :
    Calls Tryz.prog 88 #[.string s, .string sep] w fun e w' =>
      e = .returned (.slice (some ⟨w.heap.size, 0, none⟩) (Lib.countB s sep + 1) (Lib.countB s sep + 1)) ∧ w' = w.alloc (.cells ((Lib.splitB sep 0 (Lib.countB s sep) s).map Value.string).toArray 9) := Any.strings_Split Tryz.lays146 (by kernel_rfl) s sep m w hs hm h1
def Tryz.lays152_ren : Go.Shelf.Ren := ⟨fun | 152 => 151 | 137 => 147 | 119 => 168 | 224 => 113 | 225 => 112 | 217 => 111 | 266 => 149 | n => n, fun | 9 => 9 | 21 => 21 | 3 => 3 | 4 => 4 | 5 => 5 | 0 => 0 | 46 => 149 | n => n, fun | n => n⟩
theorem Tryz.lays152 : Go.Proofs.Lays.n152 Tryz.prog Tryz.lays152_ren := {
  mixed := by kernel_rfl
  f119 := Tryz.func168.trans (congrArg some (by kernel_rfl))
  f137 := Tryz.func147.trans (congrArg some (by kernel_rfl))
  f152 := Tryz.func151.trans (congrArg some (by kernel_rfl))
  f217 := Tryz.func111.trans (congrArg some (by kernel_rfl))
  f224 := Tryz.func113.trans (congrArg some (by kernel_rfl))
  f225 := Tryz.func112.trans (congrArg some (by kernel_rfl))
  f266 := Tryz.func149.trans (congrArg some (by kernel_rfl))
  t0 := Tryz.underlying0
  a0 := Tryz.isAgg0
  z0 := Tryz.sizeOf0
  v0 := Tryz.zeroValue0
  t3 := Tryz.underlying3
  a3 := Tryz.isAgg3
  z3 := Tryz.sizeOf3
  v3 := Tryz.zeroValue3
  t4 := Tryz.underlying4
  a4 := Tryz.isAgg4
  z4 := Tryz.sizeOf4
  v4 := Tryz.zeroValue4
  t5 := Tryz.underlying5
  a5 := Tryz.isAgg5
  z5 := Tryz.sizeOf5
  v5 := Tryz.zeroValue5
  t9 := Tryz.underlying9
  a9 := Tryz.isAgg9
  z9 := Tryz.sizeOf9
  v9 := Tryz.zeroValue9
  t21 := Tryz.underlying21
  a21 := Tryz.isAgg21
  z21 := Tryz.sizeOf21
  v21 := Tryz.zeroValue21
  t46 := Tryz.underlying149
  a46 := Tryz.isAgg149
  z46 := Tryz.sizeOf149
  v46 := Tryz.zeroValue149 }
open Go.RowKit Go.Lib in
theorem Tryz.strings_IndexRune_ascii (s : ByteArray) (r : Int) (w : World) (h0 : 0 ≤ r) (h1 : r < 128) :
    Calls Tryz.prog 151 #[.string s, .int .i32 r] w fun e w' => e = .returned (.int .i64 (Lib.indexByte s.data.toList r.toNat.toUInt8)) ∧ w' = w := Any.strings_IndexRune_ascii Tryz.lays152 s r w h0 h1
def Tryz.lays153_ren : Go.Shelf.Ren := ⟨fun | 153 => 121 | 152 => 151 | 226 => 152 | 227 => 133 | 228 => 153 | 137 => 147 | 119 => 168 | 224 => 113 | 225 => 112 | 217 => 111 | 266 => 149 | n => n, fun | 9 => 9 | 3 => 3 | 4 => 4 | 5 => 5 | 21 => 21 | 117 => 179 | 116 => 178 | 0 => 0 | 46 => 149 | 124 => 182 | n => n, fun | n => n⟩
theorem Tryz.lays153 : Go.Proofs.Lays.n153 Tryz.prog Tryz.lays153_ren := {
  mixed := by kernel_rfl
  f119 := Tryz.func168.trans (congrArg some (by kernel_rfl))
  f137 := Tryz.func147.trans (congrArg some (by kernel_rfl))
  f152 := Tryz.func151.trans (congrArg some (by kernel_rfl))
  f153 := Tryz.func121.trans (congrArg some (by kernel_rfl))
  f217 := Tryz.func111.trans (congrArg some (by kernel_rfl))
  f224 := Tryz.func113.trans (congrArg some (by kernel_rfl))
  f225 := Tryz.func112.trans (congrArg some (by kernel_rfl))
  f226 := Tryz.func152.trans (congrArg some (by kernel_rfl))
  f227 := Tryz.func133.trans (congrArg some (by kernel_rfl))
  f228 := Tryz.func153.trans (congrArg some (by kernel_rfl))
  f266 := Tryz.func149.trans (congrArg some (by kernel_rfl))
  t0 := Tryz.underlying0
  a0 := Tryz.isAgg0
  z0 := Tryz.sizeOf0
  v0 := Tryz.zeroValue0
  t3 := Tryz.underlying3
  a3 := Tryz.isAgg3
  z3 := Tryz.sizeOf3
  v3 := Tryz.zeroValue3
  t4 := Tryz.underlying4
  a4 := Tryz.isAgg4
  z4 := Tryz.sizeOf4
  v4 := Tryz.zeroValue4
  t5 := Tryz.underlying5
  a5 := Tryz.isAgg5
  z5 := Tryz.sizeOf5
  v5 := Tryz.zeroValue5
  t9 := Tryz.underlying9
  a9 := Tryz.isAgg9
  z9 := Tryz.sizeOf9
  v9 := Tryz.zeroValue9
  t21 := Tryz.underlying21
  a21 := Tryz.isAgg21
  z21 := Tryz.sizeOf21
  v21 := Tryz.zeroValue21
  t46 := Tryz.underlying149
  a46 := Tryz.isAgg149
  z46 := Tryz.sizeOf149
  v46 := Tryz.zeroValue149
  t116 := Tryz.underlying178
  a116 := Tryz.isAgg178
  z116 := Tryz.sizeOf178
  t117 := Tryz.underlying179
  a117 := Tryz.isAgg179
  z117 := Tryz.sizeOf179
  v117 := Tryz.zeroValue179
  t124 := Tryz.underlying182
  a124 := Tryz.isAgg182
  z124 := Tryz.sizeOf182
  v124 := Tryz.zeroValue182 }
open Go.RowKit Go.Lib in
theorem Tryz.strings_IndexAny_long (hv116 : ∀ w, (zeroValue 178).run Tryz.prog w = .ok (.agg (Array.replicate 256 (.bool false))) w) (s chars : ByteArray) (w : World) (h2 : 2 ≤ chars.size) (h8 : 8 < s.size) (hs : s.size < 4294967281) (hcs : chars.size < 4294967281) (hascii : ∀ (j : Nat) b, chars.data.toList[j]? = some b → b.toNat < 128) :
    Calls Tryz.prog 121 #[.string s, .string chars] w fun e w' => e = .returned (.int .i64 (Lib.indexAny s.data.toList chars.data.toList)) ∧ w' = ((w.alloc (.cells (Lib.setCells chars.data.toList) 178)).alloc (.cells (Lib.setCells chars.data.toList) 178)) := Any.strings_IndexAny_long Tryz.lays153 hv116 (by kernel_rfl) s chars w h2 h8 hs hcs hascii
end Go.Proofs

namespace Go.Proofs.YtkljmljkiodnpaaGreatDoor.L
open Go Go.RowKit Go.Proofs
attribute [local irreducible] AL QL AWp Thn InB RetQ ACalls LoopQ HL HO HW HQ NoG

noncomputable abbrev EE (w0 : World) (base : Nat) : Env := ⟨Tryz.prog, w0, base, 0⟩
def Glob (w0 : World) (base : Nat) : Prop := 0 < base ∧ ∃ m, w0.cell? ⟨0, 0, none⟩ = some (.int .i64 m)

section
variable {w0 : World} {base : Nat}
theorem b5g {I : Imm} {ν : Nu} {H : List AO} {w : World} (hG : Glob w0 base) (hh : HR (EE w0 base) I ν H w) : ∃ m, w.cell? ⟨0, 0, none⟩ = some (.int .i64 m) := by
  obtain ⟨h0, m, hm⟩ := hG
  exact ⟨m, (hh.below.cell h0).trans hm⟩
theorem a9z {w : World} : ∀ n, Below w.heap.size w (w.drewN n) := fun n => ⟨rfl, rfl, rfl, Nat.le_refl _, fun _ _ => rfl⟩

theorem b4n {s p : List UInt8} (hG : Glob w0 base) (hs : s.length < 4294967281) : PCalls (EE w0 base) 72 [.str s, .str p] fun rv => rv = .tup [.str (Lib.cut s p).1, .str (Lib.cut s p).2.1, .bool (Lib.cut s p).2.2] := by
  refine a3n rfl fun I ν w vs hh hl hv => ?_
  match vs, hl with
  | [v1, v2], _ =>
  have e1 := (hv 0 _ v1 rfl rfl).str_inv
  have e2 := (hv 1 _ v2 rfl rfl).str_inv
  subst e1; subst e2
  obtain ⟨m, hm⟩ := b5g hG hh
  refine ⟨_, fun w I => .tup _ [_, _, _] rfl (fun j x v h1 h2 => ?_), (Tryz.strings_Cut ⟨s.toArray⟩ ⟨p.toArray⟩ m w hs hm).mono fun e w' ⟨he, n, hw⟩ => ⟨he, by subst hw; exact a9z n⟩⟩
  match j, h1, h2 with
  | 0, h1, h2 => simp at h1 h2; subst h1; subst h2; exact .pure (.str _)
  | 1, h1, h2 => simp at h1 h2; subst h1; subst h2; exact .pure (.str _)
  | 2, h1, h2 => simp at h1 h2; subst h1; subst h2; exact .pure (.bool _)
  | j + 3, h1, h2 => simp at h1
theorem a5n {s p : List UInt8} : PCalls (EE w0 base) 84 [.str s, .str p] fun rv => rv = .bool (Lib.hasPrefix s p) := by
  refine a3n rfl fun I ν w vs hh hl hv => ?_
  match vs, hl with
  | [v1, v2], _ =>
  have e1 := (hv 0 _ v1 rfl rfl).str_inv
  have e2 := (hv 1 _ v2 rfl rfl).str_inv
  subst e1; subst e2
  exact ⟨_, fun w I => .pure (.bool _), (Tryz.strings_HasPrefix ⟨s.toArray⟩ ⟨p.toArray⟩ w).mono fun e w' ⟨he, hw⟩ => ⟨he, by subst hw; exact Below.refl _ _⟩⟩
theorem a4n {s : List UInt8} {c : UInt8} : PCalls (EE w0 base) 147 [.str s, .int .u8 (c.toNat : Int)] fun rv => rv = .int .i64 (Lib.indexByte s c) := by
  refine a3n rfl fun I ν w vs hh hl hv => ?_
  match vs, hl with
  | [v1, v2], _ =>
  have e1 := (hv 0 _ v1 rfl rfl).str_inv
  have e2 := (hv 1 _ v2 rfl rfl).int_inv
  subst e1; subst e2
  have hc : ((c.toNat : Int).toNat).toUInt8 = c := by simp
  have := Tryz.strings_IndexByte ⟨s.toArray⟩ (c.toNat : Int) w
  rw [hc] at this
  exact ⟨_, fun w I => .pure (.int _ _), this.mono fun e w' ⟨he, hw⟩ => ⟨he, by subst hw; exact Below.refl _ _⟩⟩
theorem b6h {s : List UInt8} (hs : s.length ≤ 9223372036854775807) : PCalls (EE w0 base) 89 [.str s, .str [32, 9]] fun rv => rv = .str (Lib.trimS s [32, 9]) := by
  refine a3n rfl fun I ν w vs hh hl hv => ?_
  match vs, hl with
  | [v1, v2], _ =>
  have e1 := (hv 0 _ v1 rfl rfl).str_inv
  have e2 := (hv 1 _ v2 rfl rfl).str_inv
  subst e1; subst e2
  exact ⟨_, fun w I => .pure (.str _), Any.strings_Trim_laid Tryz.lays160 (by kernel_rfl) ⟨s.toArray⟩ ⟨#[32, 9]⟩ w hs (by decide) (fun j b h => by
    match j, h with
    | 0, h => simp at h; subst h; decide
    | 1, h => simp at h; subst h; decide
    | j + 2, h => simp at h)⟩
theorem noEscape (x : Value) (w : World) : (callFunc 148 #[x]).run Tryz.prog w = .ok (.value x) w := by
  rw [run_callFunc_extern Tryz.func148 (by kernel_rfl) (by kernel_rfl) (by kernel_rfl) (e := Extern.AbiNoEscape.same) (by kernel_rfl)]
  rfl
theorem b0g {p x : AV} (hp : p = .nilp ∨ p = .op 0 0) {rest : List AO} : ACalls (EE w0 base) 110 [.op 0 0] (.box [p, x] (some 128) :: rest) fun rv os => rv = .tup [] ∧ os = .box [.op 0 0, x] (some 128) :: rest := by
  refine a1s Tryz.func110 rfl rfl rfl (.cons .nil) ?_
  rcases hp with rfl | rfl
  · repeat' (first|(first|refine a0b (a1k (n := 0) rfl rfl) rfl ?_|refine a0b (a9f rfl rfl) rfl ?_|refine a0b (b7r rfl rfl (by decide) (by simp)) rfl ?_|(refine a0d ?_;refine a0b (c5r noEscape rfl) rfl ?_)|refine a0b (b3i rfl rfl (by kernel_rfl)) rfl ?_)|(refine a2k ?_;first|refine a0b (a0l rfl) rfl ?_|refine a0b (a0f rfl rfl) rfl ?_|(refine a1g ?_;first|refine a0b (a0w rfl rfl) rfl ?_)|refine a0u ?_|refine a1c rfl rfl rfl rfl rfl (by repeat constructor) (by repeat constructor) ?_)|(first|refine a1n ?_|(refine a1o ?_;first|refine a0c (a0a ?_)|refine a0c ?_|refine a0a ?_|(refine a0x ?_;first|refine a0g rfl (by with_reducible rfl) ?_|refine a0h rfl (by with_reducible rfl) ?_)|refine a0k ?_)))
    refine ret0 (by first | exact .inr rfl | exact .inl rfl) rfl ⟨rfl, rfl⟩
  · repeat' (first|(first|refine a0b (a1k (n := 0) rfl rfl) rfl ?_|refine a0b (a2y rfl rfl rfl) rfl ?_|refine a0b (b4w rfl rfl) rfl ?_)|(refine a2k ?_;first|refine a0b (a0l rfl) rfl ?_|refine a0b (a0f rfl rfl) rfl ?_|(refine a1g ?_;first|refine a0b (a0w rfl rfl) rfl ?_)|refine a0u ?_|refine a1c rfl rfl rfl rfl rfl (by repeat constructor) (by repeat constructor) ?_)|(first|refine a1n ?_|(refine a1o ?_;first|refine a0c (a0a ?_)|refine a0c ?_|refine a0a ?_|(refine a0x ?_;first|refine a0g rfl (by with_reducible rfl) ?_|refine a0h rfl (by with_reducible rfl) ?_)|refine a0k ?_)))
    refine ret0 (by first | exact .inr rfl | exact .inl rfl) rfl ⟨rfl, rfl⟩

def BldB (l : List UInt8) (ver : Nat) (o : AO) : Prop := o = .row 5 1 ver 0 (bytesAV l) ∨ ∃ wr, o = .arr 5 1 ver (bytesAV l) wr
abbrev bldBox (p : AV) (ver : Nat) : AO := .box [p, .os 1 ver] (some 128)
theorem a3v {p : AV} (hp : p = .nilp ∨ p = .op 0 0) {bs s : List UInt8} {ver : Nat} (hb : bs.length + s.length ≤ 140737488355328) : ACalls (EE w0 base) 66 [.op 0 0, .str s] [bldBox p ver, .row 5 1 ver 0 (bytesAV bs)]
    fun rv os => rv = .tup [.int .i64 (s.length : Int), .nilif] ∧ os = [bldBox (.op 0 0) (ver + 1), .row 5 1 (ver + 1) 0 (bytesAV (bs ++ s))] := by
  refine a1s Tryz.func66 rfl rfl rfl (.cons (.cons .nil)) ?_
  have hbl : (bytesAV bs).length = bs.length := List.length_map _
  have hsl : (bytesAV s).length = s.length := List.length_map _
  have hq := hp
  rcases hp with rfl | rfl
  all_goals
    repeat' (first|(first|(refine a0d ?_;refine a0v [0,1] rfl rfl (b0g (x := .os 1 ver) (rest := [.row 5 1 ver 0 (bytesAV bs)]) hq) (by repeat constructor) (by repeat constructor) rfl rfl ?_;rintro _ _ ⟨rfl,rfl⟩;refine ⟨_,_,by repeat constructor,by repeat constructor,?_⟩)|refine a0b (a1k (n := 0) rfl rfl) rfl ?_|(refine a0d ?_;refine a4d rfl rfl (by repeat constructor) c5a rfl (by decide) (by simp;omega) rfl ?_))|(refine a2k ?_;first|refine a0b (a0l rfl) rfl ?_|refine a0b (a0f rfl rfl) rfl ?_|(refine a1g ?_;first|refine a0b (a0w rfl rfl) rfl ?_)|refine a0b (a0e rfl) rfl ?_|(refine a0d ?_;first|refine a0b (a0p rfl) rfl ?_)|refine a0u ?_|refine a1c rfl rfl rfl rfl rfl (by repeat constructor) (by repeat constructor) ?_)|(first|refine a1n ?_|(refine a1o ?_;first|refine a0c (a0a ?_)|refine a0c ?_|refine a0a ?_|refine a0o ?_)))
    refine ret2 (by first | exact .inr rfl | exact .inl rfl) rfl rfl rfl ?_
    exact ⟨rfl, by simp only [bytesAV, List.map_append]; rfl⟩
theorem b5z {p : AV} (hp : p = .nilp ∨ p = .op 0 0) {bs : List UInt8} {c : UInt8} {ver : Nat} (hb : bs.length + 1 ≤ 140737488355328) : ACalls (EE w0 base) 127 [.op 0 0, .int .u8 (c.toNat : Int)] [bldBox p ver, .row 5 1 ver 0 (bytesAV bs)]
    fun rv os => rv = .nilif ∧ os = [bldBox (.op 0 0) (ver + 1), .row 5 1 (ver + 1) 0 (bytesAV (bs ++ [c]))] := by
  refine a1s Tryz.func127 rfl rfl rfl (.cons (.cons .nil)) ?_
  have hbl : (bytesAV bs).length = bs.length := List.length_map _
  have hq := hp
  rcases hp with rfl | rfl
  all_goals
    repeat' (first|(first|(refine a0d ?_;refine a0v [0,1] rfl rfl (b0g (x := .os 1 ver) (rest := [.row 5 1 ver 0 (bytesAV bs)]) hq) (by repeat constructor) (by repeat constructor) rfl rfl ?_;rintro _ _ ⟨rfl,rfl⟩;refine ⟨_,_,by repeat constructor,by repeat constructor,?_⟩)|refine a0b (a1k (n := 0) rfl rfl) rfl ?_|(refine a0d ?_;refine a4d rfl rfl (by repeat constructor) (a6q rfl rfl) rfl (by decide) (by simp;omega) rfl ?_))|(refine a2k ?_;first|refine a0b (a0l rfl) rfl ?_|refine a0b (a0f rfl rfl) rfl ?_|(refine a1g ?_;first|refine a0b (a0w rfl rfl) rfl ?_)|refine a0b (a0e rfl) rfl ?_|refine a0u ?_|refine a1c rfl rfl rfl rfl rfl (by repeat constructor) (by repeat constructor) ?_|refine a2e (by rfl) (by rfl) (by rfl) (by rfl) (by decide) (by decide) (by rfl) (by rfl) (by repeat constructor) (by rfl) (by repeat constructor) (by rfl) (by first|exact ln2) (by repeat constructor) rfl ?_)|(first|refine a1n ?_|(refine a1o ?_;first|refine a0c (a0a ?_)|refine a0c ?_|refine a0a ?_|refine a0o ?_)))
    refine a2m (.of (Wk'.drop (H := [_, _]) (sl' := [(4, _)]) (ex := [_]) (.cons rfl .nil) rfl (by repeat constructor) rfl)) ?_
    refine ret1 (by first | exact .inr rfl | exact .inl rfl) rfl rfl ?_
    exact ⟨rfl, by simp only [bytesAV, List.map_append]; rfl⟩
set_option maxHeartbeats 2000000 in
theorem b2l {p : AV} {l : List UInt8} {ver : Nat} {o : AO} (hp : p = .nilp ∨ p = .op 0 0) (ho : BldB l ver o) (hlen : l.length ≤ 9223372036854775807) : ACalls (EE w0 base) 68 [.op 0 0] [bldBox p ver, o] fun rv os => rv = .str l ∧ ∃ o', os = [bldBox p ver, o'] ∧ BldB l ver o' := by
  refine a1s Tryz.func68 rfl rfl rfl (.cons .nil) ?_
  have hbl : (bytesAV l).length = l.length := List.length_map _
  by_cases hne : l = []
  · subst hne
    rcases ho with rfl | ⟨wr, rfl⟩
    · repeat' (first|(first|refine a3b (id := 1) [] [⟨0,true,[],bl 12 992⟩,⟨1,true,[],bl 12 993⟩,⟨2,true,[],bl 12 995⟩,⟨3,true,[],bl 12 999⟩,⟨5,true,[],bl 12 31⟩,⟨6,true,[],bl 12 63⟩,⟨7,true,[],bl 12 127⟩,⟨8,true,[],bl 12 255⟩,⟨9,true,[],bl 12 511⟩,⟨4,false,[],[]⟩,⟨10,false,[],[]⟩,⟨11,true,[],bl 12 2047⟩] (by kernel_rfl) (by kernel_rfl) rfl (by kernel_rfl) ?_|refine a2c (a1k (n := 0) rfl rfl) rfl ?_|refine c0m rfl rfl (.row _ _) (by repeat constructor) rfl rfl (fun pv hpv => ?_)|refine a0b (b6o rfl hpv rfl) rfl ?_)|(refine a2k ?_;first|refine a0b (a0l rfl) rfl ?_|refine a0b (a0f rfl rfl) rfl ?_|refine a0b (a0e rfl) rfl ?_|refine a0u ?_)|(first|refine a1n ?_|(refine a1o ?_;first|refine a0c (a0a ?_)|refine a0c ?_|refine a0a ?_|refine a0o ?_))|(first|(refine a7n ?_;first|refine a7p rfl ?_|refine a2c (a0l rfl) rfl ?_|refine a2c (a0e rfl) rfl ?_|refine a2c (a0f rfl rfl) rfl ?_|refine a2c (a0w rfl rfl) rfl ?_|refine a2c (a3m rfl rfl rfl) rfl ?_)|refine a4o rfl ?_|(refine a7o ?_;first|refine a7q ?_)|refine a3r ?_|refine a3j ?_))
      refine a2m (.of (Wk'.drop (H := [_, _]) (sl' := [(2, _)]) (ex := [_]) (.cons rfl .nil) rfl (.cons (by rcases hp with rfl | rfl <;> rfl) (.cons trivial .nil)) rfl)) ?_
      refine ret1 (by first | exact .inr rfl | exact .inl rfl) rfl rfl ?_
      exact ⟨rfl, _, rfl, .inl rfl⟩
    · repeat' (first|(first|refine a3b (id := 1) [] [⟨0,true,[],bl 12 992⟩,⟨1,true,[],bl 12 993⟩,⟨2,true,[],bl 12 995⟩,⟨3,true,[],bl 12 999⟩,⟨5,true,[],bl 12 31⟩,⟨6,true,[],bl 12 63⟩,⟨7,true,[],bl 12 127⟩,⟨8,true,[],bl 12 255⟩,⟨9,true,[],bl 12 511⟩,⟨4,false,[],[]⟩,⟨10,false,[],[]⟩,⟨11,true,[],bl 12 2047⟩] (by kernel_rfl) (by kernel_rfl) rfl (by kernel_rfl) ?_|refine a2c (a1k (n := 0) rfl rfl) rfl ?_|refine a2c (a7j rfl rfl rfl) rfl ?_|refine c0m rfl rfl (.arr _ _) (by repeat constructor) rfl rfl (fun pv hpv => ?_)|refine a0b (b6o rfl hpv rfl) rfl ?_)|(refine a2k ?_;first|refine a0b (a0l rfl) rfl ?_|refine a0b (a0f rfl rfl) rfl ?_|refine a0b (a0e rfl) rfl ?_|refine a0u ?_)|(first|refine a1n ?_|(refine a1o ?_;first|refine a0c (a0a ?_)|refine a0c ?_|refine a0a ?_|refine a0o ?_))|(first|(refine a7n ?_;first|refine a7p rfl ?_|refine a2c (a0l rfl) rfl ?_|refine a2c (a0e rfl) rfl ?_|refine a2c (a0f rfl rfl) rfl ?_|refine a2c (a0w rfl rfl) rfl ?_|refine a2c (a3m rfl rfl rfl) rfl ?_)|refine a4o rfl ?_|(refine a7o ?_;first|refine a7q ?_)|refine a3r ?_|refine a3j ?_))
      refine a2m (.of (Wk'.drop (H := [_, _]) (sl' := [(2, _)]) (ex := [_]) (.cons rfl .nil) rfl (.cons (by rcases hp with rfl | rfl <;> rfl) (.cons trivial .nil)) rfl)) ?_
      refine ret1 (by first | exact .inr rfl | exact .inl rfl) rfl rfl ?_
      exact ⟨rfl, _, rfl, .inr ⟨_, rfl⟩⟩
  · rcases ho with rfl | ⟨wr, rfl⟩
    · repeat' (first|(first|refine a3b (id := 1) [(10,[1])] [⟨0,true,[],bl 12 992⟩,⟨1,true,[],bl 12 993⟩,⟨2,true,[],bl 12 995⟩,⟨3,true,[],bl 12 999⟩,⟨4,true,[],bl 12 1007⟩,⟨5,true,[],bl 12 31⟩,⟨6,true,[],bl 12 63⟩,⟨7,true,[],bl 12 127⟩,⟨8,true,[],bl 12 255⟩,⟨9,true,[],bl 12 511⟩,⟨10,false,[],[]⟩,⟨11,true,[],bl 12 2047⟩] (by kernel_rfl) (by kernel_rfl) rfl (by kernel_rfl) ?_|refine a2c (a1k (n := 0) rfl rfl) rfl ?_|refine a2c (c4f rfl rfl (.row _ _) hne) rfl ?_|(refine a4j (.spell 12 (.int .i64 (l.length : Int)) rfl (by rw [hbl])) ?_;refine c1o (by kernel_rfl) rfl rfl (by repeat constructor) ⟨.inl rfl,rfl⟩ hne hlen rfl ?_))|(refine a2k ?_;first|refine a0b (a0l rfl) rfl ?_|refine a0b (a0f rfl rfl) rfl ?_|refine a0b (a0e rfl) rfl ?_|refine a0u ?_)|(first|refine a1n ?_|(refine a1o ?_;first|refine a0c (a0a ?_)|refine a0c ?_|refine a0a ?_|refine a0o ?_))|(first|(refine a7n ?_;first|refine a7p rfl ?_|refine a2c (a0l rfl) rfl ?_|refine a2c (a0e rfl) rfl ?_|refine a2c (a0f rfl rfl) rfl ?_|refine a2c (a0w rfl rfl) rfl ?_|refine a2c (a3m rfl rfl rfl) rfl ?_)|refine a4o rfl ?_|(refine a7o ?_;first|refine a7q ?_)|refine a3r ?_|refine a3j ?_))
      refine ret1 (by first | exact .inr rfl | exact .inl rfl) rfl rfl ?_
      exact ⟨rfl, _, rfl, .inr ⟨_, rfl⟩⟩
    · repeat' (first|(first|refine a3b (id := 1) [(10,[1])] [⟨0,true,[],bl 12 992⟩,⟨1,true,[],bl 12 993⟩,⟨2,true,[],bl 12 995⟩,⟨3,true,[],bl 12 999⟩,⟨4,true,[],bl 12 1007⟩,⟨5,true,[],bl 12 31⟩,⟨6,true,[],bl 12 63⟩,⟨7,true,[],bl 12 127⟩,⟨8,true,[],bl 12 255⟩,⟨9,true,[],bl 12 511⟩,⟨10,false,[],[]⟩,⟨11,true,[],bl 12 2047⟩] (by kernel_rfl) (by kernel_rfl) rfl (by kernel_rfl) ?_|refine a2c (a1k (n := 0) rfl rfl) rfl ?_|refine a2c (a7j rfl rfl rfl) rfl ?_|refine a2c (c4f rfl rfl (.arr _ _) hne) rfl ?_|(refine a4j (.spell 12 (.int .i64 (l.length : Int)) rfl (by rw [hbl])) ?_;refine c1o (by kernel_rfl) rfl rfl (by repeat constructor) ⟨.inr ⟨_,rfl⟩,rfl⟩ hne hlen rfl ?_))|(refine a2k ?_;first|refine a0b (a0l rfl) rfl ?_|refine a0b (a0f rfl rfl) rfl ?_|refine a0b (a0e rfl) rfl ?_|refine a0u ?_)|(first|refine a1n ?_|(refine a1o ?_;first|refine a0c (a0a ?_)|refine a0c ?_|refine a0a ?_|refine a0o ?_))|(first|(refine a7n ?_;first|refine a7p rfl ?_|refine a2c (a0l rfl) rfl ?_|refine a2c (a0e rfl) rfl ?_|refine a2c (a0f rfl rfl) rfl ?_|refine a2c (a0w rfl rfl) rfl ?_|refine a2c (a3m rfl rfl rfl) rfl ?_)|refine a4o rfl ?_|(refine a7o ?_;first|refine a7q ?_)|refine a3r ?_|refine a3j ?_))
      refine ret1 (by first | exact .inr rfl | exact .inl rfl) rfl rfl ?_
      exact ⟨rfl, _, rfl, .inr ⟨_, rfl⟩⟩
end
end Go.Proofs.YtkljmljkiodnpaaGreatDoor.L

namespace Go.Proofs.YtkljmljkiodnpaaGreatDoor.L
open Go Go.RowKit Go.Proofs
attribute [local irreducible] AL QL AWp Thn InB RetQ ACalls LoopQ HL HO HW HQ NoG

def hasBr (s : List UInt8) : Prop := 13 ∈ s ∨ 10 ∈ s
instance (s : List UInt8) : Decidable (hasBr s) := by unfold hasBr; infer_instance
theorem b3n (c : UInt8) : 0 ≤ Lib.indexByte [13, 10] c ↔ c = 13 ∨ c = 10 := by
  unfold Lib.indexByte Lib.indexByte Lib.indexByte
  by_cases h1 : (13 : UInt8) == c
  · rw [if_pos h1]
    have := eq_of_beq h1
    simp [← this]
  · rw [if_neg h1]
    have n1 : c ≠ 13 := fun e => h1 (by simp [e])
    by_cases h2 : (10 : UInt8) == c
    · rw [if_pos h2]
      have := eq_of_beq h2
      simp [← this]
    · rw [if_neg h2]
      have n2 : c ≠ 10 := fun e => h2 (by simp [e])
      simp [n1, n2]
theorem b5c : ∀ s : List UInt8, 0 ≤ Lib.indexAny s [13, 10] ↔ hasBr s := by
  intro s
  induction s with
  | nil => simp [Lib.indexAny, hasBr]
  | cons b s ih =>
    unfold Lib.indexAny
    have hc : ([13, 10] : List UInt8).contains b = true ↔ b = 13 ∨ b = 10 := by simp
    have hge := Lib.indexAny_ge [13, 10] s
    unfold hasBr at ih ⊢
    simp only [List.mem_cons]
    by_cases h : ([13, 10] : List UInt8).contains b = true
    · rw [if_pos h]
      rcases hc.1 h with rfl | rfl <;> simp
    · rw [if_neg h]
      have h13 : ¬ (13 : UInt8) = b := fun e => h (hc.2 (.inl e.symm))
      have h10 : ¬ (10 : UInt8) = b := fun e => h (hc.2 (.inr e.symm))
      simp only [h13, h10, false_or]
      rw [← ih]
      by_cases h2 : Lib.indexAny s [13, 10] == -1
      · have := eq_of_beq h2
        rw [if_pos h2]; omega
      · have : Lib.indexAny s [13, 10] ≠ -1 := fun e => h2 (by simp [e])
        rw [if_neg h2]; omega

section
variable {E : Env} {sl : Slots} {H : List AO}
theorem b7q {src dst n b n' b' : Nat} {k k' : IntKind} {z z' : Value} [ts : TI E.P src (.int k) n b z] [td : TI E.P dst .string n' b' z'] {x : Operand} {m : Int} {s : List UInt8} (hx : ev sl x = some (.int k' m)) (h : (Utf8.encode m).data.toList = s) : OV E sl H (.convert src dst x) (.str s) := h ▸ c5s hx
end

section
variable {w0 : World} {base : Nat}
theorem c2i {n : Nat} : PCalls (EE w0 base) 152 [.int .i64 (n : Int)] fun rv => rv = .bool (decide ((n : Int) > 8)) := by
  refine a1s Tryz.func152 rfl rfl rfl (.cons .nil) ?_
  repeat' (first | (refine a2k ?_; first | (refine a0b (a0l rfl) rfl ?_) | (refine a1a ?_; first | (refine a0b (a1h rfl rfl rfl) rfl ?_)) | (refine a0b (a0e rfl) rfl ?_) | (refine a0u ?_)) | (first | (refine a1n ?_) | (refine a1o ?_; first | (refine a0c (a0a ?_)) | (refine a0c ?_) | (refine a0a ?_) | (refine a0o ?_))))
  refine ret1 (by first | exact .inr rfl | exact .inl rfl) rfl rfl ?_
  exact ⟨rfl, rfl⟩
theorem c5b {c : Int} : PCalls (EE w0 base) 168 [.int .i32 c] fun rv => ∃ b, rv = .bool b := by
  refine a1s Tryz.func168 rfl rfl rfl (.cons .nil) ?_
  repeat' (first|(refine a2k ?_;first|refine a0b (a0l rfl) rfl ?_|(refine k_g ?_;first|refine a1j rfl rfl (by with_reducible rfl) ?_|refine a1w rfl rfl (by with_reducible rfl) rfl ?_|(refine a1z rfl rfl (fun hc => ?_) (fun hc => ?_) <;> (try (exfalso;omega))))|(refine a1a ?_;first|refine a0b (a1h rfl rfl rfl) rfl ?_)|(refine a1i ?_;first|refine a0b (a0j rfl (by with_reducible rfl) rfl) rfl ?_|refine a0b (a0i rfl (by with_reducible rfl) rfl) rfl ?_)|refine a0b (a0e rfl) rfl ?_|refine a0u ?_)|(first|refine a1n ?_|(refine a1o ?_;first|refine a0c (a0a ?_)|refine a0c ?_|refine a0a ?_|(refine a0x ?_;first|refine a0h rfl (by with_reducible rfl) ?_|(refine a0r rfl (fun hc => ?_) (fun hc => ?_) <;> (try (exfalso;omega))))|refine a0n ?_|refine a0o ?_|refine a0k ?_)|refine a0t ?_|refine a1v ?_|refine a1b ?_))
  all_goals
    refine ret1 (by first | exact .inr rfl | exact .inl rfl) rfl rfl ?_
    exact ⟨⟨_, rfl⟩, rfl⟩
theorem b2r {c : Nat} (h : c < 128) : PCalls (EE w0 base) 151 [.str [13, 10], .int .i32 (c : Int)] fun rv => rv = .int .i64 (Lib.indexByte [13, 10] c.toUInt8) := by
  refine a3n rfl fun I ν w vs hh hl hv => ?_
  match vs, hl with
  | [v1, v2], _ =>
  have e1 := (hv 0 _ v1 rfl rfl).str_inv
  have e2 := (hv 1 _ v2 rfl rfl).int_inv
  subst e1; subst e2
  have := Tryz.strings_IndexRune_ascii ⟨#[13, 10]⟩ (c : Int) w (by omega) (by omega)
  exact ⟨_, fun w I => .pure (.int _ _), this.mono fun e w' ⟨he, hw⟩ => ⟨he, by subst hw; exact Below.refl _ _⟩⟩
theorem b7l {c : Nat} (h : 128 ≤ c) : PCalls (EE w0 base) 151 [.str [13, 10], .int .i32 (c : Int)] fun rv => rv = .int .i64 (-1) := by
  obtain ⟨nd, l, b, he, hnd, h1, h3, hb⟩ : ∃ (nd l : List UInt8) (b : UInt8), (Utf8.encode (c : Int)).data.toList = nd ∧ nd = l ++ [b] ∧ 1 ≤ l.length ∧ l.length ≤ 3 ∧ 128 ≤ b.toNat := by
    obtain ⟨l, b, he, h⟩ := b8c h
    exact ⟨_, l, b, he, rfl, h⟩
  have hlen : nd.length = l.length + 1 := by simp [hnd]
  have hlast : nd[l.length]? = some b := by simp [hnd]
  refine a1s Tryz.func151 rfl rfl rfl (.cons (.cons .nil)) ?_
  repeat' (first|(first|refine a8i rfl (by first|exact ln0) (by repeat constructor) rfl ?_|(refine a0d ?_;refine a0q rfl rfl rfl rfl c5b ?_;rintro _ ⟨bv,rfl⟩)|refine a0b (b7q rfl he) rfl ?_)|(refine a2k ?_;first|refine a0b (a0l rfl) rfl ?_|(refine k_g ?_;first|refine a1j rfl rfl (by with_reducible rfl) ?_|(refine a1z rfl rfl (fun hc => ?_) (fun hc => ?_) <;> (try (exfalso;omega))))|(refine a1a ?_;first|refine a0b (a1h rfl rfl rfl) rfl ?_|refine a0b (a1p rfl rfl (by (first|exact w64 (by omega) (by omega)|rfl))) rfl ?_|refine a0b (a2s rfl rfl (by (first|exact w64 (by omega) (by omega)|rfl))) rfl ?_)|(refine a1i ?_;first|refine a0b (a0j rfl (by with_reducible rfl) rfl) rfl ?_)|refine a0b (a0e rfl) rfl ?_|(refine a0d ?_;first|refine a0b (a0p rfl) rfl ?_)|refine a0b (a0s rfl rfl) rfl ?_|refine a0u ?_|refine a0b (a2z rfl rfl) rfl ?_|refine a0b (a1u rfl rfl (by omega) (by omega)) rfl ?_)|(first|refine a1n ?_|(refine a1o ?_;first|refine a0c (a0a ?_)|refine a0c ?_|refine a0a ?_|(refine a0x ?_;first|refine a0g rfl (by with_reducible rfl) ?_|refine a0h rfl (by with_reducible rfl) ?_|(refine a0r rfl (fun hc => ?_) (fun hc => ?_) <;> (try (exfalso;omega)))|(refine a2p rfl (fun hc => ?_) (fun hc => ?_) <;> (try (exact absurd hc (by decide)))))|refine a0n ?_|refine a6a ?_|refine a0o ?_|refine a0k ?_|refine a1f ?_)|refine a0t ?_|refine a1q ?_|refine a2b ?_|refine a1d ?_|refine a1v ?_|refine a1b ?_|refine a1e ?_|refine a9i ?_))
  · refine a2o (fun p : Nat => ⟨[(0, .str [13, 10]), (175, .op 0 0)], [.siter [13, 10] p]⟩) (fun p => p ≤ 2) (fun p => 2 - p) 0 (.of (.same (by repeat constructor))) (by decide) ?_
    intro p hp
    try dsimp only
    repeat' (first|((refine b0f rfl rfl (fun wd => by repeat constructor) rfl (fun hle => ?_) (fun c wd hlt hd => ?_)))|(refine a2k ?_;first|refine a0b (a0l rfl) rfl ?_|(refine k_g ?_;first|refine a1j rfl rfl (by with_reducible rfl) ?_|(refine a1z rfl rfl (fun hc => ?_) (fun hc => ?_) <;> (try (exfalso;omega))))|(refine a1a ?_;first|refine a0b (a1h rfl rfl rfl) rfl ?_|refine a0b (a1p rfl rfl (by (first|exact w64 (by omega) (by omega)|rfl))) rfl ?_|refine a0b (a2s rfl rfl (by (first|exact w64 (by omega) (by omega)|rfl))) rfl ?_)|(refine a1i ?_;first|refine a0b (a0j rfl (by with_reducible rfl) rfl) rfl ?_)|refine a0b (a0e rfl) rfl ?_|(refine a0d ?_;first|refine a0b (a0p rfl) rfl ?_)|refine a0b (a0s rfl rfl) rfl ?_|refine a0u ?_|refine a0b (a2z rfl rfl) rfl ?_|refine a0b (a1u rfl rfl (by omega) (by omega)) rfl ?_)|(first|refine a1n ?_|(refine a1o ?_;first|refine a0c (a0a ?_)|refine a0c ?_|refine a0a ?_|(refine a0x ?_;first|refine a0g rfl (by with_reducible rfl) ?_|refine a0h rfl (by with_reducible rfl) ?_|(refine a0r rfl (fun hc => ?_) (fun hc => ?_) <;> (try (exfalso;omega)))|(refine a2p rfl (fun hc => ?_) (fun hc => ?_) <;> (try (exact absurd hc (by decide)))))|refine a0n ?_|refine a6a ?_|refine a0o ?_|refine a0k ?_|refine a1f ?_)|refine a0t ?_|refine a1q ?_|refine a2b ?_|refine a1d ?_|refine a1v ?_|refine a1b ?_|refine a1e ?_|refine a9i ?_))
    · refine ret1 (by first | exact .inr rfl | exact .inl rfl) rfl rfl ?_
      exact ⟨rfl, rfl⟩
    all_goals
      obtain ⟨hwd1, hk⟩ := hd
      have hc2 : c < 128 ∧ wd = 1 := by
        rcases hk with ⟨b, h1, h2, rfl, h4⟩ | ⟨h1, h2⟩
        · exact ⟨h2, h4⟩
        · exfalso
          match p, hlt with
          | 0, _ => exact absurd (h2 0 13 (by omega) rfl) (by decide)
          | 1, _ => exact absurd (h2 0 10 (by omega) rfl) (by decide)
      obtain ⟨hc2, rfl⟩ := hc2
      simp only [List.length_cons, List.length_nil] at hlt
    · exfalso; omega
    · first | refine a1y (p + 1) (.of (.same (by repeat constructor))) ?_ ?_ | fail
      · omega
      · omega
  · refine ret1 (by first | exact .inr rfl | exact .inl rfl) rfl rfl ?_
    exact ⟨rfl, rfl⟩
  · refine a2o (fun _ : Unit => ⟨[(0, .str [13, 10]), (7, .str nd), (8, .int .i64 ((nd.length : Int) - 1)), (9, .int .i64 ((nd.length : Int) - 1))], []⟩) (fun _ => True) (fun _ => 0) () (.of (.same (by repeat constructor))) trivial ?_
    intro _ _
    try dsimp only
    repeat' (first|(refine a2k ?_;first|refine a0b (a0l rfl) rfl ?_|(refine k_g ?_;first|refine a1j rfl rfl (by with_reducible rfl) ?_|(refine a1z rfl rfl (fun hc => ?_) (fun hc => ?_) <;> (try (exfalso;omega))))|(refine a1a ?_;first|refine a0b (a1h rfl rfl rfl) rfl ?_|refine a0b (a1p rfl rfl (by (first|exact w64 (by omega) (by omega)|rfl))) rfl ?_|refine a0b (a2s rfl rfl (by (first|exact w64 (by omega) (by omega)|rfl))) rfl ?_)|(refine a1i ?_;first|refine a0b (a0j rfl (by with_reducible rfl) rfl) rfl ?_)|refine a0b (a0e rfl) rfl ?_|(refine a0d ?_;first|refine a0b (a0p rfl) rfl ?_)|refine a0b (a0s rfl rfl) rfl ?_|refine a0u ?_|refine a0b (a2z rfl rfl) rfl ?_|refine a0b (a1u rfl rfl (by omega) (by omega)) rfl ?_)|(first|refine a1n ?_|(refine a1o ?_;first|refine a0c (a0a ?_)|refine a0c ?_|refine a0a ?_|(refine a0x ?_;first|refine a0g rfl (by with_reducible rfl) ?_|refine a0h rfl (by with_reducible rfl) ?_|(refine a0r rfl (fun hc => ?_) (fun hc => ?_) <;> (try (exfalso;omega)))|(refine a2p rfl (fun hc => ?_) (fun hc => ?_) <;> (try (exact absurd hc (by decide)))))|refine a0n ?_|refine a6a ?_|refine a0o ?_|refine a0k ?_|refine a1f ?_)|refine a0t ?_|refine a1q ?_|refine a2b ?_|refine a1d ?_|refine a1v ?_|refine a1b ?_|refine a1e ?_|refine a9i ?_))
    · rename_i hc
      have hc' : nd.length = 2 := by
        simp only [List.length_cons, List.length_nil] at hc
        omega
      have e1 : ((nd.length : Int) - 1) = 1 := by omega
      have hl1 : l.length = 1 := by omega
      rw [hl1] at hlast
      have hA : byteAt [13, 10] ((nd.length : Int) - 1) = 10 := by rw [e1]; rfl
      have hB : byteAt nd ((nd.length : Int) - 1) = (b.toNat : Int) := by rw [e1]; simp [byteAt, hlast]
      have hL : ([13, 10] : List UInt8).length = 2 := rfl
      have hcall : PCalls (EE w0 base) 147 [.str (([13, 10] : List UInt8).drop ((nd.length : Int) - 1 + 1).toNat), .int .u8 (byteAt nd ((nd.length : Int) - 1))] fun rv => rv = .int .i64 (-1) := by
        rw [e1]
        exact a4n
      repeat' (first|(first|refine b9n rfl rfl rfl rfl hcall rfl ?_|refine a4c (a2u rfl rfl (by omega) (by omega)) rfl ?_)|(refine a2k ?_;first|refine a0b (a0l rfl) rfl ?_|(refine k_g ?_;first|refine a1j rfl rfl (by with_reducible rfl) ?_|(refine a1z rfl rfl (fun hc => ?_) (fun hc => ?_) <;> (try (exfalso;omega))))|(refine a1a ?_;first|refine a0b (a1h rfl rfl rfl) rfl ?_|refine a0b (a1p rfl rfl (by (first|exact w64 (by omega) (by omega)|rfl))) rfl ?_|refine a0b (a2s rfl rfl (by (first|exact w64 (by omega) (by omega)|rfl))) rfl ?_)|(refine a1i ?_;first|refine a0b (a0j rfl (by with_reducible rfl) rfl) rfl ?_)|refine a0b (a0e rfl) rfl ?_|(refine a0d ?_;first|refine a0b (a0p rfl) rfl ?_)|refine a0b (a0s rfl rfl) rfl ?_|refine a0u ?_|refine a0b (a2z rfl rfl) rfl ?_|refine a0b (a1u rfl rfl (by omega) (by omega)) rfl ?_)|(first|refine a1n ?_|(refine a1o ?_;first|refine a0c (a0a ?_)|refine a0c ?_|refine a0a ?_|(refine a0x ?_;first|refine a0g rfl (by with_reducible rfl) ?_|refine a0h rfl (by with_reducible rfl) ?_|(refine a0r rfl (fun hc => ?_) (fun hc => ?_) <;> (try (exfalso;omega)))|(refine a2p rfl (fun hc => ?_) (fun hc => ?_) <;> (try (exact absurd hc (by decide)))))|refine a0n ?_|refine a6a ?_|refine a0o ?_|refine a0k ?_|refine a1f ?_)|refine a0t ?_|refine a1q ?_|refine a2b ?_|refine a1d ?_|refine a1v ?_|refine a1b ?_|refine a1e ?_|refine a9i ?_)|refine a7c (by kernel_rfl) (by kernel_rfl) ?_|(first|refine a4c (a0l rfl) rfl ?_|refine a4c (a0e rfl) rfl ?_|refine a4c (a1h rfl rfl rfl) rfl ?_|refine a4c (a0j rfl (by with_reducible rfl) rfl) rfl ?_|refine a4c (a0p rfl) rfl ?_|refine a4c (a0s rfl rfl) rfl ?_|refine a4c (a1u rfl rfl (by omega) (by omega)) rfl ?_|refine a4c (a1p rfl rfl (by (first|exact w64 (by omega) (by omega)|rfl))) rfl ?_|refine a4c (a2s rfl rfl (by (first|exact w64 (by omega) (by omega)|rfl))) rfl ?_|refine a4c (a2z rfl rfl) rfl ?_|refine b0u ?_))
      all_goals first | (exfalso; omega) | (refine ret1 (by first | exact .inr rfl | exact .inl rfl) rfl rfl ?_; exact ⟨rfl, rfl⟩)
    · refine ret1 (by first | exact .inr rfl | exact .inl rfl) rfl rfl ?_
      exact ⟨rfl, rfl⟩
theorem hv80 : ∀ w, (zeroValue 178).run Tryz.prog w = .ok (.agg (Array.replicate 256 (.bool false))) w := fun w => by kernel_rfl
theorem a8k {s : List UInt8} (h8 : s.length ≤ 8) : PCalls (EE w0 base) 121 [.str s, .str [13, 10]] fun rv => ∃ n, rv = .int .i64 n ∧ (0 ≤ n ↔ hasBr s) := by
  refine a1s Tryz.func121 rfl rfl rfl (.cons (.cons .nil)) ?_
  repeat' (first|(first|refine a8i rfl (by first|exact ln0) (by repeat constructor) rfl ?_|(refine a0d ?_;refine a0q rfl rfl rfl rfl c2i ?_;rintro _ rfl))|(refine a2k ?_;first|refine a0b (a0l rfl) rfl ?_|(refine a1a ?_;first|refine a0b (a1h rfl rfl rfl) rfl ?_|refine a0b (a2t rfl rfl) rfl ?_)|refine a0b (a0e rfl) rfl ?_|(refine a0d ?_;first|refine a0b (a0p rfl) rfl ?_)|refine a0b (a0s rfl rfl) rfl ?_|refine a0u ?_|refine a0b (a1u rfl rfl (by omega) (by omega)) rfl ?_)|(first|refine a1n ?_|(refine a1o ?_;first|refine a0c (a0a ?_)|refine a0c ?_|refine a0a ?_|(refine a0x ?_;first|refine a0g rfl (by with_reducible rfl) ?_|refine a0h rfl (by with_reducible rfl) ?_|(refine a0r rfl (fun hc => ?_) (fun hc => ?_) <;> (try (exfalso;omega))))|refine a0n ?_|refine a0o ?_|refine a0k ?_|refine a1f ?_)|refine a0t ?_|refine a1q ?_|refine a2b ?_|refine a1d ?_|refine a1v ?_|refine a1b ?_|refine a1e ?_))
  · exact absurd ‹_› (by decide)
  · exact absurd ‹_› (by decide)
  refine a2o (fun p : Nat => ⟨[(0, .str s), (1, .str [13, 10]), (45, .op 0 0)], [.siter s p]⟩) (fun p => ∀ (i : Nat) (b : UInt8), i < p → s[i]? = some b → b ≠ 13 ∧ b ≠ 10) (fun p => s.length - p) 0 (.of (.same (by repeat constructor))) (fun i b h => absurd h (Nat.not_lt_zero _)) ?_
  intro p hp
  try dsimp only
  repeat' (first|((refine b0f rfl rfl (fun wd => by repeat constructor) rfl (fun hle => ?_) (fun c wd hlt hd => ?_)))|(refine a2k ?_;first|refine a0b (a0l rfl) rfl ?_|(refine a1a ?_;first|refine a0b (a1h rfl rfl rfl) rfl ?_|refine a0b (a2t rfl rfl) rfl ?_)|refine a0b (a0e rfl) rfl ?_|(refine a0d ?_;first|refine a0b (a0p rfl) rfl ?_)|refine a0b (a0s rfl rfl) rfl ?_|refine a0u ?_|refine a0b (a1u rfl rfl (by omega) (by omega)) rfl ?_)|(first|refine a1n ?_|(refine a1o ?_;first|refine a0c (a0a ?_)|refine a0c ?_|refine a0a ?_|(refine a0x ?_;first|refine a0g rfl (by with_reducible rfl) ?_|refine a0h rfl (by with_reducible rfl) ?_|(refine a0r rfl (fun hc => ?_) (fun hc => ?_) <;> (try (exfalso;omega))))|refine a0n ?_|refine a0o ?_|refine a0k ?_|refine a1f ?_)|refine a0t ?_|refine a1q ?_|refine a2b ?_|refine a1d ?_|refine a1v ?_|refine a1b ?_|refine a1e ?_))
  · refine ret1 (by first | exact .inr rfl | exact .inl rfl) rfl rfl ?_
    refine ⟨⟨_, rfl, ?_⟩, rfl⟩
    refine ⟨fun h => absurd h (by decide), fun h => ?_⟩
    exfalso
    rcases h with h | h
    all_goals
      obtain ⟨i, hi, he⟩ := List.getElem_of_mem h
      have := hp i _ (by omega) (List.getElem?_eq_getElem hi)
      simp [he] at this
  · rcases hd.kind with ⟨b, h1, h2, rfl, rfl⟩ | ⟨h1, h2⟩
    · have hb : b.toNat.toUInt8 = b := by simp
      have hx := b3n b
      repeat' (first|((refine a0d ?_;refine a0q rfl rfl rfl rfl (b2r h2) ?_;rintro _ rfl))|(refine a2k ?_;first|refine a0b (a0l rfl) rfl ?_|(refine a1a ?_;first|refine a0b (a1h rfl rfl rfl) rfl ?_|refine a0b (a2t rfl rfl) rfl ?_)|refine a0b (a0e rfl) rfl ?_|(refine a0d ?_;first|refine a0b (a0p rfl) rfl ?_)|refine a0b (a0s rfl rfl) rfl ?_|refine a0u ?_|refine a0b (a1u rfl rfl (by omega) (by omega)) rfl ?_)|(first|refine a1n ?_|(refine a1o ?_;first|refine a0c (a0a ?_)|refine a0c ?_|refine a0a ?_|(refine a0x ?_;first|refine a0g rfl (by with_reducible rfl) ?_|refine a0h rfl (by with_reducible rfl) ?_|(refine a0r rfl (fun hc => ?_) (fun hc => ?_) <;> (try (exfalso;omega))))|refine a0n ?_|refine a0o ?_|refine a0k ?_|refine a1f ?_)|refine a0t ?_|refine a1q ?_|refine a2b ?_|refine a1d ?_|refine a1v ?_|refine a1b ?_|refine a1e ?_))
      · rename_i hc
        rw [hb] at hc
        refine ret1 (by first | exact .inr rfl | exact .inl rfl) rfl rfl ?_
        refine ⟨⟨_, rfl, ?_⟩, rfl⟩
        refine ⟨fun _ => ?_, fun _ => by omega⟩
        have hm := List.mem_of_getElem? h1
        rcases hx.1 hc with rfl | rfl
        · exact .inl hm
        · exact .inr hm
      · rename_i hc
        rw [hb] at hc
        have hn := mt hx.2 hc
        first | refine a1y (p + 1) (.of (.same (by repeat constructor))) ?_ ?_ | fail
        · intro i b' hi hb'
          rcases Nat.lt_or_ge i p with h | h
          · exact hp i b' h hb'
          · obtain rfl : i = p := by omega
            rw [h1] at hb'
            injection hb' with hb'
            subst hb'
            exact ⟨fun e => hn (.inl e), fun e => hn (.inr e)⟩
        · omega
    · repeat' (first|((refine a0d ?_;refine a0q rfl rfl rfl rfl (b7l h1) ?_;rintro _ rfl))|(refine a2k ?_;first|refine a0b (a0l rfl) rfl ?_|(refine a1a ?_;first|refine a0b (a1h rfl rfl rfl) rfl ?_|refine a0b (a2t rfl rfl) rfl ?_)|refine a0b (a0e rfl) rfl ?_|(refine a0d ?_;first|refine a0b (a0p rfl) rfl ?_)|refine a0b (a0s rfl rfl) rfl ?_|refine a0u ?_|refine a0b (a1u rfl rfl (by omega) (by omega)) rfl ?_)|(first|refine a1n ?_|(refine a1o ?_;first|refine a0c (a0a ?_)|refine a0c ?_|refine a0a ?_|(refine a0x ?_;first|refine a0g rfl (by with_reducible rfl) ?_|refine a0h rfl (by with_reducible rfl) ?_|(refine a0r rfl (fun hc => ?_) (fun hc => ?_) <;> (try (exfalso;omega))))|refine a0n ?_|refine a0o ?_|refine a0k ?_|refine a1f ?_)|refine a0t ?_|refine a1q ?_|refine a2b ?_|refine a1d ?_|refine a1v ?_|refine a1b ?_|refine a1e ?_))
      have hw := hd.wd1
      first | refine a1y (p + wd) (.of (.same (by repeat constructor))) ?_ ?_ | fail
      · intro i b' hi hb'
        rcases Nat.lt_or_ge i p with h | h
        · exact hp i b' h hb'
        · have := h2 (i - p) b' (by omega) (by rw [← hb']; congr 1; omega)
          constructor <;> (rintro rfl; exact absurd this (by decide))
      · omega
theorem a9b {s : List UInt8} (h8 : 8 < s.length) (hs : s.length < 4294967281) : PCalls (EE w0 base) 121 [.str s, .str [13, 10]] fun rv => rv = .int .i64 (Lib.indexAny s [13, 10]) := by
  refine a3n rfl fun I ν w vs hh hl hv => ?_
  match vs, hl with
  | [v1, v2], _ =>
  have e1 := (hv 0 _ v1 rfl rfl).str_inv
  have e2 := (hv 1 _ v2 rfl rfl).str_inv
  subst e1; subst e2
  have := Tryz.strings_IndexAny_long hv80 ⟨s.toArray⟩ ⟨#[13, 10]⟩ w (by decide) h8 hs (by decide) (fun j b h => by
    match j, h with
    | 0, h => simp at h; subst h; decide
    | 1, h => simp at h; subst h; decide
    | j + 2, h => simp at h)
  exact ⟨_, fun w I => .pure (.int _ _), this.mono fun e w' ⟨he, hw⟩ => ⟨he, by subst hw; exact ((Below.refl _ w).alloc (Nat.le_refl _) _).alloc (by simp) _⟩⟩
theorem b7m {s : List UInt8} (hs : s.length < 4294967281) : PCalls (EE w0 base) 121 [.str s, .str [13, 10]] fun rv => ∃ n, rv = .int .i64 n ∧ (0 ≤ n ↔ hasBr s) := by
  rcases Nat.lt_or_ge 8 s.length with h | h
  · exact a2w (a9b h hs) fun rv _ hr => ⟨⟨_, hr.1, b5c s⟩, hr.2⟩
  · exact a8k h
theorem b1p {s : List UInt8} (hs : s.length < 4294967281) : PCalls (EE w0 base) 73 [.str s, .str [13, 10]] fun rv => rv = .bool (decide (hasBr s)) := by
  refine a1s Tryz.func73 rfl rfl rfl (.cons (.cons .nil)) ?_
  repeat' (first|((refine a0d ?_;refine a0q rfl rfl rfl rfl (b7m hs) ?_;rintro _ ⟨n,rfl,hn⟩))|(refine a2k ?_;first|(refine a0b (a0l rfl) rfl ?_)|(refine a1a ?_;first|(refine a0b (a1h rfl rfl rfl) rfl ?_))|(refine a0b (a0e rfl) rfl ?_)|(refine a0u ?_))|(first|(refine a1n ?_)|(refine a1o ?_;first|(refine a0c (a0a ?_))|(refine a0c ?_)|(refine a0a ?_)|(refine a0o ?_))))
  refine ret1 (by first | exact .inr rfl | exact .inl rfl) rfl rfl ?_
  refine ⟨congrArg AV.bool ?_, rfl⟩
  exact decide_eq_decide.2 hn
end
end Go.Proofs.YtkljmljkiodnpaaGreatDoor.L

namespace Go.Proofs.YtkljmljkiodnpaaGreatDoor.L
open Go Go.RowKit Go.Proofs
attribute [local irreducible] AL QL AWp Thn InB RetQ ACalls LoopQ HL HO HW HQ NoG

abbrev bI (b : UInt8) : AV := .int .u8 (b.toNat : Int)
theorem a8c {P : UInt8 → Prop} (h : ∀ n : Fin 256, P (UInt8.ofNat n.1)) (b : UInt8) : P b := by
  have := h ⟨b.toNat, b.toNat_lt⟩
  simpa using this
def hexS : List UInt8 := [48, 49, 50, 51, 52, 53, 54, 55, 56, 57, 97, 98, 99, 100, 101, 102]
def hexI (b : UInt8) : Int := Lib.indexByte hexS (b ||| ((32 : UInt8) * ((b >>> 6) &&& 1)))
theorem c6b : ∀ b, hexI b ≤ 15 := a8c (by decide +kernel)
theorem c4k : ∀ b : UInt8, hexI b = if 48 ≤ b.toNat ∧ b.toNat ≤ 57 then (b.toNat : Int) - 48 else if 97 ≤ b.toNat ∧ b.toNat ≤ 102 then (b.toNat : Int) - 97 + 10 else if 65 ≤ b.toNat ∧ b.toNat ≤ 70 then (b.toNat : Int) - 65 + 10 else -1 := a8c (by decide +kernel)
def signs : List UInt8 := [33, 35, 36, 37, 38, 39, 42, 43, 45, 46, 94, 95, 96, 124, 126]
def pOdd (b : UInt8) : Bool := decide (b.toNat < 33) || decide (126 < b.toNat) || decide (b.toNat = 35)
def pVis (b : UInt8) : Bool := decide (33 ≤ b.toNat) && decide (b.toNat ≤ 126)
def pLoose (b : UInt8) : Bool := pVis b || decide (b.toNat = 32) || decide (b.toNat = 9)
def pLarge (b : UInt8) : Bool := decide (65 ≤ b.toNat) && decide (b.toNat ≤ 90)
def pDigit (b : UInt8) : Bool := decide (48 ≤ b.toNat) && decide (b.toNat ≤ 57)
def pToken (b : UInt8) : Bool := pLarge b || (decide (97 ≤ b.toNat) && decide (b.toNat ≤ 122)) || pDigit b || decide (0 ≤ Lib.indexByte signs b)

section
variable {w0 : World} {base : Nat}
theorem c3h (b : UInt8) : bits .or .u8 (b.toNat : Int) (IntKind.u8.wrap (32 * bits .and .u8 ((b.toNat : Int).fdiv (2 ^ (min (6 : Int).toNat IntKind.u8.bits))) 1)) = ((b ||| ((32 : UInt8) * ((b >>> 6) &&& 1))).toNat : Int) := by
  revert b
  exact a8c (by decide +kernel)
theorem c4e {b : UInt8} : PCalls (EE w0 base) 126 [bI b] fun rv => rv = .int .i64 (hexI b) := by
  refine a1s Tryz.func126 rfl rfl rfl (.cons .nil) ?_
  repeat' (first|(first|refine a0b (c7h rfl rfl (by decide) rfl) rfl ?_|refine a0b (b1v rfl rfl (.inl rfl) rfl) rfl ?_|refine a0b (a8f rfl rfl rfl) rfl ?_|refine a0b (b1v rfl rfl (.inr (.inl rfl)) (c3h b)) rfl ?_|(refine a0d ?_;refine a0q rfl rfl rfl rfl a4n ?_;rintro _ rfl))|(refine a2k ?_;first|refine a0b (a0l rfl) rfl ?_|refine a0b (a0e rfl) rfl ?_|refine a0u ?_)|(first|refine a1n ?_|(refine a1o ?_;first|refine a0c (a0a ?_)|refine a0c ?_|refine a0a ?_|refine a0o ?_)))
  refine ret1 (by first | exact .inr rfl | exact .inl rfl) rfl rfl ?_
  exact ⟨rfl, rfl⟩
theorem c8g {b : UInt8} : PCalls (EE w0 base) 85 [bI b] fun rv => rv = .bool (pOdd b) := by
  refine a1s Tryz.func85 rfl rfl rfl (.cons .nil) ?_
  repeat' (first|(refine a2k ?_;first|refine a0b (a0l rfl) rfl ?_|(refine k_g ?_;first|refine a1j rfl rfl (by with_reducible rfl) ?_|refine a1t rfl rfl (by with_reducible rfl) rfl ?_|(refine a1z rfl rfl (fun hc => ?_) (fun hc => ?_) <;> (try (exfalso;omega))))|(refine a1a ?_;first|refine a0b (a1h rfl rfl rfl) rfl ?_)|(refine a1i ?_;first|refine a0b (a0j rfl (by with_reducible rfl) rfl) rfl ?_|refine a0b (a0i rfl (by with_reducible rfl) rfl) rfl ?_)|refine a0b (a0e rfl) rfl ?_|refine a0u ?_)|(first|refine a1n ?_|(refine a1o ?_;first|refine a0c (a0a ?_)|refine a0c ?_|refine a0a ?_|refine a0o ?_)))
  all_goals
    refine ret1 (by first | exact .inr rfl | exact .inl rfl) rfl rfl ?_
    refine ⟨congrArg AV.bool ?_, rfl⟩
    (try unfold pVis at *); rw [Bool.eq_iff_iff]; simp only [pOdd, pVis, pLarge, pDigit, Bool.or_eq_true, Bool.and_eq_true, decide_eq_true_eq, Bool.or_eq_false_iff, Bool.and_eq_false_iff, decide_eq_false_iff_not, false_iff, iff_true, true_iff, iff_false, Bool.false_eq_true] at *; try omega
theorem c6x {b : UInt8} : PCalls (EE w0 base) 116 [bI b] fun rv => rv = .bool (pVis b) := by
  refine a1s Tryz.func116 rfl rfl rfl (.cons .nil) ?_
  repeat' (first|(refine a2k ?_;first|refine a0b (a0l rfl) rfl ?_|(refine k_g ?_;first|refine a1j rfl rfl (by with_reducible rfl) ?_|refine a1w rfl rfl (by with_reducible rfl) rfl ?_|(refine a1z rfl rfl (fun hc => ?_) (fun hc => ?_) <;> (try (exfalso;omega))))|(refine a1a ?_;first|refine a0b (a1h rfl rfl rfl) rfl ?_)|(refine a1i ?_;first|refine a0b (a0j rfl (by with_reducible rfl) rfl) rfl ?_|refine a0b (a0i rfl (by with_reducible rfl) rfl) rfl ?_)|refine a0b (a0e rfl) rfl ?_|refine a0u ?_)|(first|refine a1n ?_|(refine a1o ?_;first|refine a0c (a0a ?_)|refine a0c ?_|refine a0a ?_|refine a0o ?_)))
  all_goals
    refine ret1 (by first | exact .inr rfl | exact .inl rfl) rfl rfl ?_
    refine ⟨congrArg AV.bool ?_, rfl⟩
    (try unfold pVis at *); rw [Bool.eq_iff_iff]; simp only [pVis, pVis, pLarge, pDigit, Bool.or_eq_true, Bool.and_eq_true, decide_eq_true_eq, Bool.or_eq_false_iff, Bool.and_eq_false_iff, decide_eq_false_iff_not, false_iff, iff_true, true_iff, iff_false, Bool.false_eq_true] at *; try omega
theorem b1l {b : UInt8} : PCalls (EE w0 base) 115 [bI b] fun rv => rv = .bool (pLarge b) := by
  refine a1s Tryz.func115 rfl rfl rfl (.cons .nil) ?_
  repeat' (first|(refine a2k ?_;first|refine a0b (a0l rfl) rfl ?_|(refine k_g ?_;first|refine a1j rfl rfl (by with_reducible rfl) ?_|refine a1w rfl rfl (by with_reducible rfl) rfl ?_|(refine a1z rfl rfl (fun hc => ?_) (fun hc => ?_) <;> (try (exfalso;omega))))|(refine a1a ?_;first|refine a0b (a1h rfl rfl rfl) rfl ?_)|(refine a1i ?_;first|refine a0b (a0j rfl (by with_reducible rfl) rfl) rfl ?_|refine a0b (a0i rfl (by with_reducible rfl) rfl) rfl ?_)|refine a0b (a0e rfl) rfl ?_|refine a0u ?_)|(first|refine a1n ?_|(refine a1o ?_;first|refine a0c (a0a ?_)|refine a0c ?_|refine a0a ?_|refine a0o ?_)))
  all_goals
    refine ret1 (by first | exact .inr rfl | exact .inl rfl) rfl rfl ?_
    refine ⟨congrArg AV.bool ?_, rfl⟩
    (try unfold pVis at *); rw [Bool.eq_iff_iff]; simp only [pLarge, pVis, pLarge, pDigit, Bool.or_eq_true, Bool.and_eq_true, decide_eq_true_eq, Bool.or_eq_false_iff, Bool.and_eq_false_iff, decide_eq_false_iff_not, false_iff, iff_true, true_iff, iff_false, Bool.false_eq_true] at *; try omega
theorem b1n {b : UInt8} : PCalls (EE w0 base) 77 [bI b] fun rv => rv = .bool (pDigit b) := by
  refine a1s Tryz.func77 rfl rfl rfl (.cons .nil) ?_
  repeat' (first|(refine a2k ?_;first|refine a0b (a0l rfl) rfl ?_|(refine k_g ?_;first|refine a1j rfl rfl (by with_reducible rfl) ?_|refine a1w rfl rfl (by with_reducible rfl) rfl ?_|(refine a1z rfl rfl (fun hc => ?_) (fun hc => ?_) <;> (try (exfalso;omega))))|(refine a1a ?_;first|refine a0b (a1h rfl rfl rfl) rfl ?_)|(refine a1i ?_;first|refine a0b (a0j rfl (by with_reducible rfl) rfl) rfl ?_|refine a0b (a0i rfl (by with_reducible rfl) rfl) rfl ?_)|refine a0b (a0e rfl) rfl ?_|refine a0u ?_)|(first|refine a1n ?_|(refine a1o ?_;first|refine a0c (a0a ?_)|refine a0c ?_|refine a0a ?_|refine a0o ?_)))
  all_goals
    refine ret1 (by first | exact .inr rfl | exact .inl rfl) rfl rfl ?_
    refine ⟨congrArg AV.bool ?_, rfl⟩
    (try unfold pVis at *); rw [Bool.eq_iff_iff]; simp only [pDigit, pVis, pLarge, pDigit, Bool.or_eq_true, Bool.and_eq_true, decide_eq_true_eq, Bool.or_eq_false_iff, Bool.and_eq_false_iff, decide_eq_false_iff_not, false_iff, iff_true, true_iff, iff_false, Bool.false_eq_true] at *; try omega
theorem c5i {b : UInt8} : PCalls (EE w0 base) 119 [bI b] fun rv => rv = .bool (pLoose b) := by
  refine a1s Tryz.func119 rfl rfl rfl (.cons .nil) ?_
  repeat' (first|((refine a0d ?_;refine a0q rfl rfl rfl rfl c6x ?_;rintro _ rfl))|(refine a2k ?_;first|refine a0b (a0l rfl) rfl ?_|(refine k_g ?_;first|refine a1j rfl rfl (by with_reducible rfl) ?_|refine a1t rfl rfl (by with_reducible rfl) rfl ?_|(refine a1z rfl rfl (fun hc => ?_) (fun hc => ?_) <;> (try (exfalso;omega)))|(refine a3s rfl rfl (fun hc => ?_) (fun hc => ?_) <;> (try (exact absurd hc (by decide)))))|(refine a1a ?_;first|refine a0b (a1h rfl rfl rfl) rfl ?_)|(refine a1i ?_;first|refine a0b (a0j rfl (by with_reducible rfl) rfl) rfl ?_|refine a0b (a0i rfl (by with_reducible rfl) rfl) rfl ?_)|refine a0b (a0e rfl) rfl ?_|refine a0u ?_)|(first|refine a1n ?_|(refine a1o ?_;first|refine a0c (a0a ?_)|refine a0c ?_|refine a0a ?_|refine a0o ?_)))
  all_goals
    refine ret1 (by first | exact .inr rfl | exact .inl rfl) rfl rfl ?_
    refine ⟨congrArg AV.bool ?_, rfl⟩
    (try unfold pVis at *); rw [Bool.eq_iff_iff]; simp only [pLoose, pVis, pLarge, pDigit, Bool.or_eq_true, Bool.and_eq_true, decide_eq_true_eq, Bool.or_eq_false_iff, Bool.and_eq_false_iff, decide_eq_false_iff_not, false_iff, iff_true, true_iff, iff_false, Bool.false_eq_true] at *; try omega
theorem c5d {b : UInt8} : PCalls (EE w0 base) 118 [bI b] fun rv => rv = .bool (pToken b) := by
  refine a1s Tryz.func118 rfl rfl rfl (.cons .nil) ?_
  repeat' (first|(first|(refine a0d ?_;refine a0q rfl rfl rfl rfl b1l ?_;rintro _ rfl)|(refine a0d ?_;refine a0q rfl rfl rfl rfl b1n ?_;rintro _ rfl)|(refine a0d ?_;refine a0q rfl rfl rfl rfl a4n ?_;rintro _ rfl))|(refine a2k ?_;first|refine a0b (a0l rfl) rfl ?_|(refine k_g ?_;first|refine a1j rfl rfl (by with_reducible rfl) ?_|refine a1w rfl rfl (by with_reducible rfl) rfl ?_|refine a1t rfl rfl (by with_reducible rfl) rfl ?_|refine a4a rfl rfl rfl ?_|(refine a1z rfl rfl (fun hc => ?_) (fun hc => ?_) <;> (try (exfalso;omega)))|(refine a3s rfl rfl (fun hc => ?_) (fun hc => ?_) <;> (try (exact absurd hc (by decide)))))|(refine a1a ?_;first|refine a0b (a1h rfl rfl rfl) rfl ?_)|(refine a1i ?_;first|refine a0b (a0j rfl (by with_reducible rfl) rfl) rfl ?_|refine a0b (a0i rfl (by with_reducible rfl) rfl) rfl ?_)|refine a0b (a0e rfl) rfl ?_|refine a0u ?_)|(first|refine a1n ?_|(refine a1o ?_;first|refine a0c (a0a ?_)|refine a0c ?_|refine a0a ?_|refine a0o ?_)))
  all_goals
    refine ret1 (by first | exact .inr rfl | exact .inl rfl) rfl rfl ?_
    refine ⟨congrArg AV.bool ?_, rfl⟩
    (try unfold pVis at *); rw [Bool.eq_iff_iff]; simp only [pToken, pVis, pLarge, pDigit, Bool.or_eq_true, Bool.and_eq_true, decide_eq_true_eq, Bool.or_eq_false_iff, Bool.and_eq_false_iff, decide_eq_false_iff_not, false_iff, iff_true, true_iff, iff_false, Bool.false_eq_true] at *; try omega
    try (show (0 ≤ Lib.indexByte signs b ↔ _); omega)
end
end Go.Proofs.YtkljmljkiodnpaaGreatDoor.L

namespace Go.Proofs.YtkljmljkiodnpaaGreatDoor.L
open Go Go.RowKit Go.Proofs
attribute [local irreducible] AL QL AWp Thn InB RetQ ACalls LoopQ HL HO HW HQ NoG

def decOk : List UInt8 → Bool
  | [] => true
  | b :: r => if b = 37 then (match r with
    | x :: y :: r' => decide (0 ≤ hexI x) && (decide (0 ≤ hexI y) && decOk r')
    | _ => false) else decOk r
abbrev bAt (s : List UInt8) (m : Int) : UInt8 := s.getD m.toNat 0
theorem a3i (s : List UInt8) (m : Int) : byteAt s m = ((bAt s m).toNat : Int) := rfl
theorem a3q {s : List UInt8} {i : Nat} (h : i < s.length) : s.drop i = bAt s (i : Int) :: s.drop (i + 1) := by
  rw [List.drop_eq_getElem_cons h]
  simp [bAt, List.getD_eq_getElem?_getD, h]
theorem a7w (b : UInt8) (r : List UInt8) : decOk (b :: r) = if b = 37 then (match r with
    | x :: y :: r' => decide (0 ≤ hexI x) && (decide (0 ≤ hexI y) && decOk r')
    | _ => false) else decOk r := by
  cases r with
  | nil => rfl
  | cons x t => cases t with
    | nil => rfl
    | cons y r' => rfl
theorem c6g {s : List UInt8} {i : Nat} (h : s.length ≤ i) : decOk (s.drop i) = true := by
  rw [List.drop_eq_nil_of_le h]; rfl
theorem a4t {b : UInt8} (n : Nat) (hn : n < 256) (h : (b.toNat : Int) = n) : b = UInt8.ofNat n := by
  apply UInt8.toNat.inj
  simp
  omega
theorem b3t {s : List UInt8} {i : Nat} (h : i < s.length) (hb : ¬ byteAt s (i : Int) = 37) : decOk (s.drop i) = decOk (s.drop (i + 1)) := by
  rw [a3q h, a7w, if_neg]
  intro e
  rw [a3i, e] at hb
  exact hb rfl
theorem c1b {s : List UInt8} {i : Nat} (h : i < s.length) (hb : byteAt s (i : Int) = 37) (h2 : s.length ≤ i + 2) : decOk (s.drop i) = false := by
  have hb' : bAt s (i : Int) = 37 := a4t 37 (by decide) hb
  rw [a3q h, a7w, if_pos hb']
  match hd : s.drop (i + 1) with
  | [] => rfl
  | [x] => rfl
  | x :: y :: r =>
    have := congrArg List.length hd
    simp at this
    omega
theorem b2d {s : List UInt8} {i : Nat} (hb : byteAt s (i : Int) = 37) (h2 : i + 2 < s.length) : decOk (s.drop i) = (decide (0 ≤ hexI (bAt s ((i : Int) + 1))) && (decide (0 ≤ hexI (bAt s ((i : Int) + 2))) && decOk (s.drop (i + 3)))) := by
  have hb' : bAt s (i : Int) = 37 := a4t 37 (by decide) hb
  have e1 : bAt s ((i : Int) + 1) = bAt s ((i + 1 : Nat) : Int) := rfl
  have e2 : bAt s ((i : Int) + 2) = bAt s ((i + 2 : Nat) : Int) := rfl
  rw [a3q (show i < s.length by omega), a7w, if_pos hb', a3q (show i + 1 < s.length by omega), a3q (show i + 1 + 1 < s.length by omega), e1, e2]

def decB (x y : UInt8) : UInt8 := UInt8.ofNat (16 * (hexI x).toNat + (hexI y).toNat)
def decT (plus : Bool) : List UInt8 → List UInt8
  | [] => []
  | b :: r => if b = 37 then (match r with
    | x :: y :: r' => decB x y :: decT plus r'
    | _ => []) else (if plus && decide (b = 43) then 32 else b) :: decT plus r
theorem b3u (plus : Bool) (b : UInt8) (r : List UInt8) : decT plus (b :: r) = if b = 37 then (match r with
    | x :: y :: r' => decB x y :: decT plus r'
    | _ => []) else (if plus && decide (b = 43) then 32 else b) :: decT plus r := by
  rcases r with _ | ⟨x, _ | ⟨y, r'⟩⟩ <;> rfl
theorem c3n {plus : Bool} {s : List UInt8} {i : Nat} (h : s.length ≤ i) : decT plus (s.drop i) = [] := by
  rw [List.drop_eq_nil_of_le h]; rfl
theorem b1b {plus : Bool} {s : List UInt8} {i : Nat} (h : i < s.length) (hb : ¬ byteAt s (i : Int) = 37) : decT plus (s.drop i) = (if plus && decide (bAt s (i : Int) = 43) then 32 else bAt s (i : Int)) :: decT plus (s.drop (i + 1)) := by
  rw [a3q h, b3u, if_neg]
  intro e
  rw [a3i, e] at hb
  exact hb rfl
theorem c1c {plus : Bool} {s : List UInt8} {i : Nat} (hb : byteAt s (i : Int) = 37) (h2 : i + 2 < s.length) : decT plus (s.drop i) = decB (bAt s ((i : Int) + 1)) (bAt s ((i : Int) + 2)) :: decT plus (s.drop (i + 3)) := by
  have hb' : bAt s (i : Int) = 37 := a4t 37 (by decide) (by rw [← a3i]; exact hb)
  have e1 : bAt s ((i : Int) + 1) = bAt s ((i + 1 : Nat) : Int) := rfl
  have e2 : bAt s ((i : Int) + 2) = bAt s ((i + 1 + 1 : Nat) : Int) := rfl
  rw [a3q (show i < s.length by omega), b3u, if_pos hb', a3q (show i + 1 < s.length by omega), a3q (show i + 1 + 1 < s.length by omega), e1, e2]
theorem c7j : ∀ a b : Fin 16, IntKind.u8.wrap (bits .or .i64 (IntKind.i64.wrap ((a.1 : Int) * 2 ^ (min (4 : Int).toNat IntKind.i64.bits))) (b.1 : Int)) = ((16 * a.1 + b.1 : Nat) : Int) := by decide +kernel
theorem c0p {x : UInt8} (h : 0 ≤ hexI x) : ∃ a : Fin 16, hexI x = (a.1 : Int) := ⟨⟨(hexI x).toNat, by have := c6b x; omega⟩, by show hexI x = ((hexI x).toNat : Int); omega⟩
theorem c3o {x y : UInt8} {a b : Fin 16} (hx : hexI x = (a.1 : Int)) (hy : hexI y = (b.1 : Int)) : (decB x y).toNat = 16 * a.1 + b.1 := by
  unfold decB
  rw [hx, hy]
  have := a.2
  have := b.2
  simp
  omega
theorem c3g {x y c : UInt8} (hx : 0 ≤ hexI x) (hy : 0 ≤ hexI y) (hc : (c.toNat : Int) = IntKind.u8.wrap (bits .or .i64 (IntKind.i64.wrap (hexI x * 2 ^ (min (4 : Int).toNat IntKind.i64.bits))) (hexI y))) : c = decB x y := by
  obtain ⟨a, ha⟩ := c0p hx
  obtain ⟨b, hb⟩ := c0p hy
  apply UInt8.toNat_inj.1
  rw [c3o ha hb]
  rw [ha, hb, c7j] at hc
  omega
theorem b9p {plus : Bool} {b c : UInt8} (h : plus = true) (hb : (b.toNat : Int) = 43) (hc : (c.toNat : Int) = 32) : c = (if plus && decide (b = 43) then 32 else b) := by
  have e1 : b = 43 := a4t 43 (by decide) hb
  have e2 : c = 32 := a4t 32 (by decide) hc
  rw [h, e1, e2]; rfl
theorem b8y {plus : Bool} {b c : UInt8} (h : plus = false ∨ (b.toNat : Int) ≠ 43) (hc : (c.toNat : Int) = (b.toNat : Int)) : c = (if plus && decide (b = 43) then 32 else b) := by
  have e : c = b := UInt8.toNat_inj.1 (by omega)
  rw [e]
  rcases h with h | h
  · rw [h]; rfl
  · rw [if_neg]
    rw [Bool.and_eq_true, decide_eq_true_eq]
    rintro ⟨_, k⟩
    rw [k] at h
    exact h rfl
section
variable {w0 : World} {base : Nat}
def DecR (s : List UInt8) (plus : Bool) (rv : AV) : Prop := ∃ l e k, rv = .tup [.str l, .int .i64 e, .int .i64 k] ∧ (e = 0 ↔ decOk s = true) ∧ (e = 0 ∨ e = 60) ∧ 0 ≤ k ∧ k ≤ s.length ∧ (e = 0 → l = decT plus s)
theorem c4x (x : Int) : ∃ c : UInt8, IntKind.u8.wrap x = (c.toNat : Int) := by
  refine ⟨UInt8.ofNat (x % 256).toNat, ?_⟩
  rw [IntKind.wrap_u8]
  simp
  omega
theorem a8b {p : AV} (hp : p = .nilp ∨ p = .op 0 0) {bs : List UInt8} {x y : Int} {ver : Nat} (hy : y = IntKind.u8.wrap x) (hb : bs.length + 1 ≤ 140737488355328) : ACalls (EE w0 base) 127 [.op 0 0, .int .u8 y] [bldBox p ver, .row 5 1 ver 0 (bytesAV bs)]
    fun rv os => ∃ c : UInt8, (c.toNat : Int) = y ∧ rv = .nilif ∧ os = [bldBox (.op 0 0) (ver + 1), .row 5 1 (ver + 1) 0 (bytesAV (bs ++ [c]))] := by
  obtain ⟨c, hc⟩ := c4x x
  rw [hy, hc]
  exact a2w (b5z hp hb) fun rv os h => ⟨c, rfl, h⟩
theorem b8n (s : List UInt8) (m : Int) : byteAt s m = IntKind.u8.wrap (byteAt s m) := by
  have := (bAt s m).toNat_lt
  rw [a3i, w8 (by omega) (by omega)]
set_option maxHeartbeats 2000000 in
theorem b1o {s : List UInt8} {plus : Bool} (hs : s.length ≤ 65536) : PCalls (EE w0 base) 86 [.str s, .bool plus] fun rv => DecR s plus rv := by
  refine a1s Tryz.func86 rfl rfl rfl (.cons (.cons .nil)) ?_
  repeat' (first|((refine a7z rfl rfl rfl (by first|exact ln0) (by repeat constructor) rfl ?_))|(refine a2k ?_;first|refine a0b (a0l rfl) rfl ?_|(refine k_g ?_;first|refine a1j rfl rfl (by with_reducible rfl) ?_|refine a1w rfl rfl (by with_reducible rfl) rfl ?_|refine a1t rfl rfl (by with_reducible rfl) rfl ?_|(refine a1z rfl rfl (fun hc => ?_) (fun hc => ?_) <;> (try (exfalso;omega)))|(refine a3s rfl rfl (fun hc => ?_) (fun hc => ?_) <;> (try (exact absurd hc (by decide)))))|(refine a1a ?_;first|refine a0b (a1h rfl rfl rfl) rfl ?_|refine a0b (a1p rfl rfl (by (first|exact w64 (by omega) (by omega)|rfl))) rfl ?_)|(refine a1i ?_;first|refine a0b (a0j rfl (by with_reducible rfl) rfl) rfl ?_|refine a0b (a0i rfl (by with_reducible rfl) rfl) rfl ?_)|refine a0b (a0e rfl) rfl ?_|(refine a0d ?_;first|refine a0b (a0p rfl) rfl ?_)|refine a0u ?_|refine a0b (a1u rfl rfl (by omega) (by omega)) rfl ?_)|(first|refine a1n ?_|(refine a1o ?_;first|refine a0c (a0a ?_)|refine a0c ?_|refine a0a ?_|(refine a0x ?_;first|refine a0g rfl (by with_reducible rfl) ?_|refine a0h rfl (by with_reducible rfl) ?_|(refine a0r rfl (fun hc => ?_) (fun hc => ?_) <;> (try (exfalso;omega))))|refine a0n ?_|refine a0o ?_|refine a0k ?_|refine a1f ?_)|refine a0t ?_|refine a1q ?_|refine a2b ?_|refine a1d ?_|refine a1v ?_|refine a1b ?_|refine a1e ?_))
  refine a4y (.adoptBox (id := 0) (k := 1) (e := 5) (sz := 1) rfl rfl (by decide) rfl rfl rfl) ?_
  refine a2o (fun p : Nat × Nat × List UInt8 × AV => ⟨[(0, .str s), (1, .bool plus), (7, .op 0 0), (8, .int .i64 p.1)], [bldBox p.2.2.2 p.2.1, .row 5 1 p.2.1 0 (bytesAV p.2.2.1)]⟩)
    (fun p => p.1 ≤ s.length ∧ p.2.2.1.length ≤ p.1 ∧ (p.2.2.2 = .nilp ∨ p.2.2.2 = .op 0 0) ∧ decOk s = decOk (s.drop p.1) ∧ decT plus s = p.2.2.1 ++ decT plus (s.drop p.1)) (fun p => s.length - p.1) (0, 0, [], .nilp) (.of (.same (by repeat constructor))) ⟨Nat.zero_le _, Nat.le_refl _, .inl rfl, rfl, rfl⟩ ?_
  rintro ⟨i, ver, l, p⟩ ⟨hi, hl, hp, hd, hT⟩
  dsimp only at hi hl hp hd hT ⊢
  have hq := hp
  rcases hp with rfl | rfl
  all_goals
    repeat' (first|(first|(refine a0d ?_;refine a0q rfl rfl rfl rfl c4e ?_;rintro _ rfl))|(refine a2k ?_;first|refine a0b (a0l rfl) rfl ?_|(refine k_g ?_;first|refine a1j rfl rfl (by with_reducible rfl) ?_|refine a1w rfl rfl (by with_reducible rfl) rfl ?_|refine a1t rfl rfl (by with_reducible rfl) rfl ?_|(refine a1z rfl rfl (fun hc => ?_) (fun hc => ?_) <;> (try (exfalso;omega)))|(refine a3s rfl rfl (fun hc => ?_) (fun hc => ?_) <;> (try (exact absurd hc (by decide)))))|(refine a1a ?_;first|refine a0b (a1h rfl rfl rfl) rfl ?_|refine a0b (a1p rfl rfl (by (first|exact w64 (by omega) (by omega)|rfl))) rfl ?_)|(refine a1i ?_;first|refine a0b (a0j rfl (by with_reducible rfl) rfl) rfl ?_|refine a0b (a0i rfl (by with_reducible rfl) rfl) rfl ?_)|refine a0b (a0e rfl) rfl ?_|(refine a0d ?_;first|refine a0b (a0p rfl) rfl ?_)|refine a0u ?_|refine a0b (a1u rfl rfl (by omega) (by omega)) rfl ?_)|(first|refine a1n ?_|(refine a1o ?_;first|refine a0c (a0a ?_)|refine a0c ?_|refine a0a ?_|(refine a0x ?_;first|refine a0g rfl (by with_reducible rfl) ?_|refine a0h rfl (by with_reducible rfl) ?_|(refine a0r rfl (fun hc => ?_) (fun hc => ?_) <;> (try (exfalso;omega))))|refine a0n ?_|refine a0o ?_|refine a0k ?_|refine a1f ?_)|refine a0t ?_|refine a1q ?_|refine a2b ?_|refine a1d ?_|refine a1v ?_|refine a1b ?_|refine a1e ?_))
    · refine ret3 (by first | exact .inr rfl | exact .inl rfl) rfl rfl rfl rfl ?_
      refine ⟨⟨_, _, _, rfl, ⟨fun h => absurd h (by decide), fun h => ?_⟩, .inr rfl, by omega, by omega, fun h => absurd h (by decide)⟩, rfl⟩
      rw [hd, c1b (by omega) ‹_› (by omega)] at h
      cases h
    · have hx := b2d (s := s) (i := i) ‹_› (by omega); dsimp only [bAt] at hx
      refine ret3 (by first | exact .inr rfl | exact .inl rfl) rfl rfl rfl rfl ?_
      refine ⟨⟨_, _, _, rfl, ⟨fun h => absurd h (by decide), fun h => ?_⟩, .inr rfl, by omega, by omega, fun h => absurd h (by decide)⟩, rfl⟩
      rw [hd, hx, decide_eq_false (by omega)] at h
      cases h
    · have hx := b2d (s := s) (i := i) ‹_› (by omega); dsimp only [bAt] at hx
      refine ret3 (by first | exact .inr rfl | exact .inl rfl) rfl rfl rfl rfl ?_
      refine ⟨⟨_, _, _, rfl, ⟨fun h => absurd h (by decide), fun h => ?_⟩, .inr rfl, by omega, by omega, fun h => absurd h (by decide)⟩, rfl⟩
      rw [hd, hx, decide_eq_true (by omega), decide_eq_false (by omega)] at h
      cases h
    · have hx := b2d (s := s) (i := i) ‹_› (by omega); dsimp only [bAt] at hx
      rw [decide_eq_true (by omega), decide_eq_true (by omega)] at hx
      repeat' (first|(first|refine a3b (id := 9) [(13,[0,1])] [⟨0,true,[],bl 14 966⟩,⟨1,true,[],bl 14 961⟩,⟨2,true,[],bl 14 963⟩,⟨3,true,[],bl 14 967⟩,⟨6,true,[],bl 14 447⟩,⟨7,true,[],bl 14 127⟩,⟨8,true,[],bl 14 255⟩,⟨9,true,[],bl 14 511⟩,⟨4,false,[],[]⟩,⟨5,true,[],bl 14 2015⟩,⟨10,false,[],[]⟩,⟨11,true,[],bl 14 2047⟩,⟨12,true,[],bl 14 4095⟩,⟨13,false,[],[]⟩] (by kernel_rfl) (by kernel_rfl) rfl (by kernel_rfl) ?_|(refine a0d ?_;refine a0q rfl rfl rfl rfl c4e ?_;rintro _ rfl)|(refine a0d ?_;refine a0v [0,1] rfl rfl (a8b (bs := l) (ver := ver) hq rfl (by omega)) (by repeat constructor) (by repeat constructor) rfl rfl ?_;rintro _ _ ⟨c,hc1,rfl,rfl⟩;refine ⟨_,_,by repeat constructor,by repeat constructor,?_⟩)|refine a2c (c4g rfl rfl (by decide) rfl) rfl ?_|refine a2c (b1v rfl rfl (.inr (.inl rfl)) rfl) rfl ?_|refine a2c (a5f rfl rfl) rfl ?_)|(refine a2k ?_;first|refine a0b (a0l rfl) rfl ?_|(refine k_g ?_;first|refine a1j rfl rfl (by with_reducible rfl) ?_|refine a1w rfl rfl (by with_reducible rfl) rfl ?_|refine a1t rfl rfl (by with_reducible rfl) rfl ?_|(refine a1z rfl rfl (fun hc => ?_) (fun hc => ?_) <;> (try (exfalso;omega)))|(refine a3s rfl rfl (fun hc => ?_) (fun hc => ?_) <;> (try (exact absurd hc (by decide)))))|(refine a1a ?_;first|refine a0b (a1h rfl rfl rfl) rfl ?_|refine a0b (a1p rfl rfl (by (first|exact w64 (by omega) (by omega)|rfl))) rfl ?_)|(refine a1i ?_;first|refine a0b (a0j rfl (by with_reducible rfl) rfl) rfl ?_|refine a0b (a0i rfl (by with_reducible rfl) rfl) rfl ?_)|refine a0b (a0e rfl) rfl ?_|(refine a0d ?_;first|refine a0b (a0p rfl) rfl ?_)|refine a0u ?_|refine a0b (a1u rfl rfl (by omega) (by omega)) rfl ?_)|(first|refine a1n ?_|(refine a1o ?_;first|refine a0c (a0a ?_)|refine a0c ?_|refine a0a ?_|(refine a0x ?_;first|refine a0g rfl (by with_reducible rfl) ?_|refine a0h rfl (by with_reducible rfl) ?_|(refine a0r rfl (fun hc => ?_) (fun hc => ?_) <;> (try (exfalso;omega))))|refine a0n ?_|refine a0o ?_|refine a0k ?_|refine a1f ?_)|refine a0t ?_|refine a1q ?_|refine a2b ?_|refine a1d ?_|refine a1v ?_|refine a1b ?_|refine a1e ?_)|(first|(refine a7n ?_;first|refine a7p rfl ?_|refine a2c (a0l rfl) rfl ?_|refine a2c (a0e rfl) rfl ?_|refine a2c (a1h rfl rfl rfl) rfl ?_|refine a2c (a0j rfl (by with_reducible rfl) rfl) rfl ?_|refine a2c (a0i rfl (by with_reducible rfl) rfl) rfl ?_|refine a2c (a0p rfl) rfl ?_|refine a2c (a1u rfl rfl (by omega) (by omega)) rfl ?_|refine a2c (a1p rfl rfl (by (first|exact w64 (by omega) (by omega)|rfl))) rfl ?_)|refine a4o rfl ?_|(refine a7o ?_;first|refine a7q ?_)|refine a3r ?_|refine a3j ?_))
      first | refine a1y (i + 3, ver + 1, l ++ [c], .op 0 0) (.of (.same (by repeat constructor))) ?_ ?_ | fail
      · refine ⟨by omega, by simp; omega, .inr rfl, hd.trans hx, ?_⟩
        dsimp only
        rw [hT, c1c ‹_› (by omega), c3g (c := c) (by omega) (by omega) hc1]
        simp
      · dsimp only; omega
    · repeat' (first|((refine a0d ?_;refine a0v [0,1] rfl rfl (a8b (bs := l) (ver := ver) (x := 32) (y := 32) hq (by decide) (by omega)) (by repeat constructor) (by repeat constructor) rfl rfl ?_;rintro _ _ ⟨c,hc1,rfl,rfl⟩;refine ⟨_,_,by repeat constructor,by repeat constructor,?_⟩))|(refine a2k ?_;first|refine a0b (a0l rfl) rfl ?_|(refine k_g ?_;first|refine a1j rfl rfl (by with_reducible rfl) ?_|refine a1w rfl rfl (by with_reducible rfl) rfl ?_|refine a1t rfl rfl (by with_reducible rfl) rfl ?_|(refine a1z rfl rfl (fun hc => ?_) (fun hc => ?_) <;> (try (exfalso;omega)))|(refine a3s rfl rfl (fun hc => ?_) (fun hc => ?_) <;> (try (exact absurd hc (by decide)))))|(refine a1a ?_;first|refine a0b (a1h rfl rfl rfl) rfl ?_|refine a0b (a1p rfl rfl (by (first|exact w64 (by omega) (by omega)|rfl))) rfl ?_)|(refine a1i ?_;first|refine a0b (a0j rfl (by with_reducible rfl) rfl) rfl ?_|refine a0b (a0i rfl (by with_reducible rfl) rfl) rfl ?_)|refine a0b (a0e rfl) rfl ?_|(refine a0d ?_;first|refine a0b (a0p rfl) rfl ?_)|refine a0u ?_|refine a0b (a1u rfl rfl (by omega) (by omega)) rfl ?_)|(first|refine a1n ?_|(refine a1o ?_;first|refine a0c (a0a ?_)|refine a0c ?_|refine a0a ?_|(refine a0x ?_;first|refine a0g rfl (by with_reducible rfl) ?_|refine a0h rfl (by with_reducible rfl) ?_|(refine a0r rfl (fun hc => ?_) (fun hc => ?_) <;> (try (exfalso;omega))))|refine a0n ?_|refine a0o ?_|refine a0k ?_|refine a1f ?_)|refine a0t ?_|refine a1q ?_|refine a2b ?_|refine a1d ?_|refine a1v ?_|refine a1b ?_|refine a1e ?_))
      first | refine a1y (i + 1, ver + 1, l ++ [c], .op 0 0) (.of (.same (by repeat constructor))) ?_ ?_ | fail
      · refine ⟨by omega, by simp; omega, .inr rfl, hd.trans (b3t (by omega) ‹_›), ?_⟩
        dsimp only
        rw [hT, b1b (by omega) ‹_›, b9p (plus := plus) (b := bAt s (i : Int)) (c := c) ‹_› (by rw [← a3i]; assumption) hc1]
        simp
      · dsimp only; omega
    iterate 2
      · repeat' (first|((refine a0d ?_;refine a0v [0,1] rfl rfl (a8b (bs := l) (ver := ver) (x := byteAt s i) hq (b8n s i) (by omega)) (by repeat constructor) (by repeat constructor) rfl rfl ?_;rintro _ _ ⟨c,hc1,rfl,rfl⟩;refine ⟨_,_,by repeat constructor,by repeat constructor,?_⟩))|(refine a2k ?_;first|refine a0b (a0l rfl) rfl ?_|(refine k_g ?_;first|refine a1j rfl rfl (by with_reducible rfl) ?_|refine a1w rfl rfl (by with_reducible rfl) rfl ?_|refine a1t rfl rfl (by with_reducible rfl) rfl ?_|(refine a1z rfl rfl (fun hc => ?_) (fun hc => ?_) <;> (try (exfalso;omega)))|(refine a3s rfl rfl (fun hc => ?_) (fun hc => ?_) <;> (try (exact absurd hc (by decide)))))|(refine a1a ?_;first|refine a0b (a1h rfl rfl rfl) rfl ?_|refine a0b (a1p rfl rfl (by (first|exact w64 (by omega) (by omega)|rfl))) rfl ?_)|(refine a1i ?_;first|refine a0b (a0j rfl (by with_reducible rfl) rfl) rfl ?_|refine a0b (a0i rfl (by with_reducible rfl) rfl) rfl ?_)|refine a0b (a0e rfl) rfl ?_|(refine a0d ?_;first|refine a0b (a0p rfl) rfl ?_)|refine a0u ?_|refine a0b (a1u rfl rfl (by omega) (by omega)) rfl ?_)|(first|refine a1n ?_|(refine a1o ?_;first|refine a0c (a0a ?_)|refine a0c ?_|refine a0a ?_|(refine a0x ?_;first|refine a0g rfl (by with_reducible rfl) ?_|refine a0h rfl (by with_reducible rfl) ?_|(refine a0r rfl (fun hc => ?_) (fun hc => ?_) <;> (try (exfalso;omega))))|refine a0n ?_|refine a0o ?_|refine a0k ?_|refine a1f ?_)|refine a0t ?_|refine a1q ?_|refine a2b ?_|refine a1d ?_|refine a1v ?_|refine a1b ?_|refine a1e ?_))
        first | refine a1y (i + 1, ver + 1, l ++ [c], .op 0 0) (.of (.same (by repeat constructor))) ?_ ?_ | fail
        · refine ⟨by omega, by simp; omega, .inr rfl, hd.trans (b3t (by omega) ‹_›), ?_⟩
          dsimp only
          rw [hT, b1b (by omega) ‹_›, b8y (plus := plus) (b := bAt s (i : Int)) (c := c) (by first | exact .inl ‹_› | exact .inr (by rw [← a3i]; assumption)) (by rw [hc1, a3i])]
          simp
        · dsimp only; omega
    · repeat' (first|((refine a0d ?_;refine a0v [0,1] rfl rfl (b2l hq (l := l) (ver := ver) (.inl rfl) (by omega)) (by repeat constructor) (by repeat constructor) rfl rfl ?_;rintro _ _ ⟨rfl,o',rfl,rfl|⟨wr,rfl⟩⟩ <;> refine ⟨_,_,by repeat constructor,by repeat constructor,?_⟩))|(refine a2k ?_;first|refine a0b (a0l rfl) rfl ?_|(refine k_g ?_;first|refine a1j rfl rfl (by with_reducible rfl) ?_|refine a1w rfl rfl (by with_reducible rfl) rfl ?_|refine a1t rfl rfl (by with_reducible rfl) rfl ?_|(refine a1z rfl rfl (fun hc => ?_) (fun hc => ?_) <;> (try (exfalso;omega)))|(refine a3s rfl rfl (fun hc => ?_) (fun hc => ?_) <;> (try (exact absurd hc (by decide)))))|(refine a1a ?_;first|refine a0b (a1h rfl rfl rfl) rfl ?_|refine a0b (a1p rfl rfl (by (first|exact w64 (by omega) (by omega)|rfl))) rfl ?_)|(refine a1i ?_;first|refine a0b (a0j rfl (by with_reducible rfl) rfl) rfl ?_|refine a0b (a0i rfl (by with_reducible rfl) rfl) rfl ?_)|refine a0b (a0e rfl) rfl ?_|(refine a0d ?_;first|refine a0b (a0p rfl) rfl ?_)|refine a0u ?_|refine a0b (a1u rfl rfl (by omega) (by omega)) rfl ?_)|(first|refine a1n ?_|(refine a1o ?_;first|refine a0c (a0a ?_)|refine a0c ?_|refine a0a ?_|(refine a0x ?_;first|refine a0g rfl (by with_reducible rfl) ?_|refine a0h rfl (by with_reducible rfl) ?_|(refine a0r rfl (fun hc => ?_) (fun hc => ?_) <;> (try (exfalso;omega))))|refine a0n ?_|refine a0o ?_|refine a0k ?_|refine a1f ?_)|refine a0t ?_|refine a1q ?_|refine a2b ?_|refine a1d ?_|refine a1v ?_|refine a1b ?_|refine a1e ?_))
      all_goals
       refine ret3 (by first | exact .inr rfl | exact .inl rfl) rfl rfl rfl rfl ?_
       refine ⟨⟨_, _, _, rfl, ⟨fun _ => ?_, fun h => rfl⟩, .inl rfl, by omega, by omega, fun _ => ?_⟩, rfl⟩
       · rw [hd, c6g (by omega)]
       · rw [hT, c3n (by omega), List.append_nil]
end
end Go.Proofs.YtkljmljkiodnpaaGreatDoor.L

namespace Go.Proofs.YtkljmljkiodnpaaGreatDoor.L
open Go Go.RowKit Go.Proofs
attribute [local irreducible] AL QL AWp Thn InB RetQ ACalls LoopQ HL HO HW HQ NoG

section
variable {w0 : World} {base : Nat}
end
end Go.Proofs.YtkljmljkiodnpaaGreatDoor.L

namespace Go.Proofs.YtkljmljkiodnpaaGreatDoor.L
open Go Go.RowKit Go.Proofs

theorem a6i (s : List UInt8) (c : UInt8) : (Lib.cut s [c]).1.length ≤ s.length ∧ (Lib.cut s [c]).2.1.length ≤ s.length ∧ ((Lib.cut s [c]).2.1.length + (Lib.cut s [c]).1.length ≤ s.length) := by
  unfold Lib.cut
  split
  · rename_i h
    have := Lib.index_room s [c] h
    simp at this ⊢
    omega
  · simp

def prAV (p : List UInt8 × List UInt8) : List AV := [.str p.1, .str p.2]
def pairP (p : List UInt8) : List UInt8 × List UInt8 := (decT true (Lib.cut p [61]).1, decT true (Lib.cut p [61]).2.1)
def pairOk (p : List UInt8) : Bool := decOk (Lib.cut p [61]).1 && decOk (Lib.cut p [61]).2.1
def splitB (c : UInt8) : List UInt8 → List (List UInt8)
  | [] => [[]]
  | b :: r => if b = c then [] :: splitB c r else (b :: (splitB c r).headD []) :: (splitB c r).tail
theorem b8w (c : UInt8) (l : List UInt8) : splitB c l ≠ [] := by
  cases l with
  | nil => simp [splitB]
  | cons b r => unfold splitB; split <;> simp
theorem a6r {c : UInt8} : ∀ {p : List UInt8}, c ∉ p → splitB c p = [p]
  | [], _ => rfl
  | b :: r, h => by
    have h1 : ¬ b = c := fun e => h (by simp [e])
    have h2 : c ∉ r := fun e => h (by simp [e])
    rw [splitB, if_neg h1, a6r h2]
    rfl
theorem a6s {c : UInt8} : ∀ {p r : List UInt8}, c ∉ p → splitB c (p ++ c :: r) = p :: splitB c r
  | [], r, _ => by rw [List.nil_append, splitB, if_pos rfl]
  | b :: p, r, h => by
    have h1 : ¬ b = c := fun e => h (by simp [e])
    have h2 : c ∉ p := fun e => h (by simp [e])
    rw [List.cons_append, splitB, if_neg h1, a6s h2]
    rfl
def nz (l : List UInt8) : List (List UInt8) := (splitB 38 l).filter (fun p => !p.isEmpty)
def one (p : List UInt8) : List (List UInt8) := if p = [] then [] else [p]
theorem c8l {p : List UInt8} (h : 38 ∉ p) : nz p = one p := by
  unfold nz one
  rw [a6r h]
  cases p <;> simp
theorem c8m {p r : List UInt8} (h : 38 ∉ p) : nz (p ++ 38 :: r) = one p ++ nz r := by
  unfold nz one
  rw [a6s h]
  cases p <;> simp
def formOk (s : List UInt8) : Bool := (nz s).all pairOk && decide ((nz s).length ≤ 32)
def tgtOk (s : List UInt8) : Bool := decide (s.length ≤ 1024) && (decide (s.head? = some 47) && (s.all (fun b => !pOdd b) && (decOk (Lib.cut s [63]).1 && (!(Lib.cut s [63]).2.2 || formOk (Lib.cut s [63]).2.1))))
def formP (s : List UInt8) : List (List UInt8 × List UInt8) := (nz s).map pairP
def tgtP (s : List UInt8) : List UInt8 := decT false (Lib.cut s [63]).1
def tgtQ (s : List UInt8) : List (List UInt8 × List UInt8) := if (Lib.cut s [63]).2.2 then formP (Lib.cut s [63]).2.1 else []
theorem a7m {s : List UInt8} {c : UInt8} (h : c ∈ s) : ∃ i : Nat, i < s.length ∧ s[i]? = some c := by
  obtain ⟨i, hi, he⟩ := List.getElem_of_mem h
  exact ⟨i, hi, by rw [List.getElem?_eq_getElem hi, he]⟩
theorem a5i {s : List UInt8} {i : Nat} (h : i < s.length) : s[i]? = some (bAt s (i : Int)) := by
  simp [bAt, List.getD_eq_getElem?_getD, h]
theorem a9h {s : List UInt8} {c : UInt8} {a b : Nat} (h : ∀ j, a ≤ j → j < b → s[j]? ≠ some c) : c ∉ (s.take b).drop a := fun hm => by
  obtain ⟨i, hi, he⟩ := a7m hm
  rw [List.getElem?_drop, List.getElem?_take] at he
  split at he
  · exact h (a + i) (by omega) (by omega) he
  · cases he
theorem b6n {s : List UInt8} {c : UInt8} {a b : Nat} (hab : a ≤ b) (hb : s[b]? = some c) : s.drop a = (s.take b).drop a ++ c :: s.drop (b + 1) := by
  have hlt := (List.getElem?_eq_some_iff.1 hb).1
  have hbe := (List.getElem?_eq_some_iff.1 hb).2
  have e : s = s.take b ++ c :: s.drop (b + 1) := by
    rw [← hbe, ← List.drop_eq_getElem_cons hlt, List.take_append_drop]
  conv => lhs; rw [e]
  rw [List.drop_append_of_le_length (by simp; omega)]
theorem b5u {s : List UInt8} {f : UInt8 → Bool} (h : ∀ j : Nat, j < s.length → f (bAt s (j : Int)) = true) : s.all f = true := by
  rw [List.all_eq_true]
  intro x hx
  obtain ⟨i, hi, he⟩ := a7m hx
  rw [a5i hi] at he
  injection he with he
  rw [← he]
  exact h i hi
theorem a6p {s : List UInt8} {f : UInt8 → Bool} {j : Nat} (hj : j < s.length) (h : f (bAt s (j : Int)) = false) : s.all f = false := by
  cases ha : s.all f with
  | false => rfl
  | true =>
    rw [List.all_eq_true] at ha
    have := ha _ (List.mem_of_getElem? (a5i hj))
    rw [h] at this
    cases this
end Go.Proofs.YtkljmljkiodnpaaGreatDoor.L

namespace Go.Proofs.YtkljmljkiodnpaaGreatDoor.L
open Go Go.RowKit Go.Proofs
attribute [local irreducible] AL QL AWp Thn InB RetQ ACalls LoopQ HL HO HW HQ NoG

section
variable {w0 : World} {base : Nat}
abbrev frmO (ver : Nat) (e k : Int) (xs : List (List AV)) : List AO := [.box [.os 3 ver], .box [.int .i64 e], .box [.int .i64 k], .row 90 2 ver 0 xs]
set_option maxHeartbeats 2000000 in
theorem c8v {p : List UInt8} {at' : Int} {ver : Nat} {xs : List (List AV)} (hG : Glob w0 base) (hp : p.length ≤ 65536) (ha : 0 ≤ at') (ha2 : at' ≤ 65536) (hx : xs.length ≤ 65536) :
    ACalls (EE w0 base) 129 [.str p, .int .i64 at', .op 1 0, .op 2 0, .op 0 0] (frmO ver 0 0 xs) fun rv os => ∃ ver' e k xs', rv = .bool (decide (e = 0)) ∧ os = frmO ver' e k xs' ∧
      (e = 0 ∨ e = 60) ∧ 0 ≤ k ∧ k ≤ at' + p.length + 1 ∧ (e = 0 ↔ (one p).all pairOk = true) ∧ (e = 0 → xs' = xs ++ (one p).map (fun q => prAV (pairP q)) ∧ k = 0) := by
  refine a1s Tryz.func129 rfl rfl rfl (.cons (.cons (.cons (.cons (.cons .nil))))) ?_
  obtain ⟨a, b, two, hab⟩ : ∃ a b two, Lib.cut p [61] = (a, b, two) := ⟨_, _, _, rfl⟩
  have hlen := a6i p 61
  have hok : pairOk p = (decOk a && decOk b) := by unfold pairOk; rw [hab]
  have hpp : pairP p = (decT true a, decT true b) := by unfold pairP; rw [hab]
  rw [hab] at hlen
  dsimp only at hlen
  have hcut := b4n (s := p) (p := [61]) hG (by omega)
  rw [hab] at hcut
  dsimp only at hcut
  repeat' (first|(first|(refine a0d ?_;refine a0q rfl rfl rfl rfl hcut ?_;rintro _ rfl)|(refine a0d ?_;refine a0q rfl rfl rfl rfl (b1o (s := a) (by omega)) ?_;rintro _ ⟨l1,e1,k1,rfl,h11,h12,h13,h14,h15⟩)|(refine a0d ?_;refine a0q rfl rfl rfl rfl (b1o (s := b) (by omega)) ?_;rintro _ ⟨l2,e2,k2,rfl,h21,h22,h23,h24,h25⟩)|(refine a0d ?_;refine a4d rfl rfl (by repeat constructor) (a6q rfl rfl) rfl (by decide) (by simp;omega) rfl ?_))|(refine a2k ?_;first|refine a0b (a0l rfl) rfl ?_|refine a0b (a0f rfl rfl) rfl ?_|(refine a1g ?_;first|refine a0b (a0w rfl rfl) rfl ?_|refine a0b (a0m rfl rfl rfl) rfl ?_)|(refine a1a ?_;first|refine a0b (a1h rfl rfl rfl) rfl ?_|refine a0b (a1p rfl rfl (by (first|exact w64 (by omega) (by omega)|rfl))) rfl ?_|refine a0b (a2t rfl rfl) rfl ?_)|refine a0b (a0e rfl) rfl ?_|(refine a0d ?_;first|refine a0b (a0p rfl) rfl ?_)|refine a0b (a0s rfl rfl) rfl ?_|refine a0u ?_|refine a0z rfl rfl rfl (by first|exact ln4|exact ln5) (by repeat constructor) rfl ?_|refine a1c rfl rfl rfl rfl rfl (by repeat constructor) (by repeat constructor) ?_|refine a2e (by rfl) (by rfl) (by rfl) (by rfl) (by decide) (by decide) (by rfl) (by rfl) (by repeat constructor) (by rfl) (by repeat constructor) (by rfl) (by first|exact ln4|exact ln5) (by repeat constructor) rfl ?_)|(first|refine a1n ?_|(refine a1o ?_;first|refine a0c (a0a ?_)|refine a0c ?_|refine a0a ?_|(refine a0x ?_;first|(refine a0r rfl (fun hc => ?_) (fun hc => ?_) <;> (try (exfalso;omega))))|refine a0o ?_|refine a0k ?_)|refine a0t ?_))
  · have hp0 : p = [] := hc
    refine ret1 (by first | exact .inr rfl | exact .inl rfl) rfl rfl ?_
    refine ⟨ver, 0, 0, xs, rfl, rfl, .inl rfl, by omega, by omega, ?_, fun _ => ⟨?_, rfl⟩⟩
    · simp [one, hp0]
    · simp [one, hp0]
  · rename_i hc0
    have hp0 : p ≠ [] := hc0
    have e1d : decOk a = false := by cases h : decOk a with
      | false => rfl
      | true => exact absurd (h11.2 h) hc
    refine a2m (.of (Wk'.drop (H := [_, _, _, _]) (sl' := [(7, _)]) (ex := [_]) (.cons rfl .nil) rfl (by repeat constructor) rfl)) ?_
    refine ret1 (by first | exact .inr rfl | exact .inl rfl) rfl rfl ?_
    refine ⟨ver, e1, at' + k1, xs, by simp [hc], rfl, h12, by omega, by omega, ?_, fun h => absurd h hc⟩
    simp [one, hp0, hok, e1d, hc]
  · rename_i hc0 hc1
    have hp0 : p ≠ [] := hc0
    have hd1 : decOk a = true := h11.1 (Classical.not_not.1 hc1)
    have e2d : decOk b = false := by cases h : decOk b with
      | false => rfl
      | true => exact absurd (h21.2 h) hc
    refine a2m (.of (Wk'.drop (H := [_, _, _, _]) (sl' := [(7, _)]) (ex := [_]) (.cons rfl .nil) rfl (by repeat constructor) rfl)) ?_
    refine ret1 (by first | exact .inr rfl | exact .inl rfl) rfl rfl ?_
    refine ⟨ver, e2, at' + (a.length : Int) + 1 + k2, xs, by simp [hc], rfl, h22, by omega, by omega, ?_, fun h => absurd h hc⟩
    simp [one, hp0, hok, e2d, hc]
  · rename_i hc0 hc1
    have hp0 : p ≠ [] := hc0
    have hd1 : decOk a = true := h11.1 (Classical.not_not.1 hc1)
    have hd2 : decOk b = true := h21.1 (Classical.not_not.1 hc)
    have h0 := Classical.not_not.1 hc
    subst h0
    refine a2m (.of (Wk'.drop (H := [_, _, _, _]) (sl' := [(7, _)]) (ex := [_, _]) (.cons rfl .nil) rfl (by repeat constructor) rfl)) ?_
    refine ret1 (by first | exact .inr rfl | exact .inl rfl) rfl rfl ?_
    have g1 := h15 (Classical.not_not.1 hc1)
    have g2 := h25 rfl
    refine ⟨ver + 1, 0, 0, _, rfl, rfl, .inl rfl, by omega, by omega, ?_, fun _ => ⟨?_, rfl⟩⟩
    · simp [one, hp0, hok, hd1, hd2]
    · simp [one, hp0, prAV, hpp, g1, g2]
set_option maxHeartbeats 2000000 in
theorem c1s {s : List UInt8} (hs : s.length ≤ 65536) : (hG : Glob w0 base) → 
    ACalls (EE w0 base) 128 [.str s, .int .u8 38, .fn 129 [.op 1 0, .op 2 0, .op 0 0]] (frmO 0 0 0 []) fun rv os => ∃ ver' e k xs', rv = .tup [] ∧ os = frmO ver' e k xs' ∧
      (e = 0 ∨ e = 60) ∧ 0 ≤ k ∧ k ≤ s.length + 1 ∧ (e = 0 ↔ (nz s).all pairOk = true) ∧ (e = 0 → xs' = (formP s).map prAV) := by
  intro hG
  refine a1s Tryz.func128 rfl rfl rfl (.cons (.cons (.cons .nil))) ?_
  repeat' (first|(refine a2k ?_;first|refine a0b (a0l rfl) rfl ?_|(refine a1a ?_;first|refine a0b (a1h rfl rfl rfl) rfl ?_|refine a0b (a1p rfl rfl (by (first|exact w64 (by omega) (by omega)|rfl))) rfl ?_)|refine a0b (a0e rfl) rfl ?_|refine a0u ?_|refine a0b (a3h rfl) rfl ?_)|(first|refine a1n ?_|(refine a1o ?_;first|refine a0c (a0a ?_)|refine a0c ?_|refine a0a ?_|(refine a0x ?_;first|(refine a0r rfl (fun hc => ?_) (fun hc => ?_) <;> (try (exfalso;omega))))|refine a0n ?_|refine a0o ?_|refine a0k ?_)|refine a0t ?_|refine a2b ?_|refine a1v ?_|refine a1b ?_))
  refine a2o (fun p : Nat × Nat × List (List AV) => ⟨[(0, .str s), (1, .int .u8 38), (2, .fn 129 [.op 1 0, .op 2 0, .op 0 0]), (6, .int .i64 p.1)], frmO p.2.1 0 0 p.2.2⟩)
    (fun p => p.1 ≤ s.length ∧ p.2.2.length ≤ p.1 ∧ ((nz s).all pairOk = (nz (s.drop p.1)).all pairOk) ∧ (nz s).map (fun q => prAV (pairP q)) = p.2.2 ++ (nz (s.drop p.1)).map (fun q => prAV (pairP q))) (fun p => s.length - p.1) (0, 0, []) (.of (.same (by repeat constructor))) ⟨Nat.zero_le _, Nat.le_refl _, rfl, rfl⟩ ?_
  rintro ⟨i, ver, xs⟩ ⟨hi, hx, hall, hcnt⟩
  dsimp only at hi hx hall hcnt ⊢
  have hdl : (s.drop i).length = s.length - i := List.length_drop
  have hib : PCalls (EE w0 base) 147 [.str (s.drop (i : Int).toNat), .int .u8 38] fun rv => rv = .int .i64 (Lib.indexByte (s.drop i) 38) := a4n (c := 38)
  have hge := Lib.indexByte_ge (s.drop i) 38
  by_cases hneg : Lib.indexByte (s.drop i) 38 = -1
  · rw [hneg] at hib
    have hno : 38 ∉ s.drop i := fun hm => by
      obtain ⟨j, hj, he⟩ := a7m hm
      exact Lib.indexByte_none hneg j he
    rw [c8l hno] at hall hcnt
    repeat' (first|(first|(refine a0d ?_;refine a0q rfl rfl rfl rfl hib ?_;rintro _ rfl)|refine a0b (a2u rfl rfl (by omega) (by omega)) rfl ?_|(refine a0d ?_;refine a0v [0,1,2,3] rfl rfl (c8v (p := s.drop i) (at' := i) (ver := ver) (xs := xs) hG (by omega) (by omega) (by omega) (by omega)) (by repeat constructor) (by repeat constructor) rfl rfl ?_;rintro _ _ ⟨ver',e,k,xs',rfl,rfl,h1,h2,h3,h4,h5⟩;refine ⟨_,_,by repeat constructor,by repeat constructor,?_⟩))|(refine a2k ?_;first|refine a0b (a0l rfl) rfl ?_|(refine a1a ?_;first|refine a0b (a1h rfl rfl rfl) rfl ?_|refine a0b (a1p rfl rfl (by (first|exact w64 (by omega) (by omega)|rfl))) rfl ?_)|refine a0b (a0e rfl) rfl ?_|refine a0u ?_|refine a0b (a3h rfl) rfl ?_)|(first|refine a1n ?_|(refine a1o ?_;first|refine a0c (a0a ?_)|refine a0c ?_|refine a0a ?_|(refine a0x ?_;first|(refine a0r rfl (fun hc => ?_) (fun hc => ?_) <;> (try (exfalso;omega))))|refine a0n ?_|refine a0o ?_|refine a0k ?_)|refine a0t ?_|refine a2b ?_|refine a1v ?_|refine a1b ?_))
    refine ret0 (by first | exact .inr rfl | exact .inl rfl) rfl ⟨ver', e, k, xs', rfl, rfl, h1, h2, by omega, by rw [hall]; exact h4, fun h => by rw [formP, List.map_map]; show _ = (nz s).map (fun q => prAV (pairP q)); rw [hcnt]; exact (h5 h).1⟩
  · obtain ⟨o, ho⟩ : ∃ o : Nat, Lib.indexByte (s.drop i) 38 = o := ⟨(Lib.indexByte (s.drop i) 38).toNat, by omega⟩
    rw [ho] at hib
    obtain ⟨g1, g2⟩ := Lib.indexByte_some ho
    rw [List.getElem?_drop] at g1
    have hio : i + o < s.length := (List.getElem?_eq_some_iff.1 g1).1
    have hni : 38 ∉ (s.take (i + o)).drop i := a9h fun j h1 h2 hj => g2 (j - i) (by omega) (by rw [List.getElem?_drop, show i + (j - i) = j by omega]; exact hj)
    have hpl : ((s.take (i + o)).drop i).length = o := by simp; omega
    rw [b6n (by omega) g1, c8m hni] at hall hcnt
    rw [List.all_append] at hall
    rw [List.map_append] at hcnt
    repeat' (first|(first|(refine a0d ?_;refine a0q rfl rfl rfl rfl hib ?_;rintro _ rfl)|refine a0b (a2u rfl rfl (by omega) (by omega)) rfl ?_|refine a0b (a6g rfl rfl rfl (by omega) (by omega) (by omega)) rfl ?_|(refine a0d ?_;refine a0v [0,1,2,3] rfl rfl (c8v (p := (s.take (i + o)).drop i) (at' := i) (ver := ver) (xs := xs) hG (by omega) (by omega) (by omega) (by omega)) (by repeat constructor) (by repeat constructor) rfl rfl ?_;rintro _ _ ⟨ver',e,k,xs',rfl,rfl,h1,h2,h3,h4,h5⟩;refine ⟨_,_,by repeat constructor,by repeat constructor,?_⟩))|(refine a2k ?_;first|refine a0b (a0l rfl) rfl ?_|(refine a1a ?_;first|refine a0b (a1h rfl rfl rfl) rfl ?_|refine a0b (a1p rfl rfl (by (first|exact w64 (by omega) (by omega)|rfl))) rfl ?_)|refine a0b (a0e rfl) rfl ?_|refine a0u ?_|refine a0b (a3h rfl) rfl ?_)|(first|refine a1n ?_|(refine a1o ?_;first|refine a0c (a0a ?_)|refine a0c ?_|refine a0a ?_|(refine a0x ?_;first|(refine a0r rfl (fun hc => ?_) (fun hc => ?_) <;> (try (exfalso;omega))))|refine a0n ?_|refine a0o ?_|refine a0k ?_)|refine a0t ?_|refine a2b ?_|refine a1v ?_|refine a1b ?_))
    · have h0 : (one ((s.take (i + o)).drop i)).all pairOk = false := by cases h : (one ((s.take (i + o)).drop i)).all pairOk with
        | false => rfl
        | true => exact absurd (h4.2 h) ‹_›
      refine ret0 (by first | exact .inr rfl | exact .inl rfl) rfl ⟨ver', e, k, xs', rfl, rfl, h1, h2, by omega, by rw [hall, h0]; exact ⟨fun h => absurd h ‹_›, fun h => by cases h⟩, fun h => absurd h ‹_›⟩
    · have he : e = 0 := Classical.not_not.1 ‹_›
      subst he
      obtain ⟨h5', rfl⟩ := h5 rfl
      have h0 := h4.1 rfl
      rw [h0] at hall
      have hone : (one ((s.take (i + o)).drop i)).length ≤ 1 := by unfold one; split <;> simp
      first | refine a1y (i + (o + 1), ver', xs') (.of (.same (by repeat constructor))) ?_ ?_ | fail
      · refine ⟨by dsimp only; omega, by dsimp only; rw [h5', List.length_append, List.length_map]; omega, hall, ?_⟩
        dsimp only
        rw [hcnt, h5', List.append_assoc]
        rfl
      · dsimp only; omega
theorem a6z (s : List UInt8) : ((formP s).map prAV).length = (nz s).length := by simp [formP]
def FormR (s : List UInt8) (rv : AV) : Prop := ∃ q e k, rv = .tup [.rs q, .int .i64 e, .int .i64 k] ∧ (e = 0 ↔ formOk s = true) ∧ 0 ≤ k ∧ k ≤ s.length + 1 ∧ (e = 0 → q = (formP s).map prAV)
set_option maxHeartbeats 2000000 in
theorem c7a {s : List UInt8} (hs : s.length ≤ 65536) (hG : Glob w0 base) : PCalls (EE w0 base) 87 [.str s] (FormR s) := by
  refine a1s Tryz.func87 rfl rfl rfl (.cons .nil) ?_
  repeat' (first|(first|refine a0b (a5e rfl) rfl ?_|(refine a4j (.adoptBox (id := 0) (k := 0) (e := 90) (sz := 2) rfl rfl (by decide) rfl rfl rfl) ?_;refine a0v [0,1,2,3] rfl rfl (c1s hs hG) (by repeat constructor) (by repeat constructor) rfl rfl ?_;rintro _ _ ⟨ver',e,k,xs',rfl,rfl,h1,h2,h3,h4,h5⟩;refine ⟨_,_,by repeat constructor,by repeat constructor,?_⟩))|(refine a2k ?_;first|refine a0b (a0l rfl) rfl ?_|(refine k_g ?_;first|refine a1j rfl rfl (by with_reducible rfl) ?_|refine a1w rfl rfl (by with_reducible rfl) rfl ?_|(refine a1z rfl rfl (fun hc => ?_) (fun hc => ?_) <;> (try (exfalso;omega))))|(refine a1g ?_;first|refine a0b (a0w rfl rfl) rfl ?_)|(refine a1a ?_;first|refine a0b (a1h rfl rfl rfl) rfl ?_)|(refine a1i ?_;first|refine a0b (a0j rfl (by with_reducible rfl) rfl) rfl ?_|refine a0b (a0i rfl (by with_reducible rfl) rfl) rfl ?_)|refine a0b (a0e rfl) rfl ?_|(refine a0d ?_;first|refine a0b (a3m rfl rfl rfl) rfl ?_)|refine a0u ?_|refine a0z rfl rfl rfl (by first|exact ln0|exact ln1|exact ln2) (by repeat constructor) rfl ?_|refine a1c rfl rfl rfl rfl rfl (by repeat constructor) (by repeat constructor) ?_)|(first|refine a1n ?_|(refine a1o ?_;first|refine a0c (a0a ?_)|refine a0c ?_|refine a0a ?_|(refine a0x ?_;first|refine a0h rfl (by with_reducible rfl) ?_|(refine a0r rfl (fun hc => ?_) (fun hc => ?_) <;> (try (exfalso;omega))))|refine a0o ?_|refine a0k ?_)|refine a0t ?_)|refine a7c (by kernel_rfl) (by kernel_rfl) ?_|(first|refine a4c (a0l rfl) rfl ?_|refine a4c (a0e rfl) rfl ?_|refine a4c (a0w rfl rfl) rfl ?_|refine a4c (a1h rfl rfl rfl) rfl ?_|refine a4c (a0j rfl (by with_reducible rfl) rfl) rfl ?_|refine a4c (a0i rfl (by with_reducible rfl) rfl) rfl ?_|refine b0u ?_))
  · refine a2m (.nil 2 rfl) ?_
    refine ret3 (by first | exact .inr rfl | exact .inl rfl) rfl rfl rfl rfl ?_
    have h6 := congrArg List.length (h5 ‹_›)
    rw [a6z] at h6
    refine ⟨⟨_, _, _, rfl, ⟨fun h => absurd h (by decide), fun h => ?_⟩, by omega, by omega, fun h => absurd h (by decide)⟩, rfl⟩
    rw [formOk, Bool.and_eq_true, decide_eq_true_eq] at h
    omega
  · refine a2m (.freeze 2 rfl (by repeat constructor)) ?_
    refine ret3 (by first | exact .inr rfl | exact .inl rfl) rfl rfl rfl rfl ?_
    have he : e = 0 := ‹_›
    have h6 := congrArg List.length (h5 he)
    rw [a6z] at h6
    refine ⟨⟨_, _, _, rfl, ⟨fun _ => ?_, fun _ => rfl⟩, by omega, by omega, fun _ => h5 he⟩, rfl⟩
    rw [formOk, Bool.and_eq_true, decide_eq_true_eq]
    exact ⟨h4.1 he, by omega⟩
  · refine a2m (.nil 2 rfl) ?_
    refine ret3 (by first | exact .inr rfl | exact .inl rfl) rfl rfl rfl rfl ?_
    refine ⟨⟨_, _, _, rfl, ⟨fun h => absurd h ‹_›, fun h => ?_⟩, by omega, by omega, fun h => absurd h ‹_›⟩, rfl⟩
    rw [formOk, Bool.and_eq_true] at h
    exact absurd (h4.2 h.1) ‹_›
theorem ret4 {E : Env} {N : Nat} {fn : Func} {R : AV → List AO → Prop} {e : Exit} {σ : St} {t u v q : Nat} {x y z o : AV} (he : e = .normal ∨ e = .ret) (h2 : fn.results = #[.tmp t, .tmp u, .tmp v, .tmp q]) (h : lk σ.sl t = some x) (k : lk σ.sl u = some y) (l : lk σ.sl v = some z) (m : lk σ.sl q = some o) (hR : R (.tup [x, y, z, o]) σ.objs) : RetQ E N fn R e σ :=
  b1q he σ [.tmp t, .tmp u, .tmp v, .tmp q] [x, y, z, o] (.refl σ) h2 (.tmp h (.tmp k (.tmp l (.tmp m .nil)))) hR
def TgtR (s : List UInt8) (rv : AV) : Prop := ∃ p q e k, rv = .tup [.str p, .rs q, .int .i64 e, .int .i64 k] ∧ (e = 0 ↔ tgtOk s = true) ∧ (e = 0 → p = tgtP s ∧ q = (tgtQ s).map prAV)
theorem prefix47 (s : List UInt8) : Lib.hasPrefix s [47] = decide (s.head? = some 47) := by
  cases s with
  | nil => rfl
  | cons b r =>
    simp [Lib.hasPrefix, List.isPrefixOf]
    by_cases h : b = 47
    · simp [h]
    · simp [h, Ne.symm h]
set_option maxHeartbeats 2000000 in
theorem b6i {s : List UInt8} (hs : s.length ≤ 65536) (hG : Glob w0 base) : PCalls (EE w0 base) 49 [.str s] (TgtR s) := by
  refine a1s Tryz.func49 rfl rfl rfl (.cons .nil) ?_
  have hpre := a5n (w0 := w0) (base := base) (s := s) (p := [47])
  rw [prefix47] at hpre
  repeat' (first|(first|(refine a0d ?_;refine a0q rfl rfl rfl rfl hpre ?_;rintro _ rfl))|(refine a2k ?_;first|refine a0b (a0l rfl) rfl ?_|(refine a1a ?_;first|refine a0b (a1h rfl rfl rfl) rfl ?_|refine a0b (a1p rfl rfl (by (first|exact w64 (by omega) (by omega)|rfl))) rfl ?_)|refine a0b (a0e rfl) rfl ?_|(refine a0d ?_;first|refine a0b (a0p rfl) rfl ?_)|refine a0b (a0s rfl rfl) rfl ?_|refine a0u ?_|refine a0b (a3h rfl) rfl ?_|refine a0b (a2z rfl rfl) rfl ?_|refine a0b (a1u rfl rfl (by omega) (by omega)) rfl ?_)|(first|refine a1n ?_|(refine a1o ?_;first|refine a0c (a0a ?_)|refine a0c ?_|refine a0a ?_|(refine a0x ?_;first|(refine a0r rfl (fun hc => ?_) (fun hc => ?_) <;> (try (exfalso;omega)))|(refine a2p rfl (fun hc => ?_) (fun hc => ?_) <;> (try (exact absurd hc (by decide)))))|refine a0n ?_|refine a0o ?_|refine a0k ?_|refine a1f ?_)|refine a0t ?_|refine a1q ?_|refine a2b ?_|refine a1d ?_|refine a1v ?_|refine a1b ?_|refine a1e ?_))
  · refine a2m (.nil 3 rfl) ?_
    refine ret4 (by first | exact .inr rfl | exact .inl rfl) rfl rfl rfl rfl rfl ?_
    refine ⟨⟨_, _, _, _, rfl, ⟨fun h => absurd h (by decide), fun h => ?_⟩, fun h => absurd h (by decide)⟩, rfl⟩
    rw [tgtOk, Bool.and_eq_true, decide_eq_true_eq] at h
    omega
  · refine a2m (.nil 3 rfl) ?_
    refine ret4 (by first | exact .inr rfl | exact .inl rfl) rfl rfl rfl rfl rfl ?_
    refine ⟨⟨_, _, _, _, rfl, ⟨fun h => absurd h (by decide), fun h => ?_⟩, fun h => absurd h (by decide)⟩, rfl⟩
    rw [tgtOk, Bool.and_eq_true, Bool.and_eq_true, decide_eq_true_eq, decide_eq_true_eq] at h
    exact absurd h.2.1 ‹_›
  have hhd : s.head? = some 47 := Classical.not_not.1 ‹_›
  have hle : s.length ≤ 1024 := by omega
  have htg : tgtOk s = (s.all (fun b => !pOdd b) && (decOk (Lib.cut s [63]).1 && (!(Lib.cut s [63]).2.2 || formOk (Lib.cut s [63]).2.1))) := by
    rw [tgtOk, decide_eq_true hle, decide_eq_true hhd, Bool.true_and, Bool.true_and]
  obtain ⟨a, b, two, hab⟩ : ∃ a b two, Lib.cut s [63] = (a, b, two) := ⟨_, _, _, rfl⟩
  have hlen := a6i s 63
  rw [hab] at hlen htg
  dsimp only at hlen htg
  have hcut := b4n (s := s) (p := [63]) hG (by omega)
  rw [hab] at hcut
  dsimp only at hcut
  refine a2o (fun k : Nat => ⟨[(0, .str s), (17, .int .i64 (s.length : Int)), (18, .int .i64 k)], []⟩) (fun k => k ≤ s.length ∧ ∀ j, j < k → pOdd (bAt s (j : Int)) = false) (fun k => s.length - k) 0 (.of (.same (by repeat constructor))) ⟨Nat.zero_le _, fun j h => absurd h (Nat.not_lt_zero _)⟩ ?_
  rintro i ⟨hi, hodd⟩
  try dsimp only
  repeat' (first|(first|(refine a0d ?_;refine a0q rfl rfl rfl rfl (c8g (b := bAt s (i : Int))) ?_;rintro _ rfl)|(refine a0d ?_;refine a0q rfl rfl rfl rfl hcut ?_;rintro _ rfl)|(refine a0d ?_;refine a0q rfl rfl rfl rfl (b1o (s := a) (by omega)) ?_;rintro _ ⟨l1,e1,k1,rfl,h11,h12,h13,h14,h15⟩)|(refine a0d ?_;refine a0q rfl rfl rfl rfl (c7a (s := b) (by omega) hG) ?_;rintro _ ⟨q2,e2,k2,rfl,h21,h23,h24,h25⟩))|(refine a2k ?_;first|refine a0b (a0l rfl) rfl ?_|(refine a1a ?_;first|refine a0b (a1h rfl rfl rfl) rfl ?_|refine a0b (a1p rfl rfl (by (first|exact w64 (by omega) (by omega)|rfl))) rfl ?_)|refine a0b (a0e rfl) rfl ?_|(refine a0d ?_;first|refine a0b (a0p rfl) rfl ?_)|refine a0b (a0s rfl rfl) rfl ?_|refine a0u ?_|refine a0b (a3h rfl) rfl ?_|refine a0b (a2z rfl rfl) rfl ?_|refine a0b (a1u rfl rfl (by omega) (by omega)) rfl ?_)|(first|refine a1n ?_|(refine a1o ?_;first|refine a0c (a0a ?_)|refine a0c ?_|refine a0a ?_|(refine a0x ?_;first|(refine a0r rfl (fun hc => ?_) (fun hc => ?_) <;> (try (exfalso;omega)))|(refine a2p rfl (fun hc => ?_) (fun hc => ?_) <;> (try (exact absurd hc (by decide)))))|refine a0n ?_|refine a0o ?_|refine a0k ?_|refine a1f ?_)|refine a0t ?_|refine a1q ?_|refine a2b ?_|refine a1d ?_|refine a1v ?_|refine a1b ?_|refine a1e ?_))
  · have h0 : s.all (fun b => !pOdd b) = false := a6p (j := i) (by omega) (by show (!pOdd (bAt s (i : Int))) = false; rw [‹pOdd (bAt s (i : Int)) = true›]; rfl)
    refine a2m (.nil 3 rfl) ?_
    refine ret4 (by first | exact .inr rfl | exact .inl rfl) rfl rfl rfl rfl rfl ?_
    refine ⟨⟨_, _, _, _, rfl, ⟨fun h => absurd h (by decide), fun h => ?_⟩, fun h => absurd h (by decide)⟩, rfl⟩
    rw [htg, h0] at h
    cases h
  · rename_i hc _
    first | refine a1y (i + 1) (.of (.same (by repeat constructor))) ?_ ?_ | fail
    · refine ⟨by omega, fun j hj => ?_⟩
      rcases Nat.lt_or_ge j i with h | h
      · exact hodd j h
      · obtain rfl : j = i := by omega
        assumption
    · omega
  all_goals
    have hall : s.all (fun b => !pOdd b) = true := b5u (fun j hj => by show (!pOdd (bAt s (j : Int))) = true; rw [hodd j (by omega)]; rfl)
    rw [hall, Bool.true_and] at htg
  · refine a2m (.nil 3 rfl) ?_
    refine ret4 (by first | exact .inr rfl | exact .inl rfl) rfl rfl rfl rfl rfl ?_
    refine ⟨⟨_, _, _, _, rfl, ⟨fun h => absurd h ‹_›, fun h => ?_⟩, fun h => absurd h ‹_›⟩, rfl⟩
    rw [htg, Bool.and_eq_true] at h
    exact absurd (h11.2 h.1) ‹_›
  · refine a2m (.nil 3 rfl) ?_
    refine ret4 (by first | exact .inr rfl | exact .inl rfl) rfl rfl rfl rfl rfl ?_
    have hd1 : decOk a = true := h11.1 (Classical.not_not.1 ‹_›)
    have hd2 := Classical.not_not.1 ‹¬ e1 ≠ 0›
    have htw : two = false := by cases two with
      | false => rfl
      | true => exact absurd ‹(!true) = true› (by decide)
    refine ⟨⟨_, _, _, _, rfl, ⟨fun _ => ?_, fun h => rfl⟩, fun _ => ?_⟩, rfl⟩
    · rw [htg, hd1, htw]
      rfl
    · unfold tgtP tgtQ
      rw [hab]
      dsimp only
      rw [htw]
      exact ⟨h15 hd2, rfl⟩
  all_goals
    have hd1 : decOk a = true := h11.1 (Classical.not_not.1 ‹_›)
    have hd2 := Classical.not_not.1 ‹¬ e1 ≠ 0›
    rw [hd1, ‹(!two) = false›, Bool.true_and, Bool.false_or] at htg
    have htw : two = true := by cases two with
      | true => rfl
      | false => exact absurd ‹(!false) = false› (by decide)
    try refine a2m (.nil 3 rfl) ?_
    refine ret4 (by first | exact .inr rfl | exact .inl rfl) rfl rfl rfl rfl rfl ?_
    refine ⟨⟨_, _, _, _, rfl, ?_, ?_⟩, rfl⟩
    · rw [htg, ← h21]
      try omega
    · intro h
      first
        | exact absurd h ‹_›
        | (unfold tgtP tgtQ
           rw [hab]
           dsimp only
           rw [htw, if_pos rfl]
           exact ⟨h15 hd2, h25 (Classical.not_not.1 ‹¬ e2 ≠ 0›)⟩)
end
end Go.Proofs.YtkljmljkiodnpaaGreatDoor.L

namespace Go.Proofs.YtkljmljkiodnpaaGreatDoor.L
open Go Go.RowKit Go.Proofs
attribute [local irreducible] AL QL AWp Thn InB RetQ ACalls LoopQ HL HO HW HQ NoG

theorem retc2 {E : Env} {N : Nat} {fn : Func} {R : AV → List AO → Prop} {e : Exit} {σ : St} {p ty t u n b : Nat} {z : Value} {pv x y : AV} {cs : List AV} [ti : TZ E.P ty true n b z] (he : e = .normal ∨ e = .ret) (h2 : fn.results = #[.cell p ty,.tmp t,.tmp u]) (hp : lk σ.sl p = some pv) (hc : cellsAt σ.objs pv = some cs) (hn : Nat.ble n cs.length = true) (k : lk σ.sl t = some x) (l : lk σ.sl u = some y) (hR : R (.tup [.agg (cs.take n),x,y]) σ.objs) : RetQ E N fn R e σ :=
  b1q he σ [.cell p ty, .tmp t, .tmp u] [.agg (cs.take n), x, y] (.refl σ) h2 (.agg hp hc hn (.tmp k (.tmp l .nil))) hR
theorem retc1 {E : Env} {N : Nat} {fn : Func} {R : AV → List AO → Prop} {e : Exit} {σ : St} {p ty t n b : Nat} {z : Value} {pv x : AV} {cs : List AV} [ti : TZ E.P ty true n b z] (he : e = .normal ∨ e = .ret) (h2 : fn.results = #[.cell p ty,.tmp t]) (hp : lk σ.sl p = some pv) (hc : cellsAt σ.objs pv = some cs) (hn : Nat.ble n cs.length = true) (k : lk σ.sl t = some x) (hR : R (.tup [.agg (cs.take n),x]) σ.objs) : RetQ E N fn R e σ :=
  b1q he σ [.cell p ty, .tmp t] [.agg (cs.take n), x] (.refl σ) h2 (.agg hp hc hn (.tmp k .nil)) hR

section
variable {w0 : World} {base : Nat}
theorem c5u {s : List UInt8} {c : UInt8} {a i : Nat} (hlt : i < s.length) (hno : ∀ j, a ≤ j → j < i → s[j]? ≠ some c) (h : byteAt s (i : Int) ≠ (c.toNat : Int)) : ∀ j, a ≤ j → j < i + 1 → s[j]? ≠ some c := fun j h1 h2 => by
  rcases Nat.lt_or_ge j i with h3 | h3
  · exact hno j h1 h3
  · obtain rfl : j = i := by omega
    rw [a5i hlt]
    intro e
    injection e with e
    rw [a3i, e] at h
    exact h rfl
end
end Go.Proofs.YtkljmljkiodnpaaGreatDoor.L

namespace Go.Proofs.YtkljmljkiodnpaaGreatDoor.L
open Go Go.RowKit Go.Proofs
attribute [local irreducible] AL QL AWp Thn InB RetQ ACalls LoopQ HL HO HW HQ NoG

section
variable {w0 : World} {base : Nat}
theorem c4m {s : List UInt8} {c : UInt8} {j : Nat} (hj : j < s.length) (h : byteAt s (j : Int) = (c.toNat : Int)) : s[j]? = some c := by
  rw [a5i hj]
  exact congrArg some (a4t c.toNat c.toNat_lt (by rw [← a3i]; exact h) |>.trans (by simp))
end
end Go.Proofs.YtkljmljkiodnpaaGreatDoor.L

namespace Go.Proofs.YtkljmljkiodnpaaGreatDoor.L
open Go Go.RowKit Go.Proofs
attribute [local irreducible] AL QL AWp Thn InB RetQ ACalls LoopQ HL HO HW HQ NoG

def lowB (b : UInt8) : UInt8 := if pLarge b then b + 32 else b
def smallS (s : List UInt8) : List UInt8 := s.map lowB
theorem b7v : ∀ b : UInt8, pLarge b = true → ((lowB b).toNat : Int) = b.toNat + 97 - 65 := a8c (by decide +kernel)
theorem b4z : ∀ b : UInt8, pLarge b = true → ((lowB b).toNat : Int) = b.toNat + 32 := a8c (by decide +kernel)
theorem b6t {b : UInt8} (h : pLarge b = false) : lowB b = b := by unfold lowB; rw [if_neg (by simp [h])]
theorem a7i (b : UInt8) : pLarge b = true ↔ 65 ≤ b.toNat ∧ b.toNat ≤ 90 := by unfold pLarge; simp
def halfS (s : List UInt8) (k : Nat) : List UInt8 := smallS (s.take k) ++ s.drop k
theorem c0r (s : List UInt8) (k : Nat) : (halfS s k).length = s.length := by unfold halfS smallS; simp; omega
theorem b3p {s : List UInt8} {k : Nat} (h : k < s.length) : (halfS s k)[k]? = some (bAt s (k : Int)) := by
  unfold halfS smallS
  rw [List.getElem?_append_right (by simp; omega), List.getElem?_drop, ← a5i h]
  congr 1
  simp
  omega
theorem b3o {s : List UInt8} {k : Nat} (h : k < s.length) : (halfS s k).set k (lowB (bAt s (k : Int))) = halfS s (k + 1) := by
  unfold halfS smallS
  rw [List.set_append_right _ _ (by simp; omega)]
  have e1 : k - (List.map lowB (s.take k)).length = 0 := by simp; omega
  rw [e1, a3q h, List.set_cons_zero, List.take_add_one, a5i h]
  simp
theorem b7x {s : List UInt8} {k : Nat} (h : k < s.length) (hb : pLarge (bAt s (k : Int)) = false) : halfS s k = halfS s (k + 1) := by
  rw [← b3o h, b6t hb]
  have h1 := b3p h
  obtain ⟨h2, h3⟩ := List.getElem?_eq_some_iff.1 h1
  apply List.ext_getElem?
  intro j
  by_cases e : k = j
  · subst e
    rw [List.getElem?_set_self h2, h1]
  · rw [List.getElem?_set_ne e]

section
variable {w0 : World} {base : Nat}
theorem b5t {l : List UInt8} {j : Nat} {b : UInt8} (h : l[j]? = some b) : (bytesAV l)[j]? = some [.int .u8 (b.toNat : Int)] := by simp [bytesAV, h]
theorem b5s {l : List UInt8} {j : Nat} {b : UInt8} : (bytesAV l).set j [.int .u8 (b.toNat : Int)] = bytesAV (l.set j b) := by simp [bytesAV, List.map_set]
theorem b9i {s : List UInt8} {g : Nat} {p : UInt8 → Bool} [fn : FN Tryz.prog g] (hs : s.length ≤ 65536) (hp : ∀ b, PCalls (EE w0 base) g [bI b] fun rv => rv = .bool (p b)) : PCalls (EE w0 base) 76 [.str s, .fn g []] fun rv => rv = .bool (s.all p) := by
  refine a1s Tryz.func76 rfl rfl rfl (.cons (.cons .nil)) ?_
  repeat' (first|(refine a2k ?_;first|refine a0b (a0l rfl) rfl ?_|(refine a1a ?_;first|refine a0b (a1h rfl rfl rfl) rfl ?_|refine a0b (a1p rfl rfl (by (first|exact w64 (by omega) (by omega)|rfl))) rfl ?_)|refine a0b (a0e rfl) rfl ?_|(refine a0d ?_;first|refine a0b (a0p rfl) rfl ?_)|refine a0u ?_|refine a0b (a2z rfl rfl) rfl ?_|refine a0b (a1u rfl rfl (by omega) (by omega)) rfl ?_)|(first|refine a1n ?_|(refine a1o ?_;first|refine a0c (a0a ?_)|refine a0c ?_|refine a0a ?_|(refine a0x ?_;first|(refine a0r rfl (fun hc => ?_) (fun hc => ?_) <;> (try (exfalso;omega)))|(refine a2p rfl (fun hc => ?_) (fun hc => ?_) <;> (try (exact absurd hc (by decide)))))|refine a0n ?_|refine a0o ?_|refine a0k ?_|refine a1f ?_)|refine a0t ?_|refine a1q ?_|refine a2b ?_|refine a1d ?_|refine a1v ?_|refine a1b ?_|refine a1e ?_))
  refine a2o (fun k : Nat => ⟨[(0, .str s), (1, .fn g []), (7, .int .i64 (s.length : Int)), (8, .int .i64 k)], []⟩) (fun k => k ≤ s.length ∧ ∀ j, j < k → p (bAt s (j : Int)) = true) (fun k => s.length - k) 0 (.of (.same (by repeat constructor))) ⟨Nat.zero_le _, fun j h => absurd h (Nat.not_lt_zero _)⟩ ?_
  rintro i ⟨hi, hall⟩
  try dsimp only
  repeat' (first|((refine a0d ?_;refine a0q rfl rfl rfl rfl (hp (bAt s (i : Int))) ?_;rintro _ rfl))|(refine a2k ?_;first|refine a0b (a0l rfl) rfl ?_|(refine a1a ?_;first|refine a0b (a1h rfl rfl rfl) rfl ?_|refine a0b (a1p rfl rfl (by (first|exact w64 (by omega) (by omega)|rfl))) rfl ?_)|refine a0b (a0e rfl) rfl ?_|(refine a0d ?_;first|refine a0b (a0p rfl) rfl ?_)|refine a0u ?_|refine a0b (a2z rfl rfl) rfl ?_|refine a0b (a1u rfl rfl (by omega) (by omega)) rfl ?_)|(first|refine a1n ?_|(refine a1o ?_;first|refine a0c (a0a ?_)|refine a0c ?_|refine a0a ?_|(refine a0x ?_;first|(refine a0r rfl (fun hc => ?_) (fun hc => ?_) <;> (try (exfalso;omega)))|(refine a2p rfl (fun hc => ?_) (fun hc => ?_) <;> (try (exact absurd hc (by decide)))))|refine a0n ?_|refine a0o ?_|refine a0k ?_|refine a1f ?_)|refine a0t ?_|refine a1q ?_|refine a2b ?_|refine a1d ?_|refine a1v ?_|refine a1b ?_|refine a1e ?_))
  · refine ret1 (by first | exact .inr rfl | exact .inl rfl) rfl rfl ?_
    rw [a6p (j := i) (by omega) (by simpa using ‹(!p (bAt s (i : Int))) = true›)]
    exact ⟨rfl, rfl⟩
  · first | refine a1y (i + 1) (.of (.same (by repeat constructor))) ?_ ?_ | fail
    · refine ⟨by omega, fun j hj => ?_⟩
      rcases Nat.lt_or_ge j i with h | h
      · exact hall j h
      · obtain rfl : j = i := by omega
        simpa using ‹(!p (bAt s (j : Int))) = false›
    · omega
  · refine ret1 (by first | exact .inr rfl | exact .inl rfl) rfl rfl ?_
    rw [b5u fun j hj => hall j (by omega)]
    exact ⟨rfl, rfl⟩
theorem a9u {H : List AO} {id ver sz i off e : Nat} {xs : List (List AV)} {wr : Bool} {c : List AV} (hH : H[id]? = some (.arr e sz ver xs wr)) (hi : xs[i]? = some c) : cellsAt H (.er id ver sz i off) = some (c.drop off) := by
  simp [cellsAt, hH, hi]
theorem b1j {s : List UInt8} (hs : s.length ≤ 140737488351232) : PCalls (EE w0 base) 75 [.str s] fun rv => rv = .str (smallS s) := by
  refine a1s Tryz.func75 rfl rfl rfl (.cons .nil) ?_
  have hbl : ∀ l : List UInt8, (bytesAV l).length = l.length := fun l => List.length_map _
  repeat' (first|(first|refine b5x rfl (by first|exact ln0) (by repeat constructor) rfl ?_|(refine a0d ?_;refine a0b (a7j rfl rfl rfl) rfl ?_))|(refine a2k ?_;first|refine a0b (a0l rfl) rfl ?_|(refine a1a ?_;first|refine a0b (a1h rfl rfl rfl) rfl ?_|refine a0b (a1p rfl rfl (by (first|exact w64 (by omega) (by omega)|exact w8 (by omega) (by omega)|rfl))) rfl ?_|refine a0b (a2s rfl rfl (by (first|exact w64 (by omega) (by omega)|exact w8 (by omega) (by omega)|rfl))) rfl ?_)|refine a0b (a0e rfl) rfl ?_|refine a0u ?_)|(first|refine a1n ?_|(refine a1o ?_;first|refine a0c (a0a ?_)|refine a0c ?_|refine a0a ?_|(refine a0x ?_;first|refine a0g rfl (by with_reducible rfl) ?_|refine a0h rfl (by with_reducible rfl) ?_|(refine a0r rfl (fun hc => ?_) (fun hc => ?_) <;> (try (exfalso;omega))))|refine a0n ?_|refine a0o ?_|refine a0k ?_|refine a1f ?_)|refine a1q ?_|refine a1d ?_|refine a1v ?_|refine a1e ?_))
  refine a2o (fun k : Nat => ⟨[(3, .os 0 0), (8, .os 0 0), (9, .int .i64 ((bytesAV s).length : Int)), (10, .int .i64 k)], [.arr 5 1 0 (bytesAV (halfS s k)) true]⟩) (fun k => k ≤ s.length) (fun k => s.length - k) 0 (.of (.same (by repeat constructor))) (Nat.zero_le _) ?_
  rintro i hi
  try dsimp only
  have h1 := hbl s
  have h2 := hbl (halfS s i)
  rw [c0r] at h2
  repeat' (first|(refine a2k ?_;first|refine a0b (a0l rfl) rfl ?_|(refine a1a ?_;first|refine a0b (a1h rfl rfl rfl) rfl ?_|refine a0b (a1p rfl rfl (by (first|exact w64 (by omega) (by omega)|exact w8 (by omega) (by omega)|rfl))) rfl ?_|refine a0b (a2s rfl rfl (by (first|exact w64 (by omega) (by omega)|exact w8 (by omega) (by omega)|rfl))) rfl ?_)|refine a0b (a0e rfl) rfl ?_|refine a0u ?_)|(first|refine a1n ?_|(refine a1o ?_;first|refine a0c (a0a ?_)|refine a0c ?_|refine a0a ?_|(refine a0x ?_;first|refine a0g rfl (by with_reducible rfl) ?_|refine a0h rfl (by with_reducible rfl) ?_|(refine a0r rfl (fun hc => ?_) (fun hc => ?_) <;> (try (exfalso;omega))))|refine a0n ?_|refine a0o ?_|refine a0k ?_|refine a1f ?_)|refine a1q ?_|refine a1d ?_|refine a1v ?_|refine a1e ?_))
  · have hlt : i < s.length := by omega
    obtain ⟨b, hbe⟩ : ∃ b, bAt s (i : Int) = b := ⟨_, rfl⟩
    have hrow : (bytesAV (halfS s i))[(i : Int).toNat]? = some [bI b] := by rw [← hbe]; exact b5t (b3p hlt)
    have hlb := b.toNat_lt
    by_cases hla : pLarge b = true
    · obtain ⟨g1, g2⟩ := (a7i _).1 hla
      have hset : bytesAV (halfS s (i + 1)) = (bytesAV (halfS s i)).set (i : Int).toNat [.int .u8 ((b.toNat : Int) + 97 - 65)] := by
        rw [← b3o hlt, ← b5s, hbe, b7v _ hla]
        rfl
      have hsl : PCalls (EE w0 base) 115 [bI b] fun rv => rv = .bool true := by rw [← hla]; exact b1l
      repeat' (first|(first|refine a0b (a5t rfl rfl rfl rfl rfl (by omega) (by omega)) rfl ?_|refine a0b (a0w rfl (a9u rfl hrow)) rfl ?_|(refine a0d ?_;refine a0q rfl rfl rfl rfl hsl ?_;rintro _ rfl)|refine b4g rfl rfl rfl rfl (by repeat constructor) rfl hrow hset ?_)|(refine a2k ?_;first|refine a0b (a0l rfl) rfl ?_|(refine a1a ?_;first|refine a0b (a1h rfl rfl rfl) rfl ?_|refine a0b (a1p rfl rfl (by (first|exact w64 (by omega) (by omega)|exact w8 (by omega) (by omega)|rfl))) rfl ?_|refine a0b (a2s rfl rfl (by (first|exact w64 (by omega) (by omega)|exact w8 (by omega) (by omega)|rfl))) rfl ?_)|refine a0b (a0e rfl) rfl ?_|refine a0u ?_)|(first|refine a1n ?_|(refine a1o ?_;first|refine a0c (a0a ?_)|refine a0c ?_|refine a0a ?_|(refine a0x ?_;first|refine a0g rfl (by with_reducible rfl) ?_|refine a0h rfl (by with_reducible rfl) ?_|(refine a0r rfl (fun hc => ?_) (fun hc => ?_) <;> (try (exfalso;omega))))|refine a0n ?_|refine a0o ?_|refine a0k ?_|refine a1f ?_)|refine a1q ?_|refine a1d ?_|refine a1v ?_|refine a1e ?_))
      first | refine a1y (i + 1) (.of (.same (by repeat constructor))) ?_ ?_ | fail
      · omega
      · omega
    · have hla : pLarge b = false := by simpa using hla
      have hsl : PCalls (EE w0 base) 115 [bI b] fun rv => rv = .bool false := by rw [← hla]; exact b1l
      repeat' (first|(first|refine a0b (a5t rfl rfl rfl rfl rfl (by omega) (by omega)) rfl ?_|refine a0b (a0w rfl (a9u rfl hrow)) rfl ?_|(refine a0d ?_;refine a0q rfl rfl rfl rfl hsl ?_;rintro _ rfl))|(refine a2k ?_;first|refine a0b (a0l rfl) rfl ?_|(refine a1a ?_;first|refine a0b (a1h rfl rfl rfl) rfl ?_|refine a0b (a1p rfl rfl (by (first|exact w64 (by omega) (by omega)|exact w8 (by omega) (by omega)|rfl))) rfl ?_|refine a0b (a2s rfl rfl (by (first|exact w64 (by omega) (by omega)|exact w8 (by omega) (by omega)|rfl))) rfl ?_)|refine a0b (a0e rfl) rfl ?_|refine a0u ?_)|(first|refine a1n ?_|(refine a1o ?_;first|refine a0c (a0a ?_)|refine a0c ?_|refine a0a ?_|(refine a0x ?_;first|refine a0g rfl (by with_reducible rfl) ?_|refine a0h rfl (by with_reducible rfl) ?_|(refine a0r rfl (fun hc => ?_) (fun hc => ?_) <;> (try (exfalso;omega))))|refine a0n ?_|refine a0o ?_|refine a0k ?_|refine a1f ?_)|refine a1q ?_|refine a1d ?_|refine a1v ?_|refine a1e ?_))
      rw [b7x hlt (by rw [hbe]; exact hla)]
      first | refine a1y (i + 1) (.of (.same (by repeat constructor))) ?_ ?_ | fail
      · omega
      · omega
  · repeat' (first|((refine a0b (a6u (l := smallS s) rfl rfl (by rw [show smallS s = halfS s i by rw [show i = s.length by omega];simp [halfS]];exact .arr _ _)) rfl ?_))|(refine a2k ?_;first|refine a0b (a0l rfl) rfl ?_|(refine a1a ?_;first|refine a0b (a1h rfl rfl rfl) rfl ?_|refine a0b (a1p rfl rfl (by (first|exact w64 (by omega) (by omega)|exact w8 (by omega) (by omega)|rfl))) rfl ?_|refine a0b (a2s rfl rfl (by (first|exact w64 (by omega) (by omega)|exact w8 (by omega) (by omega)|rfl))) rfl ?_)|refine a0b (a0e rfl) rfl ?_|refine a0u ?_)|(first|refine a1n ?_|(refine a1o ?_;first|refine a0c (a0a ?_)|refine a0c ?_|refine a0a ?_|(refine a0x ?_;first|refine a0g rfl (by with_reducible rfl) ?_|refine a0h rfl (by with_reducible rfl) ?_|(refine a0r rfl (fun hc => ?_) (fun hc => ?_) <;> (try (exfalso;omega))))|refine a0n ?_|refine a0o ?_|refine a0k ?_|refine a1f ?_)|refine a1q ?_|refine a1d ?_|refine a1v ?_|refine a1e ?_))
    refine ret1 (by first | exact .inr rfl | exact .inl rfl) rfl rfl ?_
    exact ⟨rfl, rfl⟩
theorem a9v {l : List UInt8} {b : UInt8} : bytesAV l ++ [[.int .u8 (b.toNat : Int)]] = bytesAV (l ++ [b]) := by simp [bytesAV]
theorem a8z {s : List UInt8} {i : Nat} (h : i < s.length) : smallS (s.take (i + 1)) = smallS (s.take i) ++ [lowB (bAt s (i : Int))] := by
  unfold smallS
  rw [List.take_add_one, a5i h]
  simp
set_option maxHeartbeats 2000000 in
theorem c2h {s : List UInt8} (hs : s.length ≤ 140737488351232) : PCalls (EE w0 base) 94 [.str s] fun rv => rv = .str (smallS s) := by
  refine a1s Tryz.func94 rfl rfl rfl (.cons .nil) ?_
  repeat' (first|(refine a2k ?_;first|refine a0b (a0l rfl) rfl ?_|(refine k_g ?_;first|refine a1j rfl rfl (by with_reducible rfl) ?_|refine a1w rfl rfl (by with_reducible rfl) rfl ?_|(refine a1z rfl rfl (fun hc => ?_) (fun hc => ?_) <;> (try (exfalso;omega))))|(refine a1a ?_;first|refine a0b (a1h rfl rfl rfl) rfl ?_|refine a0b (a1p rfl rfl (by (first|exact w64 (by omega) (by omega)|exact w8 (by omega) (by omega)|rfl))) rfl ?_)|(refine a1i ?_;first|refine a0b (a0j rfl (by with_reducible rfl) rfl) rfl ?_|refine a0b (a0i rfl (by with_reducible rfl) rfl) rfl ?_)|refine a0b (a0e rfl) rfl ?_|(refine a0d ?_;first|refine a0b (a0p rfl) rfl ?_)|refine a0u ?_|refine a2e (by rfl) (by rfl) (by rfl) (by rfl) (by decide) (by decide) (by rfl) (by rfl) (by repeat constructor) (by rfl) (by repeat constructor) (by rfl) (by first|exact ln1) (by repeat constructor) rfl ?_|refine a0b (a1u rfl rfl (by omega) (by omega)) rfl ?_)|(first|refine a1n ?_|(refine a1o ?_;first|refine a0c (a0a ?_)|refine a0c ?_|refine a0a ?_|(refine a0x ?_;first|refine a0h rfl (by with_reducible rfl) ?_|(refine a0r rfl (fun hc => ?_) (fun hc => ?_) <;> (try (exfalso;omega))))|refine a0n ?_|refine a0o ?_|refine a0k ?_|refine a1f ?_)|refine a1q ?_|refine a1d ?_|refine a1v ?_|refine a1e ?_))
  refine b0b 3 5 1 rfl (by decide) rfl (by repeat constructor) ?_
  refine a2o (fun p : Nat × Nat × List (List AV) => ⟨[(0, .str s), (3, .os 0 p.2.1), (4, .int .i64 p.1)], [.row 5 1 p.2.1 0 p.2.2]⟩)
    (fun p => p.1 ≤ s.length ∧ p.2.2 = bytesAV (smallS (s.take p.1))) (fun p => s.length - p.1) (0, 0, []) (.of (.same (by repeat constructor))) ⟨Nat.zero_le _, rfl⟩ ?_
  rintro ⟨i, ver, xs⟩ ⟨hi, hx⟩
  dsimp only at hi hx ⊢
  subst hx
  have hbl : (bytesAV (smallS (s.take i))).length = i := by simp [bytesAV, smallS]; omega
  have hlb := (bAt s (i : Int)).toNat_lt
  have hb := a3i s (i : Int)
  repeat' (first|((refine a0d ?_;refine a4d rfl rfl (by repeat constructor) (a6q rfl rfl) rfl (by decide) (by simp only [hbl,List.length_cons,List.length_nil];omega) rfl ?_))|(refine a2k ?_;first|refine a0b (a0l rfl) rfl ?_|(refine k_g ?_;first|refine a1j rfl rfl (by with_reducible rfl) ?_|refine a1w rfl rfl (by with_reducible rfl) rfl ?_|(refine a1z rfl rfl (fun hc => ?_) (fun hc => ?_) <;> (try (exfalso;omega))))|(refine a1a ?_;first|refine a0b (a1h rfl rfl rfl) rfl ?_|refine a0b (a1p rfl rfl (by (first|exact w64 (by omega) (by omega)|exact w8 (by omega) (by omega)|rfl))) rfl ?_)|(refine a1i ?_;first|refine a0b (a0j rfl (by with_reducible rfl) rfl) rfl ?_|refine a0b (a0i rfl (by with_reducible rfl) rfl) rfl ?_)|refine a0b (a0e rfl) rfl ?_|(refine a0d ?_;first|refine a0b (a0p rfl) rfl ?_)|refine a0u ?_|refine a2e (by rfl) (by rfl) (by rfl) (by rfl) (by decide) (by decide) (by rfl) (by rfl) (by repeat constructor) (by rfl) (by repeat constructor) (by rfl) (by first|exact ln1) (by repeat constructor) rfl ?_|refine a0b (a1u rfl rfl (by omega) (by omega)) rfl ?_)|(first|refine a1n ?_|(refine a1o ?_;first|refine a0c (a0a ?_)|refine a0c ?_|refine a0a ?_|(refine a0x ?_;first|refine a0h rfl (by with_reducible rfl) ?_|(refine a0r rfl (fun hc => ?_) (fun hc => ?_) <;> (try (exfalso;omega))))|refine a0n ?_|refine a0o ?_|refine a0k ?_|refine a1f ?_)|refine a1q ?_|refine a1d ?_|refine a1v ?_|refine a1e ?_))
  · have hla : pLarge (bAt s (i : Int)) = true := (a7i _).2 (by omega)
    first|refine a1y (i + 1,ver + 1,_) (.of (.same (by repeat constructor))) ?_ ?_|refine a1y (i + 1,ver + 1,_) (.of (a2n [_] rfl (by repeat constructor) rfl (by repeat constructor) rfl)) ?_ ?_|refine a1y (i + 1,ver + 1,_) (.of (a2n [_,_] rfl (by repeat constructor) rfl (by repeat constructor) rfl)) ?_ ?_|refine a1y (i + 1,ver + 1,_) (.of (a2n [_,_,_] rfl (by repeat constructor) rfl (by repeat constructor) rfl)) ?_ ?_
    · refine ⟨by dsimp only; omega, ?_⟩
      dsimp only
      rw [a8z (by omega), ← a9v, b4z _ hla]
      rfl
    · dsimp only; omega
  iterate 2
    · have hla : pLarge (bAt s (i : Int)) = false := by
        cases h : pLarge (bAt s (i : Int)) with
        | false => rfl
        | true => have := (a7i _).1 h; omega
      first|refine a1y (i + 1,ver + 1,_) (.of (.same (by repeat constructor))) ?_ ?_|refine a1y (i + 1,ver + 1,_) (.of (a2n [_] rfl (by repeat constructor) rfl (by repeat constructor) rfl)) ?_ ?_|refine a1y (i + 1,ver + 1,_) (.of (a2n [_,_] rfl (by repeat constructor) rfl (by repeat constructor) rfl)) ?_ ?_|refine a1y (i + 1,ver + 1,_) (.of (a2n [_,_,_] rfl (by repeat constructor) rfl (by repeat constructor) rfl)) ?_ ?_
      · refine ⟨by dsimp only; omega, ?_⟩
        dsimp only
        rw [a8z (by omega), ← a9v, b6t hla]
        rfl
      · dsimp only; omega
  · repeat' (first|((refine a0b (a6u (l := smallS s) rfl rfl (by rw [show smallS s = smallS (s.take i) by rw [List.take_of_length_le (by omega)]];exact .row _ _)) rfl ?_))|(refine a2k ?_;first|refine a0b (a0l rfl) rfl ?_|(refine k_g ?_;first|refine a1j rfl rfl (by with_reducible rfl) ?_|refine a1w rfl rfl (by with_reducible rfl) rfl ?_|(refine a1z rfl rfl (fun hc => ?_) (fun hc => ?_) <;> (try (exfalso;omega))))|(refine a1a ?_;first|refine a0b (a1h rfl rfl rfl) rfl ?_|refine a0b (a1p rfl rfl (by (first|exact w64 (by omega) (by omega)|exact w8 (by omega) (by omega)|rfl))) rfl ?_)|(refine a1i ?_;first|refine a0b (a0j rfl (by with_reducible rfl) rfl) rfl ?_|refine a0b (a0i rfl (by with_reducible rfl) rfl) rfl ?_)|refine a0b (a0e rfl) rfl ?_|(refine a0d ?_;first|refine a0b (a0p rfl) rfl ?_)|refine a0u ?_|refine a2e (by rfl) (by rfl) (by rfl) (by rfl) (by decide) (by decide) (by rfl) (by rfl) (by repeat constructor) (by rfl) (by repeat constructor) (by rfl) (by first|exact ln1) (by repeat constructor) rfl ?_|refine a0b (a1u rfl rfl (by omega) (by omega)) rfl ?_)|(first|refine a1n ?_|(refine a1o ?_;first|refine a0c (a0a ?_)|refine a0c ?_|refine a0a ?_|(refine a0x ?_;first|refine a0h rfl (by with_reducible rfl) ?_|(refine a0r rfl (fun hc => ?_) (fun hc => ?_) <;> (try (exfalso;omega))))|refine a0n ?_|refine a0o ?_|refine a0k ?_|refine a1f ?_)|refine a1q ?_|refine a1d ?_|refine a1v ?_|refine a1e ?_))
    refine ret1 (by first | exact .inr rfl | exact .inl rfl) rfl rfl ?_
    exact ⟨rfl, rfl⟩
end
end Go.Proofs.YtkljmljkiodnpaaGreatDoor.L

namespace Go.Proofs.YtkljmljkiodnpaaGreatDoor.L
open Go Go.RowKit Go.Proofs
attribute [local irreducible] AL QL AWp Thn InB RetQ ACalls LoopQ HL HO HW HQ NoG

def verOk (v : List UInt8) : Bool := decide (v.length = 8) && (Lib.hasPrefix v [72, 84, 84, 80, 47] && (pDigit (bAt v 5) && (decide (byteAt v 6 = 46) && pDigit (bAt v 7))))
theorem b8x : ∀ b : UInt8, decide (0 ≤ Lib.indexByte signs b) = signs.contains b := a8c (by decide +kernel)
theorem c4y {s : List UInt8} {a b : Nat} (hab : a ≤ b) (hb : b ≤ s.length) (h1 : ∀ j : Nat, j < a → ([32, 9] : List UInt8).contains (bAt s (j : Int)) = true) (h2 : ∀ j : Nat, b ≤ j → j < s.length → ([32, 9] : List UInt8).contains (bAt s (j : Int)) = true)
    (h3 : a < b → ([32, 9] : List UInt8).contains (bAt s (a : Int)) = false ∧ ([32, 9] : List UInt8).contains (bAt s ((b - 1 : Nat) : Int)) = false) : Lib.trimS s [32, 9] = (s.take b).drop a := by
  have get : ∀ (j : Nat) (x : UInt8), s[j]? = some x → j < s.length ∧ bAt s (j : Int) = x := fun j x h => by
    have hj := (List.getElem?_eq_some_iff.1 h).1
    rw [a5i hj] at h
    injection h with h
    exact ⟨hj, h⟩
  unfold Lib.trimS
  rcases Nat.lt_or_ge a b with hlt | hge
  · obtain ⟨h4, h5⟩ := h3 hlt
    rw [Lib.trimRightS_take s [32, 9] b hb (fun j x hj hx => by obtain ⟨g1, g2⟩ := get j x hx; rw [← g2]; exact h2 j hj g1) (fun x _ hx => by obtain ⟨g1, g2⟩ := get _ x hx; rw [← g2]; exact h5)]
    refine Lib.trimLeftS_drop _ _ a (by simp; omega) (fun j x hj hx => ?_) (fun x hx => ?_)
    · rw [List.getElem?_take, if_pos (by omega)] at hx
      obtain ⟨g1, g2⟩ := get j x hx; rw [← g2]; exact h1 j hj
    · rw [List.getElem?_take, if_pos hlt] at hx
      obtain ⟨g1, g2⟩ := get a x hx; rw [← g2]; exact h4
  · obtain rfl : a = b := by omega
    rw [Lib.trimRightS_take s [32, 9] 0 (Nat.zero_le _) (fun j x _ hx => by
      obtain ⟨g1, g2⟩ := get j x hx
      rw [← g2]
      rcases Nat.lt_or_ge j a with h | h
      · exact h1 j h
      · exact h2 j h g1) (fun x h => absurd h (Nat.lt_irrefl 0))]
    rw [List.drop_eq_nil_of_le (by simp; omega)]
    rfl
theorem a9y (s : List UInt8) (m : Int) : ([32, 9] : List UInt8).contains (bAt s m) = true ↔ byteAt s m = 32 ∨ byteAt s m = 9 := by
  rw [a3i]
  generalize bAt s m = b
  revert b
  exact a8c (by decide +kernel)
theorem b4b (s : List UInt8) (m : Int) : ([32, 9] : List UInt8).contains (bAt s m) = false ↔ ¬ (byteAt s m = 32 ∨ byteAt s m = 9) := by
  rw [← a9y, Bool.not_eq_true]
theorem b1w (l : List UInt8) (i : Nat) : Lib.occAt l [13, 10] i = true ↔ l[i]? = some 13 ∧ l[i + 1]? = some 10 := by
  constructor
  · intro h
    exact ⟨Lib.occAt_head rfl h, Lib.occAt_second rfl h⟩
  · rintro ⟨h1, h2⟩
    obtain ⟨g1, g2⟩ := List.getElem?_eq_some_iff.1 h1
    obtain ⟨g3, g4⟩ := List.getElem?_eq_some_iff.1 h2
    unfold Lib.occAt
    rw [List.drop_eq_getElem_cons g1, List.drop_eq_getElem_cons g3, g2, g4]
    simp [List.isPrefixOf]
theorem b5q {l : List UInt8} {i : Nat} (h1 : l[i]? = some 13) (h2 : l[i + 1]? = some 10) (hn : ∀ j, j < i → ¬ (l[j]? = some 13 ∧ l[j + 1]? = some 10)) : Lib.cut l [13, 10] = (l.take i, l.drop (i + 2), true) := by
  have hi := (List.getElem?_eq_some_iff.1 h1).1
  have := Lib.index_first (s := l) (sub := [13, 10]) (i := i) (by omega) ((b1w l i).2 ⟨h1, h2⟩) (fun j hj => by
    cases h : Lib.occAt l [13, 10] j with
    | false => rfl
    | true => exact absurd ((b1w l j).1 h) (hn j hj))
  unfold Lib.cut
  rw [this, if_pos (by omega)]
  simp
theorem b5p {l : List UInt8} (hn : ∀ j : Nat, ¬ (l[j]? = some 13 ∧ l[j + 1]? = some 10)) : Lib.cut l [13, 10] = (l, [], false) := by
  have := Lib.index_none (s := l) (sub := [13, 10]) (fun j hj => by
    cases h : Lib.occAt l [13, 10] j with
    | false => rfl
    | true => exact absurd ((b1w l j).1 h) (hn j))
  unfold Lib.cut
  rw [this, if_neg (by omega)]

section
variable {w0 : World} {base : Nat}
theorem b8z {v : List UInt8} : PCalls (EE w0 base) 117 [.str v] fun rv => rv = .bool (verOk v) := by
  refine a1s Tryz.func117 rfl rfl rfl (.cons .nil) ?_
  repeat' (first|(first|(refine a0d ?_;refine a0q rfl rfl rfl rfl (b1n (b := bAt v 5)) ?_;rintro _ rfl)|(refine a0d ?_;refine a0q rfl rfl rfl rfl (b1n (b := bAt v 7)) ?_;rintro _ rfl)|(refine a0d ?_;refine a0q rfl rfl rfl rfl a5n ?_;rintro _ rfl))|(refine a2k ?_;first|refine a0b (a0l rfl) rfl ?_|(refine k_g ?_;first|refine a1j rfl rfl (by with_reducible rfl) ?_|refine a1w rfl rfl (by with_reducible rfl) rfl ?_|(refine a1z rfl rfl (fun hc => ?_) (fun hc => ?_) <;> (try (exfalso;omega)))|(refine a3s rfl rfl (fun hc => ?_) (fun hc => ?_) <;> (try (exact absurd hc (by decide)))))|(refine a1a ?_;first|refine a0b (a1h rfl rfl rfl) rfl ?_)|(refine a1i ?_;first|refine a0b (a0j rfl (by with_reducible rfl) rfl) rfl ?_|refine a0b (a0i rfl (by with_reducible rfl) rfl) rfl ?_)|refine a0b (a0e rfl) rfl ?_|(refine a0d ?_;first|refine a0b (a0p rfl) rfl ?_)|refine a0u ?_|refine a0b (a1u rfl rfl (by omega) (by omega)) rfl ?_)|(first|refine a1n ?_|(refine a1o ?_;first|refine a0c (a0a ?_)|refine a0c ?_|refine a0a ?_|refine a0o ?_)))
  all_goals
    refine ret1 (by first | exact .inr rfl | exact .inl rfl) rfl rfl ?_
    refine ⟨congrArg AV.bool ?_, rfl⟩
    unfold verOk
    (try have hv : v.length = 8 := by omega)
    (try have hv : ¬ v.length = 8 := by omega)
    (try have hp : Lib.hasPrefix v [72, 84, 84, 80, 47] = true := ‹Lib.hasPrefix v _ = true›)
    (try have hp : Lib.hasPrefix v [72, 84, 84, 80, 47] = false := ‹Lib.hasPrefix v _ = false›)
    generalize Lib.hasPrefix v [72, 84, 84, 80, 47] = pp at *
    generalize pDigit (bAt v 5) = p5 at *
    generalize pDigit (bAt v 7) = p7 at *
    generalize byteAt v 6 = x6 at *
    simp [*]
end
end Go.Proofs.YtkljmljkiodnpaaGreatDoor.L

namespace Go.Proofs.YtkljmljkiodnpaaGreatDoor.L
open Go Go.RowKit Go.Proofs
attribute [local irreducible] AL QL AWp Thn InB RetQ ACalls LoopQ HL HO HW HQ NoG

section
variable {w0 : World} {base : Nat}
theorem b0s (b : UInt8) (k : Nat) (h : k < 15) : (signs.take (k + 1)).contains b = ((signs.take k).contains b || decide ((b.toNat : Int) = byteAt signs (k : Int))) := by
  have : ∀ k : Fin 15, ∀ n : Fin 256, (signs.take (k.1 + 1)).contains (UInt8.ofNat n.1) = ((signs.take k.1).contains (UInt8.ofNat n.1) || decide (((UInt8.ofNat n.1).toNat : Int) = byteAt signs (k.1 : Int))) := by decide +kernel
  have := this ⟨k, h⟩ ⟨b.toNat, b.toNat_lt⟩
  simpa using this
theorem b8r (b : UInt8) : pToken b = (decide (97 ≤ b.toNat ∧ b.toNat ≤ 122 ∨ 65 ≤ b.toNat ∧ b.toNat ≤ 90 ∨ 48 ≤ b.toNat ∧ b.toNat ≤ 57) || signs.contains b) := by
  rw [← b8x]
  unfold pToken pLarge pDigit
  rw [Bool.eq_iff_iff]
  simp only [Bool.or_eq_true, Bool.and_eq_true, decide_eq_true_eq]
  omega
set_option maxHeartbeats 4000000 in
theorem c6y {s : List UInt8} (hs : s.length ≤ 140737488351232) : PCalls (EE w0 base) 93 [.str s] fun rv => rv = .bool (s.all pToken && decide (1 ≤ s.length)) := by
  refine a1s Tryz.func93 rfl rfl rfl (.cons .nil) ?_
  repeat' (first|(refine a2k ?_;first|refine a0b (a0l rfl) rfl ?_|(refine k_g ?_;first|refine a1j rfl rfl (by with_reducible rfl) ?_|refine a1w rfl rfl (by with_reducible rfl) rfl ?_|refine a1t rfl rfl (by with_reducible rfl) rfl ?_|refine a4a rfl rfl rfl ?_|(refine a1z rfl rfl (fun hc => ?_) (fun hc => ?_) <;> (try (exfalso;omega)))|(refine a3s rfl rfl (fun hc => ?_) (fun hc => ?_) <;> (try (exact absurd hc (by decide)))))|(refine a1a ?_;first|refine a0b (a1h rfl rfl rfl) rfl ?_|refine a0b (a1p rfl rfl (by (first|exact w64 (by omega) (by omega)|rfl))) rfl ?_)|(refine a1i ?_;first|refine a0b (a0j rfl (by with_reducible rfl) rfl) rfl ?_|refine a0b (a0i rfl (by with_reducible rfl) rfl) rfl ?_)|refine a0b (a0e rfl) rfl ?_|(refine a0d ?_;first|refine a0b (a0p rfl) rfl ?_)|refine a0u ?_|refine a0b (a2z rfl rfl) rfl ?_|refine a0b (a1u rfl rfl (by omega) (by omega)) rfl ?_)|(first|refine a1n ?_|(refine a1o ?_;first|refine a0c (a0a ?_)|refine a0c ?_|refine a0a ?_|(refine a0x ?_;first|(refine a0r rfl (fun hc => ?_) (fun hc => ?_) <;> (try (exfalso;omega)))|(refine a2p rfl (fun hc => ?_) (fun hc => ?_) <;> (try (exact absurd hc (by decide)))))|refine a0n ?_|refine a0o ?_|refine a0k ?_|refine a1f ?_)|refine a0t ?_|refine a1q ?_|refine a2b ?_|refine a1d ?_|refine a1v ?_|refine a1b ?_|refine a1e ?_))
  refine a2o (fun k : Nat => ⟨[(0, .str s), (3, .str signs), (4, .int .i64 k)], []⟩) (fun k => k ≤ s.length ∧ ∀ j, j < k → pToken (bAt s (j : Int)) = true) (fun k => s.length - k) 0 (.of (.same (by repeat constructor))) ⟨Nat.zero_le _, fun j h => absurd h (Nat.not_lt_zero _)⟩ ?_
  rintro i ⟨hi, hall⟩
  try dsimp only
  have hb := a3i s (i : Int)
  obtain ⟨b, hbe⟩ : ∃ b, bAt s (i : Int) = b := ⟨_, rfl⟩
  rw [hbe] at hb
  have htok := b8r b
  obtain ⟨al, hal⟩ : ∃ al, al = decide (97 ≤ b.toNat ∧ b.toNat ≤ 122 ∨ 65 ≤ b.toNat ∧ b.toNat ≤ 90 ∨ 48 ≤ b.toNat ∧ b.toNat ≤ 57) := ⟨_, rfl⟩
  rw [← hal] at htok
  have hsl : signs.length = 15 := rfl
  repeat' (first|(refine a2k ?_;first|refine a0b (a0l rfl) rfl ?_|(refine k_g ?_;first|refine a1j rfl rfl (by with_reducible rfl) ?_|refine a1w rfl rfl (by with_reducible rfl) rfl ?_|refine a1t rfl rfl (by with_reducible rfl) rfl ?_|refine a4a rfl rfl rfl ?_|(refine a1z rfl rfl (fun hc => ?_) (fun hc => ?_) <;> (try (exfalso;omega)))|(refine a3s rfl rfl (fun hc => ?_) (fun hc => ?_) <;> (try (exact absurd hc (by decide)))))|(refine a1a ?_;first|refine a0b (a1h rfl rfl rfl) rfl ?_|refine a0b (a1p rfl rfl (by (first|exact w64 (by omega) (by omega)|rfl))) rfl ?_)|(refine a1i ?_;first|refine a0b (a0j rfl (by with_reducible rfl) rfl) rfl ?_|refine a0b (a0i rfl (by with_reducible rfl) rfl) rfl ?_)|refine a0b (a0e rfl) rfl ?_|(refine a0d ?_;first|refine a0b (a0p rfl) rfl ?_)|refine a0u ?_|refine a0b (a2z rfl rfl) rfl ?_|refine a0b (a1u rfl rfl (by omega) (by omega)) rfl ?_)|(first|refine a1n ?_|(refine a1o ?_;first|refine a0c (a0a ?_)|refine a0c ?_|refine a0a ?_|(refine a0x ?_;first|(refine a0r rfl (fun hc => ?_) (fun hc => ?_) <;> (try (exfalso;omega)))|(refine a2p rfl (fun hc => ?_) (fun hc => ?_) <;> (try (exact absurd hc (by decide)))))|refine a0n ?_|refine a0o ?_|refine a0k ?_|refine a1f ?_)|refine a0t ?_|refine a1q ?_|refine a2b ?_|refine a1d ?_|refine a1v ?_|refine a1b ?_|refine a1e ?_))
  iterate 6
    · refine a4y (.spell 6 (.bool al) rfl (congrArg AV.bool ?_)) ?_
      · rw [hal, Bool.eq_iff_iff]
        simp only [decide_eq_true_eq, true_iff, false_iff, Bool.false_eq_true]
        omega
      refine a2o (fun p : Nat × Bool => ⟨[(0, .str s), (3, .str signs), (4, .int .i64 i), (5, .int .u8 (byteAt s (i : Int))), (6, .bool p.2), (7, .int .i64 p.1)], []⟩) (fun p => p.1 ≤ 15 ∧ p.2 = (al || (signs.take p.1).contains b)) (fun p => 15 - p.1) (0, al) (.of (.same (by repeat constructor))) ⟨Nat.zero_le _, by simp⟩ ?_
      rintro ⟨k, ok⟩ ⟨hk, hok⟩
      dsimp only at hk hok ⊢
      repeat' (first|(refine a2k ?_;first|refine a0b (a0l rfl) rfl ?_|(refine k_g ?_;first|refine a1j rfl rfl (by with_reducible rfl) ?_|refine a1w rfl rfl (by with_reducible rfl) rfl ?_|refine a1t rfl rfl (by with_reducible rfl) rfl ?_|refine a4a rfl rfl rfl ?_|(refine a1z rfl rfl (fun hc => ?_) (fun hc => ?_) <;> (try (exfalso;omega)))|(refine a3s rfl rfl (fun hc => ?_) (fun hc => ?_) <;> (try (exact absurd hc (by decide)))))|(refine a1a ?_;first|refine a0b (a1h rfl rfl rfl) rfl ?_|refine a0b (a1p rfl rfl (by (first|exact w64 (by omega) (by omega)|rfl))) rfl ?_)|(refine a1i ?_;first|refine a0b (a0j rfl (by with_reducible rfl) rfl) rfl ?_|refine a0b (a0i rfl (by with_reducible rfl) rfl) rfl ?_)|refine a0b (a0e rfl) rfl ?_|(refine a0d ?_;first|refine a0b (a0p rfl) rfl ?_)|refine a0u ?_|refine a0b (a2z rfl rfl) rfl ?_|refine a0b (a1u rfl rfl (by omega) (by omega)) rfl ?_)|(first|refine a1n ?_|(refine a1o ?_;first|refine a0c (a0a ?_)|refine a0c ?_|refine a0a ?_|(refine a0x ?_;first|(refine a0r rfl (fun hc => ?_) (fun hc => ?_) <;> (try (exfalso;omega)))|(refine a2p rfl (fun hc => ?_) (fun hc => ?_) <;> (try (exact absurd hc (by decide)))))|refine a0n ?_|refine a0o ?_|refine a0k ?_|refine a1f ?_)|refine a0t ?_|refine a1q ?_|refine a2b ?_|refine a1d ?_|refine a1v ?_|refine a1b ?_|refine a1e ?_))
      · have hst := b0s b k (by omega)
        first | refine a1y (k + 1, true) (.of (.same (by repeat constructor))) ?_ ?_ | fail
        · refine ⟨by dsimp only; omega, ?_⟩
          dsimp only
          rw [hst, ← Bool.or_assoc, ← hok, ‹ok = true›]
          rfl
        · dsimp only; omega
      · have hst := b0s b k (by omega)
        first | refine a1y (k + 1, decide (byteAt s (i : Int) = byteAt signs (k : Int))) (.of (.same (by repeat constructor))) ?_ ?_ | fail
        · refine ⟨by dsimp only; omega, ?_⟩
          dsimp only
          rw [hst, ← Bool.or_assoc, ← hok, ‹ok = false›, Bool.false_or, ← hb]
        · dsimp only; omega
      all_goals
        have hkk : k = 15 := by omega
        subst hkk
        rw [show signs.take 15 = signs from rfl, ← htok] at hok
        subst hok
      · refine ret1 (by first | exact .inr rfl | exact .inl rfl) rfl rfl ?_
        rw [a6p (j := i) (by omega) (by rw [hbe]; simpa using ‹(!pToken b) = true›)]
        exact ⟨rfl, rfl⟩
      · first | refine a1y (i + 1) (.of (.same (by repeat constructor))) ?_ ?_ | fail
        · refine ⟨by omega, fun j hj => ?_⟩
          rcases Nat.lt_or_ge j i with h | h
          · exact hall j h
          · obtain rfl : j = i := by omega
            rw [hbe]
            simpa using ‹(!pToken b) = false›
        · omega
  · refine ret1 (by first | exact .inr rfl | exact .inl rfl) rfl rfl ?_
    rw [b5u fun j hj => hall j (by omega)]
    refine ⟨congrArg AV.bool ?_, rfl⟩
    rw [Bool.true_and]
    exact decide_eq_decide.2 (by omega)
end
end Go.Proofs.YtkljmljkiodnpaaGreatDoor.L

namespace Go.Proofs.YtkljmljkiodnpaaGreatDoor.L
open Go Go.RowKit Go.Proofs
attribute [local irreducible] AL QL AWp Thn InB RetQ ACalls LoopQ HL HO HW HQ NoG

section
variable {w0 : World} {base : Nat}
def endI (s : List UInt8) (at' : Nat) : Int := if (Lib.cut (s.drop at') [13, 10]).2.2 then ((at' + (Lib.cut (s.drop at') [13, 10]).1.length : Nat) : Int) else -1
theorem c5m {s : List UInt8} {at' : Nat} (hs : s.length ≤ 140737488351232) (ha : at' ≤ s.length) : PCalls (EE w0 base) 35 [.str s, .int .i64 at'] fun rv => rv = .int .i64 (endI s at') := by
  refine a1s Tryz.func35 rfl rfl rfl (.cons (.cons .nil)) ?_
  repeat' (first|(refine a2k ?_;first|refine a0b (a0l rfl) rfl ?_|(refine k_g ?_;first|refine a1j rfl rfl (by with_reducible rfl) ?_|refine a1w rfl rfl (by with_reducible rfl) rfl ?_|(refine a1z rfl rfl (fun hc => ?_) (fun hc => ?_) <;> (try (exfalso;omega))))|(refine a1a ?_;first|refine a0b (a1h rfl rfl rfl) rfl ?_|refine a0b (a1p rfl rfl (by (first|exact w64 (by omega) (by omega)|rfl))) rfl ?_)|(refine a1i ?_;first|refine a0b (a0j rfl (by with_reducible rfl) rfl) rfl ?_|refine a0b (a0i rfl (by with_reducible rfl) rfl) rfl ?_)|refine a0b (a0e rfl) rfl ?_|(refine a0d ?_;first|refine a0b (a0p rfl) rfl ?_)|refine a0u ?_|refine a0b (a1u rfl rfl (by omega) (by omega)) rfl ?_)|(first|refine a1n ?_|(refine a1o ?_;first|refine a0c (a0a ?_)|refine a0c ?_|refine a0a ?_|(refine a0x ?_;first|refine a0h rfl (by with_reducible rfl) ?_|(refine a0r rfl (fun hc => ?_) (fun hc => ?_) <;> (try (exfalso;omega))))|refine a0n ?_|refine a0o ?_|refine a0k ?_|refine a1f ?_)|refine a0t ?_|refine a1q ?_|refine a2b ?_|refine a1d ?_|refine a1v ?_|refine a1b ?_|refine a1e ?_))
  refine a2o (fun k : Nat => ⟨[(0, .str s), (5, .int .i64 k)], []⟩) (fun k => at' ≤ k ∧ k ≤ s.length ∧ ∀ j : Nat, at' ≤ j → j < k → ¬ (byteAt s (j : Int) = 13 ∧ byteAt s ((j : Int) + 1) = 10)) (fun k => s.length - k) at' (.of (.same (by repeat constructor))) ⟨Nat.le_refl _, ha, fun j h1 h2 => by omega⟩ ?_
  rintro i ⟨hi1, hi, hno⟩
  try dsimp only
  have key : ∀ j : Nat, (s.drop at')[j]? = some 13 ∧ (s.drop at')[j + 1]? = some 10 → at' + j + 1 < s.length ∧ byteAt s ((at' + j : Nat) : Int) = 13 ∧ byteAt s (((at' + j : Nat) : Int) + 1) = 10 := fun j ⟨h1, h2⟩ => by
    rw [List.getElem?_drop] at h1 h2
    have hj := (List.getElem?_eq_some_iff.1 h2).1
    rw [a5i (by omega)] at h1
    rw [a5i (by omega)] at h2
    injection h1 with h1
    injection h2 with h2
    refine ⟨by omega, by rw [a3i, h1]; rfl, ?_⟩
    rw [show (((at' + j : Nat) : Int) + 1) = ((at' + (j + 1) : Nat) : Int) by push_cast; omega, a3i, h2]
    rfl
  repeat' (first|(refine a2k ?_;first|refine a0b (a0l rfl) rfl ?_|(refine k_g ?_;first|refine a1j rfl rfl (by with_reducible rfl) ?_|refine a1w rfl rfl (by with_reducible rfl) rfl ?_|(refine a1z rfl rfl (fun hc => ?_) (fun hc => ?_) <;> (try (exfalso;omega))))|(refine a1a ?_;first|refine a0b (a1h rfl rfl rfl) rfl ?_|refine a0b (a1p rfl rfl (by (first|exact w64 (by omega) (by omega)|rfl))) rfl ?_)|(refine a1i ?_;first|refine a0b (a0j rfl (by with_reducible rfl) rfl) rfl ?_|refine a0b (a0i rfl (by with_reducible rfl) rfl) rfl ?_)|refine a0b (a0e rfl) rfl ?_|(refine a0d ?_;first|refine a0b (a0p rfl) rfl ?_)|refine a0u ?_|refine a0b (a1u rfl rfl (by omega) (by omega)) rfl ?_)|(first|refine a1n ?_|(refine a1o ?_;first|refine a0c (a0a ?_)|refine a0c ?_|refine a0a ?_|(refine a0x ?_;first|refine a0h rfl (by with_reducible rfl) ?_|(refine a0r rfl (fun hc => ?_) (fun hc => ?_) <;> (try (exfalso;omega))))|refine a0n ?_|refine a0o ?_|refine a0k ?_|refine a1f ?_)|refine a0t ?_|refine a1q ?_|refine a2b ?_|refine a1d ?_|refine a1v ?_|refine a1b ?_|refine a1e ?_))
  · have hend : endI s at' = i := by
      have e : Lib.cut (s.drop at') [13, 10] = ((s.drop at').take (i - at'), (s.drop at').drop (i - at' + 2), true) := by
        refine b5q ?_ ?_ fun j hj hc => ?_
        · rw [List.getElem?_drop, show at' + (i - at') = i by omega]
          exact c4m (c := 13) (by omega) ‹_›
        · rw [List.getElem?_drop, show at' + (i - at' + 1) = i + 1 by omega]
          exact c4m (c := 10) (j := i + 1) (by omega) ‹_›
        · obtain ⟨_, g2, g3⟩ := key j hc
          exact hno (at' + j) (by omega) (by omega) ⟨g2, g3⟩
      unfold endI
      rw [e]
      simp
      omega
    refine ret1 (by first | exact .inr rfl | exact .inl rfl) rfl rfl ?_
    rw [hend]
    exact ⟨rfl, rfl⟩
  iterate 2
    · first | refine a1y (i + 1) (.of (.same (by repeat constructor))) ?_ ?_ | fail
      · refine ⟨by omega, by omega, fun j h1 h2 => ?_⟩
        rcases Nat.lt_or_ge j i with h | h
        · exact hno j h1 h
        · obtain rfl : j = i := by omega
          omega
      · omega
  · have hend : endI s at' = -1 := by
      have e : Lib.cut (s.drop at') [13, 10] = (s.drop at', [], false) := by
        refine b5p fun j hc => ?_
        obtain ⟨g1, g2, g3⟩ := key j hc
        exact hno (at' + j) (by omega) (by omega) ⟨g2, g3⟩
      unfold endI
      rw [e]
      rfl
    refine ret1 (by first | exact .inr rfl | exact .inl rfl) rfl rfl ?_
    rw [hend]
    exact ⟨rfl, rfl⟩
set_option maxHeartbeats 1000000 in
theorem c5c {s : List UInt8} (hs : s.length ≤ 140737488351232) : PCalls (EE w0 base) 106 [.str s] fun rv => rv = .str (Lib.trimS s [32, 9]) := by
  refine a1s Tryz.func106 rfl rfl rfl (.cons .nil) ?_
  repeat' (first|(refine a2k ?_;first|refine a0b (a0l rfl) rfl ?_|(refine k_g ?_;first|refine a1j rfl rfl (by with_reducible rfl) ?_|refine a1w rfl rfl (by with_reducible rfl) rfl ?_|refine a1t rfl rfl (by with_reducible rfl) rfl ?_|refine a4a rfl rfl rfl ?_|(refine a1z rfl rfl (fun hc => ?_) (fun hc => ?_) <;> (try (exfalso;omega))))|(refine a1a ?_;first|refine a0b (a1h rfl rfl rfl) rfl ?_|refine a0b (a1p rfl rfl (by (first|exact w64 (by omega) (by omega)|rfl))) rfl ?_|refine a0b (a2s rfl rfl (by (first|exact w64 (by omega) (by omega)|rfl))) rfl ?_)|(refine a1i ?_;first|refine a0b (a0j rfl (by with_reducible rfl) rfl) rfl ?_|refine a0b (a0i rfl (by with_reducible rfl) rfl) rfl ?_)|refine a0b (a0e rfl) rfl ?_|(refine a0d ?_;first|refine a0b (a0p rfl) rfl ?_)|refine a0u ?_|refine a0b (a1u rfl rfl (by omega) (by omega)) rfl ?_)|(first|refine a1n ?_|(refine a1o ?_;first|refine a0c (a0a ?_)|refine a0c ?_|refine a0a ?_|(refine a0x ?_;first|refine a0g rfl (by with_reducible rfl) ?_|refine a0h rfl (by with_reducible rfl) ?_|(refine a0r rfl (fun hc => ?_) (fun hc => ?_) <;> (try (exfalso;omega))))|refine a0n ?_|refine a0o ?_|refine a0k ?_|refine a1f ?_)|refine a1q ?_|refine a1d ?_|refine a1v ?_|refine a1e ?_))
  refine a2o (fun k : Nat => ⟨[(0, .str s), (3, .int .i64 k), (4, .int .i64 s.length)], []⟩) (fun k => k ≤ s.length ∧ ∀ j : Nat, j < k → ([32, 9] : List UInt8).contains (bAt s (j : Int)) = true) (fun k => s.length - k) 0 (.of (.same (by repeat constructor))) ⟨Nat.zero_le _, fun j h => absurd h (Nat.not_lt_zero _)⟩ ?_
  rintro a ⟨ha, hbl⟩
  try dsimp only
  repeat' (first|(refine a2k ?_;first|refine a0b (a0l rfl) rfl ?_|(refine k_g ?_;first|refine a1j rfl rfl (by with_reducible rfl) ?_|refine a1w rfl rfl (by with_reducible rfl) rfl ?_|refine a1t rfl rfl (by with_reducible rfl) rfl ?_|refine a4a rfl rfl rfl ?_|(refine a1z rfl rfl (fun hc => ?_) (fun hc => ?_) <;> (try (exfalso;omega))))|(refine a1a ?_;first|refine a0b (a1h rfl rfl rfl) rfl ?_|refine a0b (a1p rfl rfl (by (first|exact w64 (by omega) (by omega)|rfl))) rfl ?_|refine a0b (a2s rfl rfl (by (first|exact w64 (by omega) (by omega)|rfl))) rfl ?_)|(refine a1i ?_;first|refine a0b (a0j rfl (by with_reducible rfl) rfl) rfl ?_|refine a0b (a0i rfl (by with_reducible rfl) rfl) rfl ?_)|refine a0b (a0e rfl) rfl ?_|(refine a0d ?_;first|refine a0b (a0p rfl) rfl ?_)|refine a0u ?_|refine a0b (a1u rfl rfl (by omega) (by omega)) rfl ?_)|(first|refine a1n ?_|(refine a1o ?_;first|refine a0c (a0a ?_)|refine a0c ?_|refine a0a ?_|(refine a0x ?_;first|refine a0g rfl (by with_reducible rfl) ?_|refine a0h rfl (by with_reducible rfl) ?_|(refine a0r rfl (fun hc => ?_) (fun hc => ?_) <;> (try (exfalso;omega))))|refine a0n ?_|refine a0o ?_|refine a0k ?_|refine a1f ?_)|refine a1q ?_|refine a1d ?_|refine a1v ?_|refine a1e ?_))
  iterate 2
    · first | refine a1y (a + 1) (.of (.same (by repeat constructor))) ?_ ?_ | fail
      · refine ⟨by omega, fun j hj => ?_⟩
        rcases Nat.lt_or_ge j a with h | h
        · exact hbl j h
        · obtain rfl : j = a := by omega
          exact (a9y s j).2 (by omega)
      · omega
  all_goals
    have hstop : a < s.length → ([32, 9] : List UInt8).contains (bAt s (a : Int)) = false := fun h => (b4b s a).2 (by omega)
    refine a2o (fun k : Int => ⟨[(0, .str s), (3, .int .i64 a), (4, .int .i64 k)], []⟩) (fun k => (a : Int) ≤ k ∧ k ≤ s.length ∧ ∀ j : Nat, k ≤ j → j < s.length → ([32, 9] : List UInt8).contains (bAt s (j : Int)) = true) (fun k => k.toNat) (s.length : Int) (.of (.same (by repeat constructor))) ⟨by omega, Int.le_refl _, fun j h1 h2 => by omega⟩ ?_
    rintro b ⟨hab, hb, hbr⟩
    try dsimp only
    repeat' (first|(refine a2k ?_;first|refine a0b (a0l rfl) rfl ?_|(refine k_g ?_;first|refine a1j rfl rfl (by with_reducible rfl) ?_|refine a1w rfl rfl (by with_reducible rfl) rfl ?_|refine a1t rfl rfl (by with_reducible rfl) rfl ?_|refine a4a rfl rfl rfl ?_|(refine a1z rfl rfl (fun hc => ?_) (fun hc => ?_) <;> (try (exfalso;omega))))|(refine a1a ?_;first|refine a0b (a1h rfl rfl rfl) rfl ?_|refine a0b (a1p rfl rfl (by (first|exact w64 (by omega) (by omega)|rfl))) rfl ?_|refine a0b (a2s rfl rfl (by (first|exact w64 (by omega) (by omega)|rfl))) rfl ?_)|(refine a1i ?_;first|refine a0b (a0j rfl (by with_reducible rfl) rfl) rfl ?_|refine a0b (a0i rfl (by with_reducible rfl) rfl) rfl ?_)|refine a0b (a0e rfl) rfl ?_|(refine a0d ?_;first|refine a0b (a0p rfl) rfl ?_)|refine a0u ?_|refine a0b (a1u rfl rfl (by omega) (by omega)) rfl ?_)|(first|refine a1n ?_|(refine a1o ?_;first|refine a0c (a0a ?_)|refine a0c ?_|refine a0a ?_|(refine a0x ?_;first|refine a0g rfl (by with_reducible rfl) ?_|refine a0h rfl (by with_reducible rfl) ?_|(refine a0r rfl (fun hc => ?_) (fun hc => ?_) <;> (try (exfalso;omega))))|refine a0n ?_|refine a0o ?_|refine a0k ?_|refine a1f ?_)|refine a1q ?_|refine a1d ?_|refine a1v ?_|refine a1e ?_))
    all_goals try (
      first | refine a1y (b - 1) (.of (.same (by repeat constructor))) ?_ ?_ | fail
      · refine ⟨by omega, by omega, fun j h1 h2 => ?_⟩
        rcases Int.lt_or_le j b with h | h
        · obtain rfl : b = (j : Int) + 1 := by omega
          refine (a9y s j).2 ?_
          rw [show ((j : Int) + 1 - 1) = j by omega] at *
          omega
        · exact hbr j h h2
      · omega)
    all_goals
      obtain ⟨n, rfl⟩ : ∃ n : Nat, b = n := ⟨b.toNat, by omega⟩
      have htr : Lib.trimS s [32, 9] = (s.take n).drop a := c4y (by omega) (by omega) hbl (fun j h1 h2 => hbr j (by omega) h2) (fun h => ⟨hstop (by omega), by
        rw [show ((n - 1 : Nat) : Int) = (n : Int) - 1 by omega]
        exact (b4b s _).2 (by omega)⟩)
      repeat' (first|((refine a0b (a6g rfl rfl rfl (by omega) (by omega) (by omega)) rfl ?_))|(refine a2k ?_;first|refine a0b (a0l rfl) rfl ?_|(refine k_g ?_;first|refine a1j rfl rfl (by with_reducible rfl) ?_|refine a1w rfl rfl (by with_reducible rfl) rfl ?_|refine a1t rfl rfl (by with_reducible rfl) rfl ?_|refine a4a rfl rfl rfl ?_|(refine a1z rfl rfl (fun hc => ?_) (fun hc => ?_) <;> (try (exfalso;omega))))|(refine a1a ?_;first|refine a0b (a1h rfl rfl rfl) rfl ?_|refine a0b (a1p rfl rfl (by (first|exact w64 (by omega) (by omega)|rfl))) rfl ?_|refine a0b (a2s rfl rfl (by (first|exact w64 (by omega) (by omega)|rfl))) rfl ?_)|(refine a1i ?_;first|refine a0b (a0j rfl (by with_reducible rfl) rfl) rfl ?_|refine a0b (a0i rfl (by with_reducible rfl) rfl) rfl ?_)|refine a0b (a0e rfl) rfl ?_|(refine a0d ?_;first|refine a0b (a0p rfl) rfl ?_)|refine a0u ?_|refine a0b (a1u rfl rfl (by omega) (by omega)) rfl ?_)|(first|refine a1n ?_|(refine a1o ?_;first|refine a0c (a0a ?_)|refine a0c ?_|refine a0a ?_|(refine a0x ?_;first|refine a0g rfl (by with_reducible rfl) ?_|refine a0h rfl (by with_reducible rfl) ?_|(refine a0r rfl (fun hc => ?_) (fun hc => ?_) <;> (try (exfalso;omega))))|refine a0n ?_|refine a0o ?_|refine a0k ?_|refine a1f ?_)|refine a1q ?_|refine a1d ?_|refine a1v ?_|refine a1e ?_))
      refine ret1 (by first | exact .inr rfl | exact .inl rfl) rfl rfl ?_
      rw [htr]
      exact ⟨rfl, rfl⟩
end
end Go.Proofs.YtkljmljkiodnpaaGreatDoor.L

namespace Go.Proofs.YtkljmljkiodnpaaGreatDoor.L
open Go Go.RowKit Go.Proofs
attribute [local irreducible] AL QL AWp Thn InB RetQ ACalls LoopQ HL HO HW HQ NoG

structure Hd where
  m : List UInt8
  t : List UInt8
  v : Int
  fs : List (List UInt8 × List UInt8)
def rM (l : List UInt8) : List UInt8 := (Lib.cut l [32]).1
def rT (l : List UInt8) : List UInt8 := (Lib.cut (Lib.cut l [32]).2.1 [32]).1
def rV (l : List UInt8) : List UInt8 := (Lib.cut (Lib.cut l [32]).2.1 [32]).2.1
def r2 (l : List UInt8) : Bool := (Lib.cut (Lib.cut l [32]).2.1 [32]).2.2
def goodR (m t v : List UInt8) (two : Bool) : Prop := two = true ∧ 1 ≤ m.length ∧ m.length ≤ 16 ∧ m.all pLarge = true ∧ t ≠ [] ∧ t.all pVis = true ∧ verOk v = true
instance (m t v : List UInt8) (two : Bool) : Decidable (goodR m t v two) := by unfold goodR; infer_instance
def stR (m t v : List UInt8) (two : Bool) : Int := if goodR m t v two then (if v.drop 5 ≠ [49, 46, 48] ∧ v.drop 5 ≠ [49, 46, 49] then 505 else if tgtOk t = true then 0 else 400) else 400
def reqSt (l : List UInt8) : Int := stR (rM l) (rT l) (rV l) (r2 l)
def reqV (l : List UInt8) : Int := byteAt (rV l) 7 - 48
theorem b4l {v : List UInt8} (h : verOk v = true) : v.length = 8 := by
  unfold verOk at h
  simp only [Bool.and_eq_true, decide_eq_true_eq] at h
  exact h.1
theorem c8f {v : List UInt8} (h : verOk v = true) : 48 ≤ byteAt v 7 ∧ byteAt v 7 ≤ 57 := by
  unfold verOk at h
  simp only [Bool.and_eq_true, decide_eq_true_eq] at h
  have := h.2.2.2.2
  unfold pDigit at this
  simp only [Bool.and_eq_true, decide_eq_true_eq] at this
  rw [a3i]
  omega

section
variable {w0 : World} {base : Nat}
abbrev hdO (m t : List UInt8) (v : Int) (ver : Nat) (xs : List (List AV)) : List AO := [.box [.str m, .str t, .int .i64 v, .os 1 ver], .row 90 2 ver 0 xs]
set_option maxHeartbeats 4000000 in
theorem b4j {l m0 t0 : List UInt8} {v0 : Int} {ver : Nat} {xs : List (List AV)} (hG : Glob w0 base) (hl : l.length ≤ 1024) :
    ACalls (EE w0 base) 70 [.op 0 0, .str l] (hdO m0 t0 v0 ver xs) fun rv os => rv = .int .i64 (reqSt l) ∧ (if reqSt l = 0 then os = hdO (rM l) (rT l) (reqV l) ver xs else os = hdO m0 t0 v0 ver xs) := by
  refine a1s Tryz.func70 rfl rfl rfl (.cons (.cons .nil)) ?_
  have hc1 := b4n (s := l) (p := [32]) hG (by omega)
  have hl1 := a6i l 32
  obtain ⟨m, r, b1, e1⟩ : ∃ m r b1, Lib.cut l [32] = (m, r, b1) := ⟨_, _, _, rfl⟩
  have hc2 := b4n (s := r) (p := [32]) hG (by rw [e1] at hl1; dsimp only at hl1; omega)
  have hl2 := a6i r 32
  obtain ⟨t, v, two, e2⟩ : ∃ t v two, Lib.cut r [32] = (t, v, two) := ⟨_, _, _, rfl⟩
  rw [e1] at hc1 hl1
  rw [e2] at hc2 hl2
  dsimp only at hc1 hl1 hc2 hl2
  have hM : rM l = m := by unfold rM; rw [e1]
  have hT : rT l = t := by unfold rT; rw [e1]; dsimp only; rw [e2]
  have hV : rV l = v := by unfold rV; rw [e1]; dsimp only; rw [e2]
  have h2 : r2 l = two := by unfold r2; rw [e1]; dsimp only; rw [e2]
  have hS : reqSt l = stR m t v two := by unfold reqSt; rw [hM, hT, hV, h2]
  have hW : reqV l = byteAt v 7 - 48 := by unfold reqV; rw [hV]
  rw [hS, hM, hT, hW]
  clear hS hM hT hV h2 hW e1 e2
  have ha1 : PCalls (EE w0 base) 76 [.str m, .fn 115 []] fun rv => rv = .bool (m.all pLarge) := b9i (by omega) (fun b => b1l)
  have ha2 : PCalls (EE w0 base) 76 [.str t, .fn 116 []] fun rv => rv = .bool (t.all pVis) := b9i (by omega) (fun b => c6x)
  repeat' (first|(first|(refine a0d ?_;refine a0q rfl rfl rfl rfl hc1 ?_;rintro _ rfl)|(refine a0d ?_;refine a0q rfl rfl rfl rfl hc2 ?_;rintro _ rfl)|(refine a0d ?_;refine a0q rfl rfl rfl rfl ha1 ?_;rintro _ rfl)|(refine a0d ?_;refine a0q rfl rfl rfl rfl ha2 ?_;rintro _ rfl)|(refine a0d ?_;refine a0q rfl rfl rfl rfl b8z ?_;rintro _ rfl)|refine a0b (a2u rfl rfl (by decide) (by have := b4l (v := v) (by simpa using ‹(!verOk v) = false›);omega)) rfl ?_|(refine a0d ?_;refine a0q rfl rfl rfl rfl (b6i (s := t) (by omega) hG) ?_;rintro _ ⟨p,q,e,k,rfl,htg,htg2⟩))|(refine a2k ?_;first|refine a0b (a0l rfl) rfl ?_|(refine k_g ?_;first|refine a1j rfl rfl (by with_reducible rfl) ?_|refine a1w rfl rfl (by with_reducible rfl) rfl ?_|refine a1t rfl rfl (by with_reducible rfl) rfl ?_|(refine a1z rfl rfl (fun hc => ?_) (fun hc => ?_) <;> (try (exfalso;omega)))|(refine a3s rfl rfl (fun hc => ?_) (fun hc => ?_) <;> (try (exact absurd hc (by decide)))))|refine a0b (a0f rfl rfl) rfl ?_|(refine a1a ?_;first|refine a0b (a1h rfl rfl rfl) rfl ?_|refine a0b (a2s rfl rfl (by (first|exact w64 (by omega) (by omega)|exact w8 (by omega) (by omega)|rfl))) rfl ?_|refine a0b (a2t rfl rfl) rfl ?_|refine a0b (a3l rfl rfl) rfl ?_)|(refine a1i ?_;first|refine a0b (a0j rfl (by with_reducible rfl) rfl) rfl ?_|refine a0b (a0i rfl (by with_reducible rfl) rfl) rfl ?_)|refine a0b (a0e rfl) rfl ?_|(refine a0d ?_;first|refine a0b (a0p rfl) rfl ?_)|refine a0b (a0s rfl rfl) rfl ?_|refine a0u ?_|refine a1c rfl rfl rfl rfl rfl (by repeat constructor) (by repeat constructor) ?_|refine a0b (a2z rfl rfl) rfl ?_|refine a0b (a1u rfl rfl (by omega) (by omega)) rfl ?_)|(first|refine a1n ?_|(refine a1o ?_;first|refine a0c (a0a ?_)|refine a0c ?_|refine a0a ?_|(refine a0x ?_;first|refine a0g rfl (by with_reducible rfl) ?_|refine a0h rfl (by with_reducible rfl) ?_|(refine a0r rfl (fun hc => ?_) (fun hc => ?_) <;> (try (exfalso;omega)))|(refine a2p rfl (fun hc => ?_) (fun hc => ?_) <;> (try (exact absurd hc (by decide)))))|refine a0o ?_|refine a0k ?_)|refine a0t ?_))
  iterate 7
    · have hg : ¬ goodR m t v two := by
        rintro ⟨g1, g2, g3, g4, g5, g6, g7⟩
        first | omega | exact g5 ‹t = _› | (simp_all; done)
      have hS : stR m t v two = 400 := if_neg hg
      refine ret1 (by first | exact .inr rfl | exact .inl rfl) rfl rfl ?_
      rw [hS]
      exact ⟨rfl, rfl⟩
  all_goals
    have hg : goodR m t v two := ⟨by simpa using ‹(!two) = false›, by omega, by omega, by simpa using ‹(!m.all pLarge) = false›, ‹¬t = _›, by simpa using ‹(!t.all pVis) = false›, by simpa using ‹(!verOk v) = false›⟩
  · have hS : stR m t v two = 505 := by
      unfold stR
      rw [if_pos hg, if_pos ⟨‹_›, ‹_›⟩]
    refine ret1 (by first | exact .inr rfl | exact .inl rfl) rfl rfl ?_
    rw [hS]
    exact ⟨rfl, rfl⟩
  iterate 2
    · have hS : stR m t v two = 400 := by
        unfold stR
        rw [if_pos hg, if_neg (fun h => by first | exact absurd h.1 ‹_› | exact absurd h.2 ‹_›), if_neg (fun h => absurd (htg.2 h) ‹_›)]
      refine ret1 (by first | exact .inr rfl | exact .inl rfl) rfl rfl ?_
      rw [hS]
      exact ⟨rfl, rfl⟩
    · have hS : stR m t v two = 0 := by
        unfold stR
        rw [if_pos hg, if_neg (fun h => by first | exact absurd h.1 ‹_› | exact absurd h.2 ‹_›), if_pos (htg.1 (Classical.not_not.1 ‹_›))]
      have hv8 := b4l hg.2.2.2.2.2.2
      have hv7 := c8f hg.2.2.2.2.2.2
      repeat' (first|(first|refine a3b (id := 10) [(11,[0,1]),(14,[0,1]),(17,[0,1])] [⟨0,true,[],bl 18 510⟩,⟨1,true,[0,1],bl 18 4093⟩,⟨2,true,[0,1],bl 18 32763⟩,⟨3,true,[],bl 18 503⟩,⟨4,true,[0,1],bl 18 4079⟩,⟨5,true,[0,1],bl 18 32287⟩,⟨6,true,[0,1],bl 18 32319⟩,⟨7,true,[0,1],bl 18 32383⟩,⟨8,true,[0,1],bl 18 32511⟩,⟨9,true,[],bl 18 511⟩,⟨10,true,[],bl 18 1023⟩,⟨11,false,[],[]⟩,⟨12,true,[],bl 18 4095⟩,⟨13,true,[],bl 18 8191⟩,⟨14,false,[],[]⟩,⟨15,true,[],bl 18 32767⟩,⟨16,true,[],bl 18 65535⟩,⟨17,false,[],[]⟩] (by kernel_rfl) (by kernel_rfl) rfl (by kernel_rfl) ?_|refine a2c (a1k (n := 0) rfl rfl) rfl ?_|refine a2c (a2s rfl rfl (w8 (by omega) (by omega))) rfl ?_|refine a2c (a5f rfl (w64 (by omega) (by omega))) rfl ?_)|(refine a2k ?_;first|refine a0b (a0l rfl) rfl ?_|(refine k_g ?_;first|refine a1j rfl rfl (by with_reducible rfl) ?_|refine a1w rfl rfl (by with_reducible rfl) rfl ?_|refine a1t rfl rfl (by with_reducible rfl) rfl ?_|(refine a1z rfl rfl (fun hc => ?_) (fun hc => ?_) <;> (try (exfalso;omega)))|(refine a3s rfl rfl (fun hc => ?_) (fun hc => ?_) <;> (try (exact absurd hc (by decide)))))|refine a0b (a0f rfl rfl) rfl ?_|(refine a1a ?_;first|refine a0b (a1h rfl rfl rfl) rfl ?_|refine a0b (a2s rfl rfl (by (first|exact w64 (by omega) (by omega)|exact w8 (by omega) (by omega)|rfl))) rfl ?_|refine a0b (a2t rfl rfl) rfl ?_|refine a0b (a3l rfl rfl) rfl ?_)|(refine a1i ?_;first|refine a0b (a0j rfl (by with_reducible rfl) rfl) rfl ?_|refine a0b (a0i rfl (by with_reducible rfl) rfl) rfl ?_)|refine a0b (a0e rfl) rfl ?_|(refine a0d ?_;first|refine a0b (a0p rfl) rfl ?_)|refine a0b (a0s rfl rfl) rfl ?_|refine a0u ?_|refine a1c rfl rfl rfl rfl rfl (by repeat constructor) (by repeat constructor) ?_|refine a0b (a2z rfl rfl) rfl ?_|refine a0b (a1u rfl rfl (by omega) (by omega)) rfl ?_)|(first|refine a1n ?_|(refine a1o ?_;first|refine a0c (a0a ?_)|refine a0c ?_|refine a0a ?_|(refine a0x ?_;first|refine a0g rfl (by with_reducible rfl) ?_|refine a0h rfl (by with_reducible rfl) ?_|(refine a0r rfl (fun hc => ?_) (fun hc => ?_) <;> (try (exfalso;omega)))|(refine a2p rfl (fun hc => ?_) (fun hc => ?_) <;> (try (exact absurd hc (by decide)))))|refine a0o ?_|refine a0k ?_)|refine a0t ?_)|(first|(refine a7n ?_;first|refine a7p rfl ?_|refine a2c (a0l rfl) rfl ?_|refine a2c (a0e rfl) rfl ?_|refine a2c (a0f rfl rfl) rfl ?_|refine a2c (a1h rfl rfl rfl) rfl ?_|refine a2c (a0j rfl (by with_reducible rfl) rfl) rfl ?_|refine a2c (a0i rfl (by with_reducible rfl) rfl) rfl ?_|refine a2c (a0p rfl) rfl ?_|refine a2c (a2t rfl rfl) rfl ?_|refine a2c (a3l rfl rfl) rfl ?_|refine a2c (a0s rfl rfl) rfl ?_|refine a2c (a1u rfl rfl (by omega) (by omega)) rfl ?_|refine a2c (a2s rfl rfl (by (first|exact w64 (by omega) (by omega)|exact w8 (by omega) (by omega)|rfl))) rfl ?_|refine a2c (a2z rfl rfl) rfl ?_)|refine a4o rfl ?_|(refine a7o ?_;first|refine a7q ?_)|refine a3r ?_|refine a3j ?_))
      refine ret1 (by first | exact .inr rfl | exact .inl rfl) rfl rfl ?_
      rw [hS]
      exact ⟨rfl, rfl⟩
def fN (l : List UInt8) : List UInt8 := (Lib.cut l [58]).1
def fV (l : List UInt8) : List UInt8 := Lib.trimS (Lib.cut l [58]).2.1 [32, 9]
def goodF (n v : List UInt8) (two : Bool) : Prop := two = true ∧ n ≠ [] ∧ n.all pToken = true ∧ v.all pLoose = true
instance (n v : List UInt8) (two : Bool) : Decidable (goodF n v two) := by unfold goodF; infer_instance
def fieldOk (l : List UInt8) : Prop := goodF (fN l) (fV l) (Lib.cut l [58]).2.2
instance (l : List UInt8) : Decidable (fieldOk l) := by unfold fieldOk; infer_instance
def fieldOf (l : List UInt8) : List UInt8 × List UInt8 := (smallS (fN l), fV l)
theorem a8l (s : List UInt8) : (Lib.trimS s [32, 9]).length ≤ s.length := by
  unfold Lib.trimS Lib.trimLeftS Lib.trimRightS
  have h1 := (List.dropWhile_sublist (fun b => ([32, 9] : List UInt8).contains b) (l := (List.dropWhile (fun b => ([32, 9] : List UInt8).contains b) s.reverse).reverse)).length_le
  have h2 := (List.dropWhile_sublist (fun b => ([32, 9] : List UInt8).contains b) (l := s.reverse)).length_le
  simp at h1 h2 ⊢
  omega
set_option maxHeartbeats 4000000 in
theorem b6b {l m t : List UInt8} {v : Int} {ver : Nat} {xs : List (List AV)} (hG : Glob w0 base) (hl : l.length ≤ 1024) (hx : xs.length ≤ 32) :
    ACalls (EE w0 base) 71 [.op 0 0, .str l] (hdO m t v ver xs) fun rv os => ∃ ver', rv = .int .i64 (if xs.length = 32 then 431 else if fieldOk l then 0 else 400) ∧ os = hdO m t v ver' (if xs.length ≠ 32 ∧ fieldOk l then xs ++ [prAV (fieldOf l)] else xs) := by
  refine a1s Tryz.func71 rfl rfl rfl (.cons (.cons .nil)) ?_
  have hc1 := b4n (s := l) (p := [58]) hG (by omega)
  have hl1 := a6i l 58
  obtain ⟨n, r, two, e1⟩ : ∃ n r two, Lib.cut l [58] = (n, r, two) := ⟨_, _, _, rfl⟩
  rw [e1] at hc1 hl1
  dsimp only at hc1 hl1
  have hN : fN l = n := by unfold fN; rw [e1]
  have hV : fV l = Lib.trimS r [32, 9] := by unfold fV; rw [e1]
  have hF : fieldOk l ↔ goodF n (Lib.trimS r [32, 9]) two := by unfold fieldOk; rw [hN, hV, e1]
  have hO : fieldOf l = (smallS n, Lib.trimS r [32, 9]) := by unfold fieldOf; rw [hN, hV]
  have hc2 := b6h (w0 := w0) (base := base) (s := r) (by omega)
  have htl := a8l r
  obtain ⟨u, hu⟩ : ∃ u, Lib.trimS r [32, 9] = u := ⟨_, rfl⟩
  rw [hu] at hF hO hc2 htl
  simp only [hF, hO]
  clear hN hV hF hO e1 hu
  have ha1 : PCalls (EE w0 base) 76 [.str n, .fn 118 []] fun rv => rv = .bool (n.all pToken) := b9i (by omega) (fun b => c5d)
  have ha2 : PCalls (EE w0 base) 76 [.str u, .fn 119 []] fun rv => rv = .bool (u.all pLoose) := b9i (by omega) (fun b => c5i)
  have hsm := b1j (w0 := w0) (base := base) (s := n) (by omega)
  repeat' (first|(first|refine a0b (a1k (n := 0) rfl rfl) rfl ?_|(refine a0d ?_;refine a0q rfl rfl rfl rfl hc1 ?_;rintro _ rfl)|(refine a0d ?_;refine a0q rfl rfl rfl rfl hc2 ?_;rintro _ rfl)|(refine a0d ?_;refine a0q rfl rfl rfl rfl ha1 ?_;rintro _ rfl)|(refine a0d ?_;refine a0q rfl rfl rfl rfl ha2 ?_;rintro _ rfl))|(refine a2k ?_;first|refine a0b (a0l rfl) rfl ?_|(refine k_g ?_;first|refine a1j rfl rfl (by with_reducible rfl) ?_|refine a1t rfl rfl (by with_reducible rfl) rfl ?_|(refine a1z rfl rfl (fun hc => ?_) (fun hc => ?_) <;> (try (exfalso;omega)))|(refine a3s rfl rfl (fun hc => ?_) (fun hc => ?_) <;> (try (exact absurd hc (by decide)))))|refine a0b (a0f rfl rfl) rfl ?_|(refine a1g ?_;first|refine a0b (a0w rfl rfl) rfl ?_)|(refine a1a ?_;first|refine a0b (a1h rfl rfl rfl) rfl ?_|refine a0b (a2t rfl rfl) rfl ?_)|(refine a1i ?_;first|refine a0b (a0j rfl (by with_reducible rfl) rfl) rfl ?_|refine a0b (a0i rfl (by with_reducible rfl) rfl) rfl ?_)|refine a0b (a0e rfl) rfl ?_|(refine a0d ?_;first|refine a0b (a3m rfl rfl rfl) rfl ?_)|refine a0b (a0s rfl rfl) rfl ?_|refine a0u ?_|refine a1c rfl rfl rfl rfl rfl (by repeat constructor) (by repeat constructor) ?_|refine a0b (a1x rfl rfl rfl (by repeat constructor)) rfl ?_|refine a2e (by rfl) (by rfl) (by rfl) (by rfl) (by decide) (by decide) (by rfl) (by rfl) (by repeat constructor) (by rfl) (by repeat constructor) (by rfl) (by first|exact ln2) (by repeat constructor) rfl ?_|refine a0b (a2z rfl rfl) rfl ?_)|(first|refine a1n ?_|(refine a1o ?_;first|refine a0c (a0a ?_)|refine a0c ?_|refine a0a ?_|(refine a0x ?_;first|refine a0g rfl (by with_reducible rfl) ?_|(refine a0r rfl (fun hc => ?_) (fun hc => ?_) <;> (try (exfalso;omega)))|(refine a2p rfl (fun hc => ?_) (fun hc => ?_) <;> (try (exact absurd hc (by decide)))))|refine a0o ?_|refine a0k ?_)|refine a0t ?_))
  · have h32 : xs.length = 32 := by omega
    refine ret1 (by first | exact .inr rfl | exact .inl rfl) rfl rfl ?_
    refine ⟨ver, by rw [if_pos h32], ?_⟩
    rw [if_neg (fun h => h.1 h32)]
  all_goals have h32 : ¬ xs.length = 32 := by omega
  iterate 4
    · have hg : ¬ goodF n u two := by
        rintro ⟨g1, g2, g3, g4⟩
        first | omega | exact g2 ‹n = _› | (simp_all; done)
      refine ret1 (by first | exact .inr rfl | exact .inl rfl) rfl rfl ?_
      refine ⟨ver, by rw [if_neg h32, if_neg hg], ?_⟩
      rw [if_neg (fun h => hg h.2)]
  have hg : goodF n u two := ⟨by simpa using ‹(!two) = false›, ‹¬n = _›, by simpa using ‹(!n.all pToken) = false›, by simpa using ‹(!u.all pLoose) = false›⟩
  rw [if_neg h32, if_pos hg, if_pos (show xs.length ≠ 32 ∧ goodF n u two from ⟨h32, hg⟩)]
  repeat' (first|(first|refine a3b (id := 7) [(10,[0,1,2]),(13,[0,1])] [⟨0,true,[0,1,2],bl 14 2046⟩,⟨1,true,[],bl 14 993⟩,⟨2,true,[],bl 14 995⟩,⟨3,true,[],bl 14 999⟩,⟨4,true,[],bl 14 1007⟩,⟨5,true,[],bl 14 159⟩,⟨7,true,[],bl 14 127⟩,⟨6,false,[],[]⟩,⟨8,true,[],bl 14 255⟩,⟨9,false,[],[]⟩,⟨10,false,[],[]⟩,⟨11,true,[],bl 14 2047⟩,⟨12,true,[],bl 14 4095⟩,⟨13,false,[],[]⟩] (by kernel_rfl) (by kernel_rfl) rfl (by kernel_rfl) ?_|refine a2c (a1k (n := 0) rfl rfl) rfl ?_|(refine a0d ?_;refine a0q rfl rfl rfl rfl hsm ?_;rintro _ rfl)|(refine a0d ?_;refine a4d rfl rfl (by repeat constructor) (a6q rfl rfl) rfl (by decide) (by simp;omega) rfl ?_))|(refine a2k ?_;first|refine a0b (a0l rfl) rfl ?_|(refine k_g ?_;first|refine a1j rfl rfl (by with_reducible rfl) ?_|refine a1t rfl rfl (by with_reducible rfl) rfl ?_|(refine a1z rfl rfl (fun hc => ?_) (fun hc => ?_) <;> (try (exfalso;omega)))|(refine a3s rfl rfl (fun hc => ?_) (fun hc => ?_) <;> (try (exact absurd hc (by decide)))))|refine a0b (a0f rfl rfl) rfl ?_|(refine a1g ?_;first|refine a0b (a0w rfl rfl) rfl ?_)|(refine a1a ?_;first|refine a0b (a1h rfl rfl rfl) rfl ?_|refine a0b (a2t rfl rfl) rfl ?_)|(refine a1i ?_;first|refine a0b (a0j rfl (by with_reducible rfl) rfl) rfl ?_|refine a0b (a0i rfl (by with_reducible rfl) rfl) rfl ?_)|refine a0b (a0e rfl) rfl ?_|(refine a0d ?_;first|refine a0b (a3m rfl rfl rfl) rfl ?_)|refine a0b (a0s rfl rfl) rfl ?_|refine a0u ?_|refine a1c rfl rfl rfl rfl rfl (by repeat constructor) (by repeat constructor) ?_|refine a0b (a1x rfl rfl rfl (by repeat constructor)) rfl ?_|refine a2e (by rfl) (by rfl) (by rfl) (by rfl) (by decide) (by decide) (by rfl) (by rfl) (by repeat constructor) (by rfl) (by repeat constructor) (by rfl) (by first|exact ln2) (by repeat constructor) rfl ?_|refine a0b (a2z rfl rfl) rfl ?_)|(first|refine a1n ?_|(refine a1o ?_;first|refine a0c (a0a ?_)|refine a0c ?_|refine a0a ?_|(refine a0x ?_;first|refine a0g rfl (by with_reducible rfl) ?_|(refine a0r rfl (fun hc => ?_) (fun hc => ?_) <;> (try (exfalso;omega)))|(refine a2p rfl (fun hc => ?_) (fun hc => ?_) <;> (try (exact absurd hc (by decide)))))|refine a0o ?_|refine a0k ?_)|refine a0t ?_)|(first|(refine a7n ?_;first|refine a7p rfl ?_|refine a2c (a0l rfl) rfl ?_|refine a2c (a0e rfl) rfl ?_|refine a2c (a0f rfl rfl) rfl ?_|refine a2c (a0w rfl rfl) rfl ?_|refine a2c (a1h rfl rfl rfl) rfl ?_|refine a2c (a0j rfl (by with_reducible rfl) rfl) rfl ?_|refine a2c (a0i rfl (by with_reducible rfl) rfl) rfl ?_|refine a2c (a3m rfl rfl rfl) rfl ?_|refine a2c (a2t rfl rfl) rfl ?_|refine a2c (a0s rfl rfl) rfl ?_|refine a2c (a2z rfl rfl) rfl ?_|refine a2c (a1x rfl rfl rfl (by repeat constructor)) rfl ?_)|refine a4o rfl ?_|(refine a7o ?_;first|refine a7q ?_)|refine a3r ?_|refine a3j ?_))
  refine a2m (.of (Wk'.drop (H := [_, _]) (sl' := [(4, _)]) (ex := [_]) (.cons rfl .nil) rfl (by repeat constructor) rfl)) ?_
  refine ret1 (by first | exact .inr rfl | exact .inl rfl) rfl rfl ?_
  exact ⟨ver + 1, rfl, rfl⟩
end
end Go.Proofs.YtkljmljkiodnpaaGreatDoor.L

namespace Go.Proofs.YtkljmljkiodnpaaGreatDoor.L
open Go Go.RowKit Go.Proofs
attribute [local irreducible] AL QL AWp Thn InB RetQ ACalls LoopQ HL HO HW HQ NoG

section
variable {w0 : World} {base : Nat}
end
end Go.Proofs.YtkljmljkiodnpaaGreatDoor.L

namespace Go.Proofs.YtkljmljkiodnpaaGreatDoor.L
open Go Go.RowKit Go.Proofs
attribute [local irreducible] AL QL AWp Thn InB RetQ ACalls LoopQ HL HO HW HQ NoG

section
variable {E : Env} {sl : Slots} {H : List AO}
theorem b0j {t : Nat} {n b : Nat} {z : Value} [ti : TI E.P t .string n b z] {x lo : Operand} {s v : List UInt8} {k : IntKind} {l : Int} {j : Nat} (hv : s.drop j = v)
    (hx : ev sl x = some (.str s)) (hlo : ev sl lo = some (.int k l)) (h0 : 0 ≤ l) (h2 : l ≤ (s.length : Int)) (hj : l = j) : OV E sl H (.slice t x (some lo) none none) (.str v) := by
  have := a2u (E := E) (H := H) (t := t) hx hlo h0 h2
  subst hj
  rw [← hv]
  exact this
end

section
variable {w0 : World} {base : Nat}
end
end Go.Proofs.YtkljmljkiodnpaaGreatDoor.L

namespace Go.Proofs.YtkljmljkiodnpaaGreatDoor.L
open Go Go.RowKit Go.Proofs
attribute [local irreducible] AL QL AWp Thn InB RetQ ACalls LoopQ HL HO HW HQ NoG

abbrev Fs := List (List UInt8 × List UInt8)
abbrev hdAV (m t : List UInt8) (v : Int) (fs : Fs) : AV := .agg [.str m, .str t, .int .i64 v, .rs (fs.map prAV)]
def strAV (l : List (List UInt8)) : List (List AV) := l.map fun x => [.str x]
def valsOf (fs : Fs) (name : List UInt8) : List (List UInt8) := (fs.filter fun p => decide (p.1 = smallS name)).map (·.2)
theorem b4m {fs : Fs} {name : List UInt8} {i : Nat} {p : List UInt8 × List UInt8} (h : fs[i]? = some p) : valsOf (fs.take (i + 1)) name = valsOf (fs.take i) name ++ (if p.1 = smallS name then [p.2] else []) := by
  unfold valsOf
  rw [List.take_add_one, h]
  by_cases e : p.1 = smallS name <;> simp [e]
theorem a5k (fs : Fs) (name : List UInt8) : (valsOf fs name).length ≤ fs.length := by
  unfold valsOf
  rw [List.length_map]
  exact List.length_filter_le _ _
theorem a6e {fs : Fs} {i : Nat} {p : List UInt8 × List UInt8} (h : fs[i]? = some p) : (fs.map prAV)[((i : Nat) : Int).toNat]? = some [.str p.1, .str p.2] := by
  have : ((i : Nat) : Int).toNat = i := rfl
  rw [this, List.getElem?_map, h]
  rfl

section
variable {w0 : World} {base : Nat}
set_option maxHeartbeats 4000000 in
theorem a6t {m t name : List UInt8} {v : Int} {fs : Fs} (hn : name.length ≤ 140737488351232) (hf : fs.length * 16 ≤ 140737488351232) : PCalls (EE w0 base) 74 [hdAV m t v fs, .str name] fun rv => rv = .rs (strAV (valsOf fs name)) := by
  refine a1s Tryz.func74 rfl rfl rfl (.cons (.cons .nil)) ?_
  have hlen : (fs.map prAV).length = fs.length := List.length_map _
  have hsm := b1j (w0 := w0) (base := base) hn
  repeat' (first|(refine a2k ?_;first|refine a0b (a0l rfl) rfl ?_|refine a0b (a0f rfl rfl) rfl ?_|(refine a1g ?_;first|refine a0b (a0w rfl rfl) rfl ?_|refine a0b (a0m rfl rfl rfl) rfl ?_)|(refine a1a ?_;first|refine a0b (a1h rfl rfl rfl) rfl ?_|refine a0b (a1p rfl rfl (by (first|exact w64 (by omega) (by omega)|rfl))) rfl ?_|refine a0b (a2t rfl rfl) rfl ?_)|refine a0b (a0e rfl) rfl ?_|(refine a0d ?_;first|refine a0b (a2f rfl) rfl ?_)|refine a0u ?_|refine a2g rfl rfl rfl (by first|exact ln0|exact ln2|exact ln3) (by repeat constructor) rfl ?_|refine a0z rfl rfl rfl (by first|exact ln0|exact ln2|exact ln3) (by repeat constructor) rfl ?_|refine a1c rfl rfl rfl rfl rfl (by repeat constructor) (by repeat constructor) ?_|refine a2e (by rfl) (by rfl) (by rfl) (by rfl) (by decide) (by decide) (by rfl) (by rfl) (by repeat constructor) (by rfl) (by repeat constructor) (by rfl) (by first|exact ln0|exact ln2|exact ln3) (by repeat constructor) rfl ?_)|(first|refine a1n ?_|(refine a1o ?_;first|refine a0c (a0a ?_)|refine a0c ?_|refine a0a ?_|(refine a0x ?_;first|(refine a0r rfl (fun hc => ?_) (fun hc => ?_) <;> (try (exfalso;omega))))|refine a0n ?_|refine a0o ?_|refine a0k ?_|refine a1f ?_)|refine a1q ?_|refine a1d ?_|refine a1v ?_|refine a1e ?_))
  refine b0b 5 9 1 rfl (by decide) rfl (by repeat constructor) ?_
  refine a2o (fun p : Nat × Nat × List (List AV) => ⟨[(1, .str name), (5, .os 1 p.2.1), (9, .rs (fs.map prAV)), (10, .int .i64 (fs.map prAV).length), (11, .int .i64 p.1)], [.box [.str m, .str t, .int .i64 v, .rs (fs.map prAV)], .row 9 1 p.2.1 0 p.2.2]⟩)
    (fun p => p.1 ≤ fs.length ∧ p.2.2 = strAV (valsOf (fs.take p.1) name)) (fun p => fs.length - p.1) (0, 0, []) (.of (.same (by repeat constructor))) ⟨Nat.zero_le _, rfl⟩ ?_
  rintro ⟨i, ver, xs⟩ ⟨hi, hx⟩
  dsimp only at hi hx ⊢
  subst hx
  have hvl := a5k (fs.take i) name
  rw [List.length_take] at hvl
  have hsl : (strAV (valsOf (fs.take i) name)).length = (valsOf (fs.take i) name).length := List.length_map _
  by_cases hlt : i < fs.length
  · obtain ⟨p, hp⟩ : ∃ p, fs[i]? = some p := ⟨_, List.getElem?_eq_getElem hlt⟩
    have hrow := a6e hp
    have hnx := b4m (name := name) hp
    repeat' (first|(first|refine a0b (a2j rfl rfl (by omega) hrow rfl) rfl ?_|refine b9n rfl rfl rfl rfl hsm rfl ?_|(refine a0d ?_;refine a4d rfl rfl (by repeat constructor) (a6q rfl rfl) rfl (by decide) (by simp only [hsl,List.length_cons,List.length_nil];omega) rfl ?_))|(refine a2k ?_;first|refine a0b (a0l rfl) rfl ?_|refine a0b (a0f rfl rfl) rfl ?_|(refine a1g ?_;first|refine a0b (a0w rfl rfl) rfl ?_|refine a0b (a0m rfl rfl rfl) rfl ?_)|(refine a1a ?_;first|refine a0b (a1h rfl rfl rfl) rfl ?_|refine a0b (a1p rfl rfl (by (first|exact w64 (by omega) (by omega)|rfl))) rfl ?_|refine a0b (a2t rfl rfl) rfl ?_)|refine a0b (a0e rfl) rfl ?_|(refine a0d ?_;first|refine a0b (a2f rfl) rfl ?_)|refine a0u ?_|refine a2g rfl rfl rfl (by first|exact ln0|exact ln2|exact ln3) (by repeat constructor) rfl ?_|refine a0z rfl rfl rfl (by first|exact ln0|exact ln2|exact ln3) (by repeat constructor) rfl ?_|refine a1c rfl rfl rfl rfl rfl (by repeat constructor) (by repeat constructor) ?_|refine a2e (by rfl) (by rfl) (by rfl) (by rfl) (by decide) (by decide) (by rfl) (by rfl) (by repeat constructor) (by rfl) (by repeat constructor) (by rfl) (by first|exact ln0|exact ln2|exact ln3) (by repeat constructor) rfl ?_)|(first|refine a1n ?_|(refine a1o ?_;first|refine a0c (a0a ?_)|refine a0c ?_|refine a0a ?_|(refine a0x ?_;first|(refine a0r rfl (fun hc => ?_) (fun hc => ?_) <;> (try (exfalso;omega))))|refine a0n ?_|refine a0o ?_|refine a0k ?_|refine a1f ?_)|refine a1q ?_|refine a1d ?_|refine a1v ?_|refine a1e ?_)|refine a7c (by kernel_rfl) (by kernel_rfl) ?_|(first|refine a4c (a0l rfl) rfl ?_|refine a4c (a0e rfl) rfl ?_|refine a4c (a0f rfl rfl) rfl ?_|refine a4c (a0w rfl rfl) rfl ?_|refine a4c (a0m rfl rfl rfl) rfl ?_|refine a4c (a1h rfl rfl rfl) rfl ?_|refine a4c (a2f rfl) rfl ?_|refine a4c (a2t rfl rfl) rfl ?_|refine a4c (a1p rfl rfl (by (first|exact w64 (by omega) (by omega)|rfl))) rfl ?_|refine b0u ?_))
    · rw [if_pos ‹_›] at hnx
      first|refine a1y (i + 1,ver + 1,_) (.of (.same (by repeat constructor))) ?_ ?_|refine a1y (i + 1,ver + 1,_) (.of (a2n [_] rfl (by repeat constructor) rfl (by repeat constructor) rfl)) ?_ ?_|refine a1y (i + 1,ver + 1,_) (.of (a2n [_,_] rfl (by repeat constructor) rfl (by repeat constructor) rfl)) ?_ ?_|refine a1y (i + 1,ver + 1,_) (.of (a2n [_,_,_] rfl (by repeat constructor) rfl (by repeat constructor) rfl)) ?_ ?_
      · refine ⟨by dsimp only; omega, ?_⟩
        dsimp only
        rw [hnx]
        simp [strAV]
      · dsimp only; omega
    · rw [if_neg ‹_›, List.append_nil] at hnx
      rw [← hnx]
      first|refine a1y (i + 1,ver,_) (.of (.same (by repeat constructor))) ?_ ?_|refine a1y (i + 1,ver,_) (.of (a2n [_] rfl (by repeat constructor) rfl (by repeat constructor) rfl)) ?_ ?_|refine a1y (i + 1,ver,_) (.of (a2n [_,_] rfl (by repeat constructor) rfl (by repeat constructor) rfl)) ?_ ?_|refine a1y (i + 1,ver,_) (.of (a2n [_,_,_] rfl (by repeat constructor) rfl (by repeat constructor) rfl)) ?_ ?_
      · exact ⟨by dsimp only; omega, rfl⟩
      · dsimp only; omega
  · have hie : i = fs.length := by omega
    subst hie
    rw [List.take_length]
    repeat' (first|(refine a2k ?_;first|refine a0b (a0l rfl) rfl ?_|refine a0b (a0f rfl rfl) rfl ?_|(refine a1g ?_;first|refine a0b (a0w rfl rfl) rfl ?_|refine a0b (a0m rfl rfl rfl) rfl ?_)|(refine a1a ?_;first|refine a0b (a1h rfl rfl rfl) rfl ?_|refine a0b (a1p rfl rfl (by (first|exact w64 (by omega) (by omega)|rfl))) rfl ?_|refine a0b (a2t rfl rfl) rfl ?_)|refine a0b (a0e rfl) rfl ?_|(refine a0d ?_;first|refine a0b (a2f rfl) rfl ?_)|refine a0u ?_|refine a2g rfl rfl rfl (by first|exact ln0|exact ln2|exact ln3) (by repeat constructor) rfl ?_|refine a0z rfl rfl rfl (by first|exact ln0|exact ln2|exact ln3) (by repeat constructor) rfl ?_|refine a1c rfl rfl rfl rfl rfl (by repeat constructor) (by repeat constructor) ?_|refine a2e (by rfl) (by rfl) (by rfl) (by rfl) (by decide) (by decide) (by rfl) (by rfl) (by repeat constructor) (by rfl) (by repeat constructor) (by rfl) (by first|exact ln0|exact ln2|exact ln3) (by repeat constructor) rfl ?_)|(first|refine a1n ?_|(refine a1o ?_;first|refine a0c (a0a ?_)|refine a0c ?_|refine a0a ?_|(refine a0x ?_;first|(refine a0r rfl (fun hc => ?_) (fun hc => ?_) <;> (try (exfalso;omega))))|refine a0n ?_|refine a0o ?_|refine a0k ?_|refine a1f ?_)|refine a1q ?_|refine a1d ?_|refine a1v ?_|refine a1e ?_))
    refine a2m (.freeze 4 rfl (by repeat constructor)) ?_
    refine ret1 (by first | exact .inr rfl | exact .inl rfl) rfl rfl ?_
    exact ⟨rfl, rfl⟩
def hostS : List UInt8 := [104, 111, 115, 116]
def nHost (fs : Fs) : Nat := (valsOf fs hostS).length
end
end Go.Proofs.YtkljmljkiodnpaaGreatDoor.L
