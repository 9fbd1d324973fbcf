/- DERIVED: THE SHELF's CONTRACTS AT THIS DUMP, IN PLAIN WORDS (tools/lay-plain.mjs out of 'TryzShelf.lean', which tools/lay-shelf.mjs wrote): THE SAME DECLARATIONS UNDER THE SAME NAMES: 'import', 'namespace', 'open', 'def', 'theorem' AND NOTHING ELSE: no command of the shelf's: FOR A HAND-IN. Each laying: the table of numbers ('.._ren') and one theorem, a field a fact of the dump's own or the kernel's comparison; each contract: ONE APPLICATION. -/
import Derived.Shelf.Strings.Builder1
import Derived.Shelf.Strings.Builder2
import Derived.Shelf.Strings.OnBuilder
import Derived.Shelf.Strings.Trim
import Derived.Shelf.Small.Utf8
import Derived.Shelf.Small.Bits
import Derived.Shelf.Small.Strs
import Derived.Shelf.Small.Wraps
import Derived.Shelf.Strings.BuilderF
import Derived.Shelf.Utf8.RuneCount
import Derived.Shelf.Strconv.Atoi
import Derived.Shelf.Strconv.Itoa0
import Derived.Shelf.Strconv.Itoa1
import Derived.Shelf.LaysM
import Derived.Shelf.Strconv.Itoa2
import Derived.Shelf.Strconv.Itoa3
import Derived.Shelf.Strconv.AtoiErrFast
import Derived.Shelf.Strconv.ParseIntEmpty
import Derived.Shelf.Strconv.AtoiFail
import Derived.Shelf.Strconv.Clone
import Derived.Shelf.Strconv.SyntaxError
import Derived.Shelf.LaysC
import Derived.Shelf.Strconv.ToError
import Derived.Shelf.Strconv.Lower
import Derived.Shelf.Strconv.ParseUint10
import Derived.Shelf.Strconv.ParseUint10Empty
import Derived.Shelf.Strconv.ParseUint10Any
import Derived.Shelf.Strconv.ParseInt10
import Derived.Shelf.Strconv.AtoiLong
import Derived.Shelf.Strconv.AtoiInnerAll
import Derived.Shelf.Strconv.RangeError
import Derived.Shelf.Strconv.ToErrorRange
import Derived.Shelf.Strconv.AtoiAll
import Derived.Shelf.Strconv.ErrVarAll
import Derived.Shelf.Strings.Search1
import Derived.Shelf.Strings.Search2
import Derived.Shelf.Strings.Search3
import Derived.Shelf.Strings.Cut
import Derived.Shelf.Strings.Count
import Derived.Shelf.Strings.Shaped
import Derived.Shelf.Sort.Plain
import Derived.Shelf.Strings.Prefix
import Derived.Shelf.Strings.Split
import Derived.Shelf.Strings.SplitShaped
import Derived.Shelf.Unicode.Decode
import Derived.Shelf.Strings.Runes
import Derived.Shelf.Strings.RuneCount
import Derived.Shelf.Strings.AsciiSet
import Derived.Shelf.Strings.Explode
import Derived.Shelf.Unicode.DecodeSlow
import Derived.Shelf.Unicode.DecodeAny
import Derived.Shelf.Unicode.DecodeLast
import Derived.Shelf.Slices.Turned
import Derived.Shelf.Slices.Equal
import Derived.Ground.Names2Prog
import Derived.Shelf.Slices.Clone
import Derived.Shelf.Slices.CompactS
import Derived.Shelf.Slices.SearchI
import Derived.Shelf.Slices.Cells
import Derived.Shelf.Slices.In.SortNone
import Derived.Shelf.Slices.Empties2
import Derived.Ground.SlgnProg
import Derived.Shelf.SlicesE.Equal
import Derived.Shelf.SlicesE.Compact
import Derived.Shelf.SlicesE.Clone
import Derived.Ground.SlgfProg
import Derived.Shelf.SlicesE.IndexFunc
import Derived.Shelf.SlicesE.DeleteFunc
import Derived.Ground.SlsfProg
import Derived.Shelf.SlSortCmp.Insertion
import Derived.Shelf.SlSortCmp.SiftDown1
import Derived.Shelf.SlSortCmp.HeapSort1
import Derived.Shelf.SlSortCmp.Insertion1
import Derived.Shelf.SlSortCmp.Median1
import Derived.Shelf.SlSortCmp.Pivot1
import Derived.Shelf.SlSortCmp.ReverseRange1
import Derived.Shelf.SlSortCmp.PartialInsertion1
import Derived.Shelf.SlSortCmp.PartitionEqual1
import Derived.Shelf.SlSortCmp.Partition1
import Derived.Shelf.SlSortCmp.Pdq1
import Derived.Shelf.SlSortCmp.Whole1
import Derived.Shelf.SlSortCmp.NoneTotal
import Derived.Shelf.Strings.SlTrimAscii
import Derived.Shelf.SlGeneric
import Derived.Shelf.SlicesQ.IndexFunc
import Derived.Shelf.SlSortCmp.WholeK
import Derived.Shelf.SlIterI.Nil
import Derived.Ground.GgzProg
import Derived.Shelf.SlSortCmp.InsertionK
import Derived.Ground.NamesProg
import Derived.Test.YtehboinleolihaaGreatDoorProg
set_option linter.unusedSimpArgs false
set_option linter.unusedVariables false
namespace Go.Proofs.YtehboinleolihaaGreatDoor
open Go.Shelf
def Tryz.lays160_ren : Go.Shelf.Ren := ⟨fun | 160 => 128 | 232 => 202 | 231 => 201 | 227 => 203 | 234 => 205 | 233 => 204 | 236 => 207 | 235 => 206 | 228 => 254 | 271 => 257 | 151 => 256 | 197 => 255 | 120 => 329 | 152 => 328 | 260 => 327 | 137 => 181 | 119 => 364 | 224 => 365 | 225 => 366 | 217 => 230 | 266 => 297 | n => n, fun | 9 => 9 | 4 => 4 | 3 => 3 | 5 => 5 | 117 => 260 | 116 => 259 | 0 => 0 | 124 => 263 | 21 => 21 | 105 => 308 | 46 => 248 | 119 => 385 | 139 => 388 | 138 => 387 | n => n, fun | 3 => 4 | 4 => 5 | n => n⟩
theorem Tryz.lays160 : Go.Proofs.Lays.n160 Tryz.prog Tryz.lays160_ren := {
 mixed := by kernel_rfl
 f119 := Tryz.func364.trans (congrArg some (by kernel_rfl))
 f120 := Tryz.func329.trans (congrArg some (by kernel_rfl))
 f137 := Tryz.func181.trans (congrArg some (by kernel_rfl))
 f151 := Tryz.func256.trans (congrArg some (by kernel_rfl))
 f152 := Tryz.func328.trans (congrArg some (by kernel_rfl))
 f160 := Tryz.func128.trans (congrArg some (by kernel_rfl))
 f197 := Tryz.func255.trans (congrArg some (by kernel_rfl))
 f217 := Tryz.func230.trans (congrArg some (by kernel_rfl))
 f224 := Tryz.func365.trans (congrArg some (by kernel_rfl))
 f225 := Tryz.func366.trans (congrArg some (by kernel_rfl))
 f227 := Tryz.func203.trans (congrArg some (by kernel_rfl))
 f228 := Tryz.func254.trans (congrArg some (by kernel_rfl))
 f231 := Tryz.func201.trans (congrArg some (by kernel_rfl))
 f232 := Tryz.func202.trans (congrArg some (by kernel_rfl))
 f233 := Tryz.func204.trans (congrArg some (by kernel_rfl))
 f234 := Tryz.func205.trans (congrArg some (by kernel_rfl))
 f235 := Tryz.func206.trans (congrArg some (by kernel_rfl))
 f236 := Tryz.func207.trans (congrArg some (by kernel_rfl))
 f260 := Tryz.func327.trans (congrArg some (by kernel_rfl))
 f266 := Tryz.func297.trans (congrArg some (by kernel_rfl))
 f271 := Tryz.func257.trans (congrArg some (by kernel_rfl))
 t0 := Tryz.underlying0
 a0 := Tryz.isAgg0
 z0 := Tryz.sizeOf0
 v0 := Tryz.zeroValue0
 t3 := Tryz.underlying3
 a3 := Tryz.isAgg3
 z3 := Tryz.sizeOf3
 v3 := Tryz.zeroValue3
 t4 := Tryz.underlying4
 a4 := Tryz.isAgg4
 z4 := Tryz.sizeOf4
 v4 := Tryz.zeroValue4
 t5 := Tryz.underlying5
 a5 := Tryz.isAgg5
 z5 := Tryz.sizeOf5
 v5 := Tryz.zeroValue5
 t9 := Tryz.underlying9
 a9 := Tryz.isAgg9
 z9 := Tryz.sizeOf9
 v9 := Tryz.zeroValue9
 t21 := Tryz.underlying21
 a21 := Tryz.isAgg21
 z21 := Tryz.sizeOf21
 v21 := Tryz.zeroValue21
 t46 := Tryz.underlying248
 a46 := Tryz.isAgg248
 z46 := Tryz.sizeOf248
 v46 := Tryz.zeroValue248
 t105 := Tryz.underlying308
 a105 := Tryz.isAgg308
 z105 := Tryz.sizeOf308
 v105 := Tryz.zeroValue308
 t116 := Tryz.underlying259
 a116 := Tryz.isAgg259
 z116 := Tryz.sizeOf259
 t117 := Tryz.underlying260
 a117 := Tryz.isAgg260
 z117 := Tryz.sizeOf260
 v117 := Tryz.zeroValue260
 t119 := Tryz.underlying385
 a119 := Tryz.isAgg385
 z119 := Tryz.sizeOf385
 t124 := Tryz.underlying263
 a124 := Tryz.isAgg263
 z124 := Tryz.sizeOf263
 v124 := Tryz.zeroValue263
 t138 := Tryz.underlying387
 a138 := Tryz.isAgg387
 z138 := Tryz.sizeOf387
 v138 := Tryz.zeroValue387
 t139 := Tryz.underlying388
 a139 := Tryz.isAgg388
 z139 := Tryz.sizeOf388
 v139 := Tryz.zeroValue388
 g3 := by kernel_rfl
 g4 := by kernel_rfl }
def Tryz.lays106_ren : Go.Shelf.Ren := ⟨fun | 106 => 109 | 213 => 189 | 265 => 244 | n => n, fun | 9 => 9 | 3 => 3 | n => n, fun | n => n⟩
theorem Tryz.lays106 : Go.Proofs.Lays.n106 Tryz.prog Tryz.lays106_ren := {
 mixed := by kernel_rfl
 f106 := Tryz.func109.trans (congrArg some (by kernel_rfl))
 f213 := Tryz.func189.trans (congrArg some (by kernel_rfl))
 f265 := Tryz.func244.trans (congrArg some (by kernel_rfl))
 t3 := Tryz.underlying3
 a3 := Tryz.isAgg3
 z3 := Tryz.sizeOf3
 v3 := Tryz.zeroValue3
 t9 := Tryz.underlying9
 a9 := Tryz.isAgg9
 z9 := Tryz.sizeOf9
 v9 := Tryz.zeroValue9 }
open Go.RowKit in
/-- strings.Compare: "Compare returns an integer comparing two strings lexicographically. The result will be 0 if a == b, -1 if a < b, and +1 if a > b.": IT RETURNS 'Lib.compareBytes a b'; the world is as it was. (LAID: no walk: one application.) -/
theorem Tryz.strings_Compare (a b : ByteArray) (w : World) :
 Calls Tryz.prog 109 #[.string a, .string b] w fun e w' => e = .returned (.int .i64 (Lib.compareBytes a.data.toList b.data.toList)) ∧ w' = w := Any.strings_Compare Tryz.lays106 a b w
def Tryz.lays137_ren : Go.Shelf.Ren := ⟨fun | 137 => 181 | 217 => 230 | 266 => 297 | n => n, fun | 9 => 9 | 5 => 5 | 3 => 3 | n => n, fun | n => n⟩
theorem Tryz.lays137 : Go.Proofs.Lays.n137 Tryz.prog Tryz.lays137_ren := {
 mixed := by kernel_rfl
 f137 := Tryz.func181.trans (congrArg some (by kernel_rfl))
 f217 := Tryz.func230.trans (congrArg some (by kernel_rfl))
 f266 := Tryz.func297.trans (congrArg some (by kernel_rfl))
 t3 := Tryz.underlying3
 a3 := Tryz.isAgg3
 z3 := Tryz.sizeOf3
 v3 := Tryz.zeroValue3
 t5 := Tryz.underlying5
 a5 := Tryz.isAgg5
 z5 := Tryz.sizeOf5
 v5 := Tryz.zeroValue5
 t9 := Tryz.underlying9
 a9 := Tryz.isAgg9
 z9 := Tryz.sizeOf9
 v9 := Tryz.zeroValue9 }
open Go.RowKit in
/-- strings.IndexByte: "IndexByte returns the index of the first instance of c in s, or -1 if c is not present in s.": IT RETURNS 'Lib.indexByte s c'; the world is as it was. (LAID: no walk: one application.) -/
theorem Tryz.strings_IndexByte (s : ByteArray) (c : Int) (w : World) :
 Calls Tryz.prog 181 #[.string s, .int .u8 c] w fun e w' => e = .returned (.int .i64 (Lib.indexByte s.data.toList c.toNat.toUInt8)) ∧ w' = w := Any.strings_IndexByte Tryz.lays137 s c w
def Tryz.lays103_ren : Go.Shelf.Ren := ⟨fun | 103 => 263 | 210 => 333 | 206 => 253 | n => n, fun | 9 => 9 | 4 => 4 | 24 => 242 | 3 => 3 | n => n, fun | n => n⟩
theorem Tryz.lays103 : Go.Proofs.Lays.n103 Tryz.prog Tryz.lays103_ren := {
 mixed := by kernel_rfl
 f103 := Tryz.func263.trans (congrArg some (by kernel_rfl))
 f206 := Tryz.func253.trans (congrArg some (by kernel_rfl))
 f210 := Tryz.func333.trans (congrArg some (by kernel_rfl))
 t3 := Tryz.underlying3
 a3 := Tryz.isAgg3
 z3 := Tryz.sizeOf3
 v3 := Tryz.zeroValue3
 t4 := Tryz.underlying4
 a4 := Tryz.isAgg4
 z4 := Tryz.sizeOf4
 v4 := Tryz.zeroValue4
 t9 := Tryz.underlying9
 a9 := Tryz.isAgg9
 z9 := Tryz.sizeOf9
 v9 := Tryz.zeroValue9
 t24 := Tryz.underlying242
 a24 := Tryz.isAgg242
 z24 := Tryz.sizeOf242
 v24 := Tryz.zeroValue242 }
open Go.RowKit in
/-- strings.CutPrefix: "CutPrefix returns s without the provided leading prefix string and reports whether it found the prefix. If s doesn't start with prefix, CutPrefix returns s, false. If prefix is the empty string, CutPrefix returns s, true.": IT RETURNS '(Lib.trimPrefix s p, Lib.hasPrefix s p)'; the world is as it was. (LAID: no walk: one application.) -/
theorem Tryz.strings_CutPrefix (s p : ByteArray) (w : World) :
 Calls Tryz.prog 263 #[.string s, .string p] w fun e w' => e = .returned (.tuple #[.string ⟨(Lib.trimPrefix s.data.toList p.data.toList).toArray⟩, .bool (Lib.hasPrefix s.data.toList p.data.toList)]) ∧ w' = w := Any.strings_CutPrefix Tryz.lays103 s p w
def Tryz.lays172_ren : Go.Shelf.Ren := ⟨fun | 172 => 129 | 244 => 208 | 245 => 209 | 247 => 258 | 279 => 259 | 280 => 260 | 281 => 261 | 282 => 262 | 287 => 330 | 316 => 331 | 171 => 110 | 205 => 332 | 321 => 367 | 322 => 368 | 243 => 190 | 246 => 245 | 283 => 312 | 284 => 313 | 285 => 314 | 286 => 315 | 129 => 243 | 317 => 354 | 318 => 355 | 319 => 356 | 320 => 357 | 337 => 375 | 338 => 376 | n => n, fun | 9 => 9 | 3 => 3 | 75 => 196 | 76 => 197 | 4 => 4 | 5 => 5 | 167 => 311 | 37 => 225 | 0 => 0 | 85 => 312 | 2 => 2 | 168 => 314 | 53 => 297 | 175 => 361 | 46 => 248 | 210 => 365 | 127 => 270 | 145 => 393 | 143 => 391 | 21 => 21 | 171 => 351 | 173 => 353 | 212 => 381 | 51 => 295 | 20 => 20 | 213 => 382 | 232 => 401 | 233 => 402 | 80 => 115 | n => n, fun | 15 => 1 | 16 => 2 | 17 => 3 | 18 => 6 | 19 => 7 | n => n⟩
theorem Tryz.lays172 : Go.Proofs.Lays.n172 Tryz.prog Tryz.lays172_ren := {
 mixed := by kernel_rfl
 f129 := Tryz.func243.trans (congrArg some (by kernel_rfl))
 f171 := Tryz.func110.trans (congrArg some (by kernel_rfl))
 f172 := Tryz.func129.trans (congrArg some (by kernel_rfl))
 f205 := Tryz.func332.trans (congrArg some (by kernel_rfl))
 f243 := Tryz.func190.trans (congrArg some (by kernel_rfl))
 f244 := Tryz.func208.trans (congrArg some (by kernel_rfl))
 f245 := Tryz.func209.trans (congrArg some (by kernel_rfl))
 f246 := Tryz.func245.trans (congrArg some (by kernel_rfl))
 f247 := Tryz.func258.trans (congrArg some (by kernel_rfl))
 f279 := Tryz.func259.trans (congrArg some (by kernel_rfl))
 f280 := Tryz.func260.trans (congrArg some (by kernel_rfl))
 f281 := Tryz.func261.trans (congrArg some (by kernel_rfl))
 f282 := Tryz.func262.trans (congrArg some (by kernel_rfl))
 f283 := Tryz.func312.trans (congrArg some (by kernel_rfl))
 f284 := Tryz.func313.trans (congrArg some (by kernel_rfl))
 f285 := Tryz.func314.trans (congrArg some (by kernel_rfl))
 f286 := Tryz.func315.trans (congrArg some (by kernel_rfl))
 f287 := Tryz.func330.trans (congrArg some (by kernel_rfl))
 f316 := Tryz.func331.trans (congrArg some (by kernel_rfl))
 f317 := Tryz.func354.trans (congrArg some (by kernel_rfl))
 f318 := Tryz.func355.trans (congrArg some (by kernel_rfl))
 f319 := Tryz.func356.trans (congrArg some (by kernel_rfl))
 f320 := Tryz.func357.trans (congrArg some (by kernel_rfl))
 f321 := Tryz.func367.trans (congrArg some (by kernel_rfl))
 f322 := Tryz.func368.trans (congrArg some (by kernel_rfl))
 f337 := Tryz.func375.trans (congrArg some (by kernel_rfl))
 f338 := Tryz.func376.trans (congrArg some (by kernel_rfl))
 t0 := Tryz.underlying0
 a0 := Tryz.isAgg0
 z0 := Tryz.sizeOf0
 v0 := Tryz.zeroValue0
 t2 := Tryz.underlying2
 a2 := Tryz.isAgg2
 z2 := Tryz.sizeOf2
 v2 := Tryz.zeroValue2
 t3 := Tryz.underlying3
 a3 := Tryz.isAgg3
 z3 := Tryz.sizeOf3
 v3 := Tryz.zeroValue3
 t4 := Tryz.underlying4
 a4 := Tryz.isAgg4
 z4 := Tryz.sizeOf4
 v4 := Tryz.zeroValue4
 t5 := Tryz.underlying5
 a5 := Tryz.isAgg5
 z5 := Tryz.sizeOf5
 v5 := Tryz.zeroValue5
 t9 := Tryz.underlying9
 a9 := Tryz.isAgg9
 z9 := Tryz.sizeOf9
 v9 := Tryz.zeroValue9
 t20 := Tryz.underlying20
 a20 := Tryz.isAgg20
 z20 := Tryz.sizeOf20
 v20 := Tryz.zeroValue20
 t21 := Tryz.underlying21
 a21 := Tryz.isAgg21
 z21 := Tryz.sizeOf21
 v21 := Tryz.zeroValue21
 t37 := Tryz.underlying225
 a37 := Tryz.isAgg225
 z37 := Tryz.sizeOf225
 v37 := Tryz.zeroValue225
 t46 := Tryz.underlying248
 a46 := Tryz.isAgg248
 z46 := Tryz.sizeOf248
 v46 := Tryz.zeroValue248
 t51 := Tryz.underlying295
 a51 := Tryz.isAgg295
 z51 := Tryz.sizeOf295
 v51 := Tryz.zeroValue295
 t53 := Tryz.underlying297
 a53 := Tryz.isAgg297
 z53 := Tryz.sizeOf297
 v53 := Tryz.zeroValue297
 t75 := Tryz.underlying196
 a75 := Tryz.isAgg196
 z75 := Tryz.sizeOf196
 v75 := Tryz.zeroValue196
 t76 := Tryz.underlying197
 a76 := Tryz.isAgg197
 z76 := Tryz.sizeOf197
 v76 := Tryz.zeroValue197
 t85 := Tryz.underlying312
 a85 := Tryz.isAgg312
 z85 := Tryz.sizeOf312
 v85 := Tryz.zeroValue312
 t127 := Tryz.underlying270
 a127 := Tryz.isAgg270
 z127 := Tryz.sizeOf270
 v127 := Tryz.zeroValue270
 t143 := Tryz.underlying391
 a143 := Tryz.isAgg391
 z143 := Tryz.sizeOf391
 v143 := Tryz.zeroValue391
 t145 := Tryz.underlying393
 a145 := Tryz.isAgg393
 z145 := Tryz.sizeOf393
 v145 := Tryz.zeroValue393
 t167 := Tryz.underlying311
 a167 := Tryz.isAgg311
 z167 := Tryz.sizeOf311
 v167 := Tryz.zeroValue311
 t168 := Tryz.underlying314
 a168 := Tryz.isAgg314
 z168 := Tryz.sizeOf314
 v168 := Tryz.zeroValue314
 t171 := Tryz.underlying351
 a171 := Tryz.isAgg351
 z171 := Tryz.sizeOf351
 v171 := Tryz.zeroValue351
 t173 := Tryz.underlying353
 a173 := Tryz.isAgg353
 z173 := Tryz.sizeOf353
 v173 := Tryz.zeroValue353
 t175 := Tryz.underlying361
 a175 := Tryz.isAgg361
 z175 := Tryz.sizeOf361
 v175 := Tryz.zeroValue361
 t210 := Tryz.underlying365
 a210 := Tryz.isAgg365
 z210 := Tryz.sizeOf365
 v210 := Tryz.zeroValue365
 t212 := Tryz.underlying381
 a212 := Tryz.isAgg381
 z212 := Tryz.sizeOf381
 v212 := Tryz.zeroValue381
 t213 := Tryz.underlying382
 a213 := Tryz.isAgg382
 z213 := Tryz.sizeOf382
 t232 := Tryz.underlying401
 a232 := Tryz.isAgg401
 z232 := Tryz.sizeOf401
 v232 := Tryz.zeroValue401
 t233 := Tryz.underlying402
 a233 := Tryz.isAgg402
 z233 := Tryz.sizeOf402
 v233 := Tryz.zeroValue402
 g15 := by kernel_rfl
 g16 := by kernel_rfl
 g17 := by kernel_rfl
 g18 := by kernel_rfl
 g19 := by kernel_rfl }
open Go.RowKit in
/-- strconv.Atoi: "Atoi is equivalent to ParseInt(s, 10,0), converted to type int.": AT A DECIMAL NUMERAL OF AT MOST 18 BYTES: its value, and a nil error. The world behind the call: the one new row that the library's '[]byte(s)' lays. (LAID: no walk: one application.) -/
theorem Tryz.strconv_Atoi (s : ByteArray) (n : Int) (hl : s.size ≤ 18) (h : Lib.atoi s.data.toList = some n) (w : World) :
 Calls Tryz.prog 129 #[.string s] w fun e w' => e = .returned (.tuple #[.int .i64 n, .nilIface]) ∧ ∃ t, w' = Lib.bytesWorld w 5 t := Any.strconv_Atoi Tryz.lays172 s n hl h w
def Tryz.laysM171_ren : Go.Shelf.Ren := ⟨fun | 171 => 110 | 243 => 190 | 246 => 245 | 283 => 312 | 284 => 313 | 285 => 314 | 286 => 315 | 129 => 243 | 317 => 354 | 318 => 355 | 319 => 356 | 320 => 357 | 337 => 375 | 338 => 376 | n => n, fun | 3 => 3 | 9 => 9 | 2 => 2 | 4 => 4 | 171 => 351 | 0 => 0 | 53 => 297 | 37 => 225 | 5 => 5 | 173 => 353 | 212 => 381 | 51 => 295 | 20 => 20 | 213 => 382 | 46 => 248 | 232 => 401 | 233 => 402 | n => n, fun | 17 => 3 | 18 => 6 | 19 => 7 | n => n⟩
theorem Tryz.laysM171 : Go.Proofs.LaysM.n171 Tryz.prog Tryz.laysM171_ren := {
 mixed := by kernel_rfl
 f129 := Tryz.func243.trans (congrArg some (by kernel_rfl))
 f171 := Tryz.func110.trans (congrArg some (by kernel_rfl))
 f243 := Tryz.func190.trans (congrArg some (by kernel_rfl))
 f246 := Tryz.func245.trans (congrArg some (by kernel_rfl))
 f283 := Tryz.func312.trans (congrArg some (by kernel_rfl))
 f284 := Tryz.func313.trans (congrArg some (by kernel_rfl))
 f285 := Tryz.func314.trans (congrArg some (by kernel_rfl))
 f286 := Tryz.func315.trans (congrArg some (by kernel_rfl))
 f317 := Tryz.func354.trans (congrArg some (by kernel_rfl))
 f318 := Tryz.func355.trans (congrArg some (by kernel_rfl))
 f319 := Tryz.func356.trans (congrArg some (by kernel_rfl))
 f320 := Tryz.func357.trans (congrArg some (by kernel_rfl))
 f337 := Tryz.func375.trans (congrArg some (by kernel_rfl))
 f338 := Tryz.func376.trans (congrArg some (by kernel_rfl))
 t0 := Tryz.underlying0
 a0 := Tryz.isAgg0
 z0 := Tryz.sizeOf0
 v0 := Tryz.zeroValue0
 t2 := Tryz.underlying2
 a2 := Tryz.isAgg2
 z2 := Tryz.sizeOf2
 v2 := Tryz.zeroValue2
 t3 := Tryz.underlying3
 a3 := Tryz.isAgg3
 z3 := Tryz.sizeOf3
 v3 := Tryz.zeroValue3
 t4 := Tryz.underlying4
 a4 := Tryz.isAgg4
 z4 := Tryz.sizeOf4
 v4 := Tryz.zeroValue4
 t5 := Tryz.underlying5
 a5 := Tryz.isAgg5
 z5 := Tryz.sizeOf5
 v5 := Tryz.zeroValue5
 t9 := Tryz.underlying9
 a9 := Tryz.isAgg9
 z9 := Tryz.sizeOf9
 v9 := Tryz.zeroValue9
 t20 := Tryz.underlying20
 a20 := Tryz.isAgg20
 z20 := Tryz.sizeOf20
 v20 := Tryz.zeroValue20
 t37 := Tryz.underlying225
 a37 := Tryz.isAgg225
 z37 := Tryz.sizeOf225
 v37 := Tryz.zeroValue225
 t46 := Tryz.underlying248
 a46 := Tryz.isAgg248
 z46 := Tryz.sizeOf248
 v46 := Tryz.zeroValue248
 t51 := Tryz.underlying295
 a51 := Tryz.isAgg295
 z51 := Tryz.sizeOf295
 v51 := Tryz.zeroValue295
 t53 := Tryz.underlying297
 a53 := Tryz.isAgg297
 z53 := Tryz.sizeOf297
 v53 := Tryz.zeroValue297
 t171 := Tryz.underlying351
 a171 := Tryz.isAgg351
 z171 := Tryz.sizeOf351
 v171 := Tryz.zeroValue351
 t173 := Tryz.underlying353
 a173 := Tryz.isAgg353
 z173 := Tryz.sizeOf353
 v173 := Tryz.zeroValue353
 t212 := Tryz.underlying381
 a212 := Tryz.isAgg381
 z212 := Tryz.sizeOf381
 v212 := Tryz.zeroValue381
 t213 := Tryz.underlying382
 a213 := Tryz.isAgg382
 z213 := Tryz.sizeOf382
 t232 := Tryz.underlying401
 a232 := Tryz.isAgg401
 z232 := Tryz.sizeOf401
 v232 := Tryz.zeroValue401
 t233 := Tryz.underlying402
 a233 := Tryz.isAgg402
 z233 := Tryz.sizeOf402
 v233 := Tryz.zeroValue402
 g17 := by kernel_rfl
 g18 := by kernel_rfl
 g19 := by kernel_rfl
 i0 := by kernel_rfl
 i2 := by kernel_rfl
 i3 := by kernel_rfl
 i4 := by kernel_rfl
 i5 := by kernel_rfl
 i9 := by kernel_rfl
 i20 := by kernel_rfl
 i37 := by kernel_rfl
 i46 := by kernel_rfl
 i51 := by kernel_rfl
 i53 := by kernel_rfl
 i171 := by kernel_rfl
 i173 := by kernel_rfl
 i212 := by kernel_rfl
 i232 := by kernel_rfl
 i233 := by kernel_rfl
 m17 := by kernel_rfl
 m18 := by kernel_rfl
 m19 := by kernel_rfl }
open Go.RowKit Go.Sort Go.Lib in
/-- strconv.Itoa: "Itoa is equivalent to FormatInt(int64(i), 10).": i's DECIMAL NUMERAL ('Lib.itoa': a '-' where i is negative, then the digits), FOR EVERY int. The world behind the call: the world before it, new blocks behind the heap (the library's 'var a [24]byte'), draws. (LAID: no walk: one application.) -/
theorem Tryz.strconv_Itoa (n : Int) (h0 : -9223372036854775808 ≤ n) (h1 : n ≤ 9223372036854775807) (w : World) (htab : Lib.TabIs Tryz.prog w "internal/strconv.uint64pow10" .u64 Lib.pow10Tab) :
 Calls Tryz.prog 110 #[.int .i64 n] w fun e w' => e = .returned (.string ⟨(Lib.itoa n).toArray⟩) ∧ ∃ k os, w' = grow (w.drewN k) os := Any.strconv_Itoa Tryz.laysM171 n h0 h1 w htab
def Tryz.lays171_ren : Go.Shelf.Ren := ⟨fun | 171 => 110 | 243 => 190 | 246 => 245 | 283 => 312 | 284 => 313 | 285 => 314 | 286 => 315 | 129 => 243 | 317 => 354 | 318 => 355 | 319 => 356 | 320 => 357 | 337 => 375 | 338 => 376 | n => n, fun | 3 => 3 | 9 => 9 | 2 => 2 | 4 => 4 | 171 => 351 | 0 => 0 | 53 => 297 | 37 => 225 | 5 => 5 | 173 => 353 | 212 => 381 | 51 => 295 | 20 => 20 | 213 => 382 | 46 => 248 | 232 => 401 | 233 => 402 | n => n, fun | 17 => 3 | 18 => 6 | 19 => 7 | n => n⟩
theorem Tryz.lays171 : Go.Proofs.Lays.n171 Tryz.prog Tryz.lays171_ren := {
 mixed := by kernel_rfl
 f129 := Tryz.func243.trans (congrArg some (by kernel_rfl))
 f171 := Tryz.func110.trans (congrArg some (by kernel_rfl))
 f243 := Tryz.func190.trans (congrArg some (by kernel_rfl))
 f246 := Tryz.func245.trans (congrArg some (by kernel_rfl))
 f283 := Tryz.func312.trans (congrArg some (by kernel_rfl))
 f284 := Tryz.func313.trans (congrArg some (by kernel_rfl))
 f285 := Tryz.func314.trans (congrArg some (by kernel_rfl))
 f286 := Tryz.func315.trans (congrArg some (by kernel_rfl))
 f317 := Tryz.func354.trans (congrArg some (by kernel_rfl))
 f318 := Tryz.func355.trans (congrArg some (by kernel_rfl))
 f319 := Tryz.func356.trans (congrArg some (by kernel_rfl))
 f320 := Tryz.func357.trans (congrArg some (by kernel_rfl))
 f337 := Tryz.func375.trans (congrArg some (by kernel_rfl))
 f338 := Tryz.func376.trans (congrArg some (by kernel_rfl))
 t0 := Tryz.underlying0
 a0 := Tryz.isAgg0
 z0 := Tryz.sizeOf0
 v0 := Tryz.zeroValue0
 t2 := Tryz.underlying2
 a2 := Tryz.isAgg2
 z2 := Tryz.sizeOf2
 v2 := Tryz.zeroValue2
 t3 := Tryz.underlying3
 a3 := Tryz.isAgg3
 z3 := Tryz.sizeOf3
 v3 := Tryz.zeroValue3
 t4 := Tryz.underlying4
 a4 := Tryz.isAgg4
 z4 := Tryz.sizeOf4
 v4 := Tryz.zeroValue4
 t5 := Tryz.underlying5
 a5 := Tryz.isAgg5
 z5 := Tryz.sizeOf5
 v5 := Tryz.zeroValue5
 t9 := Tryz.underlying9
 a9 := Tryz.isAgg9
 z9 := Tryz.sizeOf9
 v9 := Tryz.zeroValue9
 t20 := Tryz.underlying20
 a20 := Tryz.isAgg20
 z20 := Tryz.sizeOf20
 v20 := Tryz.zeroValue20
 t37 := Tryz.underlying225
 a37 := Tryz.isAgg225
 z37 := Tryz.sizeOf225
 v37 := Tryz.zeroValue225
 t46 := Tryz.underlying248
 a46 := Tryz.isAgg248
 z46 := Tryz.sizeOf248
 v46 := Tryz.zeroValue248
 t51 := Tryz.underlying295
 a51 := Tryz.isAgg295
 z51 := Tryz.sizeOf295
 v51 := Tryz.zeroValue295
 t53 := Tryz.underlying297
 a53 := Tryz.isAgg297
 z53 := Tryz.sizeOf297
 v53 := Tryz.zeroValue297
 t171 := Tryz.underlying351
 a171 := Tryz.isAgg351
 z171 := Tryz.sizeOf351
 v171 := Tryz.zeroValue351
 t173 := Tryz.underlying353
 a173 := Tryz.isAgg353
 z173 := Tryz.sizeOf353
 v173 := Tryz.zeroValue353
 t212 := Tryz.underlying381
 a212 := Tryz.isAgg381
 z212 := Tryz.sizeOf381
 v212 := Tryz.zeroValue381
 t213 := Tryz.underlying382
 a213 := Tryz.isAgg382
 z213 := Tryz.sizeOf382
 t232 := Tryz.underlying401
 a232 := Tryz.isAgg401
 z232 := Tryz.sizeOf401
 v232 := Tryz.zeroValue401
 t233 := Tryz.underlying402
 a233 := Tryz.isAgg402
 z233 := Tryz.sizeOf402
 v233 := Tryz.zeroValue402
 g17 := by kernel_rfl
 g18 := by kernel_rfl
 g19 := by kernel_rfl }
open Go.RowKit Go.Sort Go.Lib in
/-- THE ROAD WITHOUT THE TABLE: 0 <= i < 100: NO PREMISE ON THE WORLD, AND THE WORLD IS AS IT WAS: a row that keeps its argument in that range need list no table ('laid = []'). (LAID: no walk: one application.) -/
theorem Tryz.strconv_Itoa_small (i : Nat) (hi : i < 100) (w : World) :
 Calls Tryz.prog 110 #[.int .i64 i] w fun e w' => e = .returned (.string ⟨(Lib.decDigits i).toArray⟩) ∧ w' = w := Any.strconv_Itoa_small Tryz.lays171 i hi w
def Tryz.lisInt_ren : Go.Shelf.Ren := ⟨fun | 20 => 279 | n => n, fun | 24 => 3 | 22 => 22 | 3 => 3 | 25 => 82 | 4 => 4 | 0 => 0 | n => n, fun | n => n⟩
theorem Tryz.lisInt : Go.Proofs.SlLaysF.n20 Tryz.prog Tryz.lisInt_ren := {
 mixed := by kernel_rfl
 f20 := ⟨Tryz.f279.name, by decide, Tryz.func279.trans (congrArg some (by kernel_rfl))⟩
 t0 := Tryz.underlying0
 a0 := Tryz.isAgg0
 z0 := Tryz.sizeOf0
 v0 := Tryz.zeroValue0
 t3 := Tryz.underlying3
 a3 := Tryz.isAgg3
 z3 := Tryz.sizeOf3
 v3 := Tryz.zeroValue3
 t4 := Tryz.underlying4
 a4 := Tryz.isAgg4
 z4 := Tryz.sizeOf4
 v4 := Tryz.zeroValue4
 t22 := Tryz.underlying22
 a22 := Tryz.isAgg22
 z22 := Tryz.sizeOf22
 v22 := Tryz.zeroValue22
 a24 := Tryz.isAgg3
 z24 := Tryz.sizeOf3
 t25 := Tryz.underlying82
 a25 := Tryz.isAgg82
 z25 := Tryz.sizeOf82
 v25 := Tryz.zeroValue82 }
def Tryz.lsfSlip_ren : Go.Shelf.Ren := ⟨fun | 6 => 140 | 15 => 187 | 14 => 216 | 28 => 242 | 29 => 243 | 20 => 264 | 21 => 265 | 22 => 266 | 23 => 267 | 24 => 268 | 25 => 269 | 26 => 270 | 27 => 271 | 46 => 334 | 47 => 308 | 48 => 309 | 49 => 335 | 50 => 336 | 57 => 369 | n => n, fun | 22 => 31 | 24 => 79 | 25 => 217 | 3 => 3 | 39 => 248 | 0 => 0 | 53 => 295 | 55 => 297 | 4 => 4 | 46 => 289 | 45 => 288 | 50 => 88 | 5 => 5 | 9 => 9 | 66 => 345 | 70 => 349 | 76 => 378 | 77 => 379 | n => n, fun | n => n⟩
theorem Tryz.lsfSlip : Go.Proofs.SlLaysF0.n6 Tryz.prog Tryz.lsfSlip_ren := {
 mixed := by kernel_rfl
 f6 := ⟨Tryz.f140.name, by decide, Tryz.func140.trans (congrArg some (by kernel_rfl))⟩
 f14 := ⟨Tryz.f216.name, by decide, Tryz.func216.trans (congrArg some (by kernel_rfl))⟩
 f15 := Tryz.func187.trans (congrArg some (by kernel_rfl))
 f20 := ⟨Tryz.f264.name, by decide, Tryz.func264.trans (congrArg some (by kernel_rfl))⟩
 f21 := ⟨Tryz.f265.name, by decide, Tryz.func265.trans (congrArg some (by kernel_rfl))⟩
 f22 := ⟨Tryz.f266.name, by decide, Tryz.func266.trans (congrArg some (by kernel_rfl))⟩
 f23 := ⟨Tryz.f267.name, by decide, Tryz.func267.trans (congrArg some (by kernel_rfl))⟩
 f24 := ⟨Tryz.f268.name, by decide, Tryz.func268.trans (congrArg some (by kernel_rfl))⟩
 f25 := ⟨Tryz.f269.name, by decide, Tryz.func269.trans (congrArg some (by kernel_rfl))⟩
 f26 := ⟨Tryz.f270.name, by decide, Tryz.func270.trans (congrArg some (by kernel_rfl))⟩
 f27 := ⟨Tryz.f271.name, by decide, Tryz.func271.trans (congrArg some (by kernel_rfl))⟩
 f28 := Tryz.func242.trans (congrArg some (by kernel_rfl))
 f29 := Tryz.func243.trans (congrArg some (by kernel_rfl))
 f46 := ⟨Tryz.f334.name, by decide, Tryz.func334.trans (congrArg some (by kernel_rfl))⟩
 f47 := Tryz.func308.trans (congrArg some (by kernel_rfl))
 f48 := Tryz.func309.trans (congrArg some (by kernel_rfl))
 f49 := ⟨Tryz.f335.name, by decide, Tryz.func335.trans (congrArg some (by kernel_rfl))⟩
 f50 := ⟨Tryz.f336.name, by decide, Tryz.func336.trans (congrArg some (by kernel_rfl))⟩
 f57 := ⟨Tryz.f369.name, by decide, Tryz.func369.trans (congrArg some (by kernel_rfl))⟩
 t0 := Tryz.underlying0
 a0 := Tryz.isAgg0
 z0 := Tryz.sizeOf0
 v0 := Tryz.zeroValue0
 t3 := Tryz.underlying3
 a3 := Tryz.isAgg3
 z3 := Tryz.sizeOf3
 v3 := Tryz.zeroValue3
 t4 := Tryz.underlying4
 a4 := Tryz.isAgg4
 z4 := Tryz.sizeOf4
 v4 := Tryz.zeroValue4
 t5 := Tryz.underlying5
 a5 := Tryz.isAgg5
 z5 := Tryz.sizeOf5
 v5 := Tryz.zeroValue5
 t9 := Tryz.underlying9
 a9 := Tryz.isAgg9
 z9 := Tryz.sizeOf9
 v9 := Tryz.zeroValue9
 t22 := Tryz.underlying31
 a22 := Tryz.isAgg31
 z22 := Tryz.sizeOf31
 v22 := Tryz.zeroValue31
 t25 := Tryz.underlying217
 a25 := Tryz.isAgg217
 z25 := Tryz.sizeOf217
 v25 := Tryz.zeroValue217
 t39 := Tryz.underlying248
 a39 := Tryz.isAgg248
 z39 := Tryz.sizeOf248
 v39 := Tryz.zeroValue248
 t45 := Tryz.underlying288
 a45 := Tryz.isAgg288
 z45 := Tryz.sizeOf288
 v45 := Tryz.zeroValue288
 t46 := Tryz.underlying289
 a46 := Tryz.isAgg289
 z46 := Tryz.sizeOf289
 v46 := Tryz.zeroValue289
 t50 := Tryz.underlying88
 a50 := Tryz.isAgg88
 z50 := Tryz.sizeOf88
 v50 := Tryz.zeroValue88
 t53 := Tryz.underlying295
 a53 := Tryz.isAgg295
 z53 := Tryz.sizeOf295
 v53 := Tryz.zeroValue295
 t55 := Tryz.underlying297
 a55 := Tryz.isAgg297
 z55 := Tryz.sizeOf297
 v55 := Tryz.zeroValue297
 t66 := Tryz.underlying345
 a66 := Tryz.isAgg345
 z66 := Tryz.sizeOf345
 v66 := Tryz.zeroValue345
 t70 := Tryz.underlying349
 a70 := Tryz.isAgg349
 z70 := Tryz.sizeOf349
 v70 := Tryz.zeroValue349
 t76 := Tryz.underlying378
 a76 := Tryz.isAgg378
 z76 := Tryz.sizeOf378
 v76 := Tryz.zeroValue378
 t77 := Tryz.underlying379
 a77 := Tryz.isAgg379
 z77 := Tryz.sizeOf379
 v77 := Tryz.zeroValue379 }
def Tryz.lsfLent_ren : Go.Shelf.Ren := ⟨fun | 6 => 176 | 15 => 187 | 14 => 229 | 28 => 242 | 29 => 243 | 20 => 246 | 21 => 290 | 22 => 291 | 23 => 292 | 24 => 293 | 25 => 294 | 26 => 295 | 27 => 296 | 46 => 346 | 47 => 308 | 48 => 309 | 49 => 347 | 50 => 348 | 57 => 373 | n => n, fun | 22 => 43 | 24 => 65 | 25 => 176 | 3 => 3 | 39 => 248 | 0 => 0 | 53 => 295 | 55 => 297 | 4 => 4 | 46 => 289 | 45 => 288 | 50 => 88 | 5 => 5 | 9 => 9 | 66 => 345 | 70 => 349 | 76 => 378 | 77 => 379 | n => n, fun | n => n⟩
theorem Tryz.lsfLent : Go.Proofs.SlLaysF0.n6 Tryz.prog Tryz.lsfLent_ren := {
 mixed := by kernel_rfl
 f6 := ⟨Tryz.f176.name, by decide, Tryz.func176.trans (congrArg some (by kernel_rfl))⟩
 f14 := ⟨Tryz.f229.name, by decide, Tryz.func229.trans (congrArg some (by kernel_rfl))⟩
 f15 := Tryz.func187.trans (congrArg some (by kernel_rfl))
 f20 := ⟨Tryz.f246.name, by decide, Tryz.func246.trans (congrArg some (by kernel_rfl))⟩
 f21 := ⟨Tryz.f290.name, by decide, Tryz.func290.trans (congrArg some (by kernel_rfl))⟩
 f22 := ⟨Tryz.f291.name, by decide, Tryz.func291.trans (congrArg some (by kernel_rfl))⟩
 f23 := ⟨Tryz.f292.name, by decide, Tryz.func292.trans (congrArg some (by kernel_rfl))⟩
 f24 := ⟨Tryz.f293.name, by decide, Tryz.func293.trans (congrArg some (by kernel_rfl))⟩
 f25 := ⟨Tryz.f294.name, by decide, Tryz.func294.trans (congrArg some (by kernel_rfl))⟩
 f26 := ⟨Tryz.f295.name, by decide, Tryz.func295.trans (congrArg some (by kernel_rfl))⟩
 f27 := ⟨Tryz.f296.name, by decide, Tryz.func296.trans (congrArg some (by kernel_rfl))⟩
 f28 := Tryz.func242.trans (congrArg some (by kernel_rfl))
 f29 := Tryz.func243.trans (congrArg some (by kernel_rfl))
 f46 := ⟨Tryz.f346.name, by decide, Tryz.func346.trans (congrArg some (by kernel_rfl))⟩
 f47 := Tryz.func308.trans (congrArg some (by kernel_rfl))
 f48 := Tryz.func309.trans (congrArg some (by kernel_rfl))
 f49 := ⟨Tryz.f347.name, by decide, Tryz.func347.trans (congrArg some (by kernel_rfl))⟩
 f50 := ⟨Tryz.f348.name, by decide, Tryz.func348.trans (congrArg some (by kernel_rfl))⟩
 f57 := ⟨Tryz.f373.name, by decide, Tryz.func373.trans (congrArg some (by kernel_rfl))⟩
 t0 := Tryz.underlying0
 a0 := Tryz.isAgg0
 z0 := Tryz.sizeOf0
 v0 := Tryz.zeroValue0
 t3 := Tryz.underlying3
 a3 := Tryz.isAgg3
 z3 := Tryz.sizeOf3
 v3 := Tryz.zeroValue3
 t4 := Tryz.underlying4
 a4 := Tryz.isAgg4
 z4 := Tryz.sizeOf4
 v4 := Tryz.zeroValue4
 t5 := Tryz.underlying5
 a5 := Tryz.isAgg5
 z5 := Tryz.sizeOf5
 v5 := Tryz.zeroValue5
 t9 := Tryz.underlying9
 a9 := Tryz.isAgg9
 z9 := Tryz.sizeOf9
 v9 := Tryz.zeroValue9
 t22 := Tryz.underlying43
 a22 := Tryz.isAgg43
 z22 := Tryz.sizeOf43
 v22 := Tryz.zeroValue43
 t25 := Tryz.underlying176
 a25 := Tryz.isAgg176
 z25 := Tryz.sizeOf176
 v25 := Tryz.zeroValue176
 t39 := Tryz.underlying248
 a39 := Tryz.isAgg248
 z39 := Tryz.sizeOf248
 v39 := Tryz.zeroValue248
 t45 := Tryz.underlying288
 a45 := Tryz.isAgg288
 z45 := Tryz.sizeOf288
 v45 := Tryz.zeroValue288
 t46 := Tryz.underlying289
 a46 := Tryz.isAgg289
 z46 := Tryz.sizeOf289
 v46 := Tryz.zeroValue289
 t50 := Tryz.underlying88
 a50 := Tryz.isAgg88
 z50 := Tryz.sizeOf88
 v50 := Tryz.zeroValue88
 t53 := Tryz.underlying295
 a53 := Tryz.isAgg295
 z53 := Tryz.sizeOf295
 v53 := Tryz.zeroValue295
 t55 := Tryz.underlying297
 a55 := Tryz.isAgg297
 z55 := Tryz.sizeOf297
 v55 := Tryz.zeroValue297
 t66 := Tryz.underlying345
 a66 := Tryz.isAgg345
 z66 := Tryz.sizeOf345
 v66 := Tryz.zeroValue345
 t70 := Tryz.underlying349
 a70 := Tryz.isAgg349
 z70 := Tryz.sizeOf349
 v70 := Tryz.zeroValue349
 t76 := Tryz.underlying378
 a76 := Tryz.isAgg378
 z76 := Tryz.sizeOf378
 v76 := Tryz.zeroValue378
 t77 := Tryz.underlying379
 a77 := Tryz.isAgg379
 z77 := Tryz.sizeOf379
 v77 := Tryz.zeroValue379 }
def Tryz.lecPair_ren : Go.Shelf.Ren := ⟨fun | 41 => 62 | n => n, fun | 22 => 70 | 23 => 77 | 4 => 4 | n => n, fun | n => n⟩
theorem Tryz.lecPair : Go.Proofs.SlLaysE0.n41 Tryz.prog Tryz.lecPair_ren := {
 mixed := by kernel_rfl
 f41 := ⟨Tryz.f62.name, by decide, Tryz.func62.trans (congrArg some (by kernel_rfl))⟩
 t4 := Tryz.underlying4
 a4 := Tryz.isAgg4
 z4 := Tryz.sizeOf4
 v4 := Tryz.zeroValue4
 t22 := Tryz.underlying70
 a22 := Tryz.isAgg70
 z22 := Tryz.sizeOf70
 v22 := Tryz.zeroValue70 }
end Go.Proofs.YtehboinleolihaaGreatDoor
