/- DERIVED: THE SHELF's CONTRACTS AT THIS DUMP, IN PLAIN WORDS (tools/lay-plain.mjs out of 'TryzShelf.lean', which tools/lay-shelf.mjs wrote): THE SAME DECLARATIONS UNDER THE SAME NAMES: 'import', 'namespace', 'open', 'def', 'theorem' AND NOTHING ELSE: no command of the shelf's: FOR A HAND-IN. Each laying: the table of numbers ('.._ren') and one theorem, a field a fact of the dump's own or the kernel's comparison; each contract: ONE APPLICATION. -/
import Derived.Shelf.Strings.Trim
import Derived.Shelf.Small.Utf8
import Derived.Shelf.Small.Bits
import Derived.Shelf.Small.Strs
import Derived.Shelf.Small.Wraps
import Derived.Shelf.Strconv.Atoi
import Derived.Shelf.Strconv.Itoa0
import Derived.Shelf.Strconv.Itoa1
import Derived.Shelf.LaysM
import Derived.Shelf.Strconv.Itoa2
import Derived.Shelf.Strconv.Itoa3
import Derived.Shelf.Strings.Search1
import Derived.Shelf.Sort.Plain
import Derived.Shelf.Strings.Prefix
import Derived.Shelf.Strings.Runes
import Derived.Shelf.Strings.AsciiSet
import Derived.Shelf.Unicode.DecodeSlow
import Derived.Shelf.Slices.Turned
import Derived.Shelf.Slices.Equal
import Derived.Ground.Names2Prog
import Derived.Shelf.Slices.Clone
import Derived.Shelf.Slices.CompactS
import Derived.Shelf.Slices.Cells
import Derived.Shelf.Slices.In.SortNone
import Derived.Shelf.Slices.Empties2
import Derived.Ground.SlgnProg
import Derived.Shelf.SlicesE.Equal
import Derived.Shelf.SlicesE.Compact
import Derived.Shelf.SlicesE.Clone
import Derived.Ground.SlgfProg
import Derived.Shelf.SlicesE.IndexFunc
import Derived.Shelf.SlicesE.DeleteFunc
import Derived.Ground.SlsfProg
import Derived.Shelf.SlSortCmp.Insertion
import Derived.Shelf.SlSortCmp.SiftDown1
import Derived.Shelf.SlSortCmp.HeapSort1
import Derived.Shelf.SlSortCmp.Insertion1
import Derived.Shelf.SlSortCmp.Median1
import Derived.Shelf.SlSortCmp.Pivot1
import Derived.Shelf.SlSortCmp.ReverseRange1
import Derived.Shelf.SlSortCmp.PartialInsertion1
import Derived.Shelf.SlSortCmp.PartitionEqual1
import Derived.Shelf.SlSortCmp.Partition1
import Derived.Shelf.SlSortCmp.Pdq1
import Derived.Shelf.SlSortCmp.Whole1
import Derived.Shelf.SlSortCmp.NoneTotal
import Derived.Shelf.Strings.SlTrimAscii
import Derived.Shelf.SlGeneric
import Derived.Shelf.SlicesQ.IndexFunc
import Derived.Shelf.SlSortCmp.WholeK
import Derived.Shelf.SlIterI.Nil
import Derived.Ground.GgzProg
import Derived.Shelf.SlSortCmp.InsertionK
import Derived.Ground.NamesProg
import Derived.Test.YtkjhbofbcmelgaaGreatDoorProg
set_option linter.unusedSimpArgs false
set_option linter.unusedVariables false
namespace Go.Proofs.YtkjhbofbcmelgaaGreatDoor
open Go.Shelf
def Tryz.lays160_ren : Go.Shelf.Ren := ⟨fun | 160 => 102 | 232 => 150 | 231 => 149 | 227 => 151 | 234 => 153 | 233 => 152 | 236 => 155 | 235 => 154 | 228 => 195 | 271 => 198 | 151 => 197 | 197 => 196 | 120 => 256 | 152 => 255 | 260 => 254 | 137 => 134 | 119 => 283 | 224 => 284 | 225 => 285 | 217 => 173 | 266 => 224 | n => n, fun | 9 => 9 | 4 => 4 | 3 => 3 | 5 => 5 | 117 => 204 | 116 => 203 | 0 => 0 | 124 => 207 | 21 => 21 | 105 => 243 | 46 => 197 | 119 => 311 | 139 => 314 | 138 => 313 | n => n, fun | 3 => 4 | 4 => 5 | n => n⟩
theorem Tryz.lays160 : Go.Proofs.Lays.n160 Tryz.prog Tryz.lays160_ren := {
 mixed := by kernel_rfl
 f119 := Tryz.func283.trans (congrArg some (by kernel_rfl))
 f120 := Tryz.func256.trans (congrArg some (by kernel_rfl))
 f137 := Tryz.func134.trans (congrArg some (by kernel_rfl))
 f151 := Tryz.func197.trans (congrArg some (by kernel_rfl))
 f152 := Tryz.func255.trans (congrArg some (by kernel_rfl))
 f160 := Tryz.func102.trans (congrArg some (by kernel_rfl))
 f197 := Tryz.func196.trans (congrArg some (by kernel_rfl))
 f217 := Tryz.func173.trans (congrArg some (by kernel_rfl))
 f224 := Tryz.func284.trans (congrArg some (by kernel_rfl))
 f225 := Tryz.func285.trans (congrArg some (by kernel_rfl))
 f227 := Tryz.func151.trans (congrArg some (by kernel_rfl))
 f228 := Tryz.func195.trans (congrArg some (by kernel_rfl))
 f231 := Tryz.func149.trans (congrArg some (by kernel_rfl))
 f232 := Tryz.func150.trans (congrArg some (by kernel_rfl))
 f233 := Tryz.func152.trans (congrArg some (by kernel_rfl))
 f234 := Tryz.func153.trans (congrArg some (by kernel_rfl))
 f235 := Tryz.func154.trans (congrArg some (by kernel_rfl))
 f236 := Tryz.func155.trans (congrArg some (by kernel_rfl))
 f260 := Tryz.func254.trans (congrArg some (by kernel_rfl))
 f266 := Tryz.func224.trans (congrArg some (by kernel_rfl))
 f271 := Tryz.func198.trans (congrArg some (by kernel_rfl))
 t0 := Tryz.underlying0
 a0 := Tryz.isAgg0
 z0 := Tryz.sizeOf0
 v0 := Tryz.zeroValue0
 t3 := Tryz.underlying3
 a3 := Tryz.isAgg3
 z3 := Tryz.sizeOf3
 v3 := Tryz.zeroValue3
 t4 := Tryz.underlying4
 a4 := Tryz.isAgg4
 z4 := Tryz.sizeOf4
 v4 := Tryz.zeroValue4
 t5 := Tryz.underlying5
 a5 := Tryz.isAgg5
 z5 := Tryz.sizeOf5
 v5 := Tryz.zeroValue5
 t9 := Tryz.underlying9
 a9 := Tryz.isAgg9
 z9 := Tryz.sizeOf9
 v9 := Tryz.zeroValue9
 t21 := Tryz.underlying21
 a21 := Tryz.isAgg21
 z21 := Tryz.sizeOf21
 v21 := Tryz.zeroValue21
 t46 := Tryz.underlying197
 a46 := Tryz.isAgg197
 z46 := Tryz.sizeOf197
 v46 := Tryz.zeroValue197
 t105 := Tryz.underlying243
 a105 := Tryz.isAgg243
 z105 := Tryz.sizeOf243
 v105 := Tryz.zeroValue243
 t116 := Tryz.underlying203
 a116 := Tryz.isAgg203
 z116 := Tryz.sizeOf203
 t117 := Tryz.underlying204
 a117 := Tryz.isAgg204
 z117 := Tryz.sizeOf204
 v117 := Tryz.zeroValue204
 t119 := Tryz.underlying311
 a119 := Tryz.isAgg311
 z119 := Tryz.sizeOf311
 t124 := Tryz.underlying207
 a124 := Tryz.isAgg207
 z124 := Tryz.sizeOf207
 v124 := Tryz.zeroValue207
 t138 := Tryz.underlying313
 a138 := Tryz.isAgg313
 z138 := Tryz.sizeOf313
 v138 := Tryz.zeroValue313
 t139 := Tryz.underlying314
 a139 := Tryz.isAgg314
 z139 := Tryz.sizeOf314
 v139 := Tryz.zeroValue314
 g3 := by kernel_rfl
 g4 := by kernel_rfl }
def Tryz.lays106_ren : Go.Shelf.Ren := ⟨fun | 106 => 87 | 213 => 142 | 265 => 187 | n => n, fun | 9 => 9 | 3 => 3 | n => n, fun | n => n⟩
theorem Tryz.lays106 : Go.Proofs.Lays.n106 Tryz.prog Tryz.lays106_ren := {
 mixed := by kernel_rfl
 f106 := Tryz.func87.trans (congrArg some (by kernel_rfl))
 f213 := Tryz.func142.trans (congrArg some (by kernel_rfl))
 f265 := Tryz.func187.trans (congrArg some (by kernel_rfl))
 t3 := Tryz.underlying3
 a3 := Tryz.isAgg3
 z3 := Tryz.sizeOf3
 v3 := Tryz.zeroValue3
 t9 := Tryz.underlying9
 a9 := Tryz.isAgg9
 z9 := Tryz.sizeOf9
 v9 := Tryz.zeroValue9 }
open Go.RowKit in
/-- strings.Compare: "Compare returns an integer comparing two strings lexicographically. The result will be 0 if a == b, -1 if a < b, and +1 if a > b.": IT RETURNS 'Lib.compareBytes a b'; the world is as it was. (LAID: no walk: one application.) -/
theorem Tryz.strings_Compare (a b : ByteArray) (w : World) :
 Calls Tryz.prog 87 #[.string a, .string b] w fun e w' => e = .returned (.int .i64 (Lib.compareBytes a.data.toList b.data.toList)) ∧ w' = w := Any.strings_Compare Tryz.lays106 a b w
def Tryz.lays137_ren : Go.Shelf.Ren := ⟨fun | 137 => 134 | 217 => 173 | 266 => 224 | n => n, fun | 9 => 9 | 5 => 5 | 3 => 3 | n => n, fun | n => n⟩
theorem Tryz.lays137 : Go.Proofs.Lays.n137 Tryz.prog Tryz.lays137_ren := {
 mixed := by kernel_rfl
 f137 := Tryz.func134.trans (congrArg some (by kernel_rfl))
 f217 := Tryz.func173.trans (congrArg some (by kernel_rfl))
 f266 := Tryz.func224.trans (congrArg some (by kernel_rfl))
 t3 := Tryz.underlying3
 a3 := Tryz.isAgg3
 z3 := Tryz.sizeOf3
 v3 := Tryz.zeroValue3
 t5 := Tryz.underlying5
 a5 := Tryz.isAgg5
 z5 := Tryz.sizeOf5
 v5 := Tryz.zeroValue5
 t9 := Tryz.underlying9
 a9 := Tryz.isAgg9
 z9 := Tryz.sizeOf9
 v9 := Tryz.zeroValue9 }
open Go.RowKit in
/-- strings.IndexByte: "IndexByte returns the index of the first instance of c in s, or -1 if c is not present in s.": IT RETURNS 'Lib.indexByte s c'; the world is as it was. (LAID: no walk: one application.) -/
theorem Tryz.strings_IndexByte (s : ByteArray) (c : Int) (w : World) :
 Calls Tryz.prog 134 #[.string s, .int .u8 c] w fun e w' => e = .returned (.int .i64 (Lib.indexByte s.data.toList c.toNat.toUInt8)) ∧ w' = w := Any.strings_IndexByte Tryz.lays137 s c w
def Tryz.laysM171_ren : Go.Shelf.Ren := ⟨fun | 171 => 88 | 243 => 143 | 246 => 188 | 283 => 239 | 284 => 240 | 285 => 241 | 286 => 242 | 129 => 186 | 317 => 273 | 318 => 274 | 319 => 275 | 320 => 276 | 337 => 292 | 338 => 293 | n => n, fun | 3 => 3 | 9 => 9 | 2 => 2 | 4 => 4 | 171 => 281 | 0 => 0 | 53 => 235 | 37 => 247 | 5 => 5 | 173 => 283 | 212 => 307 | 51 => 233 | 20 => 20 | 213 => 308 | 46 => 197 | 232 => 325 | 233 => 326 | n => n, fun | 17 => 3 | 18 => 6 | 19 => 7 | n => n⟩
theorem Tryz.laysM171 : Go.Proofs.LaysM.n171 Tryz.prog Tryz.laysM171_ren := {
 mixed := by kernel_rfl
 f129 := Tryz.func186.trans (congrArg some (by kernel_rfl))
 f171 := Tryz.func88.trans (congrArg some (by kernel_rfl))
 f243 := Tryz.func143.trans (congrArg some (by kernel_rfl))
 f246 := Tryz.func188.trans (congrArg some (by kernel_rfl))
 f283 := Tryz.func239.trans (congrArg some (by kernel_rfl))
 f284 := Tryz.func240.trans (congrArg some (by kernel_rfl))
 f285 := Tryz.func241.trans (congrArg some (by kernel_rfl))
 f286 := Tryz.func242.trans (congrArg some (by kernel_rfl))
 f317 := Tryz.func273.trans (congrArg some (by kernel_rfl))
 f318 := Tryz.func274.trans (congrArg some (by kernel_rfl))
 f319 := Tryz.func275.trans (congrArg some (by kernel_rfl))
 f320 := Tryz.func276.trans (congrArg some (by kernel_rfl))
 f337 := Tryz.func292.trans (congrArg some (by kernel_rfl))
 f338 := Tryz.func293.trans (congrArg some (by kernel_rfl))
 t0 := Tryz.underlying0
 a0 := Tryz.isAgg0
 z0 := Tryz.sizeOf0
 v0 := Tryz.zeroValue0
 t2 := Tryz.underlying2
 a2 := Tryz.isAgg2
 z2 := Tryz.sizeOf2
 v2 := Tryz.zeroValue2
 t3 := Tryz.underlying3
 a3 := Tryz.isAgg3
 z3 := Tryz.sizeOf3
 v3 := Tryz.zeroValue3
 t4 := Tryz.underlying4
 a4 := Tryz.isAgg4
 z4 := Tryz.sizeOf4
 v4 := Tryz.zeroValue4
 t5 := Tryz.underlying5
 a5 := Tryz.isAgg5
 z5 := Tryz.sizeOf5
 v5 := Tryz.zeroValue5
 t9 := Tryz.underlying9
 a9 := Tryz.isAgg9
 z9 := Tryz.sizeOf9
 v9 := Tryz.zeroValue9
 t20 := Tryz.underlying20
 a20 := Tryz.isAgg20
 z20 := Tryz.sizeOf20
 v20 := Tryz.zeroValue20
 t37 := Tryz.underlying247
 a37 := Tryz.isAgg247
 z37 := Tryz.sizeOf247
 v37 := Tryz.zeroValue247
 t46 := Tryz.underlying197
 a46 := Tryz.isAgg197
 z46 := Tryz.sizeOf197
 v46 := Tryz.zeroValue197
 t51 := Tryz.underlying233
 a51 := Tryz.isAgg233
 z51 := Tryz.sizeOf233
 v51 := Tryz.zeroValue233
 t53 := Tryz.underlying235
 a53 := Tryz.isAgg235
 z53 := Tryz.sizeOf235
 v53 := Tryz.zeroValue235
 t171 := Tryz.underlying281
 a171 := Tryz.isAgg281
 z171 := Tryz.sizeOf281
 v171 := Tryz.zeroValue281
 t173 := Tryz.underlying283
 a173 := Tryz.isAgg283
 z173 := Tryz.sizeOf283
 v173 := Tryz.zeroValue283
 t212 := Tryz.underlying307
 a212 := Tryz.isAgg307
 z212 := Tryz.sizeOf307
 v212 := Tryz.zeroValue307
 t213 := Tryz.underlying308
 a213 := Tryz.isAgg308
 z213 := Tryz.sizeOf308
 t232 := Tryz.underlying325
 a232 := Tryz.isAgg325
 z232 := Tryz.sizeOf325
 v232 := Tryz.zeroValue325
 t233 := Tryz.underlying326
 a233 := Tryz.isAgg326
 z233 := Tryz.sizeOf326
 v233 := Tryz.zeroValue326
 g17 := by kernel_rfl
 g18 := by kernel_rfl
 g19 := by kernel_rfl
 i0 := by kernel_rfl
 i2 := by kernel_rfl
 i3 := by kernel_rfl
 i4 := by kernel_rfl
 i5 := by kernel_rfl
 i9 := by kernel_rfl
 i20 := by kernel_rfl
 i37 := by kernel_rfl
 i46 := by kernel_rfl
 i51 := by kernel_rfl
 i53 := by kernel_rfl
 i171 := by kernel_rfl
 i173 := by kernel_rfl
 i212 := by kernel_rfl
 i232 := by kernel_rfl
 i233 := by kernel_rfl
 m17 := by kernel_rfl
 m18 := by kernel_rfl
 m19 := by kernel_rfl }
open Go.RowKit Go.Sort Go.Lib in
/-- strconv.Itoa: "Itoa is equivalent to FormatInt(int64(i), 10).": i's DECIMAL NUMERAL ('Lib.itoa': a '-' where i is negative, then the digits), FOR EVERY int. The world behind the call: the world before it, new blocks behind the heap (the library's 'var a [24]byte'), draws. (LAID: no walk: one application.) -/
theorem Tryz.strconv_Itoa (n : Int) (h0 : -9223372036854775808 ≤ n) (h1 : n ≤ 9223372036854775807) (w : World) (htab : Lib.TabIs Tryz.prog w "internal/strconv.uint64pow10" .u64 Lib.pow10Tab) :
 Calls Tryz.prog 88 #[.int .i64 n] w fun e w' => e = .returned (.string ⟨(Lib.itoa n).toArray⟩) ∧ ∃ k os, w' = grow (w.drewN k) os := Any.strconv_Itoa Tryz.laysM171 n h0 h1 w htab
def Tryz.lays190_ren : Go.Shelf.Ren := ⟨fun | 190 => 145 | 125 => 140 | 258 => 191 | 128 => 185 | 129 => 186 | 302 => 244 | 303 => 245 | 304 => 246 | 305 => 247 | 306 => 248 | 307 => 249 | 308 => 250 | 309 => 251 | 310 => 252 | 333 => 278 | 329 => 235 | 330 => 236 | 334 => 279 | 335 => 280 | 336 => 281 | 344 => 294 | n => n, fun | 31 => 47 | 9 => 9 | 3 => 3 | 46 => 197 | 0 => 0 | 51 => 233 | 53 => 235 | 4 => 4 | 183 => 227 | 182 => 226 | 131 => 85 | 5 => 5 | 218 => 275 | 222 => 279 | 228 => 304 | 229 => 305 | n => n, fun | n => n⟩
theorem Tryz.lays190 : Go.Proofs.Lays.n190 Tryz.prog Tryz.lays190_ren := {
 mixed := by kernel_rfl
 f125 := Tryz.func140.trans (congrArg some (by kernel_rfl))
 f128 := Tryz.func185.trans (congrArg some (by kernel_rfl))
 f129 := Tryz.func186.trans (congrArg some (by kernel_rfl))
 f190 := Tryz.func145.trans (congrArg some (by kernel_rfl))
 f258 := Tryz.func191.trans (congrArg some (by kernel_rfl))
 f302 := Tryz.func244.trans (congrArg some (by kernel_rfl))
 f303 := Tryz.func245.trans (congrArg some (by kernel_rfl))
 f304 := Tryz.func246.trans (congrArg some (by kernel_rfl))
 f305 := Tryz.func247.trans (congrArg some (by kernel_rfl))
 f306 := Tryz.func248.trans (congrArg some (by kernel_rfl))
 f307 := Tryz.func249.trans (congrArg some (by kernel_rfl))
 f308 := Tryz.func250.trans (congrArg some (by kernel_rfl))
 f309 := Tryz.func251.trans (congrArg some (by kernel_rfl))
 f310 := Tryz.func252.trans (congrArg some (by kernel_rfl))
 f329 := Tryz.func235.trans (congrArg some (by kernel_rfl))
 f330 := Tryz.func236.trans (congrArg some (by kernel_rfl))
 f333 := Tryz.func278.trans (congrArg some (by kernel_rfl))
 f334 := Tryz.func279.trans (congrArg some (by kernel_rfl))
 f335 := Tryz.func280.trans (congrArg some (by kernel_rfl))
 f336 := Tryz.func281.trans (congrArg some (by kernel_rfl))
 f344 := Tryz.func294.trans (congrArg some (by kernel_rfl))
 t0 := Tryz.underlying0
 a0 := Tryz.isAgg0
 z0 := Tryz.sizeOf0
 v0 := Tryz.zeroValue0
 t3 := Tryz.underlying3
 a3 := Tryz.isAgg3
 z3 := Tryz.sizeOf3
 v3 := Tryz.zeroValue3
 t4 := Tryz.underlying4
 a4 := Tryz.isAgg4
 z4 := Tryz.sizeOf4
 v4 := Tryz.zeroValue4
 t5 := Tryz.underlying5
 a5 := Tryz.isAgg5
 z5 := Tryz.sizeOf5
 v5 := Tryz.zeroValue5
 t9 := Tryz.underlying9
 a9 := Tryz.isAgg9
 z9 := Tryz.sizeOf9
 v9 := Tryz.zeroValue9
 t31 := Tryz.underlying47
 a31 := Tryz.isAgg47
 z31 := Tryz.sizeOf47
 v31 := Tryz.zeroValue47
 t46 := Tryz.underlying197
 a46 := Tryz.isAgg197
 z46 := Tryz.sizeOf197
 v46 := Tryz.zeroValue197
 t51 := Tryz.underlying233
 a51 := Tryz.isAgg233
 z51 := Tryz.sizeOf233
 v51 := Tryz.zeroValue233
 t53 := Tryz.underlying235
 a53 := Tryz.isAgg235
 z53 := Tryz.sizeOf235
 v53 := Tryz.zeroValue235
 t131 := Tryz.underlying85
 a131 := Tryz.isAgg85
 z131 := Tryz.sizeOf85
 v131 := Tryz.zeroValue85
 t182 := Tryz.underlying226
 a182 := Tryz.isAgg226
 z182 := Tryz.sizeOf226
 v182 := Tryz.zeroValue226
 t183 := Tryz.underlying227
 a183 := Tryz.isAgg227
 z183 := Tryz.sizeOf227
 v183 := Tryz.zeroValue227
 t218 := Tryz.underlying275
 a218 := Tryz.isAgg275
 z218 := Tryz.sizeOf275
 v218 := Tryz.zeroValue275
 t222 := Tryz.underlying279
 a222 := Tryz.isAgg279
 z222 := Tryz.sizeOf279
 v222 := Tryz.zeroValue279
 t228 := Tryz.underlying304
 a228 := Tryz.isAgg304
 z228 := Tryz.sizeOf304
 v228 := Tryz.zeroValue304
 t229 := Tryz.underlying305
 a229 := Tryz.isAgg305
 z229 := Tryz.sizeOf305
 v229 := Tryz.zeroValue305 }
open Go.Sort Go.RowKit in
theorem Tryz.slices_Sort_string (blk off cap : Nat) (ss : List (List UInt8)) (w : World) (hH : Holds encStr w blk off ss.toArray) (hblk : blk < w.heap.size) (hsz : ss.length < 4611686018427387904) :
 Calls Tryz.prog 145 #[.slice (some ⟨blk, off, none⟩) ss.length cap] w fun e w' =>
  e = .returned (.tuple #[]) ∧ ∃ n os, w' = grow (putRow encStr (Sort.ahead w n) blk off (ss.mergeSort fun x y => decide (x ≤ y)).toArray) os := Any.slices_Sort_string Tryz.lays190 blk off cap ss w hH hblk hsz
def Tryz.laysNm216_ren : Go.Shelf.Ren := ⟨fun | 16 => 41 | n => n, fun | 24 => 47 | 9 => 9 | 4 => 4 | n => n, fun | n => n⟩
theorem Tryz.laysNm216 : Go.Proofs.Lays2.n16 Tryz.prog Tryz.laysNm216_ren := {
 mixed := by kernel_rfl
 f16 := Tryz.func41.trans (congrArg some (by kernel_rfl))
 t4 := Tryz.underlying4
 a4 := Tryz.isAgg4
 z4 := Tryz.sizeOf4
 v4 := Tryz.zeroValue4
 t9 := Tryz.underlying9
 a9 := Tryz.isAgg9
 z9 := Tryz.sizeOf9
 v9 := Tryz.zeroValue9
 t24 := Tryz.underlying47
 a24 := Tryz.isAgg47
 z24 := Tryz.sizeOf47
 v24 := Tryz.zeroValue47
 i9 := by kernel_rfl }
open Go.RowKit Go.Lib in
/-- slices.Clone at []string: "Clone returns a copy of the slice. The elements are copied using assignment, so this is a shallow clone. The result may have additional unused capacity. The result preserves the nilness of s.": OF A SLICE THAT IS NOT nil IT RETURNS A SLICE THAT IS NOT nil, OF THE SAME ELEMENTS, IN MEMORY OF THE CALL's OWN: in the how-to's words (6f): 'w'.ownsRow B e 1 v' n cells': v' begins at the head of a row among the blocks from B on (B: the heap's size at the call), not frozen, whose first cells are the elements · 'Below B w w'': below B all is as it was. The capacity is whatever the run-time gives. 'zs': what the cells behind the slice's address hold; 'zs.take n': its elements. (LAID: no walk: one application.) -/
theorem Tryz.slices_Clone_string (b off n c : Nat) (zs : List ByteArray) (w : World) (hz : n ≤ zs.length) (hbig : n * 16 ≤ 140737488355328) (hc : ∀ j, j < zs.length → w.cell? ⟨b, off + j, none⟩ = some (.string (zs.getD j ByteArray.empty))) :
 Calls Tryz.prog 41 #[.slice (some ⟨b, off, none⟩) n c] w fun e w' => ∃ v', e = .returned v' ∧ w'.ownsRow w.heap.size 9 1 v' n ((zs.take n).map (Value.string)) ∧ v' ≠ .slice none 0 0 ∧ Below w.heap.size w w' := Any.slices_Clone_string Tryz.laysNm216 b off n c zs w hz hbig hc
open Go.RowKit Go.Lib in
/-- The same at nil: nil comes back; the world is as it was. (LAID: no walk: one application.) -/
theorem Tryz.slices_Clone_string_nil (n c : Nat) (w : World) :
 Calls Tryz.prog 41 #[.slice none n c] w fun e w' => e = .returned (.slice none 0 0) ∧ w' = w := Any.slices_Clone_string_nil Tryz.laysNm216 n c w
open Go.RowKit Go.Lib in
/-- The same at a slice of length 0 that is not nil, WHATEVER ITS ADDRESS (no cell is asked for): a slice that is not nil and owns nothing comes back. (LAID: no walk: one application.) -/
theorem Tryz.slices_Clone_string_zero (a : Addr) (c : Nat) (w : World) :
 Calls Tryz.prog 41 #[.slice (some a) 0 c] w fun e w' => ∃ v', e = .returned v' ∧ w'.ownsRow w.heap.size 9 1 v' 0 [] ∧ v' ≠ .slice none 0 0 ∧ Below w.heap.size w w' := Any.slices_Clone_string_zero Tryz.laysNm216 a c w
def Tryz.lays194_ren : Go.Shelf.Ren := ⟨fun | 194 => 146 | n => n, fun | 31 => 47 | 9 => 9 | 3 => 3 | 4 => 4 | 0 => 0 | n => n, fun | n => n⟩
theorem Tryz.lays194 : Go.Proofs.Lays.n194 Tryz.prog Tryz.lays194_ren := {
 mixed := by kernel_rfl
 f194 := Tryz.func146.trans (congrArg some (by kernel_rfl))
 t0 := Tryz.underlying0
 a0 := Tryz.isAgg0
 z0 := Tryz.sizeOf0
 v0 := Tryz.zeroValue0
 t3 := Tryz.underlying3
 a3 := Tryz.isAgg3
 z3 := Tryz.sizeOf3
 v3 := Tryz.zeroValue3
 t4 := Tryz.underlying4
 a4 := Tryz.isAgg4
 z4 := Tryz.sizeOf4
 v4 := Tryz.zeroValue4
 t9 := Tryz.underlying9
 a9 := Tryz.isAgg9
 z9 := Tryz.sizeOf9
 v9 := Tryz.zeroValue9
 t31 := Tryz.underlying47
 a31 := Tryz.isAgg47
 z31 := Tryz.sizeOf47
 v31 := Tryz.zeroValue47 }
open Go.RowKit Go.Lib Go.Sort in
/-- slices.Compact at []string: "Compact replaces consecutive runs of equal elements with a single copy. This is like the uniq command found on Unix. Compact modifies the contents of the slice s and returns the modified slice, which may have a smaller length. Compact zeroes the elements between the new length and the original length. The result preserves the nilness of s.": IT RETURNS THE SLICE CUT TO 'Lib.compact zs'; ITS CELLS HOLD 'Lib.compact zs', THEN ZERO VALUES up to the old length; all else is as it was, but for the count of draws. IN THE WORDS OF slices.Sort's CONTRACT ('Holds', 'putRow'): so the everyday 'slices.Sort(xs); xs = slices.Compact(xs)' goes from the one contract to the other. It asks 'zs.length ≤ cap' (every slice's: the reslicing 's[:k]' looks at it). Length 0, nil: '.._empty'. (LAID: no walk: one application.) -/
theorem Tryz.slices_Compact_string (blk off cap : Nat) (zs : List (List UInt8)) (w : World) (hH : Holds encStr w blk off zs.toArray) (hsz : zs.length ≤ 9223372036854775807) (hcap : zs.length ≤ cap) :
 Calls Tryz.prog 146 #[.slice (some ⟨blk, off, none⟩) zs.length cap] w fun e w' => e = .returned (.slice (some ⟨blk, off, none⟩) (Lib.compact zs).length cap) ∧ ∃ q, w' = putRow encStr (Sort.ahead w q) blk off (Lib.compact zs ++ List.replicate (zs.length - (Lib.compact zs).length) []).toArray := Any.slices_Compact_string Tryz.lays194 blk off cap zs w hH hsz hcap
open Go.RowKit Go.Lib Go.Sort in
/-- The same at a slice of length 0, a nil one too: it comes back as it is. (LAID: no walk: one application.) -/
theorem Tryz.slices_Compact_string_empty (a : Option Addr) (cap : Nat) (w : World) :
 Calls Tryz.prog 146 #[.slice a 0 cap] w fun e w' => e = .returned (.slice a 0 cap) ∧ w' = w := Any.slices_Compact_string_empty Tryz.lays194 a cap w
open Go.RowKit Go.Sort in
/-- .. and plain. (LAID: no walk: one application.) -/
theorem Tryz.slices_Sort_string_none (p : Option Addr) (cap : Nat) (w : World) :
 Calls Tryz.prog 145 #[.slice p 0 cap] w fun e w' => e = .returned (.tuple #[]) ∧ w' = w := Any.slices_Sort_string_none Tryz.lays190 p cap w
def Tryz.lisInt_ren : Go.Shelf.Ren := ⟨fun | 20 => 206 | n => n, fun | 24 => 3 | 22 => 22 | 3 => 3 | 25 => 79 | 4 => 4 | 0 => 0 | n => n, fun | n => n⟩
theorem Tryz.lisInt : Go.Proofs.SlLaysF.n20 Tryz.prog Tryz.lisInt_ren := {
 mixed := by kernel_rfl
 f20 := ⟨Tryz.f206.name, by decide, Tryz.func206.trans (congrArg some (by kernel_rfl))⟩
 t0 := Tryz.underlying0
 a0 := Tryz.isAgg0
 z0 := Tryz.sizeOf0
 v0 := Tryz.zeroValue0
 t3 := Tryz.underlying3
 a3 := Tryz.isAgg3
 z3 := Tryz.sizeOf3
 v3 := Tryz.zeroValue3
 t4 := Tryz.underlying4
 a4 := Tryz.isAgg4
 z4 := Tryz.sizeOf4
 v4 := Tryz.zeroValue4
 t22 := Tryz.underlying22
 a22 := Tryz.isAgg22
 z22 := Tryz.sizeOf22
 v22 := Tryz.zeroValue22
 a24 := Tryz.isAgg3
 z24 := Tryz.sizeOf3
 t25 := Tryz.underlying79
 a25 := Tryz.isAgg79
 z25 := Tryz.sizeOf79
 v25 := Tryz.zeroValue79 }
def Tryz.lsfLent_ren : Go.Shelf.Ren := ⟨fun | 6 => 128 | 15 => 140 | 14 => 172 | 28 => 185 | 29 => 186 | 20 => 189 | 21 => 217 | 22 => 218 | 23 => 219 | 24 => 220 | 25 => 221 | 26 => 222 | 27 => 223 | 46 => 265 | 47 => 235 | 48 => 236 | 49 => 266 | 50 => 267 | 57 => 290 | n => n, fun | 22 => 43 | 24 => 65 | 25 => 161 | 3 => 3 | 39 => 197 | 0 => 0 | 53 => 233 | 55 => 235 | 4 => 4 | 46 => 227 | 45 => 226 | 50 => 85 | 5 => 5 | 9 => 9 | 66 => 275 | 70 => 279 | 76 => 304 | 77 => 305 | n => n, fun | n => n⟩
theorem Tryz.lsfLent : Go.Proofs.SlLaysF0.n6 Tryz.prog Tryz.lsfLent_ren := {
 mixed := by kernel_rfl
 f6 := ⟨Tryz.f128.name, by decide, Tryz.func128.trans (congrArg some (by kernel_rfl))⟩
 f14 := ⟨Tryz.f172.name, by decide, Tryz.func172.trans (congrArg some (by kernel_rfl))⟩
 f15 := Tryz.func140.trans (congrArg some (by kernel_rfl))
 f20 := ⟨Tryz.f189.name, by decide, Tryz.func189.trans (congrArg some (by kernel_rfl))⟩
 f21 := ⟨Tryz.f217.name, by decide, Tryz.func217.trans (congrArg some (by kernel_rfl))⟩
 f22 := ⟨Tryz.f218.name, by decide, Tryz.func218.trans (congrArg some (by kernel_rfl))⟩
 f23 := ⟨Tryz.f219.name, by decide, Tryz.func219.trans (congrArg some (by kernel_rfl))⟩
 f24 := ⟨Tryz.f220.name, by decide, Tryz.func220.trans (congrArg some (by kernel_rfl))⟩
 f25 := ⟨Tryz.f221.name, by decide, Tryz.func221.trans (congrArg some (by kernel_rfl))⟩
 f26 := ⟨Tryz.f222.name, by decide, Tryz.func222.trans (congrArg some (by kernel_rfl))⟩
 f27 := ⟨Tryz.f223.name, by decide, Tryz.func223.trans (congrArg some (by kernel_rfl))⟩
 f28 := Tryz.func185.trans (congrArg some (by kernel_rfl))
 f29 := Tryz.func186.trans (congrArg some (by kernel_rfl))
 f46 := ⟨Tryz.f265.name, by decide, Tryz.func265.trans (congrArg some (by kernel_rfl))⟩
 f47 := Tryz.func235.trans (congrArg some (by kernel_rfl))
 f48 := Tryz.func236.trans (congrArg some (by kernel_rfl))
 f49 := ⟨Tryz.f266.name, by decide, Tryz.func266.trans (congrArg some (by kernel_rfl))⟩
 f50 := ⟨Tryz.f267.name, by decide, Tryz.func267.trans (congrArg some (by kernel_rfl))⟩
 f57 := ⟨Tryz.f290.name, by decide, Tryz.func290.trans (congrArg some (by kernel_rfl))⟩
 t0 := Tryz.underlying0
 a0 := Tryz.isAgg0
 z0 := Tryz.sizeOf0
 v0 := Tryz.zeroValue0
 t3 := Tryz.underlying3
 a3 := Tryz.isAgg3
 z3 := Tryz.sizeOf3
 v3 := Tryz.zeroValue3
 t4 := Tryz.underlying4
 a4 := Tryz.isAgg4
 z4 := Tryz.sizeOf4
 v4 := Tryz.zeroValue4
 t5 := Tryz.underlying5
 a5 := Tryz.isAgg5
 z5 := Tryz.sizeOf5
 v5 := Tryz.zeroValue5
 t9 := Tryz.underlying9
 a9 := Tryz.isAgg9
 z9 := Tryz.sizeOf9
 v9 := Tryz.zeroValue9
 t22 := Tryz.underlying43
 a22 := Tryz.isAgg43
 z22 := Tryz.sizeOf43
 v22 := Tryz.zeroValue43
 t25 := Tryz.underlying161
 a25 := Tryz.isAgg161
 z25 := Tryz.sizeOf161
 v25 := Tryz.zeroValue161
 t39 := Tryz.underlying197
 a39 := Tryz.isAgg197
 z39 := Tryz.sizeOf197
 v39 := Tryz.zeroValue197
 t45 := Tryz.underlying226
 a45 := Tryz.isAgg226
 z45 := Tryz.sizeOf226
 v45 := Tryz.zeroValue226
 t46 := Tryz.underlying227
 a46 := Tryz.isAgg227
 z46 := Tryz.sizeOf227
 v46 := Tryz.zeroValue227
 t50 := Tryz.underlying85
 a50 := Tryz.isAgg85
 z50 := Tryz.sizeOf85
 v50 := Tryz.zeroValue85
 t53 := Tryz.underlying233
 a53 := Tryz.isAgg233
 z53 := Tryz.sizeOf233
 v53 := Tryz.zeroValue233
 t55 := Tryz.underlying235
 a55 := Tryz.isAgg235
 z55 := Tryz.sizeOf235
 v55 := Tryz.zeroValue235
 t66 := Tryz.underlying275
 a66 := Tryz.isAgg275
 z66 := Tryz.sizeOf275
 v66 := Tryz.zeroValue275
 t70 := Tryz.underlying279
 a70 := Tryz.isAgg279
 z70 := Tryz.sizeOf279
 v70 := Tryz.zeroValue279
 t76 := Tryz.underlying304
 a76 := Tryz.isAgg304
 z76 := Tryz.sizeOf304
 v76 := Tryz.zeroValue304
 t77 := Tryz.underlying305
 a77 := Tryz.isAgg305
 z77 := Tryz.sizeOf305
 v77 := Tryz.zeroValue305 }
def Tryz.lsfDebt_ren : Go.Shelf.Ren := ⟨fun | 6 => 83 | 15 => 140 | 14 => 139 | 28 => 185 | 29 => 186 | 20 => 177 | 21 => 178 | 22 => 179 | 23 => 180 | 24 => 181 | 25 => 182 | 26 => 183 | 27 => 184 | 46 => 234 | 47 => 235 | 48 => 236 | 49 => 237 | 50 => 238 | 57 => 272 | n => n, fun | 22 => 153 | 24 => 155 | 25 => 158 | 3 => 3 | 39 => 197 | 0 => 0 | 53 => 233 | 55 => 235 | 4 => 4 | 46 => 227 | 45 => 226 | 50 => 85 | 5 => 5 | 9 => 9 | 66 => 275 | 70 => 279 | 76 => 304 | 77 => 305 | n => n, fun | n => n⟩
theorem Tryz.lsfDebt : Go.Proofs.SlLaysF0.n6 Tryz.prog Tryz.lsfDebt_ren := {
 mixed := by kernel_rfl
 f6 := ⟨Tryz.f83.name, by decide, Tryz.func83.trans (congrArg some (by kernel_rfl))⟩
 f14 := ⟨Tryz.f139.name, by decide, Tryz.func139.trans (congrArg some (by kernel_rfl))⟩
 f15 := Tryz.func140.trans (congrArg some (by kernel_rfl))
 f20 := ⟨Tryz.f177.name, by decide, Tryz.func177.trans (congrArg some (by kernel_rfl))⟩
 f21 := ⟨Tryz.f178.name, by decide, Tryz.func178.trans (congrArg some (by kernel_rfl))⟩
 f22 := ⟨Tryz.f179.name, by decide, Tryz.func179.trans (congrArg some (by kernel_rfl))⟩
 f23 := ⟨Tryz.f180.name, by decide, Tryz.func180.trans (congrArg some (by kernel_rfl))⟩
 f24 := ⟨Tryz.f181.name, by decide, Tryz.func181.trans (congrArg some (by kernel_rfl))⟩
 f25 := ⟨Tryz.f182.name, by decide, Tryz.func182.trans (congrArg some (by kernel_rfl))⟩
 f26 := ⟨Tryz.f183.name, by decide, Tryz.func183.trans (congrArg some (by kernel_rfl))⟩
 f27 := ⟨Tryz.f184.name, by decide, Tryz.func184.trans (congrArg some (by kernel_rfl))⟩
 f28 := Tryz.func185.trans (congrArg some (by kernel_rfl))
 f29 := Tryz.func186.trans (congrArg some (by kernel_rfl))
 f46 := ⟨Tryz.f234.name, by decide, Tryz.func234.trans (congrArg some (by kernel_rfl))⟩
 f47 := Tryz.func235.trans (congrArg some (by kernel_rfl))
 f48 := Tryz.func236.trans (congrArg some (by kernel_rfl))
 f49 := ⟨Tryz.f237.name, by decide, Tryz.func237.trans (congrArg some (by kernel_rfl))⟩
 f50 := ⟨Tryz.f238.name, by decide, Tryz.func238.trans (congrArg some (by kernel_rfl))⟩
 f57 := ⟨Tryz.f272.name, by decide, Tryz.func272.trans (congrArg some (by kernel_rfl))⟩
 t0 := Tryz.underlying0
 a0 := Tryz.isAgg0
 z0 := Tryz.sizeOf0
 v0 := Tryz.zeroValue0
 t3 := Tryz.underlying3
 a3 := Tryz.isAgg3
 z3 := Tryz.sizeOf3
 v3 := Tryz.zeroValue3
 t4 := Tryz.underlying4
 a4 := Tryz.isAgg4
 z4 := Tryz.sizeOf4
 v4 := Tryz.zeroValue4
 t5 := Tryz.underlying5
 a5 := Tryz.isAgg5
 z5 := Tryz.sizeOf5
 v5 := Tryz.zeroValue5
 t9 := Tryz.underlying9
 a9 := Tryz.isAgg9
 z9 := Tryz.sizeOf9
 v9 := Tryz.zeroValue9
 t22 := Tryz.underlying153
 a22 := Tryz.isAgg153
 z22 := Tryz.sizeOf153
 v22 := Tryz.zeroValue153
 t25 := Tryz.underlying158
 a25 := Tryz.isAgg158
 z25 := Tryz.sizeOf158
 v25 := Tryz.zeroValue158
 t39 := Tryz.underlying197
 a39 := Tryz.isAgg197
 z39 := Tryz.sizeOf197
 v39 := Tryz.zeroValue197
 t45 := Tryz.underlying226
 a45 := Tryz.isAgg226
 z45 := Tryz.sizeOf226
 v45 := Tryz.zeroValue226
 t46 := Tryz.underlying227
 a46 := Tryz.isAgg227
 z46 := Tryz.sizeOf227
 v46 := Tryz.zeroValue227
 t50 := Tryz.underlying85
 a50 := Tryz.isAgg85
 z50 := Tryz.sizeOf85
 v50 := Tryz.zeroValue85
 t53 := Tryz.underlying233
 a53 := Tryz.isAgg233
 z53 := Tryz.sizeOf233
 v53 := Tryz.zeroValue233
 t55 := Tryz.underlying235
 a55 := Tryz.isAgg235
 z55 := Tryz.sizeOf235
 v55 := Tryz.zeroValue235
 t66 := Tryz.underlying275
 a66 := Tryz.isAgg275
 z66 := Tryz.sizeOf275
 v66 := Tryz.zeroValue275
 t70 := Tryz.underlying279
 a70 := Tryz.isAgg279
 z70 := Tryz.sizeOf279
 v70 := Tryz.zeroValue279
 t76 := Tryz.underlying304
 a76 := Tryz.isAgg304
 z76 := Tryz.sizeOf304
 v76 := Tryz.zeroValue304
 t77 := Tryz.underlying305
 a77 := Tryz.isAgg305
 z77 := Tryz.sizeOf305
 v77 := Tryz.zeroValue305 }
def Tryz.lsfInt_ren : Go.Shelf.Ren := ⟨fun | 6 => 135 | 15 => 140 | 14 => 174 | 28 => 185 | 29 => 186 | 20 => 206 | 21 => 225 | 22 => 226 | 23 => 227 | 24 => 228 | 25 => 229 | 26 => 230 | 27 => 231 | 46 => 268 | 47 => 235 | 48 => 236 | 49 => 269 | 50 => 270 | 57 => 291 | n => n, fun | 22 => 22 | 24 => 3 | 25 => 79 | 3 => 3 | 39 => 197 | 0 => 0 | 53 => 233 | 55 => 235 | 4 => 4 | 46 => 227 | 45 => 226 | 50 => 85 | 5 => 5 | 9 => 9 | 66 => 275 | 70 => 279 | 76 => 304 | 77 => 305 | n => n, fun | n => n⟩
theorem Tryz.lsfInt : Go.Proofs.SlLaysF.n6 Tryz.prog Tryz.lsfInt_ren := {
 mixed := by kernel_rfl
 f6 := ⟨Tryz.f135.name, by decide, Tryz.func135.trans (congrArg some (by kernel_rfl))⟩
 f14 := ⟨Tryz.f174.name, by decide, Tryz.func174.trans (congrArg some (by kernel_rfl))⟩
 f15 := Tryz.func140.trans (congrArg some (by kernel_rfl))
 f20 := ⟨Tryz.f206.name, by decide, Tryz.func206.trans (congrArg some (by kernel_rfl))⟩
 f21 := ⟨Tryz.f225.name, by decide, Tryz.func225.trans (congrArg some (by kernel_rfl))⟩
 f22 := ⟨Tryz.f226.name, by decide, Tryz.func226.trans (congrArg some (by kernel_rfl))⟩
 f23 := ⟨Tryz.f227.name, by decide, Tryz.func227.trans (congrArg some (by kernel_rfl))⟩
 f24 := ⟨Tryz.f228.name, by decide, Tryz.func228.trans (congrArg some (by kernel_rfl))⟩
 f25 := ⟨Tryz.f229.name, by decide, Tryz.func229.trans (congrArg some (by kernel_rfl))⟩
 f26 := ⟨Tryz.f230.name, by decide, Tryz.func230.trans (congrArg some (by kernel_rfl))⟩
 f27 := ⟨Tryz.f231.name, by decide, Tryz.func231.trans (congrArg some (by kernel_rfl))⟩
 f28 := Tryz.func185.trans (congrArg some (by kernel_rfl))
 f29 := Tryz.func186.trans (congrArg some (by kernel_rfl))
 f46 := ⟨Tryz.f268.name, by decide, Tryz.func268.trans (congrArg some (by kernel_rfl))⟩
 f47 := Tryz.func235.trans (congrArg some (by kernel_rfl))
 f48 := Tryz.func236.trans (congrArg some (by kernel_rfl))
 f49 := ⟨Tryz.f269.name, by decide, Tryz.func269.trans (congrArg some (by kernel_rfl))⟩
 f50 := ⟨Tryz.f270.name, by decide, Tryz.func270.trans (congrArg some (by kernel_rfl))⟩
 f57 := ⟨Tryz.f291.name, by decide, Tryz.func291.trans (congrArg some (by kernel_rfl))⟩
 t0 := Tryz.underlying0
 a0 := Tryz.isAgg0
 z0 := Tryz.sizeOf0
 v0 := Tryz.zeroValue0
 t3 := Tryz.underlying3
 a3 := Tryz.isAgg3
 z3 := Tryz.sizeOf3
 v3 := Tryz.zeroValue3
 t4 := Tryz.underlying4
 a4 := Tryz.isAgg4
 z4 := Tryz.sizeOf4
 v4 := Tryz.zeroValue4
 t5 := Tryz.underlying5
 a5 := Tryz.isAgg5
 z5 := Tryz.sizeOf5
 v5 := Tryz.zeroValue5
 t9 := Tryz.underlying9
 a9 := Tryz.isAgg9
 z9 := Tryz.sizeOf9
 v9 := Tryz.zeroValue9
 t22 := Tryz.underlying22
 a22 := Tryz.isAgg22
 z22 := Tryz.sizeOf22
 v22 := Tryz.zeroValue22
 a24 := Tryz.isAgg3
 z24 := Tryz.sizeOf3
 t25 := Tryz.underlying79
 a25 := Tryz.isAgg79
 z25 := Tryz.sizeOf79
 v25 := Tryz.zeroValue79
 t39 := Tryz.underlying197
 a39 := Tryz.isAgg197
 z39 := Tryz.sizeOf197
 v39 := Tryz.zeroValue197
 t45 := Tryz.underlying226
 a45 := Tryz.isAgg226
 z45 := Tryz.sizeOf226
 v45 := Tryz.zeroValue226
 t46 := Tryz.underlying227
 a46 := Tryz.isAgg227
 z46 := Tryz.sizeOf227
 v46 := Tryz.zeroValue227
 t50 := Tryz.underlying85
 a50 := Tryz.isAgg85
 z50 := Tryz.sizeOf85
 v50 := Tryz.zeroValue85
 t53 := Tryz.underlying233
 a53 := Tryz.isAgg233
 z53 := Tryz.sizeOf233
 v53 := Tryz.zeroValue233
 t55 := Tryz.underlying235
 a55 := Tryz.isAgg235
 z55 := Tryz.sizeOf235
 v55 := Tryz.zeroValue235
 t66 := Tryz.underlying275
 a66 := Tryz.isAgg275
 z66 := Tryz.sizeOf275
 v66 := Tryz.zeroValue275
 t70 := Tryz.underlying279
 a70 := Tryz.isAgg279
 z70 := Tryz.sizeOf279
 v70 := Tryz.zeroValue279
 t76 := Tryz.underlying304
 a76 := Tryz.isAgg304
 z76 := Tryz.sizeOf304
 v76 := Tryz.zeroValue304
 t77 := Tryz.underlying305
 a77 := Tryz.isAgg305
 z77 := Tryz.sizeOf305
 v77 := Tryz.zeroValue305 }
def Tryz.lisLent_ren : Go.Shelf.Ren := ⟨fun | 20 => 189 | n => n, fun | 24 => 65 | 22 => 43 | 3 => 3 | 25 => 161 | 4 => 4 | 0 => 0 | n => n, fun | n => n⟩
theorem Tryz.lisLent : Go.Proofs.SlLaysF0.n20 Tryz.prog Tryz.lisLent_ren := {
 mixed := by kernel_rfl
 f20 := ⟨Tryz.f189.name, by decide, Tryz.func189.trans (congrArg some (by kernel_rfl))⟩
 t0 := Tryz.underlying0
 a0 := Tryz.isAgg0
 z0 := Tryz.sizeOf0
 v0 := Tryz.zeroValue0
 t3 := Tryz.underlying3
 a3 := Tryz.isAgg3
 z3 := Tryz.sizeOf3
 v3 := Tryz.zeroValue3
 t4 := Tryz.underlying4
 a4 := Tryz.isAgg4
 z4 := Tryz.sizeOf4
 v4 := Tryz.zeroValue4
 t22 := Tryz.underlying43
 a22 := Tryz.isAgg43
 z22 := Tryz.sizeOf43
 v22 := Tryz.zeroValue43
 t25 := Tryz.underlying161
 a25 := Tryz.isAgg161
 z25 := Tryz.sizeOf161
 v25 := Tryz.zeroValue161 }
def Tryz.lisDebt_ren : Go.Shelf.Ren := ⟨fun | 20 => 192 | n => n, fun | 24 => 165 | 22 => 163 | 3 => 3 | 25 => 167 | 4 => 4 | 0 => 0 | n => n, fun | n => n⟩
theorem Tryz.lisDebt : Go.Proofs.SlLaysF0.n20 Tryz.prog Tryz.lisDebt_ren := {
 mixed := by kernel_rfl
 f20 := ⟨Tryz.f192.name, by decide, Tryz.func192.trans (congrArg some (by kernel_rfl))⟩
 t0 := Tryz.underlying0
 a0 := Tryz.isAgg0
 z0 := Tryz.sizeOf0
 v0 := Tryz.zeroValue0
 t3 := Tryz.underlying3
 a3 := Tryz.isAgg3
 z3 := Tryz.sizeOf3
 v3 := Tryz.zeroValue3
 t4 := Tryz.underlying4
 a4 := Tryz.isAgg4
 z4 := Tryz.sizeOf4
 v4 := Tryz.zeroValue4
 t22 := Tryz.underlying163
 a22 := Tryz.isAgg163
 z22 := Tryz.sizeOf163
 v22 := Tryz.zeroValue163
 t25 := Tryz.underlying167
 a25 := Tryz.isAgg167
 z25 := Tryz.sizeOf167
 v25 := Tryz.zeroValue167 }
def Tryz.lqiLent_ren : Go.Shelf.Ren := ⟨fun | 6 => 133 | n => n, fun | 22 => 43 | 23 => 65 | 25 => 124 | 3 => 3 | 0 => 0 | 4 => 4 | n => n, fun | n => n⟩
theorem Tryz.lqiLent : Go.Proofs.SlLaysH0.n6 Tryz.prog Tryz.lqiLent_ren := {
 mixed := by kernel_rfl
 f6 := ⟨Tryz.f133.name, by decide, Tryz.func133.trans (congrArg some (by kernel_rfl))⟩
 t0 := Tryz.underlying0
 a0 := Tryz.isAgg0
 z0 := Tryz.sizeOf0
 v0 := Tryz.zeroValue0
 t3 := Tryz.underlying3
 a3 := Tryz.isAgg3
 z3 := Tryz.sizeOf3
 v3 := Tryz.zeroValue3
 t4 := Tryz.underlying4
 a4 := Tryz.isAgg4
 z4 := Tryz.sizeOf4
 v4 := Tryz.zeroValue4
 t22 := Tryz.underlying43
 a22 := Tryz.isAgg43
 z22 := Tryz.sizeOf43
 v22 := Tryz.zeroValue43
 t25 := Tryz.underlying124
 a25 := Tryz.isAgg124
 z25 := Tryz.sizeOf124
 v25 := Tryz.zeroValue124 }
end Go.Proofs.YtkjhbofbcmelgaaGreatDoor
