/- The library's contracts at this program. -/
import Derived.Shelf.Strings.Builder1
import Derived.Shelf.Small.Strs
import Derived.Shelf.Small.Wraps
import Derived.Shelf.Strconv.Itoa3
import Derived.Shelf.Sort.Plain
import Derived.Shelf.Bits.Mul64
import Derived.Shelf.Slices.Turned
import Derived.Ground.Names2Prog
import Derived.Shelf.Slices.Clone
import Derived.Shelf.Slices.CompactS
import Derived.Shelf.Slices.In.SortNone
import Derived.Ground.SlsfProg
import Derived.Test.YtmaojnmnbpomeaaGreatDoorProg
import Derived.Shelf.SlLaysF0
import Derived.Shelf.SlLaysF
import Derived.Shelf.Lays8
namespace Go.Proofs
theorem Xk {α : Type} {a : Option α} {x y : α} (h : a = some x) (k : x = y) : a = some y := h.trans (congrArg some k)
open Go.Shelf
open Go.RowKit in
def Tryz.lays106_ren : Go.Shelf.Ren := ⟨fun|106 => 97|213 => 159|265 => 227|n => n, fun|9 => 9|3 => 3|n => n, fun|n => n⟩
theorem Tryz.lays106 : Go.Proofs.Lays.n106 Tryz.prog Tryz.lays106_ren := {
 mixed:=by kernel_rfl
 f106:=Xk Tryz.func97 (by kernel_rfl)
 f213:=Xk Tryz.func159 (by kernel_rfl)
 f265:=Xk Tryz.func227 (by kernel_rfl)
 t3:=Tryz.underlying3
 a3:=Tryz.isAgg3
 z3:=Tryz.sizeOf3
 v3:=Tryz.zeroValue3
 t9:=Tryz.underlying9
 a9:=Tryz.isAgg9
 z9:=Tryz.sizeOf9
 v9:=Tryz.zeroValue9 }
open Go.RowKit in
theorem Tryz.strings_Compare (a b : ByteArray) (w : World) :
 Calls Tryz.prog 97 #[.string a, .string b] w fun e w' => e = .returned (.int .i64 (Lib.compareBytes a.data.toList b.data.toList)) ∧ w' = w:=Any.strings_Compare Tryz.lays106 a b w
def Tryz.lays122_ren : Go.Shelf.Ren := ⟨fun|122 => 81|215 => 140|n => n, fun|3 => 3|4 => 4|n => n, fun|n => n⟩
theorem Tryz.lays122 : Go.Proofs.Lays.n122 Tryz.prog Tryz.lays122_ren := {
 mixed:=by kernel_rfl
 f122:=Xk Tryz.func81 (by kernel_rfl)
 f215:=Xk Tryz.func140 (by kernel_rfl)
 t3:=Tryz.underlying3
 a3:=Tryz.isAgg3
 z3:=Tryz.sizeOf3
 v3:=Tryz.zeroValue3
 t4:=Tryz.underlying4
 a4:=Tryz.isAgg4
 z4:=Tryz.sizeOf4
 v4:=Tryz.zeroValue4 }
open Go.RowKit in
theorem Tryz.cmp_Compare_int (x y : Int) (w : World) :
 Calls Tryz.prog 81 #[.int .i64 x, .int .i64 y] w fun e w' => e = .returned (.int .i64 (Lib.compareInt x y)) ∧ w' = w:=Any.cmp_Compare_int Tryz.lays122 x y w
def Tryz.laysM171_ren : Go.Shelf.Ren := ⟨fun|171 => 164|243 => 228|246 => 262|283 => 278|284 => 279|285 => 280|286 => 281|129 => 158|317 => 285|318 => 286|319 => 287|320 => 288|337 => 289|338 => 290|n => n, fun|3 => 3|9 => 9|2 => 2|4 => 4|171 => 317|0 => 0|53 => 201|37 => 114|5 => 5|173 => 319|212 => 327|51 => 166|20 => 20|213 => 328|46 => 139|232 => 55|233 => 329|n => n, fun|17 => 1|18 => 2|19 => 3|n => n⟩
theorem Tryz.laysM171 : Go.Proofs.LaysM.n171 Tryz.prog Tryz.laysM171_ren := {
 mixed:=by kernel_rfl
 f129:=Xk Tryz.func158 (by kernel_rfl)
 f171:=Xk Tryz.func164 (by kernel_rfl)
 f243:=Xk Tryz.func228 (by kernel_rfl)
 f246:=Xk Tryz.func262 (by kernel_rfl)
 f283:=Xk Tryz.func278 (by kernel_rfl)
 f284:=Xk Tryz.func279 (by kernel_rfl)
 f285:=Xk Tryz.func280 (by kernel_rfl)
 f286:=Xk Tryz.func281 (by kernel_rfl)
 f317:=Xk Tryz.func285 (by kernel_rfl)
 f318:=Xk Tryz.func286 (by kernel_rfl)
 f319:=Xk Tryz.func287 (by kernel_rfl)
 f320:=Xk Tryz.func288 (by kernel_rfl)
 f337:=Xk Tryz.func289 (by kernel_rfl)
 f338:=Xk Tryz.func290 (by kernel_rfl)
 t0:=Tryz.underlying0
 a0:=Tryz.isAgg0
 z0:=Tryz.sizeOf0
 v0:=Tryz.zeroValue0
 t2:=Tryz.underlying2
 a2:=Tryz.isAgg2
 z2:=Tryz.sizeOf2
 v2:=Tryz.zeroValue2
 t3:=Tryz.underlying3
 a3:=Tryz.isAgg3
 z3:=Tryz.sizeOf3
 v3:=Tryz.zeroValue3
 t4:=Tryz.underlying4
 a4:=Tryz.isAgg4
 z4:=Tryz.sizeOf4
 v4:=Tryz.zeroValue4
 t5:=Tryz.underlying5
 a5:=Tryz.isAgg5
 z5:=Tryz.sizeOf5
 v5:=Tryz.zeroValue5
 t9:=Tryz.underlying9
 a9:=Tryz.isAgg9
 z9:=Tryz.sizeOf9
 v9:=Tryz.zeroValue9
 t20:=Tryz.underlying20
 a20:=Tryz.isAgg20
 z20:=Tryz.sizeOf20
 v20:=Tryz.zeroValue20
 t37:=Tryz.underlying114
 a37:=Tryz.isAgg114
 z37:=Tryz.sizeOf114
 v37:=Tryz.zeroValue114
 t46:=Tryz.underlying139
 a46:=Tryz.isAgg139
 z46:=Tryz.sizeOf139
 v46:=Tryz.zeroValue139
 t51:=Tryz.underlying166
 a51:=Tryz.isAgg166
 z51:=Tryz.sizeOf166
 v51:=Tryz.zeroValue166
 t53:=Tryz.underlying201
 a53:=Tryz.isAgg201
 z53:=Tryz.sizeOf201
 v53:=Tryz.zeroValue201
 t171:=Tryz.underlying317
 a171:=Tryz.isAgg317
 z171:=Tryz.sizeOf317
 v171:=Tryz.zeroValue317
 t173:=Tryz.underlying319
 a173:=Tryz.isAgg319
 z173:=Tryz.sizeOf319
 v173:=Tryz.zeroValue319
 t212:=Tryz.underlying327
 a212:=Tryz.isAgg327
 z212:=Tryz.sizeOf327
 v212:=Tryz.zeroValue327
 t213:=Tryz.underlying328
 a213:=Tryz.isAgg328
 z213:=Tryz.sizeOf328
 t232:=Tryz.underlying55
 a232:=Tryz.isAgg55
 z232:=Tryz.sizeOf55
 v232:=Tryz.zeroValue55
 t233:=Tryz.underlying329
 a233:=Tryz.isAgg329
 z233:=Tryz.sizeOf329
 v233:=Tryz.zeroValue329
 g17:=by kernel_rfl
 g18:=by kernel_rfl
 g19:=by kernel_rfl
 i0:=by kernel_rfl
 i2:=by kernel_rfl
 i3:=by kernel_rfl
 i4:=by kernel_rfl
 i5:=by kernel_rfl
 i9:=by kernel_rfl
 i20:=by kernel_rfl
 i37:=by kernel_rfl
 i46:=by kernel_rfl
 i51:=by kernel_rfl
 i53:=by kernel_rfl
 i171:=by kernel_rfl
 i173:=by kernel_rfl
 i212:=by kernel_rfl
 i232:=by kernel_rfl
 i233:=by kernel_rfl
 m17:=by kernel_rfl
 m18:=by kernel_rfl
 m19:=by kernel_rfl }
open Go.RowKit Go.Sort Go.Lib in
theorem Tryz.strconv_Itoa (n : Int) (h0 : -9223372036854775808 ≤ n) (h1 : n ≤ 9223372036854775807) (w : World) (htab : Lib.TabIs Tryz.prog w "internal/strconv.uint64pow10" .u64 Lib.pow10Tab) :
 Calls Tryz.prog 164 #[.int .i64 n] w fun e w' => e = .returned (.string ⟨(Lib.itoa n).toArray⟩) ∧ ∃k os, w' = grow (w.drewN k) os:=Any.strconv_Itoa Tryz.laysM171 n h0 h1 w htab
def Tryz.lays190_ren : Go.Shelf.Ren := ⟨fun|190 => 75|125 => 96|258 => 137|128 => 157|129 => 158|302 => 200|303 => 201|304 => 202|305 => 203|306 => 204|307 => 205|308 => 206|309 => 207|310 => 208|333 => 252|329 => 223|330 => 224|334 => 253|335 => 254|336 => 255|344 => 276|n => n, fun|31 => 22|9 => 9|3 => 3|46 => 139|0 => 0|51 => 166|53 => 201|4 => 4|183 => 194|182 => 193|131 => 146|5 => 5|218 => 263|222 => 267|228 => 301|229 => 302|n => n, fun|n => n⟩
theorem Tryz.lays190 : Go.Proofs.Lays.n190 Tryz.prog Tryz.lays190_ren := {
 mixed:=by kernel_rfl
 f125:=Xk Tryz.func96 (by kernel_rfl)
 f128:=Xk Tryz.func157 (by kernel_rfl)
 f129:=Xk Tryz.func158 (by kernel_rfl)
 f190:=Xk Tryz.func75 (by kernel_rfl)
 f258:=Xk Tryz.func137 (by kernel_rfl)
 f302:=Xk Tryz.func200 (by kernel_rfl)
 f303:=Xk Tryz.func201 (by kernel_rfl)
 f304:=Xk Tryz.func202 (by kernel_rfl)
 f305:=Xk Tryz.func203 (by kernel_rfl)
 f306:=Xk Tryz.func204 (by kernel_rfl)
 f307:=Xk Tryz.func205 (by kernel_rfl)
 f308:=Xk Tryz.func206 (by kernel_rfl)
 f309:=Xk Tryz.func207 (by kernel_rfl)
 f310:=Xk Tryz.func208 (by kernel_rfl)
 f329:=Xk Tryz.func223 (by kernel_rfl)
 f330:=Xk Tryz.func224 (by kernel_rfl)
 f333:=Xk Tryz.func252 (by kernel_rfl)
 f334:=Xk Tryz.func253 (by kernel_rfl)
 f335:=Xk Tryz.func254 (by kernel_rfl)
 f336:=Xk Tryz.func255 (by kernel_rfl)
 f344:=Xk Tryz.func276 (by kernel_rfl)
 t0:=Tryz.underlying0
 a0:=Tryz.isAgg0
 z0:=Tryz.sizeOf0
 v0:=Tryz.zeroValue0
 t3:=Tryz.underlying3
 a3:=Tryz.isAgg3
 z3:=Tryz.sizeOf3
 v3:=Tryz.zeroValue3
 t4:=Tryz.underlying4
 a4:=Tryz.isAgg4
 z4:=Tryz.sizeOf4
 v4:=Tryz.zeroValue4
 t5:=Tryz.underlying5
 a5:=Tryz.isAgg5
 z5:=Tryz.sizeOf5
 v5:=Tryz.zeroValue5
 t9:=Tryz.underlying9
 a9:=Tryz.isAgg9
 z9:=Tryz.sizeOf9
 v9:=Tryz.zeroValue9
 t31:=Tryz.underlying22
 a31:=Tryz.isAgg22
 z31:=Tryz.sizeOf22
 v31:=Tryz.zeroValue22
 t46:=Tryz.underlying139
 a46:=Tryz.isAgg139
 z46:=Tryz.sizeOf139
 v46:=Tryz.zeroValue139
 t51:=Tryz.underlying166
 a51:=Tryz.isAgg166
 z51:=Tryz.sizeOf166
 v51:=Tryz.zeroValue166
 t53:=Tryz.underlying201
 a53:=Tryz.isAgg201
 z53:=Tryz.sizeOf201
 v53:=Tryz.zeroValue201
 t131:=Tryz.underlying146
 a131:=Tryz.isAgg146
 z131:=Tryz.sizeOf146
 v131:=Tryz.zeroValue146
 t182:=Tryz.underlying193
 a182:=Tryz.isAgg193
 z182:=Tryz.sizeOf193
 v182:=Tryz.zeroValue193
 t183:=Tryz.underlying194
 a183:=Tryz.isAgg194
 z183:=Tryz.sizeOf194
 v183:=Tryz.zeroValue194
 t218:=Tryz.underlying263
 a218:=Tryz.isAgg263
 z218:=Tryz.sizeOf263
 v218:=Tryz.zeroValue263
 t222:=Tryz.underlying267
 a222:=Tryz.isAgg267
 z222:=Tryz.sizeOf267
 v222:=Tryz.zeroValue267
 t228:=Tryz.underlying301
 a228:=Tryz.isAgg301
 z228:=Tryz.sizeOf301
 v228:=Tryz.zeroValue301
 t229:=Tryz.underlying302
 a229:=Tryz.isAgg302
 z229:=Tryz.sizeOf302
 v229:=Tryz.zeroValue302 }
open Go.Sort Go.RowKit in
theorem Tryz.slices_Sort_string (blk off cap : Nat) (ss : List (List UInt8)) (w : World) (hH : Holds encStr w blk off ss.toArray) (hblk : blk < w.heap.size) (hsz : ss.length < 4611686018427387904) :
 Calls Tryz.prog 75 #[.slice (some ⟨blk, off, none⟩) ss.length cap] w fun e w' =>
 e = .returned (.tuple #[]) ∧ ∃n os, w' = grow (putRow encStr (Sort.ahead w n) blk off (ss.mergeSort fun x y => decide (x ≤ y)).toArray) os:=Any.slices_Sort_string Tryz.lays190 blk off cap ss w hH hblk hsz
def Tryz.lays212_ren : Go.Shelf.Ren := ⟨fun|212 => 251|263 => 274|264 => 275|n => n, fun|46 => 139|51 => 166|146 => 311|53 => 201|148 => 313|n => n, fun|n => n⟩
theorem Tryz.lays212 : Go.Proofs.Lays.n212 Tryz.prog Tryz.lays212_ren := {
 mixed:=by kernel_rfl
 f212:=Xk Tryz.func251 (by kernel_rfl)
 f263:=Xk Tryz.func274 (by kernel_rfl)
 f264:=Xk Tryz.func275 (by kernel_rfl)
 t46:=Tryz.underlying139
 a46:=Tryz.isAgg139
 z46:=Tryz.sizeOf139
 v46:=Tryz.zeroValue139
 t51:=Tryz.underlying166
 a51:=Tryz.isAgg166
 z51:=Tryz.sizeOf166
 v51:=Tryz.zeroValue166
 t53:=Tryz.underlying201
 a53:=Tryz.isAgg201
 z53:=Tryz.sizeOf201
 v53:=Tryz.zeroValue201
 t146:=Tryz.underlying311
 a146:=Tryz.isAgg311
 z146:=Tryz.sizeOf311
 v146:=Tryz.zeroValue311
 t148:=Tryz.underlying313
 a148:=Tryz.isAgg313
 z148:=Tryz.sizeOf313
 v148:=Tryz.zeroValue313 }
open Go.RowKit Go.Lib in
theorem Tryz.bits_Mul (x y : Nat) (hx : x < 18446744073709551616) (hy : y < 18446744073709551616) (w : World) :
 Calls Tryz.prog 251 #[.int .u64 x, .int .u64 y] w fun e w' => e = .returned (.tuple #[.int .u64 ((x * y / 18446744073709551616 : Nat) : Int), .int .u64 ((x * y % 18446744073709551616 : Nat) : Int)]) ∧ w' = w:=Any.bits_Mul Tryz.lays212 x y hx hy w
def Tryz.lays107_ren : Go.Shelf.Ren := ⟨fun|107 => 136|108 => 199|n => n, fun|28 => 61|3 => 3|4 => 4|0 => 0|n => n, fun|n => n⟩
theorem Tryz.lays107 : Go.Proofs.Lays.n107 Tryz.prog Tryz.lays107_ren := {
 mixed:=by kernel_rfl
 f107:=Xk Tryz.func136 (by kernel_rfl)
 f108:=Xk Tryz.func199 (by kernel_rfl)
 t0:=Tryz.underlying0
 a0:=Tryz.isAgg0
 z0:=Tryz.sizeOf0
 v0:=Tryz.zeroValue0
 t3:=Tryz.underlying3
 a3:=Tryz.isAgg3
 z3:=Tryz.sizeOf3
 v3:=Tryz.zeroValue3
 t4:=Tryz.underlying4
 a4:=Tryz.isAgg4
 z4:=Tryz.sizeOf4
 v4:=Tryz.zeroValue4
 t28:=Tryz.underlying61
 a28:=Tryz.isAgg61
 z28:=Tryz.sizeOf61
 v28:=Tryz.zeroValue61 }
open Go.Lib in
theorem Tryz.slices_Contains_int (b off n c : Nat) (zs : List Int) (x : Int) (w : World) (hz : n ≤ zs.length) (hbig : n ≤ 9223372036854775807) (hc : ∀j, j < zs.length → w.cell? ⟨b, off + j, none⟩ = some (.int .i64 (zs.getD j 0))) :
 Calls Tryz.prog 136 #[.slice (some ⟨b, off, none⟩) n c, .int .i64 x] w fun e w' => e = .returned (.bool ((zs.take n).contains x)) ∧ w' = w:=Any.slices_Contains_int Tryz.lays107 b off n c zs x w hz hbig hc
open Go.Lib in
theorem Tryz.slices_Contains_int_empty (a : Option Addr) (c : Nat) (x : Int) (w : World) :
 Calls Tryz.prog 136 #[.slice a 0 c, .int .i64 x] w fun e w' => e = .returned (.bool false) ∧ w' = w:=Any.slices_Contains_int_empty Tryz.lays107 a c x w
def Tryz.lays109_ren : Go.Shelf.Ren := ⟨fun|109 => 138|n => n, fun|31 => 22|9 => 9|3 => 3|0 => 0|4 => 4|n => n, fun|n => n⟩
theorem Tryz.lays109 : Go.Proofs.Lays.n109 Tryz.prog Tryz.lays109_ren := {
 mixed:=by kernel_rfl
 f109:=Xk Tryz.func138 (by kernel_rfl)
 t0:=Tryz.underlying0
 a0:=Tryz.isAgg0
 z0:=Tryz.sizeOf0
 v0:=Tryz.zeroValue0
 t3:=Tryz.underlying3
 a3:=Tryz.isAgg3
 z3:=Tryz.sizeOf3
 v3:=Tryz.zeroValue3
 t4:=Tryz.underlying4
 a4:=Tryz.isAgg4
 z4:=Tryz.sizeOf4
 v4:=Tryz.zeroValue4
 t9:=Tryz.underlying9
 a9:=Tryz.isAgg9
 z9:=Tryz.sizeOf9
 v9:=Tryz.zeroValue9
 t31:=Tryz.underlying22
 a31:=Tryz.isAgg22
 z31:=Tryz.sizeOf22
 v31:=Tryz.zeroValue22 }
open Go.Lib in
theorem Tryz.slices_Index_string (b off n c : Nat) (zs : List ByteArray) (x : ByteArray) (w : World) (hz : n ≤ zs.length) (hbig : n ≤ 9223372036854775807) (hc : ∀j, j < zs.length → w.cell? ⟨b, off + j, none⟩ = some (.string (zs.getD j ByteArray.empty))) :
 Calls Tryz.prog 138 #[.slice (some ⟨b, off, none⟩) n c, .string x] w fun e w' => e = .returned (.int .i64 (Lib.idxOfS (zs.take n) x)) ∧ w' = w:=Any.slices_Index_string Tryz.lays109 b off n c zs x w hz hbig hc
open Go.Lib in
def Tryz.laysNm216_ren : Go.Shelf.Ren := ⟨fun|16 => 74|n => n, fun|24 => 22|9 => 9|4 => 4|n => n, fun|n => n⟩
theorem Tryz.laysNm216 : Go.Proofs.Lays2.n16 Tryz.prog Tryz.laysNm216_ren := {
 mixed:=by kernel_rfl
 f16:=Xk Tryz.func74 (by kernel_rfl)
 t4:=Tryz.underlying4
 a4:=Tryz.isAgg4
 z4:=Tryz.sizeOf4
 v4:=Tryz.zeroValue4
 t9:=Tryz.underlying9
 a9:=Tryz.isAgg9
 z9:=Tryz.sizeOf9
 v9:=Tryz.zeroValue9
 t24:=Tryz.underlying22
 a24:=Tryz.isAgg22
 z24:=Tryz.sizeOf22
 v24:=Tryz.zeroValue22
 i9:=by kernel_rfl }
open Go.RowKit Go.Lib in
theorem Tryz.slices_Clone_string (b off n c : Nat) (zs : List ByteArray) (w : World) (hz : n ≤ zs.length) (hbig : n * 16 ≤ 140737488355328) (hc : ∀j, j < zs.length → w.cell? ⟨b, off + j, none⟩ = some (.string (zs.getD j ByteArray.empty))) :
 Calls Tryz.prog 74 #[.slice (some ⟨b, off, none⟩) n c] w fun e w' => ∃v', e = .returned v' ∧ w'.ownsRow w.heap.size 9 1 v' n ((zs.take n).map (Value.string)) ∧ v' ≠ .slice none 0 0 ∧ Below w.heap.size w w':=Any.slices_Clone_string Tryz.laysNm216 b off n c zs w hz hbig hc
open Go.RowKit Go.Lib in
theorem Tryz.slices_Clone_string_nil (n c : Nat) (w : World) :
 Calls Tryz.prog 74 #[.slice none n c] w fun e w' => e = .returned (.slice none 0 0) ∧ w' = w:=Any.slices_Clone_string_nil Tryz.laysNm216 n c w
open Go.RowKit Go.Lib in
theorem Tryz.slices_Clone_string_zero (a : Addr) (c : Nat) (w : World) :
 Calls Tryz.prog 74 #[.slice (some a) 0 c] w fun e w' => ∃v', e = .returned v' ∧ w'.ownsRow w.heap.size 9 1 v' 0 [] ∧ v' ≠ .slice none 0 0 ∧ Below w.heap.size w w':=Any.slices_Clone_string_zero Tryz.laysNm216 a c w
def Tryz.lays194_ren : Go.Shelf.Ren := ⟨fun|194 => 259|n => n, fun|31 => 22|9 => 9|3 => 3|4 => 4|0 => 0|n => n, fun|n => n⟩
theorem Tryz.lays194 : Go.Proofs.Lays.n194 Tryz.prog Tryz.lays194_ren := {
 mixed:=by kernel_rfl
 f194:=Xk Tryz.func259 (by kernel_rfl)
 t0:=Tryz.underlying0
 a0:=Tryz.isAgg0
 z0:=Tryz.sizeOf0
 v0:=Tryz.zeroValue0
 t3:=Tryz.underlying3
 a3:=Tryz.isAgg3
 z3:=Tryz.sizeOf3
 v3:=Tryz.zeroValue3
 t4:=Tryz.underlying4
 a4:=Tryz.isAgg4
 z4:=Tryz.sizeOf4
 v4:=Tryz.zeroValue4
 t9:=Tryz.underlying9
 a9:=Tryz.isAgg9
 z9:=Tryz.sizeOf9
 v9:=Tryz.zeroValue9
 t31:=Tryz.underlying22
 a31:=Tryz.isAgg22
 z31:=Tryz.sizeOf22
 v31:=Tryz.zeroValue22 }
open Go.RowKit Go.Lib Go.Sort in
theorem Tryz.slices_Compact_string (blk off cap : Nat) (zs : List (List UInt8)) (w : World) (hH : Holds encStr w blk off zs.toArray) (hsz : zs.length ≤ 9223372036854775807) (hcap : zs.length ≤ cap) :
 Calls Tryz.prog 259 #[.slice (some ⟨blk, off, none⟩) zs.length cap] w fun e w' => e = .returned (.slice (some ⟨blk, off, none⟩) (Lib.compact zs).length cap) ∧ ∃q, w' = putRow encStr (Sort.ahead w q) blk off (Lib.compact zs ++ List.replicate (zs.length-(Lib.compact zs).length) []).toArray:=Any.slices_Compact_string Tryz.lays194 blk off cap zs w hH hsz hcap
open Go.RowKit Go.Lib Go.Sort in
theorem Tryz.slices_Compact_string_empty (a : Option Addr) (cap : Nat) (w : World) :
 Calls Tryz.prog 259 #[.slice a 0 cap] w fun e w' => e = .returned (.slice a 0 cap) ∧ w' = w:=Any.slices_Compact_string_empty Tryz.lays194 a cap w
open Go.RowKit Go.Sort in
theorem Tryz.slices_Sort_string_none (p : Option Addr) (cap : Nat) (w : World) :
 Calls Tryz.prog 75 #[.slice p 0 cap] w fun e w' => e = .returned (.tuple #[]) ∧ w' = w:=Any.slices_Sort_string_none Tryz.lays190 p cap w
open Go.Shelf
def Tryz.sortLay_ren : Go.Shelf.Ren := ⟨fun|6 => 41|15 => 96|14 => 95|28 => 157|29 => 158|20 => 149|21 => 150|22 => 151|23 => 152|24 => 153|25 => 154|26 => 155|27 => 156|46 => 222|47 => 223|48 => 224|49 => 225|50 => 226|57 => 261|n => n, fun|22 => 28|24 => 81|25 => 83|3 => 3|39 => 139|0 => 0|53 => 166|55 => 201|4 => 4|46 => 194|45 => 193|50 => 146|5 => 5|9 => 9|66 => 263|70 => 267|76 => 301|77 => 302|n => n, fun|n => n⟩
theorem Tryz.sortLay : Go.Proofs.SlLaysF0.n6 Tryz.prog Tryz.sortLay_ren := {
 mixed:=by kernel_rfl
 f6:=⟨Tryz.f41.name, by decide, Xk Tryz.func41 (by kernel_rfl)⟩
 f14:=⟨Tryz.f95.name, by decide, Xk Tryz.func95 (by kernel_rfl)⟩
 f15:=Xk Tryz.func96 (by kernel_rfl)
 f20:=⟨Tryz.f149.name, by decide, Xk Tryz.func149 (by kernel_rfl)⟩
 f21:=⟨Tryz.f150.name, by decide, Xk Tryz.func150 (by kernel_rfl)⟩
 f22:=⟨Tryz.f151.name, by decide, Xk Tryz.func151 (by kernel_rfl)⟩
 f23:=⟨Tryz.f152.name, by decide, Xk Tryz.func152 (by kernel_rfl)⟩
 f24:=⟨Tryz.f153.name, by decide, Xk Tryz.func153 (by kernel_rfl)⟩
 f25:=⟨Tryz.f154.name, by decide, Xk Tryz.func154 (by kernel_rfl)⟩
 f26:=⟨Tryz.f155.name, by decide, Xk Tryz.func155 (by kernel_rfl)⟩
 f27:=⟨Tryz.f156.name, by decide, Xk Tryz.func156 (by kernel_rfl)⟩
 f28:=Xk Tryz.func157 (by kernel_rfl)
 f29:=Xk Tryz.func158 (by kernel_rfl)
 f46:=⟨Tryz.f222.name, by decide, Xk Tryz.func222 (by kernel_rfl)⟩
 f47:=Xk Tryz.func223 (by kernel_rfl)
 f48:=Xk Tryz.func224 (by kernel_rfl)
 f49:=⟨Tryz.f225.name, by decide, Xk Tryz.func225 (by kernel_rfl)⟩
 f50:=⟨Tryz.f226.name, by decide, Xk Tryz.func226 (by kernel_rfl)⟩
 f57:=⟨Tryz.f261.name, by decide, Xk Tryz.func261 (by kernel_rfl)⟩
 t0:=Tryz.underlying0
 a0:=Tryz.isAgg0
 z0:=Tryz.sizeOf0
 v0:=Tryz.zeroValue0
 t3:=Tryz.underlying3
 a3:=Tryz.isAgg3
 z3:=Tryz.sizeOf3
 v3:=Tryz.zeroValue3
 t4:=Tryz.underlying4
 a4:=Tryz.isAgg4
 z4:=Tryz.sizeOf4
 v4:=Tryz.zeroValue4
 t5:=Tryz.underlying5
 a5:=Tryz.isAgg5
 z5:=Tryz.sizeOf5
 v5:=Tryz.zeroValue5
 t9:=Tryz.underlying9
 a9:=Tryz.isAgg9
 z9:=Tryz.sizeOf9
 v9:=Tryz.zeroValue9
 t22:=Tryz.underlying28
 a22:=Tryz.isAgg28
 z22:=Tryz.sizeOf28
 v22:=Tryz.zeroValue28
 t25:=Tryz.underlying83
 a25:=Tryz.isAgg83
 z25:=Tryz.sizeOf83
 v25:=Tryz.zeroValue83
 t39:=Tryz.underlying139
 a39:=Tryz.isAgg139
 z39:=Tryz.sizeOf139
 v39:=Tryz.zeroValue139
 t45:=Tryz.underlying193
 a45:=Tryz.isAgg193
 z45:=Tryz.sizeOf193
 v45:=Tryz.zeroValue193
 t46:=Tryz.underlying194
 a46:=Tryz.isAgg194
 z46:=Tryz.sizeOf194
 v46:=Tryz.zeroValue194
 t50:=Tryz.underlying146
 a50:=Tryz.isAgg146
 z50:=Tryz.sizeOf146
 v50:=Tryz.zeroValue146
 t53:=Tryz.underlying166
 a53:=Tryz.isAgg166
 z53:=Tryz.sizeOf166
 v53:=Tryz.zeroValue166
 t55:=Tryz.underlying201
 a55:=Tryz.isAgg201
 z55:=Tryz.sizeOf201
 v55:=Tryz.zeroValue201
 t66:=Tryz.underlying263
 a66:=Tryz.isAgg263
 z66:=Tryz.sizeOf263
 v66:=Tryz.zeroValue263
 t70:=Tryz.underlying267
 a70:=Tryz.isAgg267
 z70:=Tryz.sizeOf267
 v70:=Tryz.zeroValue267
 t76:=Tryz.underlying301
 a76:=Tryz.isAgg301
 z76:=Tryz.sizeOf301
 v76:=Tryz.zeroValue301
 t77:=Tryz.underlying302
 a77:=Tryz.isAgg302
 z77:=Tryz.sizeOf302
 v77:=Tryz.zeroValue302 }
open Go.Shelf
def Tryz.sortLayR_ren : Go.Shelf.Ren := ⟨fun|6 => 79|15 => 96|14 => 139|28 => 157|29 => 158|20 => 209|21 => 210|22 => 211|23 => 212|24 => 213|25 => 214|26 => 215|27 => 216|46 => 256|47 => 223|48 => 224|49 => 257|50 => 258|57 => 277|n => n, fun|22 => 23|24 => 63|25 => 127|3 => 3|39 => 139|0 => 0|53 => 166|55 => 201|4 => 4|46 => 194|45 => 193|50 => 146|5 => 5|9 => 9|66 => 263|70 => 267|76 => 301|77 => 302|n => n, fun|n => n⟩
theorem Tryz.sortLayR : Go.Proofs.SlLaysF0.n6 Tryz.prog Tryz.sortLayR_ren := {
 mixed:=by kernel_rfl
 f6:=⟨Tryz.f79.name, by decide, Xk Tryz.func79 (by kernel_rfl)⟩
 f14:=⟨Tryz.f139.name, by decide, Xk Tryz.func139 (by kernel_rfl)⟩
 f15:=Xk Tryz.func96 (by kernel_rfl)
 f20:=⟨Tryz.f209.name, by decide, Xk Tryz.func209 (by kernel_rfl)⟩
 f21:=⟨Tryz.f210.name, by decide, Xk Tryz.func210 (by kernel_rfl)⟩
 f22:=⟨Tryz.f211.name, by decide, Xk Tryz.func211 (by kernel_rfl)⟩
 f23:=⟨Tryz.f212.name, by decide, Xk Tryz.func212 (by kernel_rfl)⟩
 f24:=⟨Tryz.f213.name, by decide, Xk Tryz.func213 (by kernel_rfl)⟩
 f25:=⟨Tryz.f214.name, by decide, Xk Tryz.func214 (by kernel_rfl)⟩
 f26:=⟨Tryz.f215.name, by decide, Xk Tryz.func215 (by kernel_rfl)⟩
 f27:=⟨Tryz.f216.name, by decide, Xk Tryz.func216 (by kernel_rfl)⟩
 f28:=Xk Tryz.func157 (by kernel_rfl)
 f29:=Xk Tryz.func158 (by kernel_rfl)
 f46:=⟨Tryz.f256.name, by decide, Xk Tryz.func256 (by kernel_rfl)⟩
 f47:=Xk Tryz.func223 (by kernel_rfl)
 f48:=Xk Tryz.func224 (by kernel_rfl)
 f49:=⟨Tryz.f257.name, by decide, Xk Tryz.func257 (by kernel_rfl)⟩
 f50:=⟨Tryz.f258.name, by decide, Xk Tryz.func258 (by kernel_rfl)⟩
 f57:=⟨Tryz.f277.name, by decide, Xk Tryz.func277 (by kernel_rfl)⟩
 t0:=Tryz.underlying0
 a0:=Tryz.isAgg0
 z0:=Tryz.sizeOf0
 v0:=Tryz.zeroValue0
 t3:=Tryz.underlying3
 a3:=Tryz.isAgg3
 z3:=Tryz.sizeOf3
 v3:=Tryz.zeroValue3
 t4:=Tryz.underlying4
 a4:=Tryz.isAgg4
 z4:=Tryz.sizeOf4
 v4:=Tryz.zeroValue4
 t5:=Tryz.underlying5
 a5:=Tryz.isAgg5
 z5:=Tryz.sizeOf5
 v5:=Tryz.zeroValue5
 t9:=Tryz.underlying9
 a9:=Tryz.isAgg9
 z9:=Tryz.sizeOf9
 v9:=Tryz.zeroValue9
 t22:=Tryz.underlying23
 a22:=Tryz.isAgg23
 z22:=Tryz.sizeOf23
 v22:=Tryz.zeroValue23
 t25:=Tryz.underlying127
 a25:=Tryz.isAgg127
 z25:=Tryz.sizeOf127
 v25:=Tryz.zeroValue127
 t39:=Tryz.underlying139
 a39:=Tryz.isAgg139
 z39:=Tryz.sizeOf139
 v39:=Tryz.zeroValue139
 t45:=Tryz.underlying193
 a45:=Tryz.isAgg193
 z45:=Tryz.sizeOf193
 v45:=Tryz.zeroValue193
 t46:=Tryz.underlying194
 a46:=Tryz.isAgg194
 z46:=Tryz.sizeOf194
 v46:=Tryz.zeroValue194
 t50:=Tryz.underlying146
 a50:=Tryz.isAgg146
 z50:=Tryz.sizeOf146
 v50:=Tryz.zeroValue146
 t53:=Tryz.underlying166
 a53:=Tryz.isAgg166
 z53:=Tryz.sizeOf166
 v53:=Tryz.zeroValue166
 t55:=Tryz.underlying201
 a55:=Tryz.isAgg201
 z55:=Tryz.sizeOf201
 v55:=Tryz.zeroValue201
 t66:=Tryz.underlying263
 a66:=Tryz.isAgg263
 z66:=Tryz.sizeOf263
 v66:=Tryz.zeroValue263
 t70:=Tryz.underlying267
 a70:=Tryz.isAgg267
 z70:=Tryz.sizeOf267
 v70:=Tryz.zeroValue267
 t76:=Tryz.underlying301
 a76:=Tryz.isAgg301
 z76:=Tryz.sizeOf301
 v76:=Tryz.zeroValue301
 t77:=Tryz.underlying302
 a77:=Tryz.isAgg302
 z77:=Tryz.sizeOf302
 v77:=Tryz.zeroValue302 }
open Go.Shelf
def Tryz.sortLayS_ren : Go.Shelf.Ren := ⟨fun|6 => 102|15 => 96|14 => 167|28 => 157|29 => 158|20 => 229|21 => 230|22 => 231|23 => 232|24 => 233|25 => 234|26 => 235|27 => 236|46 => 263|47 => 223|48 => 224|49 => 264|50 => 265|57 => 282|n => n, fun|22 => 22|24 => 9|25 => 140|3 => 3|39 => 139|0 => 0|53 => 166|55 => 201|4 => 4|46 => 194|45 => 193|50 => 146|5 => 5|9 => 9|66 => 263|70 => 267|76 => 301|77 => 302|n => n, fun|n => n⟩
theorem Tryz.sortLayS : Go.Proofs.SlLaysF.n6 Tryz.prog Tryz.sortLayS_ren := {
 mixed:=by kernel_rfl
 f6:=⟨Tryz.f102.name, by decide, Xk Tryz.func102 (by kernel_rfl)⟩
 f14:=⟨Tryz.f167.name, by decide, Xk Tryz.func167 (by kernel_rfl)⟩
 f15:=Xk Tryz.func96 (by kernel_rfl)
 f20:=⟨Tryz.f229.name, by decide, Xk Tryz.func229 (by kernel_rfl)⟩
 f21:=⟨Tryz.f230.name, by decide, Xk Tryz.func230 (by kernel_rfl)⟩
 f22:=⟨Tryz.f231.name, by decide, Xk Tryz.func231 (by kernel_rfl)⟩
 f23:=⟨Tryz.f232.name, by decide, Xk Tryz.func232 (by kernel_rfl)⟩
 f24:=⟨Tryz.f233.name, by decide, Xk Tryz.func233 (by kernel_rfl)⟩
 f25:=⟨Tryz.f234.name, by decide, Xk Tryz.func234 (by kernel_rfl)⟩
 f26:=⟨Tryz.f235.name, by decide, Xk Tryz.func235 (by kernel_rfl)⟩
 f27:=⟨Tryz.f236.name, by decide, Xk Tryz.func236 (by kernel_rfl)⟩
 f28:=Xk Tryz.func157 (by kernel_rfl)
 f29:=Xk Tryz.func158 (by kernel_rfl)
 f46:=⟨Tryz.f263.name, by decide, Xk Tryz.func263 (by kernel_rfl)⟩
 f47:=Xk Tryz.func223 (by kernel_rfl)
 f48:=Xk Tryz.func224 (by kernel_rfl)
 f49:=⟨Tryz.f264.name, by decide, Xk Tryz.func264 (by kernel_rfl)⟩
 f50:=⟨Tryz.f265.name, by decide, Xk Tryz.func265 (by kernel_rfl)⟩
 f57:=⟨Tryz.f282.name, by decide, Xk Tryz.func282 (by kernel_rfl)⟩
 t0:=Tryz.underlying0
 a0:=Tryz.isAgg0
 z0:=Tryz.sizeOf0
 v0:=Tryz.zeroValue0
 t3:=Tryz.underlying3
 a3:=Tryz.isAgg3
 z3:=Tryz.sizeOf3
 v3:=Tryz.zeroValue3
 t4:=Tryz.underlying4
 a4:=Tryz.isAgg4
 z4:=Tryz.sizeOf4
 v4:=Tryz.zeroValue4
 t5:=Tryz.underlying5
 a5:=Tryz.isAgg5
 z5:=Tryz.sizeOf5
 v5:=Tryz.zeroValue5
 t9:=Tryz.underlying9
 a9:=Tryz.isAgg9
 z9:=Tryz.sizeOf9
 v9:=Tryz.zeroValue9
 t22:=Tryz.underlying22
 a22:=Tryz.isAgg22
 z22:=Tryz.sizeOf22
 v22:=Tryz.zeroValue22
 a24:=Tryz.isAgg9
 z24:=Tryz.sizeOf9
 t25:=Tryz.underlying140
 a25:=Tryz.isAgg140
 z25:=Tryz.sizeOf140
 v25:=Tryz.zeroValue140
 t39:=Tryz.underlying139
 a39:=Tryz.isAgg139
 z39:=Tryz.sizeOf139
 v39:=Tryz.zeroValue139
 t45:=Tryz.underlying193
 a45:=Tryz.isAgg193
 z45:=Tryz.sizeOf193
 v45:=Tryz.zeroValue193
 t46:=Tryz.underlying194
 a46:=Tryz.isAgg194
 z46:=Tryz.sizeOf194
 v46:=Tryz.zeroValue194
 t50:=Tryz.underlying146
 a50:=Tryz.isAgg146
 z50:=Tryz.sizeOf146
 v50:=Tryz.zeroValue146
 t53:=Tryz.underlying166
 a53:=Tryz.isAgg166
 z53:=Tryz.sizeOf166
 v53:=Tryz.zeroValue166
 t55:=Tryz.underlying201
 a55:=Tryz.isAgg201
 z55:=Tryz.sizeOf201
 v55:=Tryz.zeroValue201
 t66:=Tryz.underlying263
 a66:=Tryz.isAgg263
 z66:=Tryz.sizeOf263
 v66:=Tryz.zeroValue263
 t70:=Tryz.underlying267
 a70:=Tryz.isAgg267
 z70:=Tryz.sizeOf267
 v70:=Tryz.zeroValue267
 t76:=Tryz.underlying301
 a76:=Tryz.isAgg301
 z76:=Tryz.sizeOf301
 v76:=Tryz.zeroValue301
 t77:=Tryz.underlying302
 a77:=Tryz.isAgg302
 z77:=Tryz.sizeOf302
 v77:=Tryz.zeroValue302 }
open Go.Shelf
def Tryz.growLay_ren : Go.Shelf.Ren := ⟨fun|4 => 260|n => n, fun|22 => 22|25 => 9|3 => 3|4 => 4|9 => 9|20 => 20|0 => 0|n => n, fun|n => n⟩
theorem Tryz.growLay : Go.Proofs.Lays8.n4 Tryz.prog Tryz.growLay_ren := {
 mixed:=by kernel_rfl
 f4:=⟨Tryz.f260.name, by decide, Xk Tryz.func260 (by kernel_rfl)⟩
 t0:=Tryz.underlying0
 a0:=Tryz.isAgg0
 z0:=Tryz.sizeOf0
 v0:=Tryz.zeroValue0
 t3:=Tryz.underlying3
 a3:=Tryz.isAgg3
 z3:=Tryz.sizeOf3
 v3:=Tryz.zeroValue3
 t4:=Tryz.underlying4
 a4:=Tryz.isAgg4
 z4:=Tryz.sizeOf4
 v4:=Tryz.zeroValue4
 t9:=Tryz.underlying9
 a9:=Tryz.isAgg9
 z9:=Tryz.sizeOf9
 v9:=Tryz.zeroValue9
 t20:=Tryz.underlying20
 a20:=Tryz.isAgg20
 z20:=Tryz.sizeOf20
 v20:=Tryz.zeroValue20
 t22:=Tryz.underlying22
 a22:=Tryz.isAgg22
 z22:=Tryz.sizeOf22
 v22:=Tryz.zeroValue22 }
end Go.Proofs
