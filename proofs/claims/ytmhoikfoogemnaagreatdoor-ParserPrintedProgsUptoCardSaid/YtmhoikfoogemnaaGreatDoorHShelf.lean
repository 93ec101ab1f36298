import Derived.Shelf.Strconv.Itoa0
import Derived.Shelf.Strconv.Itoa1
import Derived.Shelf.LaysM
import Derived.Shelf.Strconv.Itoa2
import Derived.Shelf.Strconv.Itoa3
import Derived.Shelf.Strconv.ParseIntEmpty
import Derived.Shelf.Strconv.Clone
import Derived.Shelf.Strconv.SyntaxError
import Derived.Shelf.LaysC
import Derived.Shelf.Strconv.ToError
import Derived.Shelf.Strconv.Lower
import Derived.Shelf.Strconv.ParseUint10
import Derived.Shelf.Strconv.ParseUint10Empty
import Derived.Shelf.Strconv.ParseUint10Any
import Derived.Shelf.Strconv.ParseInt10
import Derived.Shelf.Strconv.RangeError
import Derived.Shelf.Strconv.ToErrorRange
import Derived.Shelf.Strconv.ParseUintEmpty
import Derived.Shelf.Strconv.ParseUint10b64
import Derived.Shelf.Strconv.ParseUint10b32
import Derived.Shelf.Strconv.ParseUint10b16
import Derived.Shelf.Strconv.ParseUint10b8
import Derived.Shelf.Strconv.ParseUint10At
import Derived.Shelf.Strconv.ParseInt10At64
import Derived.Shelf.Strconv.ParseInt10At32
import Derived.Shelf.Strconv.ParseInt10At16
import Derived.Shelf.Strconv.ParseInt10At8
import Derived.Shelf.Strconv.ParseInt10All
import Derived.Shelf.Strconv.ParseIntPublic10
import Derived.Shelf.Strings.Search1
import Derived.Shelf.Strings.Search2
import Derived.Shelf.Strings.Cut
import Derived.Shelf.Strings.Shaped
import Derived.Shelf.Strings.Fields
import Derived.Shelf.Unicode.Latin
import Derived.Shelf.Unicode.Is16White
import Derived.Shelf.Unicode.IsSpaceAny
import Derived.Shelf.Unicode.Is16Any
import Derived.Shelf.Unicode.Is32Any
import Derived.Shelf.Unicode.ExclAny
import Derived.Test.YtmhoikfoogemnaaGreatDoorProg
namespace Go.Proofs
open Go.Shelf
def Tryz.laysC245_ren:Go.Shelf.Ren:=⟨fun | 245=>274 | 279=>280 | 280=>281 | 281=>282 | 282=>283 | 316=>288 | 171=>290 | 205=>289 | 243=>291 | 246=>292 | 283=>293 | 284=>294 | 285=>295 | 286=>296 | 129=>298 | 317=>297 | 318=>299 | 319=>300 | 320=>301 | 337=>302 | 338=>303 | n=>n,fun | 9=>9 | 3=>3 | 75=>266 | 167=>273 | 4=>4 | 168=>276 | 210=>284 | 37=>219 | 0=>0 | 127=>286 | 145=>289 | 143=>287 | 2=>2 | 171=>291 | 53=>187 | 5=>5 | 173=>294 | 212=>297 | 51=>246 | 20=>20 | 213=>298 | 46=>233 | 232=>301 | 233=>302 | 80=>170 | n=>n,fun | 15=>3 | 16=>4 | 17=>5 | 18=>6 | 19=>7 | n=>n⟩
def Tryz.laysC174_ren:Go.Shelf.Ren:=⟨fun | 174=>270 | 247=>273 | 245=>274 | 287=>279 | 279=>280 | 280=>281 | 281=>282 | 282=>283 | 321=>286 | 322=>287 | 316=>288 | 171=>290 | 205=>289 | 243=>291 | 246=>292 | 283=>293 | 284=>294 | 285=>295 | 286=>296 | 129=>298 | 317=>297 | 318=>299 | 319=>300 | 320=>301 | 337=>302 | 338=>303 | n=>n,fun | 9=>9 | 3=>3 | 2=>2 | 75=>266 | 85=>267 | 4=>4 | 167=>273 | 5=>5 | 53=>187 | 175=>274 | 46=>233 | 168=>276 | 37=>219 | 0=>0 | 210=>284 | 21=>21 | 127=>286 | 145=>289 | 143=>287 | 171=>291 | 173=>294 | 212=>297 | 51=>246 | 20=>20 | 213=>298 | 232=>301 | 233=>302 | 80=>170 | n=>n,fun | 15=>3 | 16=>4 | 17=>5 | 18=>6 | 19=>7 | n=>n⟩
theorem Tryz.laysC174:Go.Proofs.LaysC.n174 Tryz.prog Tryz.laysC174_ren:= {
 mixed:=by kernel_rfl
 f129:=Tryz.func298.trans (congrArg some (by kernel_rfl))
 f171:=Tryz.func290.trans (congrArg some (by kernel_rfl))
 f174:=Tryz.func270.trans (congrArg some (by kernel_rfl))
 f205:=Tryz.func289.trans (congrArg some (by kernel_rfl))
 f243:=Tryz.func291.trans (congrArg some (by kernel_rfl))
 f245:=Tryz.func274.trans (congrArg some (by kernel_rfl))
 f246:=Tryz.func292.trans (congrArg some (by kernel_rfl))
 f247:=Tryz.func273.trans (congrArg some (by kernel_rfl))
 f279:=Tryz.func280.trans (congrArg some (by kernel_rfl))
 f280:=Tryz.func281.trans (congrArg some (by kernel_rfl))
 f281:=Tryz.func282.trans (congrArg some (by kernel_rfl))
 f282:=Tryz.func283.trans (congrArg some (by kernel_rfl))
 f283:=Tryz.func293.trans (congrArg some (by kernel_rfl))
 f284:=Tryz.func294.trans (congrArg some (by kernel_rfl))
 f285:=Tryz.func295.trans (congrArg some (by kernel_rfl))
 f286:=Tryz.func296.trans (congrArg some (by kernel_rfl))
 f287:=Tryz.func279.trans (congrArg some (by kernel_rfl))
 f316:=Tryz.func288.trans (congrArg some (by kernel_rfl))
 f317:=Tryz.func297.trans (congrArg some (by kernel_rfl))
 f318:=Tryz.func299.trans (congrArg some (by kernel_rfl))
 f319:=Tryz.func300.trans (congrArg some (by kernel_rfl))
 f320:=Tryz.func301.trans (congrArg some (by kernel_rfl))
 f321:=Tryz.func286.trans (congrArg some (by kernel_rfl))
 f322:=Tryz.func287.trans (congrArg some (by kernel_rfl))
 f337:=Tryz.func302.trans (congrArg some (by kernel_rfl))
 f338:=Tryz.func303.trans (congrArg some (by kernel_rfl))
 t0:=Tryz.underlying0
 a0:=Tryz.isAgg0
 z0:=Tryz.sizeOf0
 v0:=Tryz.zeroValue0
 t2:=Tryz.underlying2
 a2:=Tryz.isAgg2
 z2:=Tryz.sizeOf2
 v2:=Tryz.zeroValue2
 t3:=Tryz.underlying3
 a3:=Tryz.isAgg3
 z3:=Tryz.sizeOf3
 v3:=Tryz.zeroValue3
 t4:=Tryz.underlying4
 a4:=Tryz.isAgg4
 z4:=Tryz.sizeOf4
 v4:=Tryz.zeroValue4
 t5:=Tryz.underlying5
 a5:=Tryz.isAgg5
 z5:=Tryz.sizeOf5
 v5:=Tryz.zeroValue5
 t9:=Tryz.underlying9
 a9:=Tryz.isAgg9
 z9:=Tryz.sizeOf9
 v9:=Tryz.zeroValue9
 t20:=Tryz.underlying20
 a20:=Tryz.isAgg20
 z20:=Tryz.sizeOf20
 v20:=Tryz.zeroValue20
 t21:=Tryz.underlying21
 a21:=Tryz.isAgg21
 z21:=Tryz.sizeOf21
 v21:=Tryz.zeroValue21
 t37:=Tryz.underlying219
 a37:=Tryz.isAgg219
 z37:=Tryz.sizeOf219
 v37:=Tryz.zeroValue219
 t46:=Tryz.underlying233
 a46:=Tryz.isAgg233
 z46:=Tryz.sizeOf233
 v46:=Tryz.zeroValue233
 t51:=Tryz.underlying246
 a51:=Tryz.isAgg246
 z51:=Tryz.sizeOf246
 v51:=Tryz.zeroValue246
 t53:=Tryz.underlying187
 a53:=Tryz.isAgg187
 z53:=Tryz.sizeOf187
 v53:=Tryz.zeroValue187
 t75:=Tryz.underlying266
 a75:=Tryz.isAgg266
 z75:=Tryz.sizeOf266
 v75:=Tryz.zeroValue266
 t85:=Tryz.underlying267
 a85:=Tryz.isAgg267
 z85:=Tryz.sizeOf267
 v85:=Tryz.zeroValue267
 t127:=Tryz.underlying286
 a127:=Tryz.isAgg286
 z127:=Tryz.sizeOf286
 v127:=Tryz.zeroValue286
 t143:=Tryz.underlying287
 a143:=Tryz.isAgg287
 z143:=Tryz.sizeOf287
 v143:=Tryz.zeroValue287
 t145:=Tryz.underlying289
 a145:=Tryz.isAgg289
 z145:=Tryz.sizeOf289
 v145:=Tryz.zeroValue289
 t167:=Tryz.underlying273
 a167:=Tryz.isAgg273
 z167:=Tryz.sizeOf273
 v167:=Tryz.zeroValue273
 t168:=Tryz.underlying276
 a168:=Tryz.isAgg276
 z168:=Tryz.sizeOf276
 v168:=Tryz.zeroValue276
 t171:=Tryz.underlying291
 a171:=Tryz.isAgg291
 z171:=Tryz.sizeOf291
 v171:=Tryz.zeroValue291
 t173:=Tryz.underlying294
 a173:=Tryz.isAgg294
 z173:=Tryz.sizeOf294
 v173:=Tryz.zeroValue294
 t175:=Tryz.underlying274
 a175:=Tryz.isAgg274
 z175:=Tryz.sizeOf274
 v175:=Tryz.zeroValue274
 t210:=Tryz.underlying284
 a210:=Tryz.isAgg284
 z210:=Tryz.sizeOf284
 v210:=Tryz.zeroValue284
 t212:=Tryz.underlying297
 a212:=Tryz.isAgg297
 z212:=Tryz.sizeOf297
 v212:=Tryz.zeroValue297
 t213:=Tryz.underlying298
 a213:=Tryz.isAgg298
 z213:=Tryz.sizeOf298
 t232:=Tryz.underlying301
 a232:=Tryz.isAgg301
 z232:=Tryz.sizeOf301
 v232:=Tryz.zeroValue301
 t233:=Tryz.underlying302
 a233:=Tryz.isAgg302
 z233:=Tryz.sizeOf302
 v233:=Tryz.zeroValue302
 g15:=by kernel_rfl
 g16:=by kernel_rfl
 g17:=by kernel_rfl
 g18:=by kernel_rfl
 g19:=by kernel_rfl
 t80:=Tryz.underlying170
 a80:=Tryz.isAgg170
 z80:=Tryz.sizeOf170
 v80:=Tryz.zeroValue170
 i0:=by kernel_rfl
 i2:=by kernel_rfl
 i3:=by kernel_rfl
 i4:=by kernel_rfl
 i5:=by kernel_rfl
 i9:=by kernel_rfl
 i20:=by kernel_rfl
 i21:=by kernel_rfl
 i37:=by kernel_rfl
 i46:=by kernel_rfl
 i51:=by kernel_rfl
 i53:=by kernel_rfl
 i75:=by kernel_rfl
 i80:=by kernel_rfl
 i85:=by kernel_rfl
 i127:=by kernel_rfl
 i143:=by kernel_rfl
 i145:=by kernel_rfl
 i167:=by kernel_rfl
 i168:=by kernel_rfl
 i171:=by kernel_rfl
 i173:=by kernel_rfl
 i175:=by kernel_rfl
 i210:=by kernel_rfl
 i212:=by kernel_rfl
 i232:=by kernel_rfl
 i233:=by kernel_rfl
 m15:=by kernel_rfl
 m16:=by kernel_rfl
 m17:=by kernel_rfl
 m18:=by kernel_rfl
 m19:=by kernel_rfl
 c0:=by kernel_rfl
 c2:=by kernel_rfl
 c3:=by kernel_rfl
 c4:=by kernel_rfl
 c5:=by kernel_rfl
 c9:=by kernel_rfl
 c20:=by kernel_rfl
 c21:=by kernel_rfl
 c37:=by kernel_rfl
 c46:=by kernel_rfl
 c51:=by kernel_rfl
 c53:=by kernel_rfl
 c75:=by kernel_rfl
 c80:=by kernel_rfl
 c85:=by kernel_rfl
 c127:=by kernel_rfl
 c143:=by kernel_rfl
 c145:=by kernel_rfl
 c167:=by kernel_rfl
 c168:=by kernel_rfl
 c171:=by kernel_rfl
 c173:=by kernel_rfl
 c175:=by kernel_rfl
 c210:=by kernel_rfl
 c212:=by kernel_rfl
 c213:=by kernel_rfl
 c232:=by kernel_rfl
 c233:=by kernel_rfl }
open Go.RowKit in
theorem Tryz.strconv_ParseInt_10_at64_ok (s:ByteArray) (hmax:s.size≤9223372036854775806) (v:Int) (h:Lib.parseIntB 64 s.data.toList= .ok v) (w:World):
  Calls Tryz.prog 270 #[.string s,.int .i64 10,.int .i64 64] w λe w'=>e= .returned (.tuple #[.int .i64 v,.nilIface])∧(w'=w∨∃ t,w'=Lib.bytesWorld w 5 t):=Any.strconv_ParseInt_10_at64_ok Tryz.laysC174 s hmax v h w
def Tryz.lays219_ren:Go.Shelf.Ren:=⟨fun | 219=>271 | 217=>275 | 225=>276 | 224=>277 | 267=>278 | 266=>284 | 314=>285 | n=>n,fun | 9=>9 | 3=>3 | 4=>4 | 5=>5 | 46=>233 | 146=>279 | 51=>246 | n=>n,fun | 1=>2 | n=>n⟩
theorem Tryz.lays219:Go.Proofs.Lays.n219 Tryz.prog Tryz.lays219_ren:= {
 mixed:=by kernel_rfl
 f217:=Tryz.func275.trans (congrArg some (by kernel_rfl))
 f219:=Tryz.func271.trans (congrArg some (by kernel_rfl))
 f224:=Tryz.func277.trans (congrArg some (by kernel_rfl))
 f225:=Tryz.func276.trans (congrArg some (by kernel_rfl))
 f266:=Tryz.func284.trans (congrArg some (by kernel_rfl))
 f267:=Tryz.func278.trans (congrArg some (by kernel_rfl))
 f314:=Tryz.func285.trans (congrArg some (by kernel_rfl))
 t3:=Tryz.underlying3
 a3:=Tryz.isAgg3
 z3:=Tryz.sizeOf3
 v3:=Tryz.zeroValue3
 t4:=Tryz.underlying4
 a4:=Tryz.isAgg4
 z4:=Tryz.sizeOf4
 v4:=Tryz.zeroValue4
 t5:=Tryz.underlying5
 a5:=Tryz.isAgg5
 z5:=Tryz.sizeOf5
 v5:=Tryz.zeroValue5
 t9:=Tryz.underlying9
 a9:=Tryz.isAgg9
 z9:=Tryz.sizeOf9
 v9:=Tryz.zeroValue9
 t46:=Tryz.underlying233
 a46:=Tryz.isAgg233
 z46:=Tryz.sizeOf233
 v46:=Tryz.zeroValue233
 t51:=Tryz.underlying246
 a51:=Tryz.isAgg246
 z51:=Tryz.sizeOf246
 v51:=Tryz.zeroValue246
 t146:=Tryz.underlying279
 a146:=Tryz.isAgg279
 z146:=Tryz.sizeOf279
 v146:=Tryz.zeroValue279
 g1:=by kernel_rfl }
open Go.RowKit Go.Lib in
theorem Tryz.stringslite_Index_one (s:ByteArray) (c:UInt8) (w:World):
  Calls Tryz.prog 271 #[.string s,.string ⟨#[c]⟩] w λe w'=>e= .returned (.int .i64 (Lib.indexByte s.data.toList c))∧w'=w:=Any.stringslite_Index_one Tryz.lays219 s c w
def Tryz.lays157_ren:Go.Shelf.Ren:=⟨fun | 157=>247 | 229=>251 | 199=>252 | 261=>259 | 311=>261 | 312=>262 | n=>n,fun | 9=>9 | 31=>50 | 3=>3 | 5=>5 | 4=>4 | 119=>239 | 0=>0 | 40=>183 | 152=>243 | 21=>21 | 154=>245 | 51=>246 | 141=>248 | 196=>252 | 193=>249 | 198=>255 | 49=>253 | 194=>250 | 201=>258 | 226=>260 | 46=>233 | 227=>261 | n=>n,fun | 0=>0 | 6=>1 | n=>n⟩
theorem Tryz.lays157:Go.Proofs.Lays.n157 Tryz.prog Tryz.lays157_ren:= {
 mixed:=by kernel_rfl
 f157:=Tryz.func247.trans (congrArg some (by kernel_rfl))
 f199:=Tryz.func252.trans (congrArg some (by kernel_rfl))
 f229:=Tryz.func251.trans (congrArg some (by kernel_rfl))
 f261:=Tryz.func259.trans (congrArg some (by kernel_rfl))
 f311:=Tryz.func261.trans (congrArg some (by kernel_rfl))
 f312:=Tryz.func262.trans (congrArg some (by kernel_rfl))
 t0:=Tryz.underlying0
 a0:=Tryz.isAgg0
 z0:=Tryz.sizeOf0
 v0:=Tryz.zeroValue0
 t3:=Tryz.underlying3
 a3:=Tryz.isAgg3
 z3:=Tryz.sizeOf3
 v3:=Tryz.zeroValue3
 t4:=Tryz.underlying4
 a4:=Tryz.isAgg4
 z4:=Tryz.sizeOf4
 v4:=Tryz.zeroValue4
 t5:=Tryz.underlying5
 a5:=Tryz.isAgg5
 z5:=Tryz.sizeOf5
 v5:=Tryz.zeroValue5
 t9:=Tryz.underlying9
 a9:=Tryz.isAgg9
 z9:=Tryz.sizeOf9
 v9:=Tryz.zeroValue9
 t21:=Tryz.underlying21
 a21:=Tryz.isAgg21
 z21:=Tryz.sizeOf21
 v21:=Tryz.zeroValue21
 t31:=Tryz.underlying50
 a31:=Tryz.isAgg50
 z31:=Tryz.sizeOf50
 v31:=Tryz.zeroValue50
 t40:=Tryz.underlying183
 a40:=Tryz.isAgg183
 z40:=Tryz.sizeOf183
 v40:=Tryz.zeroValue183
 t46:=Tryz.underlying233
 a46:=Tryz.isAgg233
 z46:=Tryz.sizeOf233
 v46:=Tryz.zeroValue233
 t49:=Tryz.underlying253
 a49:=Tryz.isAgg253
 z49:=Tryz.sizeOf253
 v49:=Tryz.zeroValue253
 t51:=Tryz.underlying246
 a51:=Tryz.isAgg246
 z51:=Tryz.sizeOf246
 v51:=Tryz.zeroValue246
 t119:=Tryz.underlying239
 a119:=Tryz.isAgg239
 z119:=Tryz.sizeOf239
 t141:=Tryz.underlying248
 a141:=Tryz.isAgg248
 z141:=Tryz.sizeOf248
 v141:=Tryz.zeroValue248
 t152:=Tryz.underlying243
 a152:=Tryz.isAgg243
 z152:=Tryz.sizeOf243
 v152:=Tryz.zeroValue243
 t154:=Tryz.underlying245
 a154:=Tryz.isAgg245
 z154:=Tryz.sizeOf245
 v154:=Tryz.zeroValue245
 t193:=Tryz.underlying249
 a193:=Tryz.isAgg249
 z193:=Tryz.sizeOf249
 v193:=Tryz.zeroValue249
 t194:=Tryz.underlying250
 a194:=Tryz.isAgg250
 z194:=Tryz.sizeOf250
 v194:=Tryz.zeroValue250
 t196:=Tryz.underlying252
 a196:=Tryz.isAgg252
 z196:=Tryz.sizeOf252
 v196:=Tryz.zeroValue252
 t198:=Tryz.underlying255
 a198:=Tryz.isAgg255
 z198:=Tryz.sizeOf255
 v198:=Tryz.zeroValue255
 t201:=Tryz.underlying258
 a201:=Tryz.isAgg258
 z201:=Tryz.sizeOf258
 v201:=Tryz.zeroValue258
 t226:=Tryz.underlying260
 a226:=Tryz.isAgg260
 z226:=Tryz.sizeOf260
 v226:=Tryz.zeroValue260
 t227:=Tryz.underlying261
 a227:=Tryz.isAgg261
 z227:=Tryz.sizeOf261
 v227:=Tryz.zeroValue261
 g0:=by kernel_rfl
 g6:=by kernel_rfl }
open Go.RowKit Go.Lib in
theorem Tryz.strings_Fields (s:ByteArray) (w:World) (hs:s.size<4294967281) (hascii:∀ (j:Nat) b,s.data.toList[j]? =some b→b.toNat<128) (htab:Lib.TabIs Tryz.prog w "strings.asciiSpace" .u8 Lib.asciiSpaceTab):
  Calls Tryz.prog 247 #[.string s] w λe w'=>
   e= .returned (.slice (some ⟨w.heap.size,0,none⟩) (Lib.fields s.data.toList).length (Lib.fields s.data.toList).length)∧w'=w.alloc (.cells ((Lib.fields s.data.toList).map λl=>Value.string ⟨l.toArray⟩).toArray 9):=Any.strings_Fields Tryz.lays157 (by kernel_rfl) (by kernel_rfl) s w hs hascii htab
end Go.Proofs
