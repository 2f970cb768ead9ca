/- For TopKept. -/
import Derived.Shelf.Small.Bits
import Derived.Shelf.Small.Strs
import Derived.Shelf.Strconv.Itoa0
import Derived.Shelf.Strconv.Itoa1
import Derived.Shelf.LaysM
import Derived.Shelf.Strconv.Itoa2
import Derived.Shelf.Strconv.Lower
import Derived.Shelf.Strconv.ParseUint10
import Derived.Shelf.Strconv.ParseUintEmpty
import Derived.Shelf.Strconv.ParseUint10b64
import Derived.Shelf.Strconv.ParseUint10b32
import Derived.Shelf.Strconv.ParseUint10b16
import Derived.Shelf.Strconv.ParseUint10b8
import Derived.Shelf.Strconv.ParseUint10At
import Derived.Shelf.Pu.ParseUintPublic10
import Derived.Shelf.Strings.AsciiSet
import Derived.Shelf.Strings.Repeat
import Derived.Test.YtbleblbfadeciaaGreatDoorProg
import Derived.Test.YtbleblbfadeciaaGreatDoorVc
import Derived.Test.YtbleblbfadeciaaGreatDoorWc
import Derived.Test.YtbleblbfadeciaaGreatDoorRa
import Derived.Lib.LaidTab
set_option linter.all false
set_option maxHeartbeats 16000000
set_option maxRecDepth 10000
namespace Go.Proofs
open Go.Shelf
def Tryz.Qni:Go.Shelf.Ren:=⟨fun|283=>234|n=>n,fun|3=>3|9=>9|4=>4|n=>n,fun|n=>n⟩
theorem Tryz.lays283:Go.Proofs.Lays.n283 Tryz.prog Tryz.Qni:={
 mixed:=by kernel_rfl
 f283:=Tryz.func234.trans (congrArg some (by kernel_rfl))
 t3:=Tryz.underlying3
 a3:=Tryz.isAgg3
 z3:=Tryz.sizeOf3
 v3:=Tryz.zeroValue3
 t4:=Tryz.underlying4
 a4:=Tryz.isAgg4
 z4:=Tryz.sizeOf4
 v4:=Tryz.zeroValue4
 t9:=Tryz.underlying9
 a9:=Tryz.isAgg9
 z9:=Tryz.sizeOf9
 v9:=Tryz.zeroValue9}
def Tryz.Qnk:Go.Shelf.Ren:=⟨fun|284=>235|129=>184|317=>269|318=>270|n=>n,fun|53=>30|3=>3|212=>344|0=>0|4=>4|46=>117|5=>5|9=>9|n=>n,fun|17=>2|n=>n⟩
theorem Tryz.laysM284:Go.Proofs.LaysM.n284 Tryz.prog Tryz.Qnk:={
 mixed:=by kernel_rfl
 f129:=Tryz.func184.trans (congrArg some (by kernel_rfl))
 f284:=Tryz.func235.trans (congrArg some (by kernel_rfl))
 f317:=Tryz.func269.trans (congrArg some (by kernel_rfl))
 f318:=Tryz.func270.trans (congrArg some (by kernel_rfl))
 t0:=Tryz.underlying0
 a0:=Tryz.isAgg0
 z0:=Tryz.sizeOf0
 v0:=Tryz.zeroValue0
 t3:=Tryz.underlying3
 a3:=Tryz.isAgg3
 z3:=Tryz.sizeOf3
 v3:=Tryz.zeroValue3
 t4:=Tryz.underlying4
 a4:=Tryz.isAgg4
 z4:=Tryz.sizeOf4
 v4:=Tryz.zeroValue4
 t5:=Tryz.underlying5
 a5:=Tryz.isAgg5
 z5:=Tryz.sizeOf5
 v5:=Tryz.zeroValue5
 t9:=Tryz.underlying9
 a9:=Tryz.isAgg9
 z9:=Tryz.sizeOf9
 v9:=Tryz.zeroValue9
 t46:=Tryz.underlying117
 a46:=Tryz.isAgg117
 z46:=Tryz.sizeOf117
 v46:=Tryz.zeroValue117
 t53:=Tryz.underlying30
 a53:=Tryz.isAgg30
 z53:=Tryz.sizeOf30
 v53:=Tryz.zeroValue30
 t212:=Tryz.underlying344
 a212:=Tryz.isAgg344
 z212:=Tryz.sizeOf344
 v212:=Tryz.zeroValue344
 g17:=by kernel_rfl
 i0:=by kernel_rfl
 i3:=by kernel_rfl
 i4:=by kernel_rfl
 i5:=by kernel_rfl
 i9:=by kernel_rfl
 i46:=by kernel_rfl
 i53:=by kernel_rfl
 i212:=by kernel_rfl
 m17:=by kernel_rfl}
def Tryz.Qnj:Go.Shelf.Ren:=⟨fun|285=>236|n=>n,fun|37=>22|53=>30|3=>3|4=>4|51=>267|9=>9|5=>5|0=>0|n=>n,fun|n=>n⟩
theorem Tryz.lays285:Go.Proofs.Lays.n285 Tryz.prog Tryz.Qnj:={
 mixed:=by kernel_rfl
 f285:=Tryz.func236.trans (congrArg some (by kernel_rfl))
 t0:=Tryz.underlying0
 a0:=Tryz.isAgg0
 z0:=Tryz.sizeOf0
 v0:=Tryz.zeroValue0
 t3:=Tryz.underlying3
 a3:=Tryz.isAgg3
 z3:=Tryz.sizeOf3
 v3:=Tryz.zeroValue3
 t4:=Tryz.underlying4
 a4:=Tryz.isAgg4
 z4:=Tryz.sizeOf4
 v4:=Tryz.zeroValue4
 t5:=Tryz.underlying5
 a5:=Tryz.isAgg5
 z5:=Tryz.sizeOf5
 v5:=Tryz.zeroValue5
 t9:=Tryz.underlying9
 a9:=Tryz.isAgg9
 z9:=Tryz.sizeOf9
 v9:=Tryz.zeroValue9
 t37:=Tryz.underlying22
 a37:=Tryz.isAgg22
 z37:=Tryz.sizeOf22
 v37:=Tryz.zeroValue22
 t51:=Tryz.underlying267
 a51:=Tryz.isAgg267
 z51:=Tryz.sizeOf267
 v51:=Tryz.zeroValue267
 t53:=Tryz.underlying30
 a53:=Tryz.isAgg30
 z53:=Tryz.sizeOf30
 v53:=Tryz.zeroValue30}
def Tryz.Qnl:Go.Shelf.Ren:=⟨fun|14=>117|16=>172|17=>173|19=>222|20=>223|21=>224|22=>225|23=>226|24=>227|25=>265|27=>267|26=>266|28=>291|29=>299|30=>234|31=>235|32=>236|33=>237|35=>184|34=>269|36=>270|37=>271|38=>272|39=>292|40=>293|n=>n,fun|9=>9|3=>3|22=>30|24=>202|25=>203|4=>4|34=>301|5=>5|36=>117|37=>22|0=>0|39=>303|21=>21|44=>337|47=>318|50=>366|48=>364|2=>2|52=>311|55=>313|59=>344|60=>267|20=>20|61=>345|65=>371|66=>372|67=>167|n=>n,fun|0=>0|1=>1|2=>2|3=>6|4=>7|n=>n⟩
theorem Tryz.laysPu14:Go.Proofs.LaysPu.n14 Tryz.prog Tryz.Qnl:={
 mixed:=by kernel_rfl
 f14:=Tryz.func117.trans (congrArg some (by kernel_rfl))
 f16:=Tryz.func172.trans (congrArg some (by kernel_rfl))
 f17:=Tryz.func173.trans (congrArg some (by kernel_rfl))
 f19:=Tryz.func222.trans (congrArg some (by kernel_rfl))
 f20:=Tryz.func223.trans (congrArg some (by kernel_rfl))
 f21:=Tryz.func224.trans (congrArg some (by kernel_rfl))
 f22:=Tryz.func225.trans (congrArg some (by kernel_rfl))
 f23:=Tryz.func226.trans (congrArg some (by kernel_rfl))
 f24:=Tryz.func227.trans (congrArg some (by kernel_rfl))
 f25:=Tryz.func265.trans (congrArg some (by kernel_rfl))
 f26:=Tryz.func266.trans (congrArg some (by kernel_rfl))
 f27:=Tryz.func267.trans (congrArg some (by kernel_rfl))
 f28:=Tryz.func291.trans (congrArg some (by kernel_rfl))
 f29:=Tryz.func299.trans (congrArg some (by kernel_rfl))
 f30:=Tryz.func234.trans (congrArg some (by kernel_rfl))
 f31:=Tryz.func235.trans (congrArg some (by kernel_rfl))
 f32:=Tryz.func236.trans (congrArg some (by kernel_rfl))
 f33:=Tryz.func237.trans (congrArg some (by kernel_rfl))
 f34:=Tryz.func269.trans (congrArg some (by kernel_rfl))
 f35:=Tryz.func184.trans (congrArg some (by kernel_rfl))
 f36:=Tryz.func270.trans (congrArg some (by kernel_rfl))
 f37:=Tryz.func271.trans (congrArg some (by kernel_rfl))
 f38:=Tryz.func272.trans (congrArg some (by kernel_rfl))
 f39:=Tryz.func292.trans (congrArg some (by kernel_rfl))
 f40:=Tryz.func293.trans (congrArg some (by kernel_rfl))
 t0:=Tryz.underlying0
 a0:=Tryz.isAgg0
 z0:=Tryz.sizeOf0
 v0:=Tryz.zeroValue0
 i0:=by kernel_rfl
 t2:=Tryz.underlying2
 a2:=Tryz.isAgg2
 z2:=Tryz.sizeOf2
 v2:=Tryz.zeroValue2
 i2:=by kernel_rfl
 t3:=Tryz.underlying3
 a3:=Tryz.isAgg3
 z3:=Tryz.sizeOf3
 v3:=Tryz.zeroValue3
 i3:=by kernel_rfl
 t4:=Tryz.underlying4
 a4:=Tryz.isAgg4
 z4:=Tryz.sizeOf4
 v4:=Tryz.zeroValue4
 i4:=by kernel_rfl
 t5:=Tryz.underlying5
 a5:=Tryz.isAgg5
 z5:=Tryz.sizeOf5
 v5:=Tryz.zeroValue5
 i5:=by kernel_rfl
 t9:=Tryz.underlying9
 a9:=Tryz.isAgg9
 z9:=Tryz.sizeOf9
 v9:=Tryz.zeroValue9
 i9:=by kernel_rfl
 t20:=Tryz.underlying20
 a20:=Tryz.isAgg20
 z20:=Tryz.sizeOf20
 v20:=Tryz.zeroValue20
 i20:=by kernel_rfl
 t21:=Tryz.underlying21
 a21:=Tryz.isAgg21
 z21:=Tryz.sizeOf21
 v21:=Tryz.zeroValue21
 i21:=by kernel_rfl
 t22:=Tryz.underlying30
 a22:=Tryz.isAgg30
 z22:=Tryz.sizeOf30
 v22:=Tryz.zeroValue30
 i22:=by kernel_rfl
 t24:=Tryz.underlying202
 a24:=Tryz.isAgg202
 z24:=Tryz.sizeOf202
 v24:=Tryz.zeroValue202
 i24:=by kernel_rfl
 t25:=Tryz.underlying203
 a25:=Tryz.isAgg203
 z25:=Tryz.sizeOf203
 v25:=Tryz.zeroValue203
 i25:=by kernel_rfl
 t34:=Tryz.underlying301
 a34:=Tryz.isAgg301
 z34:=Tryz.sizeOf301
 v34:=Tryz.zeroValue301
 i34:=by kernel_rfl
 c34:=by kernel_rfl
 t36:=Tryz.underlying117
 a36:=Tryz.isAgg117
 z36:=Tryz.sizeOf117
 v36:=Tryz.zeroValue117
 i36:=by kernel_rfl
 t37:=Tryz.underlying22
 a37:=Tryz.isAgg22
 z37:=Tryz.sizeOf22
 v37:=Tryz.zeroValue22
 i37:=by kernel_rfl
 t39:=Tryz.underlying303
 a39:=Tryz.isAgg303
 z39:=Tryz.sizeOf303
 v39:=Tryz.zeroValue303
 i39:=by kernel_rfl
 t44:=Tryz.underlying337
 a44:=Tryz.isAgg337
 z44:=Tryz.sizeOf337
 v44:=Tryz.zeroValue337
 i44:=by kernel_rfl
 t47:=Tryz.underlying318
 a47:=Tryz.isAgg318
 z47:=Tryz.sizeOf318
 v47:=Tryz.zeroValue318
 i47:=by kernel_rfl
 t48:=Tryz.underlying364
 a48:=Tryz.isAgg364
 z48:=Tryz.sizeOf364
 v48:=Tryz.zeroValue364
 i48:=by kernel_rfl
 t50:=Tryz.underlying366
 a50:=Tryz.isAgg366
 z50:=Tryz.sizeOf366
 v50:=Tryz.zeroValue366
 i50:=by kernel_rfl
 t52:=Tryz.underlying311
 a52:=Tryz.isAgg311
 z52:=Tryz.sizeOf311
 v52:=Tryz.zeroValue311
 i52:=by kernel_rfl
 t55:=Tryz.underlying313
 a55:=Tryz.isAgg313
 z55:=Tryz.sizeOf313
 v55:=Tryz.zeroValue313
 i55:=by kernel_rfl
 t59:=Tryz.underlying344
 a59:=Tryz.isAgg344
 z59:=Tryz.sizeOf344
 v59:=Tryz.zeroValue344
 i59:=by kernel_rfl
 t60:=Tryz.underlying267
 a60:=Tryz.isAgg267
 z60:=Tryz.sizeOf267
 v60:=Tryz.zeroValue267
 i60:=by kernel_rfl
 t61:=Tryz.underlying345
 a61:=Tryz.isAgg345
 z61:=Tryz.sizeOf345
 t65:=Tryz.underlying371
 a65:=Tryz.isAgg371
 z65:=Tryz.sizeOf371
 v65:=Tryz.zeroValue371
 i65:=by kernel_rfl
 t66:=Tryz.underlying372
 a66:=Tryz.isAgg372
 z66:=Tryz.sizeOf372
 v66:=Tryz.zeroValue372
 i66:=by kernel_rfl
 t67:=Tryz.underlying167
 a67:=Tryz.isAgg167
 z67:=Tryz.sizeOf167
 v67:=Tryz.zeroValue167
 i67:=by kernel_rfl
 g0:=by kernel_rfl
 m0:=by kernel_rfl
 g1:=by kernel_rfl
 m1:=by kernel_rfl
 g2:=by kernel_rfl
 m2:=by kernel_rfl
 g3:=by kernel_rfl
 m3:=by kernel_rfl
 g4:=by kernel_rfl
 m4:=by kernel_rfl}
def Tryz.Qnf:Go.Shelf.Ren:=⟨fun|227=>167|n=>n,fun|9=>9|116=>252|4=>4|0=>0|3=>3|5=>5|n=>n,fun|n=>n⟩
theorem Tryz.Qne:Go.Proofs.Lays.n227 Tryz.prog Tryz.Qnf:={
 mixed:=by kernel_rfl
 f227:=Tryz.func167.trans (congrArg some (by kernel_rfl))
 t0:=Tryz.underlying0
 a0:=Tryz.isAgg0
 z0:=Tryz.sizeOf0
 v0:=Tryz.zeroValue0
 t3:=Tryz.underlying3
 a3:=Tryz.isAgg3
 z3:=Tryz.sizeOf3
 v3:=Tryz.zeroValue3
 t4:=Tryz.underlying4
 a4:=Tryz.isAgg4
 z4:=Tryz.sizeOf4
 v4:=Tryz.zeroValue4
 t5:=Tryz.underlying5
 a5:=Tryz.isAgg5
 z5:=Tryz.sizeOf5
 v5:=Tryz.zeroValue5
 t9:=Tryz.underlying9
 a9:=Tryz.isAgg9
 z9:=Tryz.sizeOf9
 v9:=Tryz.zeroValue9
 t116:=Tryz.underlying252
 a116:=Tryz.isAgg252
 z116:=Tryz.sizeOf252}
def Tryz.Qnh:Go.Shelf.Ren:=⟨fun|228=>218|n=>n,fun|124=>256|5=>5|4=>4|0=>0|116=>252|n=>n,fun|n=>n⟩
theorem Tryz.Qng:Go.Proofs.Lays.n228 Tryz.prog Tryz.Qnh:={
 mixed:=by kernel_rfl
 f228:=Tryz.func218.trans (congrArg some (by kernel_rfl))
 t0:=Tryz.underlying0
 a0:=Tryz.isAgg0
 z0:=Tryz.sizeOf0
 v0:=Tryz.zeroValue0
 t4:=Tryz.underlying4
 a4:=Tryz.isAgg4
 z4:=Tryz.sizeOf4
 v4:=Tryz.zeroValue4
 t5:=Tryz.underlying5
 a5:=Tryz.isAgg5
 z5:=Tryz.sizeOf5
 v5:=Tryz.zeroValue5
 t116:=Tryz.underlying252
 a116:=Tryz.isAgg252
 z116:=Tryz.sizeOf252
 t124:=Tryz.underlying256
 a124:=Tryz.isAgg256
 z124:=Tryz.sizeOf256
 v124:=Tryz.zeroValue256}
def Tryz.lays105_ren:Go.Shelf.Ren:=⟨fun|105=>121|212=>186|99=>114|165=>187|166=>188|170=>189|169=>190|263=>238|264=>239|206=>164|240=>240|241=>241|276=>273|277=>274|n=>n,fun|9=>9|3=>3|4=>4|20=>20|0=>0|46=>117|109=>269|5=>5|72=>273|76=>274|51=>267|146=>315|53=>30|148=>174|70=>271|37=>22|75=>202|127=>318|164=>346|80=>167|n=>n,fun|n=>n⟩
theorem Tryz.lays105:Go.Proofs.Lays.n105 Tryz.prog Tryz.lays105_ren:={
 mixed:=by kernel_rfl
 f99:=Tryz.func114.trans (congrArg some (by kernel_rfl))
 f105:=Tryz.func121.trans (congrArg some (by kernel_rfl))
 f165:=Tryz.func187.trans (congrArg some (by kernel_rfl))
 f166:=Tryz.func188.trans (congrArg some (by kernel_rfl))
 f169:=Tryz.func190.trans (congrArg some (by kernel_rfl))
 f170:=Tryz.func189.trans (congrArg some (by kernel_rfl))
 f206:=Tryz.func164.trans (congrArg some (by kernel_rfl))
 f212:=Tryz.func186.trans (congrArg some (by kernel_rfl))
 f240:=Tryz.func240.trans (congrArg some (by kernel_rfl))
 f241:=Tryz.func241.trans (congrArg some (by kernel_rfl))
 f263:=Tryz.func238.trans (congrArg some (by kernel_rfl))
 f264:=Tryz.func239.trans (congrArg some (by kernel_rfl))
 f276:=Tryz.func273.trans (congrArg some (by kernel_rfl))
 f277:=Tryz.func274.trans (congrArg some (by kernel_rfl))
 t0:=Tryz.underlying0
 a0:=Tryz.isAgg0
 z0:=Tryz.sizeOf0
 v0:=Tryz.zeroValue0
 t3:=Tryz.underlying3
 a3:=Tryz.isAgg3
 z3:=Tryz.sizeOf3
 v3:=Tryz.zeroValue3
 t4:=Tryz.underlying4
 a4:=Tryz.isAgg4
 z4:=Tryz.sizeOf4
 v4:=Tryz.zeroValue4
 t5:=Tryz.underlying5
 a5:=Tryz.isAgg5
 z5:=Tryz.sizeOf5
 v5:=Tryz.zeroValue5
 t9:=Tryz.underlying9
 a9:=Tryz.isAgg9
 z9:=Tryz.sizeOf9
 v9:=Tryz.zeroValue9
 t20:=Tryz.underlying20
 a20:=Tryz.isAgg20
 z20:=Tryz.sizeOf20
 v20:=Tryz.zeroValue20
 t37:=Tryz.underlying22
 a37:=Tryz.isAgg22
 z37:=Tryz.sizeOf22
 v37:=Tryz.zeroValue22
 t46:=Tryz.underlying117
 a46:=Tryz.isAgg117
 z46:=Tryz.sizeOf117
 v46:=Tryz.zeroValue117
 t51:=Tryz.underlying267
 a51:=Tryz.isAgg267
 z51:=Tryz.sizeOf267
 v51:=Tryz.zeroValue267
 t53:=Tryz.underlying30
 a53:=Tryz.isAgg30
 z53:=Tryz.sizeOf30
 v53:=Tryz.zeroValue30
 t70:=Tryz.underlying271
 a70:=Tryz.isAgg271
 z70:=Tryz.sizeOf271
 v70:=Tryz.zeroValue271
 t72:=Tryz.underlying273
 a72:=Tryz.isAgg273
 z72:=Tryz.sizeOf273
 v72:=Tryz.zeroValue273
 t75:=Tryz.underlying202
 a75:=Tryz.isAgg202
 z75:=Tryz.sizeOf202
 v75:=Tryz.zeroValue202
 t76:=Tryz.underlying274
 a76:=Tryz.isAgg274
 z76:=Tryz.sizeOf274
 v76:=Tryz.zeroValue274
 t109:=Tryz.underlying269
 a109:=Tryz.isAgg269
 z109:=Tryz.sizeOf269
 v109:=Tryz.zeroValue269
 t127:=Tryz.underlying318
 a127:=Tryz.isAgg318
 z127:=Tryz.sizeOf318
 v127:=Tryz.zeroValue318
 t146:=Tryz.underlying315
 a146:=Tryz.isAgg315
 z146:=Tryz.sizeOf315
 v146:=Tryz.zeroValue315
 t148:=Tryz.underlying174
 a148:=Tryz.isAgg174
 z148:=Tryz.sizeOf174
 v148:=Tryz.zeroValue174
 t164:=Tryz.underlying346
 a164:=Tryz.isAgg346
 z164:=Tryz.sizeOf346
 v164:=Tryz.zeroValue346}
open Go.Lib in
theorem Tryz.internal_strconv_small(i:Nat)(h:i<100)(w:World):
  Calls Tryz.prog 234 #[.int .i64 i] w fun e w'=>e= .returned (.string ⟨(Lib.decDigits i).toArray⟩)/\w'=w:=Any.internal_strconv_small Tryz.lays283 i h w
open Go.Lib in
theorem Tryz.internal_strconv_numDigits(u:Nat)(D:1≤u)(E:u<18446744073709551616)(w:World)(I:Lib.TabIs Tryz.prog w "internal/strconv.uint64pow10" .u64 Lib.pow10Tab):
  Calls Tryz.prog 235 #[.int .u64 u] w fun e w'=>e= .returned (.int .i64 (Lib.nDigits u))/\w'=w:=Any.internal_strconv_numDigits Tryz.laysM284 u D E w I
open Go.RowKit Go.Sort Go.Lib in
theorem Tryz.internal_strconv_formatBase10(blk off cap:Nat)(u:Nat)(d:Array UInt8)(w:World)(E:Holds (fun (b:UInt8)=>Value.int .u8 (b.toNat:Int)) w blk off d)(I:u<10^d.size)(J:u<18446744073709551616)(hsz:d.size<4611686018427387904):
  Calls Tryz.prog 236 #[.slice (some ⟨blk,off,none⟩) d.size cap,.int .u64 u] w fun e w'=>
   e= .returned (.tuple #[])/\ ∃(n M:Nat) (D:Array UInt8),w'=(putRow (fun (b:UInt8)=>Value.int .u8 (b.toNat:Int)) w blk off D).drewN n/\FmtInv d.size u 0 M D:=Any.internal_strconv_formatBase10 Tryz.lays285 blk off cap u d w E I J hsz
open Go.RowKit in
theorem Tryz.strconv_ParseUint_10_at64_ok(s:ByteArray)(D:s.size<=9223372036854775806)(u:Nat)(h:Lib.parseUintB 64 s.data.toList= .ok u)(w:World):
  Calls Tryz.prog 117 #[.string s,.int .i64 10,.int .i64 64] w fun e w'=>e= .returned (.tuple #[.int .u64 u,.nilIface])/\(w'=w\/w'=Lib.bytesWorld w 5 s):=Any.strconv_ParseUint_10_at64_ok Tryz.laysPu14 s D u h w
open Go.RowKit Go.Lib in
theorem Tryz.strings_makeASCIISet(J: ∀w,(zeroValue 252).run Tryz.prog w= .ok (.agg (Array.replicate 256 (.bool false))) w)(D:ByteArray)(w:World)(I:D.size<4294967281)(E: ∀(j:Nat) b,D.data.toList[j]? =some b->b.toNat<128):
  Calls Tryz.prog 167 #[.string D] w fun e w'=>e= .returned (.tuple #[.agg (Lib.setCells D.data.toList),.bool true])/\w'=w.alloc (.cells (Lib.setCells D.data.toList) 252):=Any.strings_makeASCIISet Tryz.Qne J (by kernel_rfl) D w I E
open Go.RowKit Go.Lib in
theorem Tryz.asciiSet_contains(b:Nat)(x:UInt8)(v:Bool)(w:World)(D:w.cell? ⟨b,x.toNat,none⟩=some (.bool v)):
  Calls Tryz.prog 218 #[.pointer (some ⟨b,0,none⟩),.int .u8 x.toNat] w fun e w'=>e= .returned (.bool v)/\w'=w:=Any.asciiSet_contains Tryz.Qng b x v w D
theorem Tryz.Builder_Extra_105:Builder.Extra Tryz.prog Tryz.lays105_ren:={
 sizeBuilder:=by kernel_rfl
 liesBuilder:=by kernel_rfl
 t5:=Tryz.underlying5
 a5:=Tryz.isAgg5
 z5:=Tryz.sizeOf5
 v5:=Tryz.zeroValue5
 infoByte:=by kernel_rfl
 cellsByte:=by kernel_rfl
 sizeByte:=by kernel_rfl
 neB5:=by decide}
open Go.RowKit Go.Lib in
theorem Tryz.strings_Repeat(s:ByteArray)(c:Nat)(w:World)(D:c<=9223372036854775807)(hlen:s.size*c<=140737488355328):
  Calls Tryz.prog 121 #[.string s,.int .i64 c] w fun e w'=>e= .returned (.string ⟨(Lib.repeatL s.data.toList c).toArray⟩)/\Below w.heap.size w w':=Any.strings_Repeat Tryz.lays105 Tryz.Builder_Extra_105 s c w D hlen
end Go.Proofs
namespace Go.Proofs.YtbleblbfadeciaaGreatDoor
section
open Go.RowKit Go.Acre Go.Acre.Dk
attribute [local simp] QH
def Tab(w:World):Prop:=Lib.TabIs Tryz.prog w "internal/strconv.uint64pow10" .u64 Lib.pow10Tab
theorem Qi2:Tryz.prog.globalNamed "internal/strconv.uint64pow10" =some 2:=by kernel_rfl
theorem Tab.upd{w w':World}{S:Nat->Prop}(h:Tab w)(I:Qa S w w')(D: ¬S 2):Tab w':=by
 unfold Tab Lib.TabIs World.var? at*
 rw[Qi2] at h ⊢;simp only[Option.bind_some] at h ⊢
 cases hb:w.heap[2]? with
 |none=>rw[hb] at h;simp at h
 |some o=>rw[I.keep hb D];rw[hb] at h;exact h
abbrev FV:=Fl×Value
def QaI(z:FV):List Value:=[.int .u64 (z.1.first:Nat),.int .i64 (z.1.bytes.size:Nat),z.2]
def Xq(E:List FV):List Value:=E.flatMap QaI
abbrev Qn(E:List FV):List Fl:=E.map (·.1)
theorem Qbo(A B:List FV):Xq (A++B)=Xq A++Xq B:=List.flatMap_append
theorem QcF: ∀E:List FV,(Xq E).length =E.length*3
 |[]=>rfl
 |
  z::E=>by
  have:Xq (z::E)=QaI z++Xq E:=List.flatMap_cons
  rw[this,List.length_append,QcF E,List.length_cons]
  show 3+_=_
  omega
theorem Qbp: ∀(E:List FV) (i:Nat) (h:i<E.length) (c:Nat),c<3->(Xq E)[i*3+c]? =(QaI E[i])[c]?
 |
  z::E,0,_,c,hc=>by
  have:Xq (z::E)=QaI z++Xq E:=List.flatMap_cons
  rw[this,Nat.zero_mul,Nat.zero_add,List.getElem?_append_left (by show c<3;exact hc)]
  rfl
 |
  z::E,i+1,h,c,hc=>by
  have:Xq (z::E)=QaI z++Xq E:=List.flatMap_cons
  rw[this,List.getElem?_append_right (by show 3<=_;omega)]
  rw[show (i+1)*3+c - (QaI z).length =i*3+c by show (i+1)*3+c - 3=_;omega]
  exact Qbp E i (by simpa using h) c hc
def We(db:Nat)(pre:ByteArray)(fv:Value):Array Value:= #[.pointer (some ⟨db,0,none⟩),.string pre,.int .i64 4096,fv]
structure QZ(w:World)(Sw Sd:Nat->Prop)(wb db room n x:Nat)(pre:ByteArray)(E:List FV)(fv:Value):Prop where
 row:w.heap[wb]? =some (.cells (We db pre fv) 140 (0,0))
 files:Q0 w 152 3 fv E.length (Xq E)
 ok:KZ x (Qn E)
 pok:1<=pre.size/\pre.size<=40
 lens: ∀z∈E,∃a cap,z.2= .slice a z.1.recs.length cap
 last: ∀A z,E=A++[z]->(∃xs,Q0 w 9 1 z.2 z.1.recs.length xs)/\ ∀g,z.2.ownBlock=some g->Sw g/\ ¬Sd g/\g≠wb/\fv.ownBlock≠some g
 own: ∀g,fv.ownBlock=some g->Sw g/\ ¬Sd g/\g≠wb
 swb:Sw wb/\ ¬Sd wb
 sub: ∀i,Sd i->Sw i
 lt: ∀i,Sw i->i<w.heap.size
 disk:Has w Sd db room n (Qo pre (Qn E))
 tab:Tab w/\ ¬Sw 2
section
variable {w:World} {Sw Sd:Nat->Prop} {wb db room n x:Nat} {pre:ByteArray} {E:List FV} {fv:Value}
theorem QZ.upd{w':World}{T:Nat->Prop}(h:QZ w Sw Sd wb db room n x pre E fv)(D:Qa T w w')(I: ∀i,Sw i-> ¬T i)(O: ¬T 2):QZ w' Sw Sd wb db room n x pre E fv:=
 ⟨D.keep h.row (I _ h.swb.1),h.files.upd D (fun g J=>I g (h.own g J).1),h.ok,h.pok,h.lens,fun A z e=>by
  obtain⟨⟨Q,N⟩,M⟩:=h.last A z e
  exact⟨⟨Q,N.upd D (fun g J=>I g (M g J).1)⟩,M⟩,h.own,h.swb,h.sub,fun i hi=>Zu (h.lt i hi) D.size,h.disk.upd D (fun k hk=>I k (h.sub k hk)),h.tab.1.upd D O,h.tab.2⟩
theorem QZ.Qc{w':World}(h:QZ w Sw Sd wb db room n x pre E fv)(D:Qa Ze w w'):QZ w' Sw Sd wb db room n x pre E fv:=h.upd D (fun _ _ f=>f) (fun f=>f)
theorem QZ.count(h:QZ w Sw Sd wb db room n x pre E fv):E.length<=500000/\ ∀z∈E,z.1.recs.length<=500000/\z.1.first<=500000:=by
 have M:=h.ok.chain;have O:=h.ok.cap;unfold QV at O;have Q:=ZR _ _ M;have U: ∀(D:List Fl) (y:Nat),XY y D->y+D.length<=Qp y D:=by
  intro D;induction D with
  |nil=>intro y _;exact Zf _
  |
   cons f r ih=>
   intro y I;have J:=ih _ I.2.2;have Y:0<f.recs.length:=List.length_pos_iff.2 I.2.1;have N:f.next=f.first+f.recs.length:=rfl;have Z:=I.1;rw[Qp,List.length_cons];omega
 have J:=U _ _ M;rw[List.length_map] at J;refine⟨by omega,fun z W=> ?_⟩;have:=Q.2.1 z.1 (List.mem_map_of_mem W);have N:z.1.next=z.1.first+z.1.recs.length:=rfl;omega
theorem QZ.cells(h:QZ w Sw Sd wb db room n x pre E fv)(Q:E≠[]): ∃g o cap cur,fv= .slice (some ⟨g,o,none⟩) E.length cap/\fv.ownBlock=some g/\w.heap[g]? =some (.cells cur 152 (0,0))/\E.length<=cap/\
  ∀i (D:i<E.length),cur[o+i*3]? =some (.int .u64 (E[i].1.first :Nat))/\cur[o+i*3+1]? =some (.int .i64 (E[i].1.bytes.size :Nat))/\cur[o+i*3+2]? =some E[i].2:=by
 obtain⟨g,o,cap,cur,J,M,N,O,I⟩:=h.files.at (fun e=>Q (List.eq_nil_of_length_eq_zero e));refine⟨g,o,cap,cur,J,M,N,O,fun i D=>⟨?_,?_,?_⟩⟩
 ·have:=I (i*3) (.int .u64 (E[i].1.first :Nat)) (by have:=Qbp E i D 0 (by omega);rw[Nat.add_zero] at this;rw[this];rfl)
  exact this
 ·have:=I (i*3+1) (.int .i64 (E[i].1.bytes.size :Nat)) (by rw[Qbp E i D 1 (by omega)];rfl)
  rw[<-Nat.add_assoc] at this;exact this
 ·have:=I (i*3+2) E[i].2 (by rw[Qbp E i D 2 (by omega)];rfl)
  rw[<-Nat.add_assoc] at this;exact this
theorem Qa9(h:QZ w Sw Sd wb db room n x pre E fv):Calls Tryz.prog 62 #[.pointer (some ⟨wb,0,none⟩)] w (Is (.bool false) w):=by
 have D:w.cell? ⟨wb,0,none⟩=some (.pointer (some ⟨db,0,none⟩)):=Qb h.row 0;clear h;go_enter Tryz.func62,Tryz.ntmps62;go_wp2_with fail;go_ret;exact⟨rfl,rfl⟩
theorem Qee{g o a m:Nat}{ra:Option Addr}{cap:Nat}(D:w.cell? ⟨g,o,none⟩=some (.int .u64 a))(I:w.cell? ⟨g,o+2,none⟩=some (.slice ra m cap))(J:a<=1000000)(M:m<=1000000):Calls Tryz.prog 63 #[.pointer (some ⟨g,o,none⟩)] w (Qk (.int .u64 (a+m:Nat)) w):=by
 have N:IntKind.u64.wrap (m:Int)=m:=IntWalk.u64_in _ (by omega);have O:IntKind.u64.wrap ((a:Int)+(m:Int))=((a+m:Nat):Int):=by rw[IntWalk.u64_in _ (by omega)];omega
 go_enter Tryz.func63,Tryz.ntmps63;go_upto_region 1 with fail
 go_quiet (fail);go_wp2_with fail;go_ret;exact⟨rfl,(Zr _ w).drewN _⟩
end
section
variable {w:World} {Sw Sd:Nat->Prop} {wb db room n x:Nat} {pre:ByteArray} {E:List FV} {fv:Value}
theorem QZ.shape(h:QZ w Sw Sd wb db room n x pre E fv):w.cell? ⟨wb,0,none⟩=some (.pointer (some ⟨db,0,none⟩))/\w.cell? ⟨wb,1,none⟩=some (.string pre)/\w.cell? ⟨wb,2,none⟩=some (.int .i64 4096)/\w.cell? ⟨wb,3,none⟩=some fv/\w.frozen? ⟨wb,3,none⟩=false:=
 ⟨Qb h.row 0,Qb h.row 1,Qb h.row 2,Qb h.row 3,Qg h.row 3 none⟩
theorem first_any(h:QZ w Sw Sd wb db room n x pre E fv):Calls Tryz.prog 22 #[.pointer (some ⟨wb,0,none⟩)] w (Qk (.int .u64 x) w):=by
 obtain⟨U,W,Y,Z,_⟩:=h.shape;have J:=Zh (Qa9 h);by_cases hE:E=[]
 ·subst hE
  have I:=h.ok.bare rfl;obtain⟨a,cap,D⟩:=h.files.slice;have D:fv= .slice a 0 cap:=D;subst D;subst I;clear h;go_enter Tryz.func22,Tryz.ntmps22;go_wp2_with fail;refine J.out.mono ?_
  rintro e w' ⟨rfl,rfl⟩;go_wp2_with fail;go_ret;exact⟨rfl,Zr _ _⟩
 ·obtain⟨g,o,cap,cur,D,O,N,ac,M⟩:=h.cells hE
  have Q:0<E.length:=List.length_pos_iff.2 hE;have I:E[0].1.first =x:=by
   obtain⟨z,r,rfl⟩:=List.exists_cons_of_ne_nil hE;exact h.ok.chain.1
  have aa:w.cell? ⟨g,o,none⟩=some (.int .u64 x):=by
   rw[Qb N,<-I];have:=(M 0 Q).1;rw[Nat.zero_mul,Nat.add_zero] at this;exact this
  subst D;have ab:=h.count.1;clear h O N M I;generalize E.length=m at*
  have ad: ¬(m:Int)=0:=by omega
  have af:((m:Int)==0)=false:=by simp;omega
  have ae:(0:Int)< (m:Int):=by omega
  go_enter Tryz.func22,Tryz.ntmps22;go_wp2_with fail;refine J.out.mono ?_
  rintro e w' ⟨rfl,rfl⟩;go_wp2_with fail;go_ret;exact⟨rfl,Zr _ _⟩
theorem Qcf(h:QZ w Sw Sd wb db room n x pre E fv):Calls Tryz.prog 23 #[.pointer (some ⟨wb,0,none⟩)] w (Qk (.int .u64 (Qp x (Qn E):Nat)) w):=by
 obtain⟨al,am,an,W,_⟩:=h.shape;have U:=Zh (Qa9 h);by_cases hE:E=[]
 ·have ae:=Zh (first_any h)
  subst hE;obtain⟨a,cap,I⟩:=h.files.slice;have I:fv= .slice a 0 cap:=I;subst I;show Calls _ _ _ _ (Qk (.int .u64 x) w);clear h;go_enter Tryz.func23,Tryz.ntmps23;go_wp2_with fail;refine U.out.mono ?_
  rintro e w' ⟨rfl,rfl⟩;go_wp2_with fail;refine ae.out.mono ?_
  rintro e w' ⟨rfl,M⟩;go_wp2_with fail;go_ret;exact⟨rfl,M⟩
 ·obtain⟨g,o,cap,cur,I,ah,Q,aq,ab⟩:=h.cells hE
  have av:0<E.length:=List.length_pos_iff.2 hE;have O:=h.count;obtain⟨A,z,D⟩: ∃A z,E=A++[z]:=by
   rcases List.eq_nil_or_concat E with h|⟨A,z,h⟩
   ·exact absurd h hE
   ·exact⟨A,z,by rw[h,List.concat_eq_append]⟩
  have ad:E[E.length - 1]'(by omega)=z:=by
   subst D;simp
  have ac:Qp x (Qn E)=z.1.first+z.1.recs.length:=by
   subst D;show Qp x ((A++[z]).map (·.1))=_;rw[List.map_append,Qd6];rfl
  obtain⟨N,Y,J⟩:=ab (E.length - 1) (by omega);rw[ad] at N Y J;obtain⟨ra,rcap,ai⟩:=h.lens z (by rw[D];simp);rw[ai] at J;have aA:=O.2 z (by rw[D];simp);have Z:w.cell? ⟨g,o+(E.length - 1)*3,none⟩=some (.int .u64 (z.1.first:Nat)):=by rw[Qb Q];exact N
  have aa:w.cell? ⟨g,o+(E.length - 1)*3+2,none⟩=some (.slice ra z.1.recs.length rcap):=by rw[Qb Q];exact J
  have af:Hid (∀w',Qa Ze w w'->Calls Tryz.prog 63 #[.pointer (some ⟨g,o+(E.length - 1)*3,none⟩)] w' (Qk (.int .u64 (z.1.first+z.1.recs.length:Nat)) w')):=Zh (fun w' M=>Qee (Qe M Z (fun f=>f)) (Qe M aa (fun f=>f)) (by omega) (by omega));rw[ac];subst I;clear h ah Q ab ad ac N Y J Z aa D;have ap:=O.1;clear O;generalize z.1.first+z.1.recs.length=y at*
  generalize E.length=m at*
  have ar: ¬(m:Int)=0:=by omega
  have au:((m:Int)==0)=false:=by simp;omega
  have aw:IntKind.i64.wrap ((m:Int) - 1)=((m - 1:Nat):Int):=by rw[IntWalk.i64_in _ (by omega)];omega
  have ax:(0:Int)<=((m - 1:Nat):Int):=by omega
  have ay:((m - 1:Nat):Int)< (m:Int):=by omega
  have az:=Zr Ze w;go_enter Tryz.func23,Tryz.ntmps23;go_wp2_with fail;refine U.out.mono ?_
  rintro e w' ⟨rfl,rfl⟩;go_upto_region 3 with fail
  have hcur:Qa Ze w w.drew:=(Zr _ w).drew;go_region_held3 (fun w'=>w'.cell? ⟨wb,3,none⟩=some (.slice (some ⟨g,o,none⟩) m cap)) (first|exact W|assumption) ((first
   |(go_at_call 63;refine (af.out _ (by assumption)).mono ?_;rintro e ak ⟨rfl,aj⟩;have ag:Qa Ze w ak:=Qa.trans hcur aj (fun _ _ f=>f);have ao:=Qe ag W (fun f=>f))))
  all_goals
   go_wp2_with fail;go_ret;exact⟨rfl,by assumption⟩
end
end
end Go.Proofs.YtbleblbfadeciaaGreatDoor
