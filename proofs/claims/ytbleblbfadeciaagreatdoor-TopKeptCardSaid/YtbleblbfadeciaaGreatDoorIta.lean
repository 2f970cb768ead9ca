/- For TopKept. -/
import Derived.Shelf.Small.Bits
import Derived.Shelf.Strconv.Itoa0
import Derived.Shelf.SlIterI.Collect
import Derived.Shelf.SlGeneric
import Derived.Ground.GgzProg
import Derived.Test.YtbleblbfadeciaaGreatDoorProg
set_option linter.all false
set_option maxHeartbeats 16000000
set_option maxRecDepth 10000
namespace Go.Proofs
open Go.Shelf
def Tryz.Qnd:Go.Shelf.Ren:=⟨fun|125=>119|128=>183|129=>184|n=>n,fun|46=>117|3=>3|51=>267|53=>30|4=>4|5=>5|9=>9|n=>n,fun|n=>n⟩
theorem Tryz.lays125:Go.Proofs.Lays.n125 Tryz.prog Tryz.Qnd:={
 mixed:=by kernel_rfl
 f125:=Tryz.func119.trans (congrArg some (by kernel_rfl))
 f128:=Tryz.func183.trans (congrArg some (by kernel_rfl))
 f129:=Tryz.func184.trans (congrArg some (by kernel_rfl))
 t3:=Tryz.underlying3
 a3:=Tryz.isAgg3
 z3:=Tryz.sizeOf3
 v3:=Tryz.zeroValue3
 t4:=Tryz.underlying4
 a4:=Tryz.isAgg4
 z4:=Tryz.sizeOf4
 v4:=Tryz.zeroValue4
 t5:=Tryz.underlying5
 a5:=Tryz.isAgg5
 z5:=Tryz.sizeOf5
 v5:=Tryz.zeroValue5
 t9:=Tryz.underlying9
 a9:=Tryz.isAgg9
 z9:=Tryz.sizeOf9
 v9:=Tryz.zeroValue9
 t46:=Tryz.underlying117
 a46:=Tryz.isAgg117
 z46:=Tryz.sizeOf117
 v46:=Tryz.zeroValue117
 t51:=Tryz.underlying267
 a51:=Tryz.isAgg267
 z51:=Tryz.sizeOf267
 v51:=Tryz.zeroValue267
 t53:=Tryz.underlying30
 a53:=Tryz.isAgg30
 z53:=Tryz.sizeOf30
 v53:=Tryz.zeroValue30}
theorem Tryz.bits_Len(x:Int)(w:World)(D:0<=x)(E:x<=18446744073709551615):Calls Tryz.prog 119 #[.int .u64 x] w fun e w'=>e= .returned (.int .i64 (Lib.bitLen x.toNat))/\w'=w:=Any.bits_Len Tryz.lays125 x w D E
def Tryz.Qhd:Go.Shelf.Ren:=⟨fun|7=>153|10=>211|n=>n,fun|23=>122|26=>3|3=>182|28=>244|0=>0|27=>243|33=>53|4=>4|n=>n,fun|n=>n⟩
theorem Tryz.Qhc:Go.Proofs.SlLaysZI.n7 Tryz.prog Tryz.Qhd:={
 mixed:=by kernel_rfl
 f7:=⟨Tryz.f153.name,by decide,Tryz.func153.trans (congrArg some (by kernel_rfl))⟩
 f10:=⟨Tryz.f211.name,by decide,Tryz.func211.trans (congrArg some (by kernel_rfl))⟩
 t0:=Tryz.underlying0
 a0:=Tryz.isAgg0
 z0:=Tryz.sizeOf0
 v0:=Tryz.zeroValue0
 t4:=Tryz.underlying4
 a4:=Tryz.isAgg4
 z4:=Tryz.sizeOf4
 v4:=Tryz.zeroValue4
 t23:=Tryz.underlying122
 a23:=Tryz.isAgg122
 z23:=Tryz.sizeOf122
 v23:=Tryz.zeroValue122
 t26:=Tryz.underlying3
 a26:=Tryz.isAgg3
 z26:=Tryz.sizeOf3
 v26:=Tryz.zeroValue3
 t27:=Tryz.underlying243
 a27:=Tryz.isAgg243
 z27:=Tryz.sizeOf243
 v27:=Tryz.zeroValue243
 t28:=Tryz.underlying244
 a28:=Tryz.isAgg244
 z28:=Tryz.sizeOf244
 v28:=Tryz.zeroValue244
 t33:=Tryz.underlying53
 a33:=Tryz.isAgg53
 z33:=Tryz.sizeOf53
 v33:=Tryz.zeroValue53}
def Tryz.Qf6:Go.Shelf.Ren:=⟨fun|8=>152|11=>210|n=>n,fun|26=>3|28=>244|24=>37|0=>0|33=>53|4=>4|n=>n,fun|n=>n⟩
theorem Tryz.QkU:Go.Proofs.SlLaysZI.n8 Tryz.prog Tryz.Qf6:={
 mixed:=by kernel_rfl
 f8:=⟨Tryz.f152.name,by decide,Tryz.func152.trans (congrArg some (by kernel_rfl))⟩
 f11:=⟨Tryz.f210.name,by decide,Tryz.func210.trans (congrArg some (by kernel_rfl))⟩
 t0:=Tryz.underlying0
 a0:=Tryz.isAgg0
 z0:=Tryz.sizeOf0
 v0:=Tryz.zeroValue0
 t24:=Tryz.underlying37
 a24:=Tryz.isAgg37
 z24:=Tryz.sizeOf37
 v24:=Tryz.zeroValue37
 t26:=Tryz.underlying3
 a26:=Tryz.isAgg3
 z26:=Tryz.sizeOf3
 v26:=Tryz.zeroValue3
 t28:=Tryz.underlying244
 a28:=Tryz.isAgg244
 z28:=Tryz.sizeOf244
 v28:=Tryz.zeroValue244
 i26:=by kernel_rfl}
end Go.Proofs
