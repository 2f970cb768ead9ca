/- For TopKept. -/
import Derived.Test.YtbleblbfadeciaaGreatDoorLc
import Derived.Test.YtbleblbfadeciaaGreatDoorItb
import Derived.Lib.AppendIntMem
import Derived.Lib.Repeat
import Derived.Test.YtbleblbfadeciaaGreatDoorRa
import Derived.Test.YtbleblbfadeciaaGreatDoorT2
set_option linter.all false
set_option maxHeartbeats 16000000
set_option maxRecDepth 10000
namespace Go.Proofs.YtbleblbfadeciaaGreatDoor
variable{pre:ByteArray}{b wb x:Nat}{w:World}
section
open Go.RowKit Go.Acre Go.Acre.Dk Go.Sort Go.Lib
attribute [local simp] QH
set_option maxRecDepth 100000
theorem Qmd(u:Nat)(ac:1<=u)(ai:u<=1000000000)(w:World)(O:Tab w):Calls Tryz.prog 185 #[.int .u64 u,.int .i64 10] w (Qk (.string ⟨(decDigits u).toArray⟩) w):=by
 have Q:u<18446744073709551616:=by omega
 by_cases hs:u<100
 ·have af:(u:Int)<100:=by omega
  have aj:IntKind.i64.wrap (u:Int)=u:=IntWalk.i64_in _ (by omega);have ad:Hid (∀w,Calls Tryz.prog 234 #[.int .i64 u] w (Is (.string ⟨(decDigits u).toArray⟩) w)):=Zh (fun w=>(Tryz.internal_strconv_small u hs w).mono (fun e w' h=>⟨h.1,h.2.symm⟩));clear O;generalize (decDigits u).toArray =D at*
  go_enter Tryz.func185,Tryz.ntmps185;go_wp2_with fail;refine (ad.out _).mono ?_
  rintro e w' ⟨rfl,rfl⟩;go_wp2_with fail;go_ret;exact⟨rfl,Zr _ _⟩
 ·have af: ¬(u:Int)<100:=by omega
  have ag:nDigits u<=20:=by have:=numDigits_eq u ac Q;split at this<;>omega
  have ab:Tryz.prog.arrayLen 311=24:=by simp[Program.arrayLen,Tryz.underlying311]
  have ah: ∀I,(Instr.sliceAt 311 (.pointer (some ⟨w.heap.size,0,none⟩)) none (some (.int .i64 (nDigits u:Int))) none).run Tryz.prog I= .ok (.slice (some ⟨w.heap.size,0,none⟩) (nDigits u) 24) I:=fun I=>by
   rw[run_sliceAt_array_h I 311 ⟨w.heap.size,0,none⟩ (by simp[Program.arrayLen,Program.elem,Tryz.underlying311]) .i64 (nDigits u:Int) (by omega) (by rw[ab];omega)];go_simp
  have M:=holds_zero0 w 311 (nDigits u) (by omega);have N:=Tryz.internal_strconv_formatBase10 w.heap.size 0 24 u (Array.replicate (nDigits u) 0) (w.alloc (.cells zeros24 311)) M (by rw[Array.size_replicate];exact lt_pow_nDigits u) Q (by rw[Array.size_replicate];omega);rw[Array.size_replicate] at N;have W:=Zh M;have Y:=Zh (Tryz.internal_strconv_numDigits u ac Q (w.alloc (.cells zeros24 311)) (tabIs_alloc O _));have U:=Zh N;clear M ab O N;go_enter Tryz.func185,Tryz.ntmps185;go_wp2_with fail;change Calls _ _ _ (w.alloc (.cells zeros24 311)) _;refine Y.out.mono ?_
  rintro e w' ⟨rfl,rfl⟩;go_wp2_with fail;refine U.out.mono ?_
  rintro e w' ⟨rfl,k,ak,E,rfl,J⟩;have ae:(convert 22 9 (.slice (some ⟨w.heap.size,0,none⟩) (nDigits u) 24)).run Tryz.prog ((putRow (fun (b:UInt8)=>Value.int .u8 (b.toNat:Int)) (w.alloc (.cells zeros24 311)) w.heap.size 0 E).drewN k)= .ok (.string ⟨(decDigits u).toArray⟩) ((putRow (fun (b:UInt8)=>Value.int .u8 (b.toNat:Int)) (w.alloc (.cells zeros24 311)) w.heap.size 0 E).drewN k):=by
   have h:=run_convert_bytes_back (P:=Tryz.prog) ((putRow (fun (b:UInt8)=>Value.int .u8 (b.toNat:Int)) (w.alloc (.cells zeros24 311)) w.heap.size 0 E).drewN k) 22 9 5 ⟨w.heap.size,0,none⟩ 24 (decDigits u) Tryz.underlying22 Tryz.underlying5 Tryz.underlying9 (fun j hj=>by
    rw[row_is_numeral J j hj,add_plain,World.cell?_drewN];exact cell?_putRow (fun (b:UInt8)=>Value.int .u8 (b.toNat:Int)) _ w.heap.size 0 _ E W.out (by rw[J.size,Array.size_replicate]) j (by rw[J.size];rw[decDigits_length] at hj;exact hj))
   rw[decDigits_length] at h;exact h
  obtain⟨os,aa⟩:=fin_at w (.cells zeros24 311) E k 0;have Z:Hid (Qa Ze w ((putRow (fun (b:UInt8)=>Value.int .u8 (b.toNat:Int)) (w.alloc (.cells zeros24 311)) w.heap.size 0 E).drewN k)):=Zh (by rw[aa];exact Qa.of_below (below_grow w.heap.size w (Zf _) k os));generalize (putRow (fun (b:UInt8)=>Value.int .u8 (b.toNat:Int)) (w.alloc (.cells zeros24 311)) w.heap.size 0 E).drewN k=W2 at ae Z ⊢;clear aa W U Y J;go_wp2_with fail;go_ret;exact⟨rfl,Z.out⟩
theorem Qma(u:Nat)(M:1<=u)(E:u<=1000000000)(w:World)(I:Tab w):Calls Tryz.prog 120 #[.int .u64 u,.int .i64 10] w (Qk (.string ⟨(decDigits u).toArray⟩) w):=by
 have J:=Zh (Qmd u M E w I);clear I;generalize (decDigits u).toArray =D at*
 go_enter Tryz.func120,Tryz.ntmps120;go_wp2_with fail;refine J.out.mono ?_
 rintro e w' ⟨rfl,E⟩;go_wp2_with fail;go_ret;exact⟨rfl,E⟩
end
section
open Go.RowKit Go.Acre Go.Acre.Dk
attribute [local simp] QH
theorem Qip: ∀(c:Nat),Lib.repeatL [48] c=List.replicate c 48
 |0=>rfl
 |c+1=>by rw[Lib.repeatL,Qip c];rfl
theorem QnU(pre:ByteArray)(D:x<=1000000000):(pre++⟨(Lib.repeatL [48] (16 - Lib.nDigits x)).toArray⟩)++⟨(Lib.decDigits x).toArray⟩=QJ pre x:=by
 unfold QJ;rw[<-(Qd3 16 x (by omega) (by omega)).1,Qip,KF]
 congr 1
theorem Qfk(M:w.cell? ⟨wb,1,none⟩=some (.string pre))(Q:Tab w)(ag:pre.size<=40)(x:Nat)(hx1:1<=x)(U:x<=1000000000):
  Calls Tryz.prog 59 #[.pointer (some ⟨wb,0,none⟩),.int .u64 x] w (Qk (.string (QJ pre x)) w):=by
 have J:=Zh (Qma x hx1 U w Q);obtain⟨_,ae⟩:=Qd3 16 x (by omega) (by omega);have af:1<=Lib.nDigits x:=by
  unfold Lib.nDigits;split<;>omega
 have ad:(⟨(Lib.decDigits x).toArray⟩:ByteArray).size =Lib.nDigits x:=by
  show (Lib.decDigits x).toArray.size =_;rw[List.size_toArray,Lib.decDigits_length]
 have W:=Zh (QnU pre U);have Y:Hid (∀w,Calls Tryz.prog 121 #[.string ⟨#[48]⟩,.int .i64 (16 - Lib.nDigits x:Nat)] w (Qk (.string ⟨(Lib.repeatL [48] (16 - Lib.nDigits x)).toArray⟩) w)):=Zh (fun w=>(Tryz.strings_Repeat ⟨#[48]⟩ (16 - Lib.nDigits x) w (by omega) (by show 1*_<=_;omega)).mono (fun e w' h=>⟨h.1,Qa.of_below h.2⟩));have ah:(⟨(Lib.repeatL [48] (16 - Lib.nDigits x)).toArray⟩:ByteArray).size =16 - Lib.nDigits x:=by
  show (Lib.repeatL [48] (16 - Lib.nDigits x)).toArray.size =_;rw[List.size_toArray,Lib.repeatL_length];simp
 clear Q;generalize (⟨(Lib.decDigits x).toArray⟩:ByteArray)=DD at*
 generalize (⟨(Lib.repeatL [48] (16 - Lib.nDigits x)).toArray⟩:ByteArray)=RR at*
 generalize Lib.nDigits x=D at*
 have ai:IntKind.i64.wrap (16 - (D:Int))=((16 - D:Nat):Int):=by rw[IntWalk.i64_in _ (by omega)];omega
 have aj: ¬((16 - D:Nat):Int)<0:=by omega
 have ak:(0:Int)<=((16 - D:Nat):Int):=by omega
 have al: ¬9223372036854775807<pre.size+(16 - D):=by omega
 have am: ¬9223372036854775807<pre.size+(16 - D)+D:=by omega
 go_enter Tryz.func59,Tryz.ntmps59;go_wp2_with fail;refine J.out.mono ?_
 rintro e E ⟨rfl,I⟩;have Z:=Zh I;have N:=Qe I M (fun f=>f);clear I J M;go_upto_region 2 with fail
 have hcur:Qa Ze E E.drew:=(Zr _ E).drew;go_region_held3 (fun w'=>w'.cell? ⟨wb,1,none⟩=some (.string pre)) (first|exact N|assumption) ((first
   |(go_at_call 121;refine (Y.out _).mono ?_;rintro e ab ⟨rfl,aa⟩;have O:Qa Ze E ab:=Qa.trans hcur aa (fun _ _ f=>f);have ac:=Qe O N (fun f=>f))))
 all_goals
  go_wp2_with fail;go_ret;exact⟨by rw[<-W.out];rfl,Z.out.trans O (fun _ _ f=>f)⟩
end
section
open Go.RowKit Go.Acre Go.Acre.Dk
attribute [local go_sem ↓] LcG ScG
attribute [local go_sem] Sc1 Sc2 Sc3 Lc2 Lc3
attribute [local simp] QH
def lenV:Value->Nat
 | .string t=>t.size
 |_=>0
def QdJ(w:World)(b:Nat):Prop:=w.heap[b]? =some (.cells (Lib.setCells ten) 252 (0,0))
theorem QrD(h:QdJ w b)(l:List UInt8)(J: ∀c∈l,48<=c.toNat/\c.toNat<58)(hlen:l.length<=1000000):Calls Tryz.prog 169 #[.string ⟨l.toArray⟩,.pointer (some ⟨b,0,none⟩)] w (Qk (.string ⟨#[]⟩) w):=by
 have M:Hid (∀c∈l,∀w',Qa Ze w w'->Calls Tryz.prog 218 #[.pointer (some ⟨b,0,none⟩),.int .u8 c.toNat] w' (Is (.bool true) w')):=Zh (fun c hc w' hu=>(Tryz.asciiSet_contains b c true w' (by
  rw[Qb (hu.keep h (fun f=>f)),Lib.setCells_at,Qrl (J c hc)])).mono (fun e w' h=>⟨h.1,h.2.symm⟩))
 clear J h;go_enter Tryz.func169,Tryz.ntmps169;go_upto_block 0 with fail
 go_wp2_with fail;go_loopw [0] (fun s wr=> ∃j:Nat,s= .string ⟨(l.take j).toArray⟩/\j<=l.length/\Qa Ze w wr) (fun s _=>lenV s)
 case atStart=>exact⟨l.length,by rw[List.take_length],by omega,Zr _ _⟩
 case round=>
  obtain⟨j,rfl,W,E⟩:=hrel;by_cases hlt:0<j
  ·obtain⟨T,D⟩: ∃T:ByteArray,T=⟨(l.take j).toArray⟩:=⟨_,rfl⟩
   have hsz:T.size=j:=by rw[D];show (l.take j).toArray.size =_;rw[List.size_toArray,List.length_take];omega
   have Y:(0:Int)< (j:Int):=by omega
   have Z:IntKind.i64.wrap ((j:Int) - 1)=((j - 1:Nat):Int):=by rw[IntWalk.i64_in _ (by omega)];omega
   have aa:(0:Int)<=((j - 1:Nat):Int):=by omega
   have ab:((j - 1:Nat):Int)< (j:Int):=by omega
   have ac:((j - 1:Nat):Int)<=(j:Int):=by omega
   have U:j - 1<T.size:=by rw[hsz];omega
   have I:T[j - 1]=l[j - 1]'(by omega):=by subst D;show (l.take j).toArray[j - 1]'(by simp;omega)=l[j - 1]'(by omega);simp
   have N:Hid (Calls Tryz.prog 218 #[.pointer (some ⟨b,0,none⟩),.int .u8 T[j - 1].toNat] wr (Is (.bool true) wr)):=Zh (by rw[I];exact M.out _ (List.getElem_mem _) wr E);have Q:T.extract 0 (j - 1)=⟨(l.take (j - 1)).toArray⟩:=by
    subst D;apply ByteArray.ext;rw[ByteArray.data_extract];show (l.take j).toArray.extract 0 (j - 1)=_;rw[List.extract_toArray]
    congr 1
    rw[List.extract_eq_take_drop,List.drop_zero,List.take_take]
    congr 1
    omega
   rw[<-D];clear D I;go_wp2_with fail;refine N.out.mono ?_
   rintro e w' ⟨rfl,rfl⟩;go_wp2_with fail;refine⟨⟨j - 1,rfl,by omega,E⟩,?_⟩;show (l.take (j - 1)).toArray.size <T.size;rw[hsz,List.size_toArray,List.length_take];omega
  ·have O:j=0:=by omega
   subst O;rw[List.take_zero];go_wp2_with fail;go_ret;exact⟨rfl,E⟩
theorem QrC(b:Nat)(w:World):Calls Tryz.prog 168 #[.string ⟨#[]⟩,.pointer (some ⟨b,0,none⟩)] w (Is (.string ⟨#[]⟩) w):=by
 go_enter Tryz.func168,Tryz.ntmps168;go_upto_block 0 with fail
 go_wp2_with fail;go_loopw [0] (fun s wr=>s= .string ⟨#[]⟩/\wr=w) (fun s _=>lenV s)
 case atStart=>exact⟨rfl,rfl⟩
 case round=>
  obtain⟨rfl,rfl⟩:=hrel;go_wp2_with fail;go_ret;exact⟨rfl,rfl⟩
theorem QrB(l:List UInt8)(Q: ∀c∈l,48<=c.toNat/\c.toNat<58)(hlen:l.length<=1000000)(ac:l≠[])(w:World):Calls Tryz.prog 116 #[.string ⟨l.toArray⟩,.string ⟨#[48,49,50,51,52,53,54,55,56,57]⟩] w (Qk (.string ⟨#[]⟩) w):=by
 have J:=Zh (Tryz.strings_makeASCIISet (fun w=>by rw[Tryz.zeroValue252 w,show Tryz.zeroCells252=Array.replicate 256 (.bool false) by kernel_rfl]) ⟨#[48,49,50,51,52,53,54,55,56,57]⟩ w (by decide) (by
  intro j b ae;have U:b∈ten:=List.mem_of_getElem? ae;simp only[ten,List.mem_cons,List.not_mem_nil,or_false] at U;rcases U with rfl|rfl|rfl|rfl|rfl|rfl|rfl|rfl|rfl|rfl<;>decide))
 have I:Hid (∀w b,QdJ w b->Calls Tryz.prog 169 #[.string ⟨l.toArray⟩,.pointer (some ⟨b,0,none⟩)] w (Qk (.string ⟨#[]⟩) w)):=Zh (fun w b ah=>QrD ah l Q hlen);have af:(⟨l.toArray⟩:ByteArray)≠⟨#[]⟩:=by
  intro e;have:=congrArg (fun b:ByteArray=>b.data.toList) e;exact ac (by simpa using this)
 clear Q;generalize (⟨l.toArray⟩:ByteArray)=T at*
 have ag: ¬T.toList=[]:=fun e=>af (by
  apply ByteArray.ext;apply Array.ext';exact (ByteArray.toList_eq T).symm.trans e)
 have al:T.toList.isEmpty=false:=by simpa using ag
 obtain⟨D,E⟩: ∃D,D=Lib.setCells ten:=⟨_,rfl⟩
 have ad:D.size=256:=by rw[E,Lib.setCells_size]
 have N:D.all (·.oneCell')=true:=by rw[E];exact Lib.setCells_one ten
 have O:Tryz.zeroCells252.size=256:=by kernel_rfl
 change Hid (Calls Tryz.prog 167 _ w (fun e w'=>e= .returned (.tuple #[.agg (Lib.setCells ten),.bool true])/\w'=w.alloc (.cells (Lib.setCells ten) 252))) at J;unfold QdJ at I;rw[<-E] at J I;have ak:=Zh E;have M:Hid (∀w:World,(StC ⟨w.heap.size,0,none⟩ D.toList).run Tryz.prog (w.alloc (.cells Tryz.zeroCells252 252))= .ok () ((w.alloc (.cells Tryz.zeroCells252 252)).setRow w.heap.size D)/\((w.alloc (.cells Tryz.zeroCells252 252)).setRow w.heap.size D).heap[w.heap.size]? =some (.cells D 252 (0,0))/\Qa Ze w ((w.alloc (.cells Tryz.zeroCells252 252)).setRow w.heap.size D)):=Zh (fun w=>⟨Qa3 (Qf _) (by rw[ad,O]) N,Xr _ _ D (Qf _),QL ((Zr _ w).alloc _) (g:=w.heap.size) (fun h=>absurd h (by omega)) D⟩);clear E N O;go_enter Tryz.func116,Tryz.ntmps116;go_wp2_with fail;refine J.out.mono ?_
 rintro e w' ⟨rfl,rfl⟩;obtain⟨aj,W,Y⟩:=M.out (w.alloc (.cells D 252));have aa:Hid (Qa Ze w ((w.alloc (.cells D 252)))):=Zh ((Zr _ w).alloc _);generalize w.alloc (.cells D 252)=w1 at*
 go_upto_region 6 with fail
 have Z:=Zh (I.out _ _ W);have ab:=Zh (aa.out.trans Y (fun _ _ f=>f));clear aj W Y;generalize (w1.alloc (.cells Tryz.zeroCells252 252)).setRow w1.heap.size D=w2 at*
 generalize w1.heap.size=b at*
 clear M J I;go_wp2_with fail;refine Z.out.mono ?_
 rintro e am ⟨rfl,ai⟩;go_wp2_with fail;refine (QrC _ _).mono ?_
 rintro e an ⟨rfl,rfl⟩;go_wp2_with fail;go_ret;exact⟨rfl,ab.out.trans ai (fun _ _ f=>f)⟩
theorem QrY(hx1:1<=x)(O:x<=1000000000)(w:World):Calls Tryz.prog 56 #[.string ⟨(XF 16 x).toArray⟩] w (Qk (.int .u64 x) w):=by
 have hlen:=Qbj 16 x;have hsz:(⟨(XF 16 x).toArray⟩:ByteArray).size =16:=by show (XF 16 x).toArray.size =16;rw[List.size_toArray,hlen]
 have E:=Zh (QrB (XF 16 x) (Qgj 16 x) (by omega) (by intro e;rw[e] at hlen;cases hlen));have HP:Hid (∀w,Calls Tryz.prog 117 #[.string ⟨(XF 16 x).toArray⟩,.int .i64 10,.int .i64 64] w (Qk (.tuple #[.int .u64 x,.nilIface]) w)):=Zh (fun w=>(Tryz.strconv_ParseUint_10_at64_ok ⟨(XF 16 x).toArray⟩ (by omega) x (by exact Qot O) w).mono (fun e w' h=>⟨h.1,by
  rcases h.2 with D|D
  ·rw[D];exact Zr _ _
  ·rw[D]
   exact Qa.of_below (Lib.bytesWorld_below w 5 _)⟩))
 have Q: ¬(1000000000000000:Int)< (x:Int):=by omega
 generalize (⟨(XF 16 x).toArray⟩:ByteArray)=T at*
 go_enter Tryz.func56,Tryz.ntmps56;go_wp2_with fail;refine (E.out _).mono ?_
 rintro e U ⟨rfl,J⟩;have I:=Zh J;clear J E;go_wp2_with fail;refine (HP.out _).mono ?_
 rintro e w2 ⟨rfl,M⟩;have N:=Zh (I.out.trans M (fun _ _ f=>f));clear M HP I;go_wp2_with fail;go_ret;exact⟨rfl,N.out⟩
end
end Go.Proofs.YtbleblbfadeciaaGreatDoor
