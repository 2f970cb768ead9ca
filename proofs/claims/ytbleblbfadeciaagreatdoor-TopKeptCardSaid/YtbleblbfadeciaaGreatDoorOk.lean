/- For TopKept. -/
import Derived.Test.YtbleblbfadeciaaGreatDoorLc
import Derived.Test.YtbleblbfadeciaaGreatDoorOa
set_option linter.all false
set_option maxHeartbeats 16000000
set_option maxRecDepth 10000
namespace Go.Proofs.YtbleblbfadeciaaGreatDoor
variable{D:ByteArray}{g i n na nb nc rb s t xb:Nat}{S:Nat->Prop}{P:Program}{ty:TypeId}{Y mv v:Value}{w w':World}
section
open Go.RowKit Go.Acre
attribute [local go_sem ↓] LcG ScG
attribute [local go_sem] Sc1 Sc2 Sc3 Lc2 Lc3
attribute [local go_sem] Kv Kw
def Xm:List Tok->ByteArray->ByteArray
 |[],r=>r
 |t::l,r=>QbJ t++Xm l r
theorem Qir: ∀(l:List Tok) (r:ByteArray),Xw l++r=Xm l r
 |[],r=>Qas r
 |t::l,r=>by rw[Xw,KF,Qir l r];rfl
def prt(i t s k:Nat):Array Value:=((Qh i t s).toList.take k++QG.toList.drop k).toArray
theorem Qpa(i t s:Nat):(prt i t s 0)[0]? =some (.int .u64 0):=rfl
theorem QoN(i t s:Nat):(prt i t s 0).setIfInBounds 0 (.int .u64 (i:Int))=prt i t s 1:=rfl
theorem Qpb(i t s:Nat):(prt i t s 1)[1]? =some (.int .u64 0):=rfl
theorem QoO(i t s:Nat):(prt i t s 1).setIfInBounds 1 (.int .u64 (t:Int))=prt i t s 2:=rfl
theorem Qpm(i t s:Nat):(prt i t s 2)[2]? =some (.int .i64 0):=rfl
theorem QoZ(i t s:Nat):(prt i t s 2).setIfInBounds 2 (.int .i64 ((1:Nat):Int))=prt i t s 3:=rfl
theorem Qpr(i t s:Nat):(prt i t s 3)[3]? =some (.int .i64 0):=rfl
theorem Qo3(i t s:Nat):(prt i t s 3).setIfInBounds 3 (.int .i64 ((kN s:Nat):Int))=prt i t s 4:=by
 rw[<-QcN];rfl
theorem Qps(i t s:Nat):(prt i t s 4)[4]? =some (.int .i64 0):=rfl
theorem Qo4(i t s:Nat):(prt i t s 4).setIfInBounds 4 (.int .i64 ((0:Nat):Int))=prt i t s 5:=rfl
theorem Qpt(i t s:Nat):(prt i t s 5)[5]? =some (.int .u64 0):=rfl
theorem Qo5(i t s:Nat):(prt i t s 5).setIfInBounds 5 (.int .u64 (s:Int))=prt i t s 6:=rfl
theorem Qpu(i t s:Nat):(prt i t s 6)[6]? =some (.int .u64 0):=rfl
theorem Qo6(i t s:Nat):(prt i t s 6).setIfInBounds 6 (.int .u64 ((0:Nat):Int))=prt i t s 7:=rfl
theorem Qpv(i t s:Nat):(prt i t s 7)[7]? =some (.int .i64 0):=rfl
theorem Qo7(i t s:Nat):(prt i t s 7).setIfInBounds 7 (.int .i64 ((oN s:Nat):Int))=prt i t s 8:=by
 rw[<-Qc4];rfl
theorem Qpw(i t s:Nat):(prt i t s 8)[8]? =some (.string ⟨#[]⟩):=rfl
theorem Qo8(i t s:Nat):(prt i t s 8).setIfInBounds 8 (.string (rS s))=prt i t s 9:=rfl
theorem Qpx(i t s:Nat):(prt i t s 9)[9]? =some (.string ⟨#[]⟩):=rfl
theorem Qo9(i t s:Nat):(prt i t s 9).setIfInBounds 9 (.string (cS s))=prt i t s 10:=rfl
theorem Qpc(i t s:Nat):(prt i t s 10)[10]? =some (.string ⟨#[]⟩):=rfl
theorem QoP(i t s:Nat):(prt i t s 10).setIfInBounds 10 (.string (⟨#[]⟩))=prt i t s 11:=rfl
theorem Qpd(i t s:Nat):(prt i t s 11)[11]? =some (.bool false):=rfl
theorem QoQ(i t s:Nat):(prt i t s 11).setIfInBounds 11 (.bool false)=prt i t s 12:=rfl
theorem Qpe(i t s:Nat):(prt i t s 12)[12]? =some (.string ⟨#[]⟩):=rfl
theorem QoR(i t s:Nat):(prt i t s 12).setIfInBounds 12 (.string (⟨#[]⟩))=prt i t s 13:=rfl
theorem Qpf(i t s:Nat):(prt i t s 13)[13]? =some (.int .u64 0):=rfl
theorem QoS(i t s:Nat):(prt i t s 13).setIfInBounds 13 (.int .u64 ((0:Nat):Int))=prt i t s 14:=rfl
theorem Qpg(i t s:Nat):(prt i t s 14)[14]? =some (.int .i64 0):=rfl
theorem QoT(i t s:Nat):(prt i t s 14).setIfInBounds 14 (.int .i64 ((0:Nat):Int))=prt i t s 15:=rfl
theorem Qph(i t s:Nat):(prt i t s 15)[15]? =some (.string ⟨#[]⟩):=rfl
theorem QoU(i t s:Nat):(prt i t s 15).setIfInBounds 15 (.string (⟨#[]⟩))=prt i t s 16:=rfl
theorem Qpi(i t s:Nat):(prt i t s 16)[16]? =some (.string ⟨#[]⟩):=rfl
theorem QoV(i t s:Nat):(prt i t s 16).setIfInBounds 16 (.string (⟨#[]⟩))=prt i t s 17:=rfl
theorem Qpj(i t s:Nat):(prt i t s 17)[17]? =some (.int .i64 0):=rfl
theorem QoW(i t s:Nat):(prt i t s 17).setIfInBounds 17 (.int .i64 ((0:Nat):Int))=prt i t s 18:=rfl
theorem Qpk(i t s:Nat):(prt i t s 18)[18]? =some (.bool false):=rfl
theorem QoX(i t s:Nat):(prt i t s 18).setIfInBounds 18 (.bool false)=prt i t s 19:=rfl
theorem Qpl(i t s:Nat):(prt i t s 19)[19]? =some (.int .i64 0):=rfl
theorem QoY(i t s:Nat):(prt i t s 19).setIfInBounds 19 (.int .i64 ((0:Nat):Int))=prt i t s 20:=rfl
theorem Qpn(i t s:Nat):(prt i t s 20)[20]? =some (.string ⟨#[]⟩):=rfl
theorem Qo0(i t s:Nat):(prt i t s 20).setIfInBounds 20 (.string (⟨#[]⟩))=prt i t s 21:=rfl
theorem Qpo(i t s:Nat):(prt i t s 21)[21]? =some (.int .i64 0):=rfl
theorem Qo1(i t s:Nat):(prt i t s 21).setIfInBounds 21 (.int .i64 ((0:Nat):Int))=prt i t s 22:=rfl
theorem Qpp(i t s:Nat):(prt i t s 22)[22]? =some (.int .i64 0):=rfl
theorem Qo2(i t s:Nat):(prt i t s 22).setIfInBounds 22 (.int .i64 ((0:Nat):Int))=prt i t s 23:=rfl
theorem Qpq(i t s:Nat):(prt i t s 23)[23]? =some (.slice none 0 0):=rfl
theorem Qrh{r:ByteArray}(h:QP w na nb rb nc (Xm (QaU s) r))(aL:w.heap[xb]? =some (.cells (prt i t s 7) 116 (0,0)))(aM:Far xb na nb rb nc)(bq:i<=2000000)(bx:t<=2000000)(bw:s<=2000000):
  Calls Tryz.prog 243 #[.agg #[.func (.func 198) #[] #[.pointer (some ⟨na,0,none⟩),.pointer (some ⟨nb,0,none⟩)],.func (.func 199) #[] #[.pointer (some ⟨na,0,none⟩),.pointer (some ⟨nb,0,none⟩)],.func (.func 200) #[] #[.pointer (some ⟨na,0,none⟩),.pointer (some ⟨nb,0,none⟩)]],.pointer (some ⟨xb,7,none⟩)] w (KB na nb rb nc r xb (prt i t s 13) 116 w):=by
 have aK:=Zh aL;clear aL;have br:=QaK s;have bs:=QaT s;have bv:=W9 s;have bp:=WU s;have bu:(⟨#[]⟩:ByteArray).size <=1:=by decide
 have aZ:=Zh h;have J:=Zh aM;have bz:=Ql aK.out;have bA:rb<w.heap.size:=Ql h.rdr;have bB:=Ql h.good;clear h aM;go_enter Tryz.func243,Tryz.ntmps243;go_upto_region 1 with fail
 have M:=Qf (w:=w) (.cells (Xd na nb) 220);have Z:Qa Ze w (w.alloc (.cells (Xd na nb) 220)):=(Zr _ w).alloc _;change Code.wp _ _ _ _ (w.alloc (.cells (Xd na nb) 220));generalize w.alloc (.cells (Xd na nb) 220)=w0 at*
 have Y: ¬(w.heap.size=rb\/w.heap.size=nc\/w.heap.size=xb):=by omega
 generalize w.heap.size=wb at*
 have al:Hid (QP w0 na nb rb nc (str (num (oN s))++Xm ([.s (rS s),.s (cS s),.s ⟨#[]⟩,.f false,.s ⟨#[]⟩]) r)):=Zh (aZ.out.Qc Z);have aE:=Zh (Z.keep aK.out (fun f=>f));have az:=Zh M;have ar:Hid (Qa (fun i=>i=rb\/i=nc\/i=xb) w w0):=Zh (Z.mono (fun _ _ f=>f.elim));have a4:w0.cell? ⟨wb,0,none⟩=some (.func (.func 198) #[] #[.pointer (some ⟨na,0,none⟩),.pointer (some ⟨nb,0,none⟩)]):=Qb M 0;have ba:w0.cell? ⟨wb,1,none⟩=some (.func (.func 199) #[] #[.pointer (some ⟨na,0,none⟩),.pointer (some ⟨nb,0,none⟩)]):=Qb M 1;have bh:w0.cell? ⟨wb,2,none⟩=some (.func (.func 200) #[] #[.pointer (some ⟨na,0,none⟩),.pointer (some ⟨nb,0,none⟩)]):=Qb M 2;clear Z M;have af:=Zh (by
  have h:=Qab (v:=oN s) (al.out.Qc ((Zr Ze w0).drew)) (show w0.drew.heap[xb]? =_ from aE.out) (Qpv i t s) J.out (by omega);rw[Qo7 i t s] at h;exact h)
 go_region_with (go_at_call 195;refine af.out.mono ?_;rintro e D ⟨rfl,aN,hx1,aa⟩);have am:Hid (QP D na nb rb nc (txt (rS s)++Xm ([.s (cS s),.s ⟨#[]⟩,.f false,.s ⟨#[]⟩]) r)):=Zh aN;have aF:Hid (D.heap[xb]? =some (.cells (prt i t s 8) 116 (0,0))):=Zh hx1;have au:Hid (Qa (fun i=>i=rb\/i=nc\/i=xb) w D):=Zh ((ar.out.drew).trans aa (fun _ _ h=>h));have N:=(((Zr (fun i=>i=rb\/i=nc\/i=xb) w0).drew).trans aa (fun _ _ h=>h)).keep az.out Y;have aA:=Zh N;have a5:D.cell? ⟨wb,0,none⟩=some (.func (.func 198) #[] #[.pointer (some ⟨na,0,none⟩),.pointer (some ⟨nb,0,none⟩)]):=Qb N 0;have bb:D.cell? ⟨wb,1,none⟩=some (.func (.func 199) #[] #[.pointer (some ⟨na,0,none⟩),.pointer (some ⟨nb,0,none⟩)]):=Qb N 1;have bj:D.cell? ⟨wb,2,none⟩=some (.func (.func 200) #[] #[.pointer (some ⟨na,0,none⟩),.pointer (some ⟨nb,0,none⟩)]):=Qb N 2;clear aN hx1 aa N a4 ba bh af al aE az ar;go_upto_region 2 with fail
 have ag:=Zh (by
  have h:=Qa6 (v:=rS s) (am.out.Qc ((Zr Ze D).drew)) (show D.drew.heap[xb]? =_ from aF.out) (Qpw i t s) J.out 65536 (by omega) (by omega);rw[Qo8 i t s] at h;exact h)
 go_region_with (go_at_call 199;refine ag.out.mono ?_;rintro e w2 ⟨rfl,aO,aU,ab⟩);have an:Hid (QP w2 na nb rb nc (txt (cS s)++Xm ([.s ⟨#[]⟩,.f false,.s ⟨#[]⟩]) r)):=Zh aO;have aG:Hid (w2.heap[xb]? =some (.cells (prt i t s 9) 116 (0,0))):=Zh aU;have av:Hid (Qa (fun i=>i=rb\/i=nc\/i=xb) w w2):=Zh ((au.out.drew).trans ab (fun _ _ h=>h));have O:=(((Zr (fun i=>i=rb\/i=nc\/i=xb) D).drew).trans ab (fun _ _ h=>h)).keep aA.out Y;have aB:=Zh O;have a6:w2.cell? ⟨wb,0,none⟩=some (.func (.func 198) #[] #[.pointer (some ⟨na,0,none⟩),.pointer (some ⟨nb,0,none⟩)]):=Qb O 0;have bc:w2.cell? ⟨wb,1,none⟩=some (.func (.func 199) #[] #[.pointer (some ⟨na,0,none⟩),.pointer (some ⟨nb,0,none⟩)]):=Qb O 1;have bk:w2.cell? ⟨wb,2,none⟩=some (.func (.func 200) #[] #[.pointer (some ⟨na,0,none⟩),.pointer (some ⟨nb,0,none⟩)]):=Qb O 2;clear aO aU ab O a5 bb bj ag am aF aA au;go_upto_region 3 with fail
 have ah:=Zh (by
  have h:=Qa6 (v:=cS s) (an.out.Qc ((Zr Ze w2).drew)) (show w2.drew.heap[xb]? =_ from aG.out) (Qpx i t s) J.out 65536 (by omega) (by omega);rw[Qo9 i t s] at h;exact h)
 go_region_with (go_at_call 199;refine ah.out.mono ?_;rintro e E ⟨rfl,aP,aV,ac⟩);have ao:Hid (QP E na nb rb nc (txt ⟨#[]⟩++Xm ([.f false,.s ⟨#[]⟩]) r)):=Zh aP;have aH:Hid (E.heap[xb]? =some (.cells (prt i t s 10) 116 (0,0))):=Zh aV;have aw:Hid (Qa (fun i=>i=rb\/i=nc\/i=xb) w E):=Zh ((av.out.drew).trans ac (fun _ _ h=>h));have Q:=(((Zr (fun i=>i=rb\/i=nc\/i=xb) w2).drew).trans ac (fun _ _ h=>h)).keep aB.out Y;have aC:=Zh Q;have a7:E.cell? ⟨wb,0,none⟩=some (.func (.func 198) #[] #[.pointer (some ⟨na,0,none⟩),.pointer (some ⟨nb,0,none⟩)]):=Qb Q 0;have bd:E.cell? ⟨wb,1,none⟩=some (.func (.func 199) #[] #[.pointer (some ⟨na,0,none⟩),.pointer (some ⟨nb,0,none⟩)]):=Qb Q 1;have bm:E.cell? ⟨wb,2,none⟩=some (.func (.func 200) #[] #[.pointer (some ⟨na,0,none⟩),.pointer (some ⟨nb,0,none⟩)]):=Qb Q 2;clear aP aV ac Q a6 bc bk ah an aG aB av;go_upto_region 4 with fail
 have ai:=Zh (by
  have h:=Qa6 (v:=⟨#[]⟩) (ao.out.Qc ((Zr Ze E).drew)) (show E.drew.heap[xb]? =_ from aH.out) (Qpc i t s) J.out 65536 (by omega) (by omega);rw[QoP i t s] at h;exact h)
 go_region_with (go_at_call 199;refine ai.out.mono ?_;rintro e I ⟨rfl,aQ,aW,ad⟩);have ap:Hid (QP I na nb rb nc (str [0]++Xm ([.s ⟨#[]⟩]) r)):=Zh aQ;have aI:Hid (I.heap[xb]? =some (.cells (prt i t s 11) 116 (0,0))):=Zh aW;have ax:Hid (Qa (fun i=>i=rb\/i=nc\/i=xb) w I):=Zh ((aw.out.drew).trans ad (fun _ _ h=>h));have U:=(((Zr (fun i=>i=rb\/i=nc\/i=xb) E).drew).trans ad (fun _ _ h=>h)).keep aC.out Y;have aD:=Zh U;have a8:I.cell? ⟨wb,0,none⟩=some (.func (.func 198) #[] #[.pointer (some ⟨na,0,none⟩),.pointer (some ⟨nb,0,none⟩)]):=Qb U 0;have be:I.cell? ⟨wb,1,none⟩=some (.func (.func 199) #[] #[.pointer (some ⟨na,0,none⟩),.pointer (some ⟨nb,0,none⟩)]):=Qb U 1;have bn:I.cell? ⟨wb,2,none⟩=some (.func (.func 200) #[] #[.pointer (some ⟨na,0,none⟩),.pointer (some ⟨nb,0,none⟩)]):=Qb U 2;clear aQ aW ad U a7 bd bm ai ao aH aC aw;go_upto_region 5 with fail
 have aj:=Zh (by
  have h:=Qi3 (ap.out.Qc ((Zr Ze I).drew)) (show I.drew.heap[xb]? =_ from aI.out) (Qpd i t s) J.out;rw[QoQ i t s] at h;exact h)
 go_region_with (go_at_call 200;refine aj.out.mono ?_;rintro e w5 ⟨rfl,aR,aX,ae⟩);have aq:Hid (QP w5 na nb rb nc (txt ⟨#[]⟩++Xm ([]) r)):=Zh aR;have aJ:Hid (w5.heap[xb]? =some (.cells (prt i t s 12) 116 (0,0))):=Zh aX;have ay:Hid (Qa (fun i=>i=rb\/i=nc\/i=xb) w w5):=Zh ((ax.out.drew).trans ae (fun _ _ h=>h));have W:=(((Zr (fun i=>i=rb\/i=nc\/i=xb) I).drew).trans ae (fun _ _ h=>h)).keep aD.out Y;have a2:=Zh W;have a9:w5.cell? ⟨wb,0,none⟩=some (.func (.func 198) #[] #[.pointer (some ⟨na,0,none⟩),.pointer (some ⟨nb,0,none⟩)]):=Qb W 0;have bg:w5.cell? ⟨wb,1,none⟩=some (.func (.func 199) #[] #[.pointer (some ⟨na,0,none⟩),.pointer (some ⟨nb,0,none⟩)]):=Qb W 1;have bo:w5.cell? ⟨wb,2,none⟩=some (.func (.func 200) #[] #[.pointer (some ⟨na,0,none⟩),.pointer (some ⟨nb,0,none⟩)]):=Qb W 2;clear aR aX ae W a8 be bn aj ap aI aD ax;go_upto_region 6 with fail
 have ak:=Zh (by
  have h:=Qa6 (v:=⟨#[]⟩) (aq.out.Qc ((Zr Ze w5).drew)) (show w5.drew.heap[xb]? =_ from aJ.out) (Qpe i t s) J.out 65536 (by omega) (by omega);rw[QoR i t s] at h;exact h)
 go_region_with (go_at_call 199;refine ak.out.mono ?_;rintro e w6 ⟨rfl,aS,aY,aT⟩);have a0:Hid (QP w6 na nb rb nc (r)):=Zh aS;have a3:Hid (w6.heap[xb]? =some (.cells (prt i t s 13) 116 (0,0))):=Zh aY;have a1:Hid (Qa (fun i=>i=rb\/i=nc\/i=xb) w w6):=Zh ((ay.out.drew).trans aT (fun _ _ h=>h));clear aS aY aT a9 bg bo ak aq aJ a2 ay;go_wp2_with fail;go_end0;exact⟨rfl,a0.out,a3.out,a1.out⟩
theorem Qrd{r:ByteArray}(h:QP w na nb rb nc (Xm (QaD s) r))(bX:w.heap[xb]? =some (.cells (prt i t s 3) 116 (0,0)))(bY:Far xb na nb rb nc)(dp:i<=2000000)(dr:t<=2000000)(dq:s<=2000000):
  Calls Tryz.prog 196 #[.agg #[.func (.func 198) #[] #[.pointer (some ⟨na,0,none⟩),.pointer (some ⟨nb,0,none⟩)],.func (.func 199) #[] #[.pointer (some ⟨na,0,none⟩),.pointer (some ⟨nb,0,none⟩)],.func (.func 200) #[] #[.pointer (some ⟨na,0,none⟩),.pointer (some ⟨nb,0,none⟩)]],.pointer (some ⟨xb,3,none⟩)] w (KB na nb rb nc r xb (prt i t s 23) 116 w):=by
 have bW:=Zh bX;clear bX;have dt:=QaK s;have du:=QaT s;have dw:=W9 s;have ds:=WU s;have dv:(⟨#[]⟩:ByteArray).size <=1:=by decide
 have cw:=Zh h;have D:=Zh bY;have dx:=Ql bW.out;have dy:rb<w.heap.size:=Ql h.rdr;have dz:=Ql h.good;clear h bY;go_enter Tryz.func196,Tryz.ntmps196;go_upto_region 1 with fail
 have Y:=Qf (w:=w) (.cells (Xd na nb) 220);have an:Qa Ze w (w.alloc (.cells (Xd na nb) 220)):=(Zr _ w).alloc _;change Code.wp _ _ _ _ (w.alloc (.cells (Xd na nb) 220));generalize w.alloc (.cells (Xd na nb) 220)=w0 at*
 have E: ¬(w.heap.size=rb\/w.heap.size=nc\/w.heap.size=xb):=by omega
 generalize w.heap.size=wb at*
 have aU:Hid (QP w0 na nb rb nc (str (num (kN s))++Xm ([.n 0,.n s,.n 0,.n (oN s),.s (rS s),.s (cS s),.s ⟨#[]⟩,.f false,.s ⟨#[]⟩,.n 0,.n 0,.s ⟨#[]⟩,.s ⟨#[]⟩,.n 0,.f false,.n 0,.s ⟨#[]⟩,.n 0,.n 0]) r)):=Zh (cw.out.Qc an);have bH:=Zh (an.keep bW.out (fun f=>f));have br:=Zh Y;have a9:Hid (Qa (fun i=>i=rb\/i=nc\/i=xb) w w0):=Zh (an.mono (fun _ _ f=>f.elim));have cB:w0.cell? ⟨wb,0,none⟩=some (.func (.func 198) #[] #[.pointer (some ⟨na,0,none⟩),.pointer (some ⟨nb,0,none⟩)]):=Qb Y 0;have cQ:w0.cell? ⟨wb,1,none⟩=some (.func (.func 199) #[] #[.pointer (some ⟨na,0,none⟩),.pointer (some ⟨nb,0,none⟩)]):=Qb Y 1;have c7:w0.cell? ⟨wb,2,none⟩=some (.func (.func 200) #[] #[.pointer (some ⟨na,0,none⟩),.pointer (some ⟨nb,0,none⟩)]):=Qb Y 2;clear an Y;have aF:=Zh (by
  have h:=Qab (v:=kN s) (aU.out.Qc ((Zr Ze w0).drew)) (show w0.drew.heap[xb]? =_ from bH.out) (Qpr i t s) D.out (by omega);rw[Qo3 i t s] at h;exact h)
 go_region_with (go_at_call 195;refine aF.out.mono ?_;rintro e I ⟨rfl,bZ,hx1,ao⟩);have aV:Hid (QP I na nb rb nc (str (num 0)++Xm ([.n s,.n 0,.n (oN s),.s (rS s),.s (cS s),.s ⟨#[]⟩,.f false,.s ⟨#[]⟩,.n 0,.n 0,.s ⟨#[]⟩,.s ⟨#[]⟩,.n 0,.f false,.n 0,.s ⟨#[]⟩,.n 0,.n 0]) r)):=Zh bZ;have bI:Hid (I.heap[xb]? =some (.cells (prt i t s 4) 116 (0,0))):=Zh hx1;have ba:Hid (Qa (fun i=>i=rb\/i=nc\/i=xb) w I):=Zh ((a9.out.drew).trans ao (fun _ _ h=>h));have Z:=(((Zr (fun i=>i=rb\/i=nc\/i=xb) w0).drew).trans ao (fun _ _ h=>h)).keep br.out E;have bs:=Zh Z;have cC:I.cell? ⟨wb,0,none⟩=some (.func (.func 198) #[] #[.pointer (some ⟨na,0,none⟩),.pointer (some ⟨nb,0,none⟩)]):=Qb Z 0;have cR:I.cell? ⟨wb,1,none⟩=some (.func (.func 199) #[] #[.pointer (some ⟨na,0,none⟩),.pointer (some ⟨nb,0,none⟩)]):=Qb Z 1;have c8:I.cell? ⟨wb,2,none⟩=some (.func (.func 200) #[] #[.pointer (some ⟨na,0,none⟩),.pointer (some ⟨nb,0,none⟩)]):=Qb Z 2;clear bZ hx1 ao Z cB cQ c7 aF aU bH br a9;go_upto_region 2 with fail
 have aG:=Zh (by
  have h:=Qab (v:=0) (aV.out.Qc ((Zr Ze I).drew)) (show I.drew.heap[xb]? =_ from bI.out) (Qps i t s) D.out (by omega);rw[Qo4 i t s] at h;exact h)
 go_region_with (go_at_call 195;refine aG.out.mono ?_;rintro e w2 ⟨rfl,b6,co,aw⟩);have a1:Hid (QP w2 na nb rb nc (str (num s)++Xm ([.n 0,.n (oN s),.s (rS s),.s (cS s),.s ⟨#[]⟩,.f false,.s ⟨#[]⟩,.n 0,.n 0,.s ⟨#[]⟩,.s ⟨#[]⟩,.n 0,.f false,.n 0,.s ⟨#[]⟩,.n 0,.n 0]) r)):=Zh b6;have bO:Hid (w2.heap[xb]? =some (.cells (prt i t s 5) 116 (0,0))):=Zh co;have bh:Hid (Qa (fun i=>i=rb\/i=nc\/i=xb) w w2):=Zh ((ba.out.drew).trans aw (fun _ _ h=>h));have af:=(((Zr (fun i=>i=rb\/i=nc\/i=xb) I).drew).trans aw (fun _ _ h=>h)).keep bs.out E;have bz:=Zh af;have cI:w2.cell? ⟨wb,0,none⟩=some (.func (.func 198) #[] #[.pointer (some ⟨na,0,none⟩),.pointer (some ⟨nb,0,none⟩)]):=Qb af 0;have cY:w2.cell? ⟨wb,1,none⟩=some (.func (.func 199) #[] #[.pointer (some ⟨na,0,none⟩),.pointer (some ⟨nb,0,none⟩)]):=Qb af 1;have dg:w2.cell? ⟨wb,2,none⟩=some (.func (.func 200) #[] #[.pointer (some ⟨na,0,none⟩),.pointer (some ⟨nb,0,none⟩)]):=Qb af 2;clear b6 co aw af cC cR c8 aG aV bI bs ba;go_upto_region 3 with fail
 have aM:=Zh (by
  have h:=Qa5 (v:=s) (a1.out.Qc ((Zr Ze w2).drew)) (show w2.drew.heap[xb]? =_ from bO.out) (Qpt i t s) D.out (by omega) 1099511627776 (by omega);rw[Qo5 i t s] at h;exact h)
 go_region_with (go_at_call 198;refine aM.out.mono ?_;rintro e Q ⟨rfl,b7,cp,ax⟩);have a2:Hid (QP Q na nb rb nc (str (num 0)++Xm ([.n (oN s),.s (rS s),.s (cS s),.s ⟨#[]⟩,.f false,.s ⟨#[]⟩,.n 0,.n 0,.s ⟨#[]⟩,.s ⟨#[]⟩,.n 0,.f false,.n 0,.s ⟨#[]⟩,.n 0,.n 0]) r)):=Zh b7;have bP:Hid (Q.heap[xb]? =some (.cells (prt i t s 6) 116 (0,0))):=Zh cp;have bj:Hid (Qa (fun i=>i=rb\/i=nc\/i=xb) w Q):=Zh ((bh.out.drew).trans ax (fun _ _ h=>h));have ag:=(((Zr (fun i=>i=rb\/i=nc\/i=xb) w2).drew).trans ax (fun _ _ h=>h)).keep bz.out E;have bA:=Zh ag;have cJ:Q.cell? ⟨wb,0,none⟩=some (.func (.func 198) #[] #[.pointer (some ⟨na,0,none⟩),.pointer (some ⟨nb,0,none⟩)]):=Qb ag 0;have cZ:Q.cell? ⟨wb,1,none⟩=some (.func (.func 199) #[] #[.pointer (some ⟨na,0,none⟩),.pointer (some ⟨nb,0,none⟩)]):=Qb ag 1;have dh:Q.cell? ⟨wb,2,none⟩=some (.func (.func 200) #[] #[.pointer (some ⟨na,0,none⟩),.pointer (some ⟨nb,0,none⟩)]):=Qb ag 2;clear b7 cp ax ag cI cY dg aM a1 bO bz bh;go_upto_region 4 with fail
 have aN:=Zh (by
  have h:=Qa5 (v:=0) (a2.out.Qc ((Zr Ze Q).drew)) (show Q.drew.heap[xb]? =_ from bP.out) (Qpu i t s) D.out (by omega) 1099511627776 (by omega);rw[Qo6 i t s] at h;exact h)
 go_region_with (go_at_call 198;refine aN.out.mono ?_;rintro e U ⟨rfl,b8,cq,ay⟩);have a3:Hid (QP U na nb rb nc (Xm (QaU s) (Xm ([.n 0,.n 0,.s ⟨#[]⟩,.s ⟨#[]⟩,.n 0,.f false,.n 0,.s ⟨#[]⟩,.n 0,.n 0]) r))):=Zh b8;have bQ:Hid (U.heap[xb]? =some (.cells (prt i t s 7) 116 (0,0))):=Zh cq;have bk:Hid (Qa (fun i=>i=rb\/i=nc\/i=xb) w U):=Zh ((bj.out.drew).trans ay (fun _ _ h=>h));have ah:=(((Zr (fun i=>i=rb\/i=nc\/i=xb) Q).drew).trans ay (fun _ _ h=>h)).keep bA.out E;have bB:=Zh ah;have cK:U.cell? ⟨wb,0,none⟩=some (.func (.func 198) #[] #[.pointer (some ⟨na,0,none⟩),.pointer (some ⟨nb,0,none⟩)]):=Qb ah 0;have c0:U.cell? ⟨wb,1,none⟩=some (.func (.func 199) #[] #[.pointer (some ⟨na,0,none⟩),.pointer (some ⟨nb,0,none⟩)]):=Qb ah 1;have di:U.cell? ⟨wb,2,none⟩=some (.func (.func 200) #[] #[.pointer (some ⟨na,0,none⟩),.pointer (some ⟨nb,0,none⟩)]):=Qb ah 2;clear b8 cq ay ah cJ cZ dh aN a2 bP bA bj;go_upto_region 5 with fail
 have aO:=Zh (by
  have h:=Qrh (i:=i) (t:=t) (s:=s) (a3.out.Qc ((Zr Ze U).drew)) (show U.drew.heap[xb]? =_ from bQ.out) D.out dp dr dq;exact h)
 go_region_with (go_at_call 243;refine aO.out.mono ?_;rintro e w5 ⟨rfl,b9,cr,az⟩);have a4:Hid (QP w5 na nb rb nc (str (num 0)++Xm ([.n 0,.s ⟨#[]⟩,.s ⟨#[]⟩,.n 0,.f false,.n 0,.s ⟨#[]⟩,.n 0,.n 0]) r)):=Zh b9;have bR:Hid (w5.heap[xb]? =some (.cells (prt i t s 13) 116 (0,0))):=Zh cr;have bm:Hid (Qa (fun i=>i=rb\/i=nc\/i=xb) w w5):=Zh ((bk.out.drew).trans az (fun _ _ h=>h));have ai:=(((Zr (fun i=>i=rb\/i=nc\/i=xb) U).drew).trans az (fun _ _ h=>h)).keep bB.out E;have bC:=Zh ai;have cL:w5.cell? ⟨wb,0,none⟩=some (.func (.func 198) #[] #[.pointer (some ⟨na,0,none⟩),.pointer (some ⟨nb,0,none⟩)]):=Qb ai 0;have c1:w5.cell? ⟨wb,1,none⟩=some (.func (.func 199) #[] #[.pointer (some ⟨na,0,none⟩),.pointer (some ⟨nb,0,none⟩)]):=Qb ai 1;have dj:w5.cell? ⟨wb,2,none⟩=some (.func (.func 200) #[] #[.pointer (some ⟨na,0,none⟩),.pointer (some ⟨nb,0,none⟩)]):=Qb ai 2;clear b9 cr az ai cK c0 di aO a3 bQ bB bk;go_upto_region 6 with fail
 have aP:=Zh (by
  have h:=Qa5 (v:=0) (a4.out.Qc ((Zr Ze w5).drew)) (show w5.drew.heap[xb]? =_ from bR.out) (Qpf i t s) D.out (by omega) 1099511627776 (by omega);rw[QoS i t s] at h;exact h)
 go_region_with (go_at_call 198;refine aP.out.mono ?_;rintro e w6 ⟨rfl,ca,cs,aA⟩);have a5:Hid (QP w6 na nb rb nc (str (num 0)++Xm ([.s ⟨#[]⟩,.s ⟨#[]⟩,.n 0,.f false,.n 0,.s ⟨#[]⟩,.n 0,.n 0]) r)):=Zh ca;have bS:Hid (w6.heap[xb]? =some (.cells (prt i t s 14) 116 (0,0))):=Zh cs;have bn:Hid (Qa (fun i=>i=rb\/i=nc\/i=xb) w w6):=Zh ((bm.out.drew).trans aA (fun _ _ h=>h));have aj:=(((Zr (fun i=>i=rb\/i=nc\/i=xb) w5).drew).trans aA (fun _ _ h=>h)).keep bC.out E;have bD:=Zh aj;have cM:w6.cell? ⟨wb,0,none⟩=some (.func (.func 198) #[] #[.pointer (some ⟨na,0,none⟩),.pointer (some ⟨nb,0,none⟩)]):=Qb aj 0;have c2:w6.cell? ⟨wb,1,none⟩=some (.func (.func 199) #[] #[.pointer (some ⟨na,0,none⟩),.pointer (some ⟨nb,0,none⟩)]):=Qb aj 1;have dk:w6.cell? ⟨wb,2,none⟩=some (.func (.func 200) #[] #[.pointer (some ⟨na,0,none⟩),.pointer (some ⟨nb,0,none⟩)]):=Qb aj 2;clear ca cs aA aj cL c1 dj aP a4 bR bC bm;go_upto_region 7 with fail
 have aQ:=Zh (by
  have h:=Qab (v:=0) (a5.out.Qc ((Zr Ze w6).drew)) (show w6.drew.heap[xb]? =_ from bS.out) (Qpg i t s) D.out (by omega);rw[QoT i t s] at h;exact h)
 go_region_with (go_at_call 195;refine aQ.out.mono ?_;rintro e w7 ⟨rfl,cb,ct,aB⟩);have a6:Hid (QP w7 na nb rb nc (txt ⟨#[]⟩++Xm ([.s ⟨#[]⟩,.n 0,.f false,.n 0,.s ⟨#[]⟩,.n 0,.n 0]) r)):=Zh cb;have bT:Hid (w7.heap[xb]? =some (.cells (prt i t s 15) 116 (0,0))):=Zh ct;have bo:Hid (Qa (fun i=>i=rb\/i=nc\/i=xb) w w7):=Zh ((bn.out.drew).trans aB (fun _ _ h=>h));have ak:=(((Zr (fun i=>i=rb\/i=nc\/i=xb) w6).drew).trans aB (fun _ _ h=>h)).keep bD.out E;have bE:=Zh ak;have cN:w7.cell? ⟨wb,0,none⟩=some (.func (.func 198) #[] #[.pointer (some ⟨na,0,none⟩),.pointer (some ⟨nb,0,none⟩)]):=Qb ak 0;have c3:w7.cell? ⟨wb,1,none⟩=some (.func (.func 199) #[] #[.pointer (some ⟨na,0,none⟩),.pointer (some ⟨nb,0,none⟩)]):=Qb ak 1;have dl:w7.cell? ⟨wb,2,none⟩=some (.func (.func 200) #[] #[.pointer (some ⟨na,0,none⟩),.pointer (some ⟨nb,0,none⟩)]):=Qb ak 2;clear cb ct aB ak cM c2 dk aQ a5 bS bD bn;go_upto_region 8 with fail
 have aR:=Zh (by
  have h:=Qa6 (v:=⟨#[]⟩) (a6.out.Qc ((Zr Ze w7).drew)) (show w7.drew.heap[xb]? =_ from bT.out) (Qph i t s) D.out 65536 (by omega) (by omega);rw[QoU i t s] at h;exact h)
 go_region_with (go_at_call 199;refine aR.out.mono ?_;rintro e w8 ⟨rfl,ce,cu,aC⟩);have a7:Hid (QP w8 na nb rb nc (txt ⟨#[]⟩++Xm ([.n 0,.f false,.n 0,.s ⟨#[]⟩,.n 0,.n 0]) r)):=Zh ce;have bU:Hid (w8.heap[xb]? =some (.cells (prt i t s 16) 116 (0,0))):=Zh cu;have bp:Hid (Qa (fun i=>i=rb\/i=nc\/i=xb) w w8):=Zh ((bo.out.drew).trans aC (fun _ _ h=>h));have al:=(((Zr (fun i=>i=rb\/i=nc\/i=xb) w7).drew).trans aC (fun _ _ h=>h)).keep bE.out E;have bF:=Zh al;have cO:w8.cell? ⟨wb,0,none⟩=some (.func (.func 198) #[] #[.pointer (some ⟨na,0,none⟩),.pointer (some ⟨nb,0,none⟩)]):=Qb al 0;have c4:w8.cell? ⟨wb,1,none⟩=some (.func (.func 199) #[] #[.pointer (some ⟨na,0,none⟩),.pointer (some ⟨nb,0,none⟩)]):=Qb al 1;have dm:w8.cell? ⟨wb,2,none⟩=some (.func (.func 200) #[] #[.pointer (some ⟨na,0,none⟩),.pointer (some ⟨nb,0,none⟩)]):=Qb al 2;clear ce cu aC al cN c3 dl aR a6 bT bE bo;go_upto_region 9 with fail
 have aS:=Zh (by
  have h:=Qa6 (v:=⟨#[]⟩) (a7.out.Qc ((Zr Ze w8).drew)) (show w8.drew.heap[xb]? =_ from bU.out) (Qpi i t s) D.out 65536 (by omega) (by omega);rw[QoV i t s] at h;exact h)
 go_region_with (go_at_call 199;refine aS.out.mono ?_;rintro e w9 ⟨rfl,cf,cv,aD⟩);have a8:Hid (QP w9 na nb rb nc (str (num 0)++Xm ([.f false,.n 0,.s ⟨#[]⟩,.n 0,.n 0]) r)):=Zh cf;have bV:Hid (w9.heap[xb]? =some (.cells (prt i t s 17) 116 (0,0))):=Zh cv;have bq:Hid (Qa (fun i=>i=rb\/i=nc\/i=xb) w w9):=Zh ((bp.out.drew).trans aD (fun _ _ h=>h));have am:=(((Zr (fun i=>i=rb\/i=nc\/i=xb) w8).drew).trans aD (fun _ _ h=>h)).keep bF.out E;have bG:=Zh am;have cP:w9.cell? ⟨wb,0,none⟩=some (.func (.func 198) #[] #[.pointer (some ⟨na,0,none⟩),.pointer (some ⟨nb,0,none⟩)]):=Qb am 0;have c6:w9.cell? ⟨wb,1,none⟩=some (.func (.func 199) #[] #[.pointer (some ⟨na,0,none⟩),.pointer (some ⟨nb,0,none⟩)]):=Qb am 1;have dn:w9.cell? ⟨wb,2,none⟩=some (.func (.func 200) #[] #[.pointer (some ⟨na,0,none⟩),.pointer (some ⟨nb,0,none⟩)]):=Qb am 2;clear cf cv aD am cO c4 dm aS a7 bU bF bp;go_upto_region 10 with fail
 have aT:=Zh (by
  have h:=Qab (v:=0) (a8.out.Qc ((Zr Ze w9).drew)) (show w9.drew.heap[xb]? =_ from bV.out) (Qpj i t s) D.out (by omega);rw[QoW i t s] at h;exact h)
 go_region_with (go_at_call 195;refine aT.out.mono ?_;rintro e J ⟨rfl,b0,ch,ap⟩);have aW:Hid (QP J na nb rb nc (str [0]++Xm ([.n 0,.s ⟨#[]⟩,.n 0,.n 0]) r)):=Zh b0;have bJ:Hid (J.heap[xb]? =some (.cells (prt i t s 18) 116 (0,0))):=Zh ch;have bb:Hid (Qa (fun i=>i=rb\/i=nc\/i=xb) w J):=Zh ((bq.out.drew).trans ap (fun _ _ h=>h));have aa:=(((Zr (fun i=>i=rb\/i=nc\/i=xb) w9).drew).trans ap (fun _ _ h=>h)).keep bG.out E;have bu:=Zh aa;have cD:J.cell? ⟨wb,0,none⟩=some (.func (.func 198) #[] #[.pointer (some ⟨na,0,none⟩),.pointer (some ⟨nb,0,none⟩)]):=Qb aa 0;have cT:J.cell? ⟨wb,1,none⟩=some (.func (.func 199) #[] #[.pointer (some ⟨na,0,none⟩),.pointer (some ⟨nb,0,none⟩)]):=Qb aa 1;have da:J.cell? ⟨wb,2,none⟩=some (.func (.func 200) #[] #[.pointer (some ⟨na,0,none⟩),.pointer (some ⟨nb,0,none⟩)]):=Qb aa 2;clear b0 ch ap aa cP c6 dn aT a8 bV bG bq;go_upto_region 11 with fail
 have aH:=Zh (by
  have h:=Qi3 (aW.out.Qc ((Zr Ze J).drew)) (show J.drew.heap[xb]? =_ from bJ.out) (Qpk i t s) D.out;rw[QoX i t s] at h;exact h)
 go_region_with (go_at_call 200;refine aH.out.mono ?_;rintro e M ⟨rfl,b1,ci,aq⟩);have aX:Hid (QP M na nb rb nc (str (num 0)++Xm ([.s ⟨#[]⟩,.n 0,.n 0]) r)):=Zh b1;have bK:Hid (M.heap[xb]? =some (.cells (prt i t s 19) 116 (0,0))):=Zh ci;have bc:Hid (Qa (fun i=>i=rb\/i=nc\/i=xb) w M):=Zh ((bb.out.drew).trans aq (fun _ _ h=>h));have ab:=(((Zr (fun i=>i=rb\/i=nc\/i=xb) J).drew).trans aq (fun _ _ h=>h)).keep bu.out E;have bv:=Zh ab;have cE:M.cell? ⟨wb,0,none⟩=some (.func (.func 198) #[] #[.pointer (some ⟨na,0,none⟩),.pointer (some ⟨nb,0,none⟩)]):=Qb ab 0;have cU:M.cell? ⟨wb,1,none⟩=some (.func (.func 199) #[] #[.pointer (some ⟨na,0,none⟩),.pointer (some ⟨nb,0,none⟩)]):=Qb ab 1;have dc:M.cell? ⟨wb,2,none⟩=some (.func (.func 200) #[] #[.pointer (some ⟨na,0,none⟩),.pointer (some ⟨nb,0,none⟩)]):=Qb ab 2;clear b1 ci aq ab cD cT da aH aW bJ bu bb;go_upto_region 12 with fail
 have aI:=Zh (by
  have h:=Qab (v:=0) (aX.out.Qc ((Zr Ze M).drew)) (show M.drew.heap[xb]? =_ from bK.out) (Qpl i t s) D.out (by omega);rw[QoY i t s] at h;exact h)
 go_region_with (go_at_call 195;refine aI.out.mono ?_;rintro e N ⟨rfl,b2,cj,ar⟩);have aY:Hid (QP N na nb rb nc (txt ⟨#[]⟩++Xm ([.n 0,.n 0]) r)):=Zh b2;have bL:Hid (N.heap[xb]? =some (.cells (prt i t s 20) 116 (0,0))):=Zh cj;have bd:Hid (Qa (fun i=>i=rb\/i=nc\/i=xb) w N):=Zh ((bc.out.drew).trans ar (fun _ _ h=>h));have ac:=(((Zr (fun i=>i=rb\/i=nc\/i=xb) M).drew).trans ar (fun _ _ h=>h)).keep bv.out E;have bw:=Zh ac;have cF:N.cell? ⟨wb,0,none⟩=some (.func (.func 198) #[] #[.pointer (some ⟨na,0,none⟩),.pointer (some ⟨nb,0,none⟩)]):=Qb ac 0;have cV:N.cell? ⟨wb,1,none⟩=some (.func (.func 199) #[] #[.pointer (some ⟨na,0,none⟩),.pointer (some ⟨nb,0,none⟩)]):=Qb ac 1;have dd:N.cell? ⟨wb,2,none⟩=some (.func (.func 200) #[] #[.pointer (some ⟨na,0,none⟩),.pointer (some ⟨nb,0,none⟩)]):=Qb ac 2;clear b2 cj ar ac cE cU dc aI aX bK bv bc;go_upto_region 13 with fail
 have aJ:=Zh (by
  have h:=Qa6 (v:=⟨#[]⟩) (aY.out.Qc ((Zr Ze N).drew)) (show N.drew.heap[xb]? =_ from bL.out) (Qpn i t s) D.out 65536 (by omega) (by omega);rw[Qo0 i t s] at h;exact h)
 go_region_with (go_at_call 199;refine aJ.out.mono ?_;rintro e O ⟨rfl,b3,cl,au⟩);have aZ:Hid (QP O na nb rb nc (str (num 0)++Xm ([.n 0]) r)):=Zh b3;have bM:Hid (O.heap[xb]? =some (.cells (prt i t s 21) 116 (0,0))):=Zh cl;have be:Hid (Qa (fun i=>i=rb\/i=nc\/i=xb) w O):=Zh ((bd.out.drew).trans au (fun _ _ h=>h));have ad:=(((Zr (fun i=>i=rb\/i=nc\/i=xb) N).drew).trans au (fun _ _ h=>h)).keep bw.out E;have bx:=Zh ad;have cG:O.cell? ⟨wb,0,none⟩=some (.func (.func 198) #[] #[.pointer (some ⟨na,0,none⟩),.pointer (some ⟨nb,0,none⟩)]):=Qb ad 0;have cW:O.cell? ⟨wb,1,none⟩=some (.func (.func 199) #[] #[.pointer (some ⟨na,0,none⟩),.pointer (some ⟨nb,0,none⟩)]):=Qb ad 1;have de:O.cell? ⟨wb,2,none⟩=some (.func (.func 200) #[] #[.pointer (some ⟨na,0,none⟩),.pointer (some ⟨nb,0,none⟩)]):=Qb ad 2;clear b3 cl au ad cF cV dd aJ aY bL bw bd;go_upto_region 14 with fail
 have aK:=Zh (by
  have h:=Qab (v:=0) (aZ.out.Qc ((Zr Ze O).drew)) (show O.drew.heap[xb]? =_ from bM.out) (Qpo i t s) D.out (by omega);rw[Qo1 i t s] at h;exact h)
 go_region_with (go_at_call 195;refine aK.out.mono ?_;rintro e W ⟨rfl,b4,cm,av⟩);have a0:Hid (QP W na nb rb nc (str (num 0)++Xm ([]) r)):=Zh b4;have bN:Hid (W.heap[xb]? =some (.cells (prt i t s 22) 116 (0,0))):=Zh cm;have bg:Hid (Qa (fun i=>i=rb\/i=nc\/i=xb) w W):=Zh ((be.out.drew).trans av (fun _ _ h=>h));have ae:=(((Zr (fun i=>i=rb\/i=nc\/i=xb) O).drew).trans av (fun _ _ h=>h)).keep bx.out E;have cz:=Zh ae;have cH:W.cell? ⟨wb,0,none⟩=some (.func (.func 198) #[] #[.pointer (some ⟨na,0,none⟩),.pointer (some ⟨nb,0,none⟩)]):=Qb ae 0;have cX:W.cell? ⟨wb,1,none⟩=some (.func (.func 199) #[] #[.pointer (some ⟨na,0,none⟩),.pointer (some ⟨nb,0,none⟩)]):=Qb ae 1;have df:W.cell? ⟨wb,2,none⟩=some (.func (.func 200) #[] #[.pointer (some ⟨na,0,none⟩),.pointer (some ⟨nb,0,none⟩)]):=Qb ae 2;clear b4 cm av ae cG cW de aK aZ bM bx be;go_upto_region 15 with fail
 have aL:=Zh (by
  have h:=Qab (v:=0) (a0.out.Qc ((Zr Ze W).drew)) (show W.drew.heap[xb]? =_ from bN.out) (Qpp i t s) D.out (by omega);rw[Qo2 i t s] at h;exact h)
 go_region_with (go_at_call 195;refine aL.out.mono ?_;rintro e aE ⟨rfl,b5,cn,cg⟩);have cx:Hid (QP aE na nb rb nc (r)):=Zh b5;have cA:Hid (aE.heap[xb]? =some (.cells (prt i t s 23) 116 (0,0))):=Zh cn;have cy:Hid (Qa (fun i=>i=rb\/i=nc\/i=xb) w aE):=Zh ((bg.out.drew).trans cg (fun _ _ h=>h));clear b5 cn cg cH cX df aL a0 bN cz bg;go_wp2_with fail;go_end0;exact⟨rfl,cx.out,cA.out,cy.out⟩
theorem Qre{r:ByteArray}(h:QP w na nb rb nc (Xm (Wu i t s) r))(aE:w.heap[xb]? =some (.cells (prt i t s 0) 116 (0,0)))(aF:Far xb na nb rb nc)(ba:i<=2000000)(bc:t<=2000000)(bb:s<=2000000):
  Calls Tryz.prog 129 #[.agg #[.func (.func 198) #[] #[.pointer (some ⟨na,0,none⟩),.pointer (some ⟨nb,0,none⟩)],.func (.func 199) #[] #[.pointer (some ⟨na,0,none⟩),.pointer (some ⟨nb,0,none⟩)],.func (.func 200) #[] #[.pointer (some ⟨na,0,none⟩),.pointer (some ⟨nb,0,none⟩)]],.pointer (some ⟨xb,0,none⟩)] w (KB na nb rb nc r xb (prt i t s 23) 116 w):=by
 have aD:=Zh aE;clear aE;have be:=QaK s;have bg:=QaT s;have bj:=W9 s;have bd:=WU s;have bh:(⟨#[]⟩:ByteArray).size <=1:=by decide
 have aQ:=Zh h;have J:=Zh aF;have bk:=Ql aD.out;have bm:rb<w.heap.size:=Ql h.rdr;have bn:=Ql h.good;clear h aF;go_enter Tryz.func129,Tryz.ntmps129;go_upto_region 1 with fail
 have M:=Qf (w:=w) (.cells (Xd na nb) 220);have W:Qa Ze w (w.alloc (.cells (Xd na nb) 220)):=(Zr _ w).alloc _;change Code.wp _ _ _ _ (w.alloc (.cells (Xd na nb) 220));generalize w.alloc (.cells (Xd na nb) 220)=w0 at*
 have Y: ¬(w.heap.size=rb\/w.heap.size=nc\/w.heap.size=xb):=by omega
 generalize w.heap.size=wb at*
 have ai:Hid (QP w0 na nb rb nc (str (num i)++Xm ([.n t,.n 1,.n (kN s),.n 0,.n s,.n 0,.n (oN s),.s (rS s),.s (cS s),.s ⟨#[]⟩,.f false,.s ⟨#[]⟩,.n 0,.n 0,.s ⟨#[]⟩,.s ⟨#[]⟩,.n 0,.f false,.n 0,.s ⟨#[]⟩,.n 0,.n 0,.n 0]) r)):=Zh (aQ.out.Qc W);have ay:=Zh (W.keep aD.out (fun f=>f));have au:=Zh M;have an:Hid (Qa (fun i=>i=rb\/i=nc\/i=xb) w w0):=Zh (W.mono (fun _ _ f=>f.elim));have aV:w0.cell? ⟨wb,0,none⟩=some (.func (.func 198) #[] #[.pointer (some ⟨na,0,none⟩),.pointer (some ⟨nb,0,none⟩)]):=Qb M 0;have a0:w0.cell? ⟨wb,1,none⟩=some (.func (.func 199) #[] #[.pointer (some ⟨na,0,none⟩),.pointer (some ⟨nb,0,none⟩)]):=Qb M 1;have a5:w0.cell? ⟨wb,2,none⟩=some (.func (.func 200) #[] #[.pointer (some ⟨na,0,none⟩),.pointer (some ⟨nb,0,none⟩)]):=Qb M 2;clear W M;have ad:=Zh (by
  have h:=Qa5 (v:=i) (ai.out.Qc ((Zr Ze w0).drew)) (show w0.drew.heap[xb]? =_ from ay.out) (Qpa i t s) J.out (by omega) 18446744073709551615 (by omega);rw[QoN i t s] at h;exact h)
 go_region_with (go_at_call 198;refine ad.out.mono ?_;rintro e D ⟨rfl,aG,hx1,Z⟩);have aj:Hid (QP D na nb rb nc (str (num t)++Xm ([.n 1,.n (kN s),.n 0,.n s,.n 0,.n (oN s),.s (rS s),.s (cS s),.s ⟨#[]⟩,.f false,.s ⟨#[]⟩,.n 0,.n 0,.s ⟨#[]⟩,.s ⟨#[]⟩,.n 0,.f false,.n 0,.s ⟨#[]⟩,.n 0,.n 0,.n 0]) r)):=Zh aG;have az:Hid (D.heap[xb]? =some (.cells (prt i t s 1) 116 (0,0))):=Zh hx1;have ao:Hid (Qa (fun i=>i=rb\/i=nc\/i=xb) w D):=Zh ((an.out.drew).trans Z (fun _ _ h=>h));have N:=(((Zr (fun i=>i=rb\/i=nc\/i=xb) w0).drew).trans Z (fun _ _ h=>h)).keep au.out Y;have av:=Zh N;have aW:D.cell? ⟨wb,0,none⟩=some (.func (.func 198) #[] #[.pointer (some ⟨na,0,none⟩),.pointer (some ⟨nb,0,none⟩)]):=Qb N 0;have a1:D.cell? ⟨wb,1,none⟩=some (.func (.func 199) #[] #[.pointer (some ⟨na,0,none⟩),.pointer (some ⟨nb,0,none⟩)]):=Qb N 1;have a6:D.cell? ⟨wb,2,none⟩=some (.func (.func 200) #[] #[.pointer (some ⟨na,0,none⟩),.pointer (some ⟨nb,0,none⟩)]):=Qb N 2;clear aG hx1 Z N aV a0 a5 ad ai ay au an;go_upto_region 2 with fail
 have ae:=Zh (by
  have h:=Qa5 (v:=t) (aj.out.Qc ((Zr Ze D).drew)) (show D.drew.heap[xb]? =_ from az.out) (Qpb i t s) J.out (by omega) 18446744073709551615 (by omega);rw[QoO i t s] at h;exact h)
 go_region_with (go_at_call 198;refine ae.out.mono ?_;rintro e w2 ⟨rfl,aH,aM,aa⟩);have ak:Hid (QP w2 na nb rb nc (str (num 1)++Xm ([.n (kN s),.n 0,.n s,.n 0,.n (oN s),.s (rS s),.s (cS s),.s ⟨#[]⟩,.f false,.s ⟨#[]⟩,.n 0,.n 0,.s ⟨#[]⟩,.s ⟨#[]⟩,.n 0,.f false,.n 0,.s ⟨#[]⟩,.n 0,.n 0,.n 0]) r)):=Zh aH;have aA:Hid (w2.heap[xb]? =some (.cells (prt i t s 2) 116 (0,0))):=Zh aM;have ap:Hid (Qa (fun i=>i=rb\/i=nc\/i=xb) w w2):=Zh ((ao.out.drew).trans aa (fun _ _ h=>h));have O:=(((Zr (fun i=>i=rb\/i=nc\/i=xb) D).drew).trans aa (fun _ _ h=>h)).keep av.out Y;have aw:=Zh O;have aX:w2.cell? ⟨wb,0,none⟩=some (.func (.func 198) #[] #[.pointer (some ⟨na,0,none⟩),.pointer (some ⟨nb,0,none⟩)]):=Qb O 0;have a2:w2.cell? ⟨wb,1,none⟩=some (.func (.func 199) #[] #[.pointer (some ⟨na,0,none⟩),.pointer (some ⟨nb,0,none⟩)]):=Qb O 1;have a7:w2.cell? ⟨wb,2,none⟩=some (.func (.func 200) #[] #[.pointer (some ⟨na,0,none⟩),.pointer (some ⟨nb,0,none⟩)]):=Qb O 2;clear aH aM aa O aW a1 a6 ae aj az av ao;go_upto_region 3 with fail
 have af:=Zh (by
  have h:=Qab (v:=1) (ak.out.Qc ((Zr Ze w2).drew)) (show w2.drew.heap[xb]? =_ from aA.out) (Qpm i t s) J.out (by omega);rw[QoZ i t s] at h;exact h)
 go_region_with (go_at_call 195;refine af.out.mono ?_;rintro e E ⟨rfl,aI,aN,ab⟩);have al:Hid (QP E na nb rb nc (Xm (QaD s) (Xm ([.n 0]) r))):=Zh aI;have aB:Hid (E.heap[xb]? =some (.cells (prt i t s 3) 116 (0,0))):=Zh aN;have aq:Hid (Qa (fun i=>i=rb\/i=nc\/i=xb) w E):=Zh ((ap.out.drew).trans ab (fun _ _ h=>h));have Q:=(((Zr (fun i=>i=rb\/i=nc\/i=xb) w2).drew).trans ab (fun _ _ h=>h)).keep aw.out Y;have ax:=Zh Q;have aY:E.cell? ⟨wb,0,none⟩=some (.func (.func 198) #[] #[.pointer (some ⟨na,0,none⟩),.pointer (some ⟨nb,0,none⟩)]):=Qb Q 0;have a3:E.cell? ⟨wb,1,none⟩=some (.func (.func 199) #[] #[.pointer (some ⟨na,0,none⟩),.pointer (some ⟨nb,0,none⟩)]):=Qb Q 1;have a8:E.cell? ⟨wb,2,none⟩=some (.func (.func 200) #[] #[.pointer (some ⟨na,0,none⟩),.pointer (some ⟨nb,0,none⟩)]):=Qb Q 2;clear aI aN ab Q aX a2 a7 af ak aA aw ap;go_upto_region 4 with fail
 have ag:=Zh (by
  have h:=Qrd (i:=i) (t:=t) (s:=s) (al.out.Qc ((Zr Ze E).drew)) (show E.drew.heap[xb]? =_ from aB.out) J.out ba bc bb;exact h)
 go_region_with (go_at_call 196;refine ag.out.mono ?_;rintro e I ⟨rfl,aJ,aO,ac⟩);have am:Hid (QP I na nb rb nc (str (num 0)++Xm ([]) r)):=Zh aJ;have aC:Hid (I.heap[xb]? =some (.cells (prt i t s 23) 116 (0,0))):=Zh aO;have ar:Hid (Qa (fun i=>i=rb\/i=nc\/i=xb) w I):=Zh ((aq.out.drew).trans ac (fun _ _ h=>h));have U:=(((Zr (fun i=>i=rb\/i=nc\/i=xb) E).drew).trans ac (fun _ _ h=>h)).keep ax.out Y;have aT:=Zh U;have aZ:I.cell? ⟨wb,0,none⟩=some (.func (.func 198) #[] #[.pointer (some ⟨na,0,none⟩),.pointer (some ⟨nb,0,none⟩)]):=Qb U 0;have a4:I.cell? ⟨wb,1,none⟩=some (.func (.func 199) #[] #[.pointer (some ⟨na,0,none⟩),.pointer (some ⟨nb,0,none⟩)]):=Qb U 1;have a9:I.cell? ⟨wb,2,none⟩=some (.func (.func 200) #[] #[.pointer (some ⟨na,0,none⟩),.pointer (some ⟨nb,0,none⟩)]):=Qb U 2;clear aJ aO ac U aY a3 a8 ag al aB ax aq;go_upto_region 5 with fail
 have ah:=Zh (Qrg (am.out.Qc ((Zr Ze I).drew)) (show I.drew.heap[xb]? =_ from aC.out) (Qpq i t s) J.out);go_region_with (go_at_call 197;refine ah.out.mono ?_;rintro e w5 ⟨rfl,aK,aP,aL⟩);have aR:Hid (QP w5 na nb rb nc (r)):=Zh aK;have aU:Hid (w5.heap[xb]? =some (.cells (prt i t s 23) 116 (0,0))):=Zh aP;have aS:Hid (Qa (fun i=>i=rb\/i=nc\/i=xb) w w5):=Zh ((ar.out.drew).trans aL (fun _ _ h=>h));clear aK aP aL aZ a4 a9 ah am aC aT ar;go_wp2_with fail;go_end0;exact⟨rfl,aR.out,aU.out,aS.out⟩
def Qj0(rb gb:Nat)(r:ByteArray)(w:World)(e:Ending)(w':World):Prop:= ∃rp gp,e= .returned (.agg (Xd rp gp))/\QP w' rp gp rb gb r/\w.heap.size<=rp/\w.heap.size<=gp/\Qa Ze w w'
theorem Qrk{r:ByteArray}(N:Xo 213 w rb r)(M:w.heap[na]? =some (.cells #[.bool true] 4 (0,0)))(W:r.size<=2000000):Calls Tryz.prog 130 #[.pointer (some ⟨rb,0,none⟩),.pointer (some ⟨na,0,none⟩)] w (Qj0 rb na r w):=by
 have Q:=Zh N;have O:=Zh M;clear N M;go_enter Tryz.func130,Tryz.ntmps130;go_wp2_with fail;have U:=Qf (w:=w) (.cells #[.pointer (some ⟨rb,0,none⟩)] 154);have Y:(w.alloc (.cells #[.pointer (some ⟨rb,0,none⟩)] 154)).heap.size =w.heap.size+1:=by simp
 have I:=Qf (w:=w.alloc (.cells #[.pointer (some ⟨rb,0,none⟩)] 154)) (.cells #[.pointer (some ⟨na,0,none⟩)] 222);rw[Y] at I;have Z:((w.alloc (.cells #[.pointer (some ⟨rb,0,none⟩)] 154)).alloc (.cells #[.pointer (some ⟨na,0,none⟩)] 222)).heap.size =w.heap.size+2:=by simp
 have J:=Qf (w:=(w.alloc (.cells #[.pointer (some ⟨rb,0,none⟩)] 154)).alloc (.cells #[.pointer (some ⟨na,0,none⟩)] 222)) (.cells (Xd w.heap.size (w.heap.size+1)) 220);rw[Z] at J;have u1:Qa Ze w (w.alloc (.cells #[.pointer (some ⟨rb,0,none⟩)] 154)):=(Zr _ w).alloc _;have u2:Qa Ze (w.alloc (.cells #[.pointer (some ⟨rb,0,none⟩)] 154)) ((w.alloc (.cells #[.pointer (some ⟨rb,0,none⟩)] 154)).alloc (.cells #[.pointer (some ⟨na,0,none⟩)] 222)):=(Zr _ _).alloc _;have E:Qa Ze ((w.alloc (.cells #[.pointer (some ⟨rb,0,none⟩)] 154)).alloc (.cells #[.pointer (some ⟨na,0,none⟩)] 222)) (((w.alloc (.cells #[.pointer (some ⟨rb,0,none⟩)] 154)).alloc (.cells #[.pointer (some ⟨na,0,none⟩)] 222)).alloc (.cells (Xd w.heap.size (w.heap.size+1)) 220)):=(Zr _ _).alloc _;have D:=(u1.trans u2 (fun _ _ f=>f)).trans E (fun _ _ f=>f);refine bodyPost_ret (v:=.agg (Xd w.heap.size (w.heap.size+1))) ?_ rfl ⟨w.heap.size,w.heap.size+1,rfl,⟨(u2.trans E (fun _ _ f=>f)).keep U (fun f=>f),E.keep I (fun f=>f),D.keep Q.out (fun f=>f),D.keep O.out (fun f=>f),W⟩,Zf _,by omega,D⟩
 exact results_cell_row rfl _ _ _ _ _ _ _ rfl J Tryz.underlying220 rfl (Qg0 _ _ _)
theorem Qis{fn:Func}{p u:Tmp}(h:fn.results= #[.cell p ty,.tmp u])(E:Array Value)(w:World)(g:Nat)(t:TypeId)(D:Array Value)(fr:Nat×Nat)(d:TypeDesc)
  (N:E.getD p undef= .pointer (some ⟨g,0,none⟩)) (J:w.heap[g]? =some (.cells D t fr))
  (O:P.underlying ty=some d) (I:(match d with| .struct _| .array _ _=>true|_=>false)=true) (M:(P.info? ty).map (·.size)=some D.size):
  (results fn E).run P w= .ok (.tuple #[.agg D,E.getD u undef]) w:=by
 rw[results_cell_tmp h,N];simp[asAddr,run_loadVar_row w g t ty D fr d J O I M,Result.andThen]
def QdB(i t s:Nat)(w:World)(e:Ending)(w':World):Prop:=e= .returned (.tuple #[QS i t s,.int .i64 0])/\Qa Ze w w'
theorem decode_any(i t s:Nat)(ao:1<=i)(az:1<=t)(aW:i<=30000)(a0:t<=30000)(aY:s<=30000)(w:World):Calls Tryz.prog 67 #[.string (Xy i t s)] w (QdB i t s w):=by
 have Q:=Zh (Qd7 i t s ao az (by omega));have hsz:(Xy i t s).size <=80:=Qbl (i:=i) (e:=(t,s)) ⟨⟨ao,aW⟩,⟨az,a0⟩,aY⟩;have av:Xy i t s=Xm (Wu i t s) ⟨#[]⟩:=by
  rw[<-Qir,WJ];rfl
 have aI:=Zh av;clear av;generalize Xy i t s=S at*
 have aG:=Zh (fun w=>Qds S w);have aA:=Qf (w:=w) (.cells QG 116);have aK:Hid (Qa Ze w (w.alloc (.cells QG 116))):=Zh ((Zr _ w).alloc _);go_enter Tryz.func67,Tryz.ntmps67;go_upto_region 1 with fail
 change Code.wp _ _ _ _ (w.alloc (.cells QG 116));generalize w.alloc (.cells QG 116)=w1 at*
 generalize hbb:w.heap.size=b at*
 have O:=Zh hbb;have am:=Zh aA;clear aA hbb;have aD:=Qf (w:=w1) (.cells #[.string S] 213);have ax:(w1.alloc (.cells #[.string S] 213)).heap.size =w1.heap.size+1:=by simp
 have af:=Qf (w:=w1.alloc (.cells #[.string S] 213)) (.cells #[.bool true] 4);rw[ax] at af;have ay:((w1.alloc (.cells #[.string S] 213)).alloc (.cells #[.bool true] 4)).heap.size =w1.heap.size+1+1:=by simp
 have ag:=Qf (w:=(w1.alloc (.cells #[.string S] 213)).alloc (.cells #[.bool true] 4)) (.cells QG 116);rw[ay] at ag;have u1:Qa Ze w1 (w1.alloc (.cells #[.string S] 213)):=(Zr _ _).alloc _;have u2:Qa Ze (w1.alloc (.cells #[.string S] 213)) ((w1.alloc (.cells #[.string S] 213)).alloc (.cells #[.bool true] 4)):=(Zr _ _).alloc _;have M:Qa Ze ((w1.alloc (.cells #[.string S] 213)).alloc (.cells #[.bool true] 4)) (((w1.alloc (.cells #[.string S] 213)).alloc (.cells #[.bool true] 4)).alloc (.cells QG 116)):=(Zr _ _).alloc _;have aH:=Zh ((u2.trans M (fun _ _ f=>f)).keep aD (fun f=>f));have aF:=Zh (M.keep af (fun f=>f));have ai:=Zh ag;have ah:=(u1.trans u2 (fun _ _ f=>f)).trans M (fun _ _ f=>f);have aQ:=Zh (ah.keep am.out (fun f=>f));have aL:=Zh (aK.out.trans ah (fun _ _ f=>f));have a8:=Ql am.out;clear aD af ag ax ay u1 u2 M ah;go_wp2_with (go_at_call 64;refine (aG.out _).mono ?_;rintro e w2 ⟨rfl,rfl⟩);change Calls _ _ _ (((w1.alloc (.cells #[.string S] 213)).alloc (.cells #[.bool true] 4)).alloc (.cells QG 116)) _;generalize ((w1.alloc (.cells #[.string S] 213)).alloc (.cells #[.bool true] 4)).alloc (.cells QG 116)=w4 at*
 generalize hrb:w1.heap.size=rb at*
 have al:=Zh (Qrk (show Xo 213 w4 rb S from aH.out) aF.out (by omega));refine al.out.mono ?_
 rintro e w5 ⟨a1,aU,rfl,ab,aX,aV,I⟩;have a4:=Zh ab;have aB:=I.keep aQ.out (fun f=>f);have Y:=I.keep ai.out (fun f=>f);have aR:=Zh aB;have a2:=Zh Y;have aM:=Zh (aL.out.trans I (fun _ _ f=>f));have aa:Far (rb+1+1) a1 aU rb (rb+1):=by
  have a7:=Ql ai.out;exact⟨by omega,by omega,by omega,by omega⟩
 have ar:prt i t s 0=QG:=rfl;have au:prt i t s 23=Qh i t s:=rfl;have ac:=ab;rw[aI.out] at ac;have U:=Zh (Qre (i:=i) (t:=t) (s:=s) ac (by rw[ar];exact Y) aa (by omega) (by omega) (by omega));rw[au] at U;have a3:=Zh aa;clear ab ac aB Y I aX aV al aa ar au;unfold Xd;go_wp2_with fail;refine U.out.mono ?_
 rintro e w6 ⟨rfl,E,Z,ad⟩;have aC:=ad.keep aR.out (fun h=>by omega);have aS:=Zh aC;have aj:=Zh Z;have a5:=Zh E;have ba:w.heap.size<=b:=by have:=O.out;omega
 have aN:Hid (Qa Ze w w6):=Zh (aM.out.trans ad (fun j hj h=>by have:=O.out;omega));have a6:w6.cell? ⟨rb+1,0,none⟩=some (.bool true):=Qb E.good 0;have ak:=Zh (Qew E.rdr);have D:=ZJ i t s;have aq:=Z3 i t s;have ap:(LdC ⟨rb+1+1,0,none⟩ 24).run Tryz.prog w6= .ok (Qh i t s) w6:=Xc Z D;have aZ:(((⟨#[]⟩:ByteArray).size :Nat):Int)=0:=rfl;rw[aZ] at ak;unfold QS at Q;obtain⟨A,W⟩: ∃A,A=Qh i t s:=⟨_,rfl⟩
 rw[<-W] at Q aj D aq ap;have aE:=Zh W;clear E Z ad aC U W;go_wp2_with fail;refine ak.out.mono ?_
 rintro e w' ⟨rfl,rfl⟩;go_wp2_with fail;refine (Q.out _).mono ?_
 rintro e w7 ⟨rfl,J⟩;have aO:=Zh (aN.out.trans J (fun _ _ f=>f));have ae:=J.keep aS.out (fun f=>f);have an:=J.keep aj.out (fun f=>f);have a9:(LdC ⟨rb+1+1,0,none⟩ 24).run Tryz.prog w7= .ok A w7:=Xc an D;have aT:=Zh ae;have aw:=Xr w7 b A ae;have aJ:=Zh aw;have aP:Hid (Qa Ze w (w7.setRow b A)):=Zh (QL aO.out (g:=b) (fun h=>by have:=O.out;omega) A);have N:=Zh D;clear J ae an aw ap;go_wp2_with (refine wpList_store_row rfl 116 _ _ rfl _ _ rfl rfl _ _ aT.out (Z4 N.out) (by rw[N.out];rfl) aq ?_);refine bodyPost_ret (v:=.tuple #[.agg A,.int .i64 0]) ?_ rfl ⟨by rw[aE.out];rfl,aP.out⟩
 refine (Qis (fn:=Tryz.f67) (p:=2) (u:=3) (ty:=116) ?_ _ _ b 116 A (0,0) _ ?_ aJ.out Tryz.underlying116 rfl (Z4 N.out))<;>rfl
end
section
open Go.RowKit Go.Acre
attribute [local go_sem ↓] LcG ScG
attribute [local go_sem] Sc1 Sc2 Sc3 Lc2 Lc3
attribute [local simp] QH
def keepA(wb:Nat)(k:Kp)(mv ev:Value):Array Value:= #[.pointer (some ⟨wb,0,none⟩),.int .u64 k.t,.int .i64 (Qd k.v),.int .u64 k.bi,.int .u64 k.bt,mv,ev,.bool true]
def Ko(w:World)(mv:Value)(n g:Nat):Prop:=(n=0/\mv= .slice none 0 0)\/QD w mv n g
theorem Ko.upd{w w':World}{mv:Value}{n g:Nat}{T:Nat->Prop}(h:Ko w mv n g)(E:Qa T w w')(D: ¬T g):Ko w' mv n g:=h.imp id (fun h=>h.upd E D)
structure Xz(w:World)(S:Nat->Prop)(kb wb:Nat)(k:Kp)(mv ev:Value)(mg:Nat):Prop where
 row:w.heap[kb]? =some (.cells (keepA wb k mv ev) 97 (0,0))
 mem:Ko w mv k.n mg
 Qq:QA w ev k.bi k.l
 efar: ∀g,ev.ownBlock=some g-> ¬S g
 mfar: ¬S mg
 sk:S kb
 few:k.bi+k.l.length<=20000/\k.t<=30000/\k.bt<=30000
theorem Ko.slice{w:World}{mv:Value}{n g:Nat}(h:Ko w mv n g): ∃a cap,mv= .slice a n cap:=by
 rcases h with ⟨rfl,rfl⟩|⟨cap,rfl,_⟩
 ·exact⟨_,_,rfl⟩
 ·exact⟨_,_,rfl⟩
theorem Qeh(t:Nat)(v:Option Nat)(D:Xx v)(w:World):Calls Tryz.prog 29 #[.agg #[.int .u64 t,.int .i64 (Qd v)]] w (Qk (.bool true) w):=by
 have E:(-1:Int)<=Qd v:=by cases v<;>simp[Qd]
 have I:Qd v<5:=by
  cases v with
  |none=>simp[Qd]
  |some x=>have:x<5:=D;simp[Qd];omega
 generalize Qd v=y at*
 go_enter Tryz.func29,Tryz.ntmps29;go_wp2_with fail;go_ret;exact⟨rfl,(Zr _ w).alloc _⟩
theorem QgY(t:Nat)(v:Option Nat)(ab:t<=2000000)(E:Xx v)(w:World):Calls Tryz.prog 75 #[.agg #[.int .u64 t,.int .i64 (Qd v)]] w (Qk (.string (XJ t v)) w):=by
 have ai:IntKind.i64.wrap (Qd v+1)=((Zm v:Nat):Int):=by
  cases v with
  |none=>rfl
  |
   some x=>
   have:x<5:=E;show IntKind.i64.wrap ((x:Int)+1)=((x+1:Nat):Int)
   rw[IntWalk.i64_in _ (by omega)];omega
 have ae:=Qfj E;have aj:IntKind.u64.wrap ((Zm v:Nat):Int)=((Zm v:Nat):Int):=IntWalk.u64_in _ (by omega);have U:XJ t v=str (num t)++str (num (Zm v)):=rfl;rw[U];have D:Hid (∀w,Calls Tryz.prog 137 #[.string ⟨#[]⟩,.int .u64 t] w (Qbe ⟨#[]⟩ (str (num t)) w)):=Zh (fun w=>Qb7 ⟨#[]⟩ t w (by decide) (by omega));have W:((⟨#[]⟩:ByteArray)++str (num t))=str (num t):=Qas _;have Y:Hid (∀w,Calls Tryz.prog 137 #[.string (str (num t)),.int .u64 (Zm v:Nat)] w (Qbe (str (num t)) (str (num (Zm v))) w)):=Zh (fun w=>Qb7 (str (num t)) (Zm v) w (by rw[QaP];have:=W7 ab;omega) (by omega));unfold Qbe at D;rw[W] at D;clear U W ae E;generalize Qd v=y at*
 generalize Zm v=z at*
 have I:=Qf (w:=w) (.cells #[.int .u64 t,.int .i64 y] 42);have Z:Hid (Qa Ze w (w.alloc (.cells #[.int .u64 t,.int .i64 y] 42))):=Zh ((Zr _ w).alloc _);go_enter Tryz.func75,Tryz.ntmps75;go_upto_region 1 with fail
 generalize w.alloc (.cells #[.int .u64 t,.int .i64 y] 42)=w1 at*
 generalize w.heap.size=b at*
 have M:=Qb I 0;have N:=Qb I 1;have J:Hid (∀w',Qa Ze w1 w'->w'.cell? ⟨b,0,none⟩=some (.int .u64 t)/\w'.cell? ⟨b,1,none⟩=some (.int .i64 y)):=Zh (fun w' hu=>⟨Qe hu M (fun f=>f),Qe hu N (fun f=>f)⟩);clear I M N;have hcur:Qa Ze w1 w1.drew:=(Zr _ w1).drew;obtain⟨O,Q⟩:=J.out _ hcur;have ag:=O;have e1:=Q
 first|(go_region_held3 (fun w'=>w'.cell? ⟨b,0,none⟩=some (.int .u64 t)/\w'.cell? ⟨b,1,none⟩=some (.int .i64 y)) (first|exact⟨O,Q⟩|exact J.out _ (by assumption)) ((first
  |(go_at_call 137;refine (D.out _).mono ?_;clear D;rintro e w2 ⟨rfl,ac⟩;have aa:Qa Ze w1 w2:=Qa.trans hcur ac (fun _ _ f=>f))
  |(go_at_call 137;refine (Y.out _).mono ?_;rintro e af ⟨rfl,ad⟩;have ah:Qa Ze w1 af:=Qa.trans aa ad (fun _ _ f=>f)))))|fail
 all_goals
  go_wp2_with fail;go_ret;exact⟨rfl,Z.out.trans (by assumption) (fun _ _ f=>f)⟩
section
variable {w:World} {S:Nat->Prop} {kb wb:Nat} {k:Kp} {mv ev:Value} {mg:Nat}
theorem Qeo(h:Xz w S kb wb k mv ev mg):Calls Tryz.prog 28 #[.pointer (some ⟨kb,0,none⟩)] w (Is (.bool false) w):=by
 have D:w.cell? ⟨kb,7,none⟩=some (.bool true):=Qb h.row 7;clear h;go_enter Tryz.func28,Tryz.ntmps28;go_wp2_with fail;go_ret;exact⟨rfl,rfl⟩
def Kp.last(k:Kp):Nat:=k.bi+k.l.length
theorem QcR(h:Xz w S kb wb k mv ev mg):Calls Tryz.prog 73 #[.pointer (some ⟨kb,0,none⟩)] w (Qk (.int .u64 k.last) w):=by
 obtain⟨a,cap,D,_,_⟩:=h.Qq.slice;have E:w.cell? ⟨kb,3,none⟩=some (.int .u64 k.bi):=Qb h.row 3;have I:w.cell? ⟨kb,6,none⟩=some (.slice a k.l.length cap):=by rw[Qb h.row 6,<-D];rfl
 have J:=h.few.1;have M:IntKind.u64.wrap (k.l.length:Int)=k.l.length:=IntWalk.u64_in _ (by omega);have N:IntKind.u64.wrap ((k.bi:Int)+(k.l.length:Int))=(k.last:Int):=by
  unfold Kp.last;rw[IntWalk.u64_in _ (by omega)];omega
 clear h D;generalize k.l.length=n at*
 go_enter Tryz.func73,Tryz.ntmps73;go_upto_region 1 with fail
 go_quiet (fail);go_wp2_with fail;go_ret;exact⟨rfl,(Zr _ w).drewN _⟩
theorem QnM{n g:Nat}(h:QD w mv n g):Calls Tryz.prog 72 #[mv] w (Qk (.int .i64 0) w):=by
 obtain⟨cap,rfl,U,W,Y,Z,I⟩:=h;have E:=Zh I;have M:=Zh Qc5;have D:Hid (∀(k:Nat) (w:World),k<5->Calls Tryz.prog 134 #[.int .i64 k,.int .i64 5] w (Is (.bool true) w)):=Zh (fun k w J=>QfV k 5 J w);clear I;go_enter Tryz.func72,Tryz.ntmps72;go_upto_block 0 with fail
 go_wp2_with fail;go_loopw [3,8] (fun O x wr=> ∃k:Nat,O= .bool true/\x= .int .i64 k/\k<=n/\wr=w) (fun _ x _=>n - (Go.RowKit.intOf x).toNat)
 case atStart=>exact⟨0,rfl,rfl,by omega,rfl⟩
 case round=>
  obtain⟨k,rfl,rfl,J,rfl⟩:=hrel;by_cases hlt:k<n
  ·have N:(k:Int)< (n:Int):=by omega
   have aa:(0:Int)<=k:=by omega
   have ck:=E.out k hlt;by_cases hz:k=0
   ·subst hz
    go_wp2_with fail;refine (D.out 0 _ (by omega)).mono ?_
    rintro e w' ⟨rfl,rfl⟩;go_wp2_with fail;exact⟨⟨1,by first|trivial|simp,by go_num,by omega,by trivial⟩,by simp[Go.RowKit.intOf];omega⟩
   ·have ah: ¬(k:Int)=0:=by omega
    have ai:((k:Int)==0)=false:=by simp;omega
    have Q:=E.out (k - 1) (by omega);have ag:IntKind.i64.wrap ((k:Int) - 1)=((k - 1:Nat):Int):=by rw[IntWalk.i64_in _ (by omega)];omega
    have ab:(0:Int)<=((k - 1:Nat):Int):=by omega
    have ac:((k - 1:Nat):Int)< (n:Int):=by omega
    have ad:((k - 1:Nat):Int)< (k:Int):=by omega
    generalize k - 1=j at*
    go_wp2_with fail;refine (D.out k _ (by omega)).mono ?_
    rintro e w' ⟨rfl,rfl⟩;go_wp2_with fail;exact⟨⟨k+1,by first|trivial|simp,by go_num,by omega,by trivial⟩,by simp[Go.RowKit.intOf];omega⟩
  ·have N: ¬(k:Int)< (n:Int):=by omega
   have ae:(0:Int)< (n:Int):=by omega
   have af:0<n:=by omega
   go_wp2_with fail;refine (M.out _).mono ?_
   rintro e w' ⟨rfl,rfl⟩;go_wp2_with fail;go_ret;exact⟨rfl,Zr _ _⟩
theorem QeB{n g:Nat}(bi bt:Nat)(h:QD w mv n g)(ab:1<=bi)(af:1<=bt):Calls Tryz.prog 30 #[QC bi bt mv] w (Qk (.bool true) w):=by
 have J:Hid (∀w',Qa Ze w w'->Calls Tryz.prog 72 #[mv] w' (Qk (.int .i64 0) w')):=Zh (fun w' hu=>QnM (h.upd hu (fun f=>f)));obtain⟨cap,rfl,W,Y,Z,aa,N⟩:=h;have ad:(0:Int)< (bi:Int):=by omega
 have ag:(0:Int)< (bt:Int):=by omega
 have ac: ¬(bi:Int)=0:=by omega
 have ae:((bi:Int)==0)=false:=by simp;omega
 clear N;unfold QC;have I:=Qf (w:=w) (.cells #[.int .u64 bi,.int .u64 bt,.slice (some ⟨g,0,none⟩) n cap] 44);have D:=Zh ((Zr Ze w).alloc (.cells #[.int .u64 bi,.int .u64 bt,.slice (some ⟨g,0,none⟩) n cap] 44));go_enter Tryz.func30,Tryz.ntmps30;go_upto_region 1 with fail
 generalize w.alloc (.cells #[.int .u64 bi,.int .u64 bt,.slice (some ⟨g,0,none⟩) n cap] 44)=w1 at*
 generalize w.heap.size=b at*
 obtain⟨O,Q,U,_,_,_⟩:=cells3 I;clear I;go_wp2_with fail;refine (J.out _ D.out).mono ?_
 rintro e w2 ⟨rfl,E⟩;have M:=Zh (D.out.trans E (fun _ _ f=>f));clear E;go_wp2_with fail;go_ret;exact⟨rfl,M.out⟩
end
section
variable {w:World} {S:Nat->Prop} {kb wb:Nat} {k:Kp} {mv ev:Value} {mg:Nat}
theorem Qg5(h:Xz w S kb wb k mv ev mg)(x:Nat)(hx1:1<=x)(ay:x<=1000000):Calls Tryz.prog 31 #[.pointer (some ⟨kb,0,none⟩),.int .u64 x] w (Qk (XT (Qu k.bi k.bt k.l x)) w):=by
 obtain⟨a,cap,U,_,_⟩:=h.Qq.slice;have Y:w.cell? ⟨kb,3,none⟩=some (.int .u64 k.bi):=Qb h.row 3;have ag:w.cell? ⟨kb,4,none⟩=some (.int .u64 k.bt):=Qb h.row 4;have Z:w.cell? ⟨kb,6,none⟩=some (.slice a k.l.length cap):=by rw[Qb h.row 6,<-U];rfl
 have M:=Zh (QcR h);have ar:=h.few;have O:=h.Qq;rw[U] at O;have af:=Zh O;have ad:Hid (∀w',Qa Ze w w'->w'.cell? ⟨kb,3,none⟩=some (.int .u64 k.bi)/\w'.cell? ⟨kb,6,none⟩=some (.slice a k.l.length cap)):=Zh (fun w' J=>⟨Qe J Y (fun f=>f),Qe J Z (fun f=>f)⟩);clear h U O;by_cases h0:x=k.bi
 ·have D:Qu k.bi k.bt k.l x=some k.bt:=by unfold Qu;rw[if_pos h0]
  rw[D];have aA:(0:Int)< (k.bi:Int):=by omega
  have ak:0<k.bi:=by omega
  have az:decide (0<k.bi)=true:=decide_eq_true ak;rw[h0];unfold XT;go_enter Tryz.func31,Tryz.ntmps31;go_wp2_with fail;go_ret2;exact⟨rfl,Zr _ _⟩
 ·have aq: ¬(x:Int)=k.bi:=by omega
  have ap:((x:Int)==(k.bi:Int))=false:=by simp;omega
  obtain⟨L,Q⟩: ∃L,L=k.last:=⟨_,rfl⟩
  have I:L=k.bi+k.l.length:=Q;rw[<-Q] at M;clear Q;have am:=Zh I;by_cases h1:x<k.bi
  ·have ah:(x:Int)< (k.bi:Int):=by omega
   have D:Qu k.bi k.bt k.l x=none:=by unfold Qu;rw[if_neg h0,if_neg (by omega)]
   rw[D];unfold XT;clear I;go_enter Tryz.func31,Tryz.ntmps31;go_wp2_with fail;go_ret2;exact⟨rfl,Zr _ _⟩
  ·have ah: ¬(x:Int)< (k.bi:Int):=by omega
   by_cases h2:L<x
   ·have ai:(L:Int)< (x:Int):=by omega
    have D:Qu k.bi k.bt k.l x=none:=by
     unfold Qu;rw[if_neg h0,if_pos (by omega),List.getElem?_eq_none (by omega)];rfl
    rw[D];unfold XT;clear I;go_enter Tryz.func31,Tryz.ntmps31;go_wp2_with fail;refine M.out.mono ?_
    rintro e w2 ⟨rfl,E⟩;have N:=Zh E;clear E;go_wp2_with fail;go_ret2;exact⟨rfl,N.out⟩
   ·have ai: ¬(L:Int)< (x:Int):=by omega
    have ac:x - k.bi - 1<k.l.length:=by omega
    have D:Qu k.bi k.bt k.l x=some (k.l[x - k.bi - 1].1):=by
     unfold Qu;rw[if_neg h0,if_pos (by omega),List.getElem?_eq_getElem ac];rfl
    rw[D];unfold XT;obtain⟨j,W⟩: ∃j,j=x - k.bi - 1:=⟨_,rfl⟩
    have aw:IntKind.u64.wrap ((x:Int) - (k.bi:Int))=((j+1:Nat):Int):=by rw[IntWalk.u64_in _ (by omega)];omega
    have ax:IntKind.u64.wrap (((j+1:Nat):Int) - 1)=(j:Int):=by rw[IntWalk.u64_in _ (by omega)];omega
    have au:(0:Int)<=j:=by omega
    have av:(j:Int)< (k.l.length:Int):=by omega
    have ab: ∀w',Qa Ze w w'-> ∃g o,a=some ⟨g,o,none⟩/\w'.cell? ⟨g,o+j*24+1,none⟩=some (.int .u64 (k.l[x - k.bi - 1].1:Nat)):=by
     intro w' J;obtain⟨g,o,aj,_,aa,_⟩:=(af.out.Qc J).cells (k:=x - k.bi - 1) ac;exact⟨g,o,aj,by rw[W];exact aa⟩
    have ae:=Zh ab;have al:=Zh W;clear ab W I;generalize k.l[x - k.bi - 1].1=te at*
    go_enter Tryz.func31,Tryz.ntmps31;go_wp2_with fail;refine M.out.mono ?_
    rintro e w2 ⟨rfl,E⟩;obtain⟨an,ao⟩:=ad.out _ E;obtain⟨g,o,rfl,aa⟩:=ae.out _ E;have N:=Zh E;clear E Y ag Z;go_upto_region 5 with fail
    go_quiet (fail);go_wp2_with fail;go_ret2;exact⟨rfl,N.out.drewN _⟩
end
end
section
open Go.RowKit Go.Acre
attribute [local go_sem ↓] LcG ScG
attribute [local go_sem] Sc1 Sc2 Sc3 Lc2 Lc3
attribute [local go_sem] Kv Kw
attribute [local simp] QH
def Qjw(rb t:Nat)(v:Option Nat)(r:ByteArray)(w:World)(e:Ending)(w':World):Prop:=e= .returned (.tuple #[.agg #[.int .u64 t,.int .i64 (Qd v)],.bool true])/\Xo 213 w' rb r/\Qa (fun i=>i=rb) w w'
theorem Qi4{v:Option Nat}{r:ByteArray}(h:Xo 213 w rb (XJ t v++r))(J:(XJ t v++r).size <=2000000)(aA:t<=30000)(M:Xx v):Calls Tryz.prog 65 #[.pointer (some ⟨rb,0,none⟩)] w (Qjw rb t v r w):=by
 have aq:=Qfj M;have U:XJ t v++r=str (num t)++(str (num (Zm v))++r):=by unfold XJ;rw[KF]
 rw[U] at h J;have am:(str (num (Zm v))++r).size <=2000000:=by rw[ByteArray.size_append] at J;omega
 have aB:IntKind.i64.wrap ((Zm v:Nat):Int)=((Zm v:Nat):Int):=IntWalk.i64_in _ (by omega);have aC:IntKind.i64.wrap (((Zm v:Nat):Int) - 1)=Qd v:=by
  cases v with
  |none=>rfl
  |
   some x=>
   show IntKind.i64.wrap (((x+1:Nat):Int) - 1)=(x:Int)
   rw[IntWalk.i64_in _ (by have:x<5:=M;omega)];omega
 have az:((Zm v:Nat):Int)<=5:=by omega
 have af:Hid (∀w1,Qa Ze w w1->Calls Tryz.prog 127 #[.pointer (some ⟨rb,0,none⟩)] w1 (fun e w'=>e= .returned (.tuple #[.int .u64 t,.bool true])/\Xo 213 w' rb (str (num (Zm v))++r)/\Qa (fun i=>i=rb) w1 w')):=Zh (fun w1 hu=>by
  have D:=Qda (h.upd hu (fun f=>f)) (by omega);unfold QbQ at D;rw[Qc3 _ (by omega)] at D;exact D)
 have ag:Hid (∀w1,Xo 213 w1 rb (str (num (Zm v))++r)->Calls Tryz.prog 127 #[.pointer (some ⟨rb,0,none⟩)] w1 (fun e w'=>e= .returned (.tuple #[.int .u64 (Zm v:Nat),.bool true])/\Xo 213 w' rb r/\Qa (fun i=>i=rb) w1 w')):=Zh (fun w1 hr=>by
  have D:=Qda hr (by omega);unfold QbQ at D;rw[Qc3 _ (by omega)] at D;exact D)
 have ao:rb<w.heap.size:=Ql h;have ad:=Qf (w:=w) (.cells #[.int .u64 0,.int .i64 0] 42);have O:Hid (Qa Ze w (w.alloc (.cells #[.int .u64 0,.int .i64 0] 42))):=Zh ((Zr _ w).alloc _);clear h J am U aq M;generalize hyv:Qd v=y at*
 have al:=Zh hyv;clear hyv;generalize Zm v=z at*
 have ar:z<=5:=by omega
 have aD:decide (z<=5)=true:=decide_eq_true ar;go_enter Tryz.func65,Tryz.ntmps65;go_upto_region 1 with fail
 generalize w.alloc (.cells #[.int .u64 0,.int .i64 0] 42)=w1 at*
 generalize hbn:w.heap.size=b at*
 have W:b≠rb:=by omega
 have ak:=Zh ad;have N:=Zh W;have ae:=Zh hbn;clear ad W ao hbn;go_wp2_with fail;refine (af.out _ O.out).mono ?_
 rintro e w2 ⟨rfl,Y,aa⟩;have aj:=Zh aa;have ah:=Zh Y;clear Y aa;go_wp2_with fail;refine (ag.out _ ah.out).mono ?_
 rintro e I ⟨rfl,Z,ab⟩;have Q:=Zh (aj.out.trans ab (fun _ _ f=>f));have ai:=Zh Z;clear Z ab;have E:=Zh (Q.out.keep ak.out N.out);have au:=Qb E.out 0;have av:=Qb E.out 1;have aw:=Qg E.out 0 none;have ax:=Qg E.out 1 none;go_wp2_with fail;have an:((I.setCell ⟨b,0,none⟩ (.int .u64 t)).setCell ⟨b,1,none⟩ (.int .i64 y)).heap[b]? =some (.cells #[.int .u64 t,.int .i64 y] 42 (0,0)):=Qi (o:=1) (Qi (o:=0) E.out _) _;have ac:Qa (fun i=>i=b) I ((I.setCell ⟨b,0,none⟩ (.int .u64 t)).setCell ⟨b,1,none⟩ (.int .i64 y)):=((Zr (fun i=>i=b) I).setCell (p:=⟨b,0,none⟩) (fun _=>rfl) _).setCell (p:=⟨b,1,none⟩) (fun _=>rfl) _;refine bodyPost_ret (v:=.tuple #[.agg #[.int .u64 t,.int .i64 y],.bool true]) ?_ rfl ⟨by rw[al.out],ac.keep ai.out (fun e=>N.out e.symm),?_⟩
 ·refine (Qis (fn:=Tryz.f65) (p:=2) (u:=3) (ty:=42) ?_ _ _ b 42 #[.int .u64 t,.int .i64 y] (0,0) _ ?_ an Tryz.underlying42 rfl rfl)<;>rfl
 ·have ap:=(O.out.mono (T:=fun i=>i=rb) (fun _ _ f=>f.elim)).trans Q.out (fun _ _ h=>h)
  exact ap.trans ac (fun j ay h=>by have:=ae.out;omega)
def K2(w:World)(sb:Nat)(b:ByteArray):Prop:=w.heap[sb]? =some (.cells #[.string b] 9 (0,0))
theorem K2.upd{b:ByteArray}(h:K2 w na b)(E:Qa S w w')(D: ¬S na):K2 w' na b:=E.keep h D
def QdI(sb:Nat)(b':ByteArray)(w:World)(e:Ending)(w':World):Prop:=e= .returned (.tuple #[])/\K2 w' sb b'/\Qa (fun i=>i=sb) w w'
theorem Qcb{b:ByteArray}(h:K2 w na b)(v:Nat)(N:v<=2000000)(M:b.size<=2000000):Calls Tryz.prog 136 #[.int .u64 v,.pointer (some ⟨na,0,none⟩)] w (QdI na (b++str (num v)) w):=by
 have H:=Zh h;have HP:=Zh (fun w=>Qb7 b v w (by omega) (by omega));have I:w.cell? ⟨na,0,none⟩=some (.string b):=Qb h 0;clear h;go_enter Tryz.func136,Tryz.ntmps136;go_wp2_with fail;refine (HP.out _).mono ?_
 rintro e w2 ⟨rfl,D⟩;have t0:w2.cell? ⟨na,0,none⟩=some (.string b):=Qe D I (fun f=>f);have E:=Zh (D.keep H.out (fun f=>f));have J:=Qg E.out 0 none;go_wp2_with fail;go_end0;exact⟨rfl,Qi (o:=0) E.out _,(D.mono (fun _ _ f=>f.elim)).trans ((Zr (fun i=>i=na) w2).setCell (p:=⟨na,0,none⟩) (fun _=>rfl) _) (fun _ _ h=>h)⟩
theorem Qqm{b:ByteArray}(h:K2 w na b)(v:ByteArray)(N:v.size<=2000000)(M:b.size<=2000000):Calls Tryz.prog 138 #[.string v,.pointer (some ⟨na,0,none⟩)] w (QdI na (b++txt v) w):=by
 have H:=Zh h;have HP:=Zh (fun w=>Qif b v w (by omega) (by omega));have I:w.cell? ⟨na,0,none⟩=some (.string b):=Qb h 0;clear h;go_enter Tryz.func138,Tryz.ntmps138;go_wp2_with fail;refine (HP.out _).mono ?_
 rintro e w2 ⟨rfl,D⟩;have t0:w2.cell? ⟨na,0,none⟩=some (.string b):=Qe D I (fun f=>f);have E:=Zh (D.keep H.out (fun f=>f));have J:=Qg E.out 0 none;go_wp2_with fail;go_end0;exact⟨rfl,Qi (o:=0) E.out _,(D.mono (fun _ _ f=>f.elim)).trans ((Zr (fun i=>i=na) w2).setCell (p:=⟨na,0,none⟩) (fun _=>rfl) _) (fun _ _ h=>h)⟩
theorem Qql{b:ByteArray}(h:K2 w na b):Calls Tryz.prog 140 #[.pointer (some ⟨na,0,none⟩)] w (Is (.string b) w):=by
 have D:w.cell? ⟨na,0,none⟩=some (.string b):=Qb h 0;clear h;go_enter Tryz.func140,Tryz.ntmps140;go_wp2_with fail;go_ret;exact⟨rfl,rfl⟩
def QjF(b:ByteArray)(w:World)(e:Ending)(w':World):Prop:= ∃sb,e= .returned (.tuple #[.func (.func 136) #[] #[.pointer (some ⟨sb,0,none⟩)],.func (.func 138) #[] #[.pointer (some ⟨sb,0,none⟩)],.func (.func 140) #[] #[.pointer (some ⟨sb,0,none⟩)]])/\w.heap.size<=sb/\K2 w' sb b/\Qa Ze w w'
theorem Qnb(b:ByteArray)(w:World):Calls Tryz.prog 74 #[.string b] w (QjF b w):=by
 go_enter Tryz.func74,Tryz.ntmps74;go_wp2_with fail;go_ret3;exact⟨w.heap.size,rfl,Zf _,Qf _,(Zr _ w).alloc _⟩
theorem QhN: ∀(r k:Nat),memT k (r+1)=memT k r++[.n (k+r)]
 |0,k=>rfl
 |
  r+1,k=>by
  rw[memT,QhN r (k+1),memT]
  show _=_::memT (k+1) r++_
  rw[show k+1+r=k+(r+1) by omega]
  rfl
theorem Qgs: ∀(l:List En) (i:Nat) (e:En),Zw i (l++[e])=Zw i l++[.s (Xy (i+l.length+1) e.1 e.2)]
 |[],i,e=>rfl
 |
  x::l,i,e=>by
  rw[List.cons_append,Zw,Qgs l (i+1) e,Zw,List.length_cons]
  show _=_::Zw (i+1) l++_
  rw[show i+1+l.length+1=i+(l.length+1)+1 by omega]
  rfl
def Qbv(k:Kp):ByteArray:=str [3]++XJ k.t k.v
def KN(k:Kp)(j:Nat):ByteArray:=Qbv k++Xw ([.n k.bi,.n k.bt,.n k.n]++memT 0 j)
def KD(k:Kp)(j:Nat):ByteArray:=Qbv k++Xw ([.n k.bi,.n k.bt,.n k.n]++memT 0 k.n++[.n k.l.length]++Zw k.bi (k.l.take j))
theorem Qry(t:Tok):Xw [t]=QbJ t:=WJ _
theorem Qfd(a:List Tok)(t:Tok):Xw (a++[t])=Xw a++QbJ t:=by rw[Qjb,Qry]
theorem Qhh(k:Kp):KN k 0=Qbv k++str (num k.bi)++str (num k.bt)++str (num k.n):=by
 unfold KN;show _++(str (num k.bi)++(str (num k.bt)++(str (num k.n)++⟨#[]⟩)))=_;rw[WJ,KF,KF]
theorem Qhj(k:Kp)(j:Nat):KN k (j+1)=KN k j++str (num j):=by
 unfold KN;rw[QhN,Nat.zero_add,<-List.append_assoc,Qfd,<-KF];rfl
theorem Qg7(k:Kp):KD k 0=KN k k.n++str (num k.l.length):=by
 unfold KD KN;rw[List.take_zero,Zw,List.append_nil,Qfd,<-KF];rfl
theorem Qhb(k:Kp)(j:Nat)(h:j<k.l.length):KD k (j+1)=KD k j++txt (Xy (k.bi+j+1) k.l[j].1 k.l[j].2):=by
 unfold KD;rw[List.take_add_one,List.getElem?_eq_getElem h,Option.toList_some,Qgs,List.length_take,Nat.min_eq_left (by omega),<-List.append_assoc,Qfd,<-KF];rfl
theorem Qg8(k:Kp):KD k k.l.length=allB k:=by
 unfold KD allB Qbv allT;rw[List.take_length]
theorem Qhi(k:Kp){i:Nat}: ∀(j:Nat),(KN k i).size <=(KN k (i+j)).size
 |0=>Zf _
 |
  j+1=>by
  have:=Qhi k (i:=i) j
  rw[show i+(j+1)=i+j+1 by omega,Qhj,ByteArray.size_append]
  omega
theorem Qha(k:Kp){i:Nat}: ∀(j:Nat),i+j<=k.l.length->(KD k i).size <=(KD k (i+j)).size
 |0,_=>Zf _
 |
  j+1,h=>by
  have:=Qha k (i:=i) j (by omega)
  rw[show i+(j+1)=i+j+1 by omega,Qhb k _ (by omega),ByteArray.size_append]
  omega
theorem Qg9{k:Kp}(h:ZY k)(E:i<=k.l.length):(KD k i).size <=1000000:=by
 have D:=Qha k (i:=i) (k.l.length - i) (by omega);rw[show i+(k.l.length - i)=k.l.length by omega,Qg8] at D;have:=QaW (r:=.whole k) h;exact Zt D this.2
theorem Qen{k:Kp}(h:ZY k)(I:i<=k.n):(KN k i).size <=1000000:=by
 have D:=Qhi k (i:=i) (k.n - i);rw[show i+(k.n - i)=k.n by omega] at D;have E:=Qg9 h (i:=0) (Zz _);rw[Qg7,ByteArray.size_append] at E;omega
theorem Qjg{k:Kp}(J:ZY k)(aR:QD w mv k.n na)(ai:QA w Y k.bi k.l):Calls Tryz.prog 32 #[.agg #[.int .u64 k.t,.int .i64 (Qd k.v)],QC k.bi k.bt mv,Y] w (Qk (.string (allB k)) w):=by
 obtain⟨a,cap,rfl,_,_⟩:=ai.slice;have a6:=Zh aR;have a3:=Zh ai;obtain⟨ab,rfl,_,_,_,_,_⟩:=aR;have N:=Zh J;have bJ:=J.bi;have bK:=J.bt;have bL:=J.n;have bM:=J.len;have bI:IntKind.u64.wrap (k.n:Int)=k.n:=IntWalk.u64_in _ (by omega);have bH:IntKind.u64.wrap (k.l.length:Int)=k.l.length:=IntWalk.u64_in _ (by omega);have a4:=Zh (fun w=>QgY k.t k.v (by have:=J.t;omega) J.v w);have a1:=Qf (w:=w) (.cells #[.int .u64 k.t,.int .i64 (Qd k.v)] 42);have aT:(w.alloc (.cells #[.int .u64 k.t,.int .i64 (Qd k.v)] 42)).heap.size =w.heap.size+1:=by simp
 have au:=Qf (w:=w.alloc (.cells #[.int .u64 k.t,.int .i64 (Qd k.v)] 42)) (.cells #[.int .u64 k.bi,.int .u64 k.bt,.slice (some ⟨na,0,none⟩) k.n ab] 44);rw[aT] at au;have u1:Qa (fun _=>False) w (w.alloc (.cells #[.int .u64 k.t,.int .i64 (Qd k.v)] 42)):=(Zr _ w).alloc _;have u2:Qa (fun _=>False) (w.alloc (.cells #[.int .u64 k.t,.int .i64 (Qd k.v)] 42)) ((w.alloc (.cells #[.int .u64 k.t,.int .i64 (Qd k.v)] 42)).alloc (.cells #[.int .u64 k.bi,.int .u64 k.bt,.slice (some ⟨na,0,none⟩) k.n ab] 44)):=(Zr _ _).alloc _;have aM:=Zh (u2.keep a1 (fun f=>f));have aN:=Zh au;have bg:=Zh (u1.trans u2 (fun _ _ f=>f));clear ai a1 au aT u1 u2 J;unfold QC;go_enter Tryz.func32,Tryz.ntmps32;go_upto_region 1 with fail
 change Code.wp _ _ _ _ ((w.alloc (.cells #[.int .u64 k.t,.int .i64 (Qd k.v)] 42)).alloc (.cells #[.int .u64 k.bi,.int .u64 k.bt,.slice (some ⟨na,0,none⟩) k.n ab] 44));generalize (w.alloc (.cells #[.int .u64 k.t,.int .i64 (Qd k.v)] 42)).alloc (.cells #[.int .u64 k.bi,.int .u64 k.bt,.slice (some ⟨na,0,none⟩) k.n ab] 44)=w1 at*
 have aP:=Ql aN.out;have bo:Hid (w.heap.size+1<w1.heap.size):=aP;clear aP;generalize hb1:w.heap.size=xb at*
 have bp:=Zh hb1;clear hb1;have br:=Qb aM.out 0;have bs:=Qb aM.out 1;go_wp2_with fail;refine (a4.out _).mono ?_
 rintro e w2 ⟨rfl,ap⟩;have ak:(⟨#[3]⟩:ByteArray)++XJ k.t k.v=Qbv k:=rfl;have bx:=Qbt N.out.t N.out.v;have bv: ¬(9223372036854775807<1+(XJ k.t k.v).size):=by omega
 have aF:=Zh (bg.out.trans ap (fun _ _ f=>f));have aE:=Zh ap;have af:=Zh (Qnb (Qbv k) w2);clear ap br bs;rw[<-ak] at af;go_wp2_with fail;refine af.out.mono ?_
 rintro e aw ⟨D,rfl,bC,an,aq⟩;rw[ak] at an;have a0:w.heap.size<=D:=by have:=aF.out.size;omega
 have aC:=Zh a0;have aH:=Zh (aF.out.trans aq (fun _ _ f=>f));have a2:=(aE.out.trans aq (fun _ _ f=>f)).keep aN.out (fun f=>f);obtain⟨bD,aW⟩:xb≠D/\xb+1≠D:=by have:=aE.out.size;have:=bo.out;have:=bp.out;omega
 have bq:=Zh a2;have a7:=Zh aW;have be:=Zh an;clear aq bC an a0 bv bx ak bD aW a2 af;have Z:Hid (∀w',Qa (fun i=>i=D) aw w'->w'.cell? ⟨xb+1,0,none⟩=some (.int .u64 k.bi)/\w'.cell? ⟨xb+1,1,none⟩=some (.int .u64 k.bt)/\w'.cell? ⟨xb+1,2,none⟩=some (.slice (some ⟨na,0,none⟩) k.n ab)):=Zh (fun w' hu=>by
  have h:=cells3 (hu.keep bq.out (fun e=>a7.out e));exact⟨h.1,h.2.1,h.2.2.1⟩)
 obtain⟨Q,U,W⟩:=Z.out _ (Zr _ _);have aQ:(KN k 0).size <=1000000:=Qen N.out (Zz _);rw[Qhh,ByteArray.size_append,ByteArray.size_append,ByteArray.size_append] at aQ;have ay:=Zh (Qcb be.out k.bi (by omega) (by omega));go_wp2_with fail;refine ay.out.mono ?_
 rintro e bP ⟨rfl,aU,ar⟩;obtain⟨Q,U,W⟩:=Z.out _ ar;have bk:=Zh ar;have az:=Zh (Qcb aU k.bt (by omega) (by rw[ByteArray.size_append];omega));clear aU ar;go_wp2_with fail;refine az.out.mono ?_
 rintro e w5 ⟨rfl,aV,aY⟩;have aI:=Zh (bk.out.trans aY (fun _ _ h=>h));obtain⟨Q,U,W⟩:=Z.out _ aI.out;have aA:=Zh (Qcb aV k.n (by omega) (by rw[ByteArray.size_append,ByteArray.size_append];omega));clear aV aY;go_wp2_with fail;refine aA.out.mono ?_
 rintro e w6 ⟨rfl,am,aZ⟩;have aJ:=Zh (aI.out.trans aZ (fun _ _ h=>h));obtain⟨Q,U,W⟩:=Z.out _ aJ.out;rw[<-Qhh] at am;have bc:=Zh am;clear am aZ aQ;clear ay az aA;go_upto_block 0 with fail
 clear Q U W;go_wp2_with fail;go_loopw [41] (fun x wr=> ∃j:Nat,x= .int .i64 j/\j<=k.n/\K2 wr D (KN k j)/\Qa (fun i=>i=D) aw wr) (fun x _=>k.n - (Go.RowKit.intOf x).toNat)
 case atStart=>exact⟨0,rfl,by omega,bc.out,aJ.out⟩
 case round=>
  obtain⟨j,rfl,ac,O,M⟩:=hrel;have aK:=Zh M;have bn:Hid (Qa (fun _=>False) w wr):=Zh (aH.out.trans M (fun i hi e=>by have:=aC.out;omega));obtain⟨Q,U,W⟩:=Z.out _ M;clear M;by_cases hlt:j<k.n
  ·have al:(j:Int)< (k.n:Int):=by omega
   have bz:(0:Int)<=j:=by omega
   have bE:wr.cell? ⟨na,j,none⟩=some (.int .i64 (j:Int)):=by
    obtain⟨_,bF,_,_,_,_,bu⟩:=a6.out.upd bn.out (fun f=>f);exact bu j hlt
   have bG:IntKind.u64.wrap (j:Int)=j:=IntWalk.u64_in _ (by omega);have I:=Zh (Qcb O j (by omega) (by have:=Qen N.out ac;omega));rw[<-Qhj] at I;clear O;go_wp2_with fail;refine I.out.mono ?_
   rintro e w7 ⟨rfl,ae,aa⟩;have ah:=Zh (aK.out.trans aa (fun _ _ h=>h));clear aa;go_wp2_with fail;exact⟨⟨j+1,by go_num,by omega,ae,ah.out⟩,by simp[Go.RowKit.intOf];omega⟩
  ·have al: ¬(j:Int)< (k.n:Int):=by omega
   have aj:j=k.n:=by omega
   subst aj;have I:=Zh (Qcb O k.l.length (by omega) (by have:=Qen N.out ac;omega));rw[<-Qg7] at I;clear O;go_wp2_with fail;refine I.out.mono ?_
   rintro e w7 ⟨rfl,ae,aa⟩;have ah:=Zh (aK.out.trans aa (fun _ _ h=>h));have bd:=Zh ae;clear aa ae;clear Q U W I;go_upto_block 2 with fail
   go_wp2_with fail;go_loopw [57] (fun x wr=> ∃j:Nat,x= .int .i64 j/\j<=k.l.length/\K2 wr D (KD k j)/\Qa (fun i=>i=D) aw wr) (fun x _=>k.l.length - (Go.RowKit.intOf x).toNat)
   case atStart=>exact⟨0,rfl,by omega,bd.out,ah.out⟩
   case round=>
    obtain⟨j,rfl,ac,O,M⟩:=hrel;have bm:=Zh M;have aL:Hid (Qa (fun _=>False) w wr):=Zh (aH.out.trans M (fun i hi e=>by have:=aC.out;omega));have aD:=Zh O;clear M O;by_cases hlt:j<k.l.length
    ·have al:(j:Int)< (k.l.length:Int):=by omega
     have bz:(0:Int)<=j:=by omega
     obtain⟨g,o,rfl,aS⟩:=(a3.out.Qc aL.out).range hlt;have ad:=N.out.l k.l[j] (List.getElem_mem hlt);have aB:=Zh aS;have ax:=Zh (fun w=>Qgo (k.bi+j+1) k.l[j].1 k.l[j].2 (by omega) (by omega) (by omega) (by omega) (by omega) w);have bw:=Qbl (i:=k.bi+j+1) (e:=k.l[j]) ⟨by omega,⟨ad.1,ad.2.1⟩,ad.2.2⟩;have a5:Hid ((Qh (k.bi+j+1) k.l[j].1 k.l[j].2).toList.length =24):=Zh rfl;have ag:Hid ((Qh (k.bi+j+1) k.l[j].1 k.l[j].2).size =24):=Zh rfl;have ba:=Zh (Z3 (k.bi+j+1) k.l[j].1 k.l[j].2);have a8:Hid (∀w',K2 w' D (KD k j)->Calls Tryz.prog 138 #[.string (Xy (k.bi+j+1) k.l[j].1 k.l[j].2),.pointer (some ⟨D,0,none⟩)] w' (QdI D (KD k (j+1)) w')):=Zh (fun w' bA=>by
      have h:=Qqm bA (Xy (k.bi+j+1) k.l[j].1 k.l[j].2) (by omega) (by have:=Qg9 N.out ac;omega);rw[<-Qhb k j hlt] at h;exact h)
     clear aS ad bw;unfold QS at ax;generalize Xy (k.bi+j+1) k.l[j].1 k.l[j].2=EB8 at*
     generalize Qh (k.bi+j+1) k.l[j].1 k.l[j].2=E at*
     have av:=Qf (w:=wr) (.cells QG 116);go_upto_region 14 with (first|refine wpList_load_mid rfl 116 _ rfl _ _ rfl _ _ aB.out Tryz.underlying116 rfl (QaJ a5.out) ?_|refine wpList_store_row rfl 116 _ _ rfl _ _ rfl rfl _ _ av (Z4 ag.out) (by rw[ag.out];rfl) ba.out ?_)
     have aO:=Xr _ _ E av;have aG:=Zh (QL ((Zr (fun _=>False) wr).alloc (.cells QG 116)) (g:=wr.heap.size) (fun h=>by omega) E);change Code.wp _ _ _ _ (((wr.alloc (.cells QG 116)).setRow wr.heap.size E));clear av aB;generalize (wr.alloc (.cells QG 116)).setRow wr.heap.size E=w9 at*
     generalize wr.heap.size=eb at*
     go_wp2_with (refine wpList_load_row rfl 116 _ rfl _ rfl _ _ _ _ aO Tryz.underlying116 rfl (Z4 ag.out) ?_);refine (ax.out _).mono ?_
     rintro e bN ⟨rfl,ao⟩;have bb:=Zh (aD.out.upd (aG.out.trans ao (fun _ _ f=>f)) (fun f=>f));have bh:=Zh (bm.out.trans (aG.out.trans ao (fun _ _ f=>f)) (fun _ _ f=>f.elim));clear ao aO;have a9:=Zh (a8.out _ bb.out);go_wp2_with fail;refine a9.out.mono ?_
     rintro e bO ⟨rfl,bB,aX⟩;have bj:=Zh (bh.out.trans aX (fun _ _ h=>h));clear aX;go_wp2_with fail;exact⟨⟨j+1,by go_num,by omega,bB,bj.out⟩,by simp[Go.RowKit.intOf];omega⟩
    ·have al: ¬(j:Int)< (k.l.length:Int):=by omega
     have aj:j=k.l.length:=by omega
     subst aj;have I:=Zh (Qql aD.out);rw[Qg8] at I;go_wp2_with fail;refine I.out.mono ?_
     rintro e w' ⟨rfl,rfl⟩;go_wp2_with fail;go_ret;exact⟨rfl,aL.out⟩
end
section
open Go.RowKit Go.Acre
attribute [local go_sem ↓] LcG ScG
attribute [local go_sem] Sc1 Sc2 Sc3 Lc2 Lc3
theorem X6(w:World)(a:Option Addr)(n c:Nat):(binOp .eql 45 (.slice a n c) (.slice none 0 0)).run Tryz.prog w= .ok (.bool a.isNone) w:=Lib.run_eql_slice_nil w 45 116 a n c 0 0 Tryz.underlying45
attribute [local simp] QH X6
set_option maxRecDepth 10000
def QbR(i:Nat)(l:List En)(w:World)(e:Ending)(w':World):Prop:= ∃v,e= .returned v/\w'.ownsRow w.heap.size 116 24 v l.length (Qs i l)/\Qa Ze w w'
theorem QkJ{l:List En}(h:QA w v i l)(al:l.length<=100000):Calls Tryz.prog 71 #[v] w (QbR i l w):=by
 obtain⟨aj,ac,ag,ah,ai⟩:=info_parts QcL;have N:=Zh h;obtain⟨hlen,a,cap,rfl,Z,aa,D,_⟩:=h
 cases a with
 |
  none=>
  have Y:l.length=0:=by have:=D rfl;omega
  have af:l=[]:=List.eq_nil_of_length_eq_zero Y;subst af;have ab:cap=0:=D rfl;subst ab;clear D hlen Z aa;go_enter Tryz.func71,Tryz.ntmps71;go_wp2_with fail;go_ret;exact⟨_,rfl,⟨rfl,.inl ⟨rfl,rfl⟩⟩,Zr _ _⟩
 |
  some ad=>
  clear D hlen;go_enter Tryz.func71,Tryz.ntmps71;have E:Qa Ze w (w.alloc (.cells #[] 116)):=(Zr _ w).alloc _;have M:=Zh (World.ownsRow_made (base:=w.heap.size) (e:=116) (size:=24) w #[] 0 (Zf _) (Zz _) rfl);have O:=Zh (Qr.Qc N.out E);have Q:=Zh E;clear E;go_wp2_with (at_builtin;refine QbM rfl _ _ 45 rfl w.heap.size 116 aj (.agg QG) 24 264 Tryz.underlying45 ac ag ah ai rfl (by decide) _ _ _ rfl M.out _ l.length (Qs i l) rfl O.out ?c2 ?c3 ?c4 ?c5 ?_)
  case c2=>exact Qeb l i
  case c3=>unfold maxLen;omega
  case c4=>omega
  case c5=>first|omega|(simp;done)
  intro v2 w2 J I;have U:=Zh (Q.out.X8 I (fun j ae ak=>by simp[Value.ownBlock] at ae;omega));have W:=Zh J;clear J I;go_wp2_with fail;go_ret;exact⟨v2,rfl,by simpa using W.out,U.out⟩
theorem Ql5: ∀(l:List En) (i k:Nat),k<l.length->(Qs i l)[k*24+23]? =some (.slice none 0 0):=fun l i k D=>Qea l i k D 23 _ rfl
theorem Qb0{l:List En}(h:QA w v i l)(al:l.length<=100000):Calls Tryz.prog 27 #[v] w (QbR i l w):=by
 have ae:=Zh (QkJ h al);clear h;go_enter Tryz.func27,Tryz.ntmps27;go_wp2_with fail;refine ae.out.mono ?_
 rintro e w2 ⟨v2,rfl,E,N⟩;have ah:=Zh E;have U:=Zh N;rcases E.2 with ⟨rfl,aj⟩|⟨g,cap,cur,rfl,J,W,ak,Z,aa,M⟩
 ·clear E N
  have am:l=[]:=List.eq_nil_of_length_eq_zero aj;subst am;go_upto_block 0 with fail
  go_wp2_with fail;go_loopw [9] (fun x wr=>x= .int .i64 0/\wr=w2) (fun x _=>0)
  case atStart=>exact⟨rfl,rfl⟩
  case round=>
   obtain⟨rfl,rfl⟩:=hrel;go_wp2_with fail;go_ret;exact⟨_,rfl,ah.out,U.out⟩
 ·have Q:Hid (∀k,k<l.length->cur[k*24+23]? =some (.slice none 0 0)):=Zh (fun k Y=>by
   have I:=Ql5 l i k Y;rw[<-M,List.getElem?_take] at I;split at I
   ·simpa using I
   ·cases I)
  have af:=Zh W;have ac:Hid (∀wr:World,wr.heap[g]? =some (.cells cur 116 (0,0))->wr.ownsRow w.heap.size 116 24 (.slice (some ⟨g,0,none⟩) l.length cap) l.length (Qs i l)):=Zh (fun wr h=>⟨E.1,.inr ⟨g,cap,cur,rfl,J,h,ak,Z,aa,M⟩⟩);have ad:=Zh J;clear E N W M aa Z J;go_upto_block 0 with fail
  go_wp2_with fail;go_loopw [9] (fun x wr=> ∃k:Nat,x= .int .i64 k/\k<=l.length/\wr.heap[g]? =some (.cells cur 116 (0,0))/\Qa (fun _=>False) w wr) (fun x _=>l.length - (Go.RowKit.intOf x).toNat)
  case atStart=>exact⟨0,rfl,by omega,af.out,U.out⟩
  case round=>
   obtain⟨k,rfl,Y,D,O⟩:=hrel;by_cases hlt:k<l.length
   ·have an:(k:Int)< (l.length:Int):=by omega
    have aq:(0:Int)<=k:=by omega
    have ao:=(Qb D (k*24+23)).trans (Q.out k hlt);have ap:=Qg D (k*24+23) none;have ag:=Zh D;have ai:=Zh O;clear D O;go_wp2_with fail;refine (clone_nil _).mono ?_
    rintro e w' ⟨rfl,rfl⟩;go_wp2_with fail;have ab:=Qi (o:=k*24+23) ag.out (.slice none 0 0);rw[QiG (Q.out k hlt)] at ab;exact⟨⟨k+1,by go_num,by omega,ab,ai.out.setCell (p:=⟨g,k*24+23,none⟩) (fun h=>absurd h (by have:=ad.out;simp only;omega)) _⟩,by simp[Go.RowKit.intOf];omega⟩
   ·have an: ¬(k:Int)< (l.length:Int):=by omega
    go_wp2_with fail;go_ret;exact⟨_,rfl,ac.out _ D,O⟩
theorem QcO(bi bt:Nat)(h:QD w v n g):Calls Tryz.prog 26 #[QC bi bt v] w (KV bi bt n w):=by
 have Y:=Zh h;have ad: ∃cap,v= .slice (some ⟨g,0,none⟩) n cap:=⟨h.choose,h.choose_spec.1⟩
 obtain⟨cap,rfl⟩:=ad;clear h;unfold QC;go_enter Tryz.func26,Tryz.ntmps26;go_wp2_with fail;have I:Qa Ze w ((w.alloc (.cells #[.int .u64 bi,.int .u64 bt,.slice (some ⟨g,0,none⟩) n cap] 44)).alloc (.cells #[.int .u64 0,.int .u64 0,.slice none 0 0] 44)):=((Zr _ w).alloc _).alloc _;have hx1:=heap_alloc2_old w (.cells #[.int .u64 bi,.int .u64 bt,.slice (some ⟨g,0,none⟩) n cap] 44) (.cells #[.int .u64 0,.int .u64 0,.slice none 0 0] 44);have U:=heap_alloc2_new w (.cells #[.int .u64 bi,.int .u64 bt,.slice (some ⟨g,0,none⟩) n cap] 44) (.cells #[.int .u64 0,.int .u64 0,.slice none 0 0] 44);refine (QdW (Y.out.upd I (fun f=>f))).mono ?_
 rintro e w2 ⟨v2,D,rfl,E,N,J⟩;have W:=J.keep hx1 (fun f=>f);have M:=J.keep U (fun f=>f);have O:=I.trans J (fun _ _ f=>f);have hsz:=I.size;have aq:w.heap.size+2<=D:=by simpa using N
 clear hx1 U I J N;obtain⟨ah,ai,aj,an,ao,ap⟩:=cells3 W;obtain⟨ak,al,am,au,av,aw⟩:=cells3 M;have Z:=Zh E;have aa:=Zh O;have ab:=Zh M;obtain⟨cap2,ae⟩: ∃cap,v2= .slice (some ⟨D,0,none⟩) n cap:=⟨E.choose,E.choose_spec.1⟩
 subst ae;clear E O W M;generalize hb:w.heap.size=b at*
 have ac:b+1≠b:=by omega
 go_wp2_with fail;have ag:(w2.setCell ⟨b,2,none⟩ (.slice (some ⟨D,0,none⟩) n cap2)).heap[b+1]? =_:=(heap_setCell_other _ _ _ _ ac).trans ab.out;have af:=Qdg (v0:=.int .u64 bi) (v1:=.int .u64 bt) (v2:=.slice (some ⟨D,0,none⟩) n cap2) ag;have Q:Qa (fun i=>i=b\/i=b+1) w2 _:=XG (XG (XG (XG (Zr (fun i=>i=b\/i=b+1) w2) b 2 (.slice (some ⟨D,0,none⟩) n cap2) (fun _=>.inl rfl)) (b+1) 0 (.int .u64 bi) (fun _=>.inr rfl)) (b+1) 1 (.int .u64 bt) (fun _=>.inr rfl)) (b+1) 2 (.slice (some ⟨D,0,none⟩) n cap2) (fun _=>.inr rfl);refine bodyPost_ret (v:=QC bi bt (.slice (some ⟨D,0,none⟩) n cap2)) ?_ rfl ⟨_,D,rfl,Z.out.upd Q (by omega),by omega,aa.out.trans Q (fun i ar e=>by omega)⟩
 exact results_cell_row rfl _ _ _ _ _ _ _ rfl af Tryz.underlying44 rfl (QcM _ _ _)
end
section
open Go.RowKit Go.Acre
attribute [local go_sem ↓] LcG ScG ApG
attribute [local go_sem] Sc1 Sc2 Sc3 Lc2 Lc3
attribute [local simp] QH X6
def Kp.put(k:Kp)(i t s:Nat):Kp:={k with l:=k.l.take (i - k.bi - 1)++[(t,s)]}
section
variable {w:World} {S:Nat->Prop} {kb wb:Nat} {k:Kp} {mv ev:Value} {mg:Nat}
def QdF(S:Nat->Prop)(kb wb:Nat)(k:Kp)(mv:Value)(mg:Nat)(w:World)(e:Ending)(w':World):Prop:=
 ∃ev' g,e= .returned (.bool true)/\Xz w' S kb wb k mv ev' mg/\ev'.ownBlock=some g/\w.heap.size<=g/\Qa (fun j=>j=kb) w w'
theorem Xz.Qc{w':World}(h:Xz w S kb wb k mv ev mg)(D:Qa Ze w w'):Xz w' S kb wb k mv ev mg:=⟨D.keep h.row (fun f=>f),h.mem.upd D (fun f=>f),h.Qq.Qc D,h.efar,h.mfar,h.sk,h.few⟩
theorem QmZ{w8:World}{V:Value}{D i t s:Nat}(h:Xz w8 S kb wb k mv ev mg)(W:Qa Ze w w8)(O:QA w8 V k.bi (k.put i t s).l)(J:V.ownBlock=some D)(N:w.heap.size<=D)(U:D≠kb)(M: ¬S D)(Q:i<=k.last+1)(Z:i<=20000)(Y:k.bi<i):
  QdF S kb wb (k.put i t s) mv mg w (.returned (.bool true)) (w8.setCell ⟨kb,6,none⟩ V):=by
 have I:Qa (fun j=>j=kb) w8 (w8.setCell ⟨kb,6,none⟩ V):=(Zr (fun j=>j=kb) w8).setCell (p:=⟨kb,6,none⟩) (fun _=>rfl) _;have hlen:(k.put i t s).l.length =i - k.bi:=by
  show (k.l.take (i - k.bi - 1)++[(t,s)]).length =_;unfold Kp.last at Q;rw[List.length_append,List.length_take,List.length_singleton];omega
 refine⟨V,D,rfl,⟨?_,?_,?_,?_,h.mfar,h.sk,?_⟩,J,N,(W.mono (fun _ _ f=>f.elim)).trans I (fun _ _ h=>h)⟩
 ·exact Qi (o:=6) h.row V
 ·exact h.mem.upd I (fun e=>h.mfar (by rw[e];exact h.sk))
 ·exact Qr.X3 O I (fun g E e=>by
   rw[J] at E
   cases E
   exact U e)
 ·intro g E
  rw[J] at E
  cases E
  exact M
 ·refine⟨?_,h.few.2⟩
  rw[hlen];show k.bi+(i - k.bi)<=20000;omega
theorem Qep(h:Xz w S kb wb k mv ev mg)(av: ∀j,S j->j<w.heap.size){i t s:Nat}(a9:k.bi<i)(aR:i<=k.last+1)(aS:i<=20000):Calls Tryz.prog 68 #[.pointer (some ⟨kb,0,none⟩),QS i t s] w (QdF S kb wb (k.put i t s) mv mg w):=by
 have O:=ZJ i t s;have ac:=Wt i t s;have an:Hid (∀w' g',w'.heap[g']? =some (.cells (Qh i t s) 116 (0,0))->Calls Tryz.prog 27 #[.slice (some ⟨g',0,none⟩) 1 1] w' (fun e aj=> ∃W Y m,e= .returned (.slice (some ⟨W,0,none⟩) m Y)/\Hid (m=1)/\aj.ownsRow w'.heap.size 116 24 (.slice (some ⟨W,0,none⟩) m Y) m (Qs (i - 1) [(t,s)])/\Qa Ze w' aj)):=Zh (fun w' g' hg=>by
  refine (Qb0 (i:=i - 1) (l:=[(t,s)]) (Qgv (i:=i - 1) ?_) (by simp)).mono ?_
  ·rw[show i - 1+1=i by omega]
   exact hg
  ·rintro e aj ⟨v,rfl,E,I⟩
   rcases E.2 with ⟨rfl,aO⟩|⟨g,cap,cur,rfl,_⟩
   ·cases aO
   ·exact⟨g,cap,1,rfl,Zh rfl,E,I⟩)
 have aD:Hid (Qs (i - 1) [(t,s)]=(Qh i t s).toList):=Zh (by rw[Qs,Qs,List.append_nil,show i - 1+1=i by omega]);unfold QS;obtain⟨A,Q⟩: ∃A,A=Qh i t s:=⟨_,rfl⟩
 rw[<-Q] at O ac an aD;rw[<-Q];have ak:=Zh O;have a4:=Zh Q;clear Q;have H:=Zh h;have ah:Qa Ze w (w.alloc (.cells A 116)):=(Zr _ w).alloc _;have az:=Qf (w:=w) (.cells A 116);have Z:=Zh (h.Qc ah);have aG:=Zh ah;have ap:=Zh az;have a5: ¬(i:Int)<=k.bi:=by omega
 have ba:k.last=k.bi+k.l.length:=rfl;have a7:=h.few;have be:IntKind.u64.wrap ((i:Int) - 1)=(i:Int) - 1:=IntWalk.u64_in _ (by omega);have a8: ¬(k.last:Int)< (i:Int) - 1:=by omega
 clear h ah az O;go_enter Tryz.func68,Tryz.ntmps68;go_upto_region 1 with fail
 generalize w.alloc (.cells A 116)=w1 at*
 generalize hbn:w.heap.size=b at*
 have aB:=Zh hbn;clear hbn;have aa:Hid (∀w',Qa Ze w1 w'->w'.cell? ⟨b,0,none⟩=some (.int .u64 i)/\w'.cell? ⟨kb,3,none⟩=some (.int .u64 k.bi)):=Zh (fun w' hu=>⟨by rw[Qb (hu.keep ap.out (fun f=>f)) 0];exact ac,Qb (Z.out.Qc hu).row 3⟩);have aE:Hid (∀w',Qa Ze w1 w'->Calls Tryz.prog 73 #[.pointer (some ⟨kb,0,none⟩)] w' (Qk (.int .u64 k.last) w')):=Zh (fun w' hu=>QcR (Z.out.Qc hu));have hcur:Qa Ze w1 w1.drew:=(Zr _ w1).drew;obtain⟨ad,ae⟩:=aa.out _ hcur;have aK:=ad;have e1:=ae;clear ac
 first|(go_region_held3 (fun w'=>w'.cell? ⟨b,0,none⟩=some (.int .u64 i)/\w'.cell? ⟨kb,3,none⟩=some (.int .u64 k.bi)) (first|exact⟨ad,ae⟩|exact aa.out _ (by assumption)) ((first
  |(go_at_call 73;refine (aE.out _ (by assumption)).mono ?_;rintro e w2 ⟨rfl,ax⟩;have ag:Qa Ze w1 w2:=Qa.trans hcur ax (fun _ _ f=>f)))))|fail
 all_goals
  obtain⟨aI,aJ⟩:=aa.out _ ag;have aX:IntKind.u64.wrap ((i:Int) - (k.bi:Int))=(i:Int) - (k.bi:Int):=IntWalk.u64_in _ (by omega);obtain⟨j,aw⟩: ∃j,j=i - k.bi - 1:=⟨_,rfl⟩
  have aY:IntKind.u64.wrap ((i:Int) - (k.bi:Int) - 1)=(j:Int):=by rw[IntWalk.u64_in _ (by omega)];omega
  have aZ:IntKind.i64.wrap (j:Int)=j:=IntWalk.i64_in _ (by omega);have aT:j<=k.l.length:=by omega
  have am:=Zh aw;have ao:=Zh ag;clear aw ag ax hcur ad ae aK e1;go_upto_region 3 with fail
  go_quiet (fail);go_upto_region 4 with fail
  have U:=ao.out.drewN nq;generalize w2.drewN nq=w6 at*
  have M:=Zh (Z.out.Qc U);have aH:=Zh (U.keep ap.out (fun f=>f));have ab:=Zh (aG.out.trans U (fun _ _ f=>f));clear U aI aJ ao aX aY aZ;obtain⟨aq,ar,aP,a6,bb⟩:=M.out.Qq.slice;subst aP;have N:Hid (∀w',Qa Ze w6 w'->w'.cell? ⟨kb,6,none⟩=some (.slice aq k.l.length ar)/\w'.frozen? ⟨kb,6,none⟩=false):=Zh (fun w' hu=>⟨Qb (M.out.Qc hu).row 6,Qg (M.out.Qc hu).row 6 none⟩);have aU:(LdC ⟨b,0,none⟩ 24).run Tryz.prog w6.drew= .ok A w6.drew:=Xc (show w6.drew.heap[b]? =_ from aH.out) ak.out;have O:=ak.out;have aQ:=QgR O;obtain⟨a1,aL⟩:=N.out _ ((Zr Ze w6).drew);have bc:(0:Int)<=j:=by omega
  have bd:(j:Int)<=ar:=by omega
  have D:Qa Ze w6 (w6.drew.alloc (.cells A 116)):=((Zr Ze w6).drew).alloc _;have aA:=Qf (w:=w6.drew) (.cells A 116);have aF:=Zh (an.out _ _ aA);have al:Hid (∀w',Qa Ze w6 w'-> ∀v B m,Hid (m=1)->w'.ownsRow B 116 24 v m (Qs (i - 1) [(t,s)])-> ∃b8 c w8,(ApC #[45,45] 45 #[.slice aq j j,v]).run Tryz.prog w'= .ok (.slice (some ⟨b8,0,none⟩) (j+m) c) w8/\
    QA w8 (.slice (some ⟨b8,0,none⟩) (j+m) c) k.bi (k.put i t s).l /\w'.heap.size<=b8/\Qa Ze w' w8):=Zh (fun w' hu v B m hm1 hv=>by
   obtain rfl:m=1:=hm1.out;have e:k.bi+j=i - 1:=by have:=am.out;omega
   have ay:=QA.Q7 (l:=[(t,s)]) hv;obtain⟨W,Y,rfl,_,_⟩:=ay.slice;obtain⟨X,c,E,I,af⟩:=QfO (L:=[(t,s)]) (m:=1) (b:=W) (c':=Y) (M.out.Qq.Qc hu) aT (by rw[e];exact ay) (by simp) (by simp;omega);refine⟨_,c,_,E,?_,Zf _,((Zr Ze w').drew).alloc _⟩;rw[am.out] at I ⊢;have au:=QA.Q7 I;exact au)
  clear aA;obtain⟨a2,aM⟩:=N.out _ D;obtain⟨a3,aN⟩:=N.out _ ((Zr Ze w6).alloc (.cells A 116));go_region_with (go_at_call 27;refine aF.out.mono ?_;rintro e w7 ⟨bg,bh,a0,rfl,aV,aW,J⟩;obtain⟨b8,c8,w8,hap,hen8,hb8,hu9⟩:=al.out w7 (D.trans J (fun _ _ f=>f)) _ _ _ aV aW;obtain⟨p7,f7⟩:=N.out _ (D.trans J (fun _ _ f=>f));obtain⟨p8,f8⟩:=N.out w8 ((D.trans J (fun _ _ f=>f)).trans hu9 (fun _ _ f=>f)))
  all_goals
   have ai:=(D.trans J (fun _ _ f=>f)).trans hu9 (fun _ _ f=>f);have aC:=Zh (QmZ (i:=i) (t:=t) (s:=s) (V:=.slice (some ⟨b8,0,none⟩) (j+a0) c8) (M.out.Qc ai) (ab.out.trans ai (fun _ _ f=>f)) hen8 rfl (show w.heap.size<=b8 by
    have E:=J.size;have I:=D.size;have af:=ab.out.size;omega) (show b8≠kb by
    have E:=J.size;have I:=D.size;have af:=Ql M.out.row;omega) (fun h=>absurd (av _ h) (by
    have E:=J.size;have I:=D.size;have af:=ab.out.size;have au:=aB.out;show ¬b8<b;omega)) aR aS (by omega))
   clear hap a1 aL a2 aM a3 aN p7 f7 aU aQ ai hu9 hen8 al N av;go_wp2_with fail;go_ret;exact aC.out
end
end
section
open Go.RowKit Go.Acre
attribute [local go_sem ↓] LcG ScG
attribute [local go_sem] Sc1 Sc2 Sc3 Lc2 Lc3
attribute [local simp] QH X6
section
variable {w:World} {S:Nat->Prop} {kb wb:Nat} {k:Kp} {mv ev:Value} {mg:Nat}
theorem QmX(t:Nat)(v:Option Nat)(Q:Xx v)(a:Option Addr)(c:Nat)(w:World):Calls Tryz.prog 86 #[.pointer (some ⟨kb,0,none⟩),.agg #[.int .u64 t,.int .i64 (Qd v)],.int .u64 0,.slice a 0 c] w (Qk (.bool true) w):=by
 have I:=Zh (fun w=>Qeh t v Q w);generalize Qd v=y at*
 have D:=Qf (w:=w) (.cells #[.int .u64 t,.int .i64 y] 42);have J:Hid (Qa Ze w (w.alloc (.cells #[.int .u64 t,.int .i64 y] 42))):=Zh ((Zr _ w).alloc _);go_enter Tryz.func86,Tryz.ntmps86;go_upto_region 1 with fail
 generalize w.alloc (.cells #[.int .u64 t,.int .i64 y] 42)=w1 at*
 generalize w.heap.size=b at*
 have N:=Qb D 0;have O:=Qb D 1;clear D;go_wp2_with fail;refine (I.out _).mono ?_
 rintro e w2 ⟨rfl,E⟩;have M:=Zh (J.out.trans E (fun _ _ f=>f));clear E N O;go_wp2_with fail;go_ret;exact⟨rfl,M.out⟩
theorem QmY(h:Xz w S kb wb k mv ev mg)(t:Nat)(v:Option Nat)(aG:Xx v){x:Nat}{ak:Value}{L:List En}(N:QA w ak (x - 1) L)(ad:L≠[])(hx1:k.bi<x)(aU:x<=k.last+1)(aV:x+L.length<=20001)(af: ∀e∈L,1<=e.1/\e.1<=30000/\e.2<=30000):Calls Tryz.prog 86 #[.pointer (some ⟨kb,0,none⟩),.agg #[.int .u64 t,.int .i64 (Qd v)],.int .u64 x,ak] w (Qk (.bool true) w):=by
 have am:=Zh (fun w=>Qeh t v aG w);obtain⟨a,cap,rfl,_,_⟩:=N.slice;have aO:0<L.length:=by cases L with|nil=>exact absurd rfl ad|cons _ _=>simp
 have an:=Zh N;have H:=Zh h;have ar:=Zh af;clear h N af ad;generalize Qd v=y at*
 have Q:=Qf (w:=w) (.cells #[.int .u64 t,.int .i64 y] 42);have au:Hid (Qa (fun _=>False) w (w.alloc (.cells #[.int .u64 t,.int .i64 y] 42))):=Zh ((Zr _ w).alloc _);have aS: ¬(x:Int)=0:=by omega
 have aT:((x:Int)==0)=false:=by simp;omega
 have aF: ¬(L.length:Int)=0:=by omega
 have aP:((L.length:Int)==0)=false:=beq_eq_false_iff_ne.2 aF;have aH: ¬(x:Int)<=k.bi:=by omega
 obtain⟨D,ae⟩: ∃D,D=k.last:=⟨_,rfl⟩
 have ao:=Zh ae;have aI: ¬(D:Int)+1< (x:Int):=by omega
 have aW:decide (x<=k.bi)=false:=decide_eq_false (by omega);have aX:decide ((x:Int)<=k.bi)=false:=decide_eq_false aH;have aY:decide ((D:Int)+1< (x:Int))=false:=decide_eq_false aI;have aC:=H.out.few;have aK:k.last<=20000:=aC.1;have aN:IntKind.u64.wrap ((D:Int)+1)=(D:Int)+1:=IntWalk.u64_in _ (by omega);clear ae;go_enter Tryz.func86,Tryz.ntmps86;go_upto_region 1 with fail
 generalize w.alloc (.cells #[.int .u64 t,.int .i64 y] 42)=w1 at*
 generalize w.heap.size=b at*
 have ay:=Qb Q 0;have az:=Qb Q 1;clear Q;go_wp2_with fail;refine (am.out _).mono ?_
 rintro e w2 ⟨rfl,ah⟩;have ab:=Zh (au.out.trans ah (fun _ _ f=>f));have W:=Zh (H.out.Qc ab.out);have aB:w2.cell? ⟨kb,3,none⟩=some (.int .u64 k.bi):=Qb W.out.row 3;have Z:=Zh (QcR W.out);rw[<-ao.out] at Z;clear ah ay az;go_wp2_with fail;refine Z.out.mono ?_
 rintro e a0 ⟨rfl,ai⟩;have ax:=Zh (ab.out.trans ai (fun _ _ f=>f));clear ai aB;go_upto_block 1 with fail
 go_wp2_with fail;go_loopw [8,43] (fun aJ s wr=> ∃j:Nat,aJ= .bool false/\s= .int .i64 j/\j<=L.length/\Qa (fun _=>False) w wr) (fun _ s _=>L.length - (Go.RowKit.intOf s).toNat)
 case atStart=>exact⟨0,rfl,rfl,by omega,ax.out⟩
 case round=>
  obtain⟨j,rfl,rfl,aL,aj⟩:=hrel;have J:=Zh aj;clear aj;by_cases hlt:j<L.length
  ·have aE:(j:Int)< (L.length:Int):=by omega
   have aM:(0:Int)<=j:=by omega
   obtain⟨g,o,rfl,ag⟩:=(an.out.Qc J.out).range hlt;have aD:=ar.out L[j] (List.getElem_mem hlt);have aa:=Zh ag;have Y:=Zh (fun w=>Qd7 (x - 1+j+1) L[j].1 L[j].2 (by omega) (by omega) (by omega) w);have ac:=Wt (x - 1+j+1) L[j].1 L[j].2;have ap:Hid ((Qh (x - 1+j+1) L[j].1 L[j].2).toList.length =24):=Zh rfl;have I:Hid ((Qh (x - 1+j+1) L[j].1 L[j].2).size =24):=Zh rfl;have aq:=Zh (Z3 (x - 1+j+1) L[j].1 L[j].2);rw[show x - 1+j+1=x+j by omega] at*
   have aQ:IntKind.u64.wrap (j:Int)=j:=IntWalk.u64_in _ (by omega);have aR:IntKind.u64.wrap ((x:Int)+(j:Int))=((x+j:Nat):Int):=by rw[IntWalk.u64_in _ (by omega)];omega
   clear ag aD;unfold QS at Y;generalize Qh (x+j) L[j].1 L[j].2=E at*
   generalize x+j=xj at*
   have U:=Qf (w:=wr) (.cells QG 116);go_upto_region 10 with (first|refine wpList_load_mid rfl 116 _ rfl _ _ rfl _ _ aa.out Tryz.underlying116 rfl (QaJ ap.out) ?_|refine wpList_store_row rfl 116 _ _ rfl _ _ rfl rfl _ _ U (Z4 I.out) (by rw[I.out];rfl) aq.out ?_)
   have M:=Xr _ _ E U;have aw:=Zh (QL ((Zr (fun _=>False) wr).alloc (.cells QG 116)) (g:=wr.heap.size) (fun h=>by omega) E);change Code.wp _ _ _ _ (((wr.alloc (.cells QG 116)).setRow wr.heap.size E));clear U aa;generalize (wr.alloc (.cells QG 116)).setRow wr.heap.size E=w9 at*
   generalize wr.heap.size=eb at*
   have al:=Zh M;go_wp2_with (refine wpList_load_row rfl 116 _ rfl _ rfl _ _ _ _ M Tryz.underlying116 rfl (Z4 I.out) ?_);refine (Y.out _).mono ?_
   rintro e aZ ⟨rfl,O⟩;have av:=Zh (J.out.trans (aw.out.trans O (fun _ _ f=>f)) (fun _ _ f=>f));have aA:=Qb (O.keep al.out (fun f=>f)) 0;rw[ac] at aA;clear O M ac;go_wp2_with fail;exact⟨⟨j+1,rfl,by go_num,by omega,av.out⟩,by simp[Go.RowKit.intOf];omega⟩
  ·have aE: ¬(j:Int)< (L.length:Int):=by omega
   go_wp2_with fail;go_ret;exact⟨rfl,J.out⟩
end
structure ZX(w:World)(rp rb gb:Nat)(r:ByteArray):Prop where
 rptr:w.heap[rp]? =some (.cells #[.pointer (some ⟨rb,0,none⟩)] 154 (0,0))
 rdr:Xo 213 w rb r
 good:w.heap[gb]? =some (.cells #[.bool true] 4 (0,0))
 few:r.size<=2000000
theorem ZX.upd{r:ByteArray}(h:ZX w na rb nb r)(D:Qa S w w')(E: ¬S na)(I: ¬S rb)(J: ¬S nb):ZX w' na rb nb r:=⟨D.keep h.rptr E,D.keep h.rdr I,D.keep h.good J,h.few⟩
theorem ZX.Qc{r:ByteArray}(h:ZX w na rb nb r)(D:Qa Ze w w'):ZX w' na rb nb r:=h.upd D (fun f=>f) (fun f=>f) (fun f=>f)
theorem ZX.ne{r:ByteArray}(h:ZX w na rb nb r):na≠rb/\na≠nb/\rb≠nb:=by
 have I:=h.rptr;have E:w.heap[rb]? =_:=h.rdr;have D:=h.good;refine⟨?_,?_,?_⟩<;>rintro rfl
 ·rw[I] at E;simp at E
 ·rw[I] at D;simp at D
 ·rw[E] at D;simp at D
def Qjn(rp rb gb v:Nat)(r':ByteArray)(w:World)(e:Ending)(w':World):Prop:=e= .returned (.int .u64 v)/\ZX w' rp rb gb r'/\Qa (fun i=>i=rb\/i=gb) w w'
theorem QbT{v:Nat}(h:ZX w na rb nb (str (num v)++D))(ag:v<=2000000)(N:Int)(aa:(v:Int)<=N):Calls Tryz.prog 132 #[.int .u64 N,.pointer (some ⟨na,0,none⟩),.pointer (some ⟨nb,0,none⟩)] w (Qjn na rb nb v D w):=by
 have hsz:D.size<=2000000:=by
  have:=h.few;rw[ByteArray.size_append] at this;omega
 have E:=Zh (Qda h.rdr (by have:=h.few;omega));unfold QbQ at E;rw[Qc3 D (by omega)] at E;have H:=Zh h;have ac:w.cell? ⟨na,0,none⟩=some (.pointer (some ⟨rb,0,none⟩)):=Qb h.rptr 0;obtain⟨ab,n2,Q⟩:=h.ne;have af:decide ((v:Int)<=N)=true:=decide_eq_true aa;clear h;go_enter Tryz.func132,Tryz.ntmps132;go_wp2_with fail;refine E.out.mono ?_
 rintro e w2 ⟨rfl,O,J⟩;have I:=J.keep H.out.good (fun e=>Q e.symm);have ad:w2.cell? ⟨nb,0,none⟩=some (.bool true):=Qb I 0;have ae:=Qg I 0 none;have W:=Zh (J.keep H.out.rptr ab);have U:=Zh I;have Y:=Zh O;have Z:=Zh J;clear O J I E ac;go_wp2_with fail;go_ret;have M:Qa (fun i=>i=nb) w2 (w2.setCell ⟨nb,0,none⟩ (.bool true)):=(Zr (fun i=>i=nb) w2).setCell (p:=⟨nb,0,none⟩) (fun _=>rfl) _;exact⟨rfl,⟨M.keep W.out n2,M.keep Y.out Q,Qi (o:=0) U.out (.bool true),hsz⟩,(Z.out.mono (T:=fun i=>i=rb\/i=nb) (fun _ _ h=>.inl h)).trans M (fun _ _ h=>.inr h)⟩
end
end Go.Proofs.YtbleblbfadeciaaGreatDoor
