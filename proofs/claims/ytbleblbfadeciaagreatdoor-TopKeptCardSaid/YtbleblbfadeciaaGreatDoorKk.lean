/- For TopKept. -/
import Derived.Test.YtbleblbfadeciaaGreatDoorLc
import Derived.Test.YtbleblbfadeciaaGreatDoorOk
set_option linter.all false
set_option maxHeartbeats 16000000
set_option maxRecDepth 10000
namespace Go.Proofs.YtbleblbfadeciaaGreatDoor
section
open Go.RowKit Go.Acre
attribute [local go_sem ↓] LcG ScG ApG
attribute [local go_sem] Sc1 Sc2 Sc3 Lc2 Lc3
attribute [local simp] QH X6
theorem QA.lt{w:World}{v:Value}{i:Nat}{l:List En}(h:QA w v i l)(I:l≠[])(g:Nat)(E:v.ownBlock=some g):g<w.heap.size:=by
 obtain⟨a,cap,rfl,_,_⟩:=h.slice;obtain⟨g',o,rfl,D,_⟩:=h.cells (k:=0) (List.length_pos_iff.2 I)
 cases E
 exact World.block_lt_of_cell? w _ D
def W5(k:Kp)(j:Nat):ByteArray:=Xw (memT j (k.n - j)++([.n k.l.length]++Zw k.bi k.l))
def WW(k:Kp)(j:Nat):ByteArray:=Xw (Zw (k.bi+j) (k.l.drop j))
theorem Qrx(k:Kp):Xw (allT k)=str (num k.bi)++(str (num k.bt)++(str (num k.n)++W5 k 0)):=by
 unfold allT W5;rw[Nat.sub_zero];simp only[List.cons_append,List.nil_append,List.append_assoc];rfl
theorem QnK(k:Kp)(j:Nat)(h:j<k.n):W5 k j=str (num j)++W5 k (j+1):=by
 unfold W5;rw[show k.n - j=(k.n - (j+1))+1 by omega,memT];rfl
theorem QnJ(k:Kp):W5 k k.n=str (num k.l.length)++WW k 0:=by
 unfold W5 WW;rw[Nat.sub_self];rfl
theorem QlB(k:Kp)(j:Nat)(h:j<k.l.length):WW k j=txt (Xy (k.bi+j+1) k.l[j].1 k.l[j].2)++WW k (j+1):=by
 unfold WW;rw[List.drop_eq_getElem_cons h,Zw];rfl
theorem QlA(k:Kp):WW k k.l.length=⟨#[]⟩:=by
 unfold WW;rw[List.drop_length];rfl
section
variable {w:World} {S:Nat->Prop} {kb wb:Nat} {k0:Kp} {mv0 ev0:Value} {mg0:Nat}
def Qfx(S:Nat->Prop)(kb wb rb:Nat)(k:Kp)(w:World)(e:Ending)(w':World):Prop:=
 ∃mv ev mg,e= .returned (.bool true)/\Xz w' S kb wb k mv ev mg/\w.heap.size<=mg/\(∀g,ev.ownBlock=some g->w.heap.size<=g/\g<w'.heap.size)/\Qa (fun i=>i=kb\/i=rb) w w'
theorem Xz.Qfi{w':World}(h:Xz w S kb wb k0 mv0 ev0 mg0){T:Nat->Prop}(D:Qa T w w')(E: ¬T kb)(I: ¬T mg0)(J: ∀g,ev0.ownBlock=some g-> ¬T g):Xz w' S kb wb k0 mv0 ev0 mg0:=⟨D.keep h.row E,h.mem.upd D I,Qr.X3 h.Qq D J,h.efar,h.mfar,h.sk,h.few⟩
def Kp.bare(k:Kp):Kp:={k with l:=[]}
theorem QmO{D:World}{k:Kp}{mv:Value}{J:Nat}(h:D.heap[kb]? =some (.cells (keepA wb k0 mv0 ev0) 97 (0,0)))(Y:QD D mv k.n J)(M: ¬S J)(N:S kb)(I:ZY k):
  Xz (((((((D.setCell ⟨kb,1,none⟩ (.int .u64 k.t)).setCell ⟨kb,2,none⟩ (.int .i64 (Qd k.v))).setCell ⟨kb,3,none⟩ (.int .u64 k.bi)).setCell ⟨kb,4,none⟩ (.int .u64 k.bt)).setCell ⟨kb,5,none⟩ mv).setCell ⟨kb,6,none⟩ (.slice none 0 0)).drew) S kb wb k.bare mv (.slice none 0 0) J/\Qa (fun i=>i=kb) D (((((((D.setCell ⟨kb,1,none⟩ (.int .u64 k.t)).setCell ⟨kb,2,none⟩ (.int .i64 (Qd k.v))).setCell ⟨kb,3,none⟩ (.int .u64 k.bi)).setCell ⟨kb,4,none⟩ (.int .u64 k.bt)).setCell ⟨kb,5,none⟩ mv).setCell ⟨kb,6,none⟩ (.slice none 0 0)).drew):=by
 have O:Qa (fun i=>i=kb) D (((((((D.setCell ⟨kb,1,none⟩ (.int .u64 k.t)).setCell ⟨kb,2,none⟩ (.int .i64 (Qd k.v))).setCell ⟨kb,3,none⟩ (.int .u64 k.bi)).setCell ⟨kb,4,none⟩ (.int .u64 k.bt)).setCell ⟨kb,5,none⟩ mv).setCell ⟨kb,6,none⟩ (.slice none 0 0)).drew):=(((((((Zr (fun i=>i=kb) D).setCell (p:=⟨kb,1,none⟩) (fun _=>rfl) (.int .u64 k.t)).setCell (p:=⟨kb,2,none⟩) (fun _=>rfl) (.int .i64 (Qd k.v))).setCell (p:=⟨kb,3,none⟩) (fun _=>rfl) (.int .u64 k.bi)).setCell (p:=⟨kb,4,none⟩) (fun _=>rfl) (.int .u64 k.bt)).setCell (p:=⟨kb,5,none⟩) (fun _=>rfl) mv).setCell (p:=⟨kb,6,none⟩) (fun _=>rfl) (.slice none 0 0)).drew;have Z:=Qi (o:=6) (Qi (o:=5) (Qi (o:=4) (Qi (o:=3) (Qi (o:=2) (Qi (o:=1) h (.int .u64 k.t)) (.int .i64 (Qd k.v))) (.int .u64 k.bi)) (.int .u64 k.bt)) mv) (.slice none 0 0);have aa: ∀(E:World),E.heap[kb]? =some (.cells ((((((((keepA wb k0 mv0 ev0).setIfInBounds 1 (.int .u64 k.t)).setIfInBounds 2 (.int .i64 (Qd k.v))).setIfInBounds 3 (.int .u64 k.bi)).setIfInBounds 4 (.int .u64 k.bt)).setIfInBounds 5 mv).setIfInBounds 6 (.slice none 0 0))) 97 (0,0))->E.heap[kb]? =some (.cells (keepA wb k.bare mv (.slice none 0 0)) 97 (0,0)):=fun E h=>by
  rw[h];simp[keepA,Kp.bare]
 have W: ∀X:World,X.drew.heap=X.heap:=fun _=>rfl
 refine⟨⟨by
  refine aa _ ?_
  rw[W];exact Z,.inr (Y.upd O (fun e=>M (by rw[e];exact N))),Qr.nil _ _,(fun g hg=>by cases hg),M,N,?_⟩,O⟩
 have ab:=I.bi;have Q:=I.bt;have U:=I.t;exact⟨by show k.bi+0<=20000;omega,U,Q.2⟩
theorem QmN(h:Xz w S kb wb k0 mv0 ev0 mg0)(b3: ∀j,S j->j<w.heap.size){rb:Nat}{k:Kp}(an:ZY k)(cb:k.last<=20000)(aN:Xo 213 w rb (XJ k.t k.v++Xw (allT k))):
  Calls Tryz.prog 69 #[.pointer (some ⟨kb,0,none⟩),.pointer (some ⟨rb,0,none⟩)] w (Qfx S kb wb rb k w):=by
 have hsz:=(QaW (r:=.whole k) an).2;have cm:(XJ k.t k.v++Xw (allT k)).size <=1000000:=by
  have N:(QR (.whole k)).size =((str [3]++XJ k.t k.v)++Xw (allT k)).size :=rfl;rw[N] at hsz;simp only[ByteArray.size_append] at hsz ⊢;omega
 have dz:rb≠kb:=by
  rintro rfl;have N:=h.row;have O:w.heap[rb]? =_:=aN;rw[N] at O;simp[keepA] at O
 have d1:rb<w.heap.size:=Ql aN;have dY:kb<w.heap.size:=Ql h.row;have bv:=Qf (w:=w) (.cells #[.pointer (some ⟨rb,0,none⟩)] 154);have aO:Qa (fun _=>False) w (w.alloc (.cells #[.pointer (some ⟨rb,0,none⟩)] 154)):=(Zr _ w).alloc _;have bR:=Zh (Qi4 (w:=w.alloc (.cells #[.pointer (some ⟨rb,0,none⟩)] 154)) (rb:=rb) (t:=k.t) (v:=k.v) (r:=Xw (allT k)) (aN.upd aO (fun f=>f)) (by omega) an.t an.v);have bD:=Zh (aO.keep h.row (fun f=>f));have cX:=Zh h.sk;have c2:=Zh aO;have af:=Zh an;have bO:=Zh b3;have cU:=Zh cb;have d2:(Xw (allT k)).size <=1000000:=by rw[ByteArray.size_append] at cm;omega
 clear h aO aN an b3 hsz cm cb;go_enter Tryz.func69,Tryz.ntmps69;go_upto_region 1 with fail
 generalize hrp:w.heap.size=rp at*
 have a1:=Zh hrp;clear hrp;generalize w.alloc (.cells #[.pointer (some ⟨rb,0,none⟩)] 154)=w1 at*
 have dc:=Qb bv 0;have bW:=Zh bv;clear bv;go_upto_region 1 with fail
 go_wp2_with fail;refine bR.out.mono ?_
 rintro e w2 ⟨rfl,cl,aQ⟩;have dy:rp≠rb:=by omega
 have cA:=aQ.keep bW.out dy;have bV:Hid (Qa (fun i=>i=kb\/i=rb) w w2):=Zh ((c2.out.mono (fun _ _ f=>f.elim)).trans aQ (fun _ _ h=>.inr h));have bE:=Zh (aQ.keep bD.out dz.symm);have bN:=Zh cl;have a5:=Zh cA;clear cl aQ cA dc bW bD bR;go_upto_region 2 with fail
 change Code.wp _ _ _ _ ((w2.alloc (.cells #[.int .u64 k.t,.int .i64 (Qd k.v)] 42)).alloc (.cells #[.bool true] 4));have cw:Hid (ZX ((w2.alloc (.cells #[.int .u64 k.t,.int .i64 (Qd k.v)] 42)).alloc (.cells #[.bool true] 4)) rp rb (w2.heap.size+1) (Xw (allT k))/\((w2.alloc (.cells #[.int .u64 k.t,.int .i64 (Qd k.v)] 42)).alloc (.cells #[.bool true] 4)).heap[w2.heap.size]? =some (.cells #[.int .u64 k.t,.int .i64 (Qd k.v)] 42 (0,0))/\Qa (fun _=>False) w2 ((w2.alloc (.cells #[.int .u64 k.t,.int .i64 (Qd k.v)] 42)).alloc (.cells #[.bool true] 4))/\w2.heap.size+1< ((w2.alloc (.cells #[.int .u64 k.t,.int .i64 (Qd k.v)] 42)).alloc (.cells #[.bool true] 4)).heap.size):=Zh (by
  have I:Qa (fun _=>False) w2 ((w2.alloc (.cells #[.int .u64 k.t,.int .i64 (Qd k.v)] 42)).alloc (.cells #[.bool true] 4)):=((Zr _ w2).alloc _).alloc _;have O:=heap_alloc2_new w2 (.cells #[.int .u64 k.t,.int .i64 (Qd k.v)] 42) (.cells #[.bool true] 4);exact⟨⟨I.keep a5.out (fun f=>f),bN.out.upd I (fun f=>f),O,by omega⟩,heap_alloc2_old w2 _ _,I,Ql O⟩)
 generalize (w2.alloc (.cells #[.int .u64 k.t,.int .i64 (Qd k.v)] 42)).alloc (.cells #[.bool true] 4)=w4 at*
 generalize hhb:w2.heap.size=hb at*
 obtain⟨br,b8,bs,ca⟩:=cw.out;have E:Hid (rp<hb/\hb+1<w4.heap.size):=Zh ⟨by rw[<-hhb];exact Ql a5.out,ca⟩;have cR:=Zh (bs.keep bE.out (fun f=>f));have c4:=Zh (bV.out.trans bs (fun _ _ f=>f.elim));have cP:=Zh b8;rw[Qrx] at br;have dK:=af.out.bi;have dL:=af.out.bt;have cD:=af.out.n;have d8:=af.out.len;have bJ:=Zh (QbT br (by omega) 18446744073709551615 (by omega));clear cw hhb br b8 bs ca bE bV bN a5;go_wp2_with fail;refine bJ.out.mono ?_
 rintro e w5 ⟨rfl,co,ct⟩;have bK:=Zh (QbT co (by omega) 18446744073709551615 (by omega));have bS:=Zh ct;clear bJ co ct;go_wp2_with fail;refine bK.out.mono ?_
 rintro e w6 ⟨rfl,cp,cu⟩;have a3:=Zh (bS.out.trans cu (fun _ _ h=>h));have bP:=Zh cp;clear bK cp cu;go_upto_region 4 with fail
 change Code.wp _ _ _ _ (w6.alloc (.cells #[.int .u64 k.bi,.int .u64 k.bt,.slice none 0 0] 44));have cx:Hid (ZX (w6.alloc (.cells #[.int .u64 k.bi,.int .u64 k.bt,.slice none 0 0] 44)) rp rb (hb+1) (str (num k.n)++W5 k 0)/\(w6.alloc (.cells #[.int .u64 k.bi,.int .u64 k.bt,.slice none 0 0] 44)).heap[w6.heap.size]? =some (.cells #[.int .u64 k.bi,.int .u64 k.bt,.slice none 0 0] 44 (0,0))/\Qa (fun _=>False) w6 (w6.alloc (.cells #[.int .u64 k.bi,.int .u64 k.bt,.slice none 0 0] 44))):=Zh ⟨bP.out.Qc ((Zr _ w6).alloc _),Qf _,(Zr _ w6).alloc _⟩;generalize w6.alloc (.cells #[.int .u64 k.bi,.int .u64 k.bt,.slice none 0 0] 44)=w7 at*
 have M:Hid (hb+1<w6.heap.size):=Zh (by have:=a3.out.size;have:=E.out.2;omega);generalize w6.heap.size=bb at*
 obtain⟨cq,bg,cv⟩:=cx.out;have bz:=Zh bg;have bB:=Zh (Ql bg);have bT:Hid (Qa (fun i=>i=rb\/i=hb+1) w4 w7):=Zh (a3.out.trans cv (fun _ _ f=>f.elim));have bL:=Zh (QbT cq (by omega) 5 (by omega));clear cx cq bg cv bP bS a3;go_wp2_with fail;refine bL.out.mono ?_
 rintro e w8 ⟨rfl,cr,aR⟩;have c1:=Zh cr;have cI:=Zh (aR.keep bz.out (fun e=>by have:=M.out;have:=E.out.1;omega));have a4:Hid (Qa (fun i=>i=rb\/i=hb+1) w4 w8):=Zh (bT.out.trans aR (fun _ _ h=>h));have U:Hid (bb<w8.heap.size):=Zh (by have:=aR.size;have:=bB.out;omega);clear cr aR bL bT bz bB;go_upto_block 0 with fail
 go_wp2_with fail;go_loopw [9] (fun bw wr=> ∃(j:Nat) (mv:Value),bw= .int .u64 ((k.n - j:Nat):Int)/\j<=k.n/\ZX wr rp rb (hb+1) (W5 k j)/\wr.heap[bb]? =some (.cells #[.int .u64 k.bi,.int .u64 k.bt,mv] 44 (0,0))/\wr.ownsRow w8.heap.size 3 1 mv j (Za j)/\Qa (fun i=>i=rb\/i=hb+1\/i=bb) w8 wr) (fun bw _=>(Go.RowKit.intOf bw).toNat)
 case atStart=>exact⟨0,.slice none 0 0,rfl,by omega,c1.out,cI.out,World.ownsRow_nil _ _ _ _,Zr _ _⟩
 case round=>
  obtain⟨j,mv,rfl,dv,J,ah,ae,ab⟩:=hrel;by_cases hlt:j<k.n
  ·obtain⟨q,ap⟩: ∃q,q=k.n - j:=⟨_,rfl⟩
   rw[<-ap];have dZ:(0:Int)< (q:Int):=by omega
   have d0:IntKind.u64.wrap ((q:Int) - 1)=((q - 1:Nat):Int):=by rw[IntWalk.u64_in _ (by omega)];omega
   have bZ:wr.cell? ⟨hb+1,0,none⟩=some (.bool true):=Qb J.good 0;have ak:=Zh J;have aD:=Zh ae;have aa:=Zh ab;have ay:=Zh ah;obtain⟨au,av,rfl⟩: ∃au av,mv= .slice au j av:=by
    rcases ae.2 with ⟨rfl,rfl⟩|⟨g,cap,cur,rfl,_⟩
    ·exact⟨_,_,rfl⟩
    ·exact⟨_,_,rfl⟩
   have d4:IntKind.i64.wrap (j:Int)=j:=IntWalk.i64_in _ (by omega);have a0:Hid (∀g,(Value.slice au j av).ownBlock =some g->w8.heap.size<=g):=Zh (fun g Q=>(ae.lt g Q).1);rw[QnK k j hlt] at J;have aC:=Zh (QbT (J.Qc ((Zr (fun _=>False) wr).drew)) (by omega) 5 (by omega));have ax:Hid (∀w',Qa (fun i=>i≠bb) wr w'->w'.cell? ⟨bb,2,none⟩=some (.slice au j av)/\w'.frozen? ⟨bb,2,none⟩=false):=Zh (fun w' I=>⟨Qb (I.keep ah (fun h=>h rfl)) 2,Qg (I.keep ah (fun h=>h rfl)) 2 none⟩);have ag:Hid (rb≠bb/\hb+1≠bb):=Zh (by have:=M.out;have:=E.out.1;omega);have cH:Hid (∀w9,Qa (fun i=>i=rb\/i=hb+1) wr.drew w9-> ∃g cap w',(ApC #[37,37] 37 #[.slice au j av,.slice (some ⟨w9.heap.size,0,none⟩) 1 1]).run Tryz.prog (w9.alloc (.cells #[.int .i64 (j:Int)] 3))= .ok (.slice (some ⟨g,0,none⟩) (j+1) cap) w'/\
     w'.ownsRow w8.heap.size 3 1 (.slice (some ⟨g,0,none⟩) (j+1) cap) (j+1) (Za (j+1))/\Qa (fun i=>w8.heap.size<=i) w9 w'):=Zh (fun w9 I=>by
    obtain⟨dJ,du,dH,dI,cC⟩:=info_parts info3;have bu:Qa (fun _=>False) w9 (w9.alloc (.cells #[.int .i64 (j:Int)] 3)):=(Zr _ w9).alloc _;have d3:w8.heap.size<=w9.heap.size:=by have N:=aa.out.size;have O:=I.size;have ac:wr.drew.heap.size=wr.heap.size:=rfl;omega
    have dB:=Q3 (Q3 (Q3 aD.out ((Zr (fun _=>False) wr).drew) (fun _ _ f=>f)) I (fun g Q e=>by have:=a0.out g Q;have:=U.out;have:=M.out;have:=E.out.1;omega)) bu (fun _ _ f=>f);have dA:=Qf (w:=w9) (.cells #[.int .i64 (j:Int)] 3);obtain⟨g,cap,w',N,O,ac,_,_⟩:=run_append_lies (P:=Tryz.prog) _ 37 37 w8.heap.size 3 dJ (.int .i64 0) 1 8 Tryz.underlying37 du dH dI cC rfl (by decide) _ j (Za j) dB ⟨w9.heap.size,0,none⟩ 1 1 [.int .i64 (j:Int)] rfl (World.news_of_block dA) (by intro u I;simp at I;subst I;rfl) (by omega) (by unfold maxLen;omega) (by omega) (by have:=bu.size;omega) _ rfl;refine⟨g,cap,w',N,?_,?_⟩
    ·rw[show Za (j+1)=Za j++[.int .i64 (j:Int)] by simp[Za,List.range_succ]]
     exact O
    ·exact (bu.mono (fun _ _ f=>f.elim)).X8 ac (fun g Q _=>a0.out g Q))
   obtain⟨aT,dj⟩:=ax.out wr.drew ((Zr (fun i=>i≠bb) wr).drew);have bM:=Zh ap;clear ab ah ae J ap;go_upto_region 7 with fail
   go_region_with (go_at_call 132;refine aC.out.mono ?_;rintro e w9 ⟨rfl,ai,W⟩;obtain⟨g8,c8,aj,hap,hown10,Y⟩:=cH.out w9 W;obtain⟨p9,f9⟩:=ax.out w9 ((((Zr (fun i=>i≠bb) wr).drew).trans W (fun i _ h e=>by have:=ag.out;omega)));obtain⟨p9b,f9b⟩:=ax.out (w9.alloc (.cells #[.int .i64 (j:Int)] 3)) ((((Zr (fun i=>i≠bb) wr).drew).trans W (fun i _ h e=>by have:=ag.out;omega)).alloc _);obtain⟨p10,f10⟩:=ax.out aj ((((Zr (fun i=>i≠bb) wr).drew).trans W (fun i _ h e=>by have:=ag.out;omega)).trans Y (fun i _ h e=>by have:=U.out;omega)))
   all_goals
    have b5:=Qi (o:=2) ((Y.keep (W.keep (show wr.drew.heap[bb]? =_ from ay.out) (fun e=>by have:=ag.out;omega)) (fun e=>by have:=U.out;omega))) (.slice (some ⟨g8,0,none⟩) (j+1) c8);have aS:Qa (fun i=>i=bb) aj (aj.setCell ⟨bb,2,none⟩ (.slice (some ⟨g8,0,none⟩) (j+1) c8)):=(Zr (fun i=>i=bb) aj).setCell (p:=⟨bb,2,none⟩) (fun _=>rfl) _;have cn:=(ai.upd Y (by have:=E.out;have:=M.out;have:=U.out;omega) (by have:=E.out;have:=M.out;have:=U.out;omega) (by have:=E.out;have:=M.out;have:=U.out;omega)).upd aS (by have:=E.out;have:=M.out;omega) (by have:=ag.out;omega) (by have:=ag.out;omega);have cy:=Q3 hown10 aS (fun g Q e=>by have:=(hown10.lt g Q).1;have:=U.out;omega);have b4:=(((aa.out.drew).trans W (fun i _ h=>by omega)).trans Y (fun i aK h=>by omega)).trans aS (fun i _ h=>by omega);have cK:=Zh b5;have cL:=Zh cn;have cM:=Zh cy;have cN:=Zh b4;clear hap hown10 Y W ai p9 f9 p9b f9b p10 f10 aT dj b5 aS cn cy b4;go_wp2_with fail;have e:q - 1=k.n - (j+1):=by have:=bM.out;omega
    exact⟨⟨j+1,_,by rw[e],by omega,cL.out,cK.out,cM.out,cN.out⟩,by simp[Go.RowKit.intOf];have:=bM.out;omega⟩
  ·have bm:j=k.n:=by omega
   subst bm;rw[Nat.sub_self];have bZ:wr.cell? ⟨hb+1,0,none⟩=some (.bool true):=Qb J.good 0;rw[QnJ] at J;have aC:=Zh (QbT J (by omega) 1048576 (by omega));obtain⟨Z,ch,ci,bp⟩:=QD.Q7 ae cD.1 cD.2;have aB:=Zh ci;have a0:=Zh bp;have cg:wr.heap.size>Z:=(ae.lt Z bp).2;have dP:=Zh cg;have aD:=Zh ch;have aa:=Zh ab;have ay:=Zh ah;clear J ch ci bp cg ab ae ah;go_upto_region 8 with fail
   clear bZ;go_wp2_with fail;refine aC.out.mono ?_
   rintro e w9 ⟨rfl,ai,W⟩;have cB:bb<Z/\hb+1<Z/\rb<Z/\hb<Z:=by have:=M.out;have:=E.out.1;have:=aB.out;have:=U.out;omega
   have dQ:=Zh cB;have aY:=Zh (aD.out.upd W (by omega));have bh:=W.keep ay.out (by have:=M.out;have:=E.out.1;omega);have b9:=(aa.out.trans W (fun i _ h=>by omega)).keep (a4.out.keep cP.out (by have:=E.out;omega)) (by have:=M.out;have:=E.out.1;omega);have bA:=Zh bh;have bC:=Zh b9;have bQ:=Zh ai;have bU:Hid (Qa (fun i=>i=rb\/i=hb+1\/i=bb) w8 w9):=Zh (aa.out.trans W (fun i _ h=>by omega));have dr:w9.cell? ⟨hb+1,0,none⟩=some (.bool true):=Qb ai.good 0;obtain⟨a7,a8,a9,_,_,_⟩:=cells3 bh;have aZ:=Zh (QeB k.bi k.bt aY.out dK.1 dL.1);clear ai W bh b9 aC aa aD ay cB;unfold QC at aZ;go_wp2_with fail;refine aZ.out.mono ?_
   rintro e aj ⟨rfl,Y⟩;have aF:=Zh (bU.out.trans Y (fun _ _ f=>f.elim));have bI:=Zh (aY.out.upd Y (fun f=>f));have be:=Y.keep bA.out (fun f=>f);have aJ:=Y.keep bC.out (fun f=>f);have cY:=Zh (bQ.out.Qc Y);clear Y a7 a8 a9 dr aZ bU aY bA bC bQ;have D:=((a4.out.mono (T:=fun i=>i=rb\/i=hb+1\/i=bb) (fun i _ h=>by omega)).trans aF.out (fun i _ h=>h)).keep cR.out (by have:=E.out;have:=M.out;omega);obtain⟨cE,rfl,_⟩:=bI.out;have cQ:=Zh D;have dN:=Zh be;have dO:=Zh aJ;unfold keepA at D;obtain⟨d9,n2⟩:hb≠kb/\bb≠kb:=by have:=E.out;have:=M.out;omega
   have dd:=Qb D 1;have de:=Qb D 2;have df:=Qb D 3;have dg:=Qb D 4;have c5:=Qb D 5;have dh:=Qb D 6;have dk:=Qg D 1 none;have dl:=Qg D 2 none;have dm:=Qg D 3 none;have dn:=Qg D 4 none;have dp:=Qg D 5 none;have dq:=Qg D 6 none;obtain⟨a7,a8,a9,_,_,_⟩:=cells3 be;have b0:=Qb aJ 0;have N:=Qb aJ 1;clear D be aJ;go_upto_region 11 with fail
   go_region
   all_goals
    have ad:=Zh (QmO (wb:=wb) (S:=S) cQ.out bI.out (fun h=>by have:=bO.out _ h;have:=aB.out;have:=U.out;have:=M.out;have:=E.out;omega) cX.out af.out);clear dd de df dg c5 dh dk dl dm dn dp dq a7 a8 a9 b0 N;change _ at ad;generalize ((((((aj.setCell ⟨kb,1,none⟩ (.int .u64 k.t)).setCell ⟨kb,2,none⟩ (.int .i64 (Qd k.v))).setCell ⟨kb,3,none⟩ (.int .u64 k.bi)).setCell ⟨kb,4,none⟩ (.int .u64 k.bt)).setCell ⟨kb,5,none⟩ (.slice (some ⟨Z,0,none⟩) k.n cE)).setCell ⟨kb,6,none⟩ (.slice none 0 0)).drew =w11 at*
    have cZ:=Zh (cY.out.upd ad.out.2 (by omega) (by omega) (by have:=E.out;omega));go_upto_block 2 with fail
    obtain⟨mv,bq⟩: ∃mv,mv=Value.slice (some ⟨Z,0,none⟩) k.n cE:=⟨_,rfl⟩
    rw[<-bq] at ad;have dR:=Zh bq;clear bq;go_wp2_with fail;go_loopw [4,64] (fun dM s wr=> ∃(j:Nat) (aH:Value),dM= .bool false/\s= .int .u64 j/\j<=k.l.length/\ZX wr rp rb (hb+1) (WW k j)/\Xz wr S kb wb {k with l:=k.l.take j} mv aH Z/\(∀g,aH.ownBlock=some g->w8.heap.size<=g/\g<wr.heap.size)/\Qa (fun i=>i=rb\/i=hb+1\/i=kb) w11 wr) (fun _ s _=>k.l.length - (Go.RowKit.intOf s).toNat)
    case atStart=>exact⟨0,.slice none 0 0,rfl,rfl,by omega,cZ.out,ad.out.1,(fun g Q=>by cases Q),Zr _ _⟩
    case round=>
     obtain⟨j,aH,rfl,rfl,dv,J,D,aI,ab⟩:=hrel;by_cases hlt:j<k.l.length
     ·have aM:=af.out.l k.l[j] (List.getElem_mem hlt)
      have ds:=Qbl (i:=k.bi+j+1) (e:=k.l[j]) ⟨by omega,⟨aM.1,aM.2.1⟩,aM.2.2⟩;have aT:wr.cell? ⟨rp,0,none⟩=some (.pointer (some ⟨rb,0,none⟩)):=Qb J.rptr 0;have dX:(j:Int)< (k.l.length:Int):=by omega
      rw[QlB k j hlt] at J;have aE:=Zh (Qil J.rdr (by have:=J.few;omega) 1048576 (by omega));unfold QdM at aE;rw[Qi7 _ (by omega) (by omega)] at aE;have aW:=Zh (fun w=>decode_any (k.bi+j+1) k.l[j].1 k.l[j].2 (by omega) (by omega) (by omega) (by omega) (by omega) w);have ak:=Zh J;have bG:=Zh D;have cJ:=Zh aI;have aa:=Zh ab;clear aM ds J D aI ab;generalize Xy (k.bi+j+1) k.l[j].1 k.l[j].2=EB8 at*
      go_upto_region 14 with fail
      go_wp2_with fail;refine aE.out.mono ?_
      rintro e aU ⟨rfl,cj,aq⟩;have ao:rp≠rb/\hb+1≠rb/\Z≠rb/\kb≠rb:=by have N:=aB.out;have O:=U.out;have ac:=M.out;have am:=E.out.1;omega
      have c0:Hid (ZX aU rp rb (hb+1) (WW k (j+1))):=Zh ⟨aq.keep ak.out.rptr ao.1,cj,aq.keep ak.out.good ao.2.1,by have:=ak.out.few;rw[ByteArray.size_append] at this;omega⟩;have aA:=Zh (bG.out.Qfi aq ao.2.2.2 ao.2.2.1 (fun g Q e=>by have:=cJ.out g Q;have O:=U.out;have ac:=M.out;have am:=E.out.1;omega));have a2:Hid (Qa (fun i=>i=rb\/i=hb+1\/i=kb) w11 aU):=Zh (aa.out.trans aq (fun i _ h=>.inl h));have b1:=ZJ (k.bi+j+1) k.l[j].1 k.l[j].2;have b2:=Z3 (k.bi+j+1) k.l[j].1 k.l[j].2;have a6:=Wt (k.bi+j+1) k.l[j].1 k.l[j].2;clear cj aq ak bG aa aE ao aT;unfold QdB QS at aW;obtain⟨A,bd⟩: ∃A,A=Qh (k.bi+j+1) k.l[j].1 k.l[j].2:=⟨_,rfl⟩
      rw[<-bd] at aW b1 b2 a6;have cG:=Zh bd;have aV:=Zh b1;have cV:=Zh b2;clear bd;go_upto_region 15 with fail
      go_upto_region 16 with (first|(go_at_call 67;refine (aW.out _).mono ?_;rintro e aw ⟨rfl,dE⟩;have c3:=Zh dE;have dC:=Qde aw aV.out cV.out))
      have cz:=Qdv aw A;have cs:=Qdw (c3.out) A;have aG:=Zh cz;have al:=Zh cs;clear dC cz cs;generalize (aw.alloc (.cells QG 116)).setRow aw.heap.size A=w14 at*
      generalize aw.heap.size=eb at*
      obtain⟨ar,aL⟩: ∃ar:Kp,ar={k with l:=k.l.take j}:=⟨_,rfl⟩
      rw[<-aL] at aA;have bF:=Zh aL;have bo:ar.last=k.bi+j:=by rw[aL];show k.bi+(k.l.take j).length =_;rw[List.length_take];omega
      clear aL;have cT:Hid (∀w',Qa (fun _=>False) w14 w'->Calls Tryz.prog 73 #[.pointer (some ⟨kb,0,none⟩)] w' (Qk (.int .u64 (k.bi+j:Nat)) w')):=Zh (fun w' I=>by
       have:=QcR (aA.out.Qc (al.out.trans I (fun _ _ f=>f)));rw[bo] at this;exact this)
      have az:Hid (∀w',Qa (fun _=>False) w14 w'->w'.cell? ⟨eb,0,none⟩=some (.int .u64 (k.bi+j+1:Nat))):=Zh (fun w' I=>by rw[Qb (I.keep aG.out (fun f=>f)) 0];exact a6);have dG:IntKind.u64.wrap (((k.bi+j:Nat):Int)+1)=((k.bi+j+1:Nat):Int):=by rw[IntWalk.u64_in _ (by omega)];omega
      have hcur:Qa (fun _=>False) w14 w14.drew:=(Zr _ w14).drew;have bX:=az.out _ hcur;have aX:Hid (∀w',Qa (fun _=>False) w14 w'->(LdC ⟨eb,0,none⟩ 24).run Tryz.prog w'= .ok A w'):=Zh (fun w' I=>Xc (I.keep aG.out (fun f=>f)) aV.out);have ce:=aX.out _ hcur;have cW:Hid (∀w',Qa (fun _=>False) w14 w'->Calls Tryz.prog 68 #[.pointer (some ⟨kb,0,none⟩),.agg A] w' (QdF S kb wb (ar.put (k.bi+j+1) k.l[j].1 k.l[j].2) mv Z w')):=Zh (fun w' I=>by
       have bk:=Qep (i:=k.bi+j+1) (t:=k.l[j].1) (s:=k.l[j].2) (aA.out.Qc (al.out.trans I (fun _ _ f=>f))) (fun q ap=>by
        have N:=bO.out q ap;have O:=U.out;have ac:=M.out;have am:=E.out.1;have bc:=aF.out.size;have dS:=ad.out.2.size;have dT:=a2.out.size;have dU:=al.out.size;have dV:=I.size;omega) (by rw[bF.out];show k.bi<_;omega) (by rw[bo];omega) (by have N:=cU.out;unfold Kp.last at N;omega)
       unfold QS at bk;rw[<-cG.out] at bk;exact bk)
      have b6: ¬eb=kb:=by rintro rfl;have N:=aG.out;have O:=(aA.out.Qc al.out).row;rw[N] at O;simp at O
      clear a6 bo;have c7:Hid (k.bi+j+1=k.bi+j+1):=Zh rfl;generalize hx1:k.bi+j+1=bx at*
      generalize hx0:k.bi+j=x0 at*
      have da:=Zh hx1;have c6:=Zh hx0;clear hx1 hx0 c7;go_region_held3 (fun w'=>w'.cell? ⟨eb,0,none⟩=some (.int .u64 bx)/\(LdC ⟨eb,0,none⟩ 24).run Tryz.prog w'= .ok A w') (first|exact⟨bX,ce⟩|exact⟨bY,cf⟩|exact⟨az.out _ (by assumption),aX.out _ (by assumption)⟩) ((first
       |(go_at_call 73;refine (cT.out _ (by assumption)).mono ?_;rintro e cF ⟨rfl,dF⟩;have bj:Qa (fun _=>False) w14 cF:=Qa.trans hcur dF (fun _ _ f=>f);have di:=az.out _ bj;have dx:=aX.out _ bj)
       |(go_at_call 68;refine (cW.out _ (by assumption)).mono ?_;rintro e ea ⟨ev',g',rfl,bn,dt,dW,aP⟩;have bY:=Qe aP (az.out _ (by assumption)) b6;have cf:=Xc (aP.keep (Qa.keep (S:=fun _=>False) (by assumption) aG.out (fun f=>f)) b6) aV.out)))
      all_goals
       clear bX di ce dx bY cf dG;go_wp2_with fail;have dw:ar.put bx k.l[j].1 k.l[j].2={k with l:=k.l.take (j+1)}:=by
        rw[bF.out];unfold Kp.put;simp only;rw[show bx - k.bi - 1=j by have N:=da.out;have b0:=c6.out;omega,List.take_of_length_le (by rw[List.length_take];omega),List.take_succ_eq_append_getElem hlt]
       rw[dw] at bn;have ba:Qa (fun _=>False) aU cF:=al.out.trans bj (fun _ _ f=>f);have d5:=ba.size;have cC:=a2.out.size;have d6:=ad.out.2.size;have d7:=aF.out.size;have D:kb≠rp/\kb≠rb/\kb≠hb+1:=by have:=E.out.1;omega
       refine⟨⟨j+1,ev',rfl,by go_num,by omega,?_,bn,?_,?_⟩,by simp[Go.RowKit.intOf];omega⟩
       ·exact (c0.out.Qc ba).upd aP (fun e=>D.1 e.symm) (fun e=>D.2.1 e.symm) (fun e=>D.2.2 e.symm)
       ·intro g Q
        refine⟨?_,bn.Qq.lt (by
         rw[List.take_succ_eq_append_getElem hlt];exact List.append_ne_nil_of_right_ne_nil _ (by simp)) g Q⟩
        rw[dt] at Q
        cases Q
        omega
       ·exact (a2.out.trans ba (fun _ _ f=>f.elim)).trans aP (fun i _ h=>.inr (.inr h))
     ·have bm:j=k.l.length:=by omega
      subst bm;rw[QlA] at J;have aT:wr.cell? ⟨rp,0,none⟩=some (.pointer (some ⟨rb,0,none⟩)):=Qb J.rptr 0;have bH:=Zh (Qew J.rdr);have dD:(((⟨#[]⟩:ByteArray).size :Nat):Int)=0:=rfl;rw[dD] at bH;have b7:Qfx S kb wb rb k w (.returned (.bool true)) wr:=by
       rw[List.take_length] at D;refine⟨mv,aH,Z,rfl,D,?_,fun g Q=> ?_,?_⟩
       ·have N:=aB.out;have O:=U.out;have ac:=M.out;have am:=E.out.1;have bc:=a1.out;omega
       ·have N:=aI g Q;have O:=U.out;have ac:=M.out;have am:=E.out.1;have bc:=a1.out;exact⟨by omega,N.2⟩
       ·have O:=U.out;have ac:=M.out;have am:=E.out.1;have bc:=a1.out
        exact (((c4.out.trans a4.out (fun i aK h=>by omega)).trans aF.out (fun i aK h=>by omega)).trans ad.out.2 (fun i aK h=>by omega)).trans ab (fun i aK h=>by omega)
      have cO:=Zh b7;clear J D aI ab b7;go_upto_region 19 with fail
      go_wp2_with fail;refine bH.out.mono ?_
      rintro e aU ⟨rfl,rfl⟩;go_wp2_with fail;go_ret;exact cO.out
end
end
end Go.Proofs.YtbleblbfadeciaaGreatDoor
