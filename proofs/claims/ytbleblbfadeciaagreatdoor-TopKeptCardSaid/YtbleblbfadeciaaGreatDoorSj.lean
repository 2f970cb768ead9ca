/- For TopKept. -/
import Derived.Test.YtbleblbfadeciaaGreatDoorLc
import Derived.Test.YtbleblbfadeciaaGreatDoorSb
set_option linter.all false
set_option maxHeartbeats 16000000
set_option maxRecDepth 10000
namespace Go.Proofs.YtbleblbfadeciaaGreatDoor
variable{c c':Core}{zs zt:List Int}{la:List Nat}{db g k n na nb nc p q:Nat}{S U:Nat->Prop}{o o':Ou}{Y Z mv v:Value}{w w' w0:World}
section
open Go.RowKit Go.Acre
attribute [local go_sem ↓] LcG ScG
attribute [local go_sem] Sc1 Sc2 Sc3 Lc2 Lc3
theorem Qmy:(Tryz.prog.info? 30).map (fun i=>(i.zero,i.size,i.bytes))=some (some (.int .u64 0),1,8):=by kernel_rfl
theorem QgH(D:Fit c):Fit {c with mtch:=c.mtch.set c.id c.last}:=by
 have O:=D.n;have N:=D.ml;refine⟨D.n,D.nl,by simpa using N,fun e j M=> ?_,D.role,D.elect,D.bi,D.rise,D.term,D.cap⟩;obtain⟨E,I,J⟩:=D.lead e j M;refine⟨E,I,?_⟩;show gd (c.mtch.set c.id c.last) j<=c.last;rw[Ks _ _ _ _ (by omega)];split
 ·exact Zf _
 ·exact J
theorem QaM(h:QD w v n g):QN .i64 w v ((List.range n).map (fun (k:Nat)=>(k:Int))):=by
 obtain⟨cap,rfl,N,O,E,M,I⟩:=h;refine QN.mk (by simp) (by simpa using E) M (fun i J=> ?_);have D:i<n:=by simpa using J
 rw[Nat.zero_add,I i D];simp[List.getD,D]
theorem QiH(h:St w S p q c o)(M:c.role=2):
  Calls Tryz.prog 99 #[.pointer (some ⟨p,0,none⟩)] w (QU (.tuple #[]) S p q c.settle o w):=by
 obtain⟨bZ,bk,bm,cp,b1,mv,b5,Q,aX,am,ak⟩:=h.open;have aN:=Zh (Qaj Q);have aE:=ak.n;have bN:=ak.ml;have af:=Zh ak;have H:=Zh h;have aV:=Zh Q;have bq:=Zh am;have ag:=Zh (aX p Q.sp);clear h Q aX am ak;go_enter Tryz.func99,Tryz.ntmps99;go_wp2_with fail;refine aN.out.mono ?_
 rintro e ar ⟨v,g,rfl,an,a0,bc⟩;obtain⟨co,rfl⟩: ∃cap,v= .slice (some ⟨g,0,none⟩) c.n cap:=⟨an.choose,an.choose_spec.1⟩
 have aL:=Zh an;have ah:=Zh bc;have aJ:Hid (¬S g/\w.heap.size<=g):=Zh ⟨fun D=>by have:=bq.out g D;omega,a0⟩;have aK:Hid (∀w',Qa Ze ar w'->Calls Tryz.prog 98 #[.pointer (some ⟨p,0,none⟩)] w' (Qk (.int .u64 c.last) w')):=Zh (fun w' I=>Qbh ((aV.out.Qc ah.out).Qc I));have au:Hid (∀w',Qa Ze ar w'->w'.cell? ⟨p,0,none⟩=some (.int .i64 c.id)/\w'.cell? ⟨p,17+c.id,none⟩=some (.int .u64 (gd c.mtch c.id:Nat))/\w'.frozen? ⟨p,17+c.id,none⟩=false):=Zh (fun w' I=>by
  have M:=((aV.out.Qc ah.out).Qc I).row;exact⟨Qb M 0,(Qb M _).trans (Qbi _ _ _ _ (by omega)),Qg M _ none⟩)
 clear an bc a0 aN;have b9:(0:Int)<=c.id:=by omega
 have ca:(c.id:Int)<5:=by omega
 have cb: ¬(5:Int)<=c.id:=by omega
 go_upto_region 1 with fail
 have ae:=(Zr Ze ar).drew;obtain⟨aW,bF,bH⟩:=au.out _ ae;go_cut [20] (fun _ bX=> ∃Z,Qa Ze ar Z/\bX=Z.setCell ⟨p,17+c.id,none⟩ (.int .u64 c.last))
 case first=>
  go_region_with (go_at_call 98;refine (aK.out _ ae).mono ?_;rintro e w2 ⟨rfl,O⟩;obtain⟨bG,d17,g17⟩:=au.out _ (ae.trans O (fun _ _ f=>f)))
  all_goals
   go_wp2_with fail;go_meet
   case rel=>exact⟨_,ae.trans O (fun _ _ f=>f),rfl⟩
 case rest=>
  obtain⟨Z,aq,rfl⟩:=hcut;have N:Qa (fun i=>i=p) Z (Z.setCell ⟨p,17+c.id,none⟩ (.int .u64 c.last)):=(Zr (fun i=>i=p) Z).setCell (p:=⟨p,17+c.id,none⟩) (fun _=>rfl) _;obtain⟨ba,_⟩:=((H.out.Qc ah.out).Qc aq).set (c':={c with mtch:=c.mtch.set c.id c.last}) N (fun bk bm M=>by
   have:=Qi (o:=17+c.id) M (.int .u64 c.last)
   rwa [QdZ _ _ _ _ (by omega) bN] at this) rfl rfl rfl rfl rfl (QgH af.out)
  have a4:=(aL.out.upd aq (fun f=>f)).upd N (fun e=>aJ.out.1 (e▸ag.out));have O:Qa S w (Z.setCell ⟨p,17+c.id,none⟩ (.int .u64 c.last)):=((ah.out.trans aq (fun _ _ f=>f)).mono (fun _ _ f=>f.elim)).trans N (fun i _ e=>e▸ag.out);generalize Z.setCell ⟨p,17+c.id,none⟩ (.int .u64 c.last)=w2 at*
  have aR:=Zh ba;have av:=Zh a4;have bA:=Zh O;have bM:(Instr.makeSlice 141 (.int .i64 0) (.int .i64 (c.n:Int))).run Tryz.prog w2= .ok (.slice (some ⟨w2.heap.size,0,none⟩) 0 c.n) (w2.alloc (.cells (madeCells #[.int .u64 0] c.n) 30)):=QhI 0 c.n (by omega) (by omega) w2;have bd:Qa Ze w2 (w2.alloc (.cells (madeCells #[.int .u64 0] c.n) 30)):=(Zr _ w2).alloc _;have bh:=Qf (w:=w2) (.cells (madeCells #[.int .u64 0] c.n) 30);have a6:(w2.alloc (.cells (madeCells #[.int .u64 0] c.n) 30)).ownsRow w2.heap.size 30 1 (.slice (some ⟨w2.heap.size,0,none⟩) 0 c.n) 0 []:=⟨rfl,.inr ⟨w2.heap.size,c.n,_,rfl,Zf _,bh,Zz _,by unfold maxLen;omega,by rw[size_madeCells];simp,by simp⟩⟩
  have bQ:=aR.out.Z1;obtain⟨cm,cu,a8,_,_⟩:=bQ;obtain⟨J,aB⟩: ∃J,J=c.mtch.set c.id c.last:=⟨_,rfl⟩
  have bo:Hid (∀k,k<5->w2.cell? ⟨p,17+k,none⟩=some (.int .u64 (gd J k:Nat))):=Zh (fun k a3=>by
   rw[aB];exact (Qb a8 _).trans (Qbi _ _ _ _ a3))
  have aO:=Zh aB;clear au aK aL aq N ba a4 O aW bF bH ae bh a8 aB;go_upto_region 2 with fail
  go_wp2_with fail;have bu:=Zh a6;have bC:=Zh bd;clear a6 bd bM;generalize w2.alloc (.cells (madeCells #[.int .u64 0] c.n) 30)=w3 at*
  obtain⟨bU,bL,bR,bS,bT⟩:=info_parts Qmy;have bs:Hid (∀k,k<c.n->w2.cell? ⟨g,k,none⟩=some (.int .i64 (k:Int))):=Zh av.out.choose_spec.2.2.2.2.2;go_loopw [3,26] (fun bW x wr=> ∃k:Nat,x= .int .i64 k/\k<=c.n/\wr.ownsRow w2.heap.size 30 1 bW k (QaY J k)/\Qa Ze w2 wr) (fun _ x _=>c.n - (Go.RowKit.intOf x).toNat)
  case atStart=>exact⟨0,rfl,by omega,bu.out,bC.out⟩
  case round=>
   obtain⟨k,rfl,a3,ac,I⟩:=hrel;by_cases am:k<c.n
   ·have aD:(k:Int)< (c.n:Int):=by omega
    have cf:(0:Int)<=k:=by omega
    have cg:(k:Int)<5:=by omega
    have ch: ¬(5:Int)<=k:=by omega
    have ck:=Qe I (bs.out k am) (fun f=>f);have b4:=Qe I (bo.out k (by omega)) (fun f=>f);have bv:=Zh ac;have ai:=Zh I;clear ac I;generalize hgk:gd J k=y at*
    have bp:=Zh hgk;clear hgk;have O:Qa Ze wr (wr.alloc (.cells #[.int .u64 y] 30)):=(Zr _ wr).alloc _;have bg:=Qf (w:=wr) (.cells #[.int .u64 y] 30);have aP:=Zh (Q3 bv.out O (fun _ _ f=>f));have bx:Hid (Qr (wr.alloc (.cells #[.int .u64 y] 30)) 1 (.slice (some ⟨wr.heap.size,0,none⟩) 1 1) 1 [.int .u64 y]):=Zh ⟨rfl,_,1,rfl,Zf _,by unfold maxLen;omega,(fun e=>by cases e),fun _=>⟨_,0,rfl,fun j al=>by
     rw[Nat.zero_add,Qb bg j];simp⟩⟩
    have bB:=Zh (ai.out.trans O (fun _ _ f=>f));have cl:=ai.out.size;clear O bg;go_wp2_with (at_builtin;refine QbM rfl _ _ 141 rfl w2.heap.size 30 bU (.int .u64 0) 1 8 Tryz.underlying141 bL bR bS bT rfl (by decide) _ _ _ rfl aP.out _ 1 [.int .u64 y] rfl bx.out ?c2 ?c3 ?c4 ?c5 ?_)
    case c2=>first|rfl|(intro z bj;simp at bj;subst bj;rfl)
    case c3=>unfold maxLen;omega
    case c4=>omega
    case c5=>first|omega|(simp;omega)
    intro v2 aH a5 a1;have bE:=Zh (bB.out.X8 a1 (fun j al ce=>by have:=(aP.out.lt j al).1;omega));have bw:=Zh a5;clear a5 a1;go_wp2_with fail;exact⟨⟨k+1,by go_num,by omega,by rw[QpK,bp.out];exact bw.out,bE.out⟩,by simp[Go.RowKit.intOf];omega⟩
   ·have aD: ¬(k:Int)< (c.n:Int):=by omega
    obtain rfl:k=c.n:=by omega
    obtain⟨cs,ct,bP⟩:=(Qr.Q7 ac).slice;subst bP;have a2:=QpL (Qr.Q7 ac);have hlen:((List.range c.n).map (gd J)).length =c.n:=by simp
    have a7:c.reached=(List.range c.n).map (gd J):=by unfold Core.reached;rw[aO.out]
    have aC: ∀x∈(List.range c.n).map (gd J),x<=20000:=fun x Q=>by
     rw[List.mem_map] at Q;obtain⟨j,al,rfl⟩:=Q;rw[List.mem_range] at al;have aj:=(QgH af.out).lead M j (by omega);have aA:gd J j<=c.last:=by rw[aO.out];exact aj.2.2
     have:=af.out.cap.2.1;omega
    have aI:=Zh (QkZ (av.out.upd I (fun f=>f)) a2 hlen (fun x Q=>by have:=aC x Q;omega));have aU:Hid (∀cc,KX ((List.range c.n).map (gd J)) cc->cc=KI c.reached/\cc<=20000):=Zh (fun cc ab=>by
     rw[a7];exact⟨QkY ab (Qcx _) (by rw[hlen];omega),aC _ (QdX ab (by rw[hlen];omega))⟩)
    have ai:=Zh I;clear ac I a2 aC a7 aD;have aD: ¬(c.n:Int)< (c.n:Int):=by omega
    go_wp2_with fail;refine Calls.mono aI.out ?_
    rintro e aH ⟨⟨cc,ab,rfl⟩,be⟩;obtain⟨aZ,b8⟩:=aU.out cc ab;have ao:=ai.out.trans be (fun _ _ f=>f);have ax:=Zh (aR.out.Qc ao);have aM:=Zh (av.out.upd ao (fun f=>f));have aT:Hid (Qa S w aH):=Zh (bA.out.trans (ao.mono (T:=S) (fun _ _ f=>f.elim)) (fun i _ E=>E));have bn:=Zh aZ;clear ab aZ be ao aI aU;obtain⟨b0,bV,cv,cq,b2,cr,b6,aF,_⟩:=ax.out.open;have bK:aH.cell? ⟨p,5,none⟩=some (.pointer (some ⟨bV,0,none⟩)):=aF.c5;have aS:=Zh (Qa7 aF.log cc (by omega));clear aF;go_wp2_with fail;refine aS.out.mono ?_
    rintro e w5 ⟨rfl,ap⟩;have aa:=Zh (ax.out.Qc ap);have aw:=Zh (aM.out.upd ap (fun f=>f));have az:Hid (Qa S w w5):=Zh (aT.out.trans (ap.mono (T:=S) (fun _ _ f=>f.elim)) (fun i _ E=>E));clear ap ax aM aT aS bK;unfold XT;obtain⟨cn,cw,ad,_,cj⟩:=aa.out.Z1;have aW:w5.cell? ⟨p,0,none⟩=some (.int .i64 c.id):=Qb ad 0;have c3:w5.cell? ⟨p,3,none⟩=some (.int .u64 c.term):=Qb ad 3;have b3:w5.cell? ⟨p,6,none⟩=some (.int .u64 c.commit):=Qb ad 6;have b7:=Qg ad 6 none;clear ad;have a9: ∀b:Bool,decide (c.commit<cc/\(Qu c.bi c.bt c.l cc).getD 0=c.term)=b->c.settle=if b then {c with mtch:=c.mtch.set c.id c.last,commit:=cc} else {c with mtch:=c.mtch.set c.id c.last}:=fun b aY=>by
     unfold Core.settle;rw[<-bn.out]
     cases b with
     |
      true=>
      rw[if_pos (of_decide_eq_true aY)];rfl
     |
      false=>
      rw[if_neg (of_decide_eq_false aY)];rfl
    have ay:=Zh a9;clear a9;have bz:=Zh (Qqg af.out M);generalize htt:(Qu c.bi c.bt c.l cc).getD 0=aG at*
    generalize (Qu c.bi c.bt c.l cc).isSome =tb at*
    clear htt;by_cases aj:c.commit<cc
    ·have bI:(c.commit:Int)< (cc:Int):=by omega
     by_cases aA:aG=c.term
     ·have D:=ay.out true (decide_eq_true ⟨aj,aA⟩)
      rw[if_pos rfl] at D;have bJ:(aG:Int)=c.term:=by omega
      have N:Qa (fun i=>i=p) w5 (w5.setCell ⟨p,6,none⟩ (.int .u64 cc)):=(Zr (fun i=>i=p) w5).setCell (p:=⟨p,6,none⟩) (fun _=>rfl) _;have bY:=Zh N;obtain⟨bb,_⟩:=aa.out.set (c':=c.settle) N (fun bk bm M=>by
       have:=Qi (o:=6) M (.int .u64 cc);rw[D];exact this) rfl rfl rfl rfl rfl bz.out
      have aQ:=Zh bb;have br:=Zh (aw.out.upd N (fun e=>by have:=aJ.out.1;exact this (e▸ag.out)));have bD:Hid (Qa S w (w5.setCell ⟨p,6,none⟩ (.int .u64 cc))):=Zh (az.out.trans (N.mono (T:=S) (fun i _ e=>e▸ag.out)) (fun i _ E=>E));have bG:(w5.setCell ⟨p,6,none⟩ (.int .u64 cc)).cell? ⟨p,0,none⟩=some (.int .i64 c.id):=by
       obtain⟨_,_,bO,_⟩:=aQ.out.Z1;exact (Qb bO 0).trans (by rw[D];rfl)
      have ci: ¬(c.id:Int)<0:=by omega
      clear N bb D;have U:=Zh (Qam (QaM br.out) (c.id:Int) (by simp;omega));have Y:((c.id:Int)∈(List.range c.n).map (fun (k:Nat)=>(k:Int))):=by
       rw[List.mem_map];exact⟨c.id,List.mem_range.2 aE.2.2,rfl⟩
      have W:decide ((c.id:Int)∈(List.range c.n).map (fun (k:Nat)=>(k:Int)))=true:=decide_eq_true Y;rw[W] at U;clear Y W;go_wp2_with fail;refine U.out.mono ?_
      rintro e w7 ⟨rfl,rfl⟩;go_wp2_with fail;go_end0;exact⟨rfl,S,aQ.out,fun i E=>.inl E,bD.out⟩
     ·have D:=ay.out false (decide_eq_false (fun h=>aA h.2))
      rw[if_neg (by simp)] at D;have bJ: ¬(aG:Int)=c.term:=by omega
      rw[<-D] at aa;clear D;have U:=Zh (Qam (QaM aw.out) (c.id:Int) (by simp;omega));have Y:((c.id:Int)∈(List.range c.n).map (fun (k:Nat)=>(k:Int))):=by
       rw[List.mem_map];exact⟨c.id,List.mem_range.2 aE.2.2,rfl⟩
      have W:decide ((c.id:Int)∈(List.range c.n).map (fun (k:Nat)=>(k:Int)))=true:=decide_eq_true Y;rw[W] at U;clear Y W;go_wp2_with fail;refine U.out.mono ?_
      rintro e w7 ⟨rfl,rfl⟩;go_wp2_with fail;go_end0;exact⟨rfl,S,aa.out,fun i E=>.inl E,az.out⟩
    ·have D:=ay.out false (decide_eq_false (fun h=>aj h.1))
     rw[if_neg (by simp)] at D;have bI: ¬(c.commit:Int)< (cc:Int):=by omega
     rw[<-D] at aa;clear D;have U:=Zh (Qam (QaM aw.out) (c.id:Int) (by simp;omega));have Y:((c.id:Int)∈(List.range c.n).map (fun (k:Nat)=>(k:Int))):=by
      rw[List.mem_map];exact⟨c.id,List.mem_range.2 aE.2.2,rfl⟩
     have W:decide ((c.id:Int)∈(List.range c.n).map (fun (k:Nat)=>(k:Int)))=true:=decide_eq_true Y;rw[W] at U;clear Y W;go_wp2_with fail;refine U.out.mono ?_
     rintro e w7 ⟨rfl,rfl⟩;go_wp2_with fail;go_end0;exact⟨rfl,S,aa.out,fun i E=>.inl E,az.out⟩
theorem Qer(t:Nat)(e:En)(r:List En):lastT t (e::r)=lastT e.1 r:=by
 unfold lastT
 cases r with
 |nil=>rfl
 |cons x r=>rw[List.getLast?_cons_cons];cases h:(x::r).getLast? <;>simp_all
theorem Qaa: ∀(l:List En) (t:Nat),XP t l->t<=lastT t l
 |[],_,_=>Zf _
 |
  e::r,t,h=>by
  rw[Qer]
  exact Zt h.1 (Qaa r e.1 h.2)
theorem Qiw: ∀(l:List En) (t x s:Nat),XP t l->lastT t l<=x->XP t (l++[(x,s)])
 |[],t,x,s,_,h2=>⟨h2,trivial⟩
 |
  e::r,t,x,s,h,h2=>by
  rw[Qer] at h2
  exact⟨h.1,Qiw r e.1 x s h.2 h2⟩
theorem XD.QeW(h:XD w S p c Y na nb nc U mv Z){e:Ending}
  (ai:Qae v U na c'.n c'.bi c'.bt c'.l w e w') (ag: ∀na nb,QK c' na nb Y=QK c na nb Y) (am:c'.yes=c.yes):
  e= .returned v/\ ∃S',Q2 w' S' p c' Y/\(∀i,S' i->S i\/w.heap.size<=i)/\Qa S w w':=by
 obtain⟨ah,O,au,ev',ae,aj,N,I⟩:=ai;have Q: ¬U p:=fun M=>(h.sl p M).2.1 rfl
 have W: ¬U nb:=fun M=>(h.sl nb M).2.2 rfl
 have al:=h.lt p h.sp;have an:=h.lt nb h.sy;refine⟨ah,fun i=>i=p\/i=nb\/(O i/\i<w'.heap.size),⟨na,nb,ae,fun i=>O i/\i<w'.heap.size,au,ev',?_,?_,?_,?_,.inl rfl,.inr (.inl rfl),h.py,?_⟩,?_,I.mono (fun i _ E=>(h.sl i E).1)⟩
 ·rw[ag]
  exact I.keep h.row Q
 ·obtain⟨aa,ab,ac,ao,ap,aq,ad,ar⟩:=aj
  refine⟨aa,ab,ac,⟨ao,Ql aa⟩,⟨ap,?_⟩,aq,fun g J=>⟨⟨(ad g J).1,?_⟩,(ad g J).2⟩,ar⟩
  ·obtain⟨cap,_,D,_,_,_,af⟩:=ab
   exact World.block_lt_of_cell? w' ⟨ae,0,none⟩ (af 0 (by omega))
  ·exact (ac.lt g J).2
 ·rw[am]
  exact Qch h.yes I W
 ·rintro i ⟨E,ak⟩
  refine⟨.inr (.inr ⟨E,ak⟩),?_,?_⟩
  ·rintro rfl
   rcases N i E with D|D
   ·exact Q D
   ·omega
  ·rintro rfl
   rcases N i E with D|D
   ·exact W D
   ·omega
 ·rintro i (rfl|rfl|E)
  ·exact Zu al I.size
  ·exact Zu an I.size
  ·exact E.2
 ·rintro i (rfl|rfl|E)
  ·exact .inl h.sp
  ·exact .inl h.sy
  ·rcases N i E.1 with D|D
   ·exact .inl (h.sl i D).1
   ·exact .inr D
theorem St.QeJ(h:St w S p q c o): ∃J D E N I mv M,XD w J p c (QM q) D E N I mv M/\
  ∀(w':World) (c':Core) (v:Value) (e:Ending),Qae v I D c'.n c'.bi c'.bt c'.l w e w'->(∀D E,QK c' D E (QM q)=QK c D E (QM q))->c'.yes=c.yes->c'.n=c.n->Fit c'->QU v S p q c' o w e w':=by
 obtain⟨⟨J,aj,al,L,aa,ag,Z,ae⟩,ak⟩:=h;obtain⟨D,E,N,I,mv,M,O⟩:=aa;refine⟨J,D,E,N,I,mv,M,O,fun w' c' v e ad ab ah af ac=> ?_⟩;obtain⟨Q,ai,U,W,Y⟩:=O.QeW ad ab ah;exact⟨Q,St.core ag Z ae U W Y af ac⟩
def QB(S:Nat->Prop)(p q:Nat)(c':Core)(o':Ou)(w w':World):Prop:= ∃S',St w' S' p q c' o'/\(∀i,S' i->S i\/w.heap.size<=i)/\Qa S w w'
theorem QB.Zl(E:Qa Ze w w0)(h:QB S p q c' o' w0 w'):QB S p q c' o' w w':=by
 obtain⟨I,J,M,N⟩:=h;exact⟨I,J,fun i D=>(M i D).imp id (Zt E.size),(E.mono (fun _ _ f=>f.elim)).trans N (fun i _ D=>D)⟩
theorem QB.after(E: ∀i,U i->S i\/w.heap.size<=i)(I:Qa S w w0)(h:QB U p q c' o' w0 w'):QB S p q c' o' w w':=by
 obtain⟨J,M,N,O⟩:=h;refine⟨J,M,fun i D=> ?_,I.trans O (fun i D h=>(E i h).resolve_right (by omega))⟩;rcases N i D with h|h
 ·exact E i h
 ·exact .inr (Zt I.size h)
theorem QpA(D:Fit c)(s:Nat)(O:c.last+1<=20000):Fit {c with l:=c.l++[(c.term,s)]}:=by
 have M:({c with l:=c.l++[(c.term,s)]}:Core).last =c.last+1:=by
  unfold Core.last lastOf;simp only[List.length_append,List.length_singleton];omega
 refine⟨D.n,D.nl,D.ml,fun e j Q=> ?_,D.role,D.elect,?_,Qiw _ _ _ _ D.rise D.term.1,?_,?_⟩
 ·obtain⟨E,I,J⟩:=D.lead e j Q
  rw[M];exact⟨E,Nat.le_succ_of_le I,Nat.le_succ_of_le J⟩
 ·obtain⟨E,I,J,N⟩:=D.bi
  rw[M];exact⟨E,I,Nat.le_succ_of_le J,N⟩
 ·refine⟨?_,D.term.2⟩
  unfold Core.lastT lastT;simp
 ·rw[M]
  exact⟨D.cap.1,O,D.cap.2.2⟩
theorem St.QpO(h:St w S p q c o)(s:Nat)(I:c.last+1<=20000): ∃E,w.cell? ⟨p,5,none⟩=some (.pointer (some ⟨E,0,none⟩))/\
  Calls Tryz.prog 158 #[.pointer (some ⟨E,0,none⟩),QS (c.last+1) c.term s] w (QU (.int .i64 0) S p q {c with l:=c.l++[(c.term,s)]} o w):=by
 have D:=h.fit;obtain⟨U,E,ad,ac,W,mv,Y,M,Q⟩:=h.QeJ;refine⟨E,M.c5,?_⟩;have Z:=Qaa c.l c.bt D.rise;have aa:=D.bi;have ab:=D.cap;have J:=D.term;unfold Core.lastT at J;have N:=Qka M.log c.term s J.1 (by omega) (by omega) (by omega) (by unfold Core.last lastOf at I;omega);refine N.mono ?_
 intro e w' O;exact Q w' {c with l:=c.l++[(c.term,s)]} (.int .i64 0) e O (fun _ _=>rfl) rfl rfl (QpA D s I)
theorem Qid(h:St w S p q c o)(ak:c.role=2)(s:Nat)(a0:c.last+1<=20000)(aP:o.sends.length<19000):
  Calls Tryz.prog 104 #[.pointer (some ⟨p,0,none⟩),QS 0 0 s] w (QU (.int .u64 ((c.last+1:Nat):Int)) S p q (c.put s o).1 (c.put s o).2 w):=by
 have ai:=h.fit;obtain⟨aW,a3,a5,a4,aX,mv,aY,I,_⟩:=h.QeJ;have W:Hid (∀w',Qa Ze w w'->Calls Tryz.prog 98 #[.pointer (some ⟨p,0,none⟩)] w' (Qk (.int .u64 c.last) w')):=Zh (fun w' hu=>Qbh (I.Qc hu));have aG:=Zh I;have H:=Zh h;have aT:=Zh ai;have ay:=Zh (Ql I.row);clear h I ai;have aZ:(Qh 0 0 s).size =24:=rfl;have ae:((Qh 0 0 s).setIfInBounds 0 (.int .u64 ((c.last+1:Nat):Int))).setIfInBounds 1 (.int .u64 (c.term:Int))=Qh (c.last+1) c.term s:=rfl;have aI:(Qh 0 0 s)[0]? =some (.int .u64 0):=rfl;have aJ:(Qh 0 0 s)[1]? =some (.int .u64 0):=rfl;have aw:=Zh ae;clear ae;unfold QS;generalize Qh 0 0 s=A at*
 have a2:IntKind.u64.wrap ((c.last:Int)+1)=((c.last+1:Nat):Int):=by rw[IntWalk.u64_in _ (by omega)];omega
 go_enter Tryz.func104,Tryz.ntmps104;go_upto_region 1 with fail
 have aq:Qa Ze w (w.alloc (.cells A 116)):=(Zr _ w).alloc _;have hx1:=Qf (w:=w) (.cells A 116);have a1: ¬p=w.heap.size:=by have:=ay.out;omega
 have av:Hid (w.heap.size<=w.heap.size):=Zh (Zf _);generalize hw:w.alloc (.cells A 116)=w1 at*
 clear hw;generalize N:w.heap.size=b at*
 have aF:=Zh N;clear N av;have aH:=Zh hx1;have Z:=Zh aq;clear hx1 aq;go_wp2_with fail;refine (W.out _ Z.out).mono ?_
 rintro e w2 ⟨rfl,O⟩;have D:=O.keep aH.out (fun f=>f);have aa:=Zh (Z.out.trans O (fun _ _ f=>f));have az:=Zh D;have aK:w2.cell? ⟨p,3,none⟩=some (.int .u64 c.term):=Qb (aG.out.Qc aa.out).row 3;have ac:=Qb D 0;have ad:=Qb D 1;rw[aI] at ac;rw[aJ] at ad;have aL:=Qg D 0 none;have aM:=Qg D 1 none;clear D O W;generalize I:c.last+1=x at*
 go_upto_region 2 with fail
 go_cut [15] (fun _ J=>J.heap[b]? =some (.cells (Qh x c.term s) 116 (0,0))/\Qa Ze w J)
 case first=>
  go_region
  all_goals
   go_wp2_with fail;go_meet
   case rel=>
    have af:=Qi (o:=1) (Qi (o:=0) az.out (.int .u64 (x:Int))) (.int .u64 (c.term:Int));rw[aw.out] at af;refine⟨af,?_⟩;have N:=aF.out;exact ((aa.out.setCell (p:=⟨b,0,none⟩) (fun h=>by simp only at h;omega) _).setCell (p:=⟨b,1,none⟩) (fun h=>by simp only at h;omega) _).drew
 case rest=>
  obtain⟨al,Q⟩:=hcut;have U:=(Zr Ze wc).drew;obtain⟨aS,ah,ag⟩:=(H.out.Qc (Q.trans U (fun _ _ f=>f))).QpO s (by omega);have M:=Zh ag;have aO:wc.cell? ⟨p,5,none⟩=some (.pointer (some ⟨aS,0,none⟩)):=ah;have aN:(Qh x c.term s).size =24:=rfl;rw[I] at M;unfold QS at M;generalize Qh x c.term s=E at*
  have aQ:(LdC ⟨b,0,none⟩ 24).run Tryz.prog wc.drew= .ok E wc.drew:=Xc (show wc.drew.heap[b]? =_ from al) aN;clear ag ah aK ac ad aL aM;have ab:=Zh Q;clear Q al;go_upto_region 3 with fail
  go_cut [22] (fun _ J=> ∃S',St J S' p q {c with l:=c.l++[(c.term,s)]} o/\(∀i,S' i->S i\/w.heap.size<=i)/\Qa S w J)
  case first=>
   go_region_with (go_at_call 158;refine M.out.mono ?_;rintro e w5 ⟨rfl,aR⟩)
   all_goals
    go_wp2_with fail;go_meet
    case rel=>
     exact QB.Zl (ab.out.trans U (fun _ _ f=>f)) aR
  case rest=>
   obtain⟨aU,ao,am,ar⟩:=hcut;have Y:=Zh (QiH ao ak);have aA:=Zh am;have aD:=Zh ar;clear ao am ar aQ M ab aO U;go_wp2_with fail;refine Y.out.mono ?_
   rintro e w6 ⟨rfl,aV,ap,an,au⟩;have aC:=Zh (Qi5 ap ak aP);have aB:=Zh an;have aE:=Zh au;clear ap an au Y;go_wp2_with fail;refine aC.out.mono ?_
   rintro e w7 ⟨rfl,aj⟩;have ax:=Zh aj;clear aj;go_wp2_with fail;go_ret;exact⟨rfl,QB.after aA.out aD.out (QB.after aB.out aE.out ax.out)⟩
def K5(v:Nat)(l:List Nat):Nat->List Nat
 |0=>l
 |k+1=>(K5 v l k).set k v
theorem Qd8(v:Nat)(l:List Nat)(k:Nat):(K5 v l k).length =l.length:=by
 induction k with
 |zero=>rfl
 |succ k ih=>rw[K5,List.length_set,ih]
theorem QgC(v:Nat)(l:List Nat)(I:l.length=5)(k:Nat)(E:k<=5)(j:Nat)(D:j<k):gd (K5 v l k) j=v:=by
 induction k with
 |zero=>omega
 |
  succ k ih=>
  rw[K5,Ks _ _ _ _ (by rw[Qd8];omega)];split
  ·rfl
  ·exact ih (by omega) (by omega)
def Core.leading(c:Core):Core:={c with role:=2,known:=c.id,next:=List.replicate 5 (c.last+1),mtch:=List.replicate 5 0}
theorem Qnr(D:Fit c):Fit c.leading:=by
 refine⟨D.n,rfl,rfl,fun _ j E=> ?_,Zf 2,D.elect,D.bi,D.rise,D.term,D.cap⟩;show 1<=gd (List.replicate 5 (c.last+1)) j/\gd (List.replicate 5 (c.last+1)) j<=c.last+1/\gd (List.replicate 5 0) j<=c.last;rw[WY _ _ E,WY _ _ E];omega
theorem Qk6(c:Core)(N Q:Nat)(O:Value)(x:Nat)(U:c.next.length=5)(W:c.mtch.length=5)(Y:x=c.last+1):QK {c with role:=2,known:=c.id,next:=K5 x c.next 5,mtch:=K5 0 c.mtch 5} N Q O=QK c.leading N Q O:=by
 subst Y;have J:=QgC (c.last+1) c.next U 5 (Zf _);have D:=fun j (M:j<5)=>WY (c.last+1) j M
 have E:=fun j (M:j<5)=>WY 0 j M
 have I:=QgC 0 c.mtch W 5 (Zf _);unfold QK Core.leading;simp only[J 0 (by omega),J 1 (by omega),J 2 (by omega),J 3 (by omega),J 4 (by omega),I 0 (by omega),I 1 (by omega),I 2 (by omega),I 3 (by omega),I 4 (by omega),D 0 (by omega),D 1 (by omega),D 2 (by omega),D 3 (by omega),D 4 (by omega),E 0 (by omega),E 1 (by omega),E 2 (by omega),E 3 (by omega),E 4 (by omega)]
def Core.mid(c:Core)(x k:Nat):Core:={c with role:=2,known:=c.id,next:=K5 x c.next k,mtch:=K5 0 c.mtch k}
theorem mid_step(c:Core)(E J:Nat)(I:Value)(x:Nat)(M:c.next.length=5)(N:c.mtch.length=5)(D:k<5):((QK (c.mid x k) E J I).setIfInBounds (12+k) (.int .u64 x)).setIfInBounds (17+k) (.int .u64 0)=QK (c.mid x (k+1)) E J I:=by
 rw[Qd0 _ _ _ _ D (by show (K5 x c.next k).length =5;rw[Qd8];exact M)];exact QdZ _ _ _ _ (v:=0) D (by show (K5 0 c.mtch k).length =5;rw[Qd8];exact N)
theorem lead_any(h:St w S p q c o)(aJ:c.last+1<=20000)(aK:o.sends.length<19000):
  Calls Tryz.prog 94 #[.pointer (some ⟨p,0,none⟩)] w (QU (.int .u64 ((c.last+1:Nat):Int)) S p q (c.lead o).1 (c.lead o).2 w):=by
 have M:=h.fit;have aW:=M.n;have ak:=M.nl;have aj:=M.ml;obtain⟨aO,E,I,aY,aP,mv,aQ,Q,aI,_⟩:=h.open;have D:=Q.row;have aN:=Zh (aI p Q.sp);have af:Hid (∀w',Qa (fun i=>i=p) w w'->w'.cell? ⟨p,5,none⟩=some (.pointer (some ⟨E,0,none⟩))-> ∀c':Core,w'.heap[p]? =some (.cells (QK c' E I (QM q)) 126 (0,0))->c'.n=c.n->c'.bi=c.bi->c'.bt=c.bt->c'.l=c.l->c'.yes=c.yes->Calls Tryz.prog 98 #[.pointer (some ⟨p,0,none⟩)] w' (Qk (.int .u64 c.last) w')):=Zh (fun w' J _ c' aa e1 e2 e3 e4 Y=>by
  have:=Qbh (Q.cells (c':=c') J aa e1 e2 e3 e4 Y);have e:c'.last=c.last:=by unfold Core.last;rw[e2,e4]
  rwa [e] at this)
 have H:=Zh h;have ao:=Zh M;have az:w.cell? ⟨p,0,none⟩=some (.int .i64 c.id):=Qb D 0;have aA:w.cell? ⟨p,7,none⟩=some (.int .i64 c.role):=Qb D 7;have aB:w.cell? ⟨p,8,none⟩=some (.int .i64 c.known):=Qb D 8;have aE:=Qg D 7 none;have aF:=Qg D 8 none;have ag:=Zh D;clear h Q D M;go_enter Tryz.func94,Tryz.ntmps94;go_upto_region 2 with fail
 have am:=Qi (o:=8) (Qi (o:=7) ag.out (.int .i64 2)) (.int .i64 (c.id:Int));have ac:Qa (fun i=>i=p) w ((w.setCell ⟨p,7,none⟩ (.int .i64 2)).setCell ⟨p,8,none⟩ (.int .i64 (c.id:Int))):=((Zr (fun i=>i=p) w).setCell (p:=⟨p,7,none⟩) (fun _=>rfl) _).setCell (p:=⟨p,8,none⟩) (fun _=>rfl) _;generalize (w.setCell ⟨p,7,none⟩ (.int .i64 2)).setCell ⟨p,8,none⟩ (.int .i64 (c.id:Int))=w2 at*
 have O:w2.heap[p]? =some (.cells (QK {c with role:=2,known:=c.id} E I (QM q)) 126 (0,0)):=am;have ae:=Zh (af.out w2 ac (Qb O 5) {c with role:=2,known:=c.id} O rfl rfl rfl rfl rfl);have aq:=Zh O;have aw:=Zh ac;clear am O ac af az aA aB aE aF;have aX:IntKind.u64.wrap ((c.last:Int)+1)=((c.last+1:Nat):Int):=by rw[IntWalk.u64_in _ (by omega)];omega
 go_wp2_with fail;refine ae.out.mono ?_
 rintro e aM ⟨rfl,ad⟩;have ar:=Zh (ad.keep aq.out (fun f=>f));have ax:Hid (Qa (fun i=>i=p) w aM):=Zh (aw.out.trans (ad.mono (T:=fun i=>i=p) (fun _ _ f=>f.elim)) (fun _ _ h=>h));clear ad ae;generalize hxx:c.last+1=x at*
 go_wp2_with fail;go_loopw [17] (fun s wr=> ∃k:Nat,s= .int .i64 k/\k<=5/\wr.heap[p]? =some (.cells (QK (c.mid x k) E I (QM q)) 126 (0,0))/\Qa (fun i=>i=p) w wr) (fun s _=>5 - (Go.RowKit.intOf s).toNat)
 case atStart=>exact⟨0,rfl,by omega,ar.out,ax.out⟩
 case round=>
  obtain⟨k,rfl,aS,D,J⟩:=hrel;by_cases hlt:k<5
  ·have aV:(k:Int)<5:=by omega
   have aT:(0:Int)<=k:=by omega
   have aU: ¬(5:Int)<=k:=by omega
   have aD:=(Qb D (12+k)).trans (Qak _ _ _ _ hlt);have aC:=(Qb D (17+k)).trans (Qbi _ _ _ _ hlt);have fn:=Qg D (12+k) none;have aR:=Qg D (17+k) none;have Z:=Qi (o:=17+k) (Qi (o:=12+k) D (.int .u64 x)) (.int .u64 0);rw[mid_step c E I _ x ak aj hlt] at Z;have an:=(J.setCell (p:=⟨p,12+k,none⟩) (fun _=>rfl) (.int .u64 x)).setCell (p:=⟨p,17+k,none⟩) (fun _=>rfl) (.int .u64 0);have au:=Zh Z;have ay:=Zh an;clear Z an D J;generalize gd _ k=y1 at aD;generalize gd _ k=y2 at aC;go_upto_region 6 with fail
   go_region
   all_goals
    go_wp2_with fail;exact⟨⟨k+1,by go_num,by omega,au.out,ay.out.drew⟩,by simp[Go.RowKit.intOf];omega⟩
  ·obtain rfl:k=5:=by omega
   have ab:St wr S p q c.leading o/\Qa S w wr:=H.out.set J (fun U W aa=>by
    have e:=ag.out.symm.trans aa;simp only[Option.some.injEq,Obj.cells.injEq,and_true] at e;have Y:(QK c E I (QM q))[5]? =(QK c U W (QM q))[5]? :=by rw[e]
    have e11:(QK c E I (QM q))[11]? =(QK c U W (QM q))[11]? :=by rw[e]
    have aH:E=U:=by
     have:some (Value.pointer (some ⟨E,0,none⟩))=some (Value.pointer (some ⟨U,0,none⟩)):=Y
     simpa using this
    have aG:I=W:=by
     have:some (Value.map (some I))=some (Value.map (some W)):=e11
     simpa using this
    subst aH;subst aG;rw[D]
    congr 2
    exact Qk6 c E I _ x ak aj hxx.symm) rfl rfl rfl rfl rfl (Qnr ao.out)
   have ai:c.leading.last=c.last:=rfl;have N:=Zh (Qid ab.1 rfl 0 (by rw[ai,hxx];exact aJ) aK);rw[ai,hxx] at N;have av:=Zh ab.2;clear ab D J;unfold QS at N;have ah:Qh 0 0 0= #[.int .u64 0,.int .u64 0,.int .i64 1,.int .i64 0,.int .i64 0,.int .u64 0,.int .u64 0,.int .i64 0,.string ⟨#[]⟩,.string ⟨#[]⟩,.string ⟨#[]⟩,.bool false,.string ⟨#[]⟩,.int .u64 0,.int .i64 0,.string ⟨#[]⟩,.string ⟨#[]⟩,.int .i64 0,.bool false,.int .i64 0,.string ⟨#[]⟩,.int .i64 0,.int .i64 0,.slice none 0 0]:=rfl;rw[ah] at N;clear ah;go_wp2_with fail;refine N.out.mono ?_
   rintro e w7 ⟨rfl,al⟩;have ap:=Zh al;clear al;go_wp2_with fail;go_ret;exact⟨rfl,QB.after (fun i aL=>.inl aL) av.out ap.out⟩
end
section
open Go.RowKit Go.Acre Go.Maps Go.Sort Go.Shelf
attribute [local go_sem ↓] LcG ScG
attribute [local go_sem] Sc1 Sc2 Sc3 Lc2 Lc3
theorem Qe2: ∀(D:List Nat),∃E,Kx D= .map E/\ ∀p∈E,∃x:Nat,p.1= .int .i64 (x:Int)
 |[]=>⟨[],rfl,fun p I=>(by cases I)⟩
 |
  y::D=>by
  obtain⟨E,J,M⟩:=Qe2 D
  refine⟨DataW.insert (.int .i64 (y:Int),.agg []) (E.filter fun p=> !p.1.sameKey (.int .i64 (y:Int))),?_,fun p I=> ?_⟩
  ·show (Kx D).put _ _=_
   rw[J]
   rfl
  ·rcases Go.ChangeMaps.mem_insert_iff.1 I with rfl|h
   ·exact⟨y,rfl⟩
   ·exact M p (List.mem_filter.1 h).1
theorem Qp2{x y:Int}(h:(Lit.int .i64 x).sameKey (.int .i64 y)=true):x=y:=by
 simpa [Lit.sameKey] using h
theorem QiF: ∀(D:List Nat) (x:Int),x∈intKeys (Kx D)↔x∈D.map (Nat.cast:Nat->Int)
 |[],x=>by simp[Kx,intKeys]
 |
  y::D,x=>by
  have ih:=QiF D x
  obtain⟨M,I,N⟩:=Qe2 D
  have e:Kx (y::D)= .map (DataW.insert (.int .i64 (y:Int),.agg []) (M.filter fun p=> !p.1.sameKey (.int .i64 (y:Int)))):=by
   show (Kx D).put _ _=_;rw[I];rfl
  rw[e];rw[I] at ih;simp only[intKeys,List.mem_map,List.map_cons,List.mem_cons] at ih ⊢;constructor
  ·rintro⟨p,E,rfl⟩
   rcases Go.ChangeMaps.mem_insert_iff.1 E with rfl|h
   ·exact .inl rfl
   ·exact .inr (ih.1 ⟨p,(List.mem_filter.1 h).1,rfl⟩)
  ·rintro (rfl|h)
   ·exact⟨(.int .i64 (y:Int),.agg []),Go.ChangeMaps.mem_insert_iff.2 (.inl rfl),rfl⟩
   ·obtain⟨p,E,rfl⟩:=ih.2 h
    obtain⟨z,J⟩:=N p E;by_cases hzy:(z:Int)=y
    ·refine⟨(.int .i64 (y:Int),.agg []),Go.ChangeMaps.mem_insert_iff.2 (.inl rfl),?_⟩
     rw[J,hzy]
    ·refine⟨p,Go.ChangeMaps.mem_insert_iff.2 (.inr (List.mem_filter.2 ⟨E,?_⟩)),rfl⟩
     rw[J]
     cases hs:(Lit.int .i64 (z:Int)).sameKey (.int .i64 (y:Int)) with
     |true=>exact absurd (Qp2 hs) hzy
     |false=>rfl
theorem Qem(E:Nat)(D:World):Calls Tryz.prog 153 #[.map (some E)] D fun e w'=> ∃Bm,e= .returned (.func (.func 211) #[] #[.pointer (some ⟨Bm,0,none⟩)])/\w'.cell? ⟨Bm,0,none⟩=some (.map (some E))/\Qa Ze D w':=by
 refine ((callsIn_wide (n:=5)).1 (AnyZI.keys_in Tryz.Qhc Fence.wide 5 trivial rfl (some E) D)).mono ?_
 rintro e w' ⟨I,rfl⟩;exact⟨_,I,Qb (Qf (w:=D) (.cells #[.map (some E)] 122)) 0,(Zr _ D).alloc _⟩
theorem QkV(h:WQ w na la)(N:la.length<=100000)(M:nb<w.heap.size)(Q:w.cell? ⟨nb,0,none⟩=some (.map (some na))):
  Calls Tryz.prog 152 #[.func (.func 211) #[] #[.pointer (some ⟨nb,0,none⟩)]] w (fun e w'=> ∃(a:Option Addr) (n cap:Nat) (zs:List Int),e= .returned (.slice a n cap)/\zs.Perm (intKeys (Kx la))/\QN .i64 w' (.slice a n cap) zs/\zs.length<=100000/\Qa Ze w w'):=by
 have hsz:Maps.size (Kx la)<=100000:=Zt h.size_le N;have Y:SeqGives Fence.wide 3 Tryz.prog 211 #[.pointer (some ⟨nb,0,none⟩)] encZ (fun D=>D.Perm (intKeys (Kx la))) (Maps.size (Kx la)) w:=
  AnyZI.keys_gives (ρ:=Tryz.Qhd) {Tryz.Qhc with} Fence.wide _ trivial rfl (by omega) nb na la.length (Kx la) w M Q h
 have U:=(callsIn_wide (n:=5)).1 (AnyZI.collect_in (ρ:=Tryz.Qf6) Tryz.QkU Fence.wide 5 trivial trivial rfl (by omega) 211 #[.pointer (some ⟨nb,0,none⟩)] trivial (enters_of Tryz.func211 (by kernel_rfl) rfl) _ _ (by unfold maxLen;omega) (by omega) _ Y);refine U.mono ?_
 rintro e w' ⟨v,D,rfl,I,W,_,O⟩;have E:QN .i64 w' v D:=Qr.Q7 W;obtain⟨a,cap,rfl⟩:=E.slice;refine⟨a,_,cap,D,rfl,I,E,?_,Qa.of_below O⟩;rw[I.length_eq];obtain⟨Z,J,_⟩:=Qe2 la;rw[J] at hsz ⊢
 simpa [intKeys,Maps.size] using hsz
theorem QkT(h: ∀x,x∈zt↔x∈zs):ZS zt n=ZS zs n:=by
 unfold ZS
 congr 2
 funext j
 exact decide_eq_decide.2 (h _)
theorem Qjh(h:XD w S p c Y na nb nc U mv Z)(ap:c.yes.length<=20000):
  Calls Tryz.prog 93 #[.pointer (some ⟨p,0,none⟩)] w (Qk (.bool c.Kz) w):=by
 have ae:Hid (∀w',Qa Ze w w'->Calls Tryz.prog 92 #[.pointer (some ⟨p,0,none⟩)] w' (Qaf c.n w')):=Zh (fun w' J=>Qaj (h.Qc J));have M:Hid (∀w',Qa Ze w w'->w'.cell? ⟨p,11,none⟩=some (.map (some nb))):=Zh (fun w' J=>Qb (h.Qc J).row 11);have ad:Hid (∀w' E,Qa Ze w w'->w'.cell? ⟨E,0,none⟩=some (.map (some nb))->Calls Tryz.prog 152 #[.func (.func 211) #[] #[.pointer (some ⟨E,0,none⟩)]] w' (fun e w''=> ∃(a:Option Addr) (n cap:Nat) (zs:List Int),e= .returned (.slice a n cap)/\zs.Perm (intKeys (Kx c.yes))/\QN .i64 w'' (.slice a n cap) zs/\zs.length<=100000/\Qa Ze w' w'')):=
  Zh (fun w' E J aa=>QkV (h.Qc J).yes (by omega) (World.block_lt_of_cell? w' ⟨E,0,none⟩ aa) aa)
 have af:Hid (∀(w':World) (v:Value) (g:Nat) (a:Option Addr) (m cap:Nat) (zs:List Int),QD w' v c.n g->zs.Perm (intKeys (Kx c.yes))->QN .i64 w' (.slice a m cap) zs->zs.length<=100000->Calls Tryz.prog 151 #[v,.slice a m cap] w' (Qk (.bool c.Kz) w')):=Zh (fun w' v g a m cap zs D O I ag=>by
  have:=QrV D I ag;have e:ZS zs c.n=ZS (c.yes.map Nat.cast) c.n:=QkT (fun x=>(O.mem_iff).trans (QiF _ _));rw[e] at this;exact this)
 clear h;go_enter Tryz.func93,Tryz.ntmps93;go_upto_region 1 with fail
 have hcur:=(Zr Ze w).drew;have W:=M.out _ hcur;go_region_with (first
  |(go_at_call 92;refine (ae.out _ (by assumption)).mono ?_;rintro e ak ⟨v,g,rfl,D,ao,Q⟩;have hcur:Qa Ze w ak:=Qa.trans (by assumption) Q (fun _ _ f=>f);have W:=M.out _ hcur;try (have N:=Qe Q N (fun f=>f));try (have I:=QN.Qc I Q))
  |(go_at_call 153;refine (Qem _ _).mono ?_;rintro e aj ⟨E,rfl,N,ac⟩;have hcur:Qa Ze w aj:=Qa.trans (by assumption) ac (fun _ _ f=>f);have W:=M.out _ hcur;try (have D:=D.upd ac (fun f=>f)))
  |(go_at_call 152;refine (ad.out _ _ (by assumption) N).mono ?_;rintro e wc ⟨am,an,cc,zs,rfl,O,I,ai,ab⟩;have hcur:Qa Ze w wc:=Qa.trans (by assumption) ab (fun _ _ f=>f);try (have D:=D.upd ab (fun f=>f)))
  |(go_at_call 151;refine (af.out _ _ _ _ _ _ _ D O I ai).mono ?_;rintro e al ⟨rfl,ah⟩;have hcur:Qa Ze w al:=Qa.trans (by assumption) ah (fun _ _ f=>f)))
 all_goals
  go_wp2_with fail;go_ret;exact⟨rfl,by assumption⟩
end
section
open Go.RowKit Go.Acre
attribute [local go_sem ↓] LcG ScG
attribute [local go_sem] Sc1 Sc2 Sc3 Lc2 Lc3
theorem QkI(h:WQ w na la): ∃w',(∀ty,(Builtin.clear_ #[122] ty #[.map (some na)]).run Tryz.prog w= .ok (.tuple #[]) w')/\WQ w' na []/\Qa (fun i=>i=na) w w':=by
 obtain⟨I,clock,D,F,M,J⟩:=h;refine⟨_,fun ty=> ?_,⟨#[],clock,Go.ChangeMaps.heap_setBlock_same D _,⟨by simp,?_,by simp⟩,Zf _,rfl⟩,?_⟩
 ·simp[Builtin.clear_,run_underlying Tryz.underlying122,Go.MapKept.run_getObj_map D,Go.MapKept.run_setObj_map _ D,Result.andThen]
  rfl
 ·exact Go.MapKept.stamped_empty clock
 ·exact⟨rfl,rfl,rfl,by show w.heap.size<=(w.heap.setIfInBounds na _).size;rw[Array.size_setIfInBounds];exact Zf _,fun k _ E=>Go.ChangeMaps.heap_setBlock_other D _ E⟩
theorem QmW(x:Nat)(D:x<=100):keyOf Tryz.prog 3 (.int .i64 (x:Int))=some (.int .i64 (x:Int)):=by
 refine Maps.keyOf_int_mk Tryz.underlying3 ?_
 simp[Lit.wf,IntKind.min,IntKind.max,IntKind.signed,IntKind.bits];omega
theorem Qig(h:WQ w na la)(x:Nat)(J:x<=100)(M:la.length<=100000): ∃w',(Instr.mapUpdate 122 (.map (some na)) (.int .i64 (x:Int)) (.agg #[])).run Tryz.prog w= .ok () w'/\WQ w' na (x::la)/\Qa (fun i=>i=na) w w':=by
 obtain⟨w',D,E,I⟩:=World.ownsMap.update h (Maps.int_keyed Tryz.underlying3) Tryz.underlying122 (by unfold maxLen;omega) (QmW x J) (unitElem_mk (H:=Unit));exact⟨w',D,E,(Zr _ w).X8 I (fun k e _=>by cases e;rfl)⟩
theorem St.QeK(h:St w S p q c o): ∃O N E W Q mv U,XD w O p c (QM q) N E W Q mv U/\S p/\S E/\
  ∀(w':World) (c':Core),Qa (fun i=>i=p\/i=E) w w'->w'.heap[p]? =some (.cells (QK c' N E (QM q)) 126 (0,0))->WQ w' E c'.yes->c'.n=c.n->c'.bi=c.bi->c'.bt=c.bt->c'.l=c.l->Fit c'->St w' S p q c' o/\Qa S w w':=by
 obtain⟨⟨O,ac,al,L,ag,Y,I,ai⟩,am⟩:=h;obtain⟨N,E,W,Q,mv,U,D⟩:=ag;have aa:=(I p D.sp).1;have ab:=(I E D.sy).1;have Z: ∀i,(i=p\/i=E)->S i:=fun i h=>by
  rcases h with rfl|rfl
  ·exact aa
  ·exact ab
 refine⟨O,N,E,W,Q,mv,U,D,aa,ab,fun w' c' M aj ak e1 ad ae af ah=>⟨⟨⟨O,ac,al,L,⟨N,E,W,Q,mv,U,aj,?_,ak,D.sl,D.sp,D.sy,D.py,fun i J=>Zu (D.lt i J) M.size⟩,?_,I,fun i J=>Zu (ai i J) M.size⟩,ah⟩,M.mono (fun i _ h=>Z i h)⟩⟩
 ·rw[e1,ad,ae,af]
  exact D.log.upd M (fun i J h=>by
   rcases h with h|h
   ·exact (D.sl i J).2.1 h
   ·exact (D.sl i J).2.2 h)
 ·rw[e1]
  refine Y.upd M (fun h=> ?_) (fun g hg h=> ?_) Z (fun _ _ h=>h) Y.sq (fun g hg=>(Y.sb g hg).1)
  ·rcases h with h|h
   ·exact (I p D.sp).2.1 h.symm
   ·exact (I E D.sy).2.1 h.symm
  ·rcases h with rfl|rfl
   ·exact (I g D.sp).2.2 hg
   ·exact (I g D.sy).2.2 hg
theorem Qq0(D:Fit c)(E:c.term+1<=20000):Fit c.stood:=by
 refine⟨D.n,D.nl,D.ml,fun e=>(by cases e),by show 1<=2;omega,D.elect,D.bi,D.rise,⟨Nat.le_succ_of_le D.term.1,by show 1<=c.term+1;omega⟩,E,D.cap.2.1,by show 0<=20000;omega,D.cap.2.2.2.1,by show 1<=20000;omega⟩
def Core.Qaw(c:Core):Mg:=⟨1,c.term+1,c.last,c.lastT,0,false,[],0,0⟩
def Core.QqE(c:Core):Core:={c with term:=c.term+1,vote:=some c.id}
def Core.QqF(c:Core):Core:={c with term:=c.term+1,vote:=some c.id,role:=1,known:= -1,waits:=0}
theorem QeN(id:Nat)(f:Nat->Mg)(x:Nat): ∀(r k:Nat) (o:Ou),Q8 id f r k {o with frm:=x}={Q8 id f r k o with frm:=x}
 |0,_,_=>rfl
 |
  r+1,k,o=>by
  rw[Q8,Q8]
  split
  ·exact QeN id f x r (k+1) o
  ·exact QeN id f x r (k+1) (o.send k (f k))
theorem QiU(c:Core)(o:Ou)(h:c.stood.Kz=true):(c.stand o).1=(c.stood.lead o).1/\({(c.stand o).2 with frm:=o.frm}:Ou)=(c.stood.lead o).2:=by
 unfold Core.stand;rw[if_pos h];refine⟨rfl,?_⟩;have D:(c.stood.lead o).2.frm =o.frm:=(KQ _ _ _ _ _).1;show ({(c.stood.lead o).2 with frm:=o.frm}:Ou)=(c.stood.lead o).2;rw[<-D]
theorem QiT(c:Core)(o:Ou)(h:c.stood.Kz=false):(c.stand o).1=c.stood/\({(c.stand o).2 with frm:=o.frm}:Ou)=c.stood.others (fun _=>c.Qaw) o:=by
 unfold Core.stand;rw[if_neg (by rw[h];simp)];refine⟨rfl,?_⟩;show ({Q8 c.stood.id (fun _=>c.Qaw) c.stood.n 0 {o with frm:=0} with frm:=o.frm}:Ou)=Q8 c.stood.id (fun _=>c.Qaw) c.stood.n 0 o;rw[QeN];have D:=(KQ c.stood.id (fun _=>c.Qaw) c.stood.n 0 o).1;show ({Q8 c.stood.id (fun _=>c.Qaw) c.stood.n 0 o with frm:=o.frm}:Ou)=_;rw[<-D]
def Wa(c:Core):Nat:=if c.stood.Kz then c.last+1 else 0
theorem QqG(h:St w S p q c o)(bS:c.term+1<=20000)(bR:c.last+1<=20000)(bd:o.sends.length<19000):
  Calls Tryz.prog 44 #[.pointer (some ⟨p,0,none⟩)] w (fun e w'=>e= .returned (.int .u64 (Wa c:Nat))/\QB S p q (c.stand o).1 {(c.stand o).2 with frm:=o.frm} w w'):=by
 have aH:=h.fit;have bY:=aH.n;obtain⟨cf,b2,cy,ct,ch,mv,cl,aP,cp,cq,aj⟩:=h.QeK;have M:=aP.row;have av:Hid (∀i,S i->i<w.heap.size):=Zh (h.open.choose_spec.choose_spec.choose_spec.choose_spec.choose_spec.choose_spec.choose_spec.2.2.1);have H:=Zh h;have ac:=Zh aP;have bx:=Zh aH;have bC:=Zh (Ql M);clear h aP aH aj;go_enter Tryz.func44,Tryz.ntmps44;go_upto_region 1 with fail
 have U:Qa Ze w (w.alloc (.cells #[.pointer (some ⟨p,0,none⟩)] 50)):=(Zr _ w).alloc _;have hx1:=Qf (w:=w) (.cells #[.pointer (some ⟨p,0,none⟩)] 50);have aJ: ¬p=w.heap.size:=by have:=bC.out;omega
 generalize hw:w.alloc (.cells #[.pointer (some ⟨p,0,none⟩)] 50)=w1 at*
 clear hw;generalize hb:w.heap.size=b at*
 have ce:=Zh hb;clear hb;have ab:Hid (∀w',Qa Ze w1 w'->w'.cell? ⟨b,0,none⟩=some (.pointer (some ⟨p,0,none⟩))/\w'.cell? ⟨p,0,none⟩=some (.int .i64 c.id)/\w'.cell? ⟨p,3,none⟩=some (.int .u64 c.term)):=Zh (fun w' hu=>⟨Qb (hu.keep hx1 (fun f=>f)) 0,Qb ((ac.out.Qc U).Qc hu).row 0,Qb ((ac.out.Qc U).Qc hu).row 3⟩);have aV:=Zh (last_any (ac.out.Qc U).log);have aW:Hid (∀w',Qa Ze w1 w'->Calls Tryz.prog 92 #[.pointer (some ⟨p,0,none⟩)] w' (Qaf c.n w')):=Zh (fun w' hu=>Qaj ((ac.out.Qc U).Qc hu));have aU:Hid (∀(w':World) (v:Value) (g:Nat),QD w' v c.n g->Calls Tryz.prog 91 #[v,.int .i64 c.id] w' (Is (.bool true) w')):=Zh (fun w' v g ad=>by
  obtain⟨cj,W⟩: ∃cap,v= .slice (some ⟨g,0,none⟩) c.n cap:=⟨ad.choose,ad.choose_spec.1⟩
  subst W;have:=Qam (QaM ad) (c.id:Int) (by simp;omega);rw[decide_eq_true (by rw[List.mem_map];exact⟨c.id,List.mem_range.2 bY.2.2,rfl⟩)] at this;exact this)
 have D:=(ab.out _ (Zr _ w1)).1;have c5:w1.cell? ⟨p,5,none⟩=some (.pointer (some ⟨b2,0,none⟩)):=(ac.out.Qc U).c5;have bG:=Zh U;have bK:=Zh hx1;clear U hx1 M;go_wp2_with fail;refine aV.out.mono ?_
 rintro e w2 ⟨rfl,bk⟩;have bH:=Zh bk;clear aV bk D c5;have bX:(c.term:Int)<1099511627776:=by omega
 have bW:((lastOf c.bi c.l:Nat):Int)<1099511627776:=by have:lastOf c.bi c.l=c.last:=rfl;omega
 go_upto_region 2 with fail
 have bU:decide ((1099511627776:Int)<=c.term)=false:=decide_eq_false (by omega);have bV:decide ((1099511627776:Int)<=((lastOf c.bi c.l:Nat):Int))=false:=decide_eq_false (by omega);have hcur:Qa Ze w1 w2.drew:=bH.out.drew;obtain⟨D,ao,ap⟩:=ab.out _ hcur;go_cut [33] (fun s N=>s= .bool false/\Qa Ze w1 N)
 case first=>
  go_region_held3 (fun w'=>w'.cell? ⟨b,0,none⟩=some (.pointer (some ⟨p,0,none⟩))/\w'.cell? ⟨p,0,none⟩=some (.int .i64 c.id)/\w'.cell? ⟨p,3,none⟩=some (.int .u64 c.term)) (first|exact⟨D,ao,ap⟩|exact ab.out _ (by assumption)) ((first
   |(go_at_call 92;refine (aW.out _ (by assumption)).mono ?_;rintro e ca ⟨v,g,rfl,ad,cr,b1⟩;have hcur:Qa Ze w1 ca:=Qa.trans (by assumption) b1 (fun _ _ f=>f);obtain⟨D,ao,ap⟩:=ab.out _ hcur)
   |(go_at_call 91;refine (aU.out _ _ _ ad).mono ?_;rintro e cx ⟨rfl,rfl⟩)))
  all_goals
   go_wp2_with fail;go_meet
   case rel=>exact⟨rfl,by assumption⟩
 case rest=>
  obtain⟨rfl,aO⟩:=hcut;obtain⟨O,rfl⟩: ∃x,x=wc:=⟨_,rfl⟩
  have aN:=bG.out.trans aO (fun _ _ f=>f);obtain⟨cg,bv,I,cu,ci,cv,cm,aQ,_,b0,aj⟩:=(H.out.Qc aN).QeK;have aG:=(aO.keep bK.out (fun f=>f))
  have M:=aQ.row;have a0:=Zh aj;have aA:=Zh aQ;have bI:=Zh aN;have ah:=Zh aG;have aY:=Zh M;have D:=Qb aG 0;have ao:O.cell? ⟨p,0,none⟩=some (.int .i64 c.id):=Qb M 0;have ap:O.cell? ⟨p,3,none⟩=some (.int .u64 c.term):=Qb M 3;have b5:O.cell? ⟨p,4,none⟩=some (.int .i64 (Qd c.vote)):=Qb M 4;have aB:=Qg M 3 none;have aC:=Qg M 4 none;have cs:IntKind.u64.wrap ((c.term:Int)+1)=((c.term+1:Nat):Int):=by rw[IntWalk.u64_in _ (by omega)];omega
  have D:O.cell? ⟨b,0,none⟩=some (.pointer (some ⟨p,0,none⟩)):=D;clear aO aN aQ aj aG M hcur bU bV bX bW aW aU ab;go_upto_region 4 with fail
  go_cut [45] (fun _ N=>N.heap[p]? =some (.cells (QK c.QqE bv I (QM q)) 126 (0,0))/\Qa (fun i=>i=p) O N)
  case first=>
   go_region
   all_goals
    go_wp2_with fail;go_meet
    case rel=>exact⟨Qi (o:=4) (Qi (o:=3) aY.out (.int .u64 ((c.term+1:Nat):Int))) (.int .i64 (c.id:Int)),(((Zr (fun i=>i=p) O).setCell (p:=⟨p,3,none⟩) (fun _=>rfl) _).setCell (p:=⟨p,4,none⟩) (fun _=>rfl) _).drew⟩
  case rest=>
   obtain⟨E,Z⟩:=hcut;obtain⟨aq,rfl⟩: ∃x,x=wc:=⟨_,rfl⟩
   clear D ao ap b5 aB aC;have bc:=Z.keep ah.out (fun e=>aJ e.symm);have D:aq.cell? ⟨b,0,none⟩=some (.pointer (some ⟨p,0,none⟩)):=Qb bc 0;have b6:aq.cell? ⟨p,7,none⟩=some (.int .i64 c.role):=Qb E 7;have b7:aq.cell? ⟨p,8,none⟩=some (.int .i64 c.known):=Qb E 8;have b8:aq.cell? ⟨p,9,none⟩=some (.int .i64 c.waits):=Qb E 9;have bM:=Qg E 7 none;have bN:=Qg E 8 none;have bO:=Qg E 9 none;have aZ:=Zh E;have a2:=Zh Z;clear E Z bc;go_upto_region 5 with fail
   go_cut [56] (fun _ N=>N.heap[p]? =some (.cells (QK c.QqF bv I (QM q)) 126 (0,0))/\Qa (fun i=>i=p) O N)
   case first=>
    go_region
    all_goals
     go_wp2_with fail;go_meet
     case rel=>exact⟨Qi (o:=9) (Qi (o:=8) (Qi (o:=7) aZ.out (.int .i64 1)) (.int .i64 (-1))) (.int .i64 0),((((a2.out.setCell (p:=⟨p,7,none⟩) (fun _=>rfl) _)).setCell (p:=⟨p,8,none⟩) (fun _=>rfl) _).setCell (p:=⟨p,9,none⟩) (fun _=>rfl) _).drew⟩
   case rest=>
    obtain⟨aL,af⟩:=hcut;obtain⟨aS,rfl⟩: ∃x,x=wc:=⟨_,rfl⟩
    clear D b6 b7 b8 bM bN bO aZ a2;have aK:p≠I:=aA.out.py;have bu: ¬I=b:=fun e=>by
     have bP:=av.out I b0;omega
    obtain⟨Q,bT,br,ak⟩:=QkI (Qch aA.out.yes af (fun e=>aK e.symm));obtain⟨ag,bZ,bs,al⟩:=Qig (Qch br (Zr Ze Q).drew (fun f=>f)) c.id (by omega) (by simp);have bm:Qa (fun i=>i=I) aS Q.drew:=ak.trans ((Zr (fun i=>i=I) Q).drew) (fun _ _ h=>h);have ai:=ak.keep aL aK;have aD:=ak.keep (af.keep ah.out (fun e=>aJ e.symm)) (fun e=>bu e.symm);have D:aS.cell? ⟨b,0,none⟩=some (.pointer (some ⟨p,0,none⟩)):=Qb (af.keep ah.out (fun e=>aJ e.symm)) 0;have p11:aS.cell? ⟨p,11,none⟩=some (.map (some I)):=Qb aL 11;have bL:Q.cell? ⟨b,0,none⟩=some (.pointer (some ⟨p,0,none⟩)):=Qb aD 0;have b4:Q.cell? ⟨p,11,none⟩=some (.map (some I)):=Qb ai 11;have b3:Q.cell? ⟨p,0,none⟩=some (.int .i64 c.id):=Qb ai 0;have bj:=al.keep (show Q.drew.heap[p]? =_ from ai) aK;have aE:=al.keep (show Q.drew.heap[b]? =_ from aD) (fun e=>bu e.symm);have bn:Qa (fun i=>i=p\/i=I) O ag:=((af.mono (fun i _ h=>.inl h)).trans (bm.mono (T:=fun i=>i=p\/i=I) (fun i _ h=>.inr h)) (fun _ _ h=>h)).trans (al.mono (T:=fun i=>i=p\/i=I) (fun i _ h=>.inr h)) (fun _ _ h=>h);have ae:=a0.out ag c.stood bn bj bs rfl rfl rfl rfl (Qq0 bx.out bS);have a1:=Zh ae.1;have bJ:Hid (Qa S w ag):=Zh ((bI.out.mono (T:=S) (fun _ _ f=>f.elim)).trans ae.2 (fun _ _ h=>h));have aT:=Zh aE;have cb:Hid (b<ag.heap.size):=Zh (Ql aE);clear ae bj aE bn al bs br ak bm ai aD aL af a0 aA ah aY;go_upto_region 7 with fail
    go_cut [69] (fun _ N=>N=ag)
    case first=>
     go_region
     all_goals
      go_wp2_with fail;go_meet
      case rel=>rfl
    case rest=>
     subst hcut;obtain⟨b9,rfl⟩: ∃x,x=wc:=⟨_,rfl⟩
     clear D p11 bL b4 b3 bT bZ;have D:b9.cell? ⟨b,0,none⟩=some (.pointer (some ⟨p,0,none⟩)):=Qb aT.out 0;obtain⟨_,_,_,_,_,_,_,bp,_⟩:=a1.out.open;have a4:=Zh (Qjh bp (by show 1<=20000;omega));clear bp;go_wp2_with fail;refine a4.out.mono ?_
     rintro e aa ⟨rfl,am⟩;have aw:=Zh (a1.out.Qc am);have a3:Hid (Qa S w aa):=Zh (bJ.out.trans (am.mono (T:=S) (fun _ _ f=>f.elim)) (fun _ _ h=>h));have ar:=Zh (am.keep aT.out (fun f=>f));have D:aa.cell? ⟨b,0,none⟩=some (.pointer (some ⟨p,0,none⟩)):=Qb ar.out 0;clear am a4
     cases hwon:c.stood.Kz with
     |
      true=>
      have au:=Zh (lead_any aw.out bR bd);have W:Wa c=c.last+1:=by unfold Wa;rw[hwon];rfl
      have az:=Zh W;have be:c.stood.last=c.last:=rfl;rw[be] at au;clear W be;go_wp2_with fail;refine Calls.mono au.out ?_
      rintro e J ⟨rfl,bg⟩;have bB:=Zh bg;clear bg au;go_wp2_with fail;go_ret;refine⟨by rw[az.out];rfl,?_⟩;rw[(QiU c o hwon).1,(QiU c o hwon).2];exact QB.after (fun i aI=>.inl aI) a3.out bB.out
     |
      false=>
      have W:Wa c=0:=by unfold Wa;rw[hwon];rfl
      have az:=Zh W;clear W;obtain⟨_,_,_,_,_,_,_,bq,_⟩:=aw.out.open;have bA:Hid (Calls Tryz.prog 95 #[.pointer (some ⟨p,0,none⟩),.int .i64 1] aa (Qk (.agg (Xl 1 ((c.term+1:Nat):Int) 0 0 0 false (.slice none 0 0) 0 0 (.slice none 0 0))) aa)):=Zh (QeQ bq 1);have ba:(Xl 1 ((c.term+1:Nat):Int) 0 0 0 false (.slice none 0 0) 0 0 (.slice none 0 0)).size =58:=rfl;have bb:=QaN 1 ((c.term+1:Nat):Int) 0 0 0 false (.slice none 0 0) 0 0 (.slice none 0 0) rfl rfl;have a9:((Xl 1 ((c.term+1:Nat):Int) 0 0 0 false (.slice none 0 0) 0 0 (.slice none 0 0)).setIfInBounds 3 (.int .u64 ((lastOf c.bi c.l:Nat):Int))).setIfInBounds 4 (.int .u64 ((lastT c.bt c.l:Nat):Int))=c.Qaw.arr (.slice none 0 0):=rfl;have a5:(Xl 1 ((c.term+1:Nat):Int) 0 0 0 false (.slice none 0 0) 0 0 (.slice none 0 0))[3]? =some (.int .u64 0):=rfl;have a6:(Xl 1 ((c.term+1:Nat):Int) 0 0 0 false (.slice none 0 0) 0 0 (.slice none 0 0))[4]? =some (.int .u64 0):=rfl;have bw:=Zh a9;clear a9 bq;generalize Xl 1 ((c.term+1:Nat):Int) 0 0 0 false (.slice none 0 0) 0 0 (.slice none 0 0)=A at*
      go_wp2_with fail;refine bA.out.mono ?_
      rintro e J ⟨rfl,an⟩;have aR:=Qf (w:=J) (.cells XC 76);go_upto_region 11 with (refine wpList_store_row rfl 76 _ _ rfl _ _ rfl rfl _ _ aR (Qbu ba) (by rw[ba];rfl) bb ?_)
      have Y:=Xr _ _ A aR;have bo:Qa Ze aa ((J.alloc (.cells XC 76)).setRow J.heap.size A):=QL (an.alloc _) (g:=J.heap.size) (fun h=>by have:=an.size;omega) A;have ax:Hid (aa.heap.size<=J.heap.size):=Zh an.size;change Code.wp _ _ _ _ ((J.alloc (.cells XC 76)).setRow J.heap.size A);clear aR an;generalize (J.alloc (.cells XC 76)).setRow J.heap.size A=wJ at*
      generalize J.heap.size=mb at*
      have a7:=Qb Y 3;have a8:=Qb Y 4;rw[a5] at a7;rw[a6] at a8;have aB:=Qg Y 3 none;have aC:=Qg Y 4 none;have E:=Qi (o:=4) (Qi (o:=3) Y (.int .u64 ((lastOf c.bi c.l:Nat):Int))) (.int .u64 ((lastT c.bt c.l:Nat):Int));rw[bw.out] at E;have Z:=(bo.setCell (p:=⟨mb,3,none⟩) (fun h=>by have:=ax.out;simp only at h;omega) (.int .u64 ((lastOf c.bi c.l:Nat):Int))).setCell (p:=⟨mb,4,none⟩) (fun h=>by have:=ax.out;simp only at h;omega) (.int .u64 ((lastT c.bt c.l:Nat):Int));have bE:=Zh E;have ay:=Zh Z;clear E Z Y bo a5 a6 bb;go_upto_region 12 with fail
      have bz:Hid (¬S mb):=Zh (fun aM=>by have cn:=av.out mb aM;have bP:=ax.out;have co:=Ql ar.out;omega);generalize (wJ.setCell ⟨mb,3,none⟩ (.int .u64 ((lastOf c.bi c.l:Nat):Int))).setCell ⟨mb,4,none⟩ (.int .u64 ((lastT c.bt c.l:Nat):Int))=wK at*
      have aF:=ay.out.keep ar.out (fun f=>f);have D:wK.cell? ⟨b,0,none⟩=some (.pointer (some ⟨p,0,none⟩)):=Qb aF 0;have bQ: ¬S b:=fun aM=>by have:=av.out b aM;omega
      have bF:=Zh (aw.out.Qc ay.out);have aX:=Zh (Qon bF.out (fun _=>c.Qaw) b mb (fun d w' S' o' hd hdi ae hS' hu hfw=>QrK ae (hu.keep aF bQ) c.Qaw (hu.keep bE.out bz.out) ⟨rfl,rfl,rfl⟩ d hfw) bd);clear aF a7 a8 aB aC;go_wp2_with fail;refine Calls.mono aX.out ?_
      rintro e cw ⟨rfl,bh⟩;have bD:=Zh bh;clear bh aX;go_wp2_with fail;go_ret;refine⟨by rw[az.out];rfl,?_⟩;rw[(QiT c o hwon).1,(QiT c o hwon).2];exact QB.after (fun i aI=>.inl aI) (a3.out.trans (ay.out.mono (T:=S) (fun _ _ f=>f.elim)) (fun _ _ h=>h)) bD.out
theorem St.Qdi(h:St w S p q c o)(x:Nat):St (w.setCell ⟨q,2,none⟩ (.int .u64 (x:Int))) S p q c {o with frm:=x}/\Qa S w (w.setCell ⟨q,2,none⟩ (.int .u64 (x:Int)))/\(∃v,w.cell? ⟨q,2,none⟩=some v)/\w.frozen? ⟨q,2,none⟩=false:=by
 obtain⟨⟨O,Q,ab,L,Y,D,N,aa⟩,Z⟩:=h;have E:Qa (fun i=>i=q) w (w.setCell ⟨q,2,none⟩ (.int .u64 (x:Int))):=(Zr (fun i=>i=q) w).setCell (p:=⟨q,2,none⟩) (fun _=>rfl) _;refine⟨⟨⟨O,Q,ab,L,Y.upd E (fun i J=>(N i J).2.1),⟨Qi (o:=2) D.row (.int .u64 (x:Int)),D.sends,Q3 D.own E (fun g hg=>(D.sb g hg).2),fun y hy=>(D.at_ y hy).step E (fun g e=>e▸D.sq) (fun _ _ h=>h),?_,D.sq,D.sb,D.few,D.new⟩,N,fun i J=>Zu (aa i J) E.size⟩,Z⟩,E.mono (fun i _ e=>e▸D.sq),⟨_,Qb D.row 2⟩,Qg D.row 2 none⟩;rcases D.base with I|⟨I,g,U,W,M⟩
 ·exact .inl I
 ·exact .inr ⟨I,g,U.upd E (fun e=>M (e▸D.sq)),Zu W E.size,M⟩
theorem QiS(c:Core)(o:Ou):(c.stand o).2.frm =Wa c:=by
 unfold Core.stand Wa
 cases h:c.stood.Kz with
 |true=>rw[if_pos rfl,if_pos rfl]
 |
  false=>
  rw[if_neg (by simp),if_neg (by simp)];exact (KQ _ _ _ _ _).1
theorem Qro(h:St w S p q c o)(aj:w.heap[na]? =some (.cells #[.pointer (some ⟨p,0,none⟩)] 50 (0,0)))(draw:Nat)(ak:w.heap[db]? =some (.cells #[.int .i64 (draw:Int)] 3 (0,0)))(ba:draw<=1000000)
  (ai: ¬S na) (aD: ¬S db) (aB:c.term+1<=20000/\c.last+1<=20000/\c.waits+1<=20000/\c.beats+1<=20000) (aE:o.sends.length<19000):
  Calls Tryz.prog 42 #[.pointer (some ⟨q,0,none⟩),.pointer (some ⟨na,0,none⟩),.pointer (some ⟨db,0,none⟩)] w (fun e w'=>e= .returned (.tuple #[])/\QB S p q (c.tick draw o).1 (c.tick draw o).2 w w'):=by
 obtain⟨aM,aN,ao,aA,be⟩:=h.Z1;have am:=h.fit;have al:=am.elect;have H:=Zh h;have ar:=Zh am;have Y:=Zh ao;have ax:w.cell? ⟨na,0,none⟩=some (.pointer (some ⟨p,0,none⟩)):=Qb aj 0;have ay:w.cell? ⟨db,0,none⟩=some (.int .i64 (draw:Int)):=Qb ak 0;have ap:w.cell? ⟨p,7,none⟩=some (.int .i64 c.role):=Qb ao 7;have aq:=Zh aj;have aO:=Zh ak;have bc: ¬p=na:=fun e=>ai (e▸aA)
 have bd: ¬p=db:=fun e=>aD (e▸aA)
 clear h am aj ak ao;go_enter Tryz.func42,Tryz.ntmps42;by_cases hr:c.role=2
 ·have a2:(c.role:Int)=2:=by omega
  obtain⟨y,W⟩: ∃y,y=c.beats+1:=⟨_,rfl⟩
  have p10:w.cell? ⟨p,10,none⟩=some (.int .i64 c.beats):=Qb Y.out 10;have aY:=Qg Y.out 10 none;rw[hr] at ap;obtain⟨Q,U⟩:=H.out.set (c':={c with beats:=y}) (w':=w.setCell ⟨p,10,none⟩ (.int .i64 ((c.beats:Int)+1))) ((Zr (fun i=>i=p) w).setCell (p:=⟨p,10,none⟩) (fun _=>rfl) _) (fun aM aN hr=>by rw[W];exact Qi (o:=10) hr (.int .i64 ((c.beats:Int)+1))) rfl rfl rfl rfl rfl
   (by obtain⟨Z,aa,ab,ac,ad,ae,af,ag,ah,D⟩:=ar.out;exact⟨Z,aa,ab,ac,ad,ae,af,ag,ah,⟨D.1,D.2.1,D.2.2.1,by show y<=20000;omega,D.2.2.2.2⟩⟩)
  have N:=Zh Q;have M:=Zh U;have J:Hid (c.tick draw o=({c with beats:=y}:Core).tell o):=Zh (by unfold Core.tick;rw[if_pos hr,if_pos (by omega),<-W]);clear Q U;go_upto_region 2 with fail
  generalize w.setCell ⟨p,10,none⟩ (.int .i64 ((c.beats:Int)+1))=w2 at*
  obtain⟨a3,a6,I,_,_⟩:=N.out.Z1;have O:=M.out.keep aq.out ai;have aX:w2.cell? ⟨na,0,none⟩=some (.pointer (some ⟨p,0,none⟩)):=Qb O 0;have bj:w2.cell? ⟨p,10,none⟩=some (.int .i64 (y:Int)):=Qb I 10;have bk:w2.cell? ⟨p,2,none⟩=some (.int .i64 1):=by
   have:=Qb I 2;rw[this];show some (Value.int .i64 (c.beat:Int))=_;rw[al.2];rfl
  have aT:Hid (∀n,Calls Tryz.prog 43 #[.pointer (some ⟨p,0,none⟩)] (w2.drewN n) (QU (.tuple #[]) S p q (({c with beats:=y}:Core).tell o).1 (({c with beats:=y}:Core).tell o).2 (w2.drewN n))):=Zh (fun n=>Qi5 (N.out.Qc ((Zr Ze w2).drewN n)) hr aE);have an:(1:Int)<=y:=by omega
  have bb: ¬(y:Int)<1:=by omega
  clear I O ax ay ap p10 aY;go_quiet (fail);go_wp2_with fail;refine (aT.out _).mono ?_
  rintro e a5 ⟨rfl,aG⟩;have aQ:=Zh aG;clear aG;go_wp2_with fail;refine bodyPost_ret (v:=.tuple #[]) (by simp[results,Tryz.results42]) rfl ⟨rfl,?_⟩;rw[J.out];exact QB.after (fun i E=>.inl E) M.out (QB.Zl ((Zr Ze w2).drewN _) aQ.out)
 ·have a2: ¬(c.role:Int)=2:=by omega
  obtain⟨y,W⟩: ∃y,y=c.waits+1:=⟨_,rfl⟩
  have a4:w.cell? ⟨p,9,none⟩=some (.int .i64 c.waits):=Qb Y.out 9;have aZ:=Qg Y.out 9 none;obtain⟨Q,U⟩:=H.out.set (c':={c with waits:=y}) (w':=w.setCell ⟨p,9,none⟩ (.int .i64 ((c.waits:Int)+1))) ((Zr (fun i=>i=p) w).setCell (p:=⟨p,9,none⟩) (fun _=>rfl) _) (fun aM aN hr=>by rw[W];exact Qi (o:=9) hr (.int .i64 ((c.waits:Int)+1))) rfl rfl rfl rfl rfl
   (by obtain⟨Z,aa,ab,ac,ad,ae,af,ag,ah,D⟩:=ar.out;exact⟨Z,aa,ab,ac,ad,ae,af,ag,ah,⟨D.1,D.2.1,by show y<=20000;omega,D.2.2.2.1,D.2.2.2.2⟩⟩)
  have N:=Zh Q;have M:=Zh U;have J:Hid (c.tick draw o=if 4+draw%4<=y then ({c with waits:=y}:Core).stand o else ({c with waits:=y},o)):=Zh (by unfold Core.tick;rw[if_neg hr,al.1,<-W]);clear Q U;go_upto_region 5 with fail
  generalize w.setCell ⟨p,9,none⟩ (.int .i64 ((c.waits:Int)+1))=w2 at*
  obtain⟨a3,a6,I,_,_⟩:=N.out.Z1;have O:=M.out.keep aq.out ai;have aC:=M.out.keep aO.out aD;have aX:w2.cell? ⟨na,0,none⟩=some (.pointer (some ⟨p,0,none⟩)):=Qb O 0;have a8:w2.cell? ⟨db,0,none⟩=some (.int .i64 (draw:Int)):=Qb aC 0;have bh:w2.cell? ⟨p,1,none⟩=some (.int .i64 4):=by
   have:=Qb I 1;rw[this];show some (Value.int .i64 (c.elect:Int))=_;rw[al.1];rfl
  have bm:w2.cell? ⟨p,9,none⟩=some (.int .i64 (y:Int)):=Qb I 9;clear ax ay ap a4 aZ I O aC;go_quiet (fail);have aH:((draw:Int)%4+4)%4=((draw%4:Nat):Int):=by omega
  rw[aH];have bg:draw%4<4:=by omega
  generalize draw%4=r at*
  clear aH;have au:Hid (∀n,St (w2.drewN n) S p q {c with waits:=y} o):=Zh (fun n=>N.out.Qc ((Zr Ze w2).drewN n));have aw:Hid (∀n,Qa S w (w2.drewN n)):=Zh (fun n=>M.out.drewN n);go_wp2_with fail;by_cases an:4+r<=y
  ·have a0:(4:Int)+(r:Int)<=y:=by omega
   have a1: ¬(y:Int)< (4:Int)+(r:Int):=by omega
   go_quiet (fail);rw[if_pos an] at J;have av:Hid (∀n,Calls Tryz.prog 44 #[.pointer (some ⟨p,0,none⟩)] (w2.drewN n) (fun e w'=>e= .returned (.int .u64 (Wa ({c with waits:=y}:Core):Nat))/\QB S p q (({c with waits:=y}:Core).stand o).1 {(({c with waits:=y}:Core).stand o).2 with frm:=o.frm} (w2.drewN n) w')):=Zh (fun n=>QqG (au.out n) aB.1 aB.2.1 aE);go_wp2_with fail;refine (av.out _).mono ?_
   rintro e a5 ⟨rfl,aW,aI,az,aK⟩;have aF:=QiS ({c with waits:=y}:Core) o;obtain⟨aJ,aL,⟨bn,a7⟩,a9⟩:=aI.Qdi (Wa ({c with waits:=y}:Core));have aS:=Zh aJ;have aV:=Zh aL;have aR:=Zh az;have aU:=Zh aK;have aP:=Zh aF;clear aI aJ aL az aK av aF;generalize Wa ({c with waits:=y}:Core)=sv at*
   go_wp2_with fail;go_end0;refine⟨rfl,?_⟩;rw[J.out];have e1:(({c with waits:=y}:Core).stand o).2={({(({c with waits:=y}:Core).stand o).2 with frm:=o.frm}:Ou) with frm:=sv}:=by
    show (({c with waits:=y}:Core).stand o).2={(({c with waits:=y}:Core).stand o).2 with frm:=sv}
    rw[<-aP.out]
   rw[e1];exact QB.after (fun i E=>.inl E) (aw.out _) (QB.after aR.out aU.out ⟨aW,aS.out,fun i E=>.inl E,aV.out⟩)
  ·have a0: ¬(4:Int)+(r:Int)<=y:=by omega
   have a1:(y:Int)< (4:Int)+(r:Int):=by omega
   go_quiet (fail);rw[if_neg an] at J;go_wp2_with fail;go_end0;refine⟨rfl,?_⟩;rw[J.out];exact⟨S,au.out _,fun i E=>.inl E,aw.out _⟩
end
end Go.Proofs.YtbleblbfadeciaaGreatDoor
