/- For TopKept. -/
import Derived.Test.YtbleblbfadeciaaGreatDoorLc
import Derived.Test.YtbleblbfadeciaaGreatDoorTb
import Derived.Lib.MinMax
import Derived.Test.YtbleblbfadeciaaGreatDoorQf
set_option linter.all false
set_option maxHeartbeats 16000000
set_option maxRecDepth 10000
namespace Go.Proofs.YtbleblbfadeciaaGreatDoor
variable{A:Array Value}{c:Core}{a b bi bl bt cap d frm g i k n na nb p q s t x:Nat}{S:Nat->Prop}{O:Option Addr}{o o':Ou}{mv:Value}{w:World}
section
open Go.RowKit Go.Acre
attribute [local go_sem ↓] LcG ScG
attribute [local go_sem] Sc1 Sc2 Sc3 Lc2 Lc3
def Core.lower(c:Core)(frm v:Nat):Core:={c with next:=c.next.set frm v}
def Core.higher(c:Core)(frm i v:Nat):Core:={c with mtch:=c.mtch.set frm i,next:=c.next.set frm v}
theorem QnA(D:Fit c){v:Nat}(ae:frm<5)(ab:c.role=2->1<=v/\v<=c.last+1):Fit (c.lower frm v):=by
 have af:=D.nl;obtain⟨I,M,N,O,Q,U,W,Y,Z,J⟩:=D;refine⟨I,by simpa [Core.lower] using M,N,fun e j aa=> ?_,Q,U,W,Y,Z,J⟩;obtain⟨ac,ad,E⟩:=O e j aa;show 1<=gd (c.next.set frm v) j/\gd (c.next.set frm v) j<=c.last+1/\gd c.mtch j<=c.last;rw[Ks _ _ _ _ (by omega)];have:=ab e;split
 ·exact⟨this.1,this.2,E⟩
 ·exact⟨ac,ad,E⟩
theorem Qmn(D:Fit c){v:Nat}(af:frm<5)(E:1<=v/\v<=c.last+1)(aa:i<=c.last):Fit (c.higher frm i v):=by
 have ah:=D.nl;have ag:=D.ml;obtain⟨I,M,N,O,Q,U,W,Y,Z,J⟩:=D;refine⟨I,by simpa [Core.higher] using M,by simpa [Core.higher] using N,fun e j ab=> ?_,Q,U,W,Y,Z,J⟩;obtain⟨ac,ad,ae⟩:=O e j ab;show 1<=gd (c.next.set frm v) j/\gd (c.next.set frm v) j<=c.last+1/\gd (c.mtch.set frm i) j<=c.last;rw[Ks _ _ _ _ (by omega),Ks _ _ _ _ (by omega)];split
 ·exact⟨E.1,E.2,aa⟩
 ·exact⟨ac,ad,ae⟩
theorem Qkg(h:St w S p q c o){m:Mg}(aS:XH w S n m A O na mv g)(bR:Qad m)(frm:Nat)(E:frm<5)(aH:frm<c.n)(cG:o.sends.length<19000):
  Calls Tryz.prog 49 #[.pointer (some ⟨p,0,none⟩),.pointer (some ⟨q,0,none⟩),.int .i64 frm,.agg A] w (QU (.tuple #[]) S p q (c.appended frm m o).1 (c.appended frm m o).2 w):=by
 have cD:A.size=58:=by rw[aS.arr];rfl
 have ci:A[2]? =some (.int .u64 m.term):=by rw[aS.arr];rfl
 have aN:A[3]? =some (.int .u64 m.idx):=by rw[aS.arr];rfl
 have a0:A[6]? =some (.bool m.ok):=by rw[aS.arr];rfl
 have cF:=bR.cap;obtain⟨cw,ac,ae,cI,cx,cJ,cy,a4,bN,bS,_⟩:=h.open;have a5:=Zh (bN p a4.sp);have ca:=Zh bS;have H:=Zh h;have af:=Zh h.fit;have cE:=h.fit.cap;have bX:=a4.row;have bx:Hid (∀w',Qa Ze w w'->Calls Tryz.prog 98 #[.pointer (some ⟨p,0,none⟩)] w' (Qk (.int .u64 c.last) w')):=Zh (fun w' ag=>Qbh (a4.Qc ag));clear h aS a4 bN bS bR;go_enter Tryz.func49,Tryz.ntmps49;go_upto_region 1 with fail
 have ag:Qa Ze w (w.alloc (.cells A 76)):=(Zr _ w).alloc _;have bZ:=Qf (w:=w) (.cells A 76);generalize w.alloc (.cells A 76)=w1 at*
 generalize hb:w.heap.size=b at*
 have cf:=Zh bZ;have bC:=Zh ag;have ce:=Zh hb;clear bZ ag hb;go_wp2_with fail;refine (bx.out _ bC.out).mono ?_
 rintro e w2 ⟨rfl,bm⟩;have bk:=bC.out.trans bm (fun _ _ f=>f);have aU:=bm.keep cf.out (fun f=>f);have a3:=bk.keep bX (fun f=>f);have a7:=(Qb aU 2).trans ci;have Y:=(Qb aU 3).trans aN;have U:=(Qb aU 6).trans a0;have b3:w2.cell? ⟨p,3,none⟩=some (.int .u64 c.term):=Qb a3 3;have bv:w2.cell? ⟨p,7,none⟩=some (.int .i64 c.role):=Qb a3 7;have aZ:=Zh bk;have bG:=Zh aU;have bz:=Zh a3;clear bm bk aU a3 bx bX;have a2: ¬S b:=fun ct=>by have:=ca.out b ct;have:=ce.out;omega
 have bU:(m.term≠c.term\/c.role≠2\/(m.ok=true/\c.last<m.idx))->c.appended frm m o=(c,o):=fun bg=>by unfold Core.appended;rw[if_pos bg]
 have al:Hid (∀k,(m.term≠c.term\/c.role≠2\/(m.ok=true/\c.last<m.idx))->QB S p q (c.appended frm m o).1 (c.appended frm m o).2 w (w2.drewN k)):=Zh (fun k bg=>by
  rw[bU bg];exact⟨S,H.out.Qc (aZ.out.drewN k),fun i aD=>.inl aD,(aZ.out.drewN k).mono (fun _ _ f=>f.elim)⟩)
 clear bU;generalize hlast:c.last=L at*
 have ai:=Zh hlast;clear hlast;go_upto_region 2 with fail
 by_cases h1:m.term=c.term
 ·have cm:(m.term:Int)=c.term:=by omega
  rw[cm] at a7;by_cases h2:c.role=2
  ·rw[h2] at bv
   cases hok:m.ok with
   |
    false=>
    rw[hok] at U;have ah:c.appended frm m o=(c.lower frm (max (min (gd c.next frm - 1) (m.idx+1)) (gd c.mtch frm+1)),if m.ok=false\/gd (c.lower frm (max (min (gd c.next frm - 1) (m.idx+1)) (gd c.mtch frm+1))).next frm<=L then o.send frm ((c.lower frm (max (min (gd c.next frm - 1) (m.idx+1)) (gd c.mtch frm+1))).lacks frm) else o):=by
     unfold Core.appended;rw[if_neg (by rintro (D|D|D);exact D h1;exact D h2;rw[hok] at D;cases D.1),if_pos hok];rw[<-ai.out];rfl
    clear al;obtain⟨cu,n2,bu⟩:=af.out.lead h2 frm E;rw[ai.out] at n2 bu;obtain⟨aX,hx1⟩: ∃aX,aX=gd c.next frm - 1:=⟨_,rfl⟩
    rw[<-hx1] at ah;have cH:IntKind.u64.wrap ((gd c.next frm:Int) - 1)=(aX:Int):=by rw[IntWalk.u64_in _ (by omega)];omega
    obtain⟨V,aQ⟩: ∃V,V=max (min aX (m.idx+1)) (gd c.mtch frm+1):=⟨_,rfl⟩
    rw[<-aQ] at ah;have bP:max (min (aX:Int) ((m.idx:Int)+1)) ((gd c.mtch frm:Int)+1)=(V:Int):=by omega
    have bd:1<=V/\V<=L+1:=by omega
    have ax:=Zh ah;clear ah;go_quiet (fail);have cs:w2.drewN nq=w2.drewN nq:=rfl;have aA:=Zh ((Zr Ze w2).drewN nq);have M:=aA.out.keep bz.out (fun f=>f);have W:=aA.out.keep bG.out (fun f=>f);clear cs a7 Y U b3 bv;generalize w2.drewN nq=w3 at*
    have Y:=(Qb W 3).trans aN;have U:=(Qb W 6).trans a0;rw[hok] at U;have aW:=(Qb M (12+frm)).trans (Qak _ _ _ _ E);have aI:=(Qb M (17+frm)).trans (Qbi _ _ _ _ E);have fn:=Qg M (12+frm) none;have cp:(0:Int)<=frm:=by omega
    have cq:(frm:Int)<5:=by omega
    have cr: ¬(5:Int)<=frm:=by omega
    have aY:=Zh M;have bH:=Zh W;have aG:=Zh (aZ.out.trans aA.out (fun _ _ f=>f));clear M W;generalize hy1:gd c.next frm=bw at*
    generalize hy2:gd c.mtch frm=b7 at*
    go_upto_region 4 with fail
    go_cut [62] (fun _ aw=>aw.heap[p]? =some (.cells ((QK c ac ae (QM q)).setIfInBounds (12+frm) (.int .u64 V)) 126 (0,0))/\Qa (fun i=>i=p) w3 aw)
    case first=>
     go_region
     all_goals
      go_wp2_with fail;go_meet
      case rel=>
       have cj:max (min (((bw - 1:Nat):Int)) ((m.idx:Int)+1)) ((b7:Int)+1)=(V:Int):=by omega
       rw[cj];exact⟨Qi (o:=12+frm) aY.out (.int .u64 (V:Int)),(((Zr (fun i=>i=p) w3).setCell (p:=⟨p,12+frm,none⟩) (fun _=>rfl) _)).drew⟩
    case rest=>
     obtain⟨bj,br⟩:=hcut;obtain⟨J,rfl⟩: ∃x,x=wc:=⟨_,rfl⟩
     rw[Qd0 _ _ _ _ E af.out.nl] at bj;have aO:J.cell? ⟨b,6,none⟩=some (.bool false):=Qe br U (fun e=>a2 (e▸a5.out));have aE:=(H.out.Qc aG.out).set (c':=c.lower frm V) br (fun aj ak bh=>by
      have e:=(aY.out).symm.trans bh;simp only[Option.some.injEq,Obj.cells.injEq,and_true] at e;have a8:(QK c ac ae (QM q))[5]? =(QK c aj ak (QM q))[5]? :=by rw[e]
      have e11:(QK c ac ae (QM q))[11]? =(QK c aj ak (QM q))[11]? :=by rw[e]
      have ba:ac=aj:=by
       have:some (Value.pointer (some ⟨ac,0,none⟩))=some (Value.pointer (some ⟨aj,0,none⟩)):=a8
       simpa using this
      have a9:ae=ak:=by
       have:some (Value.map (some ae))=some (Value.map (some ak)):=e11
       simpa using this
      subst ba;subst a9;exact bj) rfl rfl rfl rfl rfl (QnA af.out E (fun _=>by rw[ai.out];exact bd))
     have ao:=Zh aE.1;have av:(c.lower frm V).role =2:=h2;have ar:(c.lower frm V).n =c.n:=rfl;have az:Hid (∀i,S i->S i\/w.heap.size<=i):=Zh (fun i aD=>.inl aD);have aB:Hid (Qa S w J):=Zh ((aG.out.mono (T:=S) (fun _ _ f=>f.elim)).trans aE.2 (fun _ _ h=>h));clear aE br bj Y U aW aI fn;obtain⟨bJ,b0,b8,b1,bK,b2,bM,ab,_⟩:=ao.out.open;have aa:=ab.row;have b4:J.cell? ⟨p,7,none⟩=some (.int .i64 2):=by
      rw[Qb aa 7];show some (Value.int .i64 ((c.lower frm V).role :Int))=_;rw[av];rfl
     have ap:J.cell? ⟨b,6,none⟩=some (.bool false):=aO;have an:=Zh (Qaj ab);have aL:Hid (∀w',Qa Ze J w'->w'.cell? ⟨p,12+frm,none⟩=some (.int .u64 (gd (c.lower frm V).next frm:Nat))):=Zh (fun w' ag=>(Qb (ag.keep aa (fun f=>f)) _).trans (Qak _ _ _ _ E));clear ab aa;go_wp2_with fail;refine an.out.mono ?_
     rintro e ad ⟨v,aq,rfl,N,aR,I⟩;obtain⟨aP,rfl⟩: ∃cap,v= .slice (some ⟨aq,0,none⟩) (c.lower frm V).n cap:=⟨N.choose,N.choose_spec.1⟩
     have aK:Hid (Calls Tryz.prog 91 #[.slice (some ⟨aq,0,none⟩) (c.lower frm V).n aP,.int .i64 frm] ad (Is (.bool true) ad)):=Zh (by
      have:=Qam (QaM N) (frm:Int) (by simp;have:=af.out.n;have:=ar;omega)
      rwa [decide_eq_true (by rw[List.mem_map];exact⟨frm,List.mem_range.2 (by first|exact aH|(rw[ar];exact aH)),rfl⟩)] at this)
     have bL:ad.cell? ⟨b,6,none⟩=some (.bool false):=Qe I ap (fun f=>f);have aV:=aL.out _ I;obtain⟨Q,Z⟩: ∃Q,Q=gd (c.lower frm V).next frm:=⟨_,rfl⟩
     rw[<-Z] at aV;have aF:=Zh Z;clear Z;have ay:=Zh (ao.out.Qc I);have aC:=Zh I;clear N I aR an ap;go_wp2_with fail;refine aK.out.mono ?_
     rintro e b5 ⟨rfl,rfl⟩;have am:=Zh (QcS ay.out av frm E (by omega));go_wp2_with fail;refine am.out.mono ?_
     rintro e b6 ⟨rfl,au⟩;have aM:=Zh au;clear au am;go_wp2_with fail;go_end0;refine⟨rfl,?_⟩;rw[ax.out];rw[if_pos (Or.inl hok)];exact QB.after az.out aB.out (QB.Zl aC.out aM.out)
   |
    true=>
    rw[hok] at U;by_cases h3:m.idx<=L
    ·have co:decide ((L:Int)< (m.idx:Int))=false:=decide_eq_false (by omega)
     clear al;have bT: ¬(m.term≠c.term\/c.role≠2\/(m.ok=true/\c.last<m.idx)):=by
      rintro (D|D|D)
      ·exact D h1
      ·exact D h2
      ·rw[ai.out] at D
       omega
     obtain⟨cu,n2,bu⟩:=af.out.lead h2 frm E;rw[ai.out] at n2 bu;go_quiet (fail);have aA:=Zh ((Zr Ze w2).drewN nq);have M:=aA.out.keep bz.out (fun f=>f);have W:=aA.out.keep bG.out (fun f=>f);clear a7 Y U b3 bv;generalize w2.drewN nq=w3 at*
     have Y:=(Qb W 3).trans aN;have U:=(Qb W 6).trans a0;rw[hok] at U;have aI:=(Qb M (17+frm)).trans (Qbi _ _ _ _ E);have a1:=Qg M (17+frm) none;have cp:(0:Int)<=frm:=by omega
     have cq:(frm:Int)<5:=by omega
     have cr: ¬(5:Int)<=frm:=by omega
     have aY:=Zh M;have bH:=Zh W;have aG:=Zh (aZ.out.trans aA.out (fun _ _ f=>f));clear M W;by_cases h4:gd c.mtch frm<m.idx
     ·have bc:decide (((gd c.mtch frm:Nat):Int)< (m.idx:Int))=true:=decide_eq_true (by omega)
      obtain⟨V,aQ⟩: ∃V,V=max (gd c.next frm) (m.idx+1):=⟨_,rfl⟩
      have ah:c.appended frm m o=((c.higher frm m.idx V).settle,if m.ok=false\/gd (c.higher frm m.idx V).settle.next frm<=L then o.send frm ((c.higher frm m.idx V).settle.lacks frm) else o):=by
       unfold Core.appended;rw[if_neg bT,if_neg (by rw[hok];simp),if_pos h4,ai.out,aQ];rfl
      have ax:=Zh ah;have bd:1<=V/\V<=L+1:=by omega
      have bQ:=Qmn (i:=m.idx) af.out E (by rw[ai.out];exact bd) (by rw[ai.out];exact h3);have b9:=Zh bQ;clear ah bQ;go_upto_region 5 with fail
      go_quiet (fail);have a6:=Zh ((Zr Ze w3).drewN nq);have M:=a6.out.keep aY.out (fun f=>f);have W:=a6.out.keep bH.out (fun f=>f);clear Y U aI a1;generalize w3.drewN nq=w4 at*
      have Y:=(Qb W 3).trans aN;have aI:=(Qb M (17+frm)).trans (Qbi _ _ _ _ E);have a1:=Qg M (17+frm) none;have bA:=Zh M;have bI:=Zh W;have bD:=Zh (aG.out.trans a6.out (fun _ _ f=>f));clear M W bc;generalize hy2:gd c.mtch frm=b7 at*
      go_upto_region 6 with fail
      go_cut [78] (fun _ aw=>aw.heap[p]? =some (.cells ((QK c ac ae (QM q)).setIfInBounds (17+frm) (.int .u64 m.idx)) 126 (0,0))/\Qa (fun i=>i=p) w4 aw)
      case first=>
       go_region
       all_goals
        go_wp2_with fail;go_meet
        case rel=>exact⟨Qi (o:=17+frm) bA.out (.int .u64 (m.idx:Int)),(((Zr (fun i=>i=p) w4).setCell (p:=⟨p,17+frm,none⟩) (fun _=>rfl) _)).drew⟩
      case rest=>
       obtain⟨bV,bo⟩:=hcut;obtain⟨w5,rfl⟩: ∃x,x=wc:=⟨_,rfl⟩
       have bs:=bo.keep bI.out (fun e=>a2 (e▸a5.out));clear Y aI a1;have aT:=bV;rw[QdZ _ _ _ _ E af.out.ml] at aT;have Y:=(Qb bs 3).trans aN;have aW:=(Qb aT (12+frm)).trans (Qak _ _ _ _ E);have aW:w5.cell? ⟨p,12+frm,none⟩=some (.int .u64 (gd c.next frm:Nat)):=aW;have fn:=Qg aT (12+frm) none;have cb:=Zh aT;have bE:=Zh bo;have cv:=Zh bs;clear bV aT bo bs;generalize hy1:gd c.next frm=bw at*
       have bP:max (bw:Int) ((m.idx:Int)+1)=(V:Int):=by omega
       go_upto_region 7 with fail
       go_cut [93] (fun _ aw=>aw.heap[p]? =some (.cells (QK (c.higher frm m.idx V) ac ae (QM q)) 126 (0,0))/\Qa (fun i=>i=p) w4 aw)
       case first=>
        go_region
        all_goals
         go_wp2_with fail;go_meet
         case rel=>
          have bb:=Qi (o:=12+frm) cb.out (.int .u64 (V:Int));rw[Qd0 _ _ _ _ E (by exact af.out.nl)] at bb
          first
           |exact⟨bb,(bE.out.setCell (p:=⟨p,12+frm,none⟩) (fun _=>rfl) _).drew⟩
           |(rw[<-aQ];exact⟨bb,(bE.out.setCell (p:=⟨p,12+frm,none⟩) (fun _=>rfl) _).drew⟩)
       case rest=>
        obtain⟨bW,bp⟩:=hcut;obtain⟨w6,rfl⟩: ∃x,x=wc:=⟨_,rfl⟩
        have aE:=(H.out.Qc bD.out).set (c':=c.higher frm m.idx V) bp (fun aj ak bh=>by
         have e:=(bA.out).symm.trans bh;simp only[Option.some.injEq,Obj.cells.injEq,and_true] at e;have a8:(QK c ac ae (QM q))[5]? =(QK c aj ak (QM q))[5]? :=by rw[e]
         have e11:(QK c ac ae (QM q))[11]? =(QK c aj ak (QM q))[11]? :=by rw[e]
         have ba:ac=aj:=by
          have:some (Value.pointer (some ⟨ac,0,none⟩))=some (Value.pointer (some ⟨aj,0,none⟩)):=a8
          simpa using this
         have a9:ae=ak:=by
          have:some (Value.map (some ae))=some (Value.map (some ak)):=e11
          simpa using this
         subst ba;subst a9;exact bW) rfl rfl rfl rfl rfl b9.out
        have bB:=Zh (QiH aE.1 h2);have bF:Hid (Qa S w w6):=Zh ((bD.out.mono (T:=S) (fun _ _ f=>f.elim)).trans aE.2 (fun _ _ h=>h));have cg:=Zh (bp.keep bI.out (fun e=>a2 (e▸a5.out)));clear aE bW bp Y aW fn;go_upto_region 8 with fail
        go_wp2_with fail;refine Calls.mono bB.out ?_
        rintro e J ⟨rfl,ch,bY,bO,bq⟩;have aO:J.cell? ⟨b,6,none⟩=some (.bool true):=((Qb (bq.keep cg.out a2) 6).trans a0).trans (by rw[hok]);have ao:=Zh bY;have az:Hid (∀i,ch i->S i\/w.heap.size<=i):=Zh (fun i aD=>(bO i aD).imp id (Zt bF.out.size));have aB:Hid (Qa S w J):=Zh (bF.out.trans bq (fun _ _ h=>h));have av:(c.higher frm m.idx V).settle.role =2:=h2;have ar:(c.higher frm m.idx V).settle.n =c.n:=rfl;clear bY bO bq bB aQ bP;obtain⟨bJ,b0,b8,b1,bK,b2,bM,ab,_⟩:=ao.out.open;have aa:=ab.row;have b4:J.cell? ⟨p,7,none⟩=some (.int .i64 2):=by
         rw[Qb aa 7];show some (Value.int .i64 (((c.higher frm m.idx V).settle).role :Int))=_;rw[av];rfl
        have ap:J.cell? ⟨b,6,none⟩=some (.bool true):=aO;have an:=Zh (Qaj ab);have aL:Hid (∀w',Qa Ze J w'->w'.cell? ⟨p,12+frm,none⟩=some (.int .u64 (gd ((c.higher frm m.idx V).settle).next frm:Nat))):=Zh (fun w' ag=>(Qb (ag.keep aa (fun f=>f)) _).trans (Qak _ _ _ _ E));clear ab aa;go_wp2_with fail;refine an.out.mono ?_
        rintro e ad ⟨v,aq,rfl,N,aR,I⟩;obtain⟨aP,rfl⟩: ∃cap,v= .slice (some ⟨aq,0,none⟩) ((c.higher frm m.idx V).settle).n cap:=⟨N.choose,N.choose_spec.1⟩
        have aK:Hid (Calls Tryz.prog 91 #[.slice (some ⟨aq,0,none⟩) ((c.higher frm m.idx V).settle).n aP,.int .i64 frm] ad (Is (.bool true) ad)):=Zh (by
         have:=Qam (QaM N) (frm:Int) (by simp;have:=af.out.n;have:=ar;omega)
         rwa [decide_eq_true (by rw[List.mem_map];exact⟨frm,List.mem_range.2 (by first|exact aH|(rw[ar];exact aH)),rfl⟩)] at this)
        have bL:ad.cell? ⟨b,6,none⟩=some (.bool true):=Qe I ap (fun f=>f);have aV:=aL.out _ I;obtain⟨Q,Z⟩: ∃Q,Q=gd ((c.higher frm m.idx V).settle).next frm:=⟨_,rfl⟩
        rw[<-Z] at aV;have aF:=Zh Z;clear Z;have ay:=Zh (ao.out.Qc I);have aC:=Zh I;clear N I aR an ap;go_wp2_with fail;refine aK.out.mono ?_
        rintro e b5 ⟨rfl,rfl⟩;by_cases hle:Q<=L
        ·have be:decide ((Q:Int)<=L)=true:=decide_eq_true (by omega)
         have am:=Zh (QcS ay.out av frm E (by omega));go_wp2_with fail;refine am.out.mono ?_
         rintro e b6 ⟨rfl,au⟩;have aM:=Zh au;clear au am;go_wp2_with fail;go_end0;refine⟨rfl,?_⟩;rw[ax.out];rw[if_pos (Or.inr (by rw[<-aF.out];exact hle))];exact QB.after az.out aB.out (QB.Zl aC.out aM.out)
        ·have be:decide ((Q:Int)<=L)=false:=decide_eq_false (by omega)
         go_wp2_with fail;go_end0;refine⟨rfl,?_⟩;rw[ax.out];rw[if_neg (by rintro (D|D);rw[hok] at D;cases D;rw[<-aF.out] at D;exact hle D)];exact QB.after az.out aB.out (QB.Zl aC.out (QB.refl ay.out))
     ·have bc:decide (((gd c.mtch frm:Nat):Int)< (m.idx:Int))=false:=decide_eq_false (by omega)
      have ah:c.appended frm m o=(c,if m.ok=false\/gd c.next frm<=L then o.send frm (c.lacks frm) else o):=by
       unfold Core.appended;rw[if_neg bT,if_neg (by rw[hok];simp),if_neg h4,ai.out]
      have ax:=Zh ah;clear ah;go_upto_region 5 with fail
      go_quiet (fail);have bn:=(Zr Ze w3).drewN nq;have aO:(w3.drewN nq).cell? ⟨b,6,none⟩=some (.bool true):=U;generalize w3.drewN nq=J at*
      have ao:=Zh (H.out.Qc (aG.out.trans bn (fun _ _ f=>f)));have av:c.role=2:=h2;have ar:c.n=c.n:=rfl;have az:Hid (∀i,S i->S i\/w.heap.size<=i):=Zh (fun i aD=>.inl aD);have aB:Hid (Qa S w J):=Zh ((aG.out.trans bn (fun _ _ f=>f)).mono (T:=S) (fun _ _ f=>f.elim));clear bn Y U aI a1 bc;obtain⟨bJ,b0,b8,b1,bK,b2,bM,ab,_⟩:=ao.out.open;have aa:=ab.row;have b4:J.cell? ⟨p,7,none⟩=some (.int .i64 2):=by
       rw[Qb aa 7];show some (Value.int .i64 ((c).role :Int))=_;rw[av];rfl
      have ap:J.cell? ⟨b,6,none⟩=some (.bool true):=aO;have an:=Zh (Qaj ab);have aL:Hid (∀w',Qa Ze J w'->w'.cell? ⟨p,12+frm,none⟩=some (.int .u64 (gd (c).next frm:Nat))):=Zh (fun w' ag=>(Qb (ag.keep aa (fun f=>f)) _).trans (Qak _ _ _ _ E));clear ab aa;go_wp2_with fail;refine an.out.mono ?_
      rintro e ad ⟨v,aq,rfl,N,aR,I⟩;obtain⟨aP,rfl⟩: ∃cap,v= .slice (some ⟨aq,0,none⟩) (c).n cap:=⟨N.choose,N.choose_spec.1⟩
      have aK:Hid (Calls Tryz.prog 91 #[.slice (some ⟨aq,0,none⟩) (c).n aP,.int .i64 frm] ad (Is (.bool true) ad)):=Zh (by
       have:=Qam (QaM N) (frm:Int) (by simp;have:=af.out.n;have:=ar;omega)
       rwa [decide_eq_true (by rw[List.mem_map];exact⟨frm,List.mem_range.2 (by first|exact aH|(rw[ar];exact aH)),rfl⟩)] at this)
      have bL:ad.cell? ⟨b,6,none⟩=some (.bool true):=Qe I ap (fun f=>f);have aV:=aL.out _ I;obtain⟨Q,Z⟩: ∃Q,Q=gd (c).next frm:=⟨_,rfl⟩
      rw[<-Z] at aV;have aF:=Zh Z;clear Z;have ay:=Zh (ao.out.Qc I);have aC:=Zh I;clear N I aR an ap;go_wp2_with fail;refine aK.out.mono ?_
      rintro e b5 ⟨rfl,rfl⟩;by_cases hle:Q<=L
      ·have be:decide ((Q:Int)<=L)=true:=decide_eq_true (by omega)
       have am:=Zh (QcS ay.out av frm E (by omega));go_wp2_with fail;refine am.out.mono ?_
       rintro e b6 ⟨rfl,au⟩;have aM:=Zh au;clear au am;go_wp2_with fail;go_end0;refine⟨rfl,?_⟩;rw[ax.out];rw[if_pos (Or.inr (by rw[<-aF.out];exact hle))];exact QB.after az.out aB.out (QB.Zl aC.out aM.out)
      ·have be:decide ((Q:Int)<=L)=false:=decide_eq_false (by omega)
       go_wp2_with fail;go_end0;refine⟨rfl,?_⟩;rw[ax.out];rw[if_neg (by rintro (D|D);rw[hok] at D;cases D;rw[<-aF.out] at D;exact hle D)];exact QB.after az.out aB.out (QB.Zl aC.out (QB.refl ay.out))
    ·have aJ:=Zh (fun k=>al.out k (.inr (.inr ⟨hok,by omega⟩)))
     have co:decide ((L:Int)< (m.idx:Int))=true:=decide_eq_true (by omega);clear al;go_quiet (fail);go_wp2_with fail;exact bodyPost_ret (v:=.tuple #[]) (by simp[results,Tryz.results49]) rfl ⟨rfl,aJ.out _⟩
  ·have aJ:=Zh (fun k=>al.out k (.inr (.inl h2)))
   have cB:decide ((c.role:Int)=2)=false:=decide_eq_false (by omega);have cn:((c.role:Int)==2)=false:=beq_eq_false_iff_ne.2 (by omega);have cC:((c.role:Int) != 2)=true:=by rw[bne,cn];rfl
   clear al;go_quiet (fail);go_wp2_with fail;exact bodyPost_ret (v:=.tuple #[]) (by simp[results,Tryz.results49]) rfl ⟨rfl,aJ.out _⟩
 ·have aJ:=Zh (fun k=>al.out k (.inl h1))
  have cz:decide ((m.term:Int)=c.term)=false:=decide_eq_false (by omega);have cl:((m.term:Int)==(c.term:Int))=false:=beq_eq_false_iff_ne.2 (by omega);have cA:((m.term:Int) != (c.term:Int))=true:=by rw[bne,cl];rfl
  clear al;go_quiet (fail);go_wp2_with fail;exact bodyPost_ret (v:=.tuple #[]) (by simp[results,Tryz.results49]) rfl ⟨rfl,aJ.out _⟩
theorem St.Qqe(h:St w S p q c o)(Z:QD w (.slice (some ⟨g,0,none⟩) c.n cap) c.n g)(I: ¬S g)(U:g<w.heap.size)(W:q<=g):
  St ((((w.setCell ⟨q,4,none⟩ (.bool true)).setCell ⟨q,5,none⟩ (.int .u64 (bi:Int))).setCell ⟨q,6,none⟩ (.int .u64 (bt:Int))).setCell ⟨q,7,none⟩ (.slice (some ⟨g,0,none⟩) c.n cap)) S p q c {o with rest:=some (bi,bt)}/\
  Qa S w ((((w.setCell ⟨q,4,none⟩ (.bool true)).setCell ⟨q,5,none⟩ (.int .u64 (bi:Int))).setCell ⟨q,6,none⟩ (.int .u64 (bt:Int))).setCell ⟨q,7,none⟩ (.slice (some ⟨g,0,none⟩) c.n cap)):=by
 obtain⟨⟨N,ac,ab,L,O,D,M,Y⟩,Q⟩:=h;have E:Qa (fun i=>i=q) w ((((w.setCell ⟨q,4,none⟩ (.bool true)).setCell ⟨q,5,none⟩ (.int .u64 (bi:Int))).setCell ⟨q,6,none⟩ (.int .u64 (bt:Int))).setCell ⟨q,7,none⟩ (.slice (some ⟨g,0,none⟩) c.n cap)):=((((Zr (fun i=>i=q) w).setCell (p:=⟨q,4,none⟩) (fun _=>rfl) _).setCell (p:=⟨q,5,none⟩) (fun _=>rfl) _).setCell (p:=⟨q,6,none⟩) (fun _=>rfl) _).setCell (p:=⟨q,7,none⟩) (fun _=>rfl) _;have aa:=Qi (o:=7) (Qi (o:=6) (Qi (o:=5) (Qi (o:=4) D.row (.bool true)) (.int .u64 (bi:Int))) (.int .u64 (bt:Int))) (.slice (some ⟨g,0,none⟩) c.n cap);refine⟨⟨⟨N,.slice (some ⟨g,0,none⟩) c.n cap,ab,L,O.upd E (fun i J=>(M i J).2.1),⟨aa,D.sends,Q3 D.own E (fun g I=>(D.sb g I).2),fun y hy=>(D.at_ y hy).step E (fun g e=>e▸D.sq) (fun _ _ h=>h),?_,D.sq,D.sb,D.few,⟨D.new.1,D.new.2.1,fun k hk=>by cases hk;exact W⟩⟩,M,fun i J=>Zu (Y i J) E.size⟩,Q⟩,E.mono (fun i _ e=>e▸D.sq)⟩;exact .inr ⟨by simp,g,Z.upd E (fun e=>I (e▸D.sq)),Zu U E.size,I⟩
theorem St.Qoo(h:St w S p q c o): ∃D I,w.heap[q]? =some (.cells (outA o D I) 57 (0,0))/\S q/\ ∃a n cap,D= .slice a n cap:=by
 obtain⟨⟨J,D,I,L,O,E,N,U⟩,Q⟩:=h;refine⟨D,I,E.row,E.sq,?_⟩;rcases E.base with ⟨_,h⟩|⟨_,g,⟨M,h,_⟩,_⟩
 ·exact⟨_,_,_,h⟩
 ·exact⟨_,_,_,h⟩
def Core.XR(c:Core)(frm:Nat):Core:={c with role:=0,known:=frm,waits:=0}
theorem QhA(U:Fit c)(frm:Nat):Fit (c.XR frm):=by
 obtain⟨E,I,J,W,Y,M,N,O,Q,D⟩:=U;exact⟨E,I,J,fun e=>(by cases e),Zz 2,M,N,O,Q,⟨D.1,D.2.1,by show 0<=20000;omega,D.2.2.2.1,D.2.2.2.2⟩⟩
def Core.QaC(c:Core)(bi bt:Nat):Core:={c with bi:=bi,bt:=bt,l:=Q1 c.bi c.bt c.l bi bt,commit:=bi}
theorem Qnt(h:St w S p q c o){m:Mg}(D:XH w S c.n m A O na mv g)(ay:Qad m)(ad:m.kind=5)(frm:Nat)(cA:frm<5)
  (aS:c.commit<m.bi->Fit ((c.XR frm).QaC m.bi m.bt)) (cD:o.sends.length<19000):
  Calls Tryz.prog 50 #[.pointer (some ⟨p,0,none⟩),.pointer (some ⟨q,0,none⟩),.int .i64 frm,.agg A] w (QU (.tuple #[]) S p q (c.led frm m o).1 (c.led frm m o).2 w):=by
 obtain⟨b5,b8,b6,aX⟩:=D.QcZ;have cB:A.size=58:=by rw[D.arr];rfl
 have bx:A[0]? =some (.int .i64 5):=by rw[D.arr,ad];rfl
 have bA:A[2]? =some (.int .u64 m.term):=by rw[D.arr];rfl
 have au:A[8]? =some (.int .u64 m.bi):=by rw[D.arr];rfl
 have bB:A[9]? =some (.int .u64 m.bt):=by rw[D.arr];rfl
 have bz:A[10]? =some mv:=by rw[D.arr];rfl
 obtain⟨cG,cU,a5,bW,cE⟩:=h.Z1;have bd:Hid (∀i,S i->i<w.heap.size):=Zh (h.open.choose_spec.choose_spec.choose_spec.choose_spec.choose_spec.choose_spec.choose_spec.2.2.1);have H:=Zh h;have aM:=Zh h.fit;have bg:=Zh D;have bc:=Zh aS;obtain⟨cM,cN,cj,cO⟩:=ay.snap ad;obtain⟨cR,cT⟩:=ay.term;clear h D ay aS;go_enter Tryz.func50,Tryz.ntmps50;go_upto_region 1 with fail
 have aC:Qa Ze w (w.alloc (.cells A 76)):=(Zr _ w).alloc _;have aJ:=Qf (w:=w) (.cells A 76);have az:=aC.keep a5 (fun f=>f);generalize w.alloc (.cells A 76)=w1 at*
 generalize hb:w.heap.size=b at*
 have cq:=Zh hb;have bE:=(Qb aJ 2).trans bA;have ca:w1.cell? ⟨p,3,none⟩=some (.int .u64 c.term):=Qb az 3;have ap:=Zh aC;have bs:=Zh aJ;have bm:=Zh az;have ax: ¬S b:=fun ae=>by have:=bd.out b ae;omega
 clear aJ aC az hb a5;by_cases h1:m.term<c.term
 ·have bT:decide ((m.term:Int)< (c.term:Int))=true:=decide_eq_true (by omega)
  have Z:Hid (∀k,Calls Tryz.prog 97 #[.pointer (some ⟨p,0,none⟩),.int .i64 frm,.int .i64 4,.bool false,.int .u64 0] (w1.drewN k) (QU (.tuple #[]) S p q c (c.Zk frm 4 false 0 o) (w1.drewN k))):=Zh (fun k=>Qaq (H.out.Qc (ap.out.drewN k)) frm 4 0 false (by omega));have M:Hid (c.led frm m o=(c,c.Zk frm 4 false 0 o)):=Zh (by unfold Core.led;rw[if_pos h1]);go_quiet (fail);go_wp2_with fail;refine (Z.out _).mono ?_
  rintro e I ⟨rfl,aZ⟩;have bh:=Zh aZ;clear aZ;go_wp2_with fail;refine bodyPost_ret (v:=.tuple #[]) (by simp[results,Tryz.results50]) rfl ⟨rfl,?_⟩;rw[M.out];exact QB.Zl (ap.out.drewN _) bh.out
 ·have bT:decide ((m.term:Int)< (c.term:Int))=false:=decide_eq_false (by omega)
  go_quiet (fail);have a2:=ap.out.drewN nq;have ba:=((Zr Ze w1).drewN nq).keep bs.out (fun f=>f);have aA:=((Zr Ze w1).drewN nq).keep bm.out (fun f=>f);clear bE ca;generalize w1.drewN nq=w2 at*
  have ag:=Zh a2;have bu:=Zh ba;have Y:=Zh aA;have bb:w2.cell? ⟨p,7,none⟩=some (.int .i64 c.role):=Qb aA 7;clear a2 ba aA;by_cases h2:c.role=2
  ·rw[h2] at bb
   have M:Hid (c.led frm m o=(c,o)):=Zh (by unfold Core.led;rw[if_neg h1,if_pos h2]);go_wp2_with fail;refine bodyPost_ret (v:=.tuple #[]) (by simp[results,Tryz.results50]) rfl ⟨rfl,?_⟩;rw[M.out];exact QB.Zl ag.out (QB.refl (H.out.Qc ag.out))
  ·have cz: ¬(c.role:Int)=2:=by omega
   have ce:w2.cell? ⟨p,8,none⟩=some (.int .i64 c.known):=Qb Y.out 8;have cf:w2.cell? ⟨p,9,none⟩=some (.int .i64 c.waits):=Qb Y.out 9;have bL:=Qg Y.out 7 none;have bM:=Qg Y.out 8 none;have bN:=Qg Y.out 9 none;have aG:Qa (fun i=>i=p) w2 (((w2.setCell ⟨p,7,none⟩ (.int .i64 0)).setCell ⟨p,8,none⟩ (.int .i64 (frm:Int))).setCell ⟨p,9,none⟩ (.int .i64 0)):=((((Zr (fun i=>i=p) w2).setCell (p:=⟨p,7,none⟩) (fun _=>rfl) _)).setCell (p:=⟨p,8,none⟩) (fun _=>rfl) _).setCell (p:=⟨p,9,none⟩) (fun _=>rfl) _;have aB:=(H.out.Qc ag.out).set (c':=c.XR frm) aG (fun J cn b3=>Qi (o:=9) (Qi (o:=8) (Qi (o:=7) b3 (.int .i64 0)) (.int .i64 (frm:Int))) (.int .i64 0)) rfl rfl rfl rfl rfl (QhA aM.out frm);have an:=Zh aB.1;have ar:=Zh (aG.keep bu.out (fun e=>ax (e▸bW)));have aP:Hid (Qa S w (((w2.setCell ⟨p,7,none⟩ (.int .i64 0)).setCell ⟨p,8,none⟩ (.int .i64 (frm:Int))).setCell ⟨p,9,none⟩ (.int .i64 0))):=Zh ((ag.out.mono (T:=S) (fun _ _ f=>f.elim)).trans aB.2 (fun _ _ h=>h));clear aB aG;go_upto_region 5 with fail
   generalize ((w2.setCell ⟨p,7,none⟩ (.int .i64 0)).setCell ⟨p,8,none⟩ (.int .i64 (frm:Int))).setCell ⟨p,9,none⟩ (.int .i64 0)=I at*
   have bC:=(Qb ar.out 0).trans bx;have av:=(Qb ar.out 8).trans au;obtain⟨cH,cV,a3,_,_⟩:=an.out.Z1;have am:I.cell? ⟨p,6,none⟩=some (.int .u64 c.commit):=Qb a3 6;clear bb ce cf bL bM bN;go_upto_region 6 with fail
   by_cases h6:c.commit<m.bi
   ·have bU:decide ((c.commit:Int)< (m.bi:Int))=true:=decide_eq_true (by omega)
    have bX:c.bi<=m.bi:=by have:=aM.out.bi;omega
    have M:Hid (c.led frm m o=((c.XR frm).QaC m.bi m.bt,((c.XR frm).QaC m.bi m.bt).Zk frm 4 true m.bi {o with rest:=some (m.bi,m.bt)})):=Zh (by
     unfold Core.led;rw[if_neg h1,if_neg h2,if_pos ad,if_pos h6];rfl)
    go_quiet (fail);have aF:=(Zr Ze I).drewN nq;have bo:=Zh (an.out.Qc aF);have aa:=Zh (aF.keep ar.out (fun f=>f));have aq:Hid (Qa S w (I.drewN nq)):=Zh (aP.out.drewN nq);clear bC av am a3 aF;generalize I.drewN nq=w4 at*
    obtain⟨⟨ab,cu,cP,cs,bZ,aY,aw,aU⟩,cC⟩:=bo.out;obtain⟨J,cn,cJ,aQ,cK,cx,Q⟩:=bZ;have aW:QD w4 mv c.n g/\ ¬S g:=by
     rcases (bg.out.upd aq.out (fun k _ h=>h)).mem with ⟨_,h,bS⟩|⟨h,_⟩
     ·exact⟨h,bS⟩
     ·exact absurd ad h
    have b2:g≠J:=fun e=>aW.2 (e▸(aw J (Q.sl J Q.log.sp).1).1)
    have ak:=(Zr Ze w4).drew;have aN:Hid (Calls Tryz.prog 100 #[.pointer (some ⟨J,0,none⟩),.agg #[.int .u64 m.bi,.int .u64 m.bt,.slice b5 b8 b6]] w4.drew (Qae (.int .i64 0) aQ J c.n m.bi m.bt (Q1 c.bi c.bt c.l m.bi m.bt) w4.drew)):=Zh (by
     have:=QpR (Q.Qc ak).log (aW.1.upd ak (fun f=>f)) b2 bX cj ⟨by omega,by omega⟩;rw[aX] at this;exact this)
    have cb:w4.cell? ⟨p,5,none⟩=some (.pointer (some ⟨J,0,none⟩)):=Q.c5;have av:=(Qb aa.out 8).trans au;have bF:=(Qb aa.out 9).trans bB;have bD:=((Qb aa.out 10).trans bz).trans (by rw[aX]);go_upto_region 7 with fail
    go_cut [27,60] (fun _ _ cm=> ∃e,Qae (.int .i64 0) aQ J c.n m.bi m.bt (Q1 c.bi c.bt c.l m.bi m.bt) w4.drew e cm)
    case first=>
     go_region_with (go_at_call 100;refine aN.out.mono ?_;rintro e w5 ⟨rfl,ah⟩)
     all_goals
      go_wp2_with fail;go_meet
      case rel=>exact⟨_,rfl,ah⟩
    case rest=>
     obtain⟨cw,ah⟩:=hcut;obtain⟨w5,rfl⟩: ∃x,x=wc:=⟨_,rfl⟩
     obtain⟨_,ct,b0,a6,aD⟩:=(Q.Qc ak).QeW (c':={c.XR frm with bi:=m.bi,bt:=m.bt,l:=Q1 c.bi c.bt c.l m.bi m.bt}) ah (fun _ _=>rfl) rfl;obtain⟨aK,co,b7,bw,b9,bK,aI⟩:=b0;have ai:=aI.row;have am:w5.cell? ⟨p,6,none⟩=some (.int .u64 c.commit):=Qb ai 6;have cy:=Qg ai 6 none;have bY: ¬ab b:=fun ae=>ax (aw b ae).1
     have a8:=aD.keep (show w4.drew.heap[b]? =_ from aa.out) bY;have av:=(Qb a8 8).trans au;have aH:Qa (fun i=>i=p) w5 (w5.setCell ⟨p,6,none⟩ (.int .u64 (m.bi:Int))):=(Zr (fun i=>i=p) w5).setCell (p:=⟨p,6,none⟩) (fun _=>rfl) _;have af:=aI.cells (c':=(c.XR frm).QaC m.bi m.bt) (sv':=QM q) aH (Qi (o:=6) ai (.int .u64 (m.bi:Int))) rfl rfl rfl rfl rfl;have bV:ab p:=Q.sp;have a7:Qa ab w4 (w5.setCell ⟨p,6,none⟩ (.int .u64 (m.bi:Int))):=((ak.mono (T:=ab) (fun _ _ f=>f.elim)).trans aD (fun _ _ h=>h)).trans (aH.mono (T:=ab) (fun i _ e=>e▸bV)) (fun _ _ h=>h);have W:=St.core aY aw aU ⟨aK,co,b7,bw,b9,bK,af⟩ (fun i N=>a6 i N) a7 rfl (bc.out h6);obtain⟨bv,W,aR,aE⟩:=W;have a9:=aE.keep aa.out ax;have b4:=af.row;have ao:=Zh W;have bn:=Zh aR;have bp:=Zh (aq.out.trans aE (fun _ _ h=>h));have cr:=Zh a9;have aL:Hid (Calls Tryz.prog 52 #[.pointer (some ⟨aK,0,none⟩)] (w5.setCell ⟨p,6,none⟩ (.int .u64 (m.bi:Int))) (KV m.bi m.bt c.n (w5.setCell ⟨p,6,none⟩ (.int .u64 (m.bi:Int))))):=Zh (QdT af.log);have p56:(w5.setCell ⟨p,6,none⟩ (.int .u64 (m.bi:Int))).cell? ⟨p,5,none⟩=some (.pointer (some ⟨aK,0,none⟩)):=af.c5;have aV: ∀i,bv i->i< (w5.setCell ⟨p,6,none⟩ (.int .u64 (m.bi:Int))).heap.size :=W.open.choose_spec.choose_spec.choose_spec.choose_spec.choose_spec.choose_spec.choose_spec.2.2.1;have be:=Zh aV;have cp:=Zh W.Z1.choose_spec.choose_spec.2.1;clear W aR aE a9 af b4 aI ai aD a6 ah aY Q a8 aV aH a7 aN bF bD cb aU;go_upto_region 9 with fail
     generalize w5.setCell ⟨p,6,none⟩ (.int .u64 (m.bi:Int))=w6 at*
     go_wp2_with fail;refine aL.out.mono ?_
     rintro e w7 ⟨cl,ac,rfl,U,b1,al⟩;obtain⟨bJ,rfl⟩: ∃cap,cl= .slice (some ⟨ac,0,none⟩) c.n cap:=⟨U.choose,U.choose_spec.1⟩
     obtain⟨cv,cQ,E,cF,bG,bI,bH,rfl⟩:=(ao.out.Qc al).Qoo;have cg:w7.cell? ⟨q,4,none⟩=some (.bool o.rest.isSome):=Qb E 4;have ch:w7.cell? ⟨q,5,none⟩=some (.int .u64 ((QE o).1:Int)):=Qb E 5;have ci:w7.cell? ⟨q,6,none⟩=some (.int .u64 ((QE o).2:Int)):=Qb E 6;have q7:w7.cell? ⟨q,7,none⟩=some (.slice bG bI bH):=Qb E 7;have bO:=Qg E 4 none;have bP:=Qg E 5 none;have bQ:=Qg E 6 none;have bR:=Qg E 7 none;have aT:ac<w7.heap.size:=World.block_lt_of_cell? w7 ⟨ac,0,none⟩ (U.choose_spec.2.2.2.2.2 0 (by have:=U.choose_spec.2.1;omega));have aj:=(ao.out.Qc al).Qqe (bi:=m.bi) (bt:=m.bt) U (fun ae=>by have:=be.out ac ae;omega) aT (by obtain⟨_,hq2⟩:=ao.out.Qih;omega);rw[show ((c.XR frm).QaC m.bi m.bt).n =c.n from rfl] at aj;have aO:=Zh aj.1;have br:=Zh aj.2;have bq:=Zh al;clear aj U al b1 E aT aL p56;unfold QC;go_upto_region 10 with fail
     generalize (((w7.setCell ⟨q,4,none⟩ (.bool true)).setCell ⟨q,5,none⟩ (.int .u64 (m.bi:Int))).setCell ⟨q,6,none⟩ (.int .u64 (m.bt:Int))).setCell ⟨q,7,none⟩ (.slice (some ⟨ac,0,none⟩) c.n bJ)=w8 at*
     clear cg ch ci q7 bO bP bQ bR;obtain⟨cI,cW,a4,_,_⟩:=aO.out.Z1;have am:w8.cell? ⟨p,6,none⟩=some (.int .u64 (m.bi:Int)):=Qb a4 6;have Z:=Zh (Qaq aO.out frm 4 m.bi true (by show o.sends.length<20000;omega));clear a4;go_wp2_with fail;refine Z.out.mono ?_
     rintro e w9 ⟨rfl,a1⟩;have bk:=Zh a1;clear a1;go_wp2_with fail;refine bodyPost_ret (v:=.tuple #[]) (by simp[results,Tryz.results50]) rfl ⟨rfl,?_⟩;rw[M.out];exact QB.after (fun i N=>by
      rcases bn.out i N with h|h
      ·exact .inl h
      ·exact .inr (Zt aq.out.size h)) bp.out (QB.Zl bq.out (QB.after (fun i N=>.inl N) br.out bk.out))
   ·have bU:decide ((c.commit:Int)< (m.bi:Int))=false:=decide_eq_false (by omega)
    have M:Hid (c.led frm m o=(c.XR frm,(c.XR frm).Zk frm 4 true c.commit o)):=Zh (by
     unfold Core.led;rw[if_neg h1,if_neg h2,if_pos ad,if_neg h6];rfl)
    have Z:Hid (∀k,Calls Tryz.prog 97 #[.pointer (some ⟨p,0,none⟩),.int .i64 frm,.int .i64 4,.bool true,.int .u64 c.commit] (I.drewN k) (QU (.tuple #[]) S p q (c.XR frm) ((c.XR frm).Zk frm 4 true c.commit o) (I.drewN k))):=Zh (fun k=>Qaq (an.out.Qc ((Zr Ze I).drewN k)) frm 4 c.commit true (by omega));have cL: ∀k,(I.drewN k).cell? ⟨p,6,none⟩=some (.int .u64 c.commit):=fun k=>am
    go_quiet (fail);go_wp2_with fail;refine (Z.out _).mono ?_
    rintro e w5 ⟨rfl,a0⟩;have bj:=Zh a0;clear a0;go_wp2_with fail;refine bodyPost_ret (v:=.tuple #[]) (by simp[results,Tryz.results50]) rfl ⟨rfl,?_⟩;rw[M.out];exact QB.after (fun i N=>.inl N) (aP.out.drewN _) bj.out
end
section
open Raft
theorem Qfc{g:G}(h:Inv g){l:Log}(I:ZO g l)(E:k<l.length):1<=tm l k:=by
 obtain⟨w,L,D,_⟩:=I.2.2 k E;exact h.ZG _ _ _ D
theorem QeZ: ∀(l:Log) (t:Nat),(∀e∈l,t<=e.1)->l.Pairwise (fun a b=>a.1<=b.1)->XP t l
 |[],_,_,_=>trivial
 |
  e::r,t,h1,h2=>by
  rw[List.pairwise_cons] at h2
  exact⟨h1 e List.mem_cons_self,QeZ r e.1 h2.1 h2.2⟩
theorem QpW{l:Log}(h:l.Pairwise (fun a b=>a.1<=b.1))(I:1<=b)(J:b<=l.length):XP (tm l (b - 1)) (l.drop b):=by
 refine QeZ _ _ (fun e D=> ?_) (h.drop);obtain⟨k,E,rfl⟩:=List.getElem_of_mem D;rw[List.getElem_drop,<-ZU];exact Qdo h (by omega) (by rw[List.length_drop] at E;omega)
theorem Qm.fit{g:G}(h:Qm g i c bt bl)(N:c.elect=4/\c.beat=1)(Y:bt<=20000)(W:bl<=20000)(Q:c.waits<=20000)(M:c.beats<=20000)(U:c.yes.length<=20000):Fit c:=by
 have r:=h.rel;obtain⟨E,I,J,_⟩:=h.ZI;obtain⟨D,O⟩:=h.inv.full i h.hi;have aa:c.last=(g.full i).length :=by rw[r.len];rfl
 have ac:=h.bnd.term i h.hi;have Z:=h.bnd.full i h.hi;refine⟨⟨?_,?_,?_⟩,h.nx.nl,h.nx.ml,h.nx.lead,h.nx.role,N,⟨E,I,J,?_⟩,?_,⟨?_,h.ZG⟩,⟨?_,?_,Q,M,U⟩⟩
 ·rw[r.n];have:=h.hi;omega
 ·rw[r.n];exact r.n5
 ·rw[r.n,r.id];exact h.hi
 ·rw[<-r.bt]
  exact Qfc h.inv D (by omega)
 ·rw[<-r.bt,<-r.drop]
  exact QpW D.2.1 E (by omega)
 ·rw[<-QcT r,<-r.term]
  unfold Raft.lastT;have ab:0< (g.full i).length :=List.length_pos_iff.2 D.1;rw[ZU (by omega)];exact O _ (List.getElem_mem _)
 ·rw[<-r.term];omega
 ·omega
structure Small(bt bl:Nat)(m:Mg):Prop where
 term:m.term<=bt
 idx:m.idx+m.es.length<=bl
 lt:m.lt<=bt
 com:m.com<=bl
 bi:m.bi<=bl
theorem Small.mono{m:Mg}(h:Small a b m)(E:a<=na)(D:b<=nb):Small na nb m:=
 ⟨Zt h.term E,Zt h.idx D,Zt h.lt E,Zt h.com D,Zt h.bi D⟩
theorem Zn.QlY{g:G}{m:Mg}(M:Inv g)(h:Zn g frm na m)(J:Small bt bl m)(Y:bt<=20000)(Q:bl<=20000):Qad m:=by
 obtain⟨aa,ab,ac,ag,ah,ai,aj,ak,ae,al,af⟩:=h;refine⟨⟨aa,Zt J.term Y⟩,⟨ab,ac⟩,⟨Zt J.idx Q,Zt J.lt Y,Zt J.com Q⟩,fun e=> ?_,fun e=> ?_⟩
 ·obtain⟨w,L,O,N,Z,E,W,_,_⟩:=ae e
  obtain⟨I,U⟩:=M.tlog _ _ _ O;refine⟨N,?_,?_,fun x D=> ?_⟩
  ·rw[W];exact Qfc M I (by omega)
  ·rw[W,E]
   refine QeZ _ _ (fun x D=> ?_) ((I.2.1.drop).take);have D:=List.mem_of_mem_take D;obtain⟨k,ad,rfl⟩:=List.getElem_of_mem D;rw[List.getElem_drop,<-ZU];exact Qdo I.2.1 (by omega) (by rw[List.length_drop] at ad;omega)
  ·rw[E] at D
   exact U x (List.mem_of_mem_drop (List.mem_of_mem_take D))
 ·obtain⟨w,L,O,N,Z,E,_⟩:=af e
  obtain⟨I,U⟩:=M.tlog _ _ _ O;refine⟨N,Zt J.bi Q,?_,?_⟩
  ·rw[E];exact Qfc M I (by omega)
  ·rw[E,ZU (by omega)]
   exact U _ (List.getElem_mem _)
def Xu(bt bl:Nat)(o:Ou):Prop:= ∀x∈o.sends,Small bt bl x.2
theorem Xu.nil(h:o.sends=[]):Xu bt bl o:=fun x D=>by rw[h] at D;cases D
theorem Xu.send(h:Xu bt bl o){m:Mg}(E:Small bt bl m):Xu bt bl (o.send d m):=fun x D=>by
 have D:x∈o.sends++[(d,m)]:=D
 rw[List.mem_append,List.mem_singleton] at D
 rcases D with D|rfl
 ·exact h x D
 ·exact E
theorem Xu.others{id:Nat}{f:Nat->Mg}(D: ∀d,Small bt bl (f d)): ∀(r k:Nat) (o:Ou),Xu bt bl o->Xu bt bl (Q8 id f r k o)
 |0,_,o,h=>h
 |
  r+1,k,o,h=>by
  unfold Q8
  refine Xu.others D r (k+1) _ ?_
  split
  ·exact h
  ·exact h.send (D k)
theorem Xu.same(h:Xu bt bl o)(e:o'.sends=o.sends):Xu bt bl o':=fun x D=>h x (by rw[<-e];exact D)
theorem Qm.Zj{g:G}(h:Qm g i c bt bl):c.last<=bl/\c.term<=bt/\c.lastT<=bt/\c.commit<=bl/\c.bi<=bl:=by
 have r:=h.rel;obtain⟨J,M,N,_⟩:=h.ZI;have Q:c.last=(g.full i).length :=by rw[r.len];rfl
 obtain⟨I,E⟩:=h.inv.full i h.hi;have O:=h.bnd.full i h.hi;have D:=h.bnd.term i h.hi;refine⟨by omega,by rw[<-r.term];exact D,?_,by omega,by omega⟩;rw[<-QcT r];unfold Raft.lastT;have U:0< (g.full i).length :=List.length_pos_iff.2 I.1;rw[ZU (by omega)];exact Zt (E _ (List.getElem_mem _)) D
theorem Qqo(bi:Nat)(l:List En)(x D:Nat)(J:1<=x)(E:1<=bi)(I:x<=bi+l.length+1):x - 1+(Xs bi l x D).length <=bi+l.length:=by
 unfold Xs;split
 ·simp only[List.length_nil]
  omega
 ·rw[List.length_take,List.length_drop]
  omega
theorem Qm.Qm2{g:G}(h:Qm g i c bt bl)(J:c.role=2)(E:d<5):Small bt bl (c.lacks d):=by
 obtain⟨l1,l2,Y,M,Z⟩:=h.Zj;obtain⟨D,Q,U,_⟩:=h.ZI;obtain⟨N,n2,aa⟩:=h.nx.lead J d E;unfold Core.lacks
 cases e:Qu c.bi c.bt c.l (gd c.next d - 1) with
 |none=>exact⟨l2,Zz _,Zz _,Zz _,Zz _⟩
 |
  some t=>
  refine⟨l2,?_,?_,M,Zz _⟩
  ·exact Zt (Qqo _ _ _ _ N D n2) l1
  ·obtain⟨ab,ac,O⟩:=Qcd h.rel D e
   obtain⟨W,I⟩:=h.inv.full i h.hi;show t<=bt;rw[<-O,ZU (by omega)];exact Zt (I _ (List.getElem_mem _)) (h.bnd.term i h.hi)
theorem Qm1(N:c.next.length=5)(h: ∀d,d<5->Small bt bl (c.lacks d))(D:c.term<=bt)(E:c.commit<=bl)(I:c.bt<=bt): ∀d,Small bt bl (c.lacks d):=by
 intro d;by_cases hd:d<5
 ·exact h d hd
 ·have J:gd c.next d=0:=by
   unfold gd;rw[List.getD_eq_getElem?_getD,List.getElem?_eq_none (by omega)];rfl
  unfold Core.lacks;rw[J]
  cases e:Qu c.bi c.bt c.l (0 - 1) with
  |none=>exact⟨D,Zz _,Zz _,Zz _,Zz _⟩
  |
   some t=>
   have M:t=c.bt:=by
    unfold Qu at e;split at e
    ·simp only[Option.some.injEq] at e;exact e.symm
    ·rw[if_neg (by omega)] at e;cases e
   refine⟨D,?_,by rw[M];exact I,E,Zz _⟩;show 0 - 1+(Xs c.bi c.l 0 8).length <=bl;unfold Xs;rw[if_pos (.inl (Zz _))];exact Zz _
theorem Qm.Qhp{g:G}(h:Qm g i c bt bl)(I:c.role=2): ∀d,Small bt bl (c.lacks d):=by
 obtain⟨l1,l2,W,J,Y⟩:=h.Zj;obtain⟨M,N,O,_⟩:=h.ZI;refine Qm1 h.nx.nl (fun d D=>h.Qm2 I D) l2 J ?_
 have Q:c.last=(g.full i).length :=by rw[h.rel.len];rfl
 obtain⟨U,E⟩:=h.inv.full i h.hi;rw[<-h.rel.bt,ZU (by omega)];exact Zt (E _ (List.getElem_mem _)) (h.bnd.term i h.hi)
theorem Qm.Qdm{g:G}(h:Qm g i (c.tell o).1 bt bl)(E:c.role=2)(D:o.sends=[]):Xu bt bl (c.tell o).2:=by
 have:=h.Qhp (show (c.tell o).1.role =2 from E);exact Xu.others (f:=c.lacks) this _ _ _ (Xu.nil D)
theorem Qm.Qru{g:G}{draw:Nat}(h:Qm g i (c.tick draw o).1 bt bl)(D:o.sends=[]):Xu bt bl (c.tick draw o).2:=by
 revert h
 unfold Core.tick;split
 ·rename_i hr
  split
  ·intro h
   exact h.Qdm hr D
  ·intro _
   exact Xu.nil D
 ·split
  ·unfold Core.stand
   split
   ·intro h
    have h:Qm g i ((({c with waits:=c.waits+1}:Core).stood.lead o).1) bt bl:=h;exact Xu.same (o:=(({c with waits:=c.waits+1}:Core).stood.lead o).2) (Qm.Qdm (c:=(({({({c with waits:=c.waits+1}:Core).stood with role:=2,known:=c.id,next:=List.replicate 5 (c.last+1),mtch:=List.replicate 5 0}:Core) with l:=c.l++[(c.term+1,0)]}:Core).settle)) h rfl D) rfl
   ·intro h
    obtain⟨l1,l2,E,I,J⟩:=h.Zj;exact Xu.others (fun _=>⟨l2,l1,E,Zz _,Zz _⟩) _ _ _ (Xu.nil D)
  ·intro _
   exact Xu.nil D
theorem Qm.QpE{g:G}(h:Qm g i (c.put s o).1 bt bl)(E:c.role=2)(D:o.sends=[]):Xu bt bl (c.put s o).2:=
 Qm.Qdm (c:=({c with l:=c.l++[(c.term,s)]}:Core).settle) h E D
theorem QbF{b:Bool}(D:c.term<=bt)(E:x<=bl)(I:Xu bt bl o):Xu bt bl (c.Zk d k b x o):=
 I.send ⟨D,E,Zz _,Zz _,Zz _⟩
theorem Qm.QqT{g:G}{m:Mg}(h:Qm g i (c.step frm m o).1 bt bl)(M:Small bt bl m)(Q:c.bi+c.l.length<=bl)(N:o.sends=[]):Xu bt bl (c.step frm m o).2:=by
 have D:=Xu.nil (bt:=bt) (bl:=bl) N;have U:(c.bump m.term).bi +(c.bump m.term).l.length <=bl:=by
  unfold Core.bump;split<;>exact Q
 revert h
 unfold Core.step;generalize c.bump m.term=c at*
 split
 ·intro h
  obtain⟨l1,l2,I,E,J⟩:=h.Zj;have e:(c.asked frm m o).1.term =c.term:=by unfold Core.asked;split<;>rfl
  exact QbF (by omega) (Zz _) D
 split
 ·unfold Core.Zb
  split
  ·split
   ·intro h
    have h:Qm g i ((({c with yes:=frm::c.yes}:Core).lead o).1) bt bl:=h;exact Xu.same (o:=(({c with yes:=frm::c.yes}:Core).lead o).2) (Qm.Qdm (c:=(({({({c with yes:=frm::c.yes}:Core) with role:=2,known:=c.id,next:=List.replicate 5 (c.last+1),mtch:=List.replicate 5 0}:Core) with l:=c.l++[(c.term,0)]}:Core).settle)) h rfl N) rfl
   ·exact fun _=>D
  ·exact fun _=>D
 split
 ·unfold Core.appended
  split
  ·exact fun _=>D
  ·rename_i hno
   have O:c.role=2:=by
    rcases Nat.decEq c.role 2 with h|h
    ·exact absurd (.inr (.inl h)) hno
    ·exact h
   intro h;have:=h.Qhp (by
    show (if m.ok=false then ({c with next:=c.next.set frm (max (min (gd c.next frm - 1) (m.idx+1)) (gd c.mtch frm+1))}:Core) else if gd c.mtch frm<m.idx then ({c with mtch:=c.mtch.set frm m.idx,next:=c.next.set frm (max (gd c.next frm) (m.idx+1))}:Core).settle else c).role =2;split
    ·exact O
    ·split<;>exact O)
   have key: ∀c':Core,(∀d,Small bt bl (c'.lacks d))->Xu bt bl (if m.ok=false\/gd c'.next frm<=c.last then o.send frm (c'.lacks frm) else o):=by
    intro c' W;split
    ·exact D.send (W frm)
    ·exact D
   exact key _ this
 ·unfold Core.led
  split
  ·intro h
   obtain⟨l1,l2,I,E,J⟩:=h.Zj;exact QbF l2 (Zz _) D
  split
  ·exact fun _=>D
  split
  ·split
   ·intro h
    obtain⟨l1,l2,I,E,J⟩:=h.Zj;exact QbF l2 M.bi (Xu.same D rfl)
   ·intro h
    obtain⟨l1,l2,I,E,J⟩:=h.Zj;exact QbF l2 E D
  ·dsimp only
   split
   ·exact fun _=>D
   split
   ·intro h
    obtain⟨l1,l2,I,E,J⟩:=h.Zj;exact QbF l2 M.idx (Xu.same D rfl)
   ·intro h
    obtain⟨l1,l2,I,E,J⟩:=h.Zj;refine QbF l2 ?_ (Xu.same D rfl)
    unfold KE;have:=M.idx;split
    ·exact U
    ·split<;>omega
theorem Ql2{m:Mg}(h:Small bt bl m)(D:c.bi<=bl):Small bt bl (c.fix m):=by
 unfold Core.fix;split
 ·exact⟨h.term,h.idx,h.lt,h.com,D⟩
 ·exact h
end
section
def Xt(l:List En):Prop:= ∀e∈l,e.2<=1000
structure Cn(T:Nat)(c:Core):Prop where
 w:c.waits<=T
 b:c.beats<=T
 y:c.yes.length<=T
 e:Xt c.l
theorem Cn.mono{T:Nat}(h:Cn T c)(D:T<=na):Cn na c:=⟨Zt h.w D,Zt h.b D,Zt h.y D,h.e⟩
def QY(o:Ou):Prop:= ∀x∈o.sends,Xt x.2.es
theorem Xt.nil:Xt []:=fun e D=>by cases D
theorem QY.nil(h:o.sends=[]):QY o:=fun x D=>by rw[h] at D;cases D
theorem QY.send(h:QY o){m:Mg}(E:Xt m.es):QY (o.send d m):=fun x I=>by
 rcases List.mem_append.1 (show x∈o.sends++[(d,m)] from I) with D|D
 ·exact h x D
 ·rw[List.mem_singleton] at D
  subst D
  exact E
theorem QY.others{id:Nat}{f:Nat->Mg}(D: ∀d,Xt (f d).es): ∀(r k:Nat) (o:Ou),QY o->QY (Q8 id f r k o)
 |0,_,o,h=>h
 |
  r+1,k,o,h=>by
  rw[Q8]
  split
  ·exact QY.others D r _ _ h
  ·exact QY.others D r _ _ (h.send (D k))
theorem Qhq(h:Xt c.l)(d:Nat):Xt (c.lacks d).es :=by
 unfold Core.lacks;split
 ·exact Xt.nil
 ·show Xt (Xs _ _ _ _)
  unfold Xs;split
  ·exact Xt.nil
  ·exact fun e D=>h e (List.mem_of_mem_drop (List.mem_of_mem_take D))
theorem Qi6(h:Xt c.l)(D:QY o):QY (c.tell o).2:=QY.others (fun d=>Qhq h d) _ _ _ D
theorem Xt.snoc{l:List En}(h:Xt l)(I:s<=1000):Xt (l++[(t,s)]):=fun e E=>by
 rcases List.mem_append.1 E with D|D
 ·exact h e D
 ·rw[List.mem_singleton] at D
  subst D
  exact I
theorem Qie{T:Nat}(h:Cn T c)(D:s<=1000)(E:QY o):Cn T (c.put s o).1/\QY (c.put s o).2:=
 ⟨⟨h.w,Zz _,h.y,h.e.snoc D⟩,Qi6 (c:=({c with l:=c.l++[(c.term,s)]}:Core).settle) (h.e.snoc D) E⟩
theorem Qhy{T:Nat}(h:Cn T c)(D:QY o):Cn T (c.lead o).1/\QY (c.lead o).2:=
 Qie (c:=({c with role:=2,known:=c.id,next:=List.replicate 5 (c.last+1),mtch:=List.replicate 5 0}:Core)) ⟨h.w,h.b,h.y,h.e⟩ (Zz _) D
theorem QqH{T:Nat}(h:Cn T c)(J:1<=T)(E:QY o):Cn T (c.stand o).1/\QY (c.stand o).2:=by
 have I:Cn T c.stood:=⟨Zz _,h.b,J,h.e⟩
 unfold Core.stand;split
 ·have:=Qhy I E
  exact⟨this.1,fun x D=>this.2 x D⟩
 ·exact⟨I,QY.others (fun d=>Xt.nil) _ _ _ (fun x D=>E x D)⟩
theorem Qrp{T:Nat}(h:Cn T c)(D:QY o):Cn (T+1) (c.tick d o).1/\QY (c.tick d o).2:=by
 unfold Core.tick;split
 ·split
  ·exact⟨⟨by have:=h.w;show c.waits<=_;omega,Zz _,by have:=h.y;show c.yes.length<=_;omega,h.e⟩,Qi6 (c:=({c with beats:=c.beats+1}:Core)) h.e D⟩
  ·exact⟨⟨by have:=h.w;show c.waits<=_;omega,by have:=h.b;show c.beats+1<=_;omega,by have:=h.y;show c.yes.length<=_;omega,h.e⟩,D⟩
 ·have E:Cn (T+1) ({c with waits:=c.waits+1}:Core):=⟨by have:=h.w;show c.waits+1<=_;omega,by have:=h.b;show c.beats<=_;omega,by have:=h.y;show c.yes.length<=_;omega,h.e⟩
  split
  ·exact QqH E (by omega) D
  ·exact⟨E,D⟩
theorem Qf1{T:Nat}(h:Cn T c)(t:Nat):Cn T (c.bump t):=by
 unfold Core.bump;split
 ·exact⟨h.w,h.b,h.y,h.e⟩
 ·exact h
theorem QpQ{l:List En}(h:Xt l):Xt (Q1 bi bt l b t):=by
 unfold Q1;split
 ·exact fun e D=>h e (List.mem_of_mem_drop D)
 ·exact Xt.nil
theorem QhB{T:Nat}{m:Mg}(h:Cn T c)(N:Xt m.es)(D:QY o):Cn T (c.led frm m o).1/\QY (c.led frm m o).2:=by
 unfold Core.led;split
 ·exact⟨h,D.send Xt.nil⟩
 ·split
  ·exact⟨h,D⟩
  ·split
   ·split
    ·exact⟨⟨Zz _,h.b,h.y,QpQ h.e⟩,fun x O=>(QY.send (o:={o with rest:=some (m.bi,m.bt)}) (fun y E=>D y E) Xt.nil) x O⟩
    ·exact⟨⟨Zz _,h.b,h.y,h.e⟩,D.send Xt.nil⟩
   ·have J:Cn T ({c with role:=0,known:=frm,waits:=0}:Core):=⟨Zz _,h.b,h.y,h.e⟩
    simp only;split
    ·exact⟨J,D⟩
    ·split
     ·refine⟨⟨Zz _,h.b,h.y,?_⟩,QY.send (o:={o with frm:=Xa c.bi c.bt c.l m.idx m.es 0}) (fun y E=>D y E) Xt.nil⟩
      show Xt (if Xa c.bi c.bt c.l m.idx m.es 0=0 then c.l else _);split
      ·exact h.e
      ·intro e M
       rcases List.mem_append.1 M with I|I
       ·exact h.e e (List.mem_of_mem_take I)
       ·exact N e (List.mem_of_mem_drop I)
     ·exact⟨J,QY.send (o:={o with frm:=0}) (fun y E=>D y E) Xt.nil⟩
theorem Qkl{T:Nat}{m:Mg}(h:Cn T c)(D:QY o):Cn T (c.asked frm m o).1/\QY (c.asked frm m o).2:=by
 unfold Core.asked;refine⟨?_,D.send Xt.nil⟩;show Cn T (if c.grants frm m then _ else c);split
 ·exact⟨Zz _,h.b,h.y,h.e⟩
 ·exact h
theorem QrN{T:Nat}{m:Mg}(h:Cn T c)(D:QY o):Cn (T+1) (c.Zb frm m o).1/\QY (c.Zb frm m o).2:=by
 unfold Core.Zb;have E:Cn (T+1) ({c with yes:=frm::c.yes}:Core):=⟨by have:=h.w;show c.waits<=_;omega,by have:=h.b;show c.beats<=_;omega,by have:=h.y;show (frm::c.yes).length <=_;rw[List.length_cons];omega,h.e⟩
 split
 ·split
  ·have:=Qhy E D
   exact⟨this.1,fun x I=>this.2 x I⟩
  ·exact⟨E,D⟩
 ·exact⟨h.mono (Nat.le_succ _),D⟩
theorem Qkh{T:Nat}{m:Mg}(h:Cn T c)(D:QY o):Cn T (c.appended frm m o).1/\QY (c.appended frm m o).2:=by
 unfold Core.appended;split
 ·exact⟨h,D⟩
 ·generalize hc:(if m.ok=false then ({c with next:=c.next.set frm (max (min (gd c.next frm - 1) (m.idx+1)) (gd c.mtch frm+1))}:Core) else if gd c.mtch frm<m.idx then ({c with mtch:=c.mtch.set frm m.idx,next:=c.next.set frm (max (gd c.next frm) (m.idx+1))}:Core).settle else c)=c'
  have E:Cn T c':=by
   rw[<-hc];split
   ·exact⟨h.w,h.b,h.y,h.e⟩
   ·split
    ·exact⟨h.w,h.b,h.y,h.e⟩
    ·exact h
  refine⟨E,?_⟩;show QY (if _ then o.send frm (c'.lacks frm) else o);split
  ·exact D.send (Qhq E.e frm)
  ·exact D
theorem QqP{T:Nat}{m:Mg}(h:Cn T c)(I:Xt m.es)(E:QY o):Cn (T+1) (c.step frm m o).1/\QY (c.step frm m o).2:=by
 have D:=Qf1 h m.term;unfold Core.step;split
 ·have:=Qkl (frm:=frm) (m:=m) D E
  exact⟨this.1.mono (Nat.le_succ _),this.2⟩
 ·split
  ·exact QrN D E
  ·split
   ·have:=Qkh (frm:=frm) (m:=m) D E
    exact⟨this.1.mono (Nat.le_succ _),this.2⟩
   ·have:=QhB (frm:=frm) D I E
    exact⟨this.1.mono (Nat.le_succ _),this.2⟩
theorem Qj8{T:Nat}(h:Cn T c):Cn T c.anew:=⟨Zz _,Zz _,Zz _,h.e⟩
theorem Qga{T:Nat}(h:Cn T c)(b:Nat):Cn T (c.compacted b):=⟨h.w,h.b,h.y,fun e D=>h.e e (List.mem_of_mem_drop D)⟩
end
end Go.Proofs.YtbleblbfadeciaaGreatDoor
