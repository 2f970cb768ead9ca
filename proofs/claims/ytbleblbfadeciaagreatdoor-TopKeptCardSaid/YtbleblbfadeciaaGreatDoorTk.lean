/- For TopKept. -/
import Derived.Test.YtbleblbfadeciaaGreatDoorLc
import Derived.Test.YtbleblbfadeciaaGreatDoorZw
import Derived.Test.YtbleblbfadeciaaGreatDoorTi
import Derived.Test.YtbleblbfadeciaaGreatDoorTb
set_option linter.all false
set_option maxHeartbeats 16000000
set_option maxRecDepth 10000
namespace Go.Proofs.YtbleblbfadeciaaGreatDoor
variable{A:Array Value}{c c':Core}{frm g k n na nb nc nd p q t x:Nat}{S T U:Nat->Prop}{O:Option Addr}{o o':Ou}{Y Z mv va:Value}{w w' w0:World}
section
open Go.RowKit Go.Acre
attribute [local go_sem ↓] LcG ScG
attribute [local go_sem] Sc1 Sc2 Sc3 Lc2 Lc3
def Core.Qai(c:Core)(m:Mg)(k:Nat):Bool:=decide (c.bi<m.idx+k+1/\m.idx+k+1<=c.commit/\(Qu c.bi c.bt c.l (m.idx+k+1)).getD 0≠(m.es.getD k (0,0)).1)
theorem QkH{m:Mg}(D:k<m.es.length)(h:c.Qai m k=true):c.clash m=true:=by
 unfold Core.clash;rw[List.any_eq_true];exact⟨k,List.mem_range.2 D,h⟩
theorem QkG{m:Mg}(h: ∀k,k<m.es.length->c.Qai m k=false):c.clash m=false:=by
 unfold Core.clash;rw[List.any_eq_false];intro k D;have:=h k (List.mem_range.1 D);unfold Core.Qai at this;rw[this];simp
theorem QlZ(aa:Fit c)(Y:c.bi<=x)(Z:x<=c.commit):Fit {c with commit:=x}:=by
 obtain⟨E,J,M,N,O,Q,D,U,W,I⟩:=aa;exact⟨E,J,M,N,O,Q,⟨D.1,Y,Zt Z D.2.2.1,D.2.2.2⟩,U,W,I⟩
theorem Qd4{m:Mg}(I:k<m.es.length):KH c.bi c.bt c.l m.idx m.es k↔Qay c m k:=by
 unfold KH Qay;have M:m.es.getD k (0,0)=m.es[k]:=by rw[List.getD_eq_getElem?_getD,List.getElem?_eq_getElem I];rfl
 rw[M];constructor
 ·rintro⟨D,E⟩
  exact⟨I,D,fun e=>E _ e rfl⟩
 ·rintro⟨_,D,E⟩
  exact⟨D,fun t' e J=>E (by rw[e,J])⟩
theorem Qlj{m:Mg}(N:k<m.es.length)(h:KH c.bi c.bt c.l m.idx m.es k)(O: ∀j,j<k-> ¬KH c.bi c.bt c.l m.idx m.es j):Xa c.bi c.bt c.l m.idx m.es 0=m.idx+k+1:=by
 have I:=(Qd4 N).1 h;rcases Qd9 c m with ⟨_,D⟩|⟨j,D,J,M⟩
 ·exact absurd I (D k)
 ·rw[D]
  rcases Nat.lt_trichotomy j k with E|rfl|E
  ·exact absurd ((Qd4 (by omega)).2 J) (O j E)
  ·rfl
  ·exact absurd I (M k E)
theorem Qlk{m:Mg}(I: ∀j,j<m.es.length-> ¬KH c.bi c.bt c.l m.idx m.es j):Xa c.bi c.bt c.l m.idx m.es 0=0:=by
 rcases Qd9 c m with ⟨h,_⟩|⟨j,J,⟨D,E⟩,M⟩
 ·exact h
 ·exact absurd ((Qd4 D).2 ⟨D,E⟩) (I j D)
def Core.took(c:Core)(l:List En):Core:={c with l:=l}
def Core.upTo(c:Core)(x:Nat):Core:={c with commit:=x}
def W4(c1:Core)(frm e f:Nat)(ok:Bool)(com:Nat)(o:Ou):Core×Ou:=
 if ok=true then (c1.upTo (max c1.commit (min com e)),(c1.upTo (max c1.commit (min com e))).Zk frm 4 ok e {o with frm:=f}) else (c1,c1.Zk frm 4 ok e {o with frm:=f})
theorem QpZ(a b:Int)(x:Option Addr)(n c:Nat)(w:World):(Instr.field 44 (.agg #[.int .u64 a,.int .u64 b,.slice x n c]) 0).run Tryz.prog w= .ok (.int .u64 a) w:=by
 kernel_rfl
attribute [local go_sem] QpZ
set_option maxRecDepth 100000 in
theorem Qns(h:St w S p q c o){m:Mg}(ag:XH w S c.n m A O na mv g)(aO:Qad m)(bh:m.kind=3)(frm:Nat)(dV:frm<5)
  (bU: ¬m.term<c.term->c.role≠2->c.clash m=false->Fit (c.led frm m o).1)
  (bO: ¬m.term<c.term->c.role≠2->c.clash m=false->m.idx<c.bi-> ∀k (bh:k<m.es.length),m.idx+k+1=c.bi->m.es[k].1=c.bt) (d1:o.sends.length<19000):
  Calls Tryz.prog 50 #[.pointer (some ⟨p,0,none⟩),.pointer (some ⟨q,0,none⟩),.int .i64 frm,.agg A] w (QU (.tuple #[]) S p q (c.led frm m o).1 (c.led frm m o).2 w):=by
 obtain⟨ee,ei,ef,d6⟩:=ag.QcZ;have dW:A.size=58:=by rw[ag.arr];rfl
 have cM:A[0]? =some (.int .i64 3):=by rw[ag.arr,bh];rfl
 have cN:A[2]? =some (.int .u64 m.term):=by rw[ag.arr];rfl
 have cO:A[3]? =some (.int .u64 m.idx):=by rw[ag.arr];rfl
 have cP:A[4]? =some (.int .u64 m.lt):=by rw[ag.arr];rfl
 have cQ:A[5]? =some (.int .u64 m.com):=by rw[ag.arr];rfl
 have bJ:A[7]? =some (.slice O m.es.length na):=by rw[ag.arr];rfl
 obtain⟨ed,ew,ca,c6,d8⟩:=h.Z1;have cy:Hid (∀i,S i->i<w.heap.size):=Zh (h.open.choose_spec.choose_spec.choose_spec.choose_spec.choose_spec.choose_spec.choose_spec.2.2.1);have H:=Zh h;have aZ:=Zh h.fit;have bB:=Zh ag;have ct:=Zh bU;have cr:=Zh bO;obtain⟨ec,ch,ci,cj⟩:=aO.app bh;have bF:=Zh ci;have bH:=Zh cj;obtain⟨eo,ep⟩:=aO.term;obtain⟨dL,dM,dN⟩:=aO.cap;clear h ag aO bU bO ci cj;go_enter Tryz.func50,Tryz.ntmps50;go_upto_region 1 with fail
 have D:Qa (fun _=>False) w (w.alloc (.cells A 76)):=(Zr _ w).alloc _;have ar:=Qf (w:=w) (.cells A 76);have bm:=D.keep ca (fun f=>f);generalize w.alloc (.cells A 76)=w1 at*
 generalize hb:w.heap.size=b at*
 have dC:=Zh hb;have cR:=(Qb ar 2).trans cN;have dl:w1.cell? ⟨p,3,none⟩=some (.int .u64 c.term):=Qb bm 3;have a4:=Zh D;have cI:=Zh ar;have cE:=Zh bm;have ay: ¬S b:=fun bo=>by have:=cy.out b bo;omega
 clear ar D bm hb ca;by_cases h1:m.term<c.term
 ·have c2:decide ((m.term:Int)< (c.term:Int))=true:=decide_eq_true (by omega)
  have aC:Hid (∀k,Calls Tryz.prog 97 #[.pointer (some ⟨p,0,none⟩),.int .i64 frm,.int .i64 4,.bool false,.int .u64 0] (w1.drewN k) (QU (.tuple #[]) S p q c (c.Zk frm 4 false 0 o) (w1.drewN k))):=Zh (fun k=>Qaq (H.out.Qc (a4.out.drewN k)) frm 4 0 false (by omega));have am:Hid (c.led frm m o=(c,c.Zk frm 4 false 0 o)):=Zh (by unfold Core.led;rw[if_pos h1]);go_quiet (fail);go_wp2_with fail;refine (aC.out _).mono ?_
  rintro e al ⟨rfl,b3⟩;have cB:=Zh b3;clear b3;go_wp2_with fail;refine bodyPost_ret (v:=.tuple #[]) (by simp[results,Tryz.results50]) rfl ⟨rfl,?_⟩;rw[am.out];exact QB.Zl (a4.out.drewN _) cB.out
 ·have c2:decide ((m.term:Int)< (c.term:Int))=false:=decide_eq_false (by omega)
  go_quiet (fail);have b7:=a4.out.drewN nq;have cg:=((Zr (fun _=>False) w1).drewN nq).keep cI.out (fun f=>f);have bn:=((Zr (fun _=>False) w1).drewN nq).keep cE.out (fun f=>f);clear cR dl;generalize w1.drewN nq=w2 at*
  have aK:=Zh b7;have cJ:=Zh cg;have aB:=Zh bn;have cn:w2.cell? ⟨p,7,none⟩=some (.int .i64 c.role):=Qb bn 7;clear b7 cg bn;by_cases h2:c.role=2
  ·rw[h2] at cn
   have am:Hid (c.led frm m o=(c,o)):=Zh (by unfold Core.led;rw[if_neg h1,if_pos h2]);go_wp2_with fail;refine bodyPost_ret (v:=.tuple #[]) (by simp[results,Tryz.results50]) rfl ⟨rfl,?_⟩;rw[am.out];exact QB.Zl aK.out (QB.refl (H.out.Qc aK.out))
  ·have dU: ¬(c.role:Int)=2:=by omega
   have dm:w2.cell? ⟨p,8,none⟩=some (.int .i64 c.known):=Qb aB.out 8;have dn:w2.cell? ⟨p,9,none⟩=some (.int .i64 c.waits):=Qb aB.out 9;have cW:=Qg aB.out 7 none;have cX:=Qg aB.out 8 none;have cY:=Qg aB.out 9 none;have bq:Qa (fun i=>i=p) w2 (((w2.setCell ⟨p,7,none⟩ (.int .i64 0)).setCell ⟨p,8,none⟩ (.int .i64 (frm:Int))).setCell ⟨p,9,none⟩ (.int .i64 0)):=((((Zr (fun i=>i=p) w2).setCell (p:=⟨p,7,none⟩) (fun _=>rfl) _)).setCell (p:=⟨p,8,none⟩) (fun _=>rfl) _).setCell (p:=⟨p,9,none⟩) (fun _=>rfl) _;have ap:=(H.out.Qc aK.out).set (c':=c.XR frm) bq (fun ab aA bk=>Qi (o:=9) (Qi (o:=8) (Qi (o:=7) bk (.int .i64 0)) (.int .i64 (frm:Int))) (.int .i64 0)) rfl rfl rfl rfl rfl (QhA aZ.out frm);have a2:=Zh ap.1;have ao:=Zh (bq.keep cJ.out (fun e=>ay (e▸c6)));have aD:Hid (Qa S w (((w2.setCell ⟨p,7,none⟩ (.int .i64 0)).setCell ⟨p,8,none⟩ (.int .i64 (frm:Int))).setCell ⟨p,9,none⟩ (.int .i64 0))):=Zh ((aK.out.mono (T:=S) (fun _ _ f=>f.elim)).trans ap.2 (fun _ _ h=>h));clear ap bq;go_upto_region 5 with fail
   generalize ((w2.setCell ⟨p,7,none⟩ (.int .i64 0)).setCell ⟨p,8,none⟩ (.int .i64 (frm:Int))).setCell ⟨p,9,none⟩ (.int .i64 0)=al at*
   have dI:=(Qb ao.out 0).trans cM;have dK:=(Qb ao.out 7).trans bJ;obtain⟨dE,ab,aA,eg,dG,ej,dP,aT,bP,d5,d0⟩:=a2.out.open;have aM:=Zh aT;have dz:=Zh bP;have cq:Hid (∀w',Qa (fun _=>False) al w'->Calls Tryz.prog 52 #[.pointer (some ⟨ab,0,none⟩)] w' (fun e w2=> ∃g aE,e= .returned (.agg #[.int .u64 c.bi,.int .u64 c.bt,.slice (some ⟨g,0,none⟩) c.n aE])/\Qa (fun _=>False) w' w2)):=Zh (fun w' D=>(QdT (aM.out.Qc D).log).mono (by
    rintro e w2 ⟨v,g,rfl,⟨aE,rfl,_⟩,_,dh⟩;exact⟨g,aE,rfl,dh⟩))
   have cG:Hid (∀w' (x:Nat),Qa (fun _=>False) al w'->x<=1000000->Calls Tryz.prog 101 #[.pointer (some ⟨ab,0,none⟩),.int .u64 x] w' (Qk (XT (Qu c.bi c.bt c.l x)) w')):=Zh (fun w' x D aT=>Qa7 (aM.out.Qc D).log x aT);have aW:Hid (∀w',Qa (fun _=>False) al w'->w'.cell? ⟨p,5,none⟩=some (.pointer (some ⟨ab,0,none⟩))):=Zh (fun w' D=>(aM.out.Qc D).c5);have bv:Hid (∀w',Qa (fun _=>False) al w'->w'.cell? ⟨p,6,none⟩=some (.int .u64 c.commit)):=Zh (fun w' D=>Qb (aM.out.Qc D).row 6);have bx:Hid (QA al (.slice O m.es.length na) m.idx m.es):=Zh ((bB.out.upd aD.out (fun k _ h=>h)).Qq);have dy:Hid (XH al S c.n m A O na mv g):=Zh (bB.out.upd aD.out (fun k _ h=>h));have da:=aZ.out.cap;clear cn dm dn cW cX cY aT bP;go_upto_region 11 with fail
   go_wp2_with fail;go_loopw [88] (fun x wr=> ∃k:Nat,x= .int .i64 k/\k<=m.es.length/\(∀j,j<k->c.Qai m j=false)/\Qa (fun _=>False) al wr) (fun x _=>m.es.length - (Go.RowKit.intOf x).toNat)
   case atStart=>exact⟨0,rfl,Zz _,fun j az=>absurd az (Nat.not_lt_zero _),Zr _ _⟩
   case round=>
    obtain⟨k,rfl,d4,b2,D⟩:=hrel;have a1:=Zh b2;have ae:=Zh D;clear b2 D;by_cases hlt':k<m.es.length
    ·have df:(k:Int)< (m.es.length:Int):=by omega
     have d3:(0:Int)<=k:=by omega
     obtain⟨g',o',rfl,b9⟩:=(bx.out.Qc ae.out).range hlt';have bD:=Zh b9;have Q:=Wt (m.idx+k+1) m.es[k].1 m.es[k].2;have e1:=Qbm (m.idx+k+1) m.es[k].1 m.es[k].2;have cz:Hid ((Qh (m.idx+k+1) m.es[k].1 m.es[k].2).toList.length =24):=Zh rfl;have bA:Hid ((Qh (m.idx+k+1) m.es[k].1 m.es[k].2).size =24):=Zh rfl;have cA:=Zh (Z3 (m.idx+k+1) m.es[k].1 m.es[k].2);have aa:c.Qai m k=decide (c.bi<m.idx+k+1/\m.idx+k+1<=c.commit/\(Qu c.bi c.bt c.l (m.idx+k+1)).getD 0≠m.es[k].1):=by
      unfold Core.Qai;rw[show m.es.getD k (0,0)=m.es[k] by rw[List.getD_eq_getElem?_getD,List.getElem?_eq_getElem hlt'];rfl]
     have dA:=bH.out m.es[k] (List.getElem_mem hlt');clear b9;generalize Qh (m.idx+k+1) m.es[k].1 m.es[k].2=E at*
     generalize m.es[k].1=aV at*
     obtain⟨I,br⟩: ∃I,m.idx+k+1=I:=⟨_,rfl⟩
     rw[br] at Q aa;have aX:=Zh aa;have ea:I<=20000:=by omega
     have dD:=Zh br;clear aa br;have ar:=Qf (w:=wr) (.cells QG 116);go_upto_region 14 with (first|refine wpList_load_mid rfl 116 _ rfl _ _ rfl _ _ bD.out Tryz.underlying116 rfl (QaJ cz.out) ?_|refine wpList_store_row rfl 116 _ _ rfl _ _ rfl rfl _ _ ar (Z4 bA.out) (by rw[bA.out];rfl) cA.out ?_)
     have bb:=Xr _ _ E ar;have an:=Zh (QL (ae.out.alloc (.cells QG 116)) (g:=wr.heap.size) (fun h=>by have:=ae.out.size;omega) E);change Code.wp _ _ _ _ (((wr.alloc (.cells QG 116)).setRow wr.heap.size E));clear ar bD ae;generalize (wr.alloc (.cells QG 116)).setRow wr.heap.size E=w4 at*
     generalize wr.heap.size=eb at*
     have bK:=(Qb bb 0).trans Q;have bL:=(Qb bb 1).trans e1;have ai:=(Zr (fun _=>False) w4).drew;have di:=an.out.trans ai (fun _ _ f=>f);have dt:=aW.out _ an.out;have du:=bv.out _ an.out;have aY:Hid (∀w',Qa (fun _=>False) w4 w'->w'.cell? ⟨eb,0,none⟩=some (.int .u64 I)):=Zh (fun w' D=>Qe D bK (fun f=>f));have bw:Hid (∀w',Qa (fun _=>False) w4 w'->w'.cell? ⟨eb,1,none⟩=some (.int .u64 aV)):=Zh (fun w' D=>Qe D bL (fun f=>f));have aJ:Hid (∀w',Qa (fun _=>False) w4 w'->w'.cell? ⟨eb,0,none⟩=some (.int .u64 I)/\w'.cell? ⟨p,5,none⟩=some (.pointer (some ⟨ab,0,none⟩))/\w'.cell? ⟨p,6,none⟩=some (.int .u64 c.commit)):=Zh (fun w' D=>⟨aY.out _ D,aW.out _ (an.out.trans D (fun _ _ f=>f)),bv.out _ (an.out.trans D (fun _ _ f=>f))⟩);have co:Hid (∀w',Qa (fun _=>False) w4 w'->Calls Tryz.prog 52 #[.pointer (some ⟨ab,0,none⟩)] w' (fun e w2=> ∃g aE,e= .returned (.agg #[.int .u64 c.bi,.int .u64 c.bt,.slice (some ⟨g,0,none⟩) c.n aE])/\Qa (fun _=>False) w' w2)):=Zh (fun w' D=>cq.out _ (an.out.trans D (fun _ _ f=>f)));have hcur:Qa (fun _=>False) w4 w4.drew:=ai;clear bb Q e1;go_frame;go_cut [109] (fun s J=>s= .bool (decide (c.bi<I/\I<=c.commit))/\Qa (fun _=>False) w4 J)
     case first=>
      obtain⟨Y,cl⟩: ∃b,decide (c.bi<I)=b:=⟨_,rfl⟩
      obtain⟨aw,cm⟩: ∃b,decide (I<=c.commit)=b:=⟨_,rfl⟩
      have dS:decide ((c.bi:Int)< (I:Int))=Y:=by
       rw[<-cl];exact decide_eq_decide.2 Int.ofNat_lt
      have dT:decide ((I:Int)<=c.commit)=aw:=by
       rw[<-cm];exact decide_eq_decide.2 Int.ofNat_le
      have aF:decide (c.bi<I/\I<=c.commit)=(Y&&aw):=by rw[Bool.decide_and,cl,cm]
      refine Qcg (by kernel_rfl) (QaF (by kernel_rfl)) (Qj (by kernel_rfl)) (KA w4 (fun N=>(([fun v=>v= .pointer (some ⟨eb,0,none⟩),fun v=>v= .int .u64 I,fun v=>v= .pointer (some ⟨p,0,none⟩),fun v=>v= .pointer (some ⟨p,0,none⟩),fun v=>v= .pointer (some ⟨p,5,none⟩),fun v=>v= .pointer (some ⟨ab,0,none⟩),fun v=> ∃(x:Option Addr) (n k:Nat),v= .agg #[.int .u64 c.bi,.int .u64 c.bt,.slice x n k],fun v=>v= .int .u64 c.bi,fun v=>v= .bool Y,fun v=>v= .bool Y,fun v=>Y=true->v= .pointer (some ⟨eb,0,none⟩),fun v=>Y=true->v= .int .u64 I,fun v=>Y=true->v= .pointer (some ⟨p,0,none⟩),fun v=>Y=true->v= .pointer (some ⟨p,0,none⟩),fun v=>Y=true->v= .pointer (some ⟨p,6,none⟩),fun v=>Y=true->v= .int .u64 c.commit,fun v=>Y=true->v= .bool aw,fun v=>v= .bool (Y&&aw)]:List (Value->Prop)).getD N (fun _=>True)))) ?h0 ?hstep ?hend
      case h0=>exact⟨(Zr _ _).drew,fun N h=>by cases h⟩
      case hstep=>
       intro N bW;have d2:N<18:=bW;clear bW;rcases (show (N=0\/N=1\/N=2\/N=3\/N=4\/N=5\/N=6\/N=7\/N=8\/N=9)\/(N=10\/N=11\/N=12\/N=13\/N=14\/N=15\/N=16)\/N=17 by omega) with ax|ax|ax
       ·rcases ax with rfl|rfl|rfl|rfl|rfl|rfl|rfl|rfl|rfl|rfl<;>refine XM rfl (Qj (by kernel_rfl)) ?_<;>intro J D fr hfr hfo K hK
        ·have Q:fr.tmps[9]? =some (.pointer (some ⟨eb,0,none⟩)):=hfo 9 (by kernel_rfl)
         clear hfr hfo;go_simp;exact hK _ _ (Zr _ _) rfl
        ·obtain⟨_,Q,rfl⟩:=hfr ⟨0,.data⟩ (by simp) rfl _ 92 rfl rfl (show 92<162 by decide)
         clear hfr hfo;obtain⟨a8,a9,ba⟩:=aJ.out _ D;go_simp;exact hK _ _ (Zr _ _) rfl
        ·have Q:fr.tmps[0]? =some (.pointer (some ⟨p,0,none⟩)):=hfo 0 (by kernel_rfl)
         clear hfr hfo;go_simp;exact hK _ _ (Zr _ _) rfl
        ·obtain⟨_,Q,rfl⟩:=hfr ⟨2,.data⟩ (by simp) rfl _ 94 rfl rfl (show 94<162 by decide)
         clear hfr hfo;go_simp;exact hK _ _ (Zr _ _) rfl
        ·obtain⟨_,Q,rfl⟩:=hfr ⟨3,.data⟩ (by simp) rfl _ 95 rfl rfl (show 95<162 by decide)
         clear hfr hfo;go_simp;exact hK _ _ (Zr _ _) rfl
        ·obtain⟨_,Q,rfl⟩:=hfr ⟨4,.data⟩ (by simp) rfl _ 96 rfl rfl (show 96<162 by decide)
         clear hfr hfo;obtain⟨a8,a9,ba⟩:=aJ.out _ D;go_simp;exact hK _ _ (Zr _ _) rfl
        ·obtain⟨_,Q,rfl⟩:=hfr ⟨5,.data⟩ (by simp) rfl _ 97 rfl rfl (show 97<162 by decide)
         clear hfr hfo;go_simp;go_at_call 52;refine (co.out _ D).mono ?_
         rintro e w5 ⟨bM,dO,rfl,Z⟩;exact hK _ _ Z ⟨_,_,_,rfl⟩
        ·obtain⟨v0,Q,ad⟩:=hfr ⟨6,.data⟩ (by simp) rfl _ 98 rfl rfl (show 98<162 by decide)
         obtain⟨et,ev,eu,rfl⟩:=ad;clear hfr hfo;go_simp;exact hK _ _ (Zr _ _) rfl
        ·obtain⟨_,Q,rfl⟩:=hfr ⟨1,.data⟩ (by simp) rfl _ 93 rfl rfl (show 93<162 by decide)
         obtain⟨_,e1,rfl⟩:=hfr ⟨7,.data⟩ (by simp) rfl _ 99 rfl rfl (show 99<162 by decide);clear hfr hfo;go_simp;exact hK _ _ (Zr _ _) rfl
        ·obtain⟨_,Q,rfl⟩:=hfr ⟨8,.data⟩ (by simp) rfl _ 100 rfl rfl (show 100<162 by decide)
         clear hfr hfo;go_simp;exact hK _ _ (Zr _ _) rfl
       ·cases Y with
        |false=>rcases ax with rfl|rfl|rfl|rfl|rfl|rfl|rfl<;>exact WB (Qj (by kernel_rfl)) 9 true 101 false (by kernel_rfl) (by kernel_rfl) (by kernel_rfl) (by kernel_rfl) (fun v h=>h) rfl nofun
        |
         true=>
         rcases ax with rfl|rfl|rfl|rfl|rfl|rfl|rfl<;>refine Kt rfl (Qj (by kernel_rfl)) 9 true 101 (by kernel_rfl) (by kernel_rfl) (by kernel_rfl) (by kernel_rfl) (fun v h=>h) ?_<;>intro J D fr hfr hfo K hK
         ·have Q:fr.tmps[9]? =some (.pointer (some ⟨eb,0,none⟩)):=hfo 9 (by kernel_rfl)
          clear hfr hfo;go_simp;exact hK _ _ (Zr _ _) (fun _=>rfl)
         ·obtain⟨v0,Q,ad⟩:=hfr ⟨10,.data⟩ (by simp) rfl _ 102 rfl rfl (show 102<162 by decide)
          obtain rfl:v0= .pointer (some ⟨eb,0,none⟩):=ad rfl;clear hfr hfo;obtain⟨a8,a9,ba⟩:=aJ.out _ D;go_simp;exact hK _ _ (Zr _ _) (fun _=>rfl)
         ·have Q:fr.tmps[0]? =some (.pointer (some ⟨p,0,none⟩)):=hfo 0 (by kernel_rfl)
          clear hfr hfo;go_simp;exact hK _ _ (Zr _ _) (fun _=>rfl)
         ·obtain⟨v0,Q,ad⟩:=hfr ⟨12,.data⟩ (by simp) rfl _ 104 rfl rfl (show 104<162 by decide)
          obtain rfl:v0= .pointer (some ⟨p,0,none⟩):=ad rfl;clear hfr hfo;go_simp;exact hK _ _ (Zr _ _) (fun _=>rfl)
         ·obtain⟨v0,Q,ad⟩:=hfr ⟨13,.data⟩ (by simp) rfl _ 105 rfl rfl (show 105<162 by decide)
          obtain rfl:v0= .pointer (some ⟨p,0,none⟩):=ad rfl;clear hfr hfo;go_simp;exact hK _ _ (Zr _ _) (fun _=>rfl)
         ·obtain⟨v0,Q,ad⟩:=hfr ⟨14,.data⟩ (by simp) rfl _ 106 rfl rfl (show 106<162 by decide)
          obtain rfl:v0= .pointer (some ⟨p,6,none⟩):=ad rfl;clear hfr hfo;obtain⟨a8,a9,ba⟩:=aJ.out _ D;go_simp;exact hK _ _ (Zr _ _) (fun _=>rfl)
         ·obtain⟨v0,Q,ad⟩:=hfr ⟨11,.data⟩ (by simp) rfl _ 103 rfl rfl (show 103<162 by decide)
          obtain rfl:v0= .int .u64 I:=ad rfl;obtain⟨v1,e1,bs⟩:=hfr ⟨15,.data⟩ (by simp) rfl _ 107 rfl rfl (show 107<162 by decide);obtain rfl:v1= .int .u64 c.commit:=bs rfl;clear hfr hfo;go_simp;exact hK _ _ (Zr _ _) (fun _=>rfl)
       ·obtain rfl:=ax;refine XM rfl (Qj (by kernel_rfl)) ?_;intro J D fr hfr hfo K hK
        obtain⟨_,Q,rfl⟩:=hfr ⟨9,.data⟩ (by simp) rfl _ 101 rfl rfl (show 101<162 by decide);obtain⟨v1,e1,bs⟩:=hfr ⟨16,.data⟩ (by simp) rfl _ 108 rfl rfl (show 108<162 by decide);clear hfr hfo
        cases Y
        ·go_simp
         exact hK _ _ (Zr _ _) rfl
        ·obtain rfl:v1= .bool aw:=bs rfl
         go_simp;exact hK _ _ (Zr _ _) rfl
      case hend=>
       intro cK U er bR bd;have dg:=bd.1;have bN:U 17= .bool (Y&&aw):=bd.2 17 (bR 17 (show (17:Nat)<18 by decide));clear bR bd;simp only[Z6,Act.put,List.setIfInBounds_toArray,List.set_cons_zero,List.set_cons_succ];rw[bN];generalize U 0=dv,U 1=dw,U 2=y2,U 3=y3,U 4=y4,U 5=au,U 6=y6,U 7=y7,U 8=y8,U 9=y9,U 10=y10,U 11=y11,U 12=y12,U 13=y13,U 14=y14,U 15=y15,U 16=y16 at*
       clear U cK bN;go_wp2_with fail;go_meet
       case rel=>exact⟨by rw[aF],dg⟩
     case rest=>
      obtain⟨rfl,Z⟩:=hcut;obtain⟨w5,rfl⟩: ∃x,x=wc:=⟨_,rfl⟩
      have aL:=Zh (an.out.trans Z (fun _ _ f=>f));have dv:=aY.out _ Z;have dw:=bw.out _ Z;have au:=aW.out _ aL.out;have dx:Hid (∀w',Qa (fun _=>False) w5 w'->w'.cell? ⟨eb,0,none⟩=some (.int .u64 I)):=Zh (fun w' D=>aY.out _ (Z.trans D (fun _ _ f=>f)));have cs:Hid (∀w',Qa (fun _=>False) w5 w'->w'.cell? ⟨eb,1,none⟩=some (.int .u64 aV)):=Zh (fun w' D=>bw.out _ (Z.trans D (fun _ _ f=>f)));clear Z dt du bK bL ai di;by_cases hin:c.bi<I/\I<=c.commit
      ·have aF:decide (c.bi<I/\I<=c.commit)=true:=decide_eq_true hin
       rw[aF];have ai:=(Zr (fun _=>False) w5).drew;have ce:=aL.out.trans ai (fun _ _ f=>f);have dk:I<=1000000:=by omega
       go_upto_region 15 with fail
       go_cut [10] (fun s J=>s= .int .u64 ((Qu c.bi c.bt c.l I).getD 0:Nat)/\Qa (fun _=>False) w5 J)
       case first=>
        go_region_with (go_at_call 101;refine (cG.out _ _ ce dk).mono ?_;rintro e w6 ⟨rfl,ah⟩;unfold XT)
        all_goals
         go_wp2_with fail;go_meet
         case rel=>exact⟨rfl,ai.trans ah (fun _ _ f=>f)⟩
       case rest=>
        obtain⟨rfl,ah⟩:=hcut;obtain⟨w6,rfl⟩: ∃x,x=wc:=⟨_,rfl⟩
        have av:=Zh (aL.out.trans ah (fun _ _ f=>f));have ey:=cs.out _ ah;clear ah ai ce;by_cases hte:(Qu c.bi c.bt c.l I).getD 0=aV
        ·have aa:c.Qai m k=false:=by
          rw[aX.out];exact decide_eq_false (fun h=>h.2.2 hte)
         rw[hte];go_wp2_with fail;refine⟨⟨k+1,by go_num,by omega,fun j az=> ?_,av.out⟩,by simp[Go.RowKit.intOf];omega⟩;rcases Nat.lt_or_ge j k with h|h
         ·exact a1.out j h
         ·rw[show j=k by omega];exact aa
        ·have aa:c.clash m=true:=QkH hlt' (by
          rw[aX.out];exact decide_eq_true ⟨hin.1,hin.2,hte⟩)
         have am:Hid (c.led frm m o=(c.XR frm,o)):=Zh (by
          unfold Core.led;rw[if_neg h1,if_neg h2,if_neg (by omega)]
          dsimp only
          rw[if_pos aa];rfl)
         generalize (Qu c.bi c.bt c.l I).getD 0=ds at*
         have d7: ¬(ds:Int)=aV:=by omega
         go_wp2_with fail;refine bodyPost_ret (v:=.tuple #[]) (by simp[results,Tryz.results50]) rfl ⟨rfl,?_⟩;rw[am.out];exact QB.after (fun i W=>.inl W) aD.out (QB.Zl av.out (QB.refl (a2.out.Qc av.out)))
      ·have aF:decide (c.bi<I/\I<=c.commit)=false:=decide_eq_false hin
       rw[aF];have aa:c.Qai m k=false:=by
        rw[aX.out];exact decide_eq_false (fun h=>hin ⟨h.1,h.2.1⟩)
       go_wp2_with fail;refine⟨⟨k+1,by go_num,by omega,fun j az=> ?_,aL.out⟩,by simp[Go.RowKit.intOf];omega⟩;rcases Nat.lt_or_ge j k with h|h
       ·exact a1.out j h
       ·rw[show j=k by omega];exact aa
    ·have df: ¬(k:Int)< (m.es.length:Int):=by omega
     have aa:c.clash m=false:=QkG (fun j az=>a1.out j (by omega));have a0:=Zh (ct.out h1 h2 aa);have bu:=Zh (cr.out h1 h2 aa);have bZ:c.led frm m o=(if ZH c.bi c.bt c.l m.idx m.lt=true then W4 ((c.XR frm).took (if Xa c.bi c.bt c.l m.idx m.es 0=0 then c.l else c.l.take (Xa c.bi c.bt c.l m.idx m.es 0 - c.bi - 1)++m.es.drop (Xa c.bi c.bt c.l m.idx m.es 0 - m.idx - 1))) frm (m.idx+m.es.length) (Xa c.bi c.bt c.l m.idx m.es 0) true m.com o
      else W4 (c.XR frm) frm (KE c.bi c.l m.idx) 0 false m.com o):=by
      unfold Core.led;rw[if_neg h1,if_neg h2,if_neg (by omega)]
      dsimp only
      rw[if_neg (by rw[aa];simp)];split
      ·rfl
      ·rfl
     have am:=Zh bZ;clear bZ;have ai:=(Zr (fun _=>False) wr).drew;have Z:=ae.out.trans ai (fun _ _ f=>f);have a5:wr.cell? ⟨b,3,none⟩=some (.int .u64 m.idx):=(Qb (ae.out.keep ao.out (fun f=>f)) 3).trans cO;have a6:wr.cell? ⟨b,4,none⟩=some (.int .u64 m.lt):=(Qb (ae.out.keep ao.out (fun f=>f)) 4).trans cP;have a7:wr.cell? ⟨b,7,none⟩=some (.slice O m.es.length na):=(Qb (ae.out.keep ao.out (fun f=>f)) 7).trans bJ;have aN:=a2.out.Qc Z;have bc:=bx.out.Qc Z;have aP:m.idx+m.es.length<=100000:=by omega
     have b1:m.lt<=1000000/\ ∀e∈m.es,e.1<=1000000:=⟨by omega,fun e be=>by have:=bH.out e be;omega⟩
     obtain⟨dF,aU,ex,eh,dH,ek,dQ,aG,b6⟩:=aN.QeJ;have au:wr.cell? ⟨p,5,none⟩=some (.pointer (some ⟨aU,0,none⟩)):=aG.c5;have bC:Hid (Calls Tryz.prog 102 #[.pointer (some ⟨aU,0,none⟩),.int .u64 m.idx,.int .u64 m.lt,.slice O m.es.length na] wr.drew (fun e J=> ∃(en f:Nat) (ac:Bool) (M:Core) (aj:Nat->Prop),e= .returned (.tuple #[.int .u64 (en:Int),.int .u64 (f:Int),.bool ac])/\J.cell? ⟨p,5,none⟩=some (.pointer (some ⟨aU,0,none⟩))/\St J aj p q M o/\(∀i,aj i->S i\/wr.drew.heap.size<=i)/\Qa S wr.drew J/\en<=100000/\M.commit=c.commit/\c.led frm m o=W4 M frm en f ac m.com o/\Fit (W4 M frm en f ac m.com o).1)):=Zh (by
      have af:=am.out;by_cases hag:ZH c.bi c.bt c.l m.idx m.lt=true
      ·rw[if_pos hag] at af
       refine (QpF aG.log bc ch bF.out aP b1 bu.out hag).mono ?_
       rintro e J (⟨j,az,dc,bj,b0⟩|⟨bj,rfl,aq⟩)
       ·have bg:=Qlj (c:=c) az dc bj
        rw[bg,if_neg (by omega),show m.idx+j+1 - c.bi - 1=m.idx+j - c.bi by omega,show m.idx+j+1 - m.idx - 1=j by omega] at af;have ak:Fit (W4 ((c.XR frm).took (c.l.take (m.idx+j - c.bi)++m.es.drop j)) frm (m.idx+m.es.length) (m.idx+j+1) true m.com o).1:=by rw[<-af];exact a0.out
        have dd:Fit ((c.XR frm).took (c.l.take (m.idx+j - c.bi)++m.es.drop j)):=by
         have c8:=aZ.out.bi;exact QlZ (x:=c.commit) ak c8.2.1 (Nat.le_max_left _ _)
        obtain⟨be,aj,c1,c3,c4⟩:=b6 J ((c.XR frm).took (c.l.take (m.idx+j - c.bi)++m.es.drop j)) _ e b0 (fun _ _=>rfl) rfl rfl dd;obtain⟨_,_,_,_,_,_,_,dj⟩:=b0;exact⟨m.idx+m.es.length,m.idx+j+1,true,_,aj,be,Qe dj au (fun de=>(aG.sl p de).2.1 rfl),c1,c3,c4,aP,rfl,af,ak⟩
       ·have bg:=Qlk (c:=c) bj
        rw[bg,if_pos rfl] at af;have ak:Fit (W4 ((c.XR frm).took c.l) frm (m.idx+m.es.length) 0 true m.com o).1:=by rw[<-af];exact a0.out
        exact⟨m.idx+m.es.length,0,true,(c.XR frm).took c.l,S,rfl,Qe aq au (fun f=>f),aN.Qc aq,fun i W=>.inl W,aq.mono (fun _ _ f=>f.elim),aP,rfl,af,ak⟩
      ·have c7:ZH c.bi c.bt c.l m.idx m.lt=false:=by simpa using hag
       rw[if_neg hag] at af;refine (QpB aG.log bc ch bF.out aP b1 bu.out c7).mono ?_
       rintro e J ⟨rfl,aq⟩;have ak:Fit (W4 (c.XR frm) frm (KE c.bi c.l m.idx) 0 false m.com o).1:=by rw[<-af];exact a0.out
       refine⟨KE c.bi c.l m.idx,0,false,c.XR frm,S,rfl,Qe aq au (fun f=>f),aN.Qc aq,fun i W=>.inl W,aq.mono (fun _ _ f=>f.elim),?_,rfl,af,ak⟩;have:c.last<=20000:=da.2.1;unfold Core.last lastOf at this;unfold KE;split
       ·omega
       ·split<;>omega)
     have cw:Hid (∀J,Qa S wr.drew J->J.cell? ⟨b,3,none⟩=some (.int .u64 m.idx)/\J.cell? ⟨b,4,none⟩=some (.int .u64 m.lt)/\J.cell? ⟨b,7,none⟩=some (.slice O m.es.length na)):=Zh (fun J D=>⟨Qe D a5 ay,Qe D a6 ay,Qe D a7 ay⟩);clear aG b6 aN bc;go_upto_region 18 with fail
     go_cut [12,13,14] (fun dp dq dr J=> ∃(en f:Nat) (ac:Bool) (M:Core) (aj:Nat->Prop),dp= .int .u64 (en:Int)/\dq= .int .u64 (f:Int)/\dr= .bool ac/\St J aj p q M o/\(∀i,aj i->S i\/wr.drew.heap.size<=i)/\Qa S wr.drew J/\en<=100000/\M.commit=c.commit/\c.led frm m o=W4 M frm en f ac m.com o/\Fit (W4 M frm en f ac m.com o).1)
     case first=>
      first|(go_region_held3 (fun w'=>w'.cell? ⟨p,5,none⟩=some (.pointer (some ⟨aU,0,none⟩))/\w'.cell? ⟨b,3,none⟩=some (.int .u64 m.idx)/\w'.cell? ⟨b,4,none⟩=some (.int .u64 m.lt)/\w'.cell? ⟨b,7,none⟩=some (.slice O m.es.length na)) (first|exact⟨au,a5,a6,a7⟩|exact⟨by assumption,by assumption,by assumption,by assumption⟩) ((first|(go_at_call 102;refine bC.out.mono ?_;rintro e w6 ⟨en,f,ac,M,aj,rfl,hp5,hrest⟩;obtain⟨z3,z4,z7⟩:=cw.out _ hrest.2.2.1))))|fail
      all_goals
       go_wp2_with fail;go_meet
       case rel=>exact⟨en,f,ac,M,aj,rfl,rfl,rfl,hrest⟩
     case rest=>
      obtain⟨en,f,ac,M,cL,rfl,rfl,rfl,cb,aR,ah,dZ,dY,bX,ak⟩:=hcut;obtain⟨w6,rfl⟩: ∃x,x=wc:=⟨_,rfl⟩
      have bS:=ah.keep (show wr.drew.heap[b]? =_ from ae.out.keep ao.out (fun f=>f)) ay;obtain⟨bp,aS,⟨eq,cT⟩,cZ⟩:=cb.Qdi f;have bT:=aS.keep bS (fun bo=>by
       rcases aR b bo with h|h
       ·exact ay h
       ·have:=Ql (ae.out.keep ao.out (fun f=>f))
        have e:wr.drew.heap.size=wr.heap.size:=rfl;omega)
      have a3:=Zh bp;have cp:=Zh bT;have bz:=Zh bX;have cu:=Zh ak;have dB:=Zh (QB.Zl (S:=S) (p:=p) (q:=q) (c':=M) (o':={o with frm:=f}) Z (QB.after aR ah ⟨cL,bp,fun i W=>.inl W,aS⟩));have bG:=Zh aR;have av:=Zh ah;have bI:=Zh aS;clear cb bp bS bT bX ak aR ah aS a5 a6 a7 au bC ai;go_upto_region 20 with fail
      generalize w6.setCell ⟨q,2,none⟩ (.int .u64 (f:Int))=w7 at*
      clear cT cZ
      cases ac with
      |
       false=>
       have aC:=Zh (Qaq a3.out frm 4 en false (by show o.sends.length<20000;omega));go_wp2_with fail;refine aC.out.mono ?_
       rintro e w8 ⟨rfl,b4⟩;have cC:=Zh b4;clear b4;go_wp2_with fail;refine bodyPost_ret (v:=.tuple #[]) (by simp[results,Tryz.results50]) rfl ⟨rfl,?_⟩;rw[bz.out];exact QB.after (fun i W=>.inl W) aD.out (QB.Zl Z (QB.after bG.out av.out (QB.after (fun i W=>.inl W) bI.out cC.out)))
      |
       true=>
       obtain⟨X,bQ⟩: ∃X,X=max M.commit (min m.com en):=⟨_,rfl⟩
       have bV:Fit (M.upTo X):=by rw[bQ];exact cu.out
       have bY:c.led frm m o=(M.upTo X,(M.upTo X).Zk frm 4 true en {o with frm:=f}):=by rw[bQ];exact bz.out
       obtain⟨aH,aI,aQ,dX,d9⟩:=a3.out.Z1;have em:w7.cell? ⟨p,6,none⟩=some (.int .u64 M.commit):=Qb aQ 6;have dR:=Qg aQ 6 none;have dJ:=(Qb cp.out 5).trans cQ;have cv:=Zh bV;have cx:=Zh bY;have bE:=Zh aQ;clear bV bY aQ;go_upto_region 21 with fail
       go_cut [154] (fun _ J=>J.heap[p]? =some (.cells ((QK M aH aI (QM q)).setIfInBounds 6 (.int .u64 X)) 126 (0,0))/\Qa (fun i=>i=p) w7 J)
       case first=>
        go_region
        all_goals
         go_wp2_with fail;go_meet
         case rel=>
          have cV:max (c.commit:Int) (min (m.com:Int) (en:Int))=(X:Int):=by omega
          rw[cV];exact⟨Qi (o:=6) bE.out (.int .u64 (X:Int)),((Zr (fun i=>i=p) w7).setCell (p:=⟨p,6,none⟩) (fun _=>rfl) _).drew⟩
       case rest=>
        obtain⟨b8,cf⟩:=hcut;obtain⟨w8,rfl⟩: ∃x,x=wc:=⟨_,rfl⟩
        have ap:=a3.out.set (c':=M.upTo X) cf (fun ab aA bk=>by
         have e:=(bE.out).symm.trans bk;simp only[Option.some.injEq,Obj.cells.injEq,and_true] at e;have cU:(QK M aH aI (QM q))[5]? =(QK M ab aA (QM q))[5]? :=by rw[e]
         have e11:(QK M aH aI (QM q))[11]? =(QK M ab aA (QM q))[11]? :=by rw[e]
         have bM:aH=ab:=by
          have:some (Value.pointer (some ⟨aH,0,none⟩))=some (Value.pointer (some ⟨ab,0,none⟩)):=cU
          simpa using this
         have c0:aI=aA:=by
          have:some (Value.map (some aI))=some (Value.map (some aA)):=e11
          simpa using this
         subst bM;subst c0;exact b8) rfl rfl rfl rfl rfl cv.out
        have cF:=Zh ap.1;have cH:=Zh ap.2;have aC:=Zh (Qaq cF.out frm 4 en true (by show o.sends.length<20000;omega));clear ap b8 cf;go_wp2_with fail;refine aC.out.mono ?_
        rintro e w9 ⟨rfl,b5⟩;have cD:=Zh b5;clear b5;go_wp2_with fail;refine bodyPost_ret (v:=.tuple #[]) (by simp[results,Tryz.results50]) rfl ⟨rfl,?_⟩;rw[cx.out];exact QB.after (fun i W=>.inl W) aD.out (QB.Zl Z (QB.after bG.out av.out (QB.after (fun i W=>.inl W) bI.out (QB.after (fun i W=>.inl W) cH.out cD.out))))
end
section
open Go.RowKit Go.Acre
attribute [local go_sem ↓] LcG ScG
attribute [local go_sem] Sc1 Sc2 Sc3 Lc2 Lc3
section
variable {w:World} {S:Nat->Prop} {p:Nat} {c:Core} {sv:Value} {lp yb mg:Nat} {SL:Nat->Prop} {mvl evl:Value} {n:Nat} {m:Mg} {A:Array Value} {ea:Option Addr} {ec:Nat} {mv:Value} {g:Nat}
set_option maxRecDepth 100000 in
theorem Qml(h:XD w S p c sv lp yb mg SL mvl evl)(N:XH w S n m A ea ec mv g)(Z:Qad m)(frm:Nat)(a1:frm<5)(hid:frm≠c.id)(av:m.kind=3):
  Calls Tryz.prog 46 #[.pointer (some ⟨p,0,none⟩),.int .i64 frm,.agg A] w (Qk (.bool true) w):=by
 have bs:A.size=58:=by rw[N.arr];rfl
 have Q:A[0]? =some (.int .i64 3):=by rw[N.arr,av];rfl
 have al:A[2]? =some (.int .u64 m.term):=by rw[N.arr];rfl
 have am:A[3]? =some (.int .u64 m.idx):=by rw[N.arr];rfl
 have an:A[4]? =some (.int .u64 m.lt):=by rw[N.arr];rfl
 have ao:A[5]? =some (.int .u64 m.com):=by rw[N.arr];rfl
 have ap:A[7]? =some (.slice ea m.es.length ec):=by rw[N.arr];rfl
 have ag:=h.row;have bC:=Ql ag;have aJ:=Zh N.Qq;have aL:=Zh (Qc2 frm a1);have bw: ¬(frm:Int)=c.id:=by omega
 obtain⟨bJ,bK⟩:=Z.term;obtain⟨bd,be,bg⟩:=Z.cap;obtain⟨bI,a4,aB,aC⟩:=Z.app av;have aO:=Zh aB;have aP:=Zh aC;clear h N Z aB aC;go_enter Tryz.func46,Tryz.ntmps46;go_upto_region 1 with fail
 have D:Qa Ze w (w.alloc (.cells A 76)):=(Zr _ w).alloc _;have I:=Qf (w:=w) (.cells A 76);have a5:(w.alloc (.cells A 76)).cell? ⟨p,0,none⟩=some (.int .i64 c.id):=Qb (D.keep ag (fun f=>f)) 0;generalize w.alloc (.cells A 76)=w1 at*
 generalize hb:w.heap.size=b at*
 have aT:=(Qb I 0).trans Q;have aq:=(Qb I 2).trans al;have aU:=(Qb I 3).trans am;have aV:=(Qb I 4).trans an;have aW:=(Qb I 5).trans ao;have ar:=(Qb I 7).trans ap;have ai:=Zh D;have ba:=Zh hb;clear D I Q al am an ao ap ag hb;have bq: ¬(m.term:Int)<1:=by omega
 go_wp2_with fail;refine (aL.out _).mono ?_
 rintro e w' ⟨rfl,rfl⟩;go_upto_region 6 with fail
 go_cut [12] (fun s a9=>s= .bool false/\a9=w1)
 case first=>
  obtain⟨v,a3,bB⟩:=Qiy w1 (m.term:Int) (m.idx:Int) (m.lt:Int) (m.com:Int);have br: ¬(1099511627776:Int)<v:=by omega
  clear a3;go_wp2_with fail
  all_goals
   go_meet
   case rel=>exact⟨rfl,rfl⟩
 case rest=>
  obtain⟨rfl,rfl⟩:=hcut;obtain⟨W,rfl⟩: ∃x,x=wc:=⟨_,rfl⟩
  have aH:=Zh (aJ.out.Qc ai.out);have aE:Hid (∀w',Qa Ze W w'->w'.cell? ⟨b,2,none⟩=some (.int .u64 m.term)):=Zh (fun w' D=>Qe D aq (fun f=>f));go_upto_region 9 with fail
  go_quiet (fail);have aa:=(Zr Ze W).drewN nq;have aI:=Zh (aH.out.Qc aa);have aQ:=Zh (ai.out.trans aa (fun _ _ f=>f));have aF:Hid (∀w',Qa Ze (W.drewN nq) w'->w'.cell? ⟨b,2,none⟩=some (.int .u64 m.term)):=Zh (fun w' D=>aE.out w' (aa.trans D (fun _ _ f=>f)));have bc:(W.drewN nq).cell? ⟨b,7,none⟩=some (.slice ea m.es.length ec):=ar;clear aT aq aU aV aW ar a5 aa;generalize W.drewN nq=wB at*
  go_wp2_with fail;go_loopw [7,8,52] (fun a6 a7 x wr=> ∃k t' M:Nat,M=m.idx+k/\a6= .int .u64 (M:Int)/\a7= .int .u64 (t':Int)/\x= .int .i64 k/\k<=m.es.length/\1<=t'/\t'<=1000000/\XP t' (m.es.drop k)/\Qa Ze wB wr) (fun _ _ x _=>m.es.length - (Go.RowKit.intOf x).toNat)
  case atStart=>exact⟨0,m.lt,m.idx,rfl,rfl,rfl,rfl,by omega,a4,by omega,aO.out,Zr _ _⟩
  case round=>
   obtain⟨k,t',M,az,rfl,rfl,rfl,bx,bE,bF,aw,D⟩:=hrel;have ad:=Zh az;clear az;by_cases hlt:k<m.es.length
   ·have a2:(k:Int)< (m.es.length:Int):=by omega
    have bz:(0:Int)<=k:=by omega
    obtain⟨g,o,rfl,ay⟩:=(aI.out.Qc D).range hlt;have bA:=aP.out m.es[k] (List.getElem_mem hlt);rw[List.drop_eq_getElem_cons hlt] at aw;obtain⟨bD,ax⟩:=aw;have ah:=Zh ay;have O:=Zh D;have aN:=Zh ax;have Q:=Wt (m.idx+k+1) m.es[k].1 m.es[k].2;have ak:=Qbm (m.idx+k+1) m.es[k].1 m.es[k].2;have aG:Hid (∀w',Calls Tryz.prog 85 #[.agg (Qh (m.idx+k+1) m.es[k].1 m.es[k].2)] w' (Qk (.bool true) w')):=Zh (fun w'=>Qgd _ _ _ w');have aK:Hid ((Qh (m.idx+k+1) m.es[k].1 m.es[k].2).toList.length =24):=Zh rfl;have ac:Hid ((Qh (m.idx+k+1) m.es[k].1 m.es[k].2).size =24):=Zh rfl;have aM:=Zh (Z3 (m.idx+k+1) m.es[k].1 m.es[k].2);clear ay D ax;generalize Qh (m.idx+k+1) m.es[k].1 m.es[k].2=E at*
    generalize m.es[k].1=U at*
    have I:=Qf (w:=wr) (.cells QG 116);go_upto_region 13 with (first|refine wpList_load_mid rfl 116 _ rfl _ _ rfl _ _ ah.out Tryz.underlying116 rfl (QaJ aK.out) ?_|refine wpList_store_row rfl 116 _ _ rfl _ _ rfl rfl _ _ I (Z4 ac.out) (by rw[ac.out];rfl) aM.out ?_)
    have ae:=Xr _ _ E I;have aj:=Zh (QL (O.out.alloc (.cells QG 116)) (g:=wr.heap.size) (fun h=>by have:=O.out.size;omega) E);change Code.wp _ _ _ _ (((wr.alloc (.cells QG 116)).setRow wr.heap.size E));clear I ah O;generalize (wr.alloc (.cells QG 116)).setRow wr.heap.size E=w3 at*
    generalize wr.heap.size=eb at*
    have e1:((m.idx+k:Nat):Int)+1=((m.idx+k+1:Nat):Int):=by omega
    have aZ: ¬(1099511627776:Int)< ((m.idx+k+1:Nat):Int):=by omega
    have bh: ¬(U:Int)< (t':Int):=by omega
    have bk: ¬(t':Int)<1:=by omega
    have bn: ¬(m.term:Int)< (U:Int):=by omega
    have aD:=Zh ae;have au:=ae;go_wp2_with (refine wpList_load_row rfl 116 _ rfl _ rfl _ _ _ _ au Tryz.underlying116 rfl (Z4 ac.out) ?_);refine (aG.out _).mono ?_
    rintro e a8 ⟨rfl,ab⟩;have af:=ab.keep aD.out (fun f=>f);have Y:=Qb af 0;have aY:=Qb af 1;rw[Q] at Y;rw[ak] at aY;have bb:=aF.out _ (aj.out.trans ab (fun _ _ f=>f));have aR:=Zh (aj.out.trans ab (fun _ _ f=>f));clear au af ae Q ak ab;have bH:M<=20000:=by have:=ad.out;omega
    rw[show m.idx+k+1=M+1 by have:=ad.out;omega] at Y;clear aZ e1;have aX:a8.cell? ⟨eb,0,none⟩=some (.int .u64 ((M:Int)+1)):=Y;obtain⟨J,aA⟩: ∃J:Int,(M:Int)+1=J:=⟨_,rfl⟩
    have aS:Hid (J=((M+1:Nat):Int)):=Zh (by omega);rw[aA] at aX;have a0: ¬(1099511627776:Int)<J:=by omega
    have bp:decide ((1099511627776:Int)<J)=false:=decide_eq_false a0;have bj:decide ((U:Int)< (t':Int))=false:=decide_eq_false (by omega);have bm:decide ((t':Int)<1)=false:=decide_eq_false (by omega);have bo:decide ((m.term:Int)< (U:Int))=false:=decide_eq_false (by omega);have bG:IntKind.u64.wrap ((M:Int)+1)=J:=by rw[IntWalk.u64_in _ (by omega)];exact aA
    have bu:(J==J)=true:=beq_self_eq_true J;have bv:(J != J)=false:=by simp
    clear Y;go_wp2_with fail;go_quiet (fail);go_wp2_with fail;exact⟨⟨k+1,U,M+1,by have:=ad.out;omega,congrArg _ aS.out,rfl,by go_num,by omega,by omega,by omega,aN.out,aR.out.drewN _⟩,by simp[Go.RowKit.intOf];omega⟩
   ·have a2: ¬(k:Int)< (m.es.length:Int):=by omega
    have O:=Zh D;go_wp2_with fail;go_ret;exact⟨rfl,aQ.out.trans O.out (fun _ _ f=>f)⟩
end
end
section
open Go.RowKit Go.Acre
attribute [local go_sem ↓] LcG ScG
attribute [local go_sem] Sc1 Sc2 Sc3 Lc2 Lc3
attribute [local go_sem] Kv Kw
theorem Qcw(c:Core)(t:Nat):(c.bump t).n =c.n:=by unfold Core.bump;split<;>rfl
theorem Qf2(c:Core)(t:Nat):(c.bump t).last =c.last:=by unfold Core.bump;split<;>rfl
theorem QkA(c:Core)(t:Nat):(c.bump t).yes =c.yes:=by unfold Core.bump;split<;>rfl
def Core.bumped(c:Core)(t:Nat):Core:={c with term:=t,vote:=none,role:=0,known:= -1}
theorem QkB(Y:Fit c)(E:c.term<t)(W:t<=20000):Fit (c.bumped t):=by
 obtain⟨I,M,N,Z,aa,O,Q,U,D,J⟩:=Y;exact⟨I,M,N,fun e=>(by cases e),Zz _,O,Q,U,⟨Zt D.1 (Nat.le_of_lt E),Zt D.2 (Nat.le_of_lt E)⟩,⟨W,J.2⟩⟩
def ZD(k:Nat):Nat:=if k=1 then 0 else if k=2 then 1 else if k=4 then 2 else if k=3 then 3 else 4
def Qdl:Array Value:= #[.int .i64 1,.func (.func 47) #[] #[],.int .i64 2,.func (.func 48) #[] #[],.int .i64 4,.func (.func 49) #[] #[],.int .i64 3,.func (.func 50) #[] #[],.int .i64 5,.func (.func 50) #[] #[]]
theorem XH.sub{m:Mg}(h:XH w S n m A O na mv g)(E: ∀i,T i->S i):XH w T n m A O na mv g:=
 ⟨h.arr,h.Qq,fun k I D=>h.far k I (E k D),h.mem.imp (fun⟨a,b,c⟩=>⟨a,b,fun D=>c (E g D)⟩) id⟩
theorem XD.heard{m:Mg}(h:XD w S p c Y na nb nc U Z va)(I:XH w S n m A O nd mv g)(E:Qad m)(frm:Nat)(D:frm<5)(hid:frm≠c.id):
  Calls Tryz.prog 46 #[.pointer (some ⟨p,0,none⟩),.int .i64 frm,.agg A] w (Qk (.bool true) w):=by
 by_cases hk:m.kind=3
 ·exact Qml h I E frm D hid hk
 ·exact Qmm h I E frm D hid hk
structure Qbd(c:Core)(frm:Nat)(m:Mg)(o:Ou):Prop where
 fm:Qad m
 fr:frm<c.n/\frm≠c.id
 last:c.last+1<=20000
 yes:c.yes.length+1<=20000
 fit5:m.kind=5->(c.bump m.term).commit <m.bi->Fit (((c.bump m.term).XR frm).QaC m.bi m.bt)
 fit3:m.kind=3-> ¬m.term< (c.bump m.term).term ->(c.bump m.term).role ≠2->(c.bump m.term).clash m=false->Fit ((c.bump m.term).led frm m o).1
 same3:m.kind=3-> ¬m.term< (c.bump m.term).term ->(c.bump m.term).role ≠2->(c.bump m.term).clash m=false->m.idx< (c.bump m.term).bi -> ∀k (hk:k<m.es.length),m.idx+k+1=(c.bump m.term).bi ->m.es[k].1=(c.bump m.term).bt
theorem QbW{m:Mg}(D:Qbd c frm m o)(h:St w S p q (c.bump m.term) o)(I:XH w S c.n m A O na mv g)(E:o.sends.length<19000):
  (m.kind=1->Calls Tryz.prog 47 #[.pointer (some ⟨p,0,none⟩),.pointer (some ⟨q,0,none⟩),.int .i64 frm,.agg A] w (QU (.tuple #[]) S p q (c.step frm m o).1 (c.step frm m o).2 w))/\
  (m.kind=2->Calls Tryz.prog 48 #[.pointer (some ⟨p,0,none⟩),.pointer (some ⟨q,0,none⟩),.int .i64 frm,.agg A] w (QU (.tuple #[]) S p q (c.step frm m o).1 (c.step frm m o).2 w))/\
  (m.kind=4->Calls Tryz.prog 49 #[.pointer (some ⟨p,0,none⟩),.pointer (some ⟨q,0,none⟩),.int .i64 frm,.agg A] w (QU (.tuple #[]) S p q (c.step frm m o).1 (c.step frm m o).2 w))/\
  (m.kind=3\/m.kind=5->Calls Tryz.prog 50 #[.pointer (some ⟨p,0,none⟩),.pointer (some ⟨q,0,none⟩),.int .i64 frm,.agg A] w (QU (.tuple #[]) S p q (c.step frm m o).1 (c.step frm m o).2 w)):=by
 obtain⟨M,Q⟩:=D.fr;have N:=h.fit.n;rw[Qcw] at N;refine⟨fun e=> ?_,fun e=> ?_,fun e=> ?_,fun e=> ?_⟩
 ·have e1:c.step frm m o=(c.bump m.term).asked frm m o:=by unfold Core.step;rw[if_pos e]
  rw[e1];exact Qkk h I frm (by omega) E
 ·have e1:c.step frm m o=(c.bump m.term).Zb frm m o:=by unfold Core.step;rw[if_neg (by omega),if_pos e]
  rw[e1];exact QrM h I frm (by omega) (by rw[Qf2];exact D.last) (by rw[QkA];exact D.yes) E
 ·have e1:c.step frm m o=(c.bump m.term).appended frm m o:=by unfold Core.step;rw[if_neg (by omega),if_neg (by omega),if_pos e]
  rw[e1];exact Qkg h I D.fm frm (by omega) (by rw[Qcw];exact M) E
 ·have e1:c.step frm m o=(c.bump m.term).led frm m o:=by unfold Core.step;rw[if_neg (by omega),if_neg (by omega),if_neg (by omega)]
  rw[e1];have J:XH w S (c.bump m.term).n m A O na mv g:=by rw[Qcw];exact I
  rcases e with e|e
  ·exact Qns h J D.fm e frm (by omega) (D.fit3 e) (D.same3 e) E
  ·exact Qnt h J D.fm e frm (by omega) (D.fit5 e) E
def Turn(pos:Nat)(S:Nat->Prop)(p q:Nat)(c':Core)(o':Ou)(w:World)(k:Nat)(w':World):Prop:=(k<=pos/\Qa Ze w w')\/(pos<k/\QB S p q c' o' w w')
theorem Turn.upd{pos:Nat}(h:Turn pos S p q c' o' w k w'):Qa S w w':=by
 rcases h with ⟨_,h⟩|⟨_,_,_,_,h⟩
 ·exact h.mono (fun _ _ f=>f.elim)
 ·exact h
theorem QB.Qov(h:QB S p q c' o' w w0)(D:Qa Ze w0 w'):QB S p q c' o' w w':=by
 obtain⟨E,I,J,M⟩:=h;exact⟨E,I.Qc D,J,M.trans (D.mono (T:=S) (fun _ _ f=>f.elim)) (fun _ _ h=>h)⟩
theorem Turn.pass{pos:Nat}(h:Turn pos S p q c' o' w k w0)(E:Qa Ze w0 w')(J:pos≠k):Turn pos S p q c' o' w (k+1) w':=by
 rcases h with ⟨I,D⟩|⟨I,D⟩
 ·exact .inl ⟨by omega,D.trans E (fun _ _ f=>f)⟩
 ·exact .inr ⟨by omega,D.Qov E⟩
theorem Turn.here{pos:Nat}(h:Turn pos S p q c' o' w pos w0):Qa Ze w w0:=by
 rcases h with ⟨_,D⟩|⟨E,_⟩
 ·exact D
 ·omega
theorem QqL(h:St w S p q c o){m:Mg}(aG:Qbd c frm m o)(av:XH w S c.n m A O na mv g)(aE:o.sends.length<19000)
  (aV:w.heap[nb]? =some (.cells #[.pointer (some ⟨p,0,none⟩)] 50 (0,0))) (aW:w.heap[nc]? =some (.cells #[.int .i64 (frm:Int)] 3 (0,0))) (aY:w.heap[nd]? =some (.cells A 76 (0,0))) (ak: ¬S nb) (ar: ¬S nc) (ac: ¬S nd):
  Calls Tryz.prog 45 #[.pointer (some ⟨q,0,none⟩),.pointer (some ⟨nb,0,none⟩),.pointer (some ⟨nc,0,none⟩),.pointer (some ⟨nd,0,none⟩)] w (fun e w'=>e= .returned (.tuple #[])/\QB S p q (c.step frm m o).1 (c.step frm m o).2 w w'):=by
 obtain⟨bU,be,bj,bZ,bV,b0,bX,aO,aU,ab,aD⟩:=h.open;have ap:A.size=58:=by rw[av.arr];rfl
 have aC:A[0]? =some (.int .i64 m.kind):=by rw[av.arr];rfl
 have aJ:A[2]? =some (.int .u64 m.term):=by rw[av.arr];rfl
 have a6:=Zh (aO.heard (av.sub aU) aG.fm frm (by have:=aD.n;have:=aG.fr;omega) aG.fr.2);have H:=Zh h;have a4:=Zh aD;have bn:=Zh av;have aa:=Zh aG;have bS:=Zh ab;have br:=Zh (aU p aO.sp);have a7:=Zh aO.row;have a2:=Zh aV;have a5:=Zh aW;have aQ:=Zh aY;have ae:w.cell? ⟨nb,0,none⟩=some (.pointer (some ⟨p,0,none⟩)):=Qb aV 0;have ao:w.cell? ⟨nc,0,none⟩=some (.int .i64 (frm:Int)):=Qb aW 0;have au:(LdC ⟨nd,0,none⟩ 58).run Tryz.prog w= .ok A w:=Xc aY ap;clear h av aG aO aU ab aD aV aW aY;go_enter Tryz.func45,Tryz.ntmps45;go_wp2_with fail;refine a6.out.mono ?_
 rintro e aw ⟨rfl,an⟩;have bv:=Zh an;have bW:aw.cell? ⟨nb,0,none⟩=some (.pointer (some ⟨p,0,none⟩)):=Qe an ae (fun f=>f);have bg:aw.cell? ⟨nd,2,none⟩=some (.int .u64 m.term):=(Qb (an.keep aQ.out (fun f=>f)) 2).trans aJ;have bh:aw.cell? ⟨p,3,none⟩=some (.int .u64 c.term):=Qb (an.keep a7.out (fun f=>f)) 3;have bp:=Zh (an.keep a7.out (fun f=>f));have bq:=Zh (H.out.Qc an);clear ae ao au an a6;go_upto_region 1 with fail
 go_cut [20] (fun s aP=>s= .bool (decide (c.term<m.term))/\Qa Ze aw aP)
 case first=>
  by_cases ab:c.term<m.term
  ·have bK:decide ((c.term:Int)< (m.term:Int))=true:=decide_eq_true (by omega)
   have al:decide (c.term<m.term)=true:=decide_eq_true ab;go_quiet (fail);go_wp2_with fail;go_meet
   case rel=>exact⟨by rw[al],(Zr _ aw).drewN _⟩
  ·have bK:decide ((c.term:Int)< (m.term:Int))=false:=decide_eq_false (by omega)
   have al:decide (c.term<m.term)=false:=decide_eq_false ab;go_quiet (fail);go_wp2_with fail;go_meet
   case rel=>exact⟨by rw[al],(Zr _ aw).drewN _⟩
 case rest=>
  obtain⟨rfl,aN⟩:=hcut;obtain⟨w2,rfl⟩: ∃x,x=wc:=⟨_,rfl⟩
  have aI:=Zh (bv.out.trans aN (fun _ _ f=>f));have a8:=Zh (bq.out.Qc aN);have ah:=Zh (aN.keep bp.out (fun f=>f));have a3:=Zh (aI.out.keep a2.out (fun f=>f));have bR:=Zh (aI.out.keep a5.out (fun f=>f));have bo:=Zh (aI.out.keep aQ.out (fun f=>f));have bg:w2.cell? ⟨nd,2,none⟩=some (.int .u64 m.term):=(Qb bo.out 2).trans aJ;have ae:w2.cell? ⟨nb,0,none⟩=some (.pointer (some ⟨p,0,none⟩)):=Qb a3.out 0;have bJ: ¬nb=p:=fun e=>ak (e▸br.out)
  clear aN;go_upto_if 20 with fail
  go_cut [20] (fun _ aP=>St aP S p q (c.bump m.term) o/\Qa S w2 aP)
  case first=>
   by_cases ab:c.term<m.term
   ·have al:decide (c.term<m.term)=true:=decide_eq_true ab
    rw[al];have bh:w2.cell? ⟨p,3,none⟩=some (.int .u64 c.term):=Qb ah.out 3;have bO:w2.cell? ⟨p,4,none⟩=some (.int .i64 (Qd c.vote)):=Qb ah.out 4;have bP:w2.cell? ⟨p,7,none⟩=some (.int .i64 c.role):=Qb ah.out 7;have bQ:w2.cell? ⟨p,8,none⟩=some (.int .i64 c.known):=Qb ah.out 8;have bF:=Qg ah.out 3 none;have bG:=Qg ah.out 4 none;have bH:=Qg ah.out 7 none;have bI:=Qg ah.out 8 none;have aq:c.bump m.term=c.bumped m.term:=by unfold Core.bump;rw[if_pos ab];rfl
    have a1:Qa (fun i=>i=p) w2 ((w2.setCell ⟨p,3,none⟩ (.int .u64 m.term)).setCell ⟨p,4,none⟩ (.int .i64 (-1))):=((Zr (fun i=>i=p) w2).setCell (p:=⟨p,3,none⟩) (fun _=>rfl) _).setCell (p:=⟨p,4,none⟩) (fun _=>rfl) _;have bc:=Qi (o:=4) (Qi (o:=3) ah.out (.int .u64 m.term)) (.int .i64 (-1));have bb:=a1.keep a3.out bJ;have am:=a8.out.set (c':={c with term:=m.term,vote:=none}) a1 (fun be bj aZ=>Qi (o:=4) (Qi (o:=3) aZ (.int .u64 m.term)) (.int .i64 (-1))) rfl rfl rfl rfl rfl (by
     have aD:=a4.out;have bL:=aa.out.fm.term;obtain⟨bw,aJ,bz,bA,bB,bC,bD,bE,a9,bx⟩:=aD;exact⟨bw,aJ,bz,bA,bB,bC,bD,bE,⟨Zt a9.1 (Nat.le_of_lt ab),Zt a9.2 (Nat.le_of_lt ab)⟩,⟨bL.2,bx.2⟩⟩)
    have aR:=Zh am.1;have aS:=Zh am.2;have aH:=Zh bc;have bk:=Zh bb;clear a1 bc bb am;go_upto_region 3 with fail
    generalize (w2.setCell ⟨p,3,none⟩ (.int .u64 m.term)).setCell ⟨p,4,none⟩ (.int .i64 (-1))=M at*
    have bP:M.cell? ⟨p,7,none⟩=some (.int .i64 c.role):=Qb aH.out 7;have bQ:M.cell? ⟨p,8,none⟩=some (.int .i64 c.known):=Qb aH.out 8;have bH:=Qg aH.out 7 none;have bI:=Qg aH.out 8 none;have ae:M.cell? ⟨nb,0,none⟩=some (.pointer (some ⟨p,0,none⟩)):=Qb bk.out 0;clear bh bO bF bG;go_region
    all_goals
     go_wp2_with fail;go_meet
     case rel=>
      have bN:Qa (fun i=>i=p) M ((M.setCell ⟨p,7,none⟩ (.int .i64 0)).setCell ⟨p,8,none⟩ (.int .i64 (-1))).drew :=(((Zr (fun i=>i=p) M).setCell (p:=⟨p,7,none⟩) (fun _=>rfl) _).setCell (p:=⟨p,8,none⟩) (fun _=>rfl) _).drew;have aM:=aR.out.set (c':=c.bumped m.term) bN (fun be bj aZ=>Qi (o:=8) (Qi (o:=7) aZ (.int .i64 0)) (.int .i64 (-1))) rfl rfl rfl rfl rfl (QkB a4.out ab (by have:=aa.out.fm.term;omega));rw[aq];exact⟨aM.1,aS.out.trans aM.2 (fun _ _ h=>h)⟩
   ·have al:decide (c.term<m.term)=false:=decide_eq_false ab
    rw[al];have aq:c.bump m.term=c:=by unfold Core.bump;rw[if_neg ab]
    go_wp2_with fail;go_meet
    case rel=>exact⟨by rw[aq];exact a8.out,Zr _ _⟩
  case rest=>
   obtain⟨am,bd⟩:=hcut;obtain⟨M,rfl⟩: ∃x,x=wc:=⟨_,rfl⟩
   have aR:=Zh am;have aS:=Zh bd;have bm:Hid (∀i,S i->i<M.heap.size):=Zh (fun i aX=>by
    obtain⟨_,_,_,_,_,_,_,_,_,h,_⟩:=am.open;exact h i aX)
   clear am bd bg ae;go_upto_block 0 with fail
   have a0:Qa Ze M (M.alloc (.cells Qdl 131)):=(Zr _ M).alloc _;have ba:=Qf (w:=M) (.cells Qdl 131);have bu:Hid (M.heap.size=M.heap.size):=Zh rfl;change Code.wp _ _ _ _ (M.alloc (.cells Qdl 131));generalize M.alloc (.cells Qdl 131)=w4 at*
   generalize aq:M.heap.size=tb at*
   have bT:=Zh aq;have aA:=Zh (aR.out.Qc a0);have aB:=Zh ((((aI.out.mono (T:=S) (fun _ _ f=>f.elim)).trans aS.out (fun _ _ h=>h)).trans (a0.mono (T:=S) (fun _ _ f=>f.elim)) (fun _ _ h=>h)));have ax:=Zh (aB.out.keep a2.out ak);have ay:=Zh (aB.out.keep a5.out ar);have ad:=Zh (aB.out.keep aQ.out ac);have az:=Zh (bn.out.upd aB.out (fun k _ h=>h));have bs:=Zh ba;have bM: ¬S tb:=fun aM=>by have:=bm.out tb aM;omega
   clear a0 ba aq bu;go_wp2_with fail;go_loopw [41] (fun x wr=> ∃k:Nat,x= .int .i64 k/\k<=5/\Turn (ZD m.kind) S p q (c.step frm m o).1 (c.step frm m o).2 w4 k wr) (fun x _=>5 - (Go.RowKit.intOf x).toNat)
   case atStart=>exact⟨0,rfl,by omega,.inl ⟨Zz _,Zr _ _⟩⟩
   case round=>
    obtain⟨k,rfl,bY,aT⟩:=hrel;have N:=Zh aT;have Q:=aT.upd.keep bs.out bM;clear aT;rcases (show k=0\/k=1\/k=2\/k=3\/k=4\/k=5 by omega) with rfl|rfl|rfl|rfl|rfl|rfl
    ·
     have t0:wr.cell? ⟨tb,0,none⟩=some (.int .i64 1):=Qb Q 0;have aj:wr.cell? ⟨tb,1,none⟩=some (.func (.func 47) #[] #[]):=Qb Q 1;have U:=Zh (Qf (w:=wr) (.cells #[.int .i64 1,.func (.func 47) #[] #[]] 131));have J:Hid (Qa Ze wr (wr.alloc (.cells #[.int .i64 1,.func (.func 47) #[] #[]] 131))):=Zh ((Zr Ze wr).alloc _);clear Q;go_upto_region 8 with fail
     generalize wr.alloc (.cells #[.int .i64 1,.func (.func 47) #[] #[]] 131)=w5 at*
     generalize wr.heap.size=eb at*
     have aK:w5.cell? ⟨eb,0,none⟩=some (.int .i64 1):=Qb U.out 0;have e1:w5.cell? ⟨eb,1,none⟩=some (.func (.func 47) #[] #[]):=Qb U.out 1;have D:=N.out.upd.trans (J.out.mono (T:=S) (fun _ _ f=>f.elim)) (fun _ _ h=>h);have ai:w5.cell? ⟨nd,0,none⟩=some (.int .i64 m.kind):=(Qb (D.keep ad.out ac) 0).trans aC;have ae:w5.cell? ⟨nb,0,none⟩=some (.pointer (some ⟨p,0,none⟩)):=Qb (D.keep ax.out ak) 0;have ao:w5.cell? ⟨nc,0,none⟩=some (.int .i64 (frm:Int)):=Qb (D.keep ay.out ar) 0;have au:(LdC ⟨nd,0,none⟩ 58).run Tryz.prog w5= .ok A w5:=Xc (D.keep ad.out ac) ap;clear D t0 aj;by_cases hk:m.kind=1
     ·have E:ZD m.kind=0:=by rw[hk];rfl
      have Z:=(E▸N.out:Turn 0 S p q (c.step frm m o).1 (c.step frm m o).2 w4 0 wr).here;have I:=Zh (Z.trans J.out (fun _ _ f=>f));have af:=Zh ((QbW aa.out (aA.out.Qc I.out) (az.out.Qc I.out) aE).1 (by omega));have W:(m.kind:Int)=1:=by omega
      rw[W] at ai;clear Z;go_wp2_with fail;refine af.out.mono ?_
      rintro e w6 ⟨rfl,Y⟩;have ag:=Zh Y;clear Y;go_wp2_with fail;exact⟨⟨0+1,by go_num,by omega,.inr ⟨by omega,QB.Zl I.out ag.out⟩⟩,by simp[Go.RowKit.intOf]⟩
     ·have W: ¬((1:Int)=m.kind):=by omega
      have aL:((1:Int)==(m.kind:Int))=false:=by simp;omega
      have E:ZD m.kind≠0:=by
       have aF:=aa.out.fm.kind;unfold ZD
       (repeat' split)<;>omega
      go_wp2_with fail;exact⟨⟨0+1,by go_num,by omega,N.out.pass J.out E⟩,by simp[Go.RowKit.intOf]⟩
    ·
     have t0:wr.cell? ⟨tb,2,none⟩=some (.int .i64 2):=Qb Q 2;have aj:wr.cell? ⟨tb,3,none⟩=some (.func (.func 48) #[] #[]):=Qb Q 3;have U:=Zh (Qf (w:=wr) (.cells #[.int .i64 2,.func (.func 48) #[] #[]] 131));have J:Hid (Qa Ze wr (wr.alloc (.cells #[.int .i64 2,.func (.func 48) #[] #[]] 131))):=Zh ((Zr Ze wr).alloc _);clear Q;go_upto_region 8 with fail
     generalize wr.alloc (.cells #[.int .i64 2,.func (.func 48) #[] #[]] 131)=w5 at*
     generalize wr.heap.size=eb at*
     have aK:w5.cell? ⟨eb,0,none⟩=some (.int .i64 2):=Qb U.out 0;have e1:w5.cell? ⟨eb,1,none⟩=some (.func (.func 48) #[] #[]):=Qb U.out 1;have D:=N.out.upd.trans (J.out.mono (T:=S) (fun _ _ f=>f.elim)) (fun _ _ h=>h);have ai:w5.cell? ⟨nd,0,none⟩=some (.int .i64 m.kind):=(Qb (D.keep ad.out ac) 0).trans aC;have ae:w5.cell? ⟨nb,0,none⟩=some (.pointer (some ⟨p,0,none⟩)):=Qb (D.keep ax.out ak) 0;have ao:w5.cell? ⟨nc,0,none⟩=some (.int .i64 (frm:Int)):=Qb (D.keep ay.out ar) 0;have au:(LdC ⟨nd,0,none⟩ 58).run Tryz.prog w5= .ok A w5:=Xc (D.keep ad.out ac) ap;clear D t0 aj;by_cases hk:m.kind=2
     ·have E:ZD m.kind=1:=by rw[hk];rfl
      have Z:=(E▸N.out:Turn 1 S p q (c.step frm m o).1 (c.step frm m o).2 w4 1 wr).here;have I:=Zh (Z.trans J.out (fun _ _ f=>f));have af:=Zh ((QbW aa.out (aA.out.Qc I.out) (az.out.Qc I.out) aE).2.1 (by omega));have W:(m.kind:Int)=2:=by omega
      rw[W] at ai;clear Z;go_wp2_with fail;refine af.out.mono ?_
      rintro e w6 ⟨rfl,Y⟩;have ag:=Zh Y;clear Y;go_wp2_with fail;exact⟨⟨1+1,by go_num,by omega,.inr ⟨by omega,QB.Zl I.out ag.out⟩⟩,by simp[Go.RowKit.intOf]⟩
     ·have W: ¬((2:Int)=m.kind):=by omega
      have aL:((2:Int)==(m.kind:Int))=false:=by simp;omega
      have E:ZD m.kind≠1:=by
       have aF:=aa.out.fm.kind;unfold ZD
       (repeat' split)<;>omega
      go_wp2_with fail;exact⟨⟨1+1,by go_num,by omega,N.out.pass J.out E⟩,by simp[Go.RowKit.intOf]⟩
    ·
     have t0:wr.cell? ⟨tb,4,none⟩=some (.int .i64 4):=Qb Q 4;have aj:wr.cell? ⟨tb,5,none⟩=some (.func (.func 49) #[] #[]):=Qb Q 5;have U:=Zh (Qf (w:=wr) (.cells #[.int .i64 4,.func (.func 49) #[] #[]] 131));have J:Hid (Qa Ze wr (wr.alloc (.cells #[.int .i64 4,.func (.func 49) #[] #[]] 131))):=Zh ((Zr Ze wr).alloc _);clear Q;go_upto_region 8 with fail
     generalize wr.alloc (.cells #[.int .i64 4,.func (.func 49) #[] #[]] 131)=w5 at*
     generalize wr.heap.size=eb at*
     have aK:w5.cell? ⟨eb,0,none⟩=some (.int .i64 4):=Qb U.out 0;have e1:w5.cell? ⟨eb,1,none⟩=some (.func (.func 49) #[] #[]):=Qb U.out 1;have D:=N.out.upd.trans (J.out.mono (T:=S) (fun _ _ f=>f.elim)) (fun _ _ h=>h);have ai:w5.cell? ⟨nd,0,none⟩=some (.int .i64 m.kind):=(Qb (D.keep ad.out ac) 0).trans aC;have ae:w5.cell? ⟨nb,0,none⟩=some (.pointer (some ⟨p,0,none⟩)):=Qb (D.keep ax.out ak) 0;have ao:w5.cell? ⟨nc,0,none⟩=some (.int .i64 (frm:Int)):=Qb (D.keep ay.out ar) 0;have au:(LdC ⟨nd,0,none⟩ 58).run Tryz.prog w5= .ok A w5:=Xc (D.keep ad.out ac) ap;clear D t0 aj;by_cases hk:m.kind=4
     ·have E:ZD m.kind=2:=by rw[hk];rfl
      have Z:=(E▸N.out:Turn 2 S p q (c.step frm m o).1 (c.step frm m o).2 w4 2 wr).here;have I:=Zh (Z.trans J.out (fun _ _ f=>f));have af:=Zh ((QbW aa.out (aA.out.Qc I.out) (az.out.Qc I.out) aE).2.2.1 (by omega));have W:(m.kind:Int)=4:=by omega
      rw[W] at ai;clear Z;go_wp2_with fail;refine af.out.mono ?_
      rintro e w6 ⟨rfl,Y⟩;have ag:=Zh Y;clear Y;go_wp2_with fail;exact⟨⟨2+1,by go_num,by omega,.inr ⟨by omega,QB.Zl I.out ag.out⟩⟩,by simp[Go.RowKit.intOf]⟩
     ·have W: ¬((4:Int)=m.kind):=by omega
      have aL:((4:Int)==(m.kind:Int))=false:=by simp;omega
      have E:ZD m.kind≠2:=by
       have aF:=aa.out.fm.kind;unfold ZD
       (repeat' split)<;>omega
      go_wp2_with fail;exact⟨⟨2+1,by go_num,by omega,N.out.pass J.out E⟩,by simp[Go.RowKit.intOf]⟩
    ·
     have t0:wr.cell? ⟨tb,6,none⟩=some (.int .i64 3):=Qb Q 6;have aj:wr.cell? ⟨tb,7,none⟩=some (.func (.func 50) #[] #[]):=Qb Q 7;have U:=Zh (Qf (w:=wr) (.cells #[.int .i64 3,.func (.func 50) #[] #[]] 131));have J:Hid (Qa Ze wr (wr.alloc (.cells #[.int .i64 3,.func (.func 50) #[] #[]] 131))):=Zh ((Zr Ze wr).alloc _);clear Q;go_upto_region 8 with fail
     generalize wr.alloc (.cells #[.int .i64 3,.func (.func 50) #[] #[]] 131)=w5 at*
     generalize wr.heap.size=eb at*
     have aK:w5.cell? ⟨eb,0,none⟩=some (.int .i64 3):=Qb U.out 0;have e1:w5.cell? ⟨eb,1,none⟩=some (.func (.func 50) #[] #[]):=Qb U.out 1;have D:=N.out.upd.trans (J.out.mono (T:=S) (fun _ _ f=>f.elim)) (fun _ _ h=>h);have ai:w5.cell? ⟨nd,0,none⟩=some (.int .i64 m.kind):=(Qb (D.keep ad.out ac) 0).trans aC;have ae:w5.cell? ⟨nb,0,none⟩=some (.pointer (some ⟨p,0,none⟩)):=Qb (D.keep ax.out ak) 0;have ao:w5.cell? ⟨nc,0,none⟩=some (.int .i64 (frm:Int)):=Qb (D.keep ay.out ar) 0;have au:(LdC ⟨nd,0,none⟩ 58).run Tryz.prog w5= .ok A w5:=Xc (D.keep ad.out ac) ap;clear D t0 aj;by_cases hk:m.kind=3
     ·have E:ZD m.kind=3:=by rw[hk];rfl
      have Z:=(E▸N.out:Turn 3 S p q (c.step frm m o).1 (c.step frm m o).2 w4 3 wr).here;have I:=Zh (Z.trans J.out (fun _ _ f=>f));have af:=Zh ((QbW aa.out (aA.out.Qc I.out) (az.out.Qc I.out) aE).2.2.2 (by omega));have W:(m.kind:Int)=3:=by omega
      rw[W] at ai;clear Z;go_wp2_with fail;refine af.out.mono ?_
      rintro e w6 ⟨rfl,Y⟩;have ag:=Zh Y;clear Y;go_wp2_with fail;exact⟨⟨3+1,by go_num,by omega,.inr ⟨by omega,QB.Zl I.out ag.out⟩⟩,by simp[Go.RowKit.intOf]⟩
     ·have W: ¬((3:Int)=m.kind):=by omega
      have aL:((3:Int)==(m.kind:Int))=false:=by simp;omega
      have E:ZD m.kind≠3:=by
       have aF:=aa.out.fm.kind;unfold ZD
       (repeat' split)<;>omega
      go_wp2_with fail;exact⟨⟨3+1,by go_num,by omega,N.out.pass J.out E⟩,by simp[Go.RowKit.intOf]⟩
    ·
     have t0:wr.cell? ⟨tb,8,none⟩=some (.int .i64 5):=Qb Q 8;have aj:wr.cell? ⟨tb,9,none⟩=some (.func (.func 50) #[] #[]):=Qb Q 9;have U:=Zh (Qf (w:=wr) (.cells #[.int .i64 5,.func (.func 50) #[] #[]] 131));have J:Hid (Qa Ze wr (wr.alloc (.cells #[.int .i64 5,.func (.func 50) #[] #[]] 131))):=Zh ((Zr Ze wr).alloc _);clear Q;go_upto_region 8 with fail
     generalize wr.alloc (.cells #[.int .i64 5,.func (.func 50) #[] #[]] 131)=w5 at*
     generalize wr.heap.size=eb at*
     have aK:w5.cell? ⟨eb,0,none⟩=some (.int .i64 5):=Qb U.out 0;have e1:w5.cell? ⟨eb,1,none⟩=some (.func (.func 50) #[] #[]):=Qb U.out 1;have D:=N.out.upd.trans (J.out.mono (T:=S) (fun _ _ f=>f.elim)) (fun _ _ h=>h);have ai:w5.cell? ⟨nd,0,none⟩=some (.int .i64 m.kind):=(Qb (D.keep ad.out ac) 0).trans aC;have ae:w5.cell? ⟨nb,0,none⟩=some (.pointer (some ⟨p,0,none⟩)):=Qb (D.keep ax.out ak) 0;have ao:w5.cell? ⟨nc,0,none⟩=some (.int .i64 (frm:Int)):=Qb (D.keep ay.out ar) 0;have au:(LdC ⟨nd,0,none⟩ 58).run Tryz.prog w5= .ok A w5:=Xc (D.keep ad.out ac) ap;clear D t0 aj;by_cases hk:m.kind=5
     ·have E:ZD m.kind=4:=by rw[hk];rfl
      have Z:=(E▸N.out:Turn 4 S p q (c.step frm m o).1 (c.step frm m o).2 w4 4 wr).here;have I:=Zh (Z.trans J.out (fun _ _ f=>f));have af:=Zh ((QbW aa.out (aA.out.Qc I.out) (az.out.Qc I.out) aE).2.2.2 (by omega));have W:(m.kind:Int)=5:=by omega
      rw[W] at ai;clear Z;go_wp2_with fail;refine af.out.mono ?_
      rintro e w6 ⟨rfl,Y⟩;have ag:=Zh Y;clear Y;go_wp2_with fail;exact⟨⟨4+1,by go_num,by omega,.inr ⟨by omega,QB.Zl I.out ag.out⟩⟩,by simp[Go.RowKit.intOf]⟩
     ·have W: ¬((5:Int)=m.kind):=by omega
      have aL:((5:Int)==(m.kind:Int))=false:=by simp;omega
      have E:ZD m.kind≠4:=by
       have aF:=aa.out.fm.kind;unfold ZD
       (repeat' split)<;>omega
      go_wp2_with fail;exact⟨⟨4+1,by go_num,by omega,N.out.pass J.out E⟩,by simp[Go.RowKit.intOf]⟩
    ·have E:ZD m.kind<5:=by
      have aF:=aa.out.fm.kind;unfold ZD
      (repeat' split)<;>omega
     go_wp2_with fail;go_end0;refine⟨rfl,?_⟩;rcases N.out with ⟨h,_⟩|⟨_,h⟩
     ·omega
     ·exact QB.after (fun i aX=>.inl aX) aB.out h
theorem QqR(c:Core)(frm:Nat)(m:Mg)(o:Ou):(c.step frm m o).1.n =c.n:=by
 have D:=Qcw c m.term;unfold Core.step;generalize c.bump m.term=b at*
 have E: ∀(x:Core) (s:Nat) (o:Ou),(x.put s o).1.n =x.n:=fun _ _ _=>rfl
 split
 ·unfold Core.asked;dsimp only;split<;>exact D
 split
 ·unfold Core.Zb
  split
  ·split<;>exact D
  ·exact D
 split
 ·unfold Core.appended
  split
  ·exact D
  ·dsimp only
   split
   ·exact D
   ·split<;>exact D
 ·unfold Core.led
  split
  ·exact D
  split
  ·exact D
  split
  ·split<;>exact D
  ·dsimp only
   split
   ·exact D
   ·split<;>exact D
theorem QgF(bi bt:Nat)(l:List En)(D:Nat): ∀(E:List En) (k:Nat),Xa bi bt l D E k<=D+k+E.length
 |[],k=>Zz _
 |
  e::r,k=>by
  unfold Xa
  split
  ·rw[List.length_cons];omega
  ·have:=QgF bi bt l D r (k+1)
   rw[List.length_cons]
   omega
theorem Wz{y:Nat}(h:x=0):x<=y:=h▸Zz y
theorem QqQ(c:Core)(frm:Nat)(m:Mg)(o:Ou)(h:o.frm=0):(c.step frm m o).2.frm <=c.last+1+(m.idx+m.es.length):=by
 have D:=Qf2 c m.term;unfold Core.step;generalize c.bump m.term=b at*
 split
 ·exact Wz h
 split
 ·unfold Core.Zb
  split
  ·split
   ·show b.last+1<=_
    rw[D];exact Nat.le_add_right _ _
   ·exact Wz h
  ·exact Wz h
 split
 ·unfold Core.appended
  split
  ·exact Wz h
  ·have key: ∀(P:Prop) [Decidable P] (d:Nat) (x:Mg),(if P then o.send d x else o).frm =0:=by
    intro P _ d x;split
    ·exact h
    ·exact h
   exact Wz (key _ _ _)
 ·unfold Core.led
  split
  ·exact Wz h
  split
  ·exact Wz h
  split
  ·split
   ·exact Wz h
   ·exact Wz h
  ·dsimp only
   split
   ·exact Wz h
   split
   ·exact Zt (QgF b.bi b.bt b.l m.idx m.es 0) (Nat.le_add_left _ _)
   ·exact Zz _
theorem QqO(h:Q2 w S p c .nilFunc)(az:Fit c){m:Mg}(U:Qbd c frm m Ou.none)(ai:XH w S c.n m A O na mv g)
  (aA: ∀k,(Value.slice O m.es.length na).ownBlock =some k->k<w.heap.size) (aB:m.kind=5->g<w.heap.size):
  Calls Tryz.prog 13 #[.pointer (some ⟨p,0,none⟩),.int .i64 frm,.agg A] w (Wn S p (c.step frm m Ou.none).1 (c.step frm m Ou.none).2 w):=by
 have aD: ∀i,S i->i<w.heap.size:=by
  obtain⟨_,_,_,_,_,_,I⟩:=h;exact I.lt
 have W:S p:=by
  obtain⟨_,_,_,_,_,_,I⟩:=h;exact I.sp
 have a8:A.size=58:=by rw[ai.arr];rfl
 have H:=Zh h;have N:=Zh aD;have aO:=Zh az;have aV:=Zh U;have aS:=Zh ai;have ba:=U.fm.cap;have a9:=U.last;clear h aD az U ai;go_enter Tryz.func13,Tryz.ntmps13;have au:=Qf (w:=w) (.cells #[.pointer (some ⟨p,0,none⟩)] 50);have aI:(w.alloc (.cells #[.pointer (some ⟨p,0,none⟩)] 50)).heap.size =w.heap.size+1:=by simp
 have ah:=Qf (w:=w.alloc (.cells #[.pointer (some ⟨p,0,none⟩)] 50)) (.cells #[.int .i64 (frm:Int)] 3);have aJ:((w.alloc (.cells #[.pointer (some ⟨p,0,none⟩)] 50)).alloc (.cells #[.int .i64 (frm:Int)] 3)).heap.size =w.heap.size+2:=by simp
 have aj:=Qf (w:=(w.alloc (.cells #[.pointer (some ⟨p,0,none⟩)] 50)).alloc (.cells #[.int .i64 (frm:Int)] 3)) (.cells A 76);have aK:(((w.alloc (.cells #[.pointer (some ⟨p,0,none⟩)] 50)).alloc (.cells #[.int .i64 (frm:Int)] 3)).alloc (.cells A 76)).heap.size =w.heap.size+3:=by simp
 have an:=Qf (w:=((w.alloc (.cells #[.pointer (some ⟨p,0,none⟩)] 50)).alloc (.cells #[.int .i64 (frm:Int)] 3)).alloc (.cells A 76)) (.cells Xh 57);rw[aI] at ah;rw[aJ] at aj;rw[aK] at an;have u1:Qa Ze w (w.alloc (.cells #[.pointer (some ⟨p,0,none⟩)] 50)):=(Zr _ w).alloc _;have u2:Qa Ze (w.alloc (.cells #[.pointer (some ⟨p,0,none⟩)] 50)) ((w.alloc (.cells #[.pointer (some ⟨p,0,none⟩)] 50)).alloc (.cells #[.int .i64 (frm:Int)] 3)):=(Zr _ _).alloc _;have ac:Qa Ze ((w.alloc (.cells #[.pointer (some ⟨p,0,none⟩)] 50)).alloc (.cells #[.int .i64 (frm:Int)] 3)) (((w.alloc (.cells #[.pointer (some ⟨p,0,none⟩)] 50)).alloc (.cells #[.int .i64 (frm:Int)] 3)).alloc (.cells A 76)):=(Zr _ _).alloc _;have J:Qa Ze (((w.alloc (.cells #[.pointer (some ⟨p,0,none⟩)] 50)).alloc (.cells #[.int .i64 (frm:Int)] 3)).alloc (.cells A 76)) ((((w.alloc (.cells #[.pointer (some ⟨p,0,none⟩)] 50)).alloc (.cells #[.int .i64 (frm:Int)] 3)).alloc (.cells A 76)).alloc (.cells Xh 57)):=(Zr _ _).alloc _;have aE:=J.keep aj (fun f=>f);have ax:=(ac.trans J (fun _ _ f=>f)).keep ah (fun f=>f);have ag:=((u2.trans ac (fun _ _ f=>f)).trans J (fun _ _ f=>f)).keep au (fun f=>f);have Z:=((u1.trans u2 (fun _ _ f=>f)).trans ac (fun _ _ f=>f)).trans J (fun _ _ f=>f);go_upto_region 1 with fail
 change Code.wp _ _ _ _ ((((w.alloc (.cells #[.pointer (some ⟨p,0,none⟩)] 50)).alloc (.cells #[.int .i64 (frm:Int)] 3)).alloc (.cells A 76)).alloc (.cells Xh 57));clear u1 u2 ac J au ah aj aI aJ aK;generalize (((w.alloc (.cells #[.pointer (some ⟨p,0,none⟩)] 50)).alloc (.cells #[.int .i64 (frm:Int)] 3)).alloc (.cells A 76)).alloc (.cells Xh 57)=w3 at*
 have aQ:=Zh aA;have aR:=Zh aB;clear aA aB;generalize hbb:w.heap.size=b at*
 have aX:=Zh hbb;have ap:=Zh (H.out.Qc Z);have ad:=Zh Z;have aM:=Zh ag;have aN:=Zh ax;have aT:=Zh aE;have ar:=Zh an;have aU:=Zh (aS.out.Qc Z);have a0:w3.cell? ⟨b,0,none⟩=some (.pointer (some ⟨p,0,none⟩)):=Qb ag 0;clear ag ax aE an Z hbb;have aw: ¬S b:=fun D=>by have:=N.out b D;omega
 have ay: ¬S (b+1):=fun D=>by have:=N.out _ D;omega
 have aF: ¬S (b+2):=fun D=>by have:=N.out _ D;omega
 have aG: ¬S (b+3):=fun D=>by have:=N.out _ D;omega
 have ao:Hid (Calls Tryz.prog 40 #[.pointer (some ⟨p,0,none⟩)] w3 (Is (.bool false) w3)):=by
  obtain⟨_,_,_,_,_,_,I⟩:=ap.out;exact Zh (K4 I)
 have a2:=Ql ar.out;have aq:=Zh (QqN (o':=(c.step frm m Ou.none).2) (c':=(c.step frm m Ou.none).1) ap.out aO.out b (b+1) (b+2) (fun w' q a4 Y bb=>by
  have bc:b+3<w3.heap.size:=a2;have al: ∀x,¬S x->x<w3.heap.size-> ¬(S x\/x=q):=fun x E a7 h=>by
   rcases h with h|h
   ·exact E h
   ·omega
  have a3:XH w' (fun i=>S i\/i=q) c.n m A O na mv g:=by
   have E:=aU.out.upd Y (fun k _ e=>e▸W);refine⟨E.arr,E.Qq,fun k aC h=> ?_,?_⟩
   ·rcases h with h|h
    ·exact E.far k aC h
    ·have:=aQ.out k aC
     omega
   ·rcases E.mem with ⟨aL,a5,a6⟩|h
    ·refine .inl ⟨aL,a5,fun h=> ?_⟩
     rcases h with h|h
     ·exact a6 h
     ·have:=aR.out aL
      omega
    ·exact .inr h
  exact QqL a4 aV.out a3 (by show 0<19000;omega) (Y.keep aM.out (fun e=>aw (e▸W))) (Y.keep aN.out (fun e=>ay (e▸W))) (Y.keep aT.out (fun e=>aF (e▸W))) (al _ aw (by omega)) (al _ ay (by omega)) (al _ aF (by omega))) (QqR _ _ _ _) (by have:=QqQ c frm m Ou.none rfl;omega))
 go_wp2_with fail;refine ao.out.mono ?_
 rintro e w' ⟨rfl,rfl⟩;go_wp2_with fail;refine aq.out.mono ?_
 rintro e M ⟨v,aZ,rfl,av,af,am,ak⟩;obtain⟨R,rfl,ae,a1⟩:=ak.agg;have ab:=am.keep ar.out aG;have aY:=Zh ab;have aH:=Xr M (b+3) R ab;have aa:Qa (fun i=>i=b+3) M (M.setRow (b+3) R):=QL (Zr (fun i=>i=b+3) M) (g:=b+3) (fun _=>rfl) R;have aP:Hid (Wn S p (c.step frm m Ou.none).1 (c.step frm m Ou.none).2 w (.returned (.agg R)) (M.setRow (b+3) R)):=Zh ⟨_,aZ,rfl,av.upd aa (fun i Q e=>by
   subst e;rcases af _ Q with h|h
   ·exact aG h
   ·omega),fun i Q=>by
   rcases af i Q with h|h
   ·exact .inl h
   ·have:=ad.out.size
    exact .inr (by omega),((ad.out.mono (T:=S) (fun _ _ f=>f.elim)).trans am (fun _ _ h=>h)).trans (aa.mono (T:=fun i=>i=b+3) (fun _ _ h=>h)) (fun i Q e=>by have:=aX.out;omega),(ak.past ab aa).low ad.out.size⟩
 have aW:=Zh aH;clear av af am ak ab aH aa aq ao a0;go_wp2_with (refine wpList_store_row rfl 57 _ _ rfl _ _ rfl rfl _ _ aY.out (X2 ae) (by rw[ae];rfl) a1 ?_);refine bodyPost_ret (v:=.agg R) ?_ rfl aP.out
 exact results_cell_row rfl _ _ _ _ _ _ _ rfl aW.out Tryz.underlying57 rfl (X2 ae)
end
end Go.Proofs.YtbleblbfadeciaaGreatDoor
