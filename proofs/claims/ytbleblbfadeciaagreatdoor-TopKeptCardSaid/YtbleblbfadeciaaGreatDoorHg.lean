/- For TopKept. -/
import Derived.Test.YtbleblbfadeciaaGreatDoorLc
import Derived.Test.YtbleblbfadeciaaGreatDoorKp
set_option linter.all false
set_option maxHeartbeats 16000000
set_option maxRecDepth 10000
namespace Go.Proofs.YtbleblbfadeciaaGreatDoor
variable{ca:Core}{cap i n na nb s:Nat}{fa fb lab:Nat->Nat}{o:Ou}{P:Program}{Y v:Value}{w w0:World}
section
open Go.RowKit Go.Acre Go.Acre.Dk
open Raft (upd_same upd_ne G)
attribute [local go_sem ↓] LcG ScG ApG
attribute [local go_sem] Sc1 Sc2 Sc3 Lc2 Lc3
attribute [local simp] QH X6
theorem QhX{ops:Array Oper}{E:Exit->Act->World->Prop}{p:Nat->Value->Prop}{F:World->World->Prop}{D:Act}{o:Oper}(Z:ops[s]? =some o)(U:o.dst=none)(Q:XQ ops)(aa: ∀v,p s v)
  (h: ∀w,Qa Ze w0 w-> ∀a:Act,
   (∀e∈o.after,Region.binds .any e=true-> ∀oj d,ops[e.on]? =some oj->oj.dst=some d->d<D.tmps.size-> ∃v,a.tmps[d]? =some v/\p e.on v)->(∀d,writer ops d=none->a.tmps[d]? =D.tmps[d]?)->
   ∀K:Act->World->Prop,(∀w',F w w'->K a w')->
   if Region.wanted o (yielded ops a.tmps)=true then Oper.wp P o a w K E else K a w):Ob P ops E D (Wj ops w0 p s F) s:=by
 refine QhW Z Q ?_
 intro w ab a Y W K O;have I: ∀v,a.put o.dst v=a:=fun v=>by rw[U];rfl
 have M:=h w ab a Y W K (fun w' N=>by
  have J:=O undef w' N (aa _);rw[I] at J;exact J)
 rw[I];exact M
theorem Qrz{kb db pc:Nat->Nat}{E:Nat->Core}{aj:Nat->Kp}{us:List PV}{T:Nat}{g:G}
  (dC:QW w lab na n kb db pc E aj us fa fb false T nb cap Y) (aD:Wl g n E (us.map (·.1)) fa fb (T+1) i ca o) (dz:aj i=ca.kp) (fR:T<=240) (ds:Fit ca) (fk:Xx ca.vote) (dA:ca.last<=251) (dI:Qba w lab (E i) o v):
  Calls Tryz.prog 11 #[.pointer (some ⟨na,0,none⟩),.int .i64 i,v] w (QdN g na n kb db pc E (Raft.upd aj i (E i).kp) (T+1) nb cap w lab):=by
 obtain⟨fJ,eB,gp,L,rfl,a6⟩:=dI.open;obtain⟨bB,bD,dq,_,_⟩:=a6.Qq.slice;obtain⟨en,dp⟩: ∃en,en=(if o.frm=0 then [] else Xs (E i).bi (E i).l o.frm 2147483648).length :=⟨_,rfl⟩
 rw[<-dp] at dq;clear dp;subst dq;obtain⟨bg,bj,bh,eV⟩: ∃a k c,eB= .slice a k c:=by
  rcases a6.base with ⟨_,h⟩|⟨_,_,⟨_,h,_⟩,_⟩
  ·exact⟨_,_,_,h⟩
  ·exact⟨_,_,_,h⟩
 subst eV;obtain⟨fv,cV,fh⟩:=Qr.slice (Qr.Q7 a6.own);subst fh;have af:=aD.hi;have hid:=aD.hp.id af;have cw:=aD.hp.fit (by omega) af;have cu:=aD.hp.cn i af;have dS:=(aD.hp.el i af).2;have cC:=aD.hp.sim i af;have f9:=cC.Zj;have ge:=aD.hp.n5;have fP:=a6.few;have fy:=Zh cC;have bb:=Zh aD;have em:=Zh aD.snd;have ee:=Zh hid;obtain⟨ba,cg⟩: ∃A,A= #[Value.int .u64 ((E i).term :Nat),.int .i64 (Qd (E i).vote),.int .u64 o.frm,.slice bB en bD,.bool o.rest.isSome,.int .u64 ((QE o).1:Nat),.int .u64 ((QE o).2:Nat),.slice bg bj bh,.slice fv L.length cV]:=⟨_,rfl⟩
 have cN:=Qf (w:=w) (.cells ba 57);have av:Qa (fun _=>False) w (w.alloc (.cells ba 57)):=(Zr _ w).alloc _;have bY:Tn w (w.alloc (.cells ba 57)) lab (Xg w lab (fun _=>False) 0) (fun _=>False):=Tn.of av (fun _ _ f=>f) _ _;have dK:Xg w lab (fun _=>False) 0 w.heap.size=0:=WF (fun h=>by omega) (fun _ f=>f);have eq:=Zh bY;have dD:=dC.same bY;have dJ:=a6.keep bY (fun f=>f);go_enter Tryz.func11,Tryz.ntmps11;rw[<-cg];have d2:=Zh cg;clear cg;go_upto_region 1 with fail
 change Code.wp _ _ _ _ (w.alloc (.cells ba 57));generalize Xg w lab (fun _=>False) 0=lab1 at*
 generalize w.alloc (.cells ba 57)=W at*
 generalize w.heap.size=q at*
 rw[d2.out] at cN;have be:=Zh cN;have ef:=Zh dD;have aE:=Zh dJ;have bw:=Zh dK;clear cN av bY dK dC a6 dD dJ aD cC dI;have dG: ∀g,lab1 g=0-> ¬(lab1 g≠0):=fun g h=>by omega
 have d1:W.cell? ⟨q,4,none⟩=some (.bool o.rest.isSome):=Qb be.out 4;go_upto_if 16 with fail
 go_cut [6] (fun x aa=>x= .int .i64 0/\ ∃dX,QI W lab1 g na n kb db pc E (Raft.upd aj i (E i).kp) (T+1) nb cap aa dX us fa fb Y)
 case first=>
  as_aux_lemma=>
   have ar:=ef.out.same (Tn.fresh (Zr _ W).drew lab1 _);have bo:=aE.out.keep (Tn.fresh (Zr (fun _=>False) W).drew lab1 (fun _=>False)) (fun f=>f);have c9:=ar.c9;have ck:=ar.ck af;have am:W.drew.heap[q]? =_:=be.out;have cQ:=Qb am 0;have cR:=Qb am 1;have dZ:=Qb am 2;have d0:=Qb am 3;have cT:=Qb am 5;have cU:=Qb am 6;have q7:=Qb am 7;simp at cQ cR dZ d0 cT cU q7;have dx:(i:Int)< (n:Int):=by omega
   have dw:(0:Int)<=i:=by omega
   have bv:Hid (∀w' lab',Tn W.drew w' lab1 lab' (fun x=>x=11+2*i)->w'.cell? ⟨na,9,none⟩=some (.slice (some ⟨nb,0,none⟩) n cap)/\w'.cell? ⟨nb,i*3+1,none⟩=some (.pointer (some ⟨kb i,0,none⟩))/\w'.heap[q]? =W.drew.heap[q]?):=Zh (fun w' lab' t=>by
    refine⟨(ar.row.upd t.u (by show ¬(lab1 na=11+2*i);rw[ar.lhb];omega)).c9,Ku (XU ar.places t.u (fun g ay=>by cases ay;show ¬(lab1 nb=11+2*i);rw[ar.llb];omega)) (Wv _ _ _ n i af).2.1,(t.u.keep am (by show ¬(lab1 q=11+2*i);rw[bw.out];omega)).trans am.symm⟩)
   cases al:o.rest with
   |
    none=>
    rw[al] at d1;have eo:Hid (Calls Tryz.prog 37 #[.pointer (some ⟨kb i,0,none⟩),.agg #[.int .u64 ((E i).term :Nat),.int .i64 (Qd (E i).vote)],.int .u64 o.frm,.slice bB en bD] W.drew (QbP W.drew lab1 i (kb i) (db i) (E i).kp (T+1))):=Zh (by
     have a4:=ar.keep i af;rw[dz] at a4;exact a4.save (by omega) ds cw cu fk dS ⟨dA,by omega⟩ bb.out.out al bo.Qq (fun g ay=>(bo.lab.2 g ay).2))
    have b1:=Zh ar;have bz:=Zh am;clear ar bo am;have fg:(Option.isSome (none:Option (Nat×Nat)))=false:=rfl;generalize Qd (E i).vote =vi at*
    have b0:Hid (∀w' lab',Tn W.drew w' lab1 lab' (fun x=>x=11+2*i)->w'.cell? ⟨na,9,none⟩=some (.slice (some ⟨nb,0,none⟩) n cap)/\w'.cell? ⟨nb,i*3+1,none⟩=some (.pointer (some ⟨kb i,0,none⟩))/\w'.cell? ⟨q,0,none⟩=some (.int .u64 ((E i).term :Nat))/\w'.cell? ⟨q,1,none⟩=some (.int .i64 vi)/\w'.cell? ⟨q,2,none⟩=some (.int .u64 o.frm)/\w'.cell? ⟨q,3,none⟩=some (.slice bB en bD)):=Zh (fun w' lab' t=>by
     obtain⟨aK,aR,ai⟩:=bv.out w' lab' t;have ai:=ai.trans bz.out;exact⟨aK,aR,Qb ai 0,Qb ai 1,Qb ai 2,Qb ai 3⟩)
    clear bv;go_upto_region 4 with fail
    go_region_held3 (fun w'=>w'.cell? ⟨na,9,none⟩=some (.slice (some ⟨nb,0,none⟩) n cap)/\w'.cell? ⟨nb,i*3+1,none⟩=some (.pointer (some ⟨kb i,0,none⟩))/\w'.cell? ⟨q,0,none⟩=some (.int .u64 ((E i).term :Nat))/\w'.cell? ⟨q,1,none⟩=some (.int .i64 vi)/\w'.cell? ⟨q,2,none⟩=some (.int .u64 o.frm)/\w'.cell? ⟨q,3,none⟩=some (.slice bB en bD)) (first|exact⟨c9,ck,cQ,cR,dZ,d0⟩|exact b0.out _ _ (by assumption)) ((first
     |(go_at_call 37;refine eo.out.mono ?_;rintro e a9 ⟨rfl,bs,bq,cy⟩)))
    all_goals
     have ax:Hid (QI W lab1 g na n kb db pc E (Raft.upd aj i (E i).kp) (T+1) nb cap a9 bs us fa fb Y):=Zh ⟨b1.out.Qel bq (Nat.le_succ T) cy,bb.out.hp,(Tn.fresh (Zr _ W).drew lab1 _).trans (bq.mono (fun q ff=>by omega))⟩;go_wp2_with fail;go_meet
     case rel=>exact⟨rfl,bs,ax.out⟩
   |
    some bt=>
    obtain⟨b,t⟩:=bt;rw[al] at d1;obtain⟨ah,aL,bL,dt⟩: ∃ah,QD W.drew (.slice bg bj bh) (E i).n ah/\ah<W.drew.heap.size/\lab1 ah=0:=by
     rcases bo.base with ⟨aK,_⟩|⟨_,h⟩
     ·rw[al] at aK;cases aK
     ·exact h
    have dL:QE o=(b,t):=by unfold QE;rw[al];rfl
    rw[dL] at cT cU;have eh:Hid (Calls Tryz.prog 9 #[.pointer (some ⟨kb i,0,none⟩),.agg #[.int .u64 ((E i).term :Nat),.int .i64 (Qd (E i).vote)],.agg #[.int .u64 b,.int .u64 t,.slice bg bj bh]] W.drew (QbP W.drew lab1 i (kb i) (db i) (E i).kp (T+1))):=Zh (by
     have a4:=ar.keep i af;rw[dz] at a4;exact a4.rest (by omega) ds cw cu dS ⟨dA,by omega⟩ bb.out.out al aL dt)
    have b1:=Zh ar;have bz:=Zh am;clear ar bo am aL;have fg:(Option.isSome (some (b,t)))=true:=rfl;rw[dL] at bz;generalize Qd (E i).vote =vi at*
    have b0:Hid (∀w' lab',Tn W.drew w' lab1 lab' (fun x=>x=11+2*i)->w'.cell? ⟨na,9,none⟩=some (.slice (some ⟨nb,0,none⟩) n cap)/\w'.cell? ⟨nb,i*3+1,none⟩=some (.pointer (some ⟨kb i,0,none⟩))/\w'.cell? ⟨q,0,none⟩=some (.int .u64 ((E i).term :Nat))/\w'.cell? ⟨q,1,none⟩=some (.int .i64 vi)/\w'.cell? ⟨q,5,none⟩=some (.int .u64 b)/\w'.cell? ⟨q,6,none⟩=some (.int .u64 t)/\w'.cell? ⟨q,7,none⟩=some (.slice bg bj bh)):=Zh (fun w' lab' t=>by
     obtain⟨aK,aR,ai⟩:=bv.out w' lab' t;have ai:=ai.trans bz.out;exact⟨aK,aR,Qb ai 0,Qb ai 1,Qb ai 5,Qb ai 6,Qb ai 7⟩)
    clear bv;go_upto_region 3 with fail
    go_region_held3 (fun w'=>w'.cell? ⟨na,9,none⟩=some (.slice (some ⟨nb,0,none⟩) n cap)/\w'.cell? ⟨nb,i*3+1,none⟩=some (.pointer (some ⟨kb i,0,none⟩))/\w'.cell? ⟨q,0,none⟩=some (.int .u64 ((E i).term :Nat))/\w'.cell? ⟨q,1,none⟩=some (.int .i64 vi)/\w'.cell? ⟨q,5,none⟩=some (.int .u64 b)/\w'.cell? ⟨q,6,none⟩=some (.int .u64 t)/\w'.cell? ⟨q,7,none⟩=some (.slice bg bj bh)) (first|exact⟨c9,ck,cQ,cR,cT,cU,q7⟩|exact b0.out _ _ (by assumption)) ((first
     |(go_at_call 9;refine eh.out.mono ?_;rintro e a9 ⟨rfl,bs,bq,cy⟩)))
    all_goals
     have ax:Hid (QI W lab1 g na n kb db pc E (Raft.upd aj i (E i).kp) (T+1) nb cap a9 bs us fa fb Y):=Zh ⟨b1.out.Qel bq (Nat.le_succ T) cy,bb.out.hp,(Tn.fresh (Zr _ W).drew lab1 _).trans (bq.mono (fun q ff=>by omega))⟩;go_wp2_with fail;go_meet
     case rel=>exact⟨rfl,bs,ax.out⟩
 case rest=>
  obtain⟨rfl,dX,aq⟩:=hcut;obtain⟨w2,rfl⟩: ∃x,x=wc:=⟨_,rfl⟩
  have ei:=Zh aq;clear aq;go_wp2_with fail;go_upto_block 0 with fail
  go_wp2_with fail;go_loopw [7] (fun x wr=> ∃j:Nat,x= .int .i64 j/\j<=L.length/\ ∃an Z aW,QI W lab1 g na n kb db pc E (Raft.upd aj i (E i).kp) (T+1) nb cap wr an Z fa fb aW) (fun x _=>L.length - (Go.RowKit.intOf x).toNat)
  case atStart=>exact⟨0,rfl,Zz _,_,_,_,ei.out⟩
  case round=>
   obtain⟨j,rfl,f5,an,Z,aW,aq⟩:=hrel;by_cases hlt:j<L.length
   ·as_aux_lemma=>
     have aP:=Zh aq;have cG:=aq.t;obtain⟨bu,go,dM,_,_⟩:=aE.out.own.form (by omega);simp only[Value.slice.injEq] at dM;obtain⟨rfl,_,rfl⟩:=dM;obtain⟨x,bV⟩: ∃x,x=L[j]:=⟨_,rfl⟩
     have cP:x∈L:=by rw[bV];exact List.getElem_mem hlt
     have c6:Hid (QaA g (T+1) ⟨i,x.1,(E i).fix x.2.1⟩):=Zh (em.out (x.1,x.2.1) (by rw[aE.out.snd];exact List.mem_map.2 ⟨x,cP,rfl⟩));have d6:Hid (x.1<n):=Zh (by have:=c6.out.ok.2.2.2.2.1;rw[bb.out.hp.gn] at this;exact this);have aN:wr.heap[q]? =_:=cG.u.keep be.out (by show ¬(lab1 q≠0);rw[bw.out];omega);have a5:wr.ownsRow 0 112 59 (.slice (some ⟨bu,0,none⟩) L.length cV) L.length (Zi L):=XU aE.out.own cG.u (fun g ay=>dG g (aE.out.lab.1 g ay));obtain⟨A,aG⟩: ∃A,A=x.2.1.arr x.2.2:=⟨_,rfl⟩
     have bE:A.size=58:=by rw[aG];exact QcY _ _ _ _ _ _ _ _ _ _
     have dr:=(aE.out.at_ x cP).2.1;have eQ:A.all (·.oneCell')=true:=by rw[aG];exact QaN _ _ _ _ _ _ _ _ _ _ dr rfl
     have cE:WH x= #[.int .i64 (x.1:Nat)]++A:=by rw[aG];rfl
     have c1:Hid ((Zi L)[j*59]? =some (.int .i64 (x.1:Nat))):=Zh (by
      have h:=Qec L j hlt 0 (by omega);rw[<-bV,cE,Nat.add_zero,Array.getElem?_append_left (by simp)] at h;exact h)
     have df:wr.cell? ⟨bu,j*59,none⟩=some (.int .i64 (x.1:Nat)):=Ku a5 c1.out;have fc:(LdC ⟨bu,j*59+1,none⟩ 58).run Tryz.prog wr= .ok A wr:=W3 (Qh4 a5 (fun k v dQ=>by
      have a4:k<58:=by rw[<-bE];exact (Array.getElem?_eq_some_iff.1 dQ).1
      have h:=Qec L j hlt (1+k) (by omega);rw[<-bV,cE,Array.getElem?_append_right (by simp)] at h;simp at h;rw[show j*59+1+k=j*59+(1+k) by omega,h];exact dQ)) bE
     have ex:A[0]? =some (.int .i64 (x.2.1.kind:Nat)):=by rw[aG];rfl
     have ez:A[8]? =some (.int .u64 0):=by rw[aG];rfl
     have eA:A[9]? =some (.int .u64 0):=by rw[aG];rfl
     have ey:A[10]? =some (.slice none 0 0):=by rw[aG];rfl
     have cX:=Zh aG;have aQ:=Qb aN 8;simp at aQ;have a3:(j:Int)< (L.length:Int):=by omega
     have e7:(0:Int)<=j:=by omega
     clear aN a5 cG aq cE aG dr bV;go_upto_region 10 with fail
     go_upto_region 11 with (refine wpList_store_row rfl 76 _ _ rfl _ _ rfl rfl _ _ (Qf (w:=wr) (.cells XC 76)) (Qbu bE) (by rw[bE];rfl) eQ ?_)
     have dU:=Qf (w:=wr) (.cells XC 76);have bN:=Xr _ _ A dU;have dN:Qa (fun _=>False) wr ((wr.alloc (.cells XC 76)).setRow wr.heap.size A):=QL ((Zr _ wr).alloc _) (g:=wr.heap.size) (fun h=>by omega) A;change Code.wp _ _ _ _ ((wr.alloc (.cells XC 76)).setRow wr.heap.size A);generalize (wr.alloc (.cells XC 76)).setRow wr.heap.size A=a9 at*
     obtain⟨ad,cB⟩: ∃ad,ad=wr.heap.size:=⟨_,rfl⟩
     rw[<-cB] at bN ⊢;have c4:=Zh cB;have b2:=Zh bN;have bd:=Zh dN;have fu:=Qb bN 0;rw[ex] at fu;clear dU bN dN fc df aQ cB;go_upto_if 65 with fail
     go_cut [65] (fun _ aa=> ∃ao,aa.heap[ad]? =some (.cells ao 76 (0,0))/\ZP aa (Xg wr an (fun _=>False) 0) n (⟨i,x.1,(E i).fix x.2.1⟩,ao)/\Qa (fun _=>False) wr aa)
     case first=>
      have dk: ∀w',Qa (fun _=>False) wr w'->XA w' (fun g=>Xg wr an (fun _=>False) 0 g≠0) x:=fun w' hu=>by
       have t:Tn W w' lab1 (Xg wr an (fun _=>False) 0) (fun q=>q≠0):=aP.out.t.trans ((Tn.of hu (fun _ _ f=>f) _ _:Tn wr w' an (Xg wr an (fun _=>False) 0) (fun _=>False)).mono (fun _ f=>f.elim));exact (aE.out.keep t (by omega)).at_ x cP
      have dc:=Zh dk;clear dk;by_cases h5:x.2.1.kind=5
      ·have cz:((x.2.1.kind:Nat):Int)=5:=by omega
       have e8:(((x.2.1.kind:Nat):Int)==5)=true:=by rw[cz];rfl
       have bG:=aP.out.fresh bd.out;have c9:=bG.m.c9;have cc:=bG.m.cc af;obtain⟨b6,aI,_⟩:=bG.m.core i af;have aC:=Zh (QcJ aI);have dx:(i:Int)< (n:Int):=by omega
       have dw:(0:Int)<=i:=by omega
       clear bG aI;go_wp2_with fail;refine aC.out.mono ?_
       rintro e U ⟨v,ah,rfl,aL,dt,aT⟩;rw[ee.out.2.1] at aL;obtain⟨a8,rfl⟩: ∃c,v= .slice (some ⟨ah,0,none⟩) n c:=⟨_,aL.choose_spec.1⟩
       have aA:=aT.keep b2.out (fun f=>f);have eH:=Qb aA 8;have eI:=Qb aA 9;have e10:=Qb aA 10;rw[ez] at eH;rw[eA] at eI;rw[ey] at e10;have fL:=Qg aA 8 none;have fM:=Qg aA 9 none;have eJ:=Qg aA 10 none;have gc:=Ql b2.out;have bU:Qa (fun i=>i=ad) U (((U.setCell ⟨ad,8,none⟩ (.int .u64 ((E i).bi :Nat))).setCell ⟨ad,9,none⟩ (.int .u64 ((E i).bt :Nat))).setCell ⟨ad,10,none⟩ (.slice (some ⟨ah,0,none⟩) n a8)):=((((Zr (fun i=>i=ad) U).setCell (p:=⟨ad,8,none⟩) (fun _=>rfl) _).setCell (p:=⟨ad,9,none⟩) (fun _=>rfl) _)).setCell (p:=⟨ad,10,none⟩) (fun _=>rfl) _;have eg:=Zh (Qi (o:=10) (Qi (o:=9) (Qi (o:=8) aA (.int .u64 ((E i).bi :Nat))) (.int .u64 ((E i).bt :Nat))) (.slice (some ⟨ah,0,none⟩) n a8));have b3:Hid (Qa (fun _=>False) wr (((U.setCell ⟨ad,8,none⟩ (.int .u64 ((E i).bi :Nat))).setCell ⟨ad,9,none⟩ (.int .u64 ((E i).bt :Nat))).setCell ⟨ad,10,none⟩ (.slice (some ⟨ah,0,none⟩) n a8))):=Zh ((bd.out.trans aT (fun _ _ f=>f)).trans bU (fun i af e=>by have:=c4.out;omega));have aY:Hid (ZP (((U.setCell ⟨ad,8,none⟩ (.int .u64 ((E i).bi :Nat))).setCell ⟨ad,9,none⟩ (.int .u64 ((E i).bt :Nat))).setCell ⟨ad,10,none⟩ (.slice (some ⟨ah,0,none⟩) n a8)) (Xg wr an (fun _=>False) 0) n (⟨i,x.1,(E i).fix x.2.1⟩,((A.setIfInBounds 8 (.int .u64 ((E i).bi :Nat))).setIfInBounds 9 (.int .u64 ((E i).bt :Nat))).setIfInBounds 10 (.slice (some ⟨ah,0,none⟩) n a8))):=Zh (by
        have gg:=bd.out.size;have gh:=bU.size;have f8:ah<U.heap.size:=by
         obtain⟨fF,_,aK,_,_,_,aR⟩:=aL;exact World.block_lt_of_cell? U _ (aR 0 (by omega))
        have bM:=QpH (i:=i) (c:=E i) (dc.out _ b3.out) h5 (mv:=.slice (some ⟨ah,0,none⟩) n a8) (g:=ah) (n:=n) (by
         exact aL.upd bU (fun e=>by have:=c4.out;omega)) (WF (fun h=>by omega) (fun _ f=>f)) (by omega)
        rw[cX.out];exact bM)
       clear aL aT aA bU;unfold QC;go_wp2_with fail;go_meet
       case rel=>exact⟨_,eg.out,aY.out,b3.out⟩
      ·have cz: ¬((x.2.1.kind:Nat):Int)=5:=by omega
       have e8:(((x.2.1.kind:Nat):Int)==5)=false:=beq_eq_false_iff_ne.2 cz;have aY:Hid (ZP a9 (Xg wr an (fun _=>False) 0) n (⟨i,x.1,(E i).fix x.2.1⟩,A)):=Zh (by
        have:=QpG (n:=n) (i:=i) (c:=E i) (dc.out a9 bd.out) h5;rw[<-cX.out] at this;exact this)
       go_wp2_with fail;go_meet
       case rel=>exact⟨_,b2.out,aY.out,bd.out⟩
     case rest=>
      obtain⟨ao,aA,bM,aT⟩:=hcut;obtain⟨U,rfl⟩: ∃x,x=wc:=⟨_,rfl⟩
      have cW:Tn wr U an (Xg wr an (fun _=>False) 0) (fun _=>False):=Tn.of aT (fun _ _ f=>f) _ _;have aS:QI W lab1 g na n kb db pc E (Raft.upd aj i (E i).kp) (T+1) nb cap U (Xg wr an (fun _=>False) 0) Z fa fb aW:=⟨aP.out.m.same cW,aP.out.p,aP.out.t.trans (cW.mono (fun _ f=>f.elim))⟩
      generalize Xg wr an (fun _=>False) 0=lab4 at*
      obtain⟨ua,aV,fj⟩:=Qr.slice (Qr.Q7 aS.m.under);subst fj;have a5:U.ownsRow 0 112 59 (.slice (some ⟨bu,0,none⟩) L.length cV) L.length (Zi L):=XU aE.out.own aS.t.u (fun g ay=>dG g (aE.out.lab.1 g ay));have df:U.cell? ⟨bu,j*59,none⟩=some (.int .i64 (x.1:Nat)):=Ku a5 c1.out;have aN:U.heap[q]? =_:=aS.t.u.keep be.out (by show ¬(lab1 q≠0);rw[bw.out];omega);have aQ:=Qb aN 8;simp at aQ;have c9:=aS.m.c9;have c10:=aS.m.row.c10;have eX:((x.1:Nat):Int)< (n:Int):=by have:=d6.out;omega
      have eW:(0:Int)<=((x.1:Nat):Int):=by omega
      have f0:decide (((x.1:Nat):Int)< (n:Int))=true:=decide_eq_true eX;have fZ:decide ((0:Int)<=((x.1:Nat):Int))=true:=decide_eq_true eW;have aJ:=Zh aS;have c7:=Zh aA;have aY:=Zh bM;have fz:=Zh aT;clear aS aA bM aT a5 aN cW;by_cases hfew:Z.length<200
      ·have bL:(Z.length:Int)<200:=by omega
       have e9:decide ((Z.length:Int)<200)=true:=decide_eq_true bL;go_upto_region 15 with fail
       obtain⟨a2,hA1⟩:ao.size=58/\ao.all (·.oneCell')=true:=Qc9 aY.out;obtain⟨l,f7⟩: ∃l,l=Z.length:=⟨_,rfl⟩
       obtain⟨ac,cb,w6,cr,dH,bQ,du⟩:=QoB (w':=U.drew) (v:=.slice ua Z.length aV) (us:=Z) (⟨i,x.1,(E i).fix x.2.1⟩,ao) a2 hA1 (aJ.out.fresh (Zr _ U).drew).m.under (by omega);obtain⟨B,bk⟩: ∃B,B=XK ((⟨i,x.1,(E i).fix x.2.1⟩,ao):PV):=⟨_,rfl⟩
       have eL:Tryz.prog.built 78 [(0,.int .i64 i),(1,.int .i64 (x.1:Nat)),(2,.agg ao)]=some B:=by rw[bk];exact Qkz _ _ a2
       have eM:B.size=60:=by rw[bk];exact QbC a2
       rw[<-bk] at cr;have fU:(ApC #[28,28] 28 #[.slice ua Z.length aV,.slice (some ⟨U.heap.size,0,none⟩) 1 1]).run Tryz.prog (U.alloc (.cells B 78)).drew = .ok (.slice (some ⟨ac,0,none⟩) (Z.length+1) cb) w6:=cr;clear cr;have cM: ¬(Value.slice ua Z.length aV).ownBlock =some na:=fun e=>by have:=aJ.out.m.luv na e;rw[aJ.out.m.lhb] at this;omega
       have fC:U.drew.cell? ⟨na,10,none⟩=some (.slice ua Z.length aV):=c10;have eD:(U.drew.alloc (.cells B 78)).cell? ⟨na,10,none⟩=some (.slice ua Z.length aV):=(aJ.out.m.row.upd ((Zr (fun _=>False) U).drew.alloc _) (fun f=>f)).c10;have fD:(U.alloc (.cells B 78)).drew.cell? ⟨na,10,none⟩=some (.slice ua Z.length aV):=eD;have fE:w6.cell? ⟨na,10,none⟩=some (.slice ua Z.length aV):=((aJ.out.m.row.upd (Zr (fun _=>False) U).drew (fun f=>f)).upd bQ cM).c10;have eJ:w6.frozen? ⟨na,10,none⟩=false:=((aJ.out.m.row.upd (Zr (fun _=>False) U).drew (fun f=>f)).upd bQ cM).fr 10;have ga:(LdC ⟨ad,0,none⟩ 58).run Tryz.prog U.drew= .ok ao U.drew:=Xc (show U.drew.heap[ad]? =_ from c7.out) a2;have gb:(LdC ⟨ad,0,none⟩ 58).run Tryz.prog (U.drew.alloc (.cells B 78))= .ok ao (U.drew.alloc (.cells B 78)):=Xc (((Zr (fun _=>False) U).drew.alloc _).keep c7.out (fun f=>f)) a2;have ax:Hid (∃aU,QI W lab1 g na n kb db pc E (Raft.upd aj i (E i).kp) (T+1) nb cap (w6.setCell ⟨na,10,none⟩ (.slice (some ⟨ac,0,none⟩) (Z.length+1) cb)) aU (Z++[(⟨i,x.1,(E i).fix x.2.1⟩,ao)]) fa fb (.slice (some ⟨ac,0,none⟩) (Z.length+1) cb)):=Zh ((aJ.out.fresh (Zr _ U).drew).QoA (aY.out.keep (Tn.fresh (Zr (fun _=>False) U).drew lab4 (fun _=>False)) (fun f=>f)) c6.out hfew rfl dH bQ du);have e0:=Qmb (i:Nat) (x.1:Nat) a2;rw[show (#[Value.int .i64 i,.int .i64 (x.1:Nat)]++ao:Array Value)=B from bk.symm] at e0;have f1:=Qmc eM;clear bk cM eL dH bQ du c10 hA1;go_region_law (fail)
       all_goals
        obtain⟨aU,dh⟩:=ax.out;have ea:=Zh dh;clear dh ax;go_wp2_with fail;exact⟨⟨j+1,by go_num,by omega,_,_,_,ea.out⟩,by simp[Go.RowKit.intOf];omega⟩
      ·have bL: ¬(Z.length:Int)<200:=by omega
       have e9:decide ((Z.length:Int)<200)=false:=decide_eq_false bL;go_wp2_with fail;exact⟨⟨j+1,by go_num,by omega,_,_,_,aJ.out⟩,by simp[Go.RowKit.intOf];omega⟩
   ·have cx:j=L.length:=by omega
    subst cx;have aN:wr.heap[q]? =_:=aq.t.u.keep be.out (by show ¬(lab1 q≠0);rw[bw.out];omega);have aQ:=Qb aN 8;simp at aQ;have a3: ¬(L.length:Int)< (L.length:Int):=by omega
    have dy:decide ((L.length:Int)< (L.length:Int))=false:=decide_eq_false a3;have aP:=Zh aq;have c9:=aq.m.c9;have cc:=aq.m.cc af;obtain⟨b6,aI,gi⟩:=aq.m.core i af;have d5:Hid (∀w',Qa (fun _=>False) wr w'->Q2 w' b6 (pc i) (E i) .nilFunc):=Zh (fun w' hu=>aI.upd hu (fun _ _ f=>f));have c2:=Zh (Qme aI);have dx:(i:Int)< (n:Int):=by omega
    have dw:(0:Int)<=i:=by omega
    clear aN aq aI;have f2:=fun w=>QlP ((E i).term :Nat) (Qd (E i).vote) w
    go_upto_region 18 with (go_at_call 38;refine c2.out.mono ?_;rintro e w5 ⟨rfl,bP⟩)
    have aX:=Zh (Qhz (d5.out _ bP));have aZ:=Zh (aP.out.fresh bP);have b3:=Zh bP;obtain⟨tm,cF⟩: ∃t,t=(E i).term :=⟨_,rfl⟩
    rw[<-cF];have er:=Zh cF;clear cF bP c2 aQ c9 cc;go_cut [130] (fun b aa=>b= .bool (decide ((E i).role =2/\tm<64))/\aa=w5)
    case first=>
     as_aux_lemma=>
      by_cases al:(E i).role =2
      ·rw[decide_eq_true al] at aX
       by_cases bp:tm<64
       ·have bO:(tm:Int)<64:=by omega
        have fi:decide ((tm:Int)<64)=true:=decide_eq_true bO;have aC:Hid (decide ((E i).role =2/\tm<64)=true):=Zh (decide_eq_true ⟨al,bp⟩);go_wp2_with (go_at_call 20;refine aX.out.mono ?_;rintro e w6 ⟨rfl,rfl⟩);go_meet
        case rel=>exact⟨by rw[aC.out],rfl⟩
       ·have bO: ¬(tm:Int)<64:=by omega
        have fi:decide ((tm:Int)<64)=false:=decide_eq_false bO;have aC:Hid (decide ((E i).role =2/\tm<64)=false):=Zh (decide_eq_false (fun h=>bp h.2));go_wp2_with (go_at_call 20;refine aX.out.mono ?_;rintro e w6 ⟨rfl,rfl⟩);go_meet
        case rel=>exact⟨by rw[aC.out],rfl⟩
      ·rw[decide_eq_false al] at aX
       have aC:Hid (decide ((E i).role =2/\tm<64)=false):=Zh (decide_eq_false (fun h=>al h.1));go_wp2_with (go_at_call 20;refine aX.out.mono ?_;rintro e w6 ⟨rfl,rfl⟩);go_meet
       case rel=>exact⟨by rw[aC.out],rfl⟩
    case rest=>
     obtain⟨rfl,fm⟩:=hcut;subst fm;obtain⟨b,cs⟩: ∃b,b=decide ((E i).role =2/\tm<64):=⟨_,rfl⟩
     rw[<-cs];have d3:=Zh cs;clear cs aX;go_upto_if 130 with fail
     go_cut [130] (fun _ aa=> ∃aU a7,QI W lab1 g na n kb db pc E (Raft.upd aj i (E i).kp) (T+1) nb cap aa aU Z a7 fb aW)
     case first=>
      as_aux_lemma=>
       cases b
       ·go_wp2_with fail
        go_meet
        case rel=>exact⟨_,_,aZ.out⟩
       ·obtain⟨al,bp⟩:=of_decide_eq_true d3.out.symm
        obtain⟨aM,cA⟩:=Wm.same aZ.out.p.ldo (aZ.out.p.sim i af) al;rw[<-er.out] at aM cA;have au:=aZ.out.m.row;have Kq:=au.Kq;have dg:=au.fr 331;have b9:=au.cld bp;have fl:=(au.setB false).fr (11+tm);have bO:(tm:Int)<64:=by omega
        have gj:(0:Int)<=tm:=by omega
        have ax:Hid (∃aU a7,QI W lab1 g na n kb db pc E (Raft.upd aj i (E i).kp) (T+1) nb cap ((wc.setCell ⟨na,331,none⟩ (.bool false)).setCell ⟨na,11+tm,none⟩ (.int .i64 ((i:Int)+1))) aU Z a7 fb aW):=Zh ⟨_,_,aZ.out.cells (((Zr (fun q=>q=na) wc).setCell (p:=⟨na,331,none⟩) (fun _=>rfl) _).setCell (p:=⟨na,11+tm,none⟩) (fun _=>rfl) _) ((au.setB false).Qqd bp (i+1)) cA aZ.out.p.dno⟩;have ak:fa tm=0\/fa tm=i+1:=by
         by_cases h0:fa tm=0
         ·exact .inl h0
         ·exact .inr (aM h0)
        have f4:(i:Int)+1<=6:=by omega
        clear aM cA au;rcases ak with ak|ak
        ·rw[ak] at b9
         go_wp2_with fail;go_meet
         case rel=>exact ax.out
        ·rw[ak] at b9
         have e3:(0:Int)< ((i+1:Nat):Int):=by omega
         have e4:((i+1:Nat):Int)=(i:Int)+1:=by omega
         rw[e4] at b9 e3;go_wp2_with fail;go_meet
         case rel=>exact ax.out
     case rest=>
      obtain⟨aU,a7,ci⟩:=hcut;obtain⟨w6,rfl⟩: ∃x,x=wc:=⟨_,rfl⟩
      obtain⟨fA,cv,_⟩:=ci.m.core i af;have aC:=Zh (QcJ cv);have eU:(E i).bi +1<=1000000:=by omega
      have cZ:Hid (∀w',Qa (fun _=>False) w6 w'->Calls Tryz.prog 39 #[.pointer (some ⟨pc i,0,none⟩),.int .u64 (((E i).bi :Int)+1),.int .i64 300] w' (Qbc (E i).bi (Xs (E i).bi (E i).l ((E i).bi +1) 300) w')):=Zh (fun w' hu=>QlD (cv.upd hu (fun _ _ f=>f)) ((E i).bi +1) 300 eU (by omega));have c8:=Zh ci;clear ci cv;have fW:((E i).bi :Int)<=1000000:=by omega
      have f3:=fun v w=>Qgz ((E i).bi :Nat) ((E i).bt :Nat) v w
      go_wp2_with fail;refine aC.out.mono ?_
      rintro e w7 ⟨eC,eK,rfl,dE,e2,cH⟩;obtain⟨fB,rfl⟩: ∃c,eC= .slice (some ⟨eK,0,none⟩) (E i).n c:=⟨_,dE.choose_spec.1⟩
      have b4:=Zh cH;have d9:=Zh (cZ.out _ cH);clear dE e2 cH cZ aC;unfold QC;go_wp2_with fail;refine d9.out.mono ?_
      rintro e w8 ⟨bC,fI,ae,rfl,bJ,dF,dP⟩;obtain⟨M,cj⟩: ∃M,M=Xs (E i).bi (E i).l ((E i).bi +1) 300:=⟨_,rfl⟩
      rw[<-cj] at bJ;obtain⟨fG,fH,dR,_,_⟩:=bJ.slice;simp only[Value.slice.injEq] at dR;obtain⟨e1,aF,eG⟩:=dR;subst e1 aF eG;have dO:=b4.out.trans dP (fun _ _ f=>f);obtain⟨dY,dj,fw,fo⟩:=c8.out.fresh0 dO;have cD: ∀k e,M[k]? =some e->(E i).l[k]? =some e:=fun k e h=>by rw[cj] at h;exact Qqk h
      have fe:M.length<=(E i).l.length :=by
       by_cases h0:M.length=0
       ·omega
       ·have h:=cD (M.length - 1) _ (List.getElem?_eq_getElem (by omega))
        have:=(List.getElem?_eq_some_iff.1 h).1;omega
      have fd:(E i).last =(E i).bi +(E i).l.length :=rfl;have fQ:(E i).bi +M.length<=1000:=by omega
      have dn: ∀g,(Value.slice bC M.length ae).ownBlock =some g->g≠na:=fun g ay=>by
       have:=(dF g ay).1;have:=c8.out.m.row.lt;have:=b4.out.size;omega
      have ek:=Zh cD;have d8:=Zh bJ;have cY:=Zh dn;have ej:=Zh dj;clear cD bJ dn dj dF dP dO fw fo cj fe fd b4;go_upto_block 2 with fail
      go_wp2_with fail;go_loopw [13] (fun x aw=> ∃j:Nat,x= .int .i64 j/\j<=M.length/\ ∃cf,QI W lab1 g na n kb db pc E (Raft.upd aj i (E i).kp) (T+1) nb cap aw dY Z a7 cf aW/\Qa (fun q=>q=na) w8 aw) (fun x _=>M.length - (Go.RowKit.intOf x).toNat)
      case atStart=>exact⟨0,rfl,Zz _,_,ej.out,Zr _ _⟩
      case round=>
       obtain⟨j,rfl,f6,cf,bn,bT⟩:=hrel;obtain⟨aw,rfl⟩: ∃x,x=wr:=⟨_,rfl⟩
       have c0:Hid (∀w',Qa (fun _=>False) aw w'->QdN g na n kb db pc E (Raft.upd aj i (E i).kp) (T+1) nb cap w lab (.returned (.tuple #[])) w'):=Zh (fun w' hu=>⟨rfl,_,_,_,_,_,(bn.fresh hu).base (eq.out.mono (fun _ f=>f.elim))⟩);by_cases hlt:j<M.length
       ·as_aux_lemma=>
         obtain⟨e,bK⟩: ∃e,e=M[j]:=⟨_,rfl⟩
         have dB:=ek.out j e (by rw[bK];exact List.getElem?_eq_getElem hlt);have di:QA aw (.slice bC M.length ae) (E i).bi M:=Qr.X3 d8.out bT (fun g ay=>cY.out g ay);obtain⟨O,Q,eZ,br,dV,_,dW,_⟩:=di.cells hlt;subst eZ;rw[<-bK] at dV dW;obtain⟨X,cp⟩: ∃X,X=(E i).bi +j+1:=⟨_,rfl⟩
         rw[<-cp] at br;obtain⟨b6,aI,_⟩:=bn.m.core i af;have d4:Hid (∀w',Qa (fun _=>False) aw w'->Calls Tryz.prog 15 #[.pointer (some ⟨pc i,0,none⟩)] w' (Is (.int .u64 ((E i).commit :Nat)) w')):=Zh (fun w' hu=>Qeg (aI.upd hu (fun _ _ f=>f)));have a3:(j:Int)< (M.length:Int):=by omega
         have dy:decide ((j:Int)< (M.length:Int))=true:=decide_eq_true a3;have e7:(0:Int)<=j:=by omega
         have hcur:Qa (fun _=>False) aw aw.drew:=(Zr _ aw).drew;have fq:aw.drew.cell? ⟨O,Q+j*24,none⟩=some (.int .u64 X):=br;have dd:=Zh cp;have c3:=Zh dB;have ep:=Zh bn;have ev:=Zh bT;have fx:=Zh bK;clear cp dB bn bT bK aI di;clear hcur fq;obtain⟨ag,dm⟩: ∃b,decide (X<=(E i).commit)=b:=⟨_,rfl⟩
         have dl:decide ((X:Int)<=(((E i).commit :Nat):Int))=ag:=by
          rw[<-dm];exact decide_eq_decide.2 Int.ofNat_le
         obtain⟨a0,dT⟩: ∃b,decide ((X:Int)<256)=b:=⟨_,rfl⟩
         go_upto_region 23 with fail
         refine Qcg (by kernel_rfl) (QaF (by kernel_rfl)) (Qj (by kernel_rfl)) (KA aw (fun D=>(([fun v=>v= .int .i64 j,fun v=>v= .slice (some ⟨O,Q,none⟩) M.length ae,fun v=>v= .int .i64 M.length,fun v=>v= .bool true,fun v=>v= .bool true,fun v=>v= .slice (some ⟨O,Q,none⟩) M.length ae,fun v=>v= .int .i64 j,fun v=>v= .pointer (some ⟨O,Q+j*24,none⟩),fun v=>v= .pointer (some ⟨O,Q+j*24,none⟩),fun v=>v= .int .u64 X,fun v=>v= .pointer (some ⟨pc i,0,none⟩),fun v=>v= .int .u64 ((E i).commit :Nat),fun v=>v= .bool ag,fun v=>v= .bool ag,fun v=>v= .bool ag,fun v=>ag=true->v= .slice (some ⟨O,Q,none⟩) M.length ae,fun v=>ag=true->v= .int .i64 j,fun v=>ag=true->v= .pointer (some ⟨O,Q+j*24,none⟩),fun v=>ag=true->v= .pointer (some ⟨O,Q+j*24,none⟩),fun v=>ag=true->v= .int .u64 X,fun v=>ag=true->v= .bool a0,fun v=>v= .bool (ag&&a0)]:List (Value->Prop)).getD D (fun _=>True)))) ?h0 ?hstep ?hend
         case h0=>exact⟨(Zr _ _).drew,fun D h=>by cases h⟩
         case hstep=>
          as_aux_lemma=>
           intro D az;have e5:D<22:=az;clear az;rcases (show (D=0\/D=1\/D=2\/D=3\/D=4)\/(D=5\/D=6\/D=7\/D=8\/D=9\/D=10\/D=11\/D=12)\/(D=13\/D=14)\/(D=15\/D=16\/D=17\/D=18\/D=19\/D=20)\/D=21 by omega) with N|N|N|N|N
           ·rcases N with rfl|rfl|rfl|rfl|rfl<;>refine XM rfl (Qj (by kernel_rfl)) ?_<;>intro aa hu fr hfr hfo K hK
            ·have J:fr.tmps[13]? =some (.int .i64 j):=hfo 13 (by kernel_rfl)
             clear hfr hfo;go_simp;exact hK _ _ (Zr _ _) rfl
            ·have J:fr.tmps[12]? =some (.slice (some ⟨O,Q,none⟩) M.length ae):=hfo 12 (by kernel_rfl)
             clear hfr hfo;go_simp;exact hK _ _ (Zr _ _) rfl
            ·obtain⟨_,J,rfl⟩:=hfr ⟨1,.data⟩ (by simp) rfl _ 172 rfl rfl (show 172<254 by decide)
             clear hfr hfo;go_simp;exact hK _ _ (Zr _ _) rfl
            ·obtain⟨_,J,rfl⟩:=hfr ⟨0,.data⟩ (by simp) rfl _ 171 rfl rfl (show 171<254 by decide)
             obtain⟨_,e1,rfl⟩:=hfr ⟨2,.data⟩ (by simp) rfl _ 173 rfl rfl (show 173<254 by decide);clear hfr hfo;go_simp;exact hK _ _ (Zr _ _) rfl
            ·obtain⟨_,J,rfl⟩:=hfr ⟨3,.data⟩ (by simp) rfl _ 174 rfl rfl (show 174<254 by decide)
             clear hfr hfo;go_simp;exact hK _ _ (Zr _ _) rfl
           ·rcases N with rfl|rfl|rfl|rfl|rfl|rfl|rfl|rfl<;>refine Kt rfl (Qj (by kernel_rfl)) 4 true 175 (by kernel_rfl) (by kernel_rfl) (by kernel_rfl) (by kernel_rfl) (fun v h=>h) ?_<;>intro aa hu fr hfr hfo K hK
            ·have J:fr.tmps[12]? =some (.slice (some ⟨O,Q,none⟩) M.length ae):=hfo 12 (by kernel_rfl)
             clear hfr hfo;go_simp;exact hK _ _ (Zr _ _) rfl
            ·have J:fr.tmps[13]? =some (.int .i64 j):=hfo 13 (by kernel_rfl)
             clear hfr hfo;go_simp;exact hK _ _ (Zr _ _) rfl
            ·obtain⟨_,J,rfl⟩:=hfr ⟨5,.data⟩ (by simp) rfl _ 176 rfl rfl (show 176<254 by decide)
             obtain⟨_,e1,rfl⟩:=hfr ⟨6,.data⟩ (by simp) rfl _ 177 rfl rfl (show 177<254 by decide);clear hfr hfo;go_simp;exact hK _ _ (Zr _ _) rfl
            ·obtain⟨_,J,rfl⟩:=hfr ⟨7,.data⟩ (by simp) rfl _ 178 rfl rfl (show 178<254 by decide)
             clear hfr hfo;go_simp;exact hK _ _ (Zr _ _) rfl
            ·obtain⟨_,J,rfl⟩:=hfr ⟨8,.data⟩ (by simp) rfl _ 179 rfl rfl (show 179<254 by decide)
             clear hfr hfo;have bX:=Qe hu br (fun f=>f);go_simp;exact hK _ _ (Zr _ _) rfl
            ·have J:fr.tmps[10]? =some (.pointer (some ⟨pc i,0,none⟩)):=hfo 10 (by kernel_rfl)
             clear hfr hfo;go_simp;exact hK _ _ (Zr _ _) rfl
            ·obtain⟨_,J,rfl⟩:=hfr ⟨10,.data⟩ (by simp) rfl _ 181 rfl rfl (show 181<254 by decide)
             clear hfr hfo;go_simp;go_at_call 15;refine (d4.out _ hu).mono ?_
             rintro e W ⟨rfl,rfl⟩;exact hK _ _ (Zr _ _) rfl
            ·obtain⟨_,J,rfl⟩:=hfr ⟨9,.data⟩ (by simp) rfl _ 180 rfl rfl (show 180<254 by decide)
             obtain⟨_,e1,rfl⟩:=hfr ⟨11,.data⟩ (by simp) rfl _ 182 rfl rfl (show 182<254 by decide);clear hfr hfo;go_simp;exact hK _ _ (Zr _ _) rfl
           ·rcases N with rfl|rfl<;>refine XM rfl (Qj (by kernel_rfl)) ?_<;>intro aa hu fr hfr hfo K hK
            ·obtain⟨_,J,rfl⟩:=hfr ⟨4,.data⟩ (by simp) rfl _ 175 rfl rfl (show 175<254 by decide)
             obtain⟨_,e1,rfl⟩:=hfr ⟨12,.data⟩ (by simp) rfl _ 183 rfl rfl (show 183<254 by decide);clear hfr hfo;go_simp;exact hK _ _ (Zr _ _) rfl
            ·obtain⟨_,J,rfl⟩:=hfr ⟨13,.data⟩ (by simp) rfl _ 184 rfl rfl (show 184<254 by decide)
             clear hfr hfo;go_simp;exact hK _ _ (Zr _ _) rfl
           ·cases ag with
            |false=>rcases N with rfl|rfl|rfl|rfl|rfl|rfl<;>exact WB (Qj (by kernel_rfl)) 14 true 185 false (by kernel_rfl) (by kernel_rfl) (by kernel_rfl) (by kernel_rfl) (fun v h=>h) rfl nofun
            |
             true=>
             rcases N with rfl|rfl|rfl|rfl|rfl|rfl<;>refine Kt rfl (Qj (by kernel_rfl)) 14 true 185 (by kernel_rfl) (by kernel_rfl) (by kernel_rfl) (by kernel_rfl) (fun v h=>h) ?_<;>intro aa hu fr hfr hfo K hK
             ·have J:fr.tmps[12]? =some (.slice (some ⟨O,Q,none⟩) M.length ae):=hfo 12 (by kernel_rfl)
              clear hfr hfo;go_simp;exact hK _ _ (Zr _ _) (fun _=>rfl)
             ·have J:fr.tmps[13]? =some (.int .i64 j):=hfo 13 (by kernel_rfl)
              clear hfr hfo;go_simp;exact hK _ _ (Zr _ _) (fun _=>rfl)
             ·obtain⟨v0,J,ab⟩:=hfr ⟨15,.data⟩ (by simp) rfl _ 186 rfl rfl (show 186<254 by decide)
              obtain rfl:v0= .slice (some ⟨O,Q,none⟩) M.length ae:=ab rfl;obtain⟨v1,e1,aB⟩:=hfr ⟨16,.data⟩ (by simp) rfl _ 187 rfl rfl (show 187<254 by decide);obtain rfl:v1= .int .i64 j:=aB rfl;clear hfr hfo;go_simp;exact hK _ _ (Zr _ _) (fun _=>rfl)
             ·obtain⟨v0,J,ab⟩:=hfr ⟨17,.data⟩ (by simp) rfl _ 188 rfl rfl (show 188<254 by decide)
              obtain rfl:v0= .pointer (some ⟨O,Q+j*24,none⟩):=ab rfl;clear hfr hfo;go_simp;exact hK _ _ (Zr _ _) (fun _=>rfl)
             ·obtain⟨v0,J,ab⟩:=hfr ⟨18,.data⟩ (by simp) rfl _ 189 rfl rfl (show 189<254 by decide)
              obtain rfl:v0= .pointer (some ⟨O,Q+j*24,none⟩):=ab rfl;clear hfr hfo;have bX:=Qe hu br (fun f=>f);go_simp;exact hK _ _ (Zr _ _) (fun _=>rfl)
             ·obtain⟨v0,J,ab⟩:=hfr ⟨19,.data⟩ (by simp) rfl _ 190 rfl rfl (show 190<254 by decide)
              obtain rfl:v0= .int .u64 X:=ab rfl;clear hfr hfo;go_simp;exact hK _ _ (Zr _ _) (fun _=>rfl)
           ·obtain rfl:=N;refine XM rfl (Qj (by kernel_rfl)) ?_;intro aa hu fr hfr hfo K hK
            obtain⟨_,J,rfl⟩:=hfr ⟨14,.data⟩ (by simp) rfl _ 185 rfl rfl (show 185<254 by decide);obtain⟨v1,e1,aB⟩:=hfr ⟨20,.data⟩ (by simp) rfl _ 191 rfl rfl (show 191<254 by decide);clear hfr hfo
            cases ag
            ·go_simp
             exact hK _ _ (Zr _ _) rfl
            ·obtain rfl:v1= .bool a0:=aB rfl
             go_simp;exact hK _ _ (Zr _ _) rfl
         case hend=>
          intro b5 I bZ aH ak;have av:=ak.1;have a1:I 21= .bool (ag&&a0):=ak.2 21 (aH 21 (show (21:Nat)<22 by decide));obtain⟨b7,cq⟩: ∃b7,b7=(ag&&a0):=⟨_,rfl⟩
          rw[<-cq] at a1;clear aH ak;simp only[Z6,Act.put,List.setIfInBounds_toArray,List.set_cons_zero,List.set_cons_succ];rw[a1];generalize I 0=x0,I 1=x1,I 2=x2,I 3=x3,I 4=x4,I 5=x5,I 6=x6,I 7=x7,I 8=x8,I 9=x9,I 10=x10,I 11=x11,I 12=x12,I 13=x13,I 14=x14,I 15=x15,I 16=x16,I 17=x17,I 18=x18,I 19=x19,I 20=x20 at*
          clear I b5 a1
          cases b7 with
          |
           false=>
           have bc:=Zh av;clear av;go_wp2_with fail;go_end0;exact c0.out _ bc.out
          |
           true=>
           have ct:ag=true/\a0=true:=by simpa using cq.symm
           have fY:(X:Int)<=(((E i).commit :Nat):Int):=of_decide_eq_true (dl.trans ct.1);have gm:(X:Int)<256:=of_decide_eq_true (dT.trans ct.2);have fX:X<=(E i).commit :=by omega
           have cO:X<256:=by omega
           clear cq ct dl dm dT;obtain⟨e1,aF⟩:=e;have fV:e1<=30000/\aF<=30000:=(QcE cw cu (e1,aF) (List.mem_of_getElem? c3.out)).2;have fs:bZ.cell? ⟨O,Q+j*24+1,none⟩=some (.int .u64 e1):=Qe av dV (fun f=>f);have ft:bZ.cell? ⟨O,Q+j*24+5,none⟩=some (.int .u64 aF):=Qe av dW (fun f=>f);have eS:(e1:Int)<=30000:=by omega
           have eT:(aF:Int)<=30000:=by omega
           have bc:=Zh av;clear av;go_wp2_with fail;go_quiet (fail);go_upto_region 26 with fail
           have bR:=bc.out.drewN nq;generalize bZ.drewN nq=wD at*
           have bW:wD.cell? ⟨O,Q+j*24,none⟩=some (.int .u64 X):=Qe bR br (fun f=>f);have bx:=Zh (ep.out.fresh bR);obtain⟨aM,bI⟩:=Wi.same bx.out.p.dno (bx.out.p.sim i af) c3.out (by have:=dd.out;omega);rw[show (E i).bi +j+1=X from dd.out.symm] at aM bI;obtain⟨bA,cl⟩: ∃bA,bA=Qdr (e1,aF):=⟨_,rfl⟩
           rw[<-cl] at aM bI;obtain⟨ap,co⟩: ∃z:Int,z=1+(e1:Int)*1048576+(aF:Int)*2:=⟨_,rfl⟩
           have cm:(bA:Int)=ap:=by
            rw[cl,co];show (((1+e1*1048576+aF*2:Nat)):Int)=_;omega
           rw[<-co];have fS:(0:Int)<ap:=by omega
           have ew:=Zh cm;have au:=bx.out.m.row;have Kq:=au.Kq;have dg:=au.fr 331;have eb:Hid (∀w',Qa (fun _=>False) wD w'->w'.frozen? ⟨na,331,none⟩=false):=Zh (fun w' hu=>(au.upd hu (fun f=>f)).fr 331);have ed:Hid (O≠na):=Zh (cY.out O rfl);have b8:=au.cdn cO;have d7:=Zh bI;obtain⟨aO,ch⟩: ∃z:Int,z=((cf X:Nat):Int):=⟨_,rfl⟩
           rw[<-ch] at b8;obtain⟨ac,dv⟩: ∃b,decide ((0:Int)<aO)=b:=⟨_,rfl⟩
           have eN:ac=true->(aO != ap)=false:=fun h=>by
            rw[h] at dv;have aK:(0:Int)<aO:=of_decide_eq_true dv;have aR:aO=ap:=by rw[ch,aM (by omega),cm]
            rw[aR];simp
           have fT:(0:Int)<=X:=by omega
           have eu:=Zh (ev.out.trans (bR.mono (T:=fun q=>q=na) (fun _ _ f=>f.elim)) (fun _ _ h=>h));clear aM bI au cl co cm fs ft eS eT bR dg ch
           refine Qfo (by kernel_rfl) (QaF (by kernel_rfl)) (Qj (by kernel_rfl)) wD (fun D=>(([fun v=>v= .pointer (some ⟨na,0,none⟩),fun v=>v= .pointer (some ⟨na,0,none⟩),fun v=>v= .pointer (some ⟨na,0,none⟩),fun v=>v= .pointer (some ⟨na,331,none⟩),fun v=>v= .bool false,fun v=>v= .bool false,fun v=>v= .pointer (some ⟨na,0,none⟩),fun v=>v= .slice (some ⟨O,Q,none⟩) M.length ae,fun v=>v= .int .i64 j,fun v=>v= .pointer (some ⟨O,Q+j*24,none⟩),fun v=>v= .pointer (some ⟨O,Q+j*24,none⟩),fun v=>v= .int .u64 X,fun v=>v= .pointer (some ⟨na,0,none⟩),fun v=>v= .pointer (some ⟨na,75,none⟩),fun v=>v= .pointer (some ⟨na,75+X,none⟩),fun v=>v= .int .u64 aO,fun v=>v= .bool ac,fun v=>v= .bool ac,fun v=>ac=true->v= .pointer (some ⟨na,0,none⟩),fun v=>ac=true->v= .slice (some ⟨O,Q,none⟩) M.length ae,fun v=>ac=true->v= .int .i64 j,fun v=>ac=true->v= .pointer (some ⟨O,Q+j*24,none⟩),fun v=>ac=true->v= .pointer (some ⟨O,Q+j*24,none⟩),fun v=>ac=true->v= .int .u64 X,fun v=>ac=true->v= .pointer (some ⟨na,0,none⟩),fun v=>ac=true->v= .pointer (some ⟨na,75,none⟩),fun v=>ac=true->v= .pointer (some ⟨na,75+X,none⟩),fun v=>ac=true->v= .int .u64 aO,fun v=>ac=true->v= .int .u64 ap,fun v=>ac=true->v= .bool false,fun v=>v= .bool false,fun v=>v= .bool false,fun v=>v= .pointer (some ⟨na,0,none⟩),fun v=>v= .pointer (some ⟨na,331,none⟩),fun _=>True]:List (Value->Prop)).getD D (fun _=>True))) 34 (fun w w'=>w'=w.setCell ⟨na,331,none⟩ (.bool false)) (by kernel_rfl) ?h0 ?hstep ?hend
           case h0=>exact (Zr _ _).drew
           case hstep=>
            as_aux_lemma=>
             intro D az;have e6:D<35:=az;clear az;rcases (show (D=0\/D=1\/D=2\/D=3\/D=4\/D=5)\/(D=6\/D=7\/D=8\/D=9\/D=10\/D=11\/D=12\/D=13\/D=14\/D=15\/D=16\/D=17)\/(D=18\/D=19\/D=20\/D=21\/D=22\/D=23\/D=24\/D=25\/D=26\/D=27\/D=28\/D=29)\/D=30\/(D=31\/D=32\/D=33)\/D=34 by omega) with N|N|N|N|N|N
             ·rcases N with rfl|rfl|rfl|rfl|rfl|rfl<;>refine Xf rfl (Qj (by kernel_rfl)) (by kernel_rfl) (by decide) ?_<;>intro aa hu fr hfr hfo K hK
              ·have J:fr.tmps[0]? =some (.pointer (some ⟨na,0,none⟩)):=hfo 0 (by kernel_rfl)
               clear hfr hfo;go_simp;exact hK _ _ (Zr _ _) rfl
              ·have J:fr.tmps[0]? =some (.pointer (some ⟨na,0,none⟩)):=hfo 0 (by kernel_rfl)
               clear hfr hfo;go_simp;exact hK _ _ (Zr _ _) rfl
              ·obtain⟨_,J,rfl⟩:=hfr ⟨1,.data⟩ (by simp) rfl _ 211 rfl rfl (show 211<254 by decide)
               clear hfr hfo;go_simp;exact hK _ _ (Zr _ _) rfl
              ·obtain⟨_,J,rfl⟩:=hfr ⟨2,.data⟩ (by simp) rfl _ 212 rfl rfl (show 212<254 by decide)
               clear hfr hfo;go_simp;exact hK _ _ (Zr _ _) rfl
              ·obtain⟨_,J,rfl⟩:=hfr ⟨3,.data⟩ (by simp) rfl _ 213 rfl rfl (show 213<254 by decide)
               clear hfr hfo;have eE:=Qe hu Kq (fun f=>f);go_simp;exact hK _ _ (Zr _ _) rfl
              ·obtain⟨_,J,rfl⟩:=hfr ⟨4,.data⟩ (by simp) rfl _ 214 rfl rfl (show 214<254 by decide)
               clear hfr hfo;go_simp;exact hK _ _ (Zr _ _) rfl
             ·rcases N with rfl|rfl|rfl|rfl|rfl|rfl|rfl|rfl|rfl|rfl|rfl|rfl<;>refine XS rfl (Qj (by kernel_rfl)) (by kernel_rfl) (by decide) 5 false 215 (by kernel_rfl) (by kernel_rfl) (by kernel_rfl) (by kernel_rfl) (fun v h=>h) ?_<;>intro aa hu fr hfr hfo K hK
              ·have J:fr.tmps[0]? =some (.pointer (some ⟨na,0,none⟩)):=hfo 0 (by kernel_rfl)
               clear hfr hfo;go_simp;exact hK _ _ (Zr _ _) rfl
              ·have J:fr.tmps[12]? =some (.slice (some ⟨O,Q,none⟩) M.length ae):=hfo 12 (by kernel_rfl)
               clear hfr hfo;go_simp;exact hK _ _ (Zr _ _) rfl
              ·have J:fr.tmps[13]? =some (.int .i64 j):=hfo 13 (by kernel_rfl)
               clear hfr hfo;go_simp;exact hK _ _ (Zr _ _) rfl
              ·obtain⟨_,J,rfl⟩:=hfr ⟨7,.data⟩ (by simp) rfl _ 217 rfl rfl (show 217<254 by decide)
               obtain⟨_,e1,rfl⟩:=hfr ⟨8,.data⟩ (by simp) rfl _ 218 rfl rfl (show 218<254 by decide);clear hfr hfo;go_simp;exact hK _ _ (Zr _ _) rfl
              ·obtain⟨_,J,rfl⟩:=hfr ⟨9,.data⟩ (by simp) rfl _ 219 rfl rfl (show 219<254 by decide)
               clear hfr hfo;go_simp;exact hK _ _ (Zr _ _) rfl
              ·obtain⟨_,J,rfl⟩:=hfr ⟨10,.data⟩ (by simp) rfl _ 220 rfl rfl (show 220<254 by decide)
               clear hfr hfo;have bX:=Qe hu bW (fun f=>f);go_simp;exact hK _ _ (Zr _ _) rfl
              ·obtain⟨_,J,rfl⟩:=hfr ⟨6,.data⟩ (by simp) rfl _ 216 rfl rfl (show 216<254 by decide)
               clear hfr hfo;go_simp;exact hK _ _ (Zr _ _) rfl
              ·obtain⟨_,J,rfl⟩:=hfr ⟨12,.data⟩ (by simp) rfl _ 222 rfl rfl (show 222<254 by decide)
               clear hfr hfo;go_simp;exact hK _ _ (Zr _ _) rfl
              ·obtain⟨_,J,rfl⟩:=hfr ⟨13,.data⟩ (by simp) rfl _ 223 rfl rfl (show 223<254 by decide)
               obtain⟨_,e1,rfl⟩:=hfr ⟨11,.data⟩ (by simp) rfl _ 221 rfl rfl (show 221<254 by decide);clear hfr hfo;go_simp;exact hK _ _ (Zr _ _) rfl
              ·obtain⟨_,J,rfl⟩:=hfr ⟨14,.data⟩ (by simp) rfl _ 224 rfl rfl (show 224<254 by decide)
               clear hfr hfo;have de:=Qe hu b8 (fun f=>f);go_simp;exact hK _ _ (Zr _ _) rfl
              ·obtain⟨_,J,rfl⟩:=hfr ⟨15,.data⟩ (by simp) rfl _ 225 rfl rfl (show 225<254 by decide)
               clear hfr hfo;go_simp;exact hK _ _ (Zr _ _) rfl
              ·obtain⟨_,J,rfl⟩:=hfr ⟨16,.data⟩ (by simp) rfl _ 226 rfl rfl (show 226<254 by decide)
               clear hfr hfo;go_simp;exact hK _ _ (Zr _ _) rfl
             ·cases ac with
              |false=>rcases N with rfl|rfl|rfl|rfl|rfl|rfl|rfl|rfl|rfl|rfl|rfl|rfl<;>exact KP (Qj (by kernel_rfl)) (by kernel_rfl) (by decide) 17 true 227 false (by kernel_rfl) (by kernel_rfl) (by kernel_rfl) (by kernel_rfl) (fun v h=>h) rfl nofun
              |
               true=>
               rcases N with rfl|rfl|rfl|rfl|rfl|rfl|rfl|rfl|rfl|rfl|rfl|rfl<;>refine XS rfl (Qj (by kernel_rfl)) (by kernel_rfl) (by decide) 17 true 227 (by kernel_rfl) (by kernel_rfl) (by kernel_rfl) (by kernel_rfl) (fun v h=>h) ?_<;>intro aa hu fr hfr hfo K hK
               ·have J:fr.tmps[0]? =some (.pointer (some ⟨na,0,none⟩)):=hfo 0 (by kernel_rfl)
                clear hfr hfo;go_simp;exact hK _ _ (Zr _ _) (fun _=>rfl)
               ·have J:fr.tmps[12]? =some (.slice (some ⟨O,Q,none⟩) M.length ae):=hfo 12 (by kernel_rfl)
                clear hfr hfo;go_simp;exact hK _ _ (Zr _ _) (fun _=>rfl)
               ·have J:fr.tmps[13]? =some (.int .i64 j):=hfo 13 (by kernel_rfl)
                clear hfr hfo;go_simp;exact hK _ _ (Zr _ _) (fun _=>rfl)
               ·obtain⟨v0,J,ab⟩:=hfr ⟨19,.data⟩ (by simp) rfl _ 229 rfl rfl (show 229<254 by decide)
                obtain rfl:v0= .slice (some ⟨O,Q,none⟩) M.length ae:=ab rfl;obtain⟨v1,e1,aB⟩:=hfr ⟨20,.data⟩ (by simp) rfl _ 230 rfl rfl (show 230<254 by decide);obtain rfl:v1= .int .i64 j:=aB rfl;clear hfr hfo;go_simp;exact hK _ _ (Zr _ _) (fun _=>rfl)
               ·obtain⟨v0,J,ab⟩:=hfr ⟨21,.data⟩ (by simp) rfl _ 231 rfl rfl (show 231<254 by decide)
                obtain rfl:v0= .pointer (some ⟨O,Q+j*24,none⟩):=ab rfl;clear hfr hfo;go_simp;exact hK _ _ (Zr _ _) (fun _=>rfl)
               ·obtain⟨v0,J,ab⟩:=hfr ⟨22,.data⟩ (by simp) rfl _ 232 rfl rfl (show 232<254 by decide)
                obtain rfl:v0= .pointer (some ⟨O,Q+j*24,none⟩):=ab rfl;clear hfr hfo;have bX:=Qe hu bW (fun f=>f);go_simp;exact hK _ _ (Zr _ _) (fun _=>rfl)
               ·obtain⟨v0,J,ab⟩:=hfr ⟨18,.data⟩ (by simp) rfl _ 228 rfl rfl (show 228<254 by decide)
                obtain rfl:v0= .pointer (some ⟨na,0,none⟩):=ab rfl;clear hfr hfo;go_simp;exact hK _ _ (Zr _ _) (fun _=>rfl)
               ·obtain⟨v0,J,ab⟩:=hfr ⟨24,.data⟩ (by simp) rfl _ 234 rfl rfl (show 234<254 by decide)
                obtain rfl:v0= .pointer (some ⟨na,0,none⟩):=ab rfl;clear hfr hfo;go_simp;exact hK _ _ (Zr _ _) (fun _=>rfl)
               ·obtain⟨v0,J,ab⟩:=hfr ⟨25,.data⟩ (by simp) rfl _ 235 rfl rfl (show 235<254 by decide)
                obtain rfl:v0= .pointer (some ⟨na,75,none⟩):=ab rfl;obtain⟨v1,e1,aB⟩:=hfr ⟨23,.data⟩ (by simp) rfl _ 233 rfl rfl (show 233<254 by decide);obtain rfl:v1= .int .u64 X:=aB rfl;clear hfr hfo;go_simp;exact hK _ _ (Zr _ _) (fun _=>rfl)
               ·obtain⟨v0,J,ab⟩:=hfr ⟨26,.data⟩ (by simp) rfl _ 236 rfl rfl (show 236<254 by decide)
                obtain rfl:v0= .pointer (some ⟨na,75+X,none⟩):=ab rfl;clear hfr hfo;have de:=Qe hu b8 (fun f=>f);go_simp;exact hK _ _ (Zr _ _) (fun _=>rfl)
               ·have J:fr.tmps[14]? =some (.int .u64 ap):=hfo 14 (by kernel_rfl)
                clear hfr hfo;go_simp;exact hK _ _ (Zr _ _) (fun _=>rfl)
               ·obtain⟨v0,J,ab⟩:=hfr ⟨27,.data⟩ (by simp) rfl _ 237 rfl rfl (show 237<254 by decide)
                obtain rfl:v0= .int .u64 aO:=ab rfl;obtain⟨v1,e1,aB⟩:=hfr ⟨28,.data⟩ (by simp) rfl _ 238 rfl rfl (show 238<254 by decide);obtain rfl:v1= .int .u64 ap:=aB rfl;clear hfr hfo;have gf:=eN rfl;go_simp;exact hK _ _ (Zr _ _) (fun _=>rfl)
             ·obtain rfl:=N;refine XS rfl (Qj (by kernel_rfl)) (by kernel_rfl) (by decide) 5 false 215 (by kernel_rfl) (by kernel_rfl) (by kernel_rfl) (by kernel_rfl) (fun v h=>h) ?_;intro aa hu fr hfr hfo K hK
              obtain⟨_,J,rfl⟩:=hfr ⟨17,.data⟩ (by simp) rfl _ 227 rfl rfl (show 227<254 by decide);obtain⟨v1,e1,aB⟩:=hfr ⟨29,.data⟩ (by simp) rfl _ 239 rfl rfl (show 239<254 by decide);clear hfr hfo
              cases ac
              ·go_simp
               exact hK _ _ (Zr _ _) rfl
              ·obtain rfl:v1= .bool false:=aB rfl
               go_simp;exact hK _ _ (Zr _ _) rfl
             ·rcases N with rfl|rfl|rfl<;>refine Xf rfl (Qj (by kernel_rfl)) (by kernel_rfl) (by decide) ?_<;>intro aa hu fr hfr hfo K hK
              ·obtain⟨_,J,rfl⟩:=hfr ⟨5,.data⟩ (by simp) rfl _ 215 rfl rfl (show 215<254 by decide)
               obtain⟨_,e1,rfl⟩:=hfr ⟨30,.data⟩ (by simp) rfl _ 240 rfl rfl (show 240<254 by decide);clear hfr hfo;go_simp;exact hK _ _ (Zr _ _) rfl
              ·obtain⟨_,J,rfl⟩:=hfr ⟨0,.data⟩ (by simp) rfl _ 210 rfl rfl (show 210<254 by decide)
               clear hfr hfo;go_simp;exact hK _ _ (Zr _ _) rfl
              ·obtain⟨_,J,rfl⟩:=hfr ⟨32,.data⟩ (by simp) rfl _ 242 rfl rfl (show 242<254 by decide)
               clear hfr hfo;go_simp;exact hK _ _ (Zr _ _) rfl
             ·obtain rfl:=N;refine QhX rfl (by kernel_rfl) (Qj (by kernel_rfl)) (fun _=>trivial) ?_;intro aa hu fr hfr hfo K hK
              obtain⟨_,J,rfl⟩:=hfr ⟨33,.data⟩ (by simp) rfl _ 243 rfl rfl (show 243<254 by decide);obtain⟨_,e1,rfl⟩:=hfr ⟨31,.data⟩ (by simp) rfl _ 241 rfl rfl (show 241<254 by decide);clear hfr hfo;have eE:=Qe hu Kq (fun f=>f);have fK:=eb.out _ hu;go_simp;exact hK _ rfl
           case hend=>
            intro I bS gk cJ eO aH;subst eO;clear aH;simp only[Z6,Act.put,List.setIfInBounds_toArray,List.set_cons_zero,List.set_cons_succ];generalize I 0=y0,I 1=y1,I 2=y2,I 3=y3,I 4=y4,I 5=y5,I 6=y6,I 7=y7,I 8=y8,I 9=y9,I 10=y10,I 11=y11,I 12=y12,I 13=y13,I 14=y14,I 15=y15,I 16=y16,I 17=y17,I 18=y18,I 19=y19,I 20=y20,I 21=y21,I 22=y22,I 23=y23,I 24=y24,I 25=y25,I 26=y26,I 27=y27,I 28=y28,I 29=y29,I 30=y30,I 31=y31,I 32=y32,I 33=y33,I 34=y34 at*
            clear I;have bm:=bx.out.fresh cJ;have bH:=bm.cells ((Zr (fun q=>q=na) bS).setCell (p:=⟨na,331,none⟩) (fun _=>rfl) _) (bm.m.row.setB false) bm.p.ldo bm.p.dno;have cI:Qa (fun q=>q=na) wD (bS.setCell ⟨na,331,none⟩ (.bool false)):=(cJ.mono (T:=fun q=>q=na) (fun _ _ f=>f.elim)).setCell (p:=⟨na,331,none⟩) (fun _=>rfl) _;have fp:(bS.setCell ⟨na,331,none⟩ (.bool false)).cell? ⟨O,Q+j*24,none⟩=some (.int .u64 X):=Qe cI bW (fun e=>ed.out e);generalize bS.setCell ⟨na,331,none⟩ (.bool false)=wE at*
            have eF:=bH.m.row.cdn cO;have ec:Hid (∀w',Qa (fun _=>False) wE w'->w'.frozen? ⟨na,75+X,none⟩=false):=Zh (fun w' hu=>(bH.m.row.upd hu (fun f=>f)).fr (75+X));have da:=Zh bH;have et:=Zh cI;clear bm bH cI cJ bW;go_wp2_with fail;refine Qfo (by kernel_rfl) (QaF (by kernel_rfl)) (Qj (by kernel_rfl)) wE (fun D=>(([fun v=>v= .pointer (some ⟨na,0,none⟩),fun v=>v= .slice (some ⟨O,Q,none⟩) M.length ae,fun v=>v= .int .i64 j,fun v=>v= .pointer (some ⟨O,Q+j*24,none⟩),fun v=>v= .pointer (some ⟨O,Q+j*24,none⟩),fun v=>v= .int .u64 X,fun v=>v= .int .u64 ap,fun v=>v= .pointer (some ⟨na,0,none⟩),fun v=>v= .pointer (some ⟨na,75,none⟩),fun v=>v= .pointer (some ⟨na,75+X,none⟩),fun _=>True]:List (Value->Prop)).getD D (fun _=>True))) 10 (fun w w'=>w'=w.setCell ⟨na,75+X,none⟩ (.int .u64 ap)) (by kernel_rfl) ?h0 ?hstep ?hend
            case h0=>exact (Zr _ _).drew
            case hstep=>
             as_aux_lemma=>
              intro D az;have e6:D<11:=az;clear az;rcases (show (D=0\/D=1\/D=2\/D=3\/D=4\/D=5\/D=6\/D=7\/D=8\/D=9)\/D=10 by omega) with N|N
              ·rcases N with rfl|rfl|rfl|rfl|rfl|rfl|rfl|rfl|rfl|rfl<;>refine Xf rfl (Qj (by kernel_rfl)) (by kernel_rfl) (by decide) ?_<;>intro aa hu fr hfr hfo K hK
               ·have J:fr.tmps[0]? =some (.pointer (some ⟨na,0,none⟩)):=hfo 0 (by kernel_rfl)
                clear hfr hfo;go_simp;exact hK _ _ (Zr _ _) rfl
               ·have J:fr.tmps[12]? =some (.slice (some ⟨O,Q,none⟩) M.length ae):=hfo 12 (by kernel_rfl)
                clear hfr hfo;go_simp;exact hK _ _ (Zr _ _) rfl
               ·have J:fr.tmps[13]? =some (.int .i64 j):=hfo 13 (by kernel_rfl)
                clear hfr hfo;go_simp;exact hK _ _ (Zr _ _) rfl
               ·obtain⟨_,J,rfl⟩:=hfr ⟨1,.data⟩ (by simp) rfl _ 245 rfl rfl (show 245<254 by decide)
                obtain⟨_,e1,rfl⟩:=hfr ⟨2,.data⟩ (by simp) rfl _ 246 rfl rfl (show 246<254 by decide);clear hfr hfo;go_simp;exact hK _ _ (Zr _ _) rfl
               ·obtain⟨_,J,rfl⟩:=hfr ⟨3,.data⟩ (by simp) rfl _ 247 rfl rfl (show 247<254 by decide)
                clear hfr hfo;go_simp;exact hK _ _ (Zr _ _) rfl
               ·obtain⟨_,J,rfl⟩:=hfr ⟨4,.data⟩ (by simp) rfl _ 248 rfl rfl (show 248<254 by decide)
                clear hfr hfo;have bX:=Qe hu fp (fun f=>f);go_simp;exact hK _ _ (Zr _ _) rfl
               ·have J:fr.tmps[14]? =some (.int .u64 ap):=hfo 14 (by kernel_rfl)
                clear hfr hfo;go_simp;exact hK _ _ (Zr _ _) rfl
               ·obtain⟨_,J,rfl⟩:=hfr ⟨0,.data⟩ (by simp) rfl _ 244 rfl rfl (show 244<254 by decide)
                clear hfr hfo;go_simp;exact hK _ _ (Zr _ _) rfl
               ·obtain⟨_,J,rfl⟩:=hfr ⟨7,.data⟩ (by simp) rfl _ 251 rfl rfl (show 251<254 by decide)
                clear hfr hfo;go_simp;exact hK _ _ (Zr _ _) rfl
               ·obtain⟨_,J,rfl⟩:=hfr ⟨8,.data⟩ (by simp) rfl _ 252 rfl rfl (show 252<254 by decide)
                obtain⟨_,e1,rfl⟩:=hfr ⟨5,.data⟩ (by simp) rfl _ 249 rfl rfl (show 249<254 by decide);clear hfr hfo;go_simp;exact hK _ _ (Zr _ _) rfl
              ·obtain rfl:=N;refine QhX rfl (by kernel_rfl) (Qj (by kernel_rfl)) (fun _=>trivial) ?_;intro aa hu fr hfr hfo K hK
               obtain⟨_,J,rfl⟩:=hfr ⟨9,.data⟩ (by simp) rfl _ 253 rfl rfl (show 253<254 by decide);obtain⟨_,e1,rfl⟩:=hfr ⟨6,.data⟩ (by simp) rfl _ 250 rfl rfl (show 250<254 by decide);clear hfr hfo;have de:=Qe hu eF (fun f=>f);have fO:=ec.out _ hu;go_simp;exact hK _ rfl
            case hend=>
             intro I cL gl cK eP aH;subst eP;clear aH;simp only[Z6,Act.put,List.setIfInBounds_toArray,List.set_cons_zero,List.set_cons_succ];generalize I 0=y0,I 1=y1,I 2=y2,I 3=y3,I 4=y4,I 5=y5,I 6=y6,I 7=y7,I 8=y8,I 9=y9,I 10=y10 at*
             clear I;have bF:=da.out.fresh cK;have eY:=da.out.p.dno;have ax:Hid (∃ce,QI W lab1 g na n kb db pc E (Raft.upd aj i (E i).kp) (T+1) nb cap (cL.setCell ⟨na,75+X,none⟩ (.int .u64 ap)) dY Z a7 ce aW):=Zh ⟨_,bF.cells ((Zr (fun q=>q=na) cL).setCell (p:=⟨na,75+X,none⟩) (fun _=>rfl) _) (by rw[<-ew.out];exact bF.m.row.Qqb cO bA) bF.p.ldo d7.out⟩;have es:Hid (Qa (fun q=>q=na) w8 (cL.setCell ⟨na,75+X,none⟩ (.int .u64 ap))):=Zh (((eu.out.trans et.out (fun _ _ h=>h)).trans (cK.mono (T:=fun q=>q=na) (fun _ _ f=>f.elim)) (fun _ _ h=>h)).setCell (p:=⟨na,75+X,none⟩) (fun _=>rfl) _);clear bF eY cK;go_wp2_with fail;obtain⟨ce,eR⟩:=ax.out;exact⟨⟨j+1,by go_num,by omega,ce,eR,es.out⟩,by simp[Go.RowKit.intOf];omega⟩
       ·have cx:j=M.length:=by omega
        subst cx;have a3: ¬(M.length:Int)< (M.length:Int):=by omega
        have dy:decide ((M.length:Int)< (M.length:Int))=false:=decide_eq_false a3;clear bn bT;go_upto_region 23 with fail
        refine Qcg (by kernel_rfl) (QaF (by kernel_rfl)) (Qj (by kernel_rfl)) (KA aw (fun D=>(([fun v=>v= .int .i64 M.length,fun v=>v= .slice bC M.length ae,fun v=>v= .int .i64 M.length,fun v=>v= .bool false,fun v=>v= .bool false,fun _=>True,fun _=>True,fun _=>True,fun _=>True,fun _=>True,fun _=>True,fun _=>True,fun _=>True,fun v=>v= .bool false,fun v=>v= .bool false,fun _=>True,fun _=>True,fun _=>True,fun _=>True,fun _=>True,fun _=>True,fun v=>v= .bool false]:List (Value->Prop)).getD D (fun _=>True)))) ?h0 ?hstep ?hend
        case h0=>exact⟨(Zr _ _).drew,fun D h=>by cases h⟩
        case hstep=>
         as_aux_lemma=>
          intro D az;have e5:D<22:=az;clear az;rcases (show (D=0\/D=1\/D=2\/D=3\/D=4)\/(D=5\/D=6\/D=7\/D=8\/D=9\/D=10\/D=11\/D=12)\/(D=13\/D=14)\/(D=15\/D=16\/D=17\/D=18\/D=19\/D=20)\/D=21 by omega) with N|N|N|N|N
          ·rcases N with rfl|rfl|rfl|rfl|rfl<;>refine XM rfl (Qj (by kernel_rfl)) ?_<;>intro aa hu fr hfr hfo K hK
           ·have J:fr.tmps[13]? =some (.int .i64 M.length):=hfo 13 (by kernel_rfl)
            clear hfr hfo;go_simp;exact hK _ _ (Zr _ _) rfl
           ·have J:fr.tmps[12]? =some (.slice bC M.length ae):=hfo 12 (by kernel_rfl)
            clear hfr hfo;go_simp;exact hK _ _ (Zr _ _) rfl
           ·obtain⟨_,J,rfl⟩:=hfr ⟨1,.data⟩ (by simp) rfl _ 172 rfl rfl (show 172<254 by decide)
            clear hfr hfo;go_simp;exact hK _ _ (Zr _ _) rfl
           ·obtain⟨_,J,rfl⟩:=hfr ⟨0,.data⟩ (by simp) rfl _ 171 rfl rfl (show 171<254 by decide)
            obtain⟨_,e1,rfl⟩:=hfr ⟨2,.data⟩ (by simp) rfl _ 173 rfl rfl (show 173<254 by decide);clear hfr hfo;go_simp;exact hK _ _ (Zr _ _) rfl
           ·obtain⟨_,J,rfl⟩:=hfr ⟨3,.data⟩ (by simp) rfl _ 174 rfl rfl (show 174<254 by decide)
            clear hfr hfo;go_simp;exact hK _ _ (Zr _ _) rfl
          ·rcases N with rfl|rfl|rfl|rfl|rfl|rfl|rfl|rfl<;>exact WB (Qj (by kernel_rfl)) 4 true 175 false (by kernel_rfl) (by kernel_rfl) (by kernel_rfl) (by kernel_rfl) (fun v h=>h) rfl trivial
          ·rcases N with rfl|rfl<;>refine XM rfl (Qj (by kernel_rfl)) ?_<;>intro aa hu fr hfr hfo K hK
           ·obtain⟨_,J,rfl⟩:=hfr ⟨4,.data⟩ (by simp) rfl _ 175 rfl rfl (show 175<254 by decide)
            obtain⟨v1,e1,_⟩:=hfr ⟨12,.data⟩ (by simp) rfl _ 183 rfl rfl (show 183<254 by decide);clear hfr hfo;go_simp;exact hK _ _ (Zr _ _) rfl
           ·obtain⟨_,J,rfl⟩:=hfr ⟨13,.data⟩ (by simp) rfl _ 184 rfl rfl (show 184<254 by decide)
            clear hfr hfo;go_simp;exact hK _ _ (Zr _ _) rfl
          ·rcases N with rfl|rfl|rfl|rfl|rfl|rfl<;>exact WB (Qj (by kernel_rfl)) 14 true 185 false (by kernel_rfl) (by kernel_rfl) (by kernel_rfl) (by kernel_rfl) (fun v h=>h) rfl trivial
          ·obtain rfl:=N;refine XM rfl (Qj (by kernel_rfl)) ?_;intro aa hu fr hfr hfo K hK
           obtain⟨_,J,rfl⟩:=hfr ⟨14,.data⟩ (by simp) rfl _ 185 rfl rfl (show 185<254 by decide);obtain⟨v1,e1,_⟩:=hfr ⟨20,.data⟩ (by simp) rfl _ 191 rfl rfl (show 191<254 by decide);clear hfr hfo;go_simp;exact hK _ _ (Zr _ _) rfl
        case hend=>
         intro b5 I bZ aH ak;have av:=ak.1;have a1:I 21= .bool false:=ak.2 21 (aH 21 (show (21:Nat)<22 by decide));clear aH ak;simp only[Z6,Act.put,List.setIfInBounds_toArray,List.set_cons_zero,List.set_cons_succ];rw[a1];generalize I 0=x0,I 1=x1,I 2=x2,I 3=x3,I 4=x4,I 5=x5,I 6=x6,I 7=x7,I 8=x8,I 9=x9,I 10=x10,I 11=x11,I 12=x12,I 13=x13,I 14=x14,I 15=x15,I 16=x16,I 17=x17,I 18=x18,I 19=x19,I 20=x20 at*
         clear I b5 a1;have bc:=Zh av;clear av;go_wp2_with fail;go_end0;exact c0.out _ bc.out
end
end Go.Proofs.YtbleblbfadeciaaGreatDoor
