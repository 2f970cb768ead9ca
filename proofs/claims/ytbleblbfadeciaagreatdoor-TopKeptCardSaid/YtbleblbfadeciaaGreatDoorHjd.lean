/- For TopKept. -/
import Derived.Test.YtbleblbfadeciaaGreatDoorLc
import Derived.Test.YtbleblbfadeciaaGreatDoorHi
import Derived.Test.YtbleblbfadeciaaGreatDoorTm
import Derived.Test.YtbleblbfadeciaaGreatDoorZw
set_option linter.all false
set_option maxHeartbeats 16000000
set_option maxRecDepth 10000
namespace Go.Proofs.YtbleblbfadeciaaGreatDoor
variable{la:List Nat}{a cap n na nb nc:Nat}{fa fb lab:Nat->Nat}{O:Option Addr}{Y:Value}{w w0:World}
section
open Go.RowKit Go.Acre Go.Acre.Dk
open Raft (upd_same upd_ne G)
attribute [local go_sem ↓] LcG ScG ApG
attribute [local go_sem] Sc1 Sc2 Sc3 Lc2 Lc3
attribute [local simp] QH X6
section
variable {w0 w:World} {lab0 lab:Nat->Nat} {g:G} {hb n:Nat} {kb db pc:Nat->Nat} {cs:Nat->Core} {T lb cap:Nat} {us:List PV} {ld dn:Nat->Nat} {uv:Value}
theorem QmC{A:Array Value}(h:A.size=60):(Tryz.prog.info? 78).map (·.size)=some A.size:=by rw[h];kernel_rfl
theorem Qj6(h:QI w0 lab0 g hb n kb db pc cs (Q6 cs) T lb cap w lab us ld dn uv)(cG:T<=230){ao a seq:Nat}(c2:ao<256)(cH:a<256)(a5:ao%8=2\/ao%8=3\/ao%8=4):
  Calls Tryz.prog 5 #[.pointer (some ⟨hb,0,none⟩),.int .i64 ao,.int .i64 a,.int .i64 seq] w (ZW w0 lab0 hb n db (T+1) lb cap):=by
 have cX:=h.p.n5;obtain⟨i,bO⟩: ∃i,i=a%n:=⟨_,rfl⟩
 have cY:(a:Int)%(n:Int)=(i:Nat):=by rw[bO];rfl
 obtain⟨cv,bd⟩: ∃k,k=ao%8:=⟨_,rfl⟩
 have c0:(ao:Int)%8=(cv:Nat):=by rw[bd];rfl
 rw[<-bd] at a5;obtain⟨m,be⟩: ∃m,m=us.length:=⟨_,rfl⟩
 have cT:m<=200:=by have:=h.m.few;omega
 have cW:(1:Int)<=n:=by omega
 have cI:(0:Int)<=a:=by omega
 have c3:(0:Int)<=ao:=by omega
 have c9:=h.m.c9;have c10:=h.m.row.c10;obtain⟨ua,ab,cr⟩:=Qr.slice (Qr.Q7 h.m.under);subst cr;rw[<-be] at c10;have H:=Zh h;have ae:=Zh be;clear h bO bd be;go_enter Tryz.func5,Tryz.ntmps5;go_upto_if 55 with fail
 go_cut [55] (fun b D=>b= .bool false/\D=w)
 case first=>
  rcases a5 with rfl|rfl|rfl<;>(go_wp2_with fail;go_meet;case rel=>exact⟨rfl,rfl⟩)
 case rest=>
 obtain⟨rfl,bs⟩:=hcut;subst bs;go_upto_if 77 with fail
 go_cut [77] (fun b D=>b= .bool true/\D=wc)
 case first=>
  rcases a5 with rfl|rfl|rfl<;>(go_wp2_with fail;go_meet;case rel=>exact⟨rfl,rfl⟩)
 case rest=>
 obtain⟨rfl,bs⟩:=hcut;subst bs;by_cases hm0:m=0
 ·have bh:(m:Int)=0:=by omega
  have co:((m:Int)==0)=true:=by rw[bh];rfl
  have a0:Hid (ZW w0 lab0 hb n db (T+1) lb cap (.returned (.tuple #[])) wc):=Zh ⟨rfl,_,_,_,_,_,_,_,_,_,H.out.mono (Nat.le_succ T)⟩;go_wp2_with fail;go_end0;exact a0.out
 ·have bh: ¬(m:Int)=0:=by omega
  have co:((m:Int)==0)=false:=beq_eq_false_iff_ne.2 bh;have cR:(1:Int)<=m:=by omega
  obtain⟨k,bc⟩: ∃k,k=a%m:=⟨_,rfl⟩
  have cl:k<m:=by rw[bc];exact Nat.mod_lt _ (by omega)
  have c1:(a:Int)%(m:Int)=(k:Nat):=by rw[bc];rfl
  clear bc;have bP:k<us.length:=by rw[<-ae.out];exact cl
  obtain⟨ub,c7,bW,_,_⟩:=H.out.m.under.form (by rw[<-ae.out];omega);simp only[Value.slice.injEq] at bW;obtain⟨rfl,_,rfl⟩:=bW;obtain⟨z,bv⟩: ∃z,z=us[k]:=⟨_,rfl⟩
  have bY:z∈us:=by rw[bv];exact List.getElem_mem bP
  have bj:=H.out.m.msgs z bY;obtain⟨az,aI⟩:=Qc9 bj;have aw:(XK z).size =60:=QbC az;have a7:(XK z).all (·.oneCell')=true:=by unfold XK;rw[Array.all_append,aI];simp[Value.oneCell']
  have bQ:(LdC ⟨ub,k*60,none⟩ 60).run Tryz.prog wc= .ok (XK z) wc:=W3 (Qh4 H.out.m.under (fun q v aV=>by
   have O:q<60:=by rw[<-aw];exact (Array.getElem?_eq_some_iff.1 aV).1
   rw[QgN us H.out.m.QiL k bP q O,<-bv];exact aV)) aw
  have b9:=Zh bY;have b5:=Zh bj;obtain⟨B,a6⟩: ∃B,B=XK z:=⟨_,rfl⟩
  rw[<-a6] at bQ aw a7;have b2:=Zh a6;have cQ:(k:Int)< (m:Int):=by omega
  have cN:(0:Int)<=k:=by omega
  clear bv bj aI az a6;go_upto_region 12 with fail
  go_upto_region 13 with (refine wpList_store_row rfl 78 _ _ rfl _ _ rfl rfl _ _ (Qf (w:=wc) (.cells ZV 78)) (QmC aw) (by rw[aw];kernel_rfl) a7 ?_)
  have bX:=Qf (w:=wc) (.cells ZV 78);have bm:=Xr _ _ B bX;have bV:Qa Ze wc ((wc.alloc (.cells ZV 78)).setRow wc.heap.size B):=QL ((Zr _ wc).alloc _) (g:=wc.heap.size) (fun h=>by omega) B;change Code.wp _ _ _ _ ((wc.alloc (.cells ZV 78)).setRow wc.heap.size B);generalize (wc.alloc (.cells ZV 78)).setRow wc.heap.size B=aa at*
  obtain⟨b,bJ⟩: ∃b,b=wc.heap.size:=⟨_,rfl⟩
  rw[<-bJ] at bm ⊢;obtain⟨aW,bH,b0,aI⟩:=H.out.fresh0 bV;have aA:Hid (aW b=0):=Zh (aI b (by omega));have a1:=Zh (b5.out.keep b0 (fun f=>f));obtain⟨aq,bI⟩: ∃x,x=a%5:=⟨_,rfl⟩
  have cZ:(a:Int)%5=(aq:Nat):=by rw[bI];rfl
  have af:=Zh bH;have aB:=Zh bm;clear bX bm bV bH b0 aI bI bJ bQ aw a7 c9 c10;go_upto_if 103 with fail
  go_cut [103] (fun _ D=> ∃lab' us' uv',QI w0 lab0 g hb n kb db pc cs (Q6 cs) T lb cap D lab' us' ld dn uv'/\(∀x∈us',x∈us)/\D.heap[b]? =some (.cells B 78 (0,0))/\ZP D lab' n z/\lab' b=0)
  case first=>
   by_cases h5:aq=0
   ·have a4:(aq:Int)=0:=by omega
    have ch:((aq:Int) != 0)=false:=by rw[a4];rfl
    go_wp2_with fail;go_meet
    case rel=>exact⟨aW,us,_,af.out,fun x bu=>bu,aB.out,a1.out,aA.out⟩
   ·have a4: ¬(aq:Int)=0:=by omega
    have ci:((aq:Int)==0)=false:=beq_eq_false_iff_ne.2 a4;have ch:((aq:Int) != 0)=true:=by rw[bne,ci];rfl
    have c10:=af.out.m.row.c10;rw[<-ae.out] at c10;have cU:m<=ab:=by
     obtain⟨_,_,_,cu,c6,_⟩:=Qr.Q7 af.out.m.under;simp only[Value.slice.injEq] at cu;have:=ae.out;omega
    have cP:(k:Int)<=ab:=by omega
    have cO:(k:Int)+1<=(m:Int):=by omega
    have cV:(m:Int)<=ab:=by omega
    have ar:=af.out.m.QiL;have aH: ∀y∈us,y.2.all (·.oneCell')=true:=fun y Q=>(Qc9 (af.out.m.msgs y Q)).2
    have bq:=af.out.m.under;obtain⟨aC,w2,cJ,aG,bp,aP⟩:=QeR (w:=aa) (v:=.slice none 0 0) (ua:=[]) (ub:=us.take k) (World.ownsRow_nil _ _ _ _) (fun y Q=>ar y (List.mem_of_mem_take Q)) (fun y Q=>aH y (List.mem_of_mem_take Q)) ⟨ub,0,none⟩ k ab (by rw[List.length_take];omega) (fun j u hj=>by
     rw[QgP us ar k,List.getElem?_take] at hj;split at hj
     ·have:=Ku bq hj
      rw[Addr.add_mid,Nat.zero_add];exact this
     ·cases hj) (by simp;omega)
    have ai:Qa Ze aa w2:=bp.mono (fun q _ e=>by cases e);have ah:=af.out.fresh ai;have br:=ah.m.under;rw[List.nil_append,List.length_nil,Nat.zero_add] at aG;have aT:k=(us.take k).length :=by rw[List.length_take];omega
    have aX:Hid (ab=k+1-> ∃ac aJ ad U,(ApC #[28,28] 28 #[aC,.slice (some ⟨ub,0,none⟩) (m - (k+1)) 0]).run Tryz.prog w2= .ok (.slice ac aJ ad) U/\U.cell? ⟨hb,10,none⟩=some (.slice (some ⟨ub,0,none⟩) m ab)/\U.frozen? ⟨hb,10,none⟩=false/\ ∃lab' us' uv',QI w0 lab0 g hb n kb db pc cs (Q6 cs) T lb cap (U.setCell ⟨hb,10,none⟩ (.slice ac aJ ad)) lab' us' ld dn uv'/\(∀x∈us',x∈us)/\(U.setCell ⟨hb,10,none⟩ (.slice ac aJ ad)).heap[b]? =some (.cells B 78 (0,0))/\ZP (U.setCell ⟨hb,10,none⟩ (.slice ac aJ ad)) lab' n z/\lab' b=0):=Zh (fun a9=>by
      obtain⟨ca,U,aS,al,aU,aQ⟩:=QeR (w:=w2) (v:=aC) (ua:=us.take k) (ub:=us.drop (k+1)) (by rw[<-aT];exact aG) (fun y Q=>ar y (List.mem_of_mem_drop Q)) (fun y Q=>aH y (List.mem_of_mem_drop Q)) ⟨ub,0,none⟩ (m - (k+1)) 0 (by rw[List.length_drop,ae.out]) (fun j u hj=>by
       rw[List.drop_eq_nil_of_le (by have:=ae.out;omega)] at hj
       cases hj) (by rw[List.length_take,List.length_drop];have:=ae.out;omega)
      obtain⟨L,ax⟩: ∃L,(us.take k).length +(m - (k+1))=L:=⟨_,rfl⟩
      rw[ax] at al;have ay: ∀q,aC.ownBlock=some q->aa.heap.size<=q:=fun q O=>by
       rcases aP with e|e
       ·rw[e] at O;cases O
       ·rw[e] at O;cases O;exact Zf _
      have am:Qa Ze aa U:=ai.trans aU (fun q O e=>by have:=ay q e;omega);obtain⟨bB,aO,an⟩:=af.out.dropped (us':=us.take k++us.drop (k+1)) (fun y Q=>(List.mem_append.1 Q).elim List.mem_of_mem_take List.mem_of_mem_drop) (by rw[List.length_append,List.length_take,List.length_drop];omega) (m:=L) (by rw[<-ax,List.length_append,List.length_drop,ae.out]) al am (fun q O=>by
       rcases aQ with e|e
       ·rw[e] at O;exact ay q O
       ·rw[e] at O;cases O;exact ai.size)
      obtain⟨ac,ad,rfl⟩:=Qr.slice (Qr.Q7 al);have bD:w2.cell? ⟨hb,10,none⟩=some (.slice (some ⟨ub,0,none⟩) m ab):=Qe ai c10 (fun f=>f);have a2:U.cell? ⟨hb,10,none⟩=some (.slice (some ⟨ub,0,none⟩) m ab):=Qe am c10 (fun f=>f);have a3:U.frozen? ⟨hb,10,none⟩=false:=(af.out.m.row.upd am (fun f=>f)).fr 10;have a8:=Ql aB.out;have aZ:(∃lab' us' uv',QI w0 lab0 g hb n kb db pc cs (Q6 cs) T lb cap (U.setCell ⟨hb,10,none⟩ (.slice ac L ad)) lab' us' ld dn uv'/\(∀x∈us',x∈us)/\(U.setCell ⟨hb,10,none⟩ (.slice ac L ad)).heap[b]? =some (.cells B 78 (0,0))/\ZP (U.setCell ⟨hb,10,none⟩ (.slice ac L ad)) lab' n z/\lab' b=0):=⟨bB,_,_,aO,fun y Q=>(List.mem_append.1 Q).elim List.mem_of_mem_take List.mem_of_mem_drop,an.u.keep aB.out (by show ¬(aW b=1);rw[aA.out];omega),a1.out.keep an (by omega),by rw[an.e b a8];exact aA.out⟩
      exact⟨_,_,_,U,aS,a2,a3,aZ⟩)
    by_cases a9:ab=k+1
    ·obtain⟨ac,aJ,ad,U,aS,a2,a3,bL⟩:=aX.out a9
     have b3:=Zh bL;have bD:w2.cell? ⟨hb,10,none⟩=some (.slice (some ⟨ub,0,none⟩) m ab):=Qe ai c10 (fun f=>f);clear ar aH bq aG bp ai ah br aT aP bL aX;rw[show m - (k+1)=0 by omega] at aS;subst a9;go_wp2_with fail;go_meet
     case rel=>exact b3.out
    ·obtain⟨ca,U,aS,al,aU,aQ⟩:=QeR (w:=w2) (v:=aC) (ua:=us.take k) (ub:=us.drop (k+1)) (by rw[<-aT];exact aG) (fun y Q=>ar y (List.mem_of_mem_drop Q)) (fun y Q=>aH y (List.mem_of_mem_drop Q)) ⟨ub,(k+1)*60,none⟩ (m - (k+1)) (ab - (k+1)) (by rw[List.length_drop,ae.out]) (fun j u hj=>by
      rw[QgO us ar (k+1),List.getElem?_drop] at hj;have:=Ku br hj;rw[Addr.add_mid];exact this) (by rw[List.length_take,List.length_drop];have:=ae.out;omega)
     obtain⟨L,ax⟩: ∃L,(us.take k).length +(m - (k+1))=L:=⟨_,rfl⟩
     rw[ax] at al;have ay: ∀q,aC.ownBlock=some q->aa.heap.size<=q:=fun q O=>by
      rcases aP with e|e
      ·rw[e] at O;cases O
      ·rw[e] at O;cases O;exact Zf _
     have am:Qa Ze aa U:=ai.trans aU (fun q O e=>by have:=ay q e;omega);obtain⟨bB,aO,an⟩:=af.out.dropped (us':=us.take k++us.drop (k+1)) (fun y Q=>(List.mem_append.1 Q).elim List.mem_of_mem_take List.mem_of_mem_drop) (by rw[List.length_append,List.length_take,List.length_drop];omega) (m:=L) (by rw[<-ax,List.length_append,List.length_drop,ae.out]) al am (fun q O=>by
      rcases aQ with e|e
      ·rw[e] at O;exact ay q O
      ·rw[e] at O;cases O;exact ai.size)
     obtain⟨ac,ad,rfl⟩:=Qr.slice (Qr.Q7 al);have bD:w2.cell? ⟨hb,10,none⟩=some (.slice (some ⟨ub,0,none⟩) m ab):=Qe ai c10 (fun f=>f);have a2:U.cell? ⟨hb,10,none⟩=some (.slice (some ⟨ub,0,none⟩) m ab):=Qe am c10 (fun f=>f);have a3:U.frozen? ⟨hb,10,none⟩=false:=(af.out.m.row.upd am (fun f=>f)).fr 10;have a8:=Ql aB.out;have aZ:Hid (∃lab' us' uv',QI w0 lab0 g hb n kb db pc cs (Q6 cs) T lb cap (U.setCell ⟨hb,10,none⟩ (.slice ac L ad)) lab' us' ld dn uv'/\(∀x∈us',x∈us)/\(U.setCell ⟨hb,10,none⟩ (.slice ac L ad)).heap[b]? =some (.cells B 78 (0,0))/\ZP (U.setCell ⟨hb,10,none⟩ (.slice ac L ad)) lab' n z/\lab' b=0):=Zh ⟨bB,_,_,aO,fun y Q=>(List.mem_append.1 Q).elim List.mem_of_mem_take List.mem_of_mem_drop,an.u.keep aB.out (by show ¬(aW b=1);rw[aA.out];omega),a1.out.keep an (by omega),by rw[an.e b a8];exact aA.out⟩;clear ar aH bq aG bp ai ah br aT aP al aU ay am aO an aQ ax aX;go_wp2_with fail;go_meet
     case rel=>exact aZ.out
  case rest=>
   obtain⟨c4,b1,c8,ah,cq,bn,bk,cm⟩:=hcut;obtain⟨w2,rfl⟩: ∃x,x=wc:=⟨_,rfl⟩
   obtain⟨frm,J,ak⟩: ∃frm J:Nat,frm=z.1.frm/\J=z.1.dest:=⟨_,_,rfl,rfl⟩
   have bZ:z.1∈us.map (·.1):=List.mem_map.2 ⟨z,b9.out,rfl⟩;obtain⟨aF,bU,g',bR⟩:=H.out.p.step (by omega) bZ;rw[<-ak.2] at aF;have aE:B= #[.int .i64 frm,.int .i64 J]++z.2:=by rw[b2.out,ak.1,ak.2];rfl
   have b6:=Zh ah;have cC:=Zh bk;have cD:=Zh bn;obtain⟨ap,aR⟩: ∃ap,ap=z.2:=⟨_,rfl⟩
   rw[<-aR] at aE;obtain⟨az,_⟩:=Qc9 bk;rw[<-aR] at az;obtain⟨aj,bK,au⟩:=ah.m.core J aF;obtain⟨ce,cf,mv,bE,bg,bS,bT⟩:=bk;have bN:=(H.out.p.id aF).2.1;have aY:Hid (∀D,Qa aj w2 D->D.cell? ⟨b,0,none⟩=some (.int .i64 frm)/\D.cell? ⟨b,1,none⟩=some (.int .i64 J)/\(LdC ⟨b,2,none⟩ 58).run Tryz.prog D= .ok ap D/\D.cell? ⟨hb,9,none⟩=some (.slice (some ⟨lb,0,none⟩) n cap)/\D.cell? ⟨lb,J*3+2,none⟩=some (.pointer (some ⟨pc J,0,none⟩))):=Zh (fun D N=>by
    have bo:=N.keep bn (fun e=>by have:=au b e;omega);refine⟨?_,?_,W3 (fun q v aV=> ?_) az,(ah.m.row.upd N (fun e=>by have:=au hb e;rw[ah.m.lhb] at this;omega)).c9,Ku (XU ah.m.places N (fun g bb e=>by
     cases bb
     have:=au lb e;rw[ah.m.llb] at this;omega)) (Wv _ _ _ n J aF).2.2⟩
    ·rw[Qb bo 0,aE,Array.getElem?_append_left (by simp)]
     rfl
    ·rw[Qb bo 1,aE,Array.getElem?_append_left (by simp)]
     rfl
    ·rw[Qb bo (2+q),aE,Array.getElem?_append_right (by simp)]
     simpa using aV)
   have b8:Hid (∀D,Qa Ze w2 D->Calls Tryz.prog 13 #[.pointer (some ⟨pc J,0,none⟩),.int .i64 frm,.agg ap] D (Wn aj (pc J) ((cs J).step frm z.1.m Ou.none).1 ((cs J).step frm z.1.m Ou.none).2 D)):=Zh (fun D N=>by
    have cn:XH D aj (cs J).n z.1.m ap ce cf mv bE:=by
     rw[bN,aR];have aD:=bg.Qc N;refine⟨aD.arr,aD.Qq,fun q O e=>bg.far q O (by rw[au q e];omega),?_⟩;rcases aD.mem with ⟨bC,cy,cz⟩|bC
     ·exact .inl ⟨bC,cy,fun e=>cz (by rw[au bE e];omega)⟩
     ·exact .inr bC
    rw[ak.1];have cp:Qbd (cs J) z.1.frm z.1.m Ou.none:=by rw[ak.2];exact bU
    exact QqO (bK.upd N (fun _ _ f=>f)) (H.out.p.fit (by omega) aF) cp cn (fun q O=>Zu (bS q O) N.size) (fun e=>Zu (bT e) N.size))
   have b4:Hid (Wl g' n (Raft.upd cs J ((cs J).step frm z.1.m Ou.none).1) (b1.map (·.1)) ld dn (T+1) J (cs J) ((cs J).step frm z.1.m Ou.none).2):=Zh (by
    have bF:=bR.sub (us':=b1.map (·.1)) (fun x bu=>by
     obtain⟨y,Q,rfl⟩:=List.mem_map.1 bu;exact List.mem_map.2 ⟨y,cq y Q,rfl⟩)
    rw[<-ak.1,<-ak.2] at bF;exact bF)
   have b7:=Zh au;have av:Hid (∀D,(Qa Ze w2 D\/ ∃(v:Value) (aa:World),Qa Ze w2 aa/\ ∃ag,Q2 D ag (pc J) ((cs J).step frm z.1.m Ou.none).1 .nilFunc /\(∀q,ag q->aj q\/aa.heap.size<=q)/\Qa aj aa D/\Zc D ag aa.heap.size ((cs J).step frm z.1.m Ou.none).1 ((cs J).step frm z.1.m Ou.none).2 v)->D.cell? ⟨b,0,none⟩=some (.int .i64 frm)/\D.cell? ⟨b,1,none⟩=some (.int .i64 J)/\(LdC ⟨b,2,none⟩ 58).run Tryz.prog D= .ok ap D/\D.cell? ⟨hb,9,none⟩=some (.slice (some ⟨lb,0,none⟩) n cap)/\D.cell? ⟨lb,J*3+2,none⟩=some (.pointer (some ⟨pc J,0,none⟩))):=Zh (fun D h=>by
    rcases h with h|⟨v,aa,aD,ag,_,_,cg,_⟩
    ·exact aY.out D (h.mono (fun _ _ f=>f.elim))
    ·exact aY.out D ((aD.mono (T:=aj) (fun _ _ f=>f.elim)).trans cg (fun _ _ h=>h)))
   have cK:(J:Int)< (n:Int):=by omega
   have cL:(0:Int)<=J:=by omega
   clear ah bn aE az bK au bg bS bT cm bN bU bR bZ ak aR aY;go_upto_region 17 with fail
   refine Qr5 (by kernel_rfl) (QaF (by kernel_rfl)) (Qj (by kernel_rfl)) w2 (fun W=>(([fun v=>v= .pointer (some ⟨hb,0,none⟩),fun v=>v= .pointer (some ⟨b,1,none⟩),fun v=>v= .int .i64 J,fun v=>v= .pointer (some ⟨hb,0,none⟩),fun v=>v= .pointer (some ⟨hb,0,none⟩),fun v=>v= .pointer (some ⟨hb,9,none⟩),fun v=>v= .slice (some ⟨lb,0,none⟩) n cap,fun v=>v= .pointer (some ⟨b,1,none⟩),fun v=>v= .int .i64 J,fun v=>v= .pointer (some ⟨lb,J*3,none⟩),fun v=>v= .pointer (some ⟨lb,J*3+2,none⟩),fun v=>v= .pointer (some ⟨pc J,0,none⟩),fun v=>v= .pointer (some ⟨b,0,none⟩),fun v=>v= .int .i64 frm,fun v=>v= .pointer (some ⟨b,2,none⟩),fun v=>v= .agg ap,fun _=>True,fun _=>True]:List (Value->Prop)).getD W (fun _=>True))) 16 17 (fun v aa D=> ∃ag,Q2 D ag (pc J) ((cs J).step frm z.1.m Ou.none).1 .nilFunc /\(∀q,ag q->aj q\/aa.heap.size<=q)/\Qa aj aa D/\Zc D ag aa.heap.size ((cs J).step frm z.1.m Ou.none).1 ((cs J).step frm z.1.m Ou.none).2 v) (fun w'=> ∃g kb pc cs lab us ld dn uv,QI w0 lab0 g hb n kb db pc cs (Q6 cs) (T+1) lb cap w' lab us ld dn uv) (by kernel_rfl) ?h0 ?hstep ?hend
   case h0=>exact (Zr _ _).drew
   case hstep=>
    intro W bM;have cM:W<18:=bM;clear bM;rcases (show W=0\/W=1\/W=2\/W=3\/W=4\/W=5\/W=6\/W=7\/W=8\/W=9\/W=10\/W=11\/W=12\/W=13\/W=14\/W=15\/W=16\/W=17 by omega) with rfl|rfl|rfl|rfl|rfl|rfl|rfl|rfl|rfl|rfl|rfl|rfl|rfl|rfl|rfl|rfl|rfl|rfl
    ·refine ZT rfl (Qj (by kernel_rfl)) (by kernel_rfl) (by decide) (by decide) (by kernel_rfl) ?_
     intro D N fr E I K M;have Z:fr.tmps[0]? =some (.pointer (some ⟨hb,0,none⟩)):=I 0 (by kernel_rfl);clear E I;go_simp;exact M _ rfl
    ·refine ZT rfl (Qj (by kernel_rfl)) (by kernel_rfl) (by decide) (by decide) (by kernel_rfl) ?_
     intro D N fr E I K M;have Z:fr.tmps[10]? =some (.pointer (some ⟨b,0,none⟩)):=I 10 (by kernel_rfl);clear E I;go_simp;exact M _ rfl
    ·refine ZT rfl (Qj (by kernel_rfl)) (by kernel_rfl) (by decide) (by decide) (by kernel_rfl) ?_
     intro D N fr E I K M;obtain⟨_,Z,rfl⟩:=E ⟨1,.data⟩ (by simp) rfl _ 125 rfl rfl (show 125<208 by decide);clear E I;obtain⟨x0,aK,aL,aM,aN⟩:=av.out D N;go_simp;exact M _ rfl
    ·refine ZT rfl (Qj (by kernel_rfl)) (by kernel_rfl) (by decide) (by decide) (by kernel_rfl) ?_
     intro D N fr E I K M;have Z:fr.tmps[0]? =some (.pointer (some ⟨hb,0,none⟩)):=I 0 (by kernel_rfl);clear E I;go_simp;exact M _ rfl
    ·refine ZT rfl (Qj (by kernel_rfl)) (by kernel_rfl) (by decide) (by decide) (by kernel_rfl) ?_
     intro D N fr E I K M;obtain⟨_,Z,rfl⟩:=E ⟨3,.data⟩ (by simp) rfl _ 127 rfl rfl (show 127<208 by decide);clear E I;go_simp;exact M _ rfl
    ·refine ZT rfl (Qj (by kernel_rfl)) (by kernel_rfl) (by decide) (by decide) (by kernel_rfl) ?_
     intro D N fr E I K M;obtain⟨_,Z,rfl⟩:=E ⟨4,.data⟩ (by simp) rfl _ 128 rfl rfl (show 128<208 by decide);clear E I;go_simp;exact M _ rfl
    ·refine ZT rfl (Qj (by kernel_rfl)) (by kernel_rfl) (by decide) (by decide) (by kernel_rfl) ?_
     intro D N fr E I K M;obtain⟨_,Z,rfl⟩:=E ⟨5,.data⟩ (by simp) rfl _ 129 rfl rfl (show 129<208 by decide);clear E I;obtain⟨x0,aK,aL,aM,aN⟩:=av.out D N;go_simp;exact M _ rfl
    ·refine ZT rfl (Qj (by kernel_rfl)) (by kernel_rfl) (by decide) (by decide) (by kernel_rfl) ?_
     intro D N fr E I K M;have Z:fr.tmps[10]? =some (.pointer (some ⟨b,0,none⟩)):=I 10 (by kernel_rfl);clear E I;go_simp;exact M _ rfl
    ·refine ZT rfl (Qj (by kernel_rfl)) (by kernel_rfl) (by decide) (by decide) (by kernel_rfl) ?_
     intro D N fr E I K M;obtain⟨_,Z,rfl⟩:=E ⟨7,.data⟩ (by simp) rfl _ 131 rfl rfl (show 131<208 by decide);clear E I;obtain⟨x0,aK,aL,aM,aN⟩:=av.out D N;go_simp;exact M _ rfl
    ·refine ZT rfl (Qj (by kernel_rfl)) (by kernel_rfl) (by decide) (by decide) (by kernel_rfl) ?_
     intro D N fr E I K M;obtain⟨_,Z,rfl⟩:=E ⟨6,.data⟩ (by simp) rfl _ 130 rfl rfl (show 130<208 by decide);obtain⟨_,e1,rfl⟩:=E ⟨8,.data⟩ (by simp) rfl _ 132 rfl rfl (show 132<208 by decide);clear E I;go_simp;exact M _ rfl
    ·refine ZT rfl (Qj (by kernel_rfl)) (by kernel_rfl) (by decide) (by decide) (by kernel_rfl) ?_
     intro D N fr E I K M;obtain⟨_,Z,rfl⟩:=E ⟨9,.data⟩ (by simp) rfl _ 133 rfl rfl (show 133<208 by decide);clear E I;go_simp;exact M _ rfl
    ·refine ZT rfl (Qj (by kernel_rfl)) (by kernel_rfl) (by decide) (by decide) (by kernel_rfl) ?_
     intro D N fr E I K M;obtain⟨_,Z,rfl⟩:=E ⟨10,.data⟩ (by simp) rfl _ 134 rfl rfl (show 134<208 by decide);clear E I;obtain⟨x0,aK,aL,aM,aN⟩:=av.out D N;go_simp;exact M _ rfl
    ·refine ZT rfl (Qj (by kernel_rfl)) (by kernel_rfl) (by decide) (by decide) (by kernel_rfl) ?_
     intro D N fr E I K M;have Z:fr.tmps[10]? =some (.pointer (some ⟨b,0,none⟩)):=I 10 (by kernel_rfl);clear E I;go_simp;exact M _ rfl
    ·refine ZT rfl (Qj (by kernel_rfl)) (by kernel_rfl) (by decide) (by decide) (by kernel_rfl) ?_
     intro D N fr E I K M;obtain⟨_,Z,rfl⟩:=E ⟨12,.data⟩ (by simp) rfl _ 136 rfl rfl (show 136<208 by decide);clear E I;obtain⟨x0,aK,aL,aM,aN⟩:=av.out D N;go_simp;exact M _ rfl
    ·refine ZT rfl (Qj (by kernel_rfl)) (by kernel_rfl) (by decide) (by decide) (by kernel_rfl) ?_
     intro D N fr E I K M;have Z:fr.tmps[10]? =some (.pointer (some ⟨b,0,none⟩)):=I 10 (by kernel_rfl);clear E I;go_simp;exact M _ rfl
    ·refine ZT rfl (Qj (by kernel_rfl)) (by kernel_rfl) (by decide) (by decide) (by kernel_rfl) ?_
     intro D N fr E I K M;obtain⟨_,Z,rfl⟩:=E ⟨14,.data⟩ (by simp) rfl _ 138 rfl rfl (show 138<208 by decide);clear E I;obtain⟨x0,aK,aL,aM,aN⟩:=av.out D N;go_simp;exact M _ rfl
    ·refine Qn9 rfl (Qj (by kernel_rfl)) (by decide) (by kernel_rfl) (by kernel_rfl) ?_
     intro D N fr E I K M;obtain⟨_,Z,rfl⟩:=E ⟨11,.data⟩ (by simp) rfl _ 135 rfl rfl (show 135<208 by decide);obtain⟨_,e1,rfl⟩:=E ⟨13,.data⟩ (by simp) rfl _ 137 rfl rfl (show 137<208 by decide);obtain⟨_,cE,rfl⟩:=E ⟨15,.data⟩ (by simp) rfl _ 139 rfl rfl (show 139<208 by decide);clear E I;go_simp;go_at_call 13;refine (b8.out D N).mono ?_
     rintro e w5 ⟨v,ag,rfl,bw,bx,bz,bA⟩;exact M _ _ ⟨ag,bw,bx,bz,bA⟩
    ·refine Qoa rfl (Qj (by kernel_rfl)) (by decide) (by kernel_rfl) (by kernel_rfl) rfl rfl (show (140:Nat)<208 by decide) ?_
     intro da dc D ct bb fr cF E I K M;obtain⟨_,Z,rfl⟩:=E ⟨0,.data⟩ (by simp) rfl (by decide) _ 124 rfl rfl (show 124<208 by decide);obtain⟨_,e1,rfl⟩:=E ⟨2,.data⟩ (by simp) rfl (by decide) _ 126 rfl rfl (show 126<208 by decide);clear E I;go_simp;obtain⟨ag,bw,bx,bz,bA⟩:=bb;go_at_call 11;refine (Qcs (b6.out.fresh ct) (by omega) b4.out b7.out bw bx bz bA).mono ?_
     rintro e w6 ba;obtain⟨rfl,cw,cA,cx,cb,cB,ba⟩:=ba;exact M _ _ ⟨_,_,_,_,cw,cA,cx,cb,cB,ba⟩
   case hend=>
    intro Y w9 bG cj;clear cj;have a0:Hid (ZW w0 lab0 hb n db (T+1) lb cap (.returned (.tuple #[])) w9):=Zh ⟨rfl,bG⟩;clear bG;simp only[Z6,Act.put,List.setIfInBounds_toArray,List.set_cons_zero,List.set_cons_succ];generalize Y 0=y0,Y 1=y1,Y 2=y2,Y 3=y3,Y 4=y4,Y 5=y5,Y 6=y6,Y 7=y7,Y 8=y8,Y 9=y9,Y 10=y10,Y 11=y11,Y 12=y12,Y 13=y13,Y 14=y14,Y 15=y15,Y 16=y16,Y 17=y17 at*
    clear Y;go_wp2_with fail;go_end0;exact a0.out
end
end
section
open Go.RowKit Go.Acre Go.Acre.Dk
open Raft (upd_same upd_ne G)
attribute [local go_sem ↓] LcG ScG
attribute [local go_sem] Sc1 Sc2 Sc3 Lc2 Lc3
attribute [local simp] QH X6
theorem Qj2{g:G}{kb db pc:Nat->Nat}{M:Nat->Core}{T:Nat}{us:List PV}{N:Nat->Nat}(h:QI w0 fa g na n kb db pc M (Q6 M) T nb cap w lab us fb N Y)(E:T<=230){seq:Nat}(J:nc<256)(I:a<256)(O:seq<200):
  Calls Tryz.prog 5 #[.pointer (some ⟨na,0,none⟩),.int .i64 nc,.int .i64 a,.int .i64 seq] w (ZW w0 fa na n db (T+1) nb cap):=by
 rcases (show (nc%8=0\/nc%8=1)\/(nc%8=2\/nc%8=3\/nc%8=4)\/nc%8=5\/nc%8=6\/nc%8=7 by omega) with D|D|D|D|D
 ·exact Qj7 h E J I D
 ·exact Qj6 h E J I D
 ·exact Qj5 h E J I O D
 ·exact Qj3 h E J I D
 ·exact Qj4 h E J I D
theorem QmV(au:Tab w)(bk:na<256)(aR:QN .u8 w (.slice O nb nc) (la.map (fun (x:Nat)=>(x:Int))))(hlen:nb=la.length)(aS: ∀x∈la,x<256)(ba: ∀g,(Value.slice O nb nc).ownBlock =some g->True):
  Calls Tryz.prog 3 #[.int .u8 na,.slice O nb nc] w (Qk (.bool true) w):=by
 obtain⟨n,a8⟩: ∃n,n=1+na%5:=⟨_,rfl⟩
 have aN:1<=n/\n<=5:=by omega
 have a9:(1:Int)+(na:Int)%5=(n:Nat):=by omega
 have ay:=Zh (Qf0 au aN);have aB:=Zh au;have aE:=Zh aR;have aF:=Zh aS;have az:=Zh hlen;clear aR aS ba au a8 hlen;have a3:(0:Int)<=na:=by omega
 have a4:(na:Int)<256:=by omega
 go_enter Tryz.func3,Tryz.ntmps3;go_wp2_with fail;refine ay.out.mono ?_
 rintro e ax ⟨aa,rfl,lab,kb,db,pc,aw,cap,aM,aO,aJ⟩;have aX:=Zh (Qja aN aM);have aY:=Zh aO;have aW:=Zh aJ;obtain⟨m,ar⟩: ∃m,m=la.length:=⟨_,rfl⟩
 have aA:Hid (nb=m):=Zh (by rw[az.out,ar]);obtain rfl:=aA.out;have ae:Hid (nb=la.length):=Zh ar;have bm:nb<=9223372036854775807:=by
  obtain⟨_,bd,c',bz,ah,ai,_⟩:=aE.out;rw[List.length_map] at ah;unfold maxLen at ai;have:=ae.out;omega
 clear aM aO aJ ay ar aA az a3 a4 a9;go_wp2_with fail;go_upto_block 0 with fail
 go_wp2_with fail;go_loopw [6] (fun x wr=> ∃k:Nat,x= .int .i64 k/\k<=200/\ ∃g kb pc cs aT us ak aj al,QI ax lab g aa n kb db pc cs (Q6 cs) k aw cap wr aT us ak aj al) (fun x _=>200 - (Go.RowKit.intOf x).toNat)
 case atStart=>exact⟨0,rfl,by omega,_,_,_,Core.first n,_,_,_,_,_,aX.out⟩
 case round=>
  obtain⟨k,rfl,bo,g,bH,bJ,be,aT,us,ak,aj,al,h⟩:=hrel;have Kq:=h.m.row.Kq;have bq:(k:Int)<=200:=by omega
  have bp:(0:Int)<=k:=by omega
  have ad:Hid (Qa (fun _=>False) w wr):=Zh (aY.out.trans h.t.u (fun q hq hne=>hne (aW.out q hq)));by_cases hgo:2*k+1<nb/\k<200
  ·have af:2*(k:Int)+1< (nb:Int):=by omega
   have ao:(k:Int)<200:=by omega
   have aG:decide (2*(k:Int)+1< (nb:Int))=true:=decide_eq_true af;have a2:decide ((k:Int)<200)=true:=decide_eq_true ao;have aK:2*k< (la.map (fun (x:Nat)=>(x:Int))).length :=by rw[List.length_map];have:=ae.out;omega
   have aL:2*k+1< (la.map (fun (x:Nat)=>(x:Int))).length :=by rw[List.length_map];have:=ae.out;omega
   have av:=(aE.out.Qc ad.out)
   have a6:2*k<la.length:=by have:=ae.out;omega
   have a7:2*k+1<la.length:=by have:=ae.out;omega
   obtain⟨Z,ac,rfl,ah⟩:=av.cell aK;obtain⟨bj,bI,aH,ai⟩:=av.cell aL;simp only[Option.some.injEq,Addr.mk.injEq,and_true] at aH;obtain⟨rfl,rfl⟩:=aH;rw[List.getElem_map] at ah ai;have ap:=aF.out la[2*k] (List.getElem_mem _);have aq:=aF.out la[2*k+1] (List.getElem_mem _);obtain⟨W,aP⟩: ∃x,x=la[2*k]:=⟨_,rfl⟩
   obtain⟨Y,aQ⟩: ∃x,x=la[2*k+1]:=⟨_,rfl⟩
   have aC:Hid (la[2*k]=W):=Zh aP.symm;have aD:Hid (la[2*k+1]=Y):=Zh aQ.symm;rw[aC.out] at ah ap;rw[aD.out] at ai aq;clear aP aQ;have aU:Hid (∀w',Qa (fun _=>False) wr w'->Calls Tryz.prog 5 #[.pointer (some ⟨aa,0,none⟩),.int .i64 W,.int .i64 Y,.int .i64 k] w' (ZW ax lab aa n db (k+1) aw cap)):=Zh (fun w' J=>Qj2 (h.fresh J) (by omega) ap aq hgo.2);have hx1:(W:Int)<256:=by omega
   have bF:(Y:Int)<256:=by omega
   have bE:(0:Int)<=W:=by omega
   have bG:(0:Int)<=Y:=by omega
   have br:2*(k:Int)< (nb:Int):=by omega
   have bs:(0:Int)<=2*(k:Int):=by omega
   have bu:(0:Int)<=2*(k:Int)+1:=by omega
   have bv:2*(k:Int)<=400:=by omega
   have bw:(2*(k:Int)).toNat =2*k:=by omega
   have bx:(2*(k:Int)+1).toNat =2*k+1:=by omega
   have bA:IntKind.i64.wrap (2*(k:Int))=2*(k:Int):=by rw[IntKind.wrap_i64];omega
   have bB:IntKind.i64.wrap (2*(k:Int)+1)=2*(k:Int)+1:=by rw[IntKind.wrap_i64];omega
   have bC:IntKind.i64.wrap (W:Int)=W:=by rw[IntKind.wrap_i64];omega
   have bD:IntKind.i64.wrap (Y:Int)=Y:=by rw[IntKind.wrap_i64];omega
   clear aC aD aK aL av ap aq a6 a7;go_upto_region 7 with fail
   clear h;refine Qfo (by kernel_rfl) (QaF (by kernel_rfl)) (Qj (by kernel_rfl)) wr (fun M=>(([fun v=>v= .pointer (some ⟨aa,0,none⟩),fun v=>v= .slice (some ⟨Z,ac,none⟩) nb nc,fun v=>v= .int .i64 k,fun v=>v= .int .i64 (2*(k:Int)),fun v=>v= .pointer (some ⟨Z,ac+2*k,none⟩),fun v=>v= .int .u8 W,fun v=>v= .int .i64 W,fun v=>v= .slice (some ⟨Z,ac,none⟩) nb nc,fun v=>v= .int .i64 k,fun v=>v= .int .i64 (2*(k:Int)),fun v=>v= .int .i64 (2*(k:Int)+1),fun v=>v= .pointer (some ⟨Z,ac+(2*k+1),none⟩),fun v=>v= .int .u8 Y,fun v=>v= .int .i64 Y,fun v=>v= .int .i64 k,fun _=>True]:List (Value->Prop)).getD M (fun _=>True))) 15 (fun _ w'=> ∃g kb pc cs lab' us ak aj al,QI ax lab g aa n kb db pc cs (Q6 cs) (k+1) aw cap w' lab' us ak aj al) (by kernel_rfl) ?h0 ?hstep ?hend
   case h0=>exact (Zr _ _).drew
   case hstep=>
    intro M aI;have bn:M<16:=aI;clear aI;rcases (show M=0\/M=1\/M=2\/M=3\/M=4\/M=5\/M=6\/M=7\/M=8\/M=9\/M=10\/M=11\/M=12\/M=13\/M=14\/M=15 by omega) with rfl|rfl|rfl|rfl|rfl|rfl|rfl|rfl|rfl|rfl|rfl|rfl|rfl|rfl|rfl|rfl
    ·refine Xf rfl (Qj (by kernel_rfl)) (by kernel_rfl) (by decide) ?_
     intro U J fr D E K I;have Q:fr.tmps[5]? =some (.pointer (some ⟨aa,0,none⟩)):=E 5 (by kernel_rfl);clear D E;go_simp;exact I _ _ (Zr _ _) rfl
    ·refine Xf rfl (Qj (by kernel_rfl)) (by kernel_rfl) (by decide) ?_
     intro U J fr D E K I;have Q:fr.tmps[1]? =some (.slice (some ⟨Z,ac,none⟩) nb nc):=E 1 (by kernel_rfl);clear D E;go_simp;exact I _ _ (Zr _ _) rfl
    ·refine Xf rfl (Qj (by kernel_rfl)) (by kernel_rfl) (by decide) ?_
     intro U J fr D E K I;have Q:fr.tmps[6]? =some (.int .i64 k):=E 6 (by kernel_rfl);clear D E;go_simp;exact I _ _ (Zr _ _) rfl
    ·refine Xf rfl (Qj (by kernel_rfl)) (by kernel_rfl) (by decide) ?_
     intro U J fr D E K I;obtain⟨_,Q,rfl⟩:=D ⟨2,.data⟩ (by simp) rfl _ 35 rfl rfl (show 35<57 by decide);clear D E;go_simp;exact I _ _ (Zr _ _) rfl
    ·refine Xf rfl (Qj (by kernel_rfl)) (by kernel_rfl) (by decide) ?_
     intro U J fr D E K I;obtain⟨_,Q,rfl⟩:=D ⟨1,.data⟩ (by simp) rfl _ 34 rfl rfl (show 34<57 by decide);obtain⟨_,e1,rfl⟩:=D ⟨3,.data⟩ (by simp) rfl _ 36 rfl rfl (show 36<57 by decide);clear D E;go_simp;exact I _ _ (Zr _ _) rfl
    ·refine Xf rfl (Qj (by kernel_rfl)) (by kernel_rfl) (by decide) ?_
     intro U J fr D E K I;obtain⟨_,Q,rfl⟩:=D ⟨4,.data⟩ (by simp) rfl _ 37 rfl rfl (show 37<57 by decide);clear D E;have bK:=Qe J ah (fun f=>f);go_simp;exact I _ _ (Zr _ _) rfl
    ·refine Xf rfl (Qj (by kernel_rfl)) (by kernel_rfl) (by decide) ?_
     intro U J fr D E K I;obtain⟨_,Q,rfl⟩:=D ⟨5,.data⟩ (by simp) rfl _ 38 rfl rfl (show 38<57 by decide);clear D E;go_simp;exact I _ _ (Zr _ _) rfl
    ·refine Xf rfl (Qj (by kernel_rfl)) (by kernel_rfl) (by decide) ?_
     intro U J fr D E K I;have Q:fr.tmps[1]? =some (.slice (some ⟨Z,ac,none⟩) nb nc):=E 1 (by kernel_rfl);clear D E;go_simp;exact I _ _ (Zr _ _) rfl
    ·refine Xf rfl (Qj (by kernel_rfl)) (by kernel_rfl) (by decide) ?_
     intro U J fr D E K I;have Q:fr.tmps[6]? =some (.int .i64 k):=E 6 (by kernel_rfl);clear D E;go_simp;exact I _ _ (Zr _ _) rfl
    ·refine Xf rfl (Qj (by kernel_rfl)) (by kernel_rfl) (by decide) ?_
     intro U J fr D E K I;obtain⟨_,Q,rfl⟩:=D ⟨8,.data⟩ (by simp) rfl _ 41 rfl rfl (show 41<57 by decide);clear D E;go_simp;exact I _ _ (Zr _ _) rfl
    ·refine Xf rfl (Qj (by kernel_rfl)) (by kernel_rfl) (by decide) ?_
     intro U J fr D E K I;obtain⟨_,Q,rfl⟩:=D ⟨9,.data⟩ (by simp) rfl _ 42 rfl rfl (show 42<57 by decide);clear D E;go_simp;exact I _ _ (Zr _ _) rfl
    ·refine Xf rfl (Qj (by kernel_rfl)) (by kernel_rfl) (by decide) ?_
     intro U J fr D E K I;obtain⟨_,Q,rfl⟩:=D ⟨7,.data⟩ (by simp) rfl _ 40 rfl rfl (show 40<57 by decide);obtain⟨_,e1,rfl⟩:=D ⟨10,.data⟩ (by simp) rfl _ 43 rfl rfl (show 43<57 by decide);clear D E;go_simp;exact I _ _ (Zr _ _) rfl
    ·refine Xf rfl (Qj (by kernel_rfl)) (by kernel_rfl) (by decide) ?_
     intro U J fr D E K I;obtain⟨_,Q,rfl⟩:=D ⟨11,.data⟩ (by simp) rfl _ 44 rfl rfl (show 44<57 by decide);clear D E;have bL:=Qe J ai (fun f=>f);go_simp;exact I _ _ (Zr _ _) rfl
    ·refine Xf rfl (Qj (by kernel_rfl)) (by kernel_rfl) (by decide) ?_
     intro U J fr D E K I;obtain⟨_,Q,rfl⟩:=D ⟨12,.data⟩ (by simp) rfl _ 45 rfl rfl (show 45<57 by decide);clear D E;go_simp;exact I _ _ (Zr _ _) rfl
    ·refine Xf rfl (Qj (by kernel_rfl)) (by kernel_rfl) (by decide) ?_
     intro U J fr D E K I;have Q:fr.tmps[6]? =some (.int .i64 k):=E 6 (by kernel_rfl);clear D E;go_simp;exact I _ _ (Zr _ _) rfl
    ·refine QhW rfl (Qj (by kernel_rfl)) ?_
     intro U J fr D E K I;obtain⟨_,Q,rfl⟩:=D ⟨0,.data⟩ (by simp) rfl _ 33 rfl rfl (show 33<57 by decide);obtain⟨_,e1,rfl⟩:=D ⟨6,.data⟩ (by simp) rfl _ 39 rfl rfl (show 39<57 by decide);obtain⟨_,bg,rfl⟩:=D ⟨13,.data⟩ (by simp) rfl _ 46 rfl rfl (show 46<57 by decide);obtain⟨_,bh,rfl⟩:=D ⟨14,.data⟩ (by simp) rfl _ 47 rfl rfl (show 47<57 by decide);clear D E;go_simp;go_at_call 5;refine (aU.out _ J).mono ?_
     rintro e w2 ab;obtain⟨rfl,ab⟩:=ab;exact I _ _ ab trivial
   case hend=>
    intro N w9 bM _ ab a5;have aV:=Zh ab;clear a5 ab;simp only[Z6,Act.put,List.setIfInBounds_toArray,List.set_cons_zero,List.set_cons_succ];generalize N 0=y0,N 1=y1,N 2=y2,N 3=y3,N 4=y4,N 5=y5,N 6=y6,N 7=y7,N 8=y8,N 9=y9,N 10=y10,N 11=y11,N 12=y12,N 13=y13,N 14=y14,N 15=y15 at*
    clear N;go_wp2_with fail;obtain⟨g',kb',pc',aZ,lab',us',bb,a0,bc,a1⟩:=aV.out;exact⟨⟨k+1,by go_num,by omega,g',kb',pc',aZ,lab',us',bb,a0,bc,a1⟩,by simp[Go.RowKit.intOf];omega⟩
  ·by_cases h1n:2*k+1<nb
   ·have af:2*(k:Int)+1< (nb:Int):=by omega
    have ao: ¬(k:Int)<200:=by omega
    have aG:decide (2*(k:Int)+1< (nb:Int))=true:=decide_eq_true af;have a2:decide ((k:Int)<200)=false:=decide_eq_false ao;have an:=Zh (QiD (aB.out.upd ad.out (fun f=>f)));clear h hgo;go_wp2_with fail;refine an.out.mono ?_
    rintro e w2 ⟨rfl,ag⟩;have am:=Zh (ad.out.trans ag (fun _ _ f=>f));clear ag;go_wp2_with fail;go_ret;exact⟨rfl,am.out⟩
   ·have af: ¬2*(k:Int)+1< (nb:Int):=by omega
    have aG:decide (2*(k:Int)+1< (nb:Int))=false:=decide_eq_false af;have an:=Zh (QiD (aB.out.upd ad.out (fun f=>f)));clear h hgo;go_wp2_with fail;refine an.out.mono ?_
    rintro e w2 ⟨rfl,ag⟩;have am:=Zh (ad.out.trans ag (fun _ _ f=>f));clear ag;go_wp2_with fail;go_ret;exact⟨rfl,am.out⟩
end
end Go.Proofs.YtbleblbfadeciaaGreatDoor
