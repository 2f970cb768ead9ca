/- For TopKept. -/
import Derived.Test.YtbleblbfadeciaaGreatDoorLc
import Derived.Test.YtbleblbfadeciaaGreatDoorTk
set_option linter.all false
set_option maxHeartbeats 16000000
set_option maxRecDepth 10000
namespace Go.Proofs.YtbleblbfadeciaaGreatDoor
variable{c c':Core}{b bi bt cap g m n na nb nc p q:Nat}{S U:Nat->Prop}{o o':Ou}{P:Program}{ty:TypeId}{Y mv v:Value}{w w':World}
section
open Go.RowKit Go.Acre
attribute [local go_sem ↓] LcG ScG
attribute [local go_sem] Sc1 Sc2 Sc3 Lc2 Lc3
attribute [local go_sem] Kv Kw
def Qjr(cb eb ib:Nat)(w:World)(S:Nat->Prop)(p:Nat)(c c':Core)(o':Ou):Prop:=
 ∀(w':World) (q:Nat),St w' (fun i=>S i\/i=q) p q c Ou.none->Qa (fun i=>i=p) w w'->w.heap.size<=q->Calls Tryz.prog 103 #[.pointer (some ⟨q,0,none⟩),.pointer (some ⟨cb,0,none⟩),.pointer (some ⟨eb,0,none⟩),.pointer (some ⟨ib,0,none⟩)] w' (fun e w''=>e= .returned (.tuple #[])/\(∃S',St w'' S' p q c' o'/\(∀i,S' i->(S i\/i=q)\/w'.heap.size<=i)/\Qa (fun i=>(S i\/i=q)\/i=ib) w' w'')/\ ∃n:Int,w''.heap[ib]? =some (.cells #[.int .u64 n] 30 (0,0)))
theorem QqV(h:Q2 w S p c .nilFunc)(bk:Fit c)(a3 a4 N:Nat)(bj:Qjr a3 a4 N w S p c c' o')(cu:c'.n=c.n)(b2:o'.frm<=1000000)(cr:N≠p)(cq:N<w.heap.size):
  Calls Tryz.prog 41 #[.pointer (some ⟨p,0,none⟩),.func (.func 103) #[] #[.pointer (some ⟨a3,0,none⟩),.pointer (some ⟨a4,0,none⟩),.pointer (some ⟨N,0,none⟩)]] w (fun e w'=>Wn (fun i=>S i\/i=N) p c' o' w e w'/\ ∃n:Int,w'.heap[N]? =some (.cells #[.int .u64 n] 30 (0,0))):=by
 obtain⟨cw,cz,cx,cm,mv,cn,Y⟩:=h;have aN:=Y.row;have aE:=Zh Y;have aX:=Zh (Ql aN);have bM:=Zh bk;have bL:=Zh bj;clear Y bk bj;go_enter Tryz.func41,Tryz.ntmps41;have bD:=heap_alloc2_old w (.cells (outA Ou.none (.slice none 0 0) (.slice none 0 0)) 57) (.cells (outA Ou.none (.slice none 0 0) (.slice none 0 0)) 57);have bE:=heap_alloc2_new w (.cells (outA Ou.none (.slice none 0 0) (.slice none 0 0)) 57) (.cells (outA Ou.none (.slice none 0 0) (.slice none 0 0)) 57);have aw:Qa Ze w ((w.alloc (.cells (outA Ou.none (.slice none 0 0) (.slice none 0 0)) 57)).alloc (.cells (outA Ou.none (.slice none 0 0) (.slice none 0 0)) 57)):=((Zr _ w).alloc _).alloc _;go_upto_region 2 with fail
 change Code.wp _ _ _ _ ((w.alloc (.cells (outA Ou.none (.slice none 0 0) (.slice none 0 0)) 57)).alloc (.cells (outA Ou.none (.slice none 0 0) (.slice none 0 0)) 57));generalize (w.alloc (.cells (outA Ou.none (.slice none 0 0) (.slice none 0 0)) 57)).alloc (.cells (outA Ou.none (.slice none 0 0) (.slice none 0 0)) 57)=w1 at*
 have br: ¬p=w.heap.size:=by have:=aX.out;omega
 have aK: ¬p=w.heap.size+1:=by have:=aX.out;omega
 have a0:Hid (∀i,S i->i<w.heap.size):=Zh aE.out.lt;have bK:Hid (∃b0,w.heap.size=b0):=Zh ⟨_,rfl⟩;generalize hbb:w.heap.size=b at*
 have Z:=Zh hbb;clear hbb bK;have av:=aw.keep aN (fun f=>f);have bI:w1.cell? ⟨p,22,none⟩=some .nilFunc :=Qb av 22;have a6:=Qg av 22 none;have bu:=Qi (o:=22) av (QM (b+1));have al:Qa (fun i=>i=p) w1 (w1.setCell ⟨p,22,none⟩ (QM (b+1))):=(Zr (fun i=>i=p) w1).setCell (p:=⟨p,22,none⟩) (fun _=>rfl) _;have bs:=al.keep bE (fun e=>aK e.symm);have bw:=(aE.out.Qc aw).begin bM.out al bu bs (fun af=>by have:=a0.out _ af;omega);have aO:Qa (fun i=>i=p) w (w1.setCell ⟨p,22,none⟩ (QM (b+1))):=(aw.mono (fun _ _ f=>f.elim)).trans al (fun _ _ h=>h);have aA:=Zh (al.keep bD (fun e=>br e.symm));have az:=Zh (bL.out _ _ bw aO (by have:=Z.out;omega));have aD:=Zh aO;clear av bu al bs bw aO bD bE aw aN;have bz:QM (b+1)= .func (.func 88) #[] #[.pointer (some ⟨b+1,0,none⟩)]:=rfl;rw[bz] at az aD aA;clear bz;go_upto_region 3 with fail
 generalize w1.setCell ⟨p,22,none⟩ (.func (.func 88) #[] #[.pointer (some ⟨b+1,0,none⟩)])=w2 at*
 go_wp2_with fail;refine Calls.mono az.out ?_
 rintro e E ⟨rfl,⟨ai,⟨⟨ap,M,W,a1,⟨an,bJ,bF,a2,bG,a5,aR⟩,aI,a8,bp⟩,bm⟩,a7,aP⟩,bH,bn⟩;have bN:=Zh bn;clear bn;have ae:=aR.row;have bI:E.cell? ⟨p,22,none⟩=some (QM (b+1)):=Qb ae 22;have a6:=Qg ae 22 none;have cb:E.cell? ⟨p,5,none⟩=some (.pointer (some ⟨an,0,none⟩)):=Qb ae 5;have b9:E.cell? ⟨p,3,none⟩=some (.int .u64 c'.term):=Qb ae 3;have ca:E.cell? ⟨p,4,none⟩=some (.int .i64 (Qd c'.vote)):=Qb ae 4;have ab:=aI.row;have ce:E.cell? ⟨b+1,0,none⟩=some (.int .u64 0):=Qb ab 0;have cf:E.cell? ⟨b+1,1,none⟩=some (.int .i64 0):=Qb ab 1;have cg:E.cell? ⟨b+1,2,none⟩=some (.int .u64 o'.frm):=Qb ab 2;have ci:E.cell? ⟨b+1,3,none⟩=some (.slice none 0 0):=Qb ab 3;have bT:=Qg ab 0 none;have bU:=Qg ab 1 none;have bV:=Qg ab 3 none;have be: ¬S b:=fun af=>by have:=a0.out b af;omega
 have bb:=aP.keep aA.out (fun af=>by
  rcases af with (h|h)|h
  ·exact be h
  ·omega
  ·omega)
 have aF:=Zh aR;have I:=Zh aI;have ad:=Zh a8;have cl:=Zh bp;have cj:=Zh bm;have aY:=Zh a7;have bR:=Zh aP;have aU:=Zh bb;have bP:=Zh ae;have bO:=Zh ab;clear aR aI a8 bp bm a7 aP bb ae ab az;have bh: ∃a n c,M= .slice a n c:=by
  rcases I.out.base with ⟨_,h⟩|⟨_,g,⟨bS,h,_⟩,_⟩
  ·exact⟨_,_,_,h⟩
  ·exact⟨_,_,_,h⟩
 have bA: ∃a n c,W= .slice a n c:=by
  rcases I.out.own.2 with ⟨h,_⟩|⟨g,bS,cur,h,_⟩
  ·exact⟨_,_,_,h⟩
  ·exact⟨_,_,_,h⟩
 have aV:=Zh (QbH bh);have aZ:=Zh (QbH bA);clear bh bA;go_upto_region 6 with fail
 have b6:ai p:=(ad.out p aF.out.sp).1;have cv:p≠b+1:=aK;have au:Qa (fun i=>i=p) E (E.setCell ⟨p,22,none⟩ .nilFunc):=(Zr (fun i=>i=p) E).setCell (p:=⟨p,22,none⟩) (fun _=>rfl) _;have bC:=aF.out.cells (c':=c') (sv':=.nilFunc) au (Qi (o:=22) bP.out .nilFunc) rfl rfl rfl rfl rfl;have aJ:Qa (fun i=>i=b+1) (E.setCell ⟨p,22,none⟩ .nilFunc) (((E.setCell ⟨p,22,none⟩ .nilFunc).setCell ⟨b+1,0,none⟩ (.int .u64 (c'.term:Int))).setCell ⟨b+1,1,none⟩ (.int .i64 (Qd c'.vote))):=((Zr (fun i=>i=b+1) _).setCell (p:=⟨b+1,0,none⟩) (fun _=>rfl) _).setCell (p:=⟨b+1,1,none⟩) (fun _=>rfl) _;have am:=bC.upd aJ (fun i J e=>(ad.out i J).2.1 e);have ag:Qa (fun i=>i=p\/i=b+1) E (((E.setCell ⟨p,22,none⟩ .nilFunc).setCell ⟨b+1,0,none⟩ (.int .u64 (c'.term:Int))).setCell ⟨b+1,1,none⟩ (.int .i64 (Qd c'.vote))):=(au.mono (fun i _ e=>.inl e)).trans (aJ.mono (T:=fun i=>i=p\/i=b+1) (fun i _ e=>.inr e)) (fun _ _ h=>h);have aL:=Qi (o:=1) (Qi (o:=0) (au.keep bO.out (fun e=>aK e.symm)) (.int .u64 (c'.term:Int))) (.int .i64 (Qd c'.vote));have ar:=ag.keep aU.out (fun h=>by
  rcases h with h|h
  ·exact br h.symm
  ·omega)
 have b5:Qag (((E.setCell ⟨p,22,none⟩ .nilFunc).setCell ⟨b+1,0,none⟩ (.int .u64 (c'.term:Int))).setCell ⟨b+1,1,none⟩ (.int .i64 (Qd c'.vote))) ai (b+1) c'.n o' M W a1\/True:=.inr trivial;clear b5;have a9: ∀i,(i=p\/i=b+1)->ai i:=fun i h=>by
  rcases h with rfl|rfl
  ·exact b6
  ·exact I.out.sq
 have bB:Qa (fun i=>S i\/i=N) w (((E.setCell ⟨p,22,none⟩ .nilFunc).setCell ⟨b+1,0,none⟩ (.int .u64 (c'.term:Int))).setCell ⟨b+1,1,none⟩ (.int .i64 (Qd c'.vote))):=by
  have bv:=aE.out.sp;refine (((aD.out.mono (T:=fun i=>S i\/i=N) (fun i _ e=>.inl (e▸bv))).trans bR.out (fun i J h=> ?_)).trans ag (fun i J h=> ?_))
  ·rcases h with (h|h)|h
   ·exact .inl h
   ·have:=Z.out
    omega
   ·exact .inr h
  ·rcases h with rfl|h
   ·exact .inl bv
   ·have:=Z.out
    omega
 have bx: ∀i,ap i->S i\/w.heap.size<=i:=fun i J=>by
  rcases aY.out i (ad.out i J).1 with (h|h)|h
  ·exact .inl h
  ·have:=Z.out
   exact .inr (by omega)
  ·have:=aD.out.size
   exact .inr (by omega)
 have bq:=Q3 I.out.own ag (fun g D h=>by
  rcases h with rfl|h
  ·exact (ad.out g aF.out.sp).2.2 D
  ·exact (I.out.sb g D).2 h)
 have ba: ∀x∈a1,XA (((E.setCell ⟨p,22,none⟩ .nilFunc).setCell ⟨b+1,0,none⟩ (.int .u64 (c'.term:Int))).setCell ⟨b+1,1,none⟩ (.int .i64 (Qd c'.vote))) ai x:=fun x Y=>(I.out.at_ x Y).step ag a9 (fun _ _ h=>h)
 have bg:(o'.rest=none/\M= .slice none 0 0)\/(o'.rest≠none/\ ∃g,QD (((E.setCell ⟨p,22,none⟩ .nilFunc).setCell ⟨b+1,0,none⟩ (.int .u64 (c'.term:Int))).setCell ⟨b+1,1,none⟩ (.int .i64 (Qd c'.vote))) M c'.n g/\g< (((E.setCell ⟨p,22,none⟩ .nilFunc).setCell ⟨b+1,0,none⟩ (.int .u64 (c'.term:Int))).setCell ⟨b+1,1,none⟩ (.int .i64 (Qd c'.vote))).heap.size /\ ¬ai g):=by
  rcases I.out.base with h|⟨h,g,aS,aT,ay⟩
  ·exact .inl h
  ·exact .inr ⟨h,g,aS.upd ag (fun b8=>ay (a9 g b8)),Zu aT ag.size,ay⟩
 have cs:b<E.heap.size:=Ql aU.out;generalize ((E.setCell ⟨p,22,none⟩ .nilFunc).setCell ⟨b+1,0,none⟩ (.int .u64 (c'.term:Int))).setCell ⟨b+1,1,none⟩ (.int .i64 (Qd c'.vote))=w4 at*
 have aH: ∀i,ap i->i≠b:=fun i J e=>by
  subst e;rcases aY.out _ (ad.out _ J).1 with (h|h)|h
  ·exact be h
  ·omega
  ·have:=Ql aA.out
   omega
 have ch:w4.cell? ⟨b+1,2,none⟩=some (.int .u64 (o'.frm:Int)):=Qb aL 2;clear bI a6 cb b9 ca ce cf cg ci bT bU bV bC au aJ;have b3: ¬(N=p\/N=b+1):=by omega
 have aW:=Zh (ag.keep bN.out b3);have bo: ¬N=b:=by omega
 have b4: ¬(N=b\/N=b+1):=by omega
 by_cases hfz:o'.frm=0
 ·have b1: ¬(0:Int)< (o'.frm:Int):=by omega
  have bZ:(o'.frm:Int)=0:=by omega
  rw[bZ] at ch;have aa:(#[.int .u64 (c'.term:Int),.int .i64 (Qd c'.vote),.int .u64 (o'.frm:Int),.slice none 0 0,.bool o'.rest.isSome,.int .u64 ((QE o').1:Int),.int .u64 ((QE o').2:Int),M,W]:Array Value).size =9:=rfl;have aG:=Qb5 (c'.term:Int) (Qd c'.vote) (o'.frm:Int) none 0 0 o'.rest.isSome ((QE o').1:Int) ((QE o').2:Int) M W aV.out aZ.out;have ak:=Xr w4 b (#[.int .u64 (c'.term:Int),.int .i64 (Qd c'.vote),.int .u64 (o'.frm:Int),.slice none 0 0,.bool o'.rest.isSome,.int .u64 ((QE o').1:Int),.int .u64 ((QE o').2:Int),M,W]:Array Value) ar;have aM:w4.heap[b+1]? =some (.cells (#[.int .u64 (c'.term:Int),.int .i64 (Qd c'.vote),.int .u64 (o'.frm:Int),.slice none 0 0,.bool o'.rest.isSome,.int .u64 ((QE o').1:Int),.int .u64 ((QE o').2:Int),M,W]:Array Value) 57 (0,0)):=aL;have aj:=Qc6 I.out.sends bq I.out.few ba bg I.out.sq (fun g D=>(I.out.sb g D).2) ad.out ar (w7:=w4.setRow b (#[.int .u64 (c'.term:Int),.int .i64 (Qd c'.vote),.int .u64 (o'.frm:Int),.slice none 0 0,.bool o'.rest.isSome,.int .u64 ((QE o').1:Int),.int .u64 ((QE o').2:Int),M,W]:Array Value)) (QL (Zr (fun i=>i=b\/i=b+1) w4) (g:=b) (fun _=>.inl rfl) _) (a:=none) (n:=0) (cap:=0) (by rw[if_pos hfz];exact Qr.nil _ 24) (fun g D=>(by cases D)) (fl:=b) ⟨fun x Y g D=>by have:=I.out.new.1 x Y g D;omega,fun g D=>by have:=I.out.new.2.1 g D;omega,fun g D=>by have:=I.out.new.2.2 g D;omega⟩ (fun g D=>by cases D)
  generalize (#[.int .u64 (c'.term:Int),.int .i64 (Qd c'.vote),.int .u64 (o'.frm:Int),.slice none 0 0,.bool o'.rest.isSome,.int .u64 ((QE o').1:Int),.int .u64 ((QE o').2:Int),M,W]:Array Value)=R at*
  have aC:=Zh ak;have aB:=Zh aj;clear ak aj;go_wp2_with (first|refine wpList_load_row rfl 57 _ rfl _ rfl _ _ _ _ aM Tryz.underlying57 rfl (X2 aa) ?_|refine wpList_store_row rfl 57 _ _ rfl _ _ rfl rfl _ _ ar (X2 aa) (by rw[aa];rfl) aG ?_);refine bodyPost_ret (v:=.agg R) ?_ rfl ⟨⟨_,ap,rfl,⟨an,bJ,bF,a2,bG,a5,am.upd (QL (Zr (fun i=>i=b) w4) (g:=b) (fun _=>rfl) R) (fun i J e=>aH i J e)⟩,fun i J=>(bx i J).imp .inl id,QL bB (g:=b) (fun h=>by have:=Z.out;omega) R,aB.out.low (Nat.le_of_eq Z.out)⟩,bH,(QL (Zr (fun i=>i=b) _) (g:=b) (fun _=>rfl) R).keep aW.out bo⟩
  exact results_cell_row rfl _ _ _ _ _ _ _ rfl aC.out Tryz.underlying57 rfl (X2 aa)
 ·have b1:(0:Int)< (o'.frm:Int):=by omega
  have bQ:Hid (∀w',Qa Ze w4 w'->Calls Tryz.prog 87 #[.pointer (some ⟨an,0,none⟩),.int .u64 o'.frm,.int .i64 2147483648] w' (Qbc (o'.frm - 1) (Xs c'.bi c'.l o'.frm 2147483648) w')):=Zh (fun w' hu=>Qcz (am.Qc hu).log o'.frm 2147483648 b2 (by decide));have cy:w4.cell? ⟨p,5,none⟩=some (.pointer (some ⟨an,0,none⟩)):=am.c5;have ao:=Zh aL;have ax:=(Zr Ze w4).drew;go_upto_region 7 with fail
  go_region_with (go_at_call 87;refine (bQ.out _ ax).mono ?_;rintro e w5 ⟨O,U,Q,rfl,bY,aq,aQ⟩;have q35:w5.cell? ⟨b+1,3,none⟩=some (.slice none 0 0):=Qb ((ax.trans aQ (fun _ _ f=>f)).keep ao.out (fun f=>f)) 3;have co:=Qg ((ax.trans aQ (fun _ _ f=>f)).keep ao.out (fun f=>f)) 3 none)
  all_goals
   have ac:=ax.trans aQ (fun _ _ f=>f);have cp:w4.drew.heap.size=w4.heap.size:=rfl;have bc:=ac.keep ar (fun f=>f);have ah:Qa (fun i=>i=b\/i=b+1) w5 (w5.setCell ⟨b+1,3,none⟩ (.slice O U Q)):=(Zr (fun i=>i=b\/i=b+1) w5).setCell (p:=⟨b+1,3,none⟩) (fun _=>.inr rfl) _;have b7:=Qi (o:=3) (ac.keep ao.out (fun f=>f)) (.slice O U Q);have bd:(w5.setCell ⟨b+1,3,none⟩ (.slice O U Q)).heap[b]? =_:=((Zr (fun i=>i=b+1) w5).setCell (p:=⟨b+1,3,none⟩) (fun _=>rfl) (.slice O U Q)).keep bc (by omega);have ct:b+1<w4.heap.size:=Ql ao.out;have aa:(#[.int .u64 (c'.term:Int),.int .i64 (Qd c'.vote),.int .u64 (o'.frm:Int),.slice O U Q,.bool o'.rest.isSome,.int .u64 ((QE o').1:Int),.int .u64 ((QE o').2:Int),M,W]:Array Value).size =9:=rfl;have aG:=Qb5 (c'.term:Int) (Qd c'.vote) (o'.frm:Int) O U Q o'.rest.isSome ((QE o').1:Int) ((QE o').2:Int) M W aV.out aZ.out;have ak:=Xr (w5.setCell ⟨b+1,3,none⟩ (.slice O U Q)) b (#[.int .u64 (c'.term:Int),.int .i64 (Qd c'.vote),.int .u64 (o'.frm:Int),.slice O U Q,.bool o'.rest.isSome,.int .u64 ((QE o').1:Int),.int .u64 ((QE o').2:Int),M,W]:Array Value) bd;have aM:(w5.setCell ⟨b+1,3,none⟩ (.slice O U Q)).heap[b+1]? =some (.cells (#[.int .u64 (c'.term:Int),.int .i64 (Qd c'.vote),.int .u64 (o'.frm:Int),.slice O U Q,.bool o'.rest.isSome,.int .u64 ((QE o').1:Int),.int .u64 ((QE o').2:Int),M,W]:Array Value) 57 (0,0)):=b7
   have aj:=Qc6 I.out.sends (Q3 bq ac (fun _ _ f=>f)) I.out.few (fun x Y=>(ba x Y).upd ac (fun _ _ f=>f)) (by rcases bg with h|⟨h,g,aS,aT,ay⟩;exact .inl h;exact .inr ⟨h,g,aS.upd ac (fun f=>f),Zu aT ac.size,ay⟩) I.out.sq (fun g D=>(I.out.sb g D).2) ad.out bc (w7:=(w5.setCell ⟨b+1,3,none⟩ (.slice O U Q)).setRow b (#[.int .u64 (c'.term:Int),.int .i64 (Qd c'.vote),.int .u64 (o'.frm:Int),.slice O U Q,.bool o'.rest.isSome,.int .u64 ((QE o').1:Int),.int .u64 ((QE o').2:Int),M,W]:Array Value)) (QL ah (g:=b) (fun _=>.inl rfl) _) (a:=O) (n:=U) (cap:=Q) (by rw[if_neg hfz];exact Qr.X3 bY (QL ah (g:=b) (fun _=>.inl rfl) _) (fun g D h=>by have bW:=(aq g D).1;rcases h with h|h<;>omega)) (fun g D=>⟨Zu (aq g D).2 (QL ah (g:=b) (fun _=>.inl rfl) _).size,fun af=>by have bW:=am.lt g af;have bX:=(aq g D).1;omega⟩) (fl:=b) ⟨fun x Y g D=>by have:=I.out.new.1 x Y g D;omega,fun g D=>by have:=I.out.new.2.1 g D;omega,fun g D=>by have:=I.out.new.2.2 g D;omega⟩ (fun g D=>by have bX:=(aq g D).1;omega);generalize (#[.int .u64 (c'.term:Int),.int .i64 (Qd c'.vote),.int .u64 (o'.frm:Int),.slice O U Q,.bool o'.rest.isSome,.int .u64 ((QE o').1:Int),.int .u64 ((QE o').2:Int),M,W]:Array Value)=R at*
   have aC:=Zh ak;have aB:=Zh aj;clear ak aj;go_wp2_with (first|refine wpList_load_row rfl 57 _ rfl _ rfl _ _ _ _ aM Tryz.underlying57 rfl (X2 aa) ?_|refine wpList_store_row rfl 57 _ _ rfl _ _ rfl rfl _ _ bd (X2 aa) (by rw[aa];rfl) aG ?_);refine bodyPost_ret (v:=.agg R) ?_ rfl ⟨⟨_,ap,rfl,⟨an,bJ,bF,a2,bG,a5,((am.Qc ac).upd ah (fun i J h=>by rcases h with h|h;exact aH i J h;exact (ad.out i J).2.1 h)).upd (QL (Zr (fun i=>i=b) _) (g:=b) (fun _=>rfl) R) (fun i J e=>aH i J e)⟩,fun i J=>(bx i J).imp .inl id,QL (((bB.trans (ac.mono (T:=fun i=>S i\/i=N) (fun _ _ f=>f.elim)) (fun _ _ h=>h))).trans (ah.mono (T:=fun i=>i=b\/i=b+1) (fun _ _ h=>h)) (fun i J h=>by have:=Z.out;rcases h with h|h<;>omega)) (g:=b) (fun h=>by have:=Z.out;omega) R,aB.out.low (Nat.le_of_eq Z.out)⟩,bH,(QL (Zr (fun i=>i=b) _) (g:=b) (fun _=>rfl) R).keep (ah.keep (ac.keep aW.out (fun f=>f)) b4) bo⟩
   exact results_cell_row rfl _ _ _ _ _ _ _ rfl aC.out Tryz.underlying57 rfl (X2 aa)
theorem QpU{fn:Func}{t0 p u:Tmp}(h:fn.results= #[.tmp t0,.cell p ty,.tmp u])(D:Array Value)(P:Program)(w:World):
  (results fn D).run P w=
   ((asAddr (D.getD p undef)).run P w).andThen fun a E=>((loadVar ty a).run P E).andThen fun v w₂=>.ok (.tuple #[D.getD t0 undef,v,D.getD u undef]) w₂:=by
 simp only[results,h];simp[Sem.run_bind,Result.andThen]
theorem QeY{fn:Func}{t0 p u:Tmp}(h:fn.results= #[.tmp t0,.cell p ty,.tmp u])(E:Array Value)(w:World)(g:Nat)(t:TypeId)(D:Array Value)(fr:Nat×Nat)(d:TypeDesc)
  (N:E.getD p undef= .pointer (some ⟨g,0,none⟩)) (J:w.heap[g]? =some (.cells D t fr))
  (O:P.underlying ty=some d) (I:(match d with| .struct _| .array _ _=>true|_=>false)=true) (M:(P.info? ty).map (·.size)=some D.size):
  (results fn E).run P w= .ok (.tuple #[E.getD t0 undef,.agg D,E.getD u undef]) w:=by
 rw[QpU h,N];simp[asAddr,run_loadVar_row w g t ty D fr d J O I M,Result.andThen]
theorem XA.Qb6{x:XI}{n:Int}(h:XA w S x)(aa:w.heap[b]? =some (.cells #[.int .u64 n] 30 (0,0)))(O:Qa (fun i=>i=b) w w'):XA w' S x:=by
 obtain⟨D,U,W,Y,N⟩:=h;refine⟨?_,U,W,Y,fun g E=>⟨Zu (N g E).1 O.size,(N g E).2⟩⟩;obtain⟨d,m,I⟩:=x;by_cases hes:m.es=[]
 ·have D:QA w I m.idx m.es:=D
  rw[hes] at D;obtain⟨a,cap,rfl,ad,ae⟩:=D.slice;show QA w' _ m.idx m.es;rw[hes];obtain⟨_,ai,c',Q,af,ag,ah,_⟩:=D;simp only[Value.slice.injEq] at Q;obtain⟨rfl,_,rfl⟩:=Q;exact⟨rfl,a,cap,rfl,af,ag,ah,fun ab=>absurd rfl ab⟩
 ·refine Qr.X3 D O (fun g E ac=> ?_)
  have D:QA w I m.idx m.es:=D;obtain⟨a,cap,M,ad,ae⟩:=D.slice;have M:I= .slice a m.es.length cap:=M;subst M;obtain⟨g',o',Z,_,_,J,_⟩:=D.cells (k:=0) (List.length_pos_iff.2 hes);subst Z;simp only[Value.ownBlock,Option.some.injEq] at E;subst E;subst ac;rw[Qb aa] at J;have:o'+0*24+2≥1:=by omega
  rw[Array.getElem?_eq_none (by simpa using this)] at J
  cases J
theorem QD.Qb6{x:Int}(h:QD w v n g)(E:w.heap[b]? =some (.cells #[.int .u64 x] 30 (0,0)))(I:Qa (fun i=>i=b) w w'):QD w' v n g:=by
 refine h.upd I (fun e=> ?_);subst e;obtain⟨M,_,N,_,_,_,J⟩:=h;have D:=J 0 (by omega);rw[Qb E] at D;simp at D
theorem St.Qb6{n:Int}(h:St w S p q c o)(O:w.heap[b]? =some (.cells #[.int .u64 n] 30 (0,0)))(M: ¬S b)(E:Qa (fun i=>i=b) w w'):St w' S p q c o:=by
 obtain⟨⟨Q,U,ad,L,aa,D,N,ac⟩,ab⟩:=h;refine⟨⟨Q,U,ad,L,aa.upd E (fun i J e=>M (e▸(N i J).1)),⟨E.keep D.row (fun e=>M (e▸D.sq)),D.sends,Q3 D.own E (fun g hg e=>M (e▸(D.sb g hg).1)),fun x hx=>(D.at_ x hx).Qb6 O E,?_,D.sq,D.sb,D.few,D.new⟩,N,fun i J=>Zu (ac i J) E.size⟩,ab⟩;rcases D.base with I|⟨I,g,W,Y,Z⟩
 ·exact .inl I
 ·exact .inr ⟨I,g,W.Qb6 O E,Zu Y E.size,Z⟩
def Core.QbA(c:Core)(s:Nat):Core:=(c.put s Ou.none).1
def QbB(c:Core)(s:Nat):Ou:={(c.put s Ou.none).2 with frm:=c.last+1}
theorem QoJ(h:St w S p q c Ou.none)(ap:c.role=2)(s:Nat)(an:c.last+1<=20000)(aa:w.heap[na]? =some (.cells #[.pointer (some ⟨p,0,none⟩)] 50 (0,0)))(ab:w.heap[nb]? =some (.cells (Qh 0 0 s) 116 (0,0)))(J:w.heap[nc]? =some (.cells #[.int .u64 0] 30 (0,0)))(ac: ¬S nc):
  Calls Tryz.prog 103 #[.pointer (some ⟨q,0,none⟩),.pointer (some ⟨na,0,none⟩),.pointer (some ⟨nb,0,none⟩),.pointer (some ⟨nc,0,none⟩)] w (fun e w'=>e= .returned (.tuple #[])/\(∃S',St w' S' p q (c.QbA s) (QbB c s)/\(∀i,S' i->S i\/w.heap.size<=i)/\Qa (fun i=>S i\/i=nc) w w')/\ ∃n:Int,w'.heap[nc]? =some (.cells #[.int .u64 n] 30 (0,0))):=by
 have HP:=Zh (Qid h ap s an (by show 0<19000;omega));have ai:=Zh J;have al:w.cell? ⟨na,0,none⟩=some (.pointer (some ⟨p,0,none⟩)):=Qb aa 0;have am:(Qh 0 0 s).size =24:=rfl;unfold QS at HP;generalize Qh 0 0 s=A at*
 have ao:(LdC ⟨nb,0,none⟩ 24).run Tryz.prog w= .ok A w:=Xc ab am;have ay:=Ql J;clear h aa ab J;go_enter Tryz.func103,Tryz.ntmps103;obtain⟨z,Q⟩: ∃z,z=c.last+1:=⟨_,rfl⟩
 rw[<-Q] at HP;have Y:=Zh Q;clear Q;go_wp2_with fail;refine HP.out.mono ?_
 rintro e D ⟨rfl,Z,ae,I,N⟩;have E:=N.keep ai.out ac;have ad: ¬Z nc:=fun aq=>by
  rcases I nc aq with h|h
  ·exact ac h
  ·omega
 have ar:D.cell? ⟨nc,0,none⟩=some (.int .u64 0):=Qb E 0;have au:=Qg E 0 none;have O:Qa (fun i=>i=nc) D (D.setCell ⟨nc,0,none⟩ (.int .u64 (z:Int))):=(Zr (fun i=>i=nc) D).setCell (p:=⟨nc,0,none⟩) (fun _=>rfl) _;have M:(D.setCell ⟨nc,0,none⟩ (.int .u64 (z:Int))).heap[nc]? =some (.cells #[.int .u64 (z:Int)] 30 (0,0)):=Qi (o:=0) E (.int .u64 (z:Int));obtain⟨af,ag,⟨aA,av⟩,aw⟩:=(ae.Qb6 E ad O).Qdi z;have aj:=Zh af;have U:=Zh I;have ak:Hid (Qa (fun i=>S i\/i=nc) w (D.setCell ⟨nc,0,none⟩ (.int .u64 (z:Int)))):=Zh ((N.mono (T:=fun i=>S i\/i=nc) (fun i _ h=>.inl h)).trans O (fun i _ h=>.inr h));have W:=Zh ag;have ah:=Zh M;have az:(D.setCell ⟨nc,0,none⟩ (.int .u64 (z:Int))).cell? ⟨nc,0,none⟩=some (.int .u64 (z:Int)):=Qb M 0;clear ae I N E O M af ag HP ao al;go_upto_region 1 with fail
 generalize D.setCell ⟨nc,0,none⟩ (.int .u64 (z:Int))=w2 at*
 clear ar au;go_wp2_with fail;go_end0;refine⟨rfl,⟨Z,?_,U.out,ak.out.trans W.out (fun i ax h=> ?_)⟩,(z:Int),W.out.keep ah.out ad⟩
 ·have:=aj.out
  rw[Y.out] at this;rw[Y.out];exact this
 ·rcases U.out i h with h|h
  ·exact .inl h
  ·omega
def QdH(S:Nat->Prop)(p:Nat)(c':Core)(o':Ou)(w:World)(e:Ending)(w':World):Prop:=
 ∃n v S',e= .returned (.tuple #[.int .u64 n,v,.int .i64 0])/\Q2 w' S' p c' .nilFunc /\(∀i,S' i->S i\/w.heap.size<=i)/\Qa S w w'/\Zc w' S' w.heap.size c' o' v
theorem QoL(h:Q2 w S p c .nilFunc)(aR:Fit c)(bw:c.role=2)(s:Nat)(aO:c.last+1<=20000):
  Calls Tryz.prog 51 #[.pointer (some ⟨p,0,none⟩),QS 0 0 s] w (QdH S p (c.QbA s) (QbB c s) w):=by
 have aW: ∀i,S i->i<w.heap.size:=by
  obtain⟨_,_,_,_,_,_,W⟩:=h;exact W.lt
 have Z:S p:=by
  obtain⟨_,_,_,_,_,_,W⟩:=h;exact W.sp
 have H:=Zh h;have N:=Zh aW;have a7:=Zh aR;clear h aW aR;have bp:(Qh 0 0 s).size =24:=rfl;obtain⟨D,ah⟩: ∃D,D=Qh 0 0 s:=⟨_,rfl⟩
 unfold QS;rw[<-ah] at bp ⊢;have a4:=Zh ah;clear ah;have aL:=Qf (w:=w) (.cells #[.pointer (some ⟨p,0,none⟩)] 50);have aY:(w.alloc (.cells #[.pointer (some ⟨p,0,none⟩)] 50)).heap.size =w.heap.size+1:=by simp
 have ak:=Qf (w:=w.alloc (.cells #[.pointer (some ⟨p,0,none⟩)] 50)) (.cells D 116);have aZ:((w.alloc (.cells #[.pointer (some ⟨p,0,none⟩)] 50)).alloc (.cells D 116)).heap.size =w.heap.size+2:=by simp
 have au:=Qf (w:=(w.alloc (.cells #[.pointer (some ⟨p,0,none⟩)] 50)).alloc (.cells D 116)) (.cells Xh 57);rw[aY] at ak;rw[aZ] at au;have u1:Qa Ze w (w.alloc (.cells #[.pointer (some ⟨p,0,none⟩)] 50)):=(Zr _ w).alloc _;have u2:Qa Ze (w.alloc (.cells #[.pointer (some ⟨p,0,none⟩)] 50)) ((w.alloc (.cells #[.pointer (some ⟨p,0,none⟩)] 50)).alloc (.cells D 116)):=(Zr _ _).alloc _;have ab:Qa Ze ((w.alloc (.cells #[.pointer (some ⟨p,0,none⟩)] 50)).alloc (.cells D 116)) (((w.alloc (.cells #[.pointer (some ⟨p,0,none⟩)] 50)).alloc (.cells D 116)).alloc (.cells Xh 57)):=(Zr _ _).alloc _;have aP:=ab.keep ak (fun f=>f);have aj:=(u2.trans ab (fun _ _ f=>f)).keep aL (fun f=>f);have ao:=(u1.trans u2 (fun _ _ f=>f)).trans ab (fun _ _ f=>f);go_enter Tryz.func51,Tryz.ntmps51;go_upto_region 1 with fail
 change Code.wp _ _ _ _ (((w.alloc (.cells #[.pointer (some ⟨p,0,none⟩)] 50)).alloc (.cells D 116)).alloc (.cells Xh 57));clear u1 u2 ab aL ak aY aZ;generalize ((w.alloc (.cells #[.pointer (some ⟨p,0,none⟩)] 50)).alloc (.cells D 116)).alloc (.cells Xh 57)=w3 at*
 generalize hbb:w.heap.size=b at*
 have aE:=Zh hbb;have aB:=Zh (H.out.Qc ao);have bb:=Zh ao;have a2:=Zh aj;have a5:=Zh aP;have bh:=Zh au;have af:w3.cell? ⟨b,0,none⟩=some (.pointer (some ⟨p,0,none⟩)):=Qb aj 0;have az:Hid (Calls Tryz.prog 98 #[.pointer (some ⟨p,0,none⟩)] w3 (Qk (.int .u64 c.last) w3)):=by
  obtain⟨_,_,_,_,_,_,W⟩:=aB.out;exact Zh (Qbh W)
 have bs: ¬S b:=fun E=>by have:=N.out b E;omega
 have bu: ¬S (b+1):=fun E=>by have:=N.out _ E;omega
 have aX: ¬S (b+2):=fun E=>by have:=N.out _ E;omega
 clear aj aP au ao hbb;obtain⟨L,ai⟩: ∃L,L=c.last:=⟨_,rfl⟩
 rw[<-ai] at az aO;have aA:=Zh ai;clear ai;have bv: ¬(1099511627776:Int)<=L:=by omega
 have bD:decide ((1099511627776:Int)<=L)=false:=decide_eq_false bv;go_wp2_with fail;refine az.out.mono ?_
 rintro e I ⟨rfl,J⟩;have aM:=J.keep a2.out (fun f=>f);have aQ:=J.keep a5.out (fun f=>f);have av:=J.keep bh.out (fun f=>f);have a0:=aB.out.Qc J;have bc:=Zh (bb.out.trans J (fun _ _ f=>f));have M:Qa Ze I (I.alloc (.cells #[.int .u64 0] 30)):=(Zr _ I).alloc _;have aS:=Qf (w:=I) (.cells #[.int .u64 0] 30);have ax:=Zh (M.keep aM (fun f=>f));have a6:=Zh (M.keep aQ (fun f=>f));have aG:=Zh (M.keep av (fun f=>f));have ba:=Zh (a0.Qc M);have ac:=Zh (bc.out.trans M (fun _ _ f=>f));have ay:=Zh aS;have bG:b+2<I.heap.size:=Ql av;clear aM aQ av a0 M aS J af;go_upto_region 4 with fail
 generalize I.alloc (.cells #[.int .u64 0] 30)=w5 at*
 generalize I.heap.size=ib at*
 have af:w5.cell? ⟨b,0,none⟩=some (.pointer (some ⟨p,0,none⟩)):=Qb ax.out 0;have aU: ¬S ib:=fun E=>by have:=N.out _ E;omega
 have aV:=Ql ay.out;have bJ:=N.out p Z;have aD:=Zh (QqV (o':=QbB c s) (c':=c.QbA s) ba.out a7.out b (b+1) ib (fun w' q bz an bK=>by
  have bA: ∀x,¬S x->x<w5.heap.size-> ¬(S x\/x=q):=fun x ag aI h=>by
   rcases h with h|h
   ·exact ag h
   ·omega
  have aJ:=an.keep a6.out (fun e=>bu (e▸Z));rw[a4.out] at aJ;refine (QoJ bz bw s (by rw[<-aA.out];exact aO) (an.keep ax.out (fun e=>bs (e▸Z))) aJ (an.keep ay.out (fun e=>aU (e▸Z))) (bA ib aU aV)).mono ?_
  rintro e bN ⟨ag,⟨bk,aI,bm,bn⟩,bo⟩;exact⟨ag,⟨bk,aI,bm,bn⟩,bo⟩) rfl (by show c.last+1<=1000000;rw[<-aA.out];omega) (by omega) aV)
 have aF:Hid (w.heap.size<=ib):=Zh (by have:=aE.out;omega);have aH:Hid (b+2≠ib):=Zh (by omega);go_wp2_with fail;refine aD.out.mono ?_
 rintro e w6 ⟨⟨v,ae,rfl,aN,aK,ap,am⟩,aa,al⟩;obtain⟨R,rfl,Q,Y⟩:=am.agg;have aw:=ap.keep aG.out (fun h=>by
  rcases h with h|h
  ·exact aX h
  ·exact aH.out h)
 have bj:=Zh aw;have a8:=Zh al;have a9:=Zh am;have a3:=Zh aN;have aC:=Zh aK;have bd:=Zh ap;have bH:=Ql aw;have bF:=Ql al;clear aw al am aN aK ap aD af;have ar:=Qf (w:=w6) (.cells Xh 57);have a1:Qa Ze w6 (w6.alloc (.cells Xh 57)):=(Zr _ w6).alloc _;have be:=Zh ar;have bg:=Zh (Xr _ _ R ar);have O:Hid (Qa Ze w6 ((w6.alloc (.cells Xh 57)).setRow w6.heap.size R)):=Zh (QL a1 (g:=w6.heap.size) (fun h=>absurd h (Nat.lt_irrefl _)) R);clear ar a1;go_upto_region 5 with (refine wpList_store_row rfl 57 _ _ rfl _ _ rfl rfl _ _ be.out (X2 Q) (by rw[Q];rfl) Y ?_)
 change Code.wp _ _ _ _ ((w6.alloc (.cells Xh 57)).setRow w6.heap.size R);generalize (w6.alloc (.cells Xh 57)).setRow w6.heap.size R=w8 at*
 generalize hzb:w6.heap.size=zb at*
 have ad:=Zh (O.out.keep bj.out (fun f=>f));have aT:=O.out.keep a8.out (fun f=>f);have bB:w8.cell? ⟨ib,0,none⟩=some (.int .u64 aa):=Qb aT 0;clear aT;have bI:b+2≠zb:=by omega
 have bE:(LdC ⟨zb,0,none⟩ 9).run Tryz.prog w8.drew= .ok R w8.drew:=Xc (show w8.drew.heap[zb]? =_ from bg.out) Q;have bL:(StC ⟨b+2,0,none⟩ R.toList).run Tryz.prog w8.drew= .ok () (w8.drew.setRow (b+2) R):=Qa3 (show w8.drew.heap[b+2]? =_ from ad.out) (by rw[Q];rfl) Y;have bM:w8.drew.cell? ⟨ib,0,none⟩=some (.int .u64 aa):=bB;have bC:=Zh Y;clear Y;go_frame;go_region
 all_goals
  go_wp2_with fail;have bx:=Xr w8.drew (b+2) R (show w8.drew.heap[b+2]? =_ from ad.out);have aq:Qa (fun i=>i=b+2) w8 (w8.drew.setRow (b+2) R):=QL ((Zr (fun i=>i=b+2) w8).drew) (g:=b+2) (fun _=>rfl) R;have bq: ∀i,ae i->S i\/w.heap.size<=i:=fun i U=>by
   rcases aC.out i U with (h|h)|h
   ·exact .inl h
   ·exact .inr (h▸aF.out)
   ·exact .inr (Zt ac.out.size h)
  have br: ¬ae (b+2):=fun h=>by
   rcases aC.out _ h with (h|h)|h
   ·exact aX h
   ·exact aH.out h
   ·have:=Ql aG.out
    omega
  refine bodyPost_ret (v:=.tuple #[.int .u64 aa,.agg R,.int .i64 0]) ?_ rfl ⟨aa,.agg R,ae,rfl,((a3.out.Qc O.out).upd aq (fun i U e=>br (e▸U))),bq,?_,?_⟩
  ·refine (QeY (fn:=Tryz.f51) (t0:=4) (p:=5) (u:=6) (ty:=57) ?_ _ _ (b+2) 57 R (0,0) _ ?_ bx Tryz.underlying57 rfl (X2 Q))<;>rfl
  ·refine ((((ac.out.mono (T:=S) (fun _ _ f=>f.elim)).trans bd.out (fun i U h=> ?_)).trans (O.out.mono (T:=S) (fun _ _ f=>f.elim)) (fun _ _ h=>h))).trans aq (fun i U e=> ?_)
   ·rcases h with h|h
    ·exact h
    ·have:=aF.out
     omega
   ·have:=aE.out
    omega
  ·exact ((a9.out.upd O.out (fun g f=>f.elim)).past ad.out aq).low ac.out.size
def Xp(s:Nat):Array Value:= #[.int .i64 (kI s),.int .i64 0,.int .u64 s,.int .u64 0,.int .i64 (oI s),.string (rS s),.string (cS s),.string ⟨#[]⟩,.bool false,.string ⟨#[]⟩,.int .u64 0,.int .i64 0,.string ⟨#[]⟩,.string ⟨#[]⟩,.int .i64 0,.bool false,.int .i64 0,.string ⟨#[]⟩,.int .i64 0,.int .i64 0]
theorem Qkt(C:Array Value)(s:Nat)(h:C=Xp s):Tryz.prog.built 116 [(2,.int .i64 1),(3,.agg C)]=some (Qh 0 0 s):=by
 subst h
 kernel_rfl
theorem QjP(h:Q2 w S p c .nilFunc)(aj:Fit c)(al:c.role=2)(s:Nat)(aA:c.last+1<=20000):
  Calls Tryz.prog 14 #[.pointer (some ⟨p,0,none⟩),.agg (Xp s)] w (QdH S p (c.QbA s) (QbB c s) w):=by
 have ak: ∀i,S i->i<w.heap.size:=by
  obtain⟨_,_,_,_,_,_,D⟩:=h;exact D.lt
 have H:=Zh h;have ar:=Zh ak;have ap:=Zh aj;clear h ak aj;obtain⟨C,J⟩: ∃C,C=Xp s:=⟨_,rfl⟩
 rw[<-J];have ag:C.size=20:=by rw[J];rfl
 have az:=Qkt C s J;clear J;go_enter Tryz.func14,Tryz.ntmps14;go_upto_block 0 with fail
 have ah:=Qf (w:=w) (.cells C 70);have ao:(w.alloc (.cells C 70)).heap.size =w.heap.size+1:=by simp
 have ad:=Qf (w:=w.alloc (.cells C 70)) (.cells Xh 57);rw[ao] at ad;have u1:Qa Ze w (w.alloc (.cells C 70)):=(Zr _ w).alloc _;have u2:Qa Ze (w.alloc (.cells C 70)) ((w.alloc (.cells C 70)).alloc (.cells Xh 57)):=(Zr _ _).alloc _;have Z:=u2.keep ah (fun f=>f);have ab:=u1.trans u2 (fun _ _ f=>f);change Code.wp _ _ _ _ ((w.alloc (.cells C 70)).alloc (.cells Xh 57));clear u1 u2 ah ao;generalize (w.alloc (.cells C 70)).alloc (.cells Xh 57)=w2 at*
 generalize hbb:w.heap.size=b at*
 have av:=Zh hbb;have U:=Zh ab;have aE:=Zh Z;have af:=Zh ad;have Q:=Zh (H.out.Qc ab);have ae:Hid (Calls Tryz.prog 40 #[.pointer (some ⟨p,0,none⟩)] w2 (Is (.bool false) w2)):=by
  obtain⟨_,_,_,_,_,_,D⟩:=Q.out;exact Zh (K4 D)
 have aD:w2.cell? ⟨p,7,none⟩=some (.int .i64 2):=by
  obtain⟨_,_,_,_,_,_,D⟩:=Q.out;rw[Qb D.row 7];show some (Value.int .i64 (c.role:Int))=_;rw[al];rfl
 have aB:(LdC ⟨b,0,none⟩ 20).run Tryz.prog w2= .ok C w2:=Xc Z ag;have HP:=Zh (QoL Q.out ap.out al s aA);unfold QS at HP;have am: ¬S (b+1):=fun aC=>by have:=ar.out _ aC;omega
 clear hbb ab Z ad ag;generalize Qh 0 0 s=E at*
 go_wp2_with fail;refine ae.out.mono ?_
 rintro e w' ⟨rfl,rfl⟩;go_wp2_with (refine Qfn rfl 116 2 3 _ _ rfl _ _ rfl rfl E az ?_);refine HP.out.mono ?_
 rintro e I ⟨n,v,ax,rfl,ai,Y,ac,aa⟩;obtain⟨R,rfl,W,ay⟩:=aa.agg;have O:=ac.keep af.out am;have an:=Xr I (b+1) R O;have N:Qa (fun i=>i=b+1) I (I.setRow (b+1) R):=QL (Zr (fun i=>i=b+1) I) (g:=b+1) (fun _=>rfl) R;have aq:Hid (QdH S p (c.QbA s) (QbB c s) w (.returned (.tuple #[.int .u64 n,.agg R,.int .i64 0])) (I.setRow (b+1) R)):=Zh ⟨n,_,ax,rfl,ai.upd N (fun i M e=>by
   subst e;rcases Y _ M with h|h
   ·exact am h
   ·have:=Ql af.out
    omega),fun i M=>by
   rcases Y i M with h|h
   ·exact .inl h
   ·exact .inr (Zt U.out.size h),((U.out.mono (T:=S) (fun _ _ f=>f.elim)).trans ac (fun _ _ h=>h)).trans (N.mono (T:=fun i=>i=b+1) (fun _ _ h=>h)) (fun i M e=>by have:=av.out;omega),(aa.past O N).low U.out.size⟩
 have au:=Zh an;have aw:=Zh O;clear ai Y ac aa O an N HP ae aD aB;go_wp2_with (refine wpList_store_row rfl 57 _ _ rfl _ _ rfl rfl _ _ aw.out (X2 W) (by rw[W];rfl) ay ?_);refine bodyPost_ret (v:=.tuple #[.int .u64 n,.agg R,.int .i64 0]) ?_ rfl aq.out
 refine (QeY (fn:=Tryz.f14) (t0:=4) (p:=5) (u:=6) (ty:=57) ?_ _ _ (b+1) 57 R (0,0) _ ?_ au.out Tryz.underlying57 rfl (X2 W))<;>rfl
end
section
open Go.RowKit Go.Acre
attribute [local go_sem ↓] LcG ScG
attribute [local go_sem] Sc1 Sc2 Sc3 Lc2 Lc3
attribute [local simp] QH
def Q9:Array Value:= #[.int .i64 0,.int .i64 0,.int .i64 4,.int .i64 1,.int .i64 0,.int .i64 0,.int .i64 0,.int .i64 0,.int .i64 0]
def KJ(id n term:Nat)(vote:Option Nat)(bi bt:Nat)(l:List En):Core:=⟨id,4,1,term,vote,n,bi,bt,l,bi,0,-1,0,0,[],List.replicate 5 0,List.replicate 5 0⟩
theorem Qk8(i t s:Nat)(w:World):Calls Tryz.prog 84 #[QS i t s] w (Qk (.bool false) w):=by
 have N:=ZJ i t s;have D:Hid (∀w',Calls Tryz.prog 85 #[QS i t s] w' (Qk (.bool true) w')):=Zh (fun w'=>Qgd i t s w');unfold QS at D ⊢;generalize Qh i t s=A at*
 have I:=Qf (w:=w) (.cells A 116);have J:Hid (Qa Ze w (w.alloc (.cells A 116))):=Zh ((Zr _ w).alloc _);have O:(LdC ⟨w.heap.size,0,none⟩ 24).run Tryz.prog (w.alloc (.cells A 116))= .ok A (w.alloc (.cells A 116)):=Xc I N;go_enter Tryz.func84,Tryz.ntmps84;go_upto_region 1 with fail
 generalize w.alloc (.cells A 116)=w1 at*
 clear I;go_wp2_with fail;refine (D.out _).mono ?_
 rintro e w2 ⟨rfl,E⟩;have M:=Zh E;clear E;go_wp2_with fail;go_ret;exact⟨rfl,J.out.trans M.out (fun _ _ f=>f)⟩
theorem Qiv: ∀(l:List En) (t:Nat),XP t l-> ∀e∈l,e.1<=YtbleblbfadeciaaGreatDoor.lastT t l
 |[],_,_,e,D=>by cases D
 |
  x::r,t,h,e,D=>by
  rw[Qer]
  rw[List.mem_cons] at D
  rcases D with rfl|D
  ·exact Qaa r _ h.2
  ·exact Qiv r _ h.2 e D
def QdG(c:Core)(w:World)(e:Ending)(w':World):Prop:= ∃p S,e= .returned (.tuple #[.pointer (some ⟨p,0,none⟩),.int .i64 0])/\Q2 w' S p c .nilFunc /\(∀i,S i->w.heap.size<=i)/\Qa Ze w w'
theorem QhR{w7:World}(M:Qa Ze w w7){l:List En}(I:Q4 w7 U na n bi bt l mv Y nb)(O: ∀i,U i->w.heap.size<=i){id:Nat}{vote:Option Nat}(D:bi+l.length<=20000):
  QdG (KJ id n nc vote bi bt l) w (.returned (.tuple #[.pointer (some ⟨w7.heap.size+1,0,none⟩),.int .i64 0])) ((w7.alloc (.map #[] 0)).alloc (.cells (QK (KJ id n nc vote bi bt l) na w7.heap.size .nilFunc) 126)):=by
 have Z:(w7.alloc (.map #[] 0)).heap.size =w7.heap.size+1:=by simp
 have u1:Qa Ze w7 (w7.alloc (.map #[] 0)):=(Zr _ w7).alloc _;have u2:Qa Ze (w7.alloc (.map #[] 0)) ((w7.alloc (.map #[] 0)).alloc (.cells (QK (KJ id n nc vote bi bt l) na w7.heap.size .nilFunc) 126)):=(Zr _ _).alloc _;have J:=Qf (w:=w7.alloc (.map #[] 0)) (.cells (QK (KJ id n nc vote bi bt l) na w7.heap.size .nilFunc) 126);rw[Z] at J;have hsz:=M.size;have W:=I.Qc (u1.trans u2 (fun _ _ f=>f));have am: ∀i,U i/\i<w7.heap.size->i<w7.heap.size:=fun i h=>h.2
 refine⟨w7.heap.size+1,fun i=>i=w7.heap.size+1\/i=w7.heap.size\/(U i/\i<w7.heap.size),rfl,⟨na,w7.heap.size,nb,fun i=>U i/\i<w7.heap.size,mv,Y,J,?_,?_,fun i D=>⟨.inr (.inr D),by have:=D.2;omega,by have:=D.2;omega⟩,.inl rfl,.inr (.inl rfl),by omega,?_⟩,?_,M.trans (u1.trans u2 (fun _ _ f=>f)) (fun _ _ f=>f)⟩
 ·obtain⟨aa,ab,ac,an,ao,ap,aq,ar⟩:=I
  obtain⟨ad,ae,af,ag,ah,ai,N,aj⟩:=W;refine⟨ad,ae,af,⟨ag,Ql aa⟩,⟨ah,?_⟩,ai,fun g E=>⟨⟨(N g E).1,(ac.lt g E).2⟩,(N g E).2⟩,aj⟩;obtain⟨cap,_,ak,_,_,_,Q⟩:=ab;exact World.block_lt_of_cell? w7 ⟨nb,0,none⟩ (Q 0 (by omega))
 ·exact (World.ownsMap_made w7 Tryz.prog 3 (unitElem (H:=Unit))).alloc _
 ·have al:((w7.alloc (.map #[] 0)).alloc (.cells (QK (KJ id n nc vote bi bt l) na w7.heap.size .nilFunc) 126)).heap.size =w7.heap.size+2:=by simp
  rintro i (rfl|rfl|D)
  ·omega
  ·omega
  ·have:=D.2
   omega
 ·rintro i (rfl|rfl|D)
  ·omega
  ·omega
  ·exact O i D.1
theorem QnY{id:Nat}{vote:Option Nat}{l:List En}(h:QD w mv n g){a:Option Addr}(a3:QA w (.slice a m cap) bi l)(hid:id<n)(be:1<=bi)(bj:1<=bt)(aE:XP bt l)(Z:bi+l.length<=20000)(aD:YtbleblbfadeciaaGreatDoor.lastT bt l<=na)(bv:na<=20000)(bk: ∀v,vote=some v->v<5):
  Calls Tryz.prog 36 #[.int .i64 id,.agg Q9,.agg #[.int .u64 na,.int .i64 (Qd vote)],QC bi bt mv,.slice a m cap] w (QdG (KJ id n na vote bi bt l) w):=by
 have a4: ∀e∈l,e.1<=na:=fun e aW=>Zt (Qiv l bt aE e aW) aD
 have bs:bt<=na:=Zt (Qaa l bt aE) aD;have a1:=Zh h;have aZ:=Zh a3;have bu:1<=n/\n<=5:=⟨h.choose_spec.2.1,h.choose_spec.2.2.1⟩
 have ai:Hid (∀w',Qa Ze w w'->Calls Tryz.prog 79 #[QC bi bt mv,.slice a m cap] w' (QfB n bi bt l w')):=Zh (fun w' hu=>new_any bi bt (a1.out.upd hu (fun f=>f)) (aZ.out.Qc hu) be bj aE (by omega) ⟨by omega,fun e aW=>by have:=a4 e aW;omega⟩);have aY:Hid (∀w',Qa Ze w w'->Calls Tryz.prog 81 #[mv] w' (Qk (.int .i64 0) w')):=Zh (fun w' hu=>check_any (a1.out.upd hu (fun f=>f)));have a2:=Zh (fun w'=>Qc2 id (by omega) w');have aC:Hid (∀w',Qa Ze w w'->Calls Tryz.prog 83 #[.slice a m cap,.func (.func 84) #[] #[]] w' (Qk (.bool false) w')):=Zh (fun w' hu=>Qmh (aZ.out.Qc hu) (by omega) (fun k hk w'' hu2=>Qk8 _ _ _ _));obtain⟨M,rfl⟩: ∃M,mv= .slice (some ⟨g,0,none⟩) n M:=⟨h.choose,h.choose_spec.1⟩
 have a0:=Zh aD;clear h a3 aE a4 aD;unfold QC at ai ⊢
 cases vote with
 |
  none=>
  have aX:Qd none= -1:=rfl;rw[aX];go_enter Tryz.func36,Tryz.ntmps36;have av:=Qf (w:=w) (.cells Q9 26);have aw:(w.alloc (.cells Q9 26)).heap.size =w.heap.size+1:=by simp
  have ad:=Qf (w:=w.alloc (.cells Q9 26)) (.cells #[.int .u64 na,.int .i64 (-1)] 42);have ax:((w.alloc (.cells Q9 26)).alloc (.cells #[.int .u64 na,.int .i64 (-1)] 42)).heap.size =w.heap.size+1+1:=by simp
  have ae:=Qf (w:=(w.alloc (.cells Q9 26)).alloc (.cells #[.int .u64 na,.int .i64 (-1)] 42)) (.cells #[.int .u64 bi,.int .u64 bt,.slice (some ⟨g,0,none⟩) n M] 44);rw[aw] at ad;rw[ax] at ae;have u1:Qa Ze w (w.alloc (.cells Q9 26)):=(Zr _ w).alloc _;have u2:Qa Ze (w.alloc (.cells Q9 26)) ((w.alloc (.cells Q9 26)).alloc (.cells #[.int .u64 na,.int .i64 (-1)] 42)):=(Zr _ _).alloc _;have Y:Qa Ze ((w.alloc (.cells Q9 26)).alloc (.cells #[.int .u64 na,.int .i64 (-1)] 42)) (((w.alloc (.cells Q9 26)).alloc (.cells #[.int .u64 na,.int .i64 (-1)] 42)).alloc (.cells #[.int .u64 bi,.int .u64 bt,.slice (some ⟨g,0,none⟩) n M] 44)):=(Zr _ _).alloc _;have aj:=Zh ((u2.trans Y (fun _ _ f=>f)).keep av (fun f=>f));have ak:=Zh (Y.keep ad (fun f=>f));have U:=Zh ae;have aa:=Zh ((u1.trans u2 (fun _ _ f=>f)).trans Y (fun _ _ f=>f));clear av ad ae aw ax u1 u2 Y;go_upto_region 1 with fail
  change Code.wp _ _ _ _ (((w.alloc (.cells Q9 26)).alloc (.cells #[.int .u64 na,.int .i64 (-1)] 42)).alloc (.cells #[.int .u64 bi,.int .u64 bt,.slice (some ⟨g,0,none⟩) n M] 44));generalize ((w.alloc (.cells Q9 26)).alloc (.cells #[.int .u64 na,.int .i64 (-1)] 42)).alloc (.cells #[.int .u64 bi,.int .u64 bt,.slice (some ⟨g,0,none⟩) n M] 44)=w3 at*
  generalize hbb:w.heap.size=b at*
  have a6:=Zh hbb;clear hbb;have af:w3.cell? ⟨b+1+1,0,none⟩=some (.int .u64 bi):=Qb U.out 0;have ay:w3.cell? ⟨b+1+1,1,none⟩=some (.int .u64 bt):=Qb U.out 1;have az:w3.cell? ⟨b+1+1,2,none⟩=some (.slice (some ⟨g,0,none⟩) n M):=Qb U.out 2;go_wp2_with fail;refine (ai.out _ aa.out).mono ?_
  rintro e J ⟨a7,bn,bp,a8,bo,rfl,ac,au,W⟩;have al:=Zh (aa.out.trans W (fun _ _ f=>f));have aF:=Zh ac;have aJ:=Zh au;have D:=W.keep aj.out (fun f=>f);have E:=W.keep ak.out (fun f=>f);have I:=W.keep U.out (fun f=>f);have aK:=Zh D;have aL:=Zh E;have aM:=Zh I;have aA:J.cell? ⟨b,2,none⟩=some (.int .i64 4):=Qb D 2;have aB:J.cell? ⟨b,3,none⟩=some (.int .i64 1):=Qb D 3;have ab:J.cell? ⟨b+1,0,none⟩=some (.int .u64 na):=Qb E 0;have ar:J.cell? ⟨b+1,1,none⟩=some (.int .i64 (-1)):=Qb E 1;have af:J.cell? ⟨b+1+1,0,none⟩=some (.int .u64 bi):=Qb I 0;have ay:J.cell? ⟨b+1+1,1,none⟩=some (.int .u64 bt):=Qb I 1;have az:J.cell? ⟨b+1+1,2,none⟩=some (.slice (some ⟨g,0,none⟩) n M):=Qb I 2;have aI:=Zh (last_any ac);clear ac au W D E I ai aj ak U;have aR: ¬(1099511627776:Int)< (na:Int):=by omega
  have aS: ¬(1099511627776:Int)< (bi:Int):=by omega
  have aT:(0:Int)< (bi:Int):=by omega
  have a9:decide ((1099511627776:Int)< (na:Int))=false:=decide_eq_false aR;have ba:decide ((1099511627776:Int)< (bi:Int))=false:=decide_eq_false aS;have bb:decide ((0:Int)< (bi:Int))=true:=decide_eq_true aT;go_wp2_with fail;refine (a2.out _).mono ?_
  rintro e w' ⟨rfl,rfl⟩;go_wp2_with fail;refine (aY.out _ al.out).mono ?_
  rintro e w5 ⟨rfl,N⟩;have aN:=Zh (al.out.trans N (fun _ _ f=>f));have ag:=Zh (aF.out.Qc N);have ah:=Zh (last_any ag.out);have D:=N.keep aK.out (fun f=>f);have E:=N.keep aL.out (fun f=>f);have I:=N.keep aM.out (fun f=>f);have an:=Zh D;have ao:=Zh E;have ap:=Zh I;clear aA aB ab ar af ay az N D E I aI;go_wp2_with fail;refine ah.out.mono ?_
  rintro e w6 ⟨rfl,O⟩;have am:=Zh (aN.out.trans O (fun _ _ f=>f));have aG:=Zh (ag.out.Qc O);have aP:=Zh (O.keep an.out (fun f=>f));have aq:=Zh (O.keep ao.out (fun f=>f));have aQ:=Zh (O.keep ap.out (fun f=>f));have ab:w6.cell? ⟨b+1,0,none⟩=some (.int .u64 na):=Qb aq.out 0;clear O ah an ao ap;have bg:lastOf bi l<=20000:=Z;have aU: ¬(1099511627776:Int)< ((lastOf bi l:Nat):Int):=by omega
  have bc:decide ((1099511627776:Int)< ((lastOf bi l:Nat):Int))=false:=decide_eq_false aU;have aV: ¬(na:Int)< ((YtbleblbfadeciaaGreatDoor.lastT bt l:Nat):Int):=by have:=a0.out;omega
  have bd:decide ((na:Int)< ((YtbleblbfadeciaaGreatDoor.lastT bt l:Nat):Int))=false:=decide_eq_false aV;generalize lastOf bi l=lo at*
  generalize YtbleblbfadeciaaGreatDoor.lastT bt l=lt at*
  go_wp2_with fail;refine (aC.out _ am.out).mono ?_
  rintro e w7 ⟨rfl,Q⟩;have aO:=Zh (am.out.trans Q (fun _ _ f=>f));have aH:=Zh (aG.out.Qc Q);have D:=Q.keep aP.out (fun f=>f);have E:=Q.keep aq.out (fun f=>f);have I:=Q.keep aQ.out (fun f=>f);have aA:w7.cell? ⟨b,2,none⟩=some (.int .i64 4):=Qb D 2;have aB:w7.cell? ⟨b,3,none⟩=some (.int .i64 1):=Qb D 3;have ab:w7.cell? ⟨b+1,0,none⟩=some (.int .u64 na):=Qb E 0;have ar:w7.cell? ⟨b+1,1,none⟩=some (.int .i64 (-1)):=Qb E 1;have af:w7.cell? ⟨b+1+1,0,none⟩=some (.int .u64 bi):=Qb I 0;clear Q D E I aC;have bh:= @run_makeMap Tryz.prog;go_wp2_with fail;go_ret2;exact QhR aO.out aH.out (fun i Z=>Zt aa.out.size (aJ.out i Z)) (vote:=none) Z
 |
  some v=>
  have aX:Qd (some v)=(v:Int):=rfl;rw[aX];have bm:=bk v rfl;have a5:=Zh (fun w'=>Qc2 v bm w');have bq: ¬(v:Int)= -1:=by omega
  have br:((v:Int) != -1)=true:=by simp
  go_enter Tryz.func36,Tryz.ntmps36;have av:=Qf (w:=w) (.cells Q9 26);have aw:(w.alloc (.cells Q9 26)).heap.size =w.heap.size+1:=by simp
  have ad:=Qf (w:=w.alloc (.cells Q9 26)) (.cells #[.int .u64 na,.int .i64 (v:Int)] 42);have ax:((w.alloc (.cells Q9 26)).alloc (.cells #[.int .u64 na,.int .i64 (v:Int)] 42)).heap.size =w.heap.size+1+1:=by simp
  have ae:=Qf (w:=(w.alloc (.cells Q9 26)).alloc (.cells #[.int .u64 na,.int .i64 (v:Int)] 42)) (.cells #[.int .u64 bi,.int .u64 bt,.slice (some ⟨g,0,none⟩) n M] 44);rw[aw] at ad;rw[ax] at ae;have u1:Qa Ze w (w.alloc (.cells Q9 26)):=(Zr _ w).alloc _;have u2:Qa Ze (w.alloc (.cells Q9 26)) ((w.alloc (.cells Q9 26)).alloc (.cells #[.int .u64 na,.int .i64 (v:Int)] 42)):=(Zr _ _).alloc _;have Y:Qa Ze ((w.alloc (.cells Q9 26)).alloc (.cells #[.int .u64 na,.int .i64 (v:Int)] 42)) (((w.alloc (.cells Q9 26)).alloc (.cells #[.int .u64 na,.int .i64 (v:Int)] 42)).alloc (.cells #[.int .u64 bi,.int .u64 bt,.slice (some ⟨g,0,none⟩) n M] 44)):=(Zr _ _).alloc _;have aj:=Zh ((u2.trans Y (fun _ _ f=>f)).keep av (fun f=>f));have ak:=Zh (Y.keep ad (fun f=>f));have U:=Zh ae;have aa:=Zh ((u1.trans u2 (fun _ _ f=>f)).trans Y (fun _ _ f=>f));clear av ad ae aw ax u1 u2 Y;go_upto_region 1 with fail
  change Code.wp _ _ _ _ (((w.alloc (.cells Q9 26)).alloc (.cells #[.int .u64 na,.int .i64 (v:Int)] 42)).alloc (.cells #[.int .u64 bi,.int .u64 bt,.slice (some ⟨g,0,none⟩) n M] 44));generalize ((w.alloc (.cells Q9 26)).alloc (.cells #[.int .u64 na,.int .i64 (v:Int)] 42)).alloc (.cells #[.int .u64 bi,.int .u64 bt,.slice (some ⟨g,0,none⟩) n M] 44)=w3 at*
  generalize hbb:w.heap.size=b at*
  have a6:=Zh hbb;clear hbb;have af:w3.cell? ⟨b+1+1,0,none⟩=some (.int .u64 bi):=Qb U.out 0;have ay:w3.cell? ⟨b+1+1,1,none⟩=some (.int .u64 bt):=Qb U.out 1;have az:w3.cell? ⟨b+1+1,2,none⟩=some (.slice (some ⟨g,0,none⟩) n M):=Qb U.out 2;go_wp2_with fail;refine (ai.out _ aa.out).mono ?_
  rintro e J ⟨a7,bn,bp,a8,bo,rfl,ac,au,W⟩;have al:=Zh (aa.out.trans W (fun _ _ f=>f));have aF:=Zh ac;have aJ:=Zh au;have D:=W.keep aj.out (fun f=>f);have E:=W.keep ak.out (fun f=>f);have I:=W.keep U.out (fun f=>f);have aK:=Zh D;have aL:=Zh E;have aM:=Zh I;have aA:J.cell? ⟨b,2,none⟩=some (.int .i64 4):=Qb D 2;have aB:J.cell? ⟨b,3,none⟩=some (.int .i64 1):=Qb D 3;have ab:J.cell? ⟨b+1,0,none⟩=some (.int .u64 na):=Qb E 0;have ar:J.cell? ⟨b+1,1,none⟩=some (.int .i64 (v:Int)):=Qb E 1;have af:J.cell? ⟨b+1+1,0,none⟩=some (.int .u64 bi):=Qb I 0;have ay:J.cell? ⟨b+1+1,1,none⟩=some (.int .u64 bt):=Qb I 1;have az:J.cell? ⟨b+1+1,2,none⟩=some (.slice (some ⟨g,0,none⟩) n M):=Qb I 2;have aI:=Zh (last_any ac);clear ac au W D E I ai aj ak U;have aR: ¬(1099511627776:Int)< (na:Int):=by omega
  have aS: ¬(1099511627776:Int)< (bi:Int):=by omega
  have aT:(0:Int)< (bi:Int):=by omega
  have a9:decide ((1099511627776:Int)< (na:Int))=false:=decide_eq_false aR;have ba:decide ((1099511627776:Int)< (bi:Int))=false:=decide_eq_false aS;have bb:decide ((0:Int)< (bi:Int))=true:=decide_eq_true aT;go_wp2_with fail;refine (a2.out _).mono ?_
  rintro e w' ⟨rfl,rfl⟩;go_wp2_with fail;refine (a5.out _).mono ?_
  rintro e w' ⟨rfl,rfl⟩;go_wp2_with fail;refine (aY.out _ al.out).mono ?_
  rintro e w5 ⟨rfl,N⟩;have aN:=Zh (al.out.trans N (fun _ _ f=>f));have ag:=Zh (aF.out.Qc N);have ah:=Zh (last_any ag.out);have D:=N.keep aK.out (fun f=>f);have E:=N.keep aL.out (fun f=>f);have I:=N.keep aM.out (fun f=>f);have an:=Zh D;have ao:=Zh E;have ap:=Zh I;clear aA aB ab ar af ay az N D E I aI;go_wp2_with fail;refine ah.out.mono ?_
  rintro e w6 ⟨rfl,O⟩;have am:=Zh (aN.out.trans O (fun _ _ f=>f));have aG:=Zh (ag.out.Qc O);have aP:=Zh (O.keep an.out (fun f=>f));have aq:=Zh (O.keep ao.out (fun f=>f));have aQ:=Zh (O.keep ap.out (fun f=>f));have ab:w6.cell? ⟨b+1,0,none⟩=some (.int .u64 na):=Qb aq.out 0;clear O ah an ao ap;have bg:lastOf bi l<=20000:=Z;have aU: ¬(1099511627776:Int)< ((lastOf bi l:Nat):Int):=by omega
  have bc:decide ((1099511627776:Int)< ((lastOf bi l:Nat):Int))=false:=decide_eq_false aU;have aV: ¬(na:Int)< ((YtbleblbfadeciaaGreatDoor.lastT bt l:Nat):Int):=by have:=a0.out;omega
  have bd:decide ((na:Int)< ((YtbleblbfadeciaaGreatDoor.lastT bt l:Nat):Int))=false:=decide_eq_false aV;generalize lastOf bi l=lo at*
  generalize YtbleblbfadeciaaGreatDoor.lastT bt l=lt at*
  go_wp2_with fail;refine (aC.out _ am.out).mono ?_
  rintro e w7 ⟨rfl,Q⟩;have aO:=Zh (am.out.trans Q (fun _ _ f=>f));have aH:=Zh (aG.out.Qc Q);have D:=Q.keep aP.out (fun f=>f);have E:=Q.keep aq.out (fun f=>f);have I:=Q.keep aQ.out (fun f=>f);have aA:w7.cell? ⟨b,2,none⟩=some (.int .i64 4):=Qb D 2;have aB:w7.cell? ⟨b,3,none⟩=some (.int .i64 1):=Qb D 3;have ab:w7.cell? ⟨b+1,0,none⟩=some (.int .u64 na):=Qb E 0;have ar:w7.cell? ⟨b+1,1,none⟩=some (.int .i64 (v:Int)):=Qb E 1;have af:w7.cell? ⟨b+1+1,0,none⟩=some (.int .u64 bi):=Qb I 0;clear Q D E I aC;have bh:= @run_makeMap Tryz.prog;go_wp2_with fail;go_ret2;exact QhR aO.out aH.out (fun i Z=>Zt aa.out.size (aJ.out i Z)) (vote:=(some v)) Z
end
section
open Go.RowKit Go.Acre
attribute [local go_sem ↓] LcG ScG
attribute [local go_sem] Sc1 Sc2 Sc3 Lc2 Lc3
theorem Qgz(a b:Int)(v:Value)(w:World):(Instr.field 44 (.agg #[.int .u64 a,.int .u64 b,v]) 0).run Tryz.prog w= .ok (.int .u64 a) w:=by kernel_rfl
theorem QlP(a b:Int)(w:World):(Instr.field 42 (.agg #[.int .u64 a,.int .i64 b]) 0).run Tryz.prog w= .ok (.int .u64 a) w:=by kernel_rfl
def QbZ(t v:Int):Array Value:= #[.int .u64 t,.int .i64 v,.int .u64 0,.slice none 0 0,.bool false,.int .u64 0,.int .u64 0,.slice none 0 0,.slice none 0 0]
theorem Qkw(t v:Int):Tryz.prog.built 57 [(0,.agg #[.int .u64 t,.int .i64 v])]=some (QbZ t v):=by kernel_rfl
def QfF(w:World)(e:Ending)(w':World):Prop:= ∃R,e= .returned (.tuple #[.int .u64 0,.agg R,.int .i64 11])/\R.size=9/\R.all (·.oneCell')=true/\Qa Ze w w'
theorem QjQ(h:Q2 w S p c .nilFunc)(ak:c.role≠2)(s:Nat):
  Calls Tryz.prog 14 #[.pointer (some ⟨p,0,none⟩),.agg (Xp s)] w (QfF w):=by
 have H:=Zh h;clear h;obtain⟨C,U⟩: ∃C,C=Xp s:=⟨_,rfl⟩
 rw[<-U];clear U;go_enter Tryz.func14,Tryz.ntmps14;go_upto_block 0 with fail
 have Z:(w.alloc (.cells C 70)).heap.size =w.heap.size+1:=by simp
 have O:=Qf (w:=w.alloc (.cells C 70)) (.cells Xh 57);rw[Z] at O;have u1:Qa Ze w (w.alloc (.cells C 70)):=(Zr _ w).alloc _;have u2:Qa Ze (w.alloc (.cells C 70)) ((w.alloc (.cells C 70)).alloc (.cells Xh 57)):=(Zr _ _).alloc _;have M:=u1.trans u2 (fun _ _ f=>f);change Code.wp _ _ _ _ ((w.alloc (.cells C 70)).alloc (.cells Xh 57));clear u1 u2 Z;generalize (w.alloc (.cells C 70)).alloc (.cells Xh 57)=w2 at*
 generalize hbb:w.heap.size=b at*
 have aj:=Zh hbb;have ai:=Zh M;have Q:=Zh O;have I:=Zh (H.out.Qc M);have ac:Hid (Calls Tryz.prog 40 #[.pointer (some ⟨p,0,none⟩)] w2 (Is (.bool false) w2)):=by
  obtain⟨_,_,_,_,_,_,D⟩:=I.out;exact Zh (K4 D)
 have ap:w2.cell? ⟨p,7,none⟩=some (.int .i64 c.role):=by
  obtain⟨_,_,_,_,_,_,D⟩:=I.out;exact Qb D.row 7
 have an:w2.drew.cell? ⟨p,3,none⟩=some (.int .u64 c.term):=by
  obtain⟨_,_,_,_,_,_,D⟩:=I.out;exact Qb (w:=w2) D.row 3
 have ao:w2.drew.cell? ⟨p,4,none⟩=some (.int .i64 (Qd c.vote)):=by
  obtain⟨_,_,_,_,_,_,D⟩:=I.out;exact Qb (w:=w2) D.row 4
 have ag: ¬(c.role:Int)=2:=by omega
 have ah:((c.role:Int)==2)=false:=beq_eq_false_iff_ne.2 ag;have al:((c.role:Int) != 2)=true:=by rw[bne,ah];rfl
 have W:=Qkw (c.term:Nat) (Qd c.vote);have E:(QbZ (c.term:Nat) (Qd c.vote)).size =9:=rfl;have J:(QbZ (c.term:Nat) (Qd c.vote)).all (·.oneCell')=true:=by
  simp[QbZ,Value.oneCell']
 obtain⟨R,N⟩: ∃R,R=QbZ (c.term:Nat) (Qd c.vote):=⟨_,rfl⟩
 rw[<-N] at W E J;have aa:(StC ⟨b+1,0,none⟩ R.toList).run Tryz.prog w2.drew= .ok () (w2.drew.setRow (b+1) R):=Qa3 (show w2.drew.heap[b+1]? =_ from Q.out) (by rw[E];rfl) J;have af:Hid ((StC ⟨b+1,0,none⟩ R.toList).run Tryz.prog w2.drew= .ok () (w2.drew.setRow (b+1) R)):=Zh aa;have am:(StC ⟨b+1,0,none⟩ [.int .u64 c.term,.int .i64 (Qd c.vote),.int .u64 0,.slice none 0 0,.bool false,.int .u64 0,.int .u64 0,.slice none 0 0,.slice none 0 0]).run Tryz.prog w2.drew= .ok () (w2.drew.setRow (b+1) R):=by
  have:=af.out;rw[N] at this ⊢;exact this
 clear aa W N;have Y:=Xr w2.drew (b+1) R (show w2.drew.heap[b+1]? =_ from Q.out);have ae:=Zh Y;have ab:Hid (QfF w (.returned (.tuple #[.int .u64 0,.agg R,.int .i64 11])) (w2.drew.setRow (b+1) R)):=Zh ⟨R,rfl,E,J,QL M.drew (g:=b+1) (fun h=>by omega) R⟩;have ad:=Zh E;clear hbb M O Y E J;go_wp2_with fail;refine ac.out.mono ?_
 rintro e w' ⟨rfl,rfl⟩;go_wp2_with fail;go_region_with fail
 all_goals
  go_wp2_with fail;refine bodyPost_ret (v:=.tuple #[.int .u64 0,.agg R,.int .i64 11]) ?_ rfl ab.out
  refine (QeY (fn:=Tryz.f14) (t0:=4) (p:=5) (u:=6) (ty:=57) ?_ _ _ (b+1) 57 R (0,0) _ ?_ ae.out Tryz.underlying57 rfl (X2 ad.out))<;>rfl
end
end Go.Proofs.YtbleblbfadeciaaGreatDoor
