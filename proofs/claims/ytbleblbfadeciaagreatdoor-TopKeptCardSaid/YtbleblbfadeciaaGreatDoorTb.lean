/- For TopKept. -/
import Derived.Test.YtbleblbfadeciaaGreatDoorLc
import Derived.Test.YtbleblbfadeciaaGreatDoorSj
set_option linter.all false
set_option maxHeartbeats 16000000
set_option maxRecDepth 10000
namespace Go.Proofs.YtbleblbfadeciaaGreatDoor
variable{A:Array Value}{c c':Core}{b cap g i n na nb nc p q:Nat}{S Sa T U:Nat->Prop}{O:Option Addr}{o o':Ou}{Y Z mv v:Value}{w w' w0:World}
section
open Go.RowKit Go.Acre
attribute [local go_sem ↓] LcG ScG
attribute [local go_sem] Sc1 Sc2 Sc3 Lc2 Lc3
theorem Kv(P:Program)(w:World)(a:Addr)(m:Mode)(fn:Fn)(D cap:Array Value):(store a (.func fn D cap) m).run P w=stored P w a (.func fn D cap) m:=run_store P w a _ m rfl
theorem Kw(P:Program)(w:World)(a:Addr)(m:Mode):(store a .nilFunc m).run P w=stored P w a .nilFunc m:=run_store P w a _ m rfl
attribute [local go_sem] Kv Kw
structure Zc(w:World)(S:Nat->Prop)(fl:Nat)(c:Core)(o:Ou)(v:Value):Prop where
 ex: ∃ev bv sv L,v= .agg #[.int .u64 c.term,.int .i64 (Qd c.vote),.int .u64 o.frm,ev,.bool o.rest.isSome,.int .u64 ((QE o).1:Nat),.int .u64 ((QE o).2:Nat),bv,sv]/\
  o.sends=(L.map fun (x:XI)=>(x.1,x.2.1))/\w.ownsRow 0 112 59 sv L.length (Zi L)/\L.length<=20000/\(∀x∈L,XA w S x)/\((o.rest=none/\bv= .slice none 0 0)\/(o.rest≠none/\ ∃g,QD w bv c.n g/\g<w.heap.size/\ ¬S g))/\
  (∀g,sv.ownBlock=some g->g<w.heap.size/\ ¬S g)/\(∃a n cap,ev= .slice a n cap/\QA w ev (o.frm - 1) (if o.frm=0 then [] else Xs c.bi c.l o.frm 2147483648))/\(∀g,ev.ownBlock=some g->g<w.heap.size/\ ¬S g)/\((∀x∈L,∀g,x.2.2.ownBlock=some g->fl<=g)/\(∀g,sv.ownBlock=some g->fl<=g)/\(∀g,bv.ownBlock=some g->fl<=g)/\(∀g,ev.ownBlock=some g->fl<=g))
theorem Zc.low{fl:Nat}(h:Zc w S fl c o v)(E:na<=fl):Zc w S na c o v:=by
 obtain⟨J,I,ag,L,M,O,Q,U,W,Y,Z,aa,N,ac,ad,ae,af⟩:=h;exact⟨J,I,ag,L,M,O,Q,U,W,Y,Z,aa,N,fun x ab g D=>Zt E (ac x ab g D),fun g D=>Zt E (ad g D),fun g D=>Zt E (ae g D),fun g D=>Zt E (af g D)⟩
theorem Zc.upd{fl:Nat}(h:Zc w S fl c o v)(I:Qa T w w')(J: ∀g,T g->S g):Zc w' S fl c o v:=by
 obtain⟨U,Q,ai,L,W,Y,Z,aa,ab,ac,N,⟨a,n,cap,ad,ae⟩,M,af⟩:=h;refine⟨U,Q,ai,L,W,Y,Q3 Z I (fun g D E=>(N g D).2 (J g E)),aa,fun x hx=>(ab x hx).upd I (fun g D E=>D (J g E)),?_,fun g D=>⟨Zu (N g D).1 I.size,(N g D).2⟩,⟨a,n,cap,ad,Qr.X3 ae I (fun g D E=>(M g D).2 (J g E))⟩,fun g D=>⟨Zu (M g D).1 I.size,(M g D).2⟩,af⟩;rcases ac with h|⟨h,g,ag,ah,O⟩
 ·exact .inl h
 ·exact .inr ⟨h,g,ag.upd I (fun E=>O (J g E)),Zu ah I.size,O⟩
def Wn(S:Nat->Prop)(p:Nat)(c':Core)(o':Ou)(w:World)(e:Ending)(w':World):Prop:=
 ∃v S',e= .returned v/\Q2 w' S' p c' .nilFunc /\(∀i,S' i->S i\/w.heap.size<=i)/\Qa S w w'/\Zc w' S' w.heap.size c' o' v
theorem X2(h:A.size=9):(Tryz.prog.info? 57).map (·.size)=some A.size:=by rw[h];kernel_rfl
theorem XD.begin(h:XD w U p c Y na nb nc Sa mv Z)(M:Fit c)(J:Qa (fun i=>i=p) w w')
  (O:w'.heap[p]? =some (.cells (QK c na nb (QM q)) 126 (0,0))) (I:w'.heap[q]? =some (.cells (outA Ou.none (.slice none 0 0) (.slice none 0 0)) 57 (0,0))) (N: ¬U q):St w' (fun i=>U i\/i=q) p q c Ou.none:=by
 refine⟨⟨U,.slice none 0 0,.slice none 0 0,[],⟨na,nb,nc,Sa,mv,Z,h.cells J O rfl rfl rfl rfl rfl⟩,⟨I,rfl,World.ownsRow_nil _ _ _ _,fun x E=>(by cases E),.inl ⟨rfl,rfl⟩,.inr rfl,fun g hg=>(by cases hg),Zz _,fun x E=>(by cases E),fun g hg=>(by cases hg),fun g hg=>(by cases hg)⟩,fun i D=>⟨.inl D,fun e=>N (e▸D),fun e=>(by cases e)⟩,?_⟩,M⟩;rintro i (D|rfl)
 ·exact Zu (h.lt i D) J.size
 ·exact Ql I
theorem Qjk{o:Nat}:(outA Ou.none (.slice none 0 0) (.slice none 0 0))[o]? ≠some (.int .u64 ((i+1:Nat):Int)):=by
 intro h;have D:=Array.mem_of_getElem? h;simp[outA,Ou.none,QE] at D;omega
theorem XA.past{x:XI}(h:XA w S x)(ab:w.heap[b]? =some (.cells (outA Ou.none (.slice none 0 0) (.slice none 0 0)) 57 (0,0)))(O:Qa T w w')(Z: ∀g,T g->g=b\/S g):XA w' S x:=by
 obtain⟨D,U,W,Y,J⟩:=h;refine⟨?_,U,W,Y,fun g E=>⟨Zu (J g E).1 O.size,(J g E).2⟩⟩;obtain⟨d,m,I⟩:=x;by_cases hes:m.es=[]
 ·have D:QA w I m.idx m.es:=D
  rw[hes] at D;obtain⟨a,cap,rfl,af,ag⟩:=D.slice;show QA w' _ m.idx m.es;rw[hes];obtain⟨_,ak,c',Q,ah,ai,aj,_⟩:=D;simp only[Value.slice.injEq] at Q;obtain⟨rfl,_,rfl⟩:=Q;exact⟨rfl,a,cap,rfl,ah,ai,aj,fun ac=>absurd rfl ac⟩
 ·refine Qr.X3 D O (fun g E ae=> ?_)
  rcases Z g ae with rfl|ad
  ·have D:QA w I m.idx m.es:=D
   obtain⟨a,cap,M,af,ag⟩:=D.slice;have M:I= .slice a m.es.length cap:=M;subst M;obtain⟨g',o',aa,N,_⟩:=D.cells (k:=0) (List.length_pos_iff.2 hes);subst aa;simp only[Value.ownBlock,Option.some.injEq] at E;subst E;rw[Qb ab] at N;exact Qjk (i:=m.idx+0) N
  ·exact (J g E).2 ad
theorem Qc6{w7:World}{E:List XI}(aj:o'.sends=E.map fun x=>(x.1,x.2.1))(O:w0.ownsRow 0 112 59 Z E.length (Zi E))(ah:E.length<=20000)(af: ∀x∈E,XA w0 U x)(ag:(o'.rest=none/\Y= .slice none 0 0)\/(o'.rest≠none/\ ∃g,QD w0 Y c'.n g/\g<w0.heap.size/\ ¬U g))(ac:U q)(ai: ∀g,Z.ownBlock=some g->g≠q)(Q: ∀i,Sa i->U i/\i≠q/\Z.ownBlock≠some i)
  (W:w0.heap[b]? =some (.cells (outA Ou.none (.slice none 0 0) (.slice none 0 0)) 57 (0,0))) (M:Qa (fun i=>i=b\/i=q) w0 w7) {a:Option Addr}
  (al:QA w7 (.slice a n cap) (o'.frm - 1) (if o'.frm=0 then [] else Xs c'.bi c'.l o'.frm 2147483648)) (am: ∀g,(Value.slice a n cap).ownBlock =some g->g<w7.heap.size/\ ¬Sa g) {fl:Nat} (aa:(∀x∈E,∀g,x.2.2.ownBlock=some g->fl<=g)/\(∀g,Z.ownBlock=some g->fl<=g)/\(∀g,Y.ownBlock=some g->fl<=g)) (an: ∀g,(Value.slice a n cap).ownBlock =some g->fl<=g):
  Zc w7 Sa fl c' o' (.agg #[.int .u64 c'.term,.int .i64 (Qd c'.vote),.int .u64 o'.frm,.slice a n cap,.bool o'.rest.isSome,.int .u64 ((QE o').1:Nat),.int .u64 ((QE o').2:Nat),Y,Z]):=by
 have ak: ∀g,(g=b\/g=q)->g=b\/U g:=fun g h=>by
  rcases h with h|h
  ·exact .inl h
  ·exact .inr (h▸ac)
 have ao: ∀g,Z.ownBlock=some g->g≠b:=by
  rintro g D rfl;rcases O.2 with ⟨h,_⟩|⟨ar,cap2,cur,h,_,I,_⟩
  ·rw[h] at D
   cases D
  ·rw[h] at D
   simp only[Value.ownBlock,Option.some.injEq] at D;subst D;rw[W] at I;simp at I
 refine⟨⟨_,Y,Z,E,rfl,aj,Q3 O M (fun g D h=> ?_),ah,fun x hx=> ?_,?_,fun g D=>⟨Zu (O.lt g D).2 M.size,fun J=>(Q g J).2.2 D⟩,⟨a,n,cap,rfl,al⟩,am,aa.1,aa.2.1,aa.2.2,an⟩⟩
 ·rcases h with h|h
  ·exact ao g D h
  ·exact ai g D h
 ·have:=(af x hx).past W M ak
  exact this.wide (fun g _ J=>(Q g J).1)
 ·rcases ag with N|⟨N,g,I,ae,ab⟩
  ·exact .inl N
  ·refine .inr ⟨N,g,I.upd M (fun h=> ?_),Zu ae M.size,fun J=>ab (Q g J).1⟩
   rcases h with rfl|rfl
   ·obtain⟨aq,_,au,_,_,_,ap⟩:=I
    have ad:=ap 0 (by omega);rw[Qb W] at ad;simp[outA] at ad
   ·exact ab ac
theorem Qb5(t:Int)(v:Int)(f:Int)(a:Option Addr)(n cap:Nat)(b:Bool)(x y:Int)(D J:Value)(E:D.oneCell'=true)(I:J.oneCell'=true):(#[.int .u64 t,.int .i64 v,.int .u64 f,.slice a n cap,.bool b,.int .u64 x,.int .u64 y,D,J]:Array Value).all (·.oneCell')=true:=by
 simp[Value.oneCell'] at E I ⊢;exact⟨E,I⟩
theorem QbH(h: ∃a n c,v= .slice a n c):v.oneCell'=true:=by
 obtain⟨a,n,c,rfl⟩:=h;rfl
def Qfr(cb db:Nat)(w:World)(S:Nat->Prop)(p:Nat)(c c':Core)(o':Ou):Prop:=
 ∀(w':World) (q:Nat),St w' (fun i=>S i\/i=q) p q c Ou.none->Qa (fun i=>i=p) w w'->w.heap.size<=q->Calls Tryz.prog 42 #[.pointer (some ⟨q,0,none⟩),.pointer (some ⟨cb,0,none⟩),.pointer (some ⟨db,0,none⟩)] w' (fun e w''=>e= .returned (.tuple #[])/\QB (fun i=>S i\/i=q) p q c' o' w' w'')
def Qfs(cb db mb:Nat)(w:World)(S:Nat->Prop)(p:Nat)(c c':Core)(o':Ou):Prop:=
 ∀(w':World) (q:Nat),St w' (fun i=>S i\/i=q) p q c Ou.none->Qa (fun i=>i=p) w w'->w.heap.size<=q->Calls Tryz.prog 45 #[.pointer (some ⟨q,0,none⟩),.pointer (some ⟨cb,0,none⟩),.pointer (some ⟨db,0,none⟩),.pointer (some ⟨mb,0,none⟩)] w' (fun e w''=>e= .returned (.tuple #[])/\QB (fun i=>S i\/i=q) p q c' o' w' w'')
theorem QiV(h:Q2 w S p c .nilFunc)(bg:Fit c)(ci:c'.n=c.n)(bU:o'.frm<=1000000):
  (∀ad db:Nat,Qfr ad db w S p c c' o'->Calls Tryz.prog 41 #[.pointer (some ⟨p,0,none⟩),.func (.func 42) #[] #[.pointer (some ⟨ad,0,none⟩),.pointer (some ⟨db,0,none⟩)]] w (Wn S p c' o' w))/\(∀ad db mb:Nat,Qfs ad db mb w S p c c' o'->Calls Tryz.prog 41 #[.pointer (some ⟨p,0,none⟩),.func (.func 45) #[] #[.pointer (some ⟨ad,0,none⟩),.pointer (some ⟨db,0,none⟩),.pointer (some ⟨mb,0,none⟩)]] w (Wn S p c' o' w)):=by
 refine⟨fun ad db aI=> ?_,fun ad db mb aI=> ?_⟩
 all_goals
  obtain⟨cl,co,cm,ca,mv,cb,W⟩:=h;have aO:=W.row;have aE:=Zh W;have aX:=Zh (Ql aO);have bG:=Zh bg;have bF:=Zh aI;clear W bg aI;go_enter Tryz.func41,Tryz.ntmps41;have bx:=heap_alloc2_old w (.cells (outA Ou.none (.slice none 0 0) (.slice none 0 0)) 57) (.cells (outA Ou.none (.slice none 0 0) (.slice none 0 0)) 57);have bz:=heap_alloc2_new w (.cells (outA Ou.none (.slice none 0 0) (.slice none 0 0)) 57) (.cells (outA Ou.none (.slice none 0 0) (.slice none 0 0)) 57);have aw:Qa Ze w ((w.alloc (.cells (outA Ou.none (.slice none 0 0) (.slice none 0 0)) 57)).alloc (.cells (outA Ou.none (.slice none 0 0) (.slice none 0 0)) 57)):=((Zr _ w).alloc _).alloc _;go_upto_region 2 with fail
  change Code.wp _ _ _ _ ((w.alloc (.cells (outA Ou.none (.slice none 0 0) (.slice none 0 0)) 57)).alloc (.cells (outA Ou.none (.slice none 0 0) (.slice none 0 0)) 57));generalize (w.alloc (.cells (outA Ou.none (.slice none 0 0) (.slice none 0 0)) 57)).alloc (.cells (outA Ou.none (.slice none 0 0) (.slice none 0 0)) 57)=w1 at*
  have bm: ¬p=w.heap.size:=by have:=aX.out;omega
  have aL: ¬p=w.heap.size+1:=by have:=aX.out;omega
  have a0:Hid (∀i,S i->i<w.heap.size):=Zh aE.out.lt;have bE:Hid (∃b0,w.heap.size=b0):=Zh ⟨_,rfl⟩;generalize hbb:w.heap.size=b at*
  have Y:=Zh hbb;clear hbb bE;have av:=aw.keep aO (fun f=>f);have bC:w1.cell? ⟨p,22,none⟩=some .nilFunc :=Qb av 22;have a4:=Qg av 22 none;have bo:=Qi (o:=22) av (QM (b+1));have al:Qa (fun i=>i=p) w1 (w1.setCell ⟨p,22,none⟩ (QM (b+1))):=(Zr (fun i=>i=p) w1).setCell (p:=⟨p,22,none⟩) (fun _=>rfl) _;have bn:=al.keep bz (fun e=>aL e.symm);have bq:=(aE.out.Qc aw).begin bG.out al bo bn (fun af=>by have:=a0.out _ af;omega);have aP:Qa (fun i=>i=p) w (w1.setCell ⟨p,22,none⟩ (QM (b+1))):=(aw.mono (fun _ _ f=>f.elim)).trans al (fun _ _ h=>h);have aA:=Zh (al.keep bx (fun e=>bm e.symm));have az:=Zh (bF.out _ _ bq aP (by have:=Y.out;omega));have aD:=Zh aP;clear av bo al bn bq aP bx bz aw aO;have bs:QM (b+1)= .func (.func 88) #[] #[.pointer (some ⟨b+1,0,none⟩)]:=rfl;rw[bs] at az aD aA;clear bs;go_upto_region 3 with fail
  generalize w1.setCell ⟨p,22,none⟩ (.func (.func 88) #[] #[.pointer (some ⟨b+1,0,none⟩)])=w2 at*
  go_wp2_with fail;refine Calls.mono az.out ?_
  rintro e E ⟨rfl,ah,⟨⟨ap,J,U,a1,⟨an,bD,bA,a2,bB,a3,aS⟩,aJ,a6,bj⟩,bh⟩,a5,aQ⟩;have ae:=aS.row;have bC:E.cell? ⟨p,22,none⟩=some (QM (b+1)):=Qb ae 22;have a4:=Qg ae 22 none;have b2:E.cell? ⟨p,5,none⟩=some (.pointer (some ⟨an,0,none⟩)):=Qb ae 5;have bZ:E.cell? ⟨p,3,none⟩=some (.int .u64 c'.term):=Qb ae 3;have b1:E.cell? ⟨p,4,none⟩=some (.int .i64 (Qd c'.vote)):=Qb ae 4;have aa:=aJ.row;have b3:E.cell? ⟨b+1,0,none⟩=some (.int .u64 0):=Qb aa 0;have b4:E.cell? ⟨b+1,1,none⟩=some (.int .i64 0):=Qb aa 1;have b5:E.cell? ⟨b+1,2,none⟩=some (.int .u64 o'.frm):=Qb aa 2;have b7:E.cell? ⟨b+1,3,none⟩=some (.slice none 0 0):=Qb aa 3;have bM:=Qg aa 0 none;have bN:=Qg aa 1 none;have bO:=Qg aa 3 none;have bc: ¬S b:=fun af=>by have:=a0.out b af;omega
  have a9:=aQ.keep aA.out (fun af=>by
   rcases af with h|h
   ·exact bc h
   ·omega)
  have aF:=Zh aS;have I:=Zh aJ;have ab:=Zh a6;have b9:=Zh bj;have b8:=Zh bh;have aY:=Zh a5;have bK:=Zh aQ;have aV:=Zh a9;have bI:=Zh ae;have bH:=Zh aa;clear aS aJ a6 bj bh a5 aQ a9 ae aa az;have be: ∃a n c,J= .slice a n c:=by
   rcases I.out.base with ⟨_,h⟩|⟨_,g,⟨bL,h,_⟩,_⟩
   ·exact⟨_,_,_,h⟩
   ·exact⟨_,_,_,h⟩
  have bu: ∃a n c,U= .slice a n c:=by
   rcases I.out.own.2 with ⟨h,_⟩|⟨g,bL,cur,h,_⟩
   ·exact⟨_,_,_,h⟩
   ·exact⟨_,_,_,h⟩
  have aW:=Zh (QbH be);have aZ:=Zh (QbH bu);clear be bu;go_upto_region 6 with fail
  have bW:ah p:=(ab.out p aF.out.sp).1;have cj:p≠b+1:=aL;have au:Qa (fun i=>i=p) E (E.setCell ⟨p,22,none⟩ .nilFunc):=(Zr (fun i=>i=p) E).setCell (p:=⟨p,22,none⟩) (fun _=>rfl) _;have bw:=aF.out.cells (c':=c') (sv':=.nilFunc) au (Qi (o:=22) bI.out .nilFunc) rfl rfl rfl rfl rfl;have aK:Qa (fun i=>i=b+1) (E.setCell ⟨p,22,none⟩ .nilFunc) (((E.setCell ⟨p,22,none⟩ .nilFunc).setCell ⟨b+1,0,none⟩ (.int .u64 (c'.term:Int))).setCell ⟨b+1,1,none⟩ (.int .i64 (Qd c'.vote))):=((Zr (fun i=>i=b+1) _).setCell (p:=⟨b+1,0,none⟩) (fun _=>rfl) _).setCell (p:=⟨b+1,1,none⟩) (fun _=>rfl) _;have am:=bw.upd aK (fun i M e=>(ab.out i M).2.1 e);have ag:Qa (fun i=>i=p\/i=b+1) E (((E.setCell ⟨p,22,none⟩ .nilFunc).setCell ⟨b+1,0,none⟩ (.int .u64 (c'.term:Int))).setCell ⟨b+1,1,none⟩ (.int .i64 (Qd c'.vote))):=(au.mono (fun i _ e=>.inl e)).trans (aK.mono (T:=fun i=>i=p\/i=b+1) (fun i _ e=>.inr e)) (fun _ _ h=>h);have aM:=Qi (o:=1) (Qi (o:=0) (au.keep bH.out (fun e=>aL e.symm)) (.int .u64 (c'.term:Int))) (.int .i64 (Qd c'.vote));have ar:=ag.keep aV.out (fun h=>by
   rcases h with h|h
   ·exact bm h.symm
   ·omega)
  have bV:Qag (((E.setCell ⟨p,22,none⟩ .nilFunc).setCell ⟨b+1,0,none⟩ (.int .u64 (c'.term:Int))).setCell ⟨b+1,1,none⟩ (.int .i64 (Qd c'.vote))) ah (b+1) c'.n o' J U a1\/True:=.inr trivial;clear bV;have a7: ∀i,(i=p\/i=b+1)->ah i:=fun i h=>by
   rcases h with rfl|rfl
   ·exact bW
   ·exact I.out.sq
  have bv:Qa S w (((E.setCell ⟨p,22,none⟩ .nilFunc).setCell ⟨b+1,0,none⟩ (.int .u64 (c'.term:Int))).setCell ⟨b+1,1,none⟩ (.int .i64 (Qd c'.vote))):=by
   have bp:=aE.out.sp;refine (((aD.out.mono (T:=S) (fun i _ e=>e▸bp)).trans bK.out (fun i M h=> ?_)).trans ag (fun i M h=> ?_))
   ·rcases h with h|h
    ·exact h
    ·have:=Y.out
     omega
   ·rcases h with rfl|h
    ·exact bp
    ·have:=Y.out
     omega
  have br: ∀i,ap i->S i\/w.heap.size<=i:=fun i M=>by
   rcases aY.out i (ab.out i M).1 with (h|h)|h
   ·exact .inl h
   ·have:=Y.out
    exact .inr (by omega)
   ·have:=aD.out.size
    exact .inr (by omega)
  have bk:=Q3 I.out.own ag (fun g D h=>by
   rcases h with rfl|h
   ·exact (ab.out g aF.out.sp).2.2 D
   ·exact (I.out.sb g D).2 h)
  have a8: ∀x∈a1,XA (((E.setCell ⟨p,22,none⟩ .nilFunc).setCell ⟨b+1,0,none⟩ (.int .u64 (c'.term:Int))).setCell ⟨b+1,1,none⟩ (.int .i64 (Qd c'.vote))) ah x:=fun x W=>(I.out.at_ x W).step ag a7 (fun _ _ h=>h)
  have bd:(o'.rest=none/\J= .slice none 0 0)\/(o'.rest≠none/\ ∃g,QD (((E.setCell ⟨p,22,none⟩ .nilFunc).setCell ⟨b+1,0,none⟩ (.int .u64 (c'.term:Int))).setCell ⟨b+1,1,none⟩ (.int .i64 (Qd c'.vote))) J c'.n g/\g< (((E.setCell ⟨p,22,none⟩ .nilFunc).setCell ⟨b+1,0,none⟩ (.int .u64 (c'.term:Int))).setCell ⟨b+1,1,none⟩ (.int .i64 (Qd c'.vote))).heap.size /\ ¬ah g):=by
   rcases I.out.base with h|⟨h,g,aT,aU,ay⟩
   ·exact .inl h
   ·exact .inr ⟨h,g,aT.upd ag (fun bY=>ay (a7 g bY)),Zu aU ag.size,ay⟩
  have cg:b<E.heap.size:=Ql aV.out;generalize ((E.setCell ⟨p,22,none⟩ .nilFunc).setCell ⟨b+1,0,none⟩ (.int .u64 (c'.term:Int))).setCell ⟨b+1,1,none⟩ (.int .i64 (Qd c'.vote))=w4 at*
  have aH: ∀i,ap i->i≠b:=fun i M e=>by
   subst e;rcases aY.out _ (ab.out _ M).1 with (h|h)|h
   ·exact bc h
   ·omega
   ·have:=Ql aA.out
    omega
  have b6:w4.cell? ⟨b+1,2,none⟩=some (.int .u64 (o'.frm:Int)):=Qb aM 2;clear bC a4 b2 bZ b1 b3 b4 b5 b7 bM bN bO bw au aK;by_cases hfz:o'.frm=0
  ·have bT: ¬(0:Int)< (o'.frm:Int):=by omega
   have bS:(o'.frm:Int)=0:=by omega
   rw[bS] at b6;have Z:(#[.int .u64 (c'.term:Int),.int .i64 (Qd c'.vote),.int .u64 (o'.frm:Int),.slice none 0 0,.bool o'.rest.isSome,.int .u64 ((QE o').1:Int),.int .u64 ((QE o').2:Int),J,U]:Array Value).size =9:=rfl;have aG:=Qb5 (c'.term:Int) (Qd c'.vote) (o'.frm:Int) none 0 0 o'.rest.isSome ((QE o').1:Int) ((QE o').2:Int) J U aW.out aZ.out;have aj:=Xr w4 b (#[.int .u64 (c'.term:Int),.int .i64 (Qd c'.vote),.int .u64 (o'.frm:Int),.slice none 0 0,.bool o'.rest.isSome,.int .u64 ((QE o').1:Int),.int .u64 ((QE o').2:Int),J,U]:Array Value) ar;have aN:w4.heap[b+1]? =some (.cells (#[.int .u64 (c'.term:Int),.int .i64 (Qd c'.vote),.int .u64 (o'.frm:Int),.slice none 0 0,.bool o'.rest.isSome,.int .u64 ((QE o').1:Int),.int .u64 ((QE o').2:Int),J,U]:Array Value) 57 (0,0)):=aM;have ai:=Qc6 I.out.sends bk I.out.few a8 bd I.out.sq (fun g D=>(I.out.sb g D).2) ab.out ar (w7:=w4.setRow b (#[.int .u64 (c'.term:Int),.int .i64 (Qd c'.vote),.int .u64 (o'.frm:Int),.slice none 0 0,.bool o'.rest.isSome,.int .u64 ((QE o').1:Int),.int .u64 ((QE o').2:Int),J,U]:Array Value)) (QL (Zr (fun i=>i=b\/i=b+1) w4) (g:=b) (fun _=>.inl rfl) _) (a:=none) (n:=0) (cap:=0) (by rw[if_pos hfz];exact Qr.nil _ 24) (fun g D=>(by cases D)) (fl:=b) ⟨fun x W g D=>by have:=I.out.new.1 x W g D;omega,fun g D=>by have:=I.out.new.2.1 g D;omega,fun g D=>by have:=I.out.new.2.2 g D;omega⟩ (fun g D=>by cases D)
   generalize (#[.int .u64 (c'.term:Int),.int .i64 (Qd c'.vote),.int .u64 (o'.frm:Int),.slice none 0 0,.bool o'.rest.isSome,.int .u64 ((QE o').1:Int),.int .u64 ((QE o').2:Int),J,U]:Array Value)=R at*
   have aC:=Zh aj;have aB:=Zh ai;clear aj ai;go_wp2_with (first|refine wpList_load_row rfl 57 _ rfl _ rfl _ _ _ _ aN Tryz.underlying57 rfl (X2 Z) ?_|refine wpList_store_row rfl 57 _ _ rfl _ _ rfl rfl _ _ ar (X2 Z) (by rw[Z];rfl) aG ?_);refine bodyPost_ret (v:=.agg R) ?_ rfl ⟨_,ap,rfl,⟨an,bD,bA,a2,bB,a3,am.upd (QL (Zr (fun i=>i=b) w4) (g:=b) (fun _=>rfl) R) (fun i M e=>aH i M e)⟩,br,QL bv (g:=b) (fun h=>by have:=Y.out;omega) R,aB.out.low (Nat.le_of_eq Y.out)⟩
   exact results_cell_row rfl _ _ _ _ _ _ _ rfl aC.out Tryz.underlying57 rfl (X2 Z)
  ·have bT:(0:Int)< (o'.frm:Int):=by omega
   have bJ:Hid (∀w',Qa Ze w4 w'->Calls Tryz.prog 87 #[.pointer (some ⟨an,0,none⟩),.int .u64 o'.frm,.int .i64 2147483648] w' (Qbc (o'.frm - 1) (Xs c'.bi c'.l o'.frm 2147483648) w')):=Zh (fun w' hu=>Qcz (am.Qc hu).log o'.frm 2147483648 bU (by decide));have cn:w4.cell? ⟨p,5,none⟩=some (.pointer (some ⟨an,0,none⟩)):=am.c5;have ao:=Zh aM;have ax:=(Zr Ze w4).drew;go_upto_region 7 with fail
   go_region_with (go_at_call 87;refine (bJ.out _ ax).mono ?_;rintro e w5 ⟨N,Q,O,rfl,bR,aq,aR⟩;have q35:w5.cell? ⟨b+1,3,none⟩=some (.slice none 0 0):=Qb ((ax.trans aR (fun _ _ f=>f)).keep ao.out (fun f=>f)) 3;have ce:=Qg ((ax.trans aR (fun _ _ f=>f)).keep ao.out (fun f=>f)) 3 none)
   all_goals
    have ac:=ax.trans aR (fun _ _ f=>f);have cf:w4.drew.heap.size=w4.heap.size:=rfl;have ba:=ac.keep ar (fun f=>f);have ak:Qa (fun i=>i=b\/i=b+1) w5 (w5.setCell ⟨b+1,3,none⟩ (.slice N Q O)):=(Zr (fun i=>i=b\/i=b+1) w5).setCell (p:=⟨b+1,3,none⟩) (fun _=>.inr rfl) _;have bX:=Qi (o:=3) (ac.keep ao.out (fun f=>f)) (.slice N Q O);have bb:(w5.setCell ⟨b+1,3,none⟩ (.slice N Q O)).heap[b]? =_:=((Zr (fun i=>i=b+1) w5).setCell (p:=⟨b+1,3,none⟩) (fun _=>rfl) (.slice N Q O)).keep ba (by omega);have ch:b+1<w4.heap.size:=Ql ao.out;have Z:(#[.int .u64 (c'.term:Int),.int .i64 (Qd c'.vote),.int .u64 (o'.frm:Int),.slice N Q O,.bool o'.rest.isSome,.int .u64 ((QE o').1:Int),.int .u64 ((QE o').2:Int),J,U]:Array Value).size =9:=rfl;have aG:=Qb5 (c'.term:Int) (Qd c'.vote) (o'.frm:Int) N Q O o'.rest.isSome ((QE o').1:Int) ((QE o').2:Int) J U aW.out aZ.out;have aj:=Xr (w5.setCell ⟨b+1,3,none⟩ (.slice N Q O)) b (#[.int .u64 (c'.term:Int),.int .i64 (Qd c'.vote),.int .u64 (o'.frm:Int),.slice N Q O,.bool o'.rest.isSome,.int .u64 ((QE o').1:Int),.int .u64 ((QE o').2:Int),J,U]:Array Value) bb;have aN:(w5.setCell ⟨b+1,3,none⟩ (.slice N Q O)).heap[b+1]? =some (.cells (#[.int .u64 (c'.term:Int),.int .i64 (Qd c'.vote),.int .u64 (o'.frm:Int),.slice N Q O,.bool o'.rest.isSome,.int .u64 ((QE o').1:Int),.int .u64 ((QE o').2:Int),J,U]:Array Value) 57 (0,0)):=bX
    have ai:=Qc6 I.out.sends (Q3 bk ac (fun _ _ f=>f)) I.out.few (fun x W=>(a8 x W).upd ac (fun _ _ f=>f)) (by rcases bd with h|⟨h,g,aT,aU,ay⟩;exact .inl h;exact .inr ⟨h,g,aT.upd ac (fun f=>f),Zu aU ac.size,ay⟩) I.out.sq (fun g D=>(I.out.sb g D).2) ab.out ba (w7:=(w5.setCell ⟨b+1,3,none⟩ (.slice N Q O)).setRow b (#[.int .u64 (c'.term:Int),.int .i64 (Qd c'.vote),.int .u64 (o'.frm:Int),.slice N Q O,.bool o'.rest.isSome,.int .u64 ((QE o').1:Int),.int .u64 ((QE o').2:Int),J,U]:Array Value)) (QL ak (g:=b) (fun _=>.inl rfl) _) (a:=N) (n:=Q) (cap:=O) (by rw[if_neg hfz];exact Qr.X3 bR (QL ak (g:=b) (fun _=>.inl rfl) _) (fun g D h=>by have bP:=(aq g D).1;rcases h with h|h<;>omega)) (fun g D=>⟨Zu (aq g D).2 (QL ak (g:=b) (fun _=>.inl rfl) _).size,fun af=>by have bP:=am.lt g af;have bQ:=(aq g D).1;omega⟩) (fl:=b) ⟨fun x W g D=>by have:=I.out.new.1 x W g D;omega,fun g D=>by have:=I.out.new.2.1 g D;omega,fun g D=>by have:=I.out.new.2.2 g D;omega⟩ (fun g D=>by have bQ:=(aq g D).1;omega);generalize (#[.int .u64 (c'.term:Int),.int .i64 (Qd c'.vote),.int .u64 (o'.frm:Int),.slice N Q O,.bool o'.rest.isSome,.int .u64 ((QE o').1:Int),.int .u64 ((QE o').2:Int),J,U]:Array Value)=R at*
    have aC:=Zh aj;have aB:=Zh ai;clear aj ai;go_wp2_with (first|refine wpList_load_row rfl 57 _ rfl _ rfl _ _ _ _ aN Tryz.underlying57 rfl (X2 Z) ?_|refine wpList_store_row rfl 57 _ _ rfl _ _ rfl rfl _ _ bb (X2 Z) (by rw[Z];rfl) aG ?_);refine bodyPost_ret (v:=.agg R) ?_ rfl ⟨_,ap,rfl,⟨an,bD,bA,a2,bB,a3,((am.Qc ac).upd ak (fun i M h=>by rcases h with h|h;exact aH i M h;exact (ab.out i M).2.1 h)).upd (QL (Zr (fun i=>i=b) _) (g:=b) (fun _=>rfl) R) (fun i M e=>aH i M e)⟩,br,QL (((bv.trans (ac.mono (T:=S) (fun _ _ f=>f.elim)) (fun _ _ h=>h))).trans (ak.mono (T:=fun i=>i=b\/i=b+1) (fun _ _ h=>h)) (fun i M h=>by have:=Y.out;rcases h with h|h<;>omega)) (g:=b) (fun h=>by have:=Y.out;omega) R,aB.out.low (Nat.le_of_eq Y.out)⟩
    exact results_cell_row rfl _ _ _ _ _ _ _ rfl aC.out Tryz.underlying57 rfl (X2 Z)
theorem QqM(h:Q2 w S p c .nilFunc)(I:Fit c)(D db:Nat)(E:Qfr D db w S p c c' o')(M:c'.n=c.n)(J:o'.frm<=1000000):
  Calls Tryz.prog 41 #[.pointer (some ⟨p,0,none⟩),.func (.func 42) #[] #[.pointer (some ⟨D,0,none⟩),.pointer (some ⟨db,0,none⟩)]] w (Wn S p c' o' w):=(QiV h I M J).1 D db E
theorem QqN(h:Q2 w S p c .nilFunc)(J:Fit c)(D db E:Nat)(I:Qfs D db E w S p c c' o')(N:c'.n=c.n)(M:o'.frm<=1000000):
  Calls Tryz.prog 41 #[.pointer (some ⟨p,0,none⟩),.func (.func 45) #[] #[.pointer (some ⟨D,0,none⟩),.pointer (some ⟨db,0,none⟩),.pointer (some ⟨E,0,none⟩)]] w (Wn S p c' o' w):=(QiV h J N M).2 D db E I
end
section
open Go.RowKit Go.Acre
attribute [local go_sem ↓] LcG ScG
attribute [local go_sem] Sc1 Sc2 Sc3 Lc2 Lc3
abbrev Xh:Array Value:=outA Ou.none (.slice none 0 0) (.slice none 0 0)
theorem QA.past{l:List En}(h:QA w v i l)(M:w.heap[b]? =some (.cells Xh 57 (0,0)))(Q:Qa (fun i=>i=b) w w'):QA w' v i l:=by
 by_cases hes:l=[]
 ·subst hes
  obtain⟨_,I,c',U,W,Y,Z,_⟩:=h;exact⟨rfl,I,c',U,W,Y,Z,fun N=>absurd rfl N⟩
 ·refine Qr.X3 h Q (fun g E O=> ?_)
  subst O;obtain⟨a,cap,rfl,aa,ab⟩:=h.slice;obtain⟨g',o',J,D,_⟩:=h.cells (k:=0) (List.length_pos_iff.2 hes);subst J;simp only[Value.ownBlock,Option.some.injEq] at E;subst E;rw[Qb M] at D;exact Qjk (i:=i+0) D
theorem QD.past(h:QD w v n g)(E:w.heap[b]? =some (.cells Xh 57 (0,0)))(I:Qa (fun i=>i=b) w w'):QD w' v n g:=by
 refine h.upd I (fun e=> ?_);subst e;obtain⟨M,_,N,_,_,_,J⟩:=h;have D:=J 0 (by omega);rw[Qb E] at D;simp[outA] at D
theorem Zc.past{fl:Nat}(h:Zc w S fl c o v)(J:w.heap[b]? =some (.cells Xh 57 (0,0)))(E:Qa (fun i=>i=b) w w'):Zc w' S fl c o v:=by
 obtain⟨U,Q,ah,L,W,I,N,Y,Z,aa,O,⟨a,n,cap,ab,ac⟩,M,ad⟩:=h;refine⟨U,Q,ah,L,W,I,Q3 N E (fun g D e=> ?_),Y,fun x hx=>(Z x hx).past J E (fun g e=>.inl e),?_,fun g D=>⟨Zu (O g D).1 E.size,(O g D).2⟩,⟨a,n,cap,ab,ac.past J E⟩,fun g D=>⟨Zu (M g D).1 E.size,(M g D).2⟩,ad⟩
 ·subst e
  rcases N.2 with ⟨h,_⟩|⟨ai,cap2,cur,h,_,I,_⟩
  ·rw[h] at D
   cases D
  ·rw[h] at D
   simp only[Value.ownBlock,Option.some.injEq] at D;subst D;rw[J] at I;simp at I
 ·rcases aa with h|⟨h,g,ae,af,ag⟩
  ·exact .inl h
  ·exact .inr ⟨h,g,ae.past J E,Zu af E.size,ag⟩
theorem Zc.agg{fl:Nat}(h:Zc w S fl c o v): ∃R:Array Value,v= .agg R/\R.size=9/\R.all (·.oneCell')=true:=by
 obtain⟨W,D,U,L,I,Z,J,aa,ab,M,ac,⟨a,n,cap,N,ad⟩,Y,ae⟩:=h;refine⟨_,I,rfl,?_⟩;have O: ∃a n c,D= .slice a n c:=by
  rcases M with ⟨_,h⟩|⟨_,g,⟨E,h,_⟩,_⟩
  ·exact⟨_,_,_,h⟩
  ·exact⟨_,_,_,h⟩
 have Q: ∃a n c,U= .slice a n c:=by
  rcases J.2 with ⟨h,_⟩|⟨g,E,cur,h,_⟩
  ·exact⟨_,_,_,h⟩
  ·exact⟨_,_,_,h⟩
 rw[N];exact Qb5 _ _ _ _ _ _ _ _ _ _ _ (QbH O) (QbH Q)
theorem Qrr(c:Core)(d:Nat)(o:Ou):(c.tick d o).1.n =c.n:=by
 unfold Core.tick;split
 ·split<;>rfl
 ·split
  ·unfold Core.stand
   split<;>rfl
  ·rfl
theorem Qrq(c:Core)(d:Nat)(o:Ou)(h:o.frm<=c.last+1):(c.tick d o).2.frm <=c.last+1:=by
 unfold Core.tick;split
 ·split
  ·exact Zt (Nat.le_of_eq (KQ _ _ _ _ _).1) h
  ·exact h
 ·split
  ·rw[QiS]
   unfold Wa;split
   ·exact Zf _
   ·exact Zz _
  ·exact h
theorem Qi9(h:Q2 w S p c .nilFunc)(ap:Fit c)(draw:Nat)(aI:draw<=1000000)(aH:c.term+1<=20000/\c.last+1<=20000/\c.waits+1<=20000/\c.beats+1<=20000):
  Calls Tryz.prog 12 #[.pointer (some ⟨p,0,none⟩),.int .i64 draw] w (Wn S p (c.tick draw Ou.none).1 (c.tick draw Ou.none).2 w):=by
 have aq: ∀i,S i->i<w.heap.size:=by
  obtain⟨_,_,_,_,_,_,E⟩:=h;exact E.lt
 have ab:S p:=by
  obtain⟨_,_,_,_,_,_,E⟩:=h;exact E.sp
 have H:=Zh h;have J:=Zh aq;have az:=Zh ap;clear h aq ap;go_enter Tryz.func12,Tryz.ntmps12;go_upto_region 1 with fail
 have aj:((w.alloc (.cells #[.pointer (some ⟨p,0,none⟩)] 50)).alloc (.cells #[.int .i64 (draw:Int)] 3)).heap[w.heap.size]? =some (.cells #[.pointer (some ⟨p,0,none⟩)] 50 (0,0)):=heap_alloc2_old w _ _;have am:((w.alloc (.cells #[.pointer (some ⟨p,0,none⟩)] 50)).alloc (.cells #[.int .i64 (draw:Int)] 3)).heap[w.heap.size+1]? =some (.cells #[.int .i64 (draw:Int)] 3 (0,0)):=heap_alloc2_new w _ _;have aw:Qa Ze w ((w.alloc (.cells #[.pointer (some ⟨p,0,none⟩)] 50)).alloc (.cells #[.int .i64 (draw:Int)] 3)):=((Zr _ w).alloc _).alloc _;have hsz:((w.alloc (.cells #[.pointer (some ⟨p,0,none⟩)] 50)).alloc (.cells #[.int .i64 (draw:Int)] 3)).heap.size =w.heap.size+2:=by simp
 generalize (w.alloc (.cells #[.pointer (some ⟨p,0,none⟩)] 50)).alloc (.cells #[.int .i64 (draw:Int)] 3)=w2 at*
 have N:Qa Ze w2 (w2.alloc (.cells Xh 57)):=(Zr _ w2).alloc _;have ae:=Qf (w:=w2) (.cells Xh 57);rw[hsz] at ae;have Z:=N.keep aj (fun f=>f);have an:=N.keep am (fun f=>f);change Code.wp _ _ _ _ (w2.alloc (.cells Xh 57));generalize w2.alloc (.cells Xh 57)=w3 at*
 have ac:=aw.trans N (fun _ _ f=>f);generalize hbb:w.heap.size=b at*
 have aC:=Zh hbb;have ag:=Zh (H.out.Qc ac);have U:=Zh ac;have ax:=Zh Z;have ay:=Zh an;have ai:=Zh ae;have aF:w3.cell? ⟨b,0,none⟩=some (.pointer (some ⟨p,0,none⟩)):=Qb Z 0;clear aj am aw N ae Z an ac hsz hbb;have al: ¬S b:=fun D=>by have:=J.out b D;omega
 have ao: ¬S (b+1):=fun D=>by have:=J.out _ D;omega
 have ar: ¬S (b+2):=fun D=>by have:=J.out _ D;omega
 have aL:=J.out p ab;have af:Hid (Calls Tryz.prog 40 #[.pointer (some ⟨p,0,none⟩)] w3 (Is (.bool false) w3)):=by
  obtain⟨_,_,_,_,_,_,E⟩:=ag.out;exact Zh (K4 E)
 have aK:=Ql ai.out;have ah:=Zh (QqM (o':=(c.tick draw Ou.none).2) (c':=(c.tick draw Ou.none).1) ag.out az.out b (b+1) (fun w' q aJ av aM=>Qro aJ (av.keep ax.out (fun e=>al (e▸ab))) draw (av.keep ay.out (fun e=>ao (e▸ab))) aI (fun D=>by rcases D with h|h;exact al h;omega) (fun D=>by rcases D with h|h;exact ao h;omega) aH (by show 0<19000;omega)) (Qrr _ _ _) (by have:=Qrq c draw Ou.none (Zz _);omega));go_wp2_with fail;refine af.out.mono ?_
 rintro e w' ⟨rfl,rfl⟩;go_wp2_with fail;refine ah.out.mono ?_
 rintro e I ⟨v,aE,rfl,ak,Y,ad,aa⟩;obtain⟨R,rfl,W,aG⟩:=aa.agg;have Q:=ad.keep ai.out ar;have aD:=Zh Q;have au:=Xr I (b+2) R Q;have O:Qa (fun i=>i=b+2) I (I.setRow (b+2) R):=QL (Zr (fun i=>i=b+2) I) (g:=b+2) (fun _=>rfl) R;have aA:Hid (Wn S p (c.tick draw Ou.none).1 (c.tick draw Ou.none).2 w (.returned (.agg R)) (I.setRow (b+2) R)):=Zh ⟨_,aE,rfl,ak.upd O (fun i M e=>by
   subst e;rcases Y _ M with h|h
   ·exact ar h
   ·omega),fun i M=>by
   rcases Y i M with h|h
   ·exact .inl h
   ·have:=U.out.size
    exact .inr (by omega),((U.out.mono (T:=S) (fun _ _ f=>f.elim)).trans ad (fun _ _ h=>h)).trans (O.mono (T:=fun i=>i=b+2) (fun _ _ h=>h)) (fun i M e=>by have:=aC.out;omega),(aa.past Q O).low U.out.size⟩
 have aB:=Zh au;clear ak Y ad aa Q au O ah af aF;go_wp2_with (refine wpList_store_row rfl 57 _ _ rfl _ _ rfl rfl _ _ aD.out (X2 W) (by rw[W];rfl) aG ?_);refine bodyPost_ret (v:=.agg R) ?_ rfl aA.out
 exact results_cell_row rfl _ _ _ _ _ _ _ rfl aB.out Tryz.underlying57 rfl (X2 W)
theorem Qeg(h:Q2 w S p c .nilFunc):Calls Tryz.prog 15 #[.pointer (some ⟨p,0,none⟩)] w (Is (.int .u64 c.commit) w):=by
 obtain⟨N,Q,O,I,mv,M,D⟩:=h;have E:=Zh (K4 D);have J:w.cell? ⟨p,6,none⟩=some (.int .u64 c.commit):=Qb D.row 6;clear D;go_enter Tryz.func15,Tryz.ntmps15;go_wp2_with fail;refine E.out.mono ?_
 rintro e w' ⟨rfl,rfl⟩;go_wp2_with fail;go_ret;exact⟨rfl,rfl⟩
theorem Qhz(h:Q2 w S p c .nilFunc):Calls Tryz.prog 20 #[.pointer (some ⟨p,0,none⟩)] w (Is (.bool (decide (c.role=2))) w):=by
 obtain⟨O,U,Q,M,mv,N,D⟩:=h;have E:=Zh (K4 D);have I:w.cell? ⟨p,7,none⟩=some (.int .i64 c.role):=Qb D.row 7;clear D;go_enter Tryz.func20,Tryz.ntmps20;by_cases hr:c.role=2
 ·rw[decide_eq_true hr]
  rw[hr] at I;go_wp2_with fail;refine E.out.mono ?_
  rintro e w' ⟨rfl,rfl⟩;go_wp2_with fail;go_ret;exact⟨rfl,rfl⟩
 ·rw[decide_eq_false hr]
  have J: ¬(c.role:Int)=2:=by omega
  go_wp2_with fail;refine E.out.mono ?_
  rintro e w' ⟨rfl,rfl⟩;go_wp2_with fail;go_ret;refine⟨?_,rfl⟩;show Ending.returned (.bool ((c.role:Int)==2))=_;rw[beq_eq_false_iff_ne.2 J]
theorem Qme(h:Q2 w S p c .nilFunc):Calls Tryz.prog 38 #[.pointer (some ⟨p,0,none⟩)] w (Qk (.agg #[.int .u64 c.term,.int .i64 (Qd c.vote)]) w):=by
 obtain⟨ae,ai,af,W,mv,aa,M⟩:=h;have J:=M.row;have Q:=Zh M;have ad:=Ql J;go_enter Tryz.func38,Tryz.ntmps38;go_upto_region 1 with fail
 have E:Qa Ze w (w.alloc (.cells #[.int .u64 0,.int .i64 0] 42)):=(Zr _ w).alloc _;have D:=Qf (w:=w) (.cells #[.int .u64 0,.int .i64 0] 42);generalize hww:w.alloc (.cells #[.int .u64 0,.int .i64 0] 42)=w1 at*
 clear hww;generalize hb:w.heap.size=b at*
 have N:=Zh (K4 (Q.out.Qc E));have I:=E.keep J (fun f=>f);have ag:w1.cell? ⟨p,3,none⟩=some (.int .u64 c.term):=Qb I 3;have ah:w1.cell? ⟨p,4,none⟩=some (.int .i64 (Qd c.vote)):=Qb I 4;have Y:w1.cell? ⟨b,0,none⟩=some (.int .u64 0):=Qb D 0;have Z:w1.cell? ⟨b,1,none⟩=some (.int .i64 0):=Qb D 1;have ab:=Qg D 0 none;have ac:=Qg D 1 none;have U:=Zh (Qi (o:=1) (Qi (o:=0) D (.int .u64 (c.term:Int))) (.int .i64 (Qd c.vote)));have O:Hid (Qa Ze w ((w1.setCell ⟨b,0,none⟩ (.int .u64 (c.term:Int))).setCell ⟨b,1,none⟩ (.int .i64 (Qd c.vote)))):=Zh ((E.setCell (p:=⟨b,0,none⟩) (fun h=>by simp only at h;omega) _).setCell (p:=⟨b,1,none⟩) (fun h=>by simp only at h;omega) _);clear M E D J I;go_wp2_with fail;refine N.out.mono ?_
 rintro e w' ⟨rfl,rfl⟩;go_wp2_with fail;refine bodyPost_ret (v:=.agg #[.int .u64 c.term,.int .i64 (Qd c.vote)]) ?_ rfl ⟨rfl,O.out⟩
 exact results_cell_row rfl _ _ _ _ _ _ _ rfl U.out Tryz.underlying42 rfl (by kernel_rfl)
theorem QcJ(h:Q2 w S p c .nilFunc):Calls Tryz.prog 16 #[.pointer (some ⟨p,0,none⟩)] w (KV c.bi c.bt c.n w):=by
 obtain⟨aq,au,ar,af,mv,aj,W⟩:=h;have M:=Zh W;go_enter Tryz.func16,Tryz.ntmps16;go_upto_region 1 with fail
 have E:Qa Ze w (w.alloc (.cells #[.int .u64 0,.int .u64 0,.slice none 0 0] 44)):=(Zr _ w).alloc _;have Y:=Qf (w:=w) (.cells #[.int .u64 0,.int .u64 0,.slice none 0 0] 44);generalize hww:w.alloc (.cells #[.int .u64 0,.int .u64 0,.slice none 0 0] 44)=w1 at*
 clear hww;generalize hb:w.heap.size=b at*
 have ac:=Zh (K4 (M.out.Qc E));have Z:=Zh (QdT (M.out.Qc E).log);have c5:=(M.out.Qc E).c5;have Q:=Zh E;have U:=Zh Y;clear W E Y;go_wp2_with fail;refine ac.out.mono ?_
 rintro e w' ⟨rfl,rfl⟩;go_wp2_with fail;refine Z.out.mono ?_
 rintro e w2 ⟨v,g,rfl,J,ao,N⟩;obtain⟨I,rfl⟩: ∃cap,v= .slice (some ⟨g,0,none⟩) c.n cap:=⟨J.choose,J.choose_spec.1⟩
 have D:=N.keep U.out (fun f=>f);have ag:w2.cell? ⟨b,0,none⟩=some (.int .u64 0):=Qb D 0;have ah:w2.cell? ⟨b,1,none⟩=some (.int .u64 0):=Qb D 1;have ai:w2.cell? ⟨b,2,none⟩=some (.slice none 0 0):=Qb D 2;have ak:=Qg D 0 none;have al:=Qg D 1 none;have am:=Qg D 2 none;have an:=Ql U.out;have ap:=Q.out.size;have O:Qa (fun i=>i=b) w2 (((w2.setCell ⟨b,0,none⟩ (.int .u64 (c.bi:Int))).setCell ⟨b,1,none⟩ (.int .u64 (c.bt:Int))).setCell ⟨b,2,none⟩ (.slice (some ⟨g,0,none⟩) c.n I)):=((((Zr (fun i=>i=b) w2).setCell (p:=⟨b,0,none⟩) (fun _=>rfl) _).setCell (p:=⟨b,1,none⟩) (fun _=>rfl) _)).setCell (p:=⟨b,2,none⟩) (fun _=>rfl) _;have ab:=Zh (J.upd O (fun e=>by omega));have ae:=Zh (Qi (o:=2) (Qi (o:=1) (Qi (o:=0) D (.int .u64 (c.bi:Int))) (.int .u64 (c.bt:Int))) (.slice (some ⟨g,0,none⟩) c.n I));have ad:Hid (Qa Ze w (((w2.setCell ⟨b,0,none⟩ (.int .u64 (c.bi:Int))).setCell ⟨b,1,none⟩ (.int .u64 (c.bt:Int))).setCell ⟨b,2,none⟩ (.slice (some ⟨g,0,none⟩) c.n I))):=Zh ((Q.out.trans N (fun _ _ f=>f)).trans O (fun i hi e=>by omega));have aa:Hid (w.heap.size<=g):=Zh (by omega);clear J N D O;unfold QC;go_wp2_with fail;refine bodyPost_ret (v:=.agg #[.int .u64 c.bi,.int .u64 c.bt,.slice (some ⟨g,0,none⟩) c.n I]) ?_ rfl ⟨_,g,rfl,ab.out,aa.out,ad.out⟩
 exact results_cell_row rfl _ _ _ _ _ _ _ rfl ae.out Tryz.underlying44 rfl (by kernel_rfl)
theorem QlD(h:Q2 w S p c .nilFunc)(x:Nat)(D:Int)(hx1:x<=1000000)(Y:1<=D/\D<=4611686018427387904):Calls Tryz.prog 39 #[.pointer (some ⟨p,0,none⟩),.int .u64 x,.int .i64 D] w (Qbc (x - 1) (Xs c.bi c.l x D.toNat) w):=by
 obtain⟨ab,ad,ac,Z,mv,aa,E⟩:=h;have U:=Zh (K4 E);have c5:=E.c5;have W:=Zh (Qcz E.log x D hx1 Y);clear E;go_enter Tryz.func39,Tryz.ntmps39;go_wp2_with fail;refine U.out.mono ?_
 rintro e w' ⟨rfl,rfl⟩;go_wp2_with fail;refine W.out.mono ?_
 rintro e w2 ⟨a,n,cap,rfl,I,J,M⟩;have N:=Zh I;have O:=Zh J;have Q:=Zh M;clear I J M;go_wp2_with fail;go_ret;exact⟨a,n,cap,rfl,N.out,O.out,Q.out⟩
theorem Qk1(h:Q2 w S p c .nilFunc)(b:Nat)(N:c.bi<b)(ac:b<=c.commit)(O:c.commit<=c.last)(E: ∃t,Qu c.bi c.bt c.l b=some t/\t<=1000000):
  Calls Tryz.prog 17 #[.pointer (some ⟨p,0,none⟩),.int .u64 b] w (QdA (.int .i64 0) S p (c.compacted b) .nilFunc w):=by
 obtain⟨t,E,W⟩:=E;obtain⟨Y,af,ae,Z,mv,ab,D⟩:=h;have M:=Zh (K4 D);have c5:=D.c5;have aa:w.cell? ⟨p,6,none⟩=some (.int .u64 c.commit):=Qb D.row 6;have J:Hid (Calls Tryz.prog 53 #[.pointer (some ⟨Y,0,none⟩),.int .u64 b] w (QdA (.int .i64 0) S p (c.compacted b) .nilFunc w)):=Zh ((Qk0 D.log N (by unfold Core.last lastOf at O;omega) E W).mono (fun e w' U=>by
  have Q:(c.compacted b).bt =t:=by
   show (Qu c.bi c.bt c.l b).getD 0=t;rw[E];rfl
  exact D.QeW (c':=c.compacted b) (by rw[Q];exact U) (fun _ _=>rfl) rfl))
 have ad: ¬(c.commit:Int)< (b:Int):=by omega
 clear D;go_enter Tryz.func17,Tryz.ntmps17;go_wp2_with fail;refine M.out.mono ?_
 rintro e w' ⟨rfl,rfl⟩;go_wp2_with fail;refine J.out.mono ?_
 rintro e w2 ⟨rfl,I⟩;have HP:=Zh I;clear I;go_wp2_with fail;go_ret;exact⟨rfl,HP.out⟩
theorem Qiy(w:World)(a b c d:Int): ∃v,(v=a\/v=b\/v=c\/v=d)/\ ∀(D:Array TypeId) (t:TypeId),(Builtin.max_ D t #[.int .u64 a,.int .u64 b,.int .u64 c,.int .u64 d]).run Tryz.prog w= .ok (.int .u64 v) w:=by
 refine⟨if d>(if c>(if b>a then b else a) then c else (if b>a then b else a)) then d else (if c>(if b>a then b else a) then c else (if b>a then b else a)),?_,fun D t=> ?_⟩
 ·repeat' split
  all_goals simp
 ·simp[Builtin.max_,Builtin.max2]
structure Qad(m:Mg):Prop where
 term:1<=m.term/\m.term<=20000
 kind:1<=m.kind/\m.kind<=5
 cap:m.idx+m.es.length<=20000/\m.lt<=20000/\m.com<=20000
 app:m.kind=3->1<=m.idx/\1<=m.lt/\XP m.lt m.es/\ ∀e∈m.es,e.1<=m.term
 snap:m.kind=5->1<=m.bi/\m.bi<=20000/\1<=m.bt/\m.bt<=m.term
structure XH(w:World)(S:Nat->Prop)(n:Nat)(m:Mg)(A:Array Value)(ea:Option Addr)(ec:Nat)(mv:Value)(g:Nat):Prop where
 arr:A=Xl m.kind m.term m.idx m.lt m.com m.ok (.slice ea m.es.length ec) m.bi m.bt mv
 Qq:QA w (.slice ea m.es.length ec) m.idx m.es
 far: ∀k,(Value.slice ea m.es.length ec).ownBlock =some k-> ¬S k
 mem:(m.kind=5/\QD w mv n g/\ ¬S g)\/(m.kind≠5/\mv= .slice none 0 0)
theorem XH.upd{w w':World}{S T:Nat->Prop}{n:Nat}{m:Mg}{A:Array Value}{ea:Option Addr}{ec:Nat}{mv:Value}{g:Nat}(h:XH w S n m A ea ec mv g)(O:Qa T w w')(N: ∀k,k<w.heap.size->T k->S k):XH w' S n m A ea ec mv g:=by
 refine⟨h.arr,?_,h.far,?_⟩
 ·by_cases hes:m.es=[]
  ·have:=h.Qq
   rw[hes] at this ⊢;obtain⟨_,Q,c',Z,ab,ac,ad,_⟩:=this;exact⟨rfl,Q,c',Z,ab,ac,ad,fun Y=>absurd rfl Y⟩
  ·refine Qr.X3 h.Qq O (fun k E I=>h.far k E (N k ?_ I))
   obtain⟨g',o',U,W,_⟩:=h.Qq.cells (k:=0) (List.length_pos_iff.2 hes);subst U;simp only[Value.ownBlock,Option.some.injEq] at E;subst E;exact World.block_lt_of_cell? w _ W
 ·rcases h.mem with ⟨D,J,M⟩|D
  ·refine .inl ⟨D,J.upd O (fun I=>M (N g ?_ I)),M⟩
   obtain⟨ae,_,af,_,_,_,aa⟩:=J;exact World.block_lt_of_cell? w _ (aa 0 (by omega))
  ·exact .inr D
theorem XH.Qc{w w':World}{S:Nat->Prop}{n:Nat}{m:Mg}{A:Array Value}{ea:Option Addr}{ec:Nat}{mv:Value}{g:Nat}(h:XH w S n m A ea ec mv g)(D:Qa Ze w w'):XH w' S n m A ea ec mv g:=h.upd D (fun _ _ f=>f.elim)
theorem XH.QcZ{w:World}{S:Nat->Prop}{n:Nat}{m:Mg}{A:Array Value}{ea:Option Addr}{ec:Nat}{mv:Value}{g:Nat}(h:XH w S n m A ea ec mv g): ∃a n c,mv= .slice a n c:=by
 rcases h.mem with ⟨_,⟨D,e,_⟩,_⟩|⟨_,e⟩
 ·exact⟨_,_,_,e⟩
 ·exact⟨_,_,_,e⟩
theorem Qc2(x:Nat)(I:x<5)(w:World):Calls Tryz.prog 80 #[.int .i64 x] w (Is (.bool true) w):=by
 have D:(0:Int)<=x:=by omega
 have E:(x:Int)<5:=by omega
 go_enter Tryz.func80,Tryz.ntmps80;go_wp2_with fail;go_ret;exact⟨rfl,rfl⟩
theorem Qgd(i t s:Nat)(w:World):Calls Tryz.prog 85 #[QS i t s] w (Qk (.bool true) w):=by
 have J:=QcD i t s;have M:=ZJ i t s;unfold QS;generalize Qh i t s=A at*
 go_enter Tryz.func85,Tryz.ntmps85;go_upto_region 1 with fail
 have D:=Qf (w:=w) (.cells A 116);have I:=Qb D 2;rw[J] at I;have E:Hid (Qa Ze w (w.alloc (.cells A 116))):=Zh ((Zr _ w).alloc _);generalize w.alloc (.cells A 116)=w1 at*
 clear D;go_wp2_with fail;go_ret;exact⟨rfl,E.out⟩
section
variable {w:World} {S:Nat->Prop} {p:Nat} {c:Core} {sv:Value} {lp yb mg:Nat} {SL:Nat->Prop} {mvl evl:Value} {n:Nat} {m:Mg} {A:Array Value} {ea:Option Addr} {ec:Nat} {mv:Value} {g:Nat}
theorem Qmm(h:XD w S p c sv lp yb mg SL mvl evl)(D:XH w S n m A ea ec mv g)(I:Qad m)(frm:Nat)(aq:frm<5)(hid:frm≠c.id)(aR:m.kind≠3):
  Calls Tryz.prog 46 #[.pointer (some ⟨p,0,none⟩),.int .i64 frm,.agg A] w (Qk (.bool true) w):=by
 obtain⟨O,U,Q,ag⟩:=D.QcZ;have aP:A.size=58:=by rw[D.arr];rfl
 have W:A[0]? =some (.int .i64 m.kind):=by rw[D.arr];rfl
 have Z:A[2]? =some (.int .u64 m.term):=by rw[D.arr];rfl
 have aa:A[3]? =some (.int .u64 m.idx):=by rw[D.arr];rfl
 have ab:A[4]? =some (.int .u64 m.lt):=by rw[D.arr];rfl
 have ac:A[5]? =some (.int .u64 m.com):=by rw[D.arr];rfl
 have ad:A[8]? =some (.int .u64 m.bi):=by rw[D.arr];rfl
 have ae:A[9]? =some (.int .u64 m.bt):=by rw[D.arr];rfl
 have Y:A[10]? =some (.slice O U Q):=by rw[D.arr,ag];rfl
 have M:=h.row;have aT:=Ql M;have aj:=Zh D;have al:=Zh (Qc2 frm aq);have aQ: ¬(frm:Int)=c.id:=by omega
 obtain⟨a1,a2⟩:=I.term;obtain⟨aU,aV⟩:=I.kind;obtain⟨aE,aF,aG⟩:=I.cap;have am:=Zh I.snap;clear h D I;go_enter Tryz.func46,Tryz.ntmps46;go_upto_region 1 with fail
 have N:Qa Ze w (w.alloc (.cells A 76)):=(Zr _ w).alloc _;have E:=Qf (w:=w) (.cells A 76);have aW:(w.alloc (.cells A 76)).cell? ⟨p,0,none⟩=some (.int .i64 c.id):=Qb (N.keep M (fun f=>f)) 0;generalize w.alloc (.cells A 76)=w1 at*
 generalize hb:w.heap.size=b at*
 have ao:=(Qb E 0).trans W;have ap:=(Qb E 2).trans Z;have az:=(Qb E 3).trans aa;have aA:=(Qb E 4).trans ab;have aB:=(Qb E 5).trans ac;have aC:=(Qb E 8).trans ad;have aD:=(Qb E 9).trans ae;have ax:=(Qb E 10).trans Y;have J:=Zh N;have aw:=Zh E;have av:=Zh hb;clear N E W Z aa ab ac ad ae Y M hb;have aK: ¬(m.kind:Int)<1:=by omega
 have aL: ¬(5:Int)< (m.kind:Int):=by omega
 have aM: ¬(m.term:Int)<1:=by omega
 have aN: ¬(m.kind:Int)=3:=by omega
 go_wp2_with fail;refine (al.out _).mono ?_
 rintro e w' ⟨rfl,rfl⟩;go_upto_region 6 with fail
 go_cut [12] (fun s au=>s= .bool false/\au=w1)
 case first=>
  obtain⟨v,ar,aS⟩:=Qiy w1 (m.term:Int) (m.idx:Int) (m.lt:Int) (m.com:Int);have aO: ¬(1099511627776:Int)<v:=by omega
  clear ar;go_wp2_with fail
  all_goals
   go_meet
   case rel=>exact⟨rfl,rfl⟩
 case rest=>
  obtain⟨rfl,rfl⟩:=hcut;by_cases hk5:m.kind=5
  ·obtain⟨aX,aY,aZ,a0⟩:=am.out hk5
   have af:(m.kind:Int)=5:=by omega
   rw[af] at ao;have e1:(1:Int)<=m.bi:=by omega
   have aH:(m.bi:Int)<=1099511627776:=by omega
   have aI:(1:Int)<=m.bt:=by omega
   have aJ:(m.bt:Int)<=m.term:=by omega
   have ay: ∀o,(wc.alloc o).cell? ⟨b,2,none⟩=some (.int .u64 m.term):=fun o=>Qe ((Zr Ze wc).alloc o) ap (fun f=>f)
   have ak:Hid (QD wc (.slice O U Q) n g):=Zh (by
    rcases (aj.out.Qc J.out).mem with ⟨_,h,_⟩|⟨h,_⟩
    ·rw[ag] at h
     exact h
    ·exact absurd hk5 h)
   have ai:Hid (∀o,Calls Tryz.prog 81 #[.slice O U Q] (wc.alloc o) (Qk (.int .i64 0) (wc.alloc o))):=Zh (fun o=>check_any (ak.out.upd ((Zr Ze wc).alloc o) (fun f=>f)));go_wp2_with fail;refine (ai.out _).mono ?_
   rintro e a3 ⟨rfl,ah⟩;have an:=Zh ah;clear ah;go_wp2_with fail;go_ret;exact⟨rfl,(J.out.alloc _).trans an.out (fun _ _ f=>f)⟩
  ·have af: ¬(m.kind:Int)=5:=by omega
   go_wp2_with fail;go_ret;exact⟨rfl,J.out⟩
end
theorem QB.refl(h:St w S p q c o):QB S p q c o w w:=⟨S,h,fun _ D=>.inl D,Zr _ _⟩
def Core.granted(c:Core)(frm:Nat):Core:={c with vote:=some frm,waits:=0}
theorem Qkk(h:St w S p q c o){m:Mg}(Q:XH w S n m A O na mv g)(frm:Nat)(bk:frm<5)(bn:o.sends.length<19000):
  Calls Tryz.prog 47 #[.pointer (some ⟨p,0,none⟩),.pointer (some ⟨q,0,none⟩),.int .i64 frm,.agg A] w (QU (.tuple #[]) S p q (c.asked frm m o).1 (c.asked frm m o).2 w):=by
 have bm:A.size=58:=by rw[Q.arr];rfl
 have aa:A[2]? =some (.int .u64 m.term):=by rw[Q.arr];rfl
 have ab:A[3]? =some (.int .u64 m.idx):=by rw[Q.arr];rfl
 have ac:A[4]? =some (.int .u64 m.lt):=by rw[Q.arr];rfl
 obtain⟨bb,a4,a8,br,bc,bs,bd,ah,aF,aX,aH⟩:=h.open;have am:=ah.row;have bo:=Ql am;have a9:=Zh (aF p ah.sp);have H:=Zh h;have aL:=Zh aH;have aC:=Zh ah;clear h ah Q aH aF aX;go_enter Tryz.func47,Tryz.ntmps47;go_upto_region 1 with fail
 have af:Qa Ze w (w.alloc (.cells A 76)):=(Zr _ w).alloc _;have aK:=Qf (w:=w) (.cells A 76);have ax:=Zh (last_any (aC.out.Qc af).log);have c5:=(aC.out.Qc af).c5;generalize w.alloc (.cells A 76)=w1 at*
 generalize N:w.heap.size=b at*
 have aD:=Zh aK;have az:=Zh af;have aM:=Zh am;clear af aK am N;go_wp2_with fail;refine ax.out.mono ?_
 rintro e w2 ⟨rfl,ap⟩;have ao:=az.out.trans ap (fun _ _ f=>f);have ai:=ap.keep aD.out (fun f=>f);have ae:=ao.keep aM.out (fun f=>f);have aE:=(Qb ai 2).trans aa;have aV:=(Qb ai 3).trans ab;have al:=(Qb ai 4).trans ac;have a5:w2.cell? ⟨p,3,none⟩=some (.int .u64 c.term):=Qb ae 3;have J:w2.cell? ⟨p,4,none⟩=some (.int .i64 (Qd c.vote)):=Qb ae 4;have aA:=Zh ao;have aN:=Zh ae;clear ap ao ai ae ax c5 aa ab ac;have aI: ∀b:Bool,decide (m.term=c.term/\(c.vote=none\/c.vote=some frm)/\(lastT c.bt c.l<m.lt\/m.lt=lastT c.bt c.l/\lastOf c.bi c.l<=m.idx))=b->c.grants frm m=b:=fun b N=>N
 have M:=Zh aI;clear aI;go_upto_region 2 with fail
 generalize hgg:c.grants frm m=gb at*
 generalize lastOf c.bi c.l=x at*
 generalize lastT c.bt c.l=y at*
 go_cut [10] (fun s a7=>s= .bool gb/\Qa Ze w2 a7)
 case first=>
  by_cases h1:m.term=c.term
  ·have ad:(m.term:Int)=c.term:=by omega
   rw[ad] at aE;have I:(c.vote=none\/c.vote=some frm)\/ ∃v,c.vote=some v/\v≠frm:=by
    cases hvv:c.vote with
    |none=>exact .inl (.inl rfl)
    |
     some v=>
     by_cases e:v=frm
     ·exact .inl (.inr (by rw[e]))
     ·exact .inr ⟨v,rfl,e⟩
   rcases I with I|⟨v,I,aY⟩
   ·have aG: ∀b:Bool,decide (y<m.lt\/m.lt=y/\x<=m.idx)=b->gb=b:=fun b N=>M.out b (by rw[<-N];simp[h1,I])
    have key:Qd c.vote= -1\/(Qd c.vote=(frm:Int)):=by
     rcases I with I|I
     ·left;rw[I];rfl
     ·right;rw[I];rfl
    have E:=Zh aG;clear aG M hgg;rcases key with av|av
    ·rw[av] at J
     by_cases k1:y<m.lt
     ·have aq:decide ((y:Int)< (m.lt:Int))=true:=decide_eq_true (by omega)
      have D:gb=true:=E.out true (by simp;omega);subst D;clear E;go_quiet (fail);go_wp2_with fail;go_meet
      case rel=>exact⟨rfl,(Zr _ _).drewN _⟩
     ·have aq:decide ((y:Int)< (m.lt:Int))=false:=decide_eq_false (by omega)
      by_cases k2:m.lt=y
      ·have ar:(m.lt:Int)=y:=by omega
       rw[ar] at al;have aZ:decide ((y:Int)< (y:Int))=false:=decide_eq_false (by omega);by_cases k3:x<=m.idx
       ·have au:decide ((x:Int)<=m.idx)=true:=decide_eq_true (by omega)
        have D:gb=true:=E.out true (by simp;omega);subst D;clear E;go_quiet (fail);go_wp2_with fail;go_meet
        case rel=>exact⟨rfl,(Zr _ _).drewN _⟩
       ·have au:decide ((x:Int)<=m.idx)=false:=decide_eq_false (by omega)
        have D:gb=false:=E.out false (by simp;omega);subst D;clear E;go_quiet (fail);go_wp2_with fail;go_meet
        case rel=>exact⟨rfl,(Zr _ _).drewN _⟩
      ·have a1:decide ((m.lt:Int)=y)=false:=decide_eq_false (by omega)
       have a0:((m.lt:Int)==(y:Int))=false:=beq_eq_false_iff_ne.2 (by omega);have D:gb=false:=E.out false (by simp;omega);subst D;clear E;go_quiet (fail);go_wp2_with fail;go_meet
       case rel=>exact⟨rfl,(Zr _ _).drewN _⟩
    ·rw[av] at J
     have a2:decide ((frm:Int)= -1)=false:=decide_eq_false (by omega);have a3:((frm:Int)== -1)=false:=beq_eq_false_iff_ne.2 (by omega);by_cases k1:y<m.lt
     ·have aq:decide ((y:Int)< (m.lt:Int))=true:=decide_eq_true (by omega)
      have D:gb=true:=E.out true (by simp;omega);subst D;clear E;go_quiet (fail);go_wp2_with fail;go_meet
      case rel=>exact⟨rfl,(Zr _ _).drewN _⟩
     ·have aq:decide ((y:Int)< (m.lt:Int))=false:=decide_eq_false (by omega)
      by_cases k2:m.lt=y
      ·have ar:(m.lt:Int)=y:=by omega
       rw[ar] at al;have aZ:decide ((y:Int)< (y:Int))=false:=decide_eq_false (by omega);by_cases k3:x<=m.idx
       ·have au:decide ((x:Int)<=m.idx)=true:=decide_eq_true (by omega)
        have D:gb=true:=E.out true (by simp;omega);subst D;clear E;go_quiet (fail);go_wp2_with fail;go_meet
        case rel=>exact⟨rfl,(Zr _ _).drewN _⟩
       ·have au:decide ((x:Int)<=m.idx)=false:=decide_eq_false (by omega)
        have D:gb=false:=E.out false (by simp;omega);subst D;clear E;go_quiet (fail);go_wp2_with fail;go_meet
        case rel=>exact⟨rfl,(Zr _ _).drewN _⟩
      ·have a1:decide ((m.lt:Int)=y)=false:=decide_eq_false (by omega)
       have a0:((m.lt:Int)==(y:Int))=false:=beq_eq_false_iff_ne.2 (by omega);have D:gb=false:=E.out false (by simp;omega);subst D;clear E;go_quiet (fail);go_wp2_with fail;go_meet
       case rel=>exact⟨rfl,(Zr _ _).drewN _⟩
   ·have D:gb=false:=M.out false (by simp[I,aY])
    subst D;rw[I] at J;have bu:w2.cell? ⟨p,4,none⟩=some (.int .i64 (v:Int)):=J;have a2:decide ((v:Int)= -1)=false:=decide_eq_false (by omega);have a3:((v:Int)== -1)=false:=beq_eq_false_iff_ne.2 (by omega);have bp:decide ((v:Int)=frm)=false:=decide_eq_false (by omega);have bq:((v:Int)==(frm:Int))=false:=beq_eq_false_iff_ne.2 (by omega);clear J M hgg;go_quiet (fail);go_wp2_with fail;go_meet
    case rel=>exact⟨rfl,(Zr _ _).drewN _⟩
  ·have D:gb=false:=M.out false (by simp[h1])
   subst D;have ad: ¬(m.term:Int)=c.term:=by omega
   have bj:decide ((m.term:Int)=c.term)=false:=decide_eq_false ad;have bh:((m.term:Int)==(c.term:Int))=false:=beq_eq_false_iff_ne.2 ad;clear M hgg;go_quiet (fail);go_wp2_with fail;go_meet
   case rel=>exact⟨rfl,(Zr _ _).drewN _⟩
 case rest=>
  obtain⟨rfl,ag⟩:=hcut;obtain⟨Y,rfl⟩: ∃x,x=wc:=⟨_,rfl⟩
  have aB:=Zh (aA.out.trans ag (fun _ _ f=>f));have ay:=Zh (H.out.Qc (aA.out.trans ag (fun _ _ f=>f)));have W:=ag.keep aN.out (fun f=>f);clear aE aV al a5 J ag aD az;have aw:Hid ((c.asked frm m o)=(if gb=true then c.granted frm else c,c.Zk frm 2 gb 0 o)):=Zh (by unfold Core.asked;rw[hgg];rfl)
  cases gb with
  |
   false=>
   have ak:=Zh (Qaq ay.out frm 2 0 false (by omega));go_wp2_with fail;refine ak.out.mono ?_
   rintro e a6 ⟨rfl,U⟩;have aj:=Zh U;clear U;go_wp2_with fail;go_end0;exact QU.trans aB.out ⟨rfl,by rw[aw.out];exact aj.out⟩
  |
   true=>
   have J:Y.cell? ⟨p,4,none⟩=some (.int .i64 (Qd c.vote)):=Qb W 4;have bv:Y.cell? ⟨p,9,none⟩=some (.int .i64 c.waits):=Qb W 9;have be:=Qg W 4 none;have bg:=Qg W 9 none;obtain⟨an,aJ⟩:=ay.out.set (c':=c.granted frm) (w':=(Y.setCell ⟨p,4,none⟩ (.int .i64 (frm:Int))).setCell ⟨p,9,none⟩ (.int .i64 0)) (((Zr (fun i=>i=p) Y).setCell (p:=⟨p,4,none⟩) (fun _=>rfl) _).setCell (p:=⟨p,9,none⟩) (fun _=>rfl) _) (fun a4 a8 hr=>Qi (o:=9) (Qi (o:=4) hr (.int .i64 (frm:Int))) (.int .i64 0)) rfl rfl rfl rfl rfl
    (by obtain⟨aP,aa,ab,ac,aQ,aR,aS,aT,aU,Z⟩:=aL.out;exact⟨aP,aa,ab,ac,aQ,aR,aS,aT,aU,⟨Z.1,Z.2.1,by show 0<=20000;omega,Z.2.2.2.1,Z.2.2.2.2⟩⟩)
   have ba:=Zh an;have aO:=Zh aJ;have ak:=Zh (Qaq an frm 2 0 true (by omega));clear an aJ W;go_upto_region 5 with fail
   generalize (Y.setCell ⟨p,4,none⟩ (.int .i64 (frm:Int))).setCell ⟨p,9,none⟩ (.int .i64 0)=wB at*
   go_wp2_with fail;refine ak.out.mono ?_
   rintro e a6 ⟨rfl,U⟩;have aj:=Zh U;clear U;go_wp2_with fail;go_end0;exact QU.trans aB.out ⟨rfl,by rw[aw.out];exact QB.after (fun i aW=>.inl aW) aO.out aj.out⟩
def Core.said(c:Core)(frm:Nat):Core:={c with yes:=frm::c.yes}
theorem Qp0(Y:Fit c)(frm:Nat)(Z:c.yes.length+1<=20000):Fit (c.said frm):=by
 obtain⟨E,I,J,M,N,O,Q,U,W,D⟩:=Y;exact⟨E,I,J,M,N,O,Q,U,W,⟨D.1,D.2.1,D.2.2.1,D.2.2.2.1,by show (frm::c.yes).length <=20000;simpa using Z⟩⟩
theorem QrM(h:St w S p q c o){m:Mg}(Q:XH w S n m A O na mv g)(frm:Nat)(a4:frm<5)(aP:c.last+1<=20000)(aC:c.yes.length+1<=20000)(aQ:o.sends.length<19000):
  Calls Tryz.prog 48 #[.pointer (some ⟨p,0,none⟩),.pointer (some ⟨q,0,none⟩),.int .i64 frm,.agg A] w (QU (.tuple #[]) S p q (c.Zb frm m o).1 (c.Zb frm m o).2 w):=by
 have a5:A.size=58:=by rw[Q.arr];rfl
 have am:A[2]? =some (.int .u64 m.term):=by rw[Q.arr];rfl
 have an:A[6]? =some (.bool m.ok):=by rw[Q.arr];rfl
 obtain⟨bb,bg,aS,a7,a9⟩:=h.Z1;have H:=Zh h;have ah:=Zh h.fit;clear h Q;go_enter Tryz.func48,Tryz.ntmps48;go_upto_region 1 with fail
 have ab:Qa Ze w (w.alloc (.cells A 76)):=(Zr _ w).alloc _;have af:=Qf (w:=w) (.cells A 76);have Z:=ab.keep aS (fun f=>f);generalize w.alloc (.cells A 76)=w1 at*
 generalize hb:w.heap.size=b at*
 have ao:=(Qb af 2).trans am;have W:=(Qb af 6).trans an;have aT:w1.cell? ⟨p,3,none⟩=some (.int .u64 c.term):=Qb Z 3;have aD:w1.cell? ⟨p,7,none⟩=some (.int .i64 c.role):=Qb Z 7;have U:=Zh ab;clear af ab Z am an hb;have aq: ¬(m.term=c.term/\c.role=1/\m.ok=true)->c.Zb frm m o=(c,o):=fun Y=>by unfold Core.Zb;rw[if_neg Y]
 have J:=Zh aq;clear aq;have D:Hid (∀k,¬(m.term=c.term/\c.role=1/\m.ok=true)->QB S p q (c.Zb frm m o).1 (c.Zb frm m o).2 w (w1.drewN k)):=Zh (fun k Y=>by
  rw[J.out Y];exact⟨S,H.out.Qc (U.out.drewN k),fun i E=>.inl E,(U.out.drewN k).mono (fun _ _ f=>f.elim)⟩)
 by_cases h1:m.term=c.term
 ·have aN:(m.term:Int)=c.term:=by omega
  rw[aN] at ao;by_cases h2:c.role=1
  ·rw[h2] at aD
   cases hok:m.ok with
   |
    false=>
    rw[hok] at W;have I:=Zh (fun k=>D.out k (fun hh=>by rw[hok] at hh;cases hh.2.2));clear D J;go_quiet (fail);go_wp2_with fail;exact bodyPost_ret (v:=.tuple #[]) (by simp[results,Tryz.results48]) rfl ⟨rfl,I.out _⟩
   |
    true=>
    rw[hok] at W;have aB:c.Zb frm m o=(if (c.said frm).Kz then (((c.said frm).lead o).1,{((c.said frm).lead o).2 with frm:=c.last+1}) else (c.said frm,o)):=by
     unfold Core.Zb;rw[if_pos ⟨h1,h2,hok⟩];rfl
    have N:=Zh aB;clear aB D J;go_quiet (fail);have ac:=U.out.drewN nq;generalize w1.drewN nq=w2 at*
    obtain⟨aV,ba,aU,bc,aW,bd,aY,M,a6,a8,ar⟩:=(H.out.Qc ac).QeK;obtain⟨aE,aR,aA,ad⟩:=Qig M.yes frm (by omega) (by have:=ah.out.cap;omega);have p11:w2.cell? ⟨p,11,none⟩=some (.map (some aU)):=Qb M.row 11;obtain⟨aa,ay⟩:=ar aE (c.said frm) (ad.mono (fun i _ e=>.inr e)) (ad.keep M.row (fun e=>M.py e)) aA rfl rfl rfl rfl (Qp0 ah.out frm aC);have aG:=Zh aa;have aI:Hid (Qa S w aE):=Zh ((ac.mono (T:=S) (fun _ _ f=>f.elim)).trans ay (fun _ _ h=>h));obtain⟨_,_,_,_,_,_,_,az,_⟩:=aa.open;have al:=Zh (Qjh az (by show (frm::c.yes).length <=20000;simpa using aC));clear aa ay az M ar ac ad aA;go_wp2_with fail;refine al.out.mono ?_
    rintro e ag ⟨rfl,ae⟩;have aj:=Zh (aG.out.Qc ae);have ak:Hid (Qa S w ag):=Zh (aI.out.trans (ae.mono (T:=S) (fun _ _ f=>f.elim)) (fun _ _ h=>h));clear ae al p11 aR ao W aT aD
    cases hwon:(c.said frm).Kz with
    |
     false=>
     rw[hwon] at N;go_wp2_with fail;go_end0;refine⟨rfl,?_⟩;rw[N.out];exact⟨S,aj.out,fun i E=>.inl E,ak.out⟩
    |
     true=>
     rw[hwon] at N;have ai:Hid (Calls Tryz.prog 94 #[.pointer (some ⟨p,0,none⟩)] ag (QU (.int .u64 ((c.last+1:Nat):Int)) S p q ((c.said frm).lead o).1 ((c.said frm).lead o).2 ag)):=Zh (lead_any aj.out aP aQ);generalize hx1:c.last+1=x at*
     go_wp2_with fail;refine Calls.mono ai.out ?_
     rintro e w5 ⟨rfl,aL,au,ap,aw⟩;obtain⟨av,ax,⟨be,aX⟩,aZ⟩:=au.Qdi x;have aH:=Zh av;have aK:=Zh ax;have aF:=Zh ap;have aJ:=Zh aw;clear au av ax ap aw ai;go_wp2_with fail;go_end0;refine⟨rfl,?_⟩;rw[N.out];exact QB.after (fun i E=>.inl E) ak.out (QB.after aF.out aJ.out ⟨aL,aH.out,fun i E=>.inl E,aK.out⟩)
  ·have I:=Zh (fun k=>D.out k (fun hh=>h2 hh.2.1))
   have a2:decide ((c.role:Int)=1)=false:=decide_eq_false (by omega);have aO:((c.role:Int)==1)=false:=beq_eq_false_iff_ne.2 (by omega);have a3:((c.role:Int) != 1)=true:=by rw[bne,aO];rfl
   clear D J;go_quiet (fail);go_wp2_with fail;exact bodyPost_ret (v:=.tuple #[]) (by simp[results,Tryz.results48]) rfl ⟨rfl,I.out _⟩
 ·have I:=Zh (fun k=>D.out k (fun hh=>h1 hh.1))
  have a0:decide ((m.term:Int)=c.term)=false:=decide_eq_false (by omega);have aM:((m.term:Int)==(c.term:Int))=false:=beq_eq_false_iff_ne.2 (by omega);have a1:((m.term:Int) != (c.term:Int))=true:=by rw[bne,aM];rfl
  clear D J;go_quiet (fail);go_wp2_with fail;exact bodyPost_ret (v:=.tuple #[]) (by simp[results,Tryz.results48]) rfl ⟨rfl,I.out _⟩
end
end Go.Proofs.YtbleblbfadeciaaGreatDoor
