/- For TopKept. -/
import Derived.Test.YtbleblbfadeciaaGreatDoorLc
import Derived.Test.YtbleblbfadeciaaGreatDoorQf
import Derived.Maps.OwnSet
import Derived.Great.BuildSlice
import Derived.Deep.AppendLies
import Derived.BigRegion
set_option linter.all false
set_option maxHeartbeats 16000000
set_option maxRecDepth 10000
namespace Go.Proofs.YtbleblbfadeciaaGreatDoor
variable{A:Array Value}{c c':Core}{la:List Nat}{a b bi bt cap d g n na nb nc p q:Nat}{S Sa T U:Nat->Prop}{o o':Ou}{P:Program}{Y Z mv v:Value}{w w' w0 w6:World}
section
open Go.RowKit Go.Acre
def Qd:Option Nat->Int
 |none=> -1
 |some v=>(v:Int)
def QK(c:Core)(lp yb:Nat)(sv:Value):Array Value:= #[.int .i64 c.id,.int .i64 c.elect,.int .i64 c.beat,.int .u64 c.term,.int .i64 (Qd c.vote),.pointer (some ⟨lp,0,none⟩),.int .u64 c.commit,.int .i64 c.role,.int .i64 c.known,.int .i64 c.waits,.int .i64 c.beats,.map (some yb),.int .u64 (gd c.next 0:Nat),.int .u64 (gd c.next 1:Nat),.int .u64 (gd c.next 2:Nat),.int .u64 (gd c.next 3:Nat),.int .u64 (gd c.next 4:Nat),.int .u64 (gd c.mtch 0:Nat),.int .u64 (gd c.mtch 1:Nat),.int .u64 (gd c.mtch 2:Nat),.int .u64 (gd c.mtch 3:Nat),.int .u64 (gd c.mtch 4:Nat),sv]
def Kx(Y:List Nat):DataW Unit:=Y.foldr (fun (x:Nat) D=>D.put (.int .i64 (x:Int)) (.agg [])) (.map [])
def WQ(w:World)(yb:Nat)(Y:List Nat):Prop:=w.ownsMap Tryz.prog 3 (unitElem (H:=Unit)) yb Y.length (Kx Y)
theorem Qch(h:WQ w na la)(J:Qa T w w')(E: ¬T na):WQ w' na la:=by
 obtain⟨D,clock,I,r⟩:=h;exact⟨D,clock,J.keep I E,r⟩
structure Fit(c:Core):Prop where
 n:1<=c.n/\c.n<=5/\c.id<c.n
 nl:c.next.length=5
 ml:c.mtch.length=5
 lead:c.role=2-> ∀j,j<5->1<=gd c.next j/\gd c.next j<=c.last+1/\gd c.mtch j<=c.last
 role:c.role<=2
 elect:c.elect=4/\c.beat=1
 bi:1<=c.bi/\c.bi<=c.commit/\c.commit<=c.last/\1<=c.bt
 rise:XP c.bt c.l
 term:c.lastT<=c.term/\1<=c.term
 cap:c.term<=20000/\c.last<=20000/\c.waits<=20000/\c.beats<=20000/\c.yes.length<=20000
structure XD(w:World)(S:Nat->Prop)(p:Nat)(c:Core)(sv:Value)(lp yb mg:Nat)(SL:Nat->Prop)(mv ev:Value):Prop where
 row:w.heap[p]? =some (.cells (QK c lp yb sv) 126 (0,0))
 log:Q4 w SL lp c.n c.bi c.bt c.l mv ev mg
 yes:WQ w yb c.yes
 sl: ∀i,SL i->S i/\i≠p/\i≠yb
 sp:S p
 sy:S yb
 py:p≠yb
 lt: ∀i,S i->i<w.heap.size
def Q2(w:World)(S:Nat->Prop)(p:Nat)(c:Core)(sv:Value):Prop:= ∃lp yb mg SL mv ev,XD w S p c sv lp yb mg SL mv ev
theorem XD.upd(h:XD w S p c Y na nb nc U mv Z)(D:Qa T w w')(E: ∀i,S i-> ¬T i):XD w' S p c Y na nb nc U mv Z:=
 ⟨D.keep h.row (E _ h.sp),h.log.upd D (fun i I=>E i (h.sl i I).1),Qch h.yes D (E _ h.sy),h.sl,h.sp,h.sy,h.py,fun i I=>Zu (h.lt i I) D.size⟩
theorem XD.Qc(h:XD w S p c Y na nb nc U mv Z)(D:Qa Ze w w'):XD w' S p c Y na nb nc U mv Z:=h.upd D (fun _ _ f=>f)
theorem Q2.upd(h:Q2 w S p c Y)(J:Qa T w w')(I: ∀i,S i-> ¬T i):Q2 w' S p c Y:=by
 obtain⟨M,O,N,D,mv,E,h⟩:=h;exact⟨M,O,N,D,mv,E,h.upd J I⟩
theorem Q2.Qc(h:Q2 w S p c Y)(D:Qa Ze w w'):Q2 w' S p c Y:=h.upd D (fun _ _ f=>f)
theorem XD.cells{sv':Value}(h:XD w S p c Y na nb nc U mv Z)(E:Qa (fun i=>i=p) w w')
  (O:w'.heap[p]? =some (.cells (QK c' na nb sv') 126 (0,0))) (e1:c'.n=c.n) (I:c'.bi=c.bi) (J:c'.bt=c.bt) (M:c'.l=c.l) (N:c'.yes=c.yes):XD w' S p c' sv' na nb nc U mv Z:=
 ⟨O,by rw[e1,I,J,M];exact h.log.upd E (fun i D=>(h.sl i D).2.1),by rw[N];exact Qch h.yes E (fun e=>h.py e.symm),h.sl,h.sp,h.sy,h.py,fun i D=>Zu (h.lt i D) E.size⟩
def QdA(v:Value)(S:Nat->Prop)(p:Nat)(c':Core)(sv:Value)(w:World)(e:Ending)(w':World):Prop:=
 e= .returned v/\ ∃S',Q2 w' S' p c' sv/\(∀i,S' i->S i\/w.heap.size<=i)/\Qa S w w'
def Xl(k t i lt com:Int)(ok:Bool)(es:Value)(bi bt:Int)(mv:Value):Array Value:= #[.int .i64 k,.int .i64 0,.int .u64 t,.int .u64 i,.int .u64 lt,.int .u64 com,.bool ok,es,.int .u64 bi,.int .u64 bt,mv,.string ⟨#[]⟩,
 .int .i64 0,.int .u64 0,.int .i64 0,.int .u64 0,.int .i64 0,.string ⟨#[]⟩,.string ⟨#[]⟩,.string ⟨#[]⟩,.bool false,.string ⟨#[]⟩,
 .int .i64 0,.int .u64 0,.int .i64 0,.bool false,.string ⟨#[]⟩,.string ⟨#[]⟩,.int .u64 0,.int .i64 0,
 .int .i64 0,.int .i64 0,.int .i64 0,.int .u64 0,.int .u64 0,.int .i64 0,.string ⟨#[]⟩,.string ⟨#[]⟩,.string ⟨#[]⟩,.bool false,.string ⟨#[]⟩,.int .u64 0,.int .i64 0,.string ⟨#[]⟩,.string ⟨#[]⟩,.int .i64 0,.bool false,.int .i64 0,.string ⟨#[]⟩,.int .i64 0,.int .i64 0,.int .i64 0,.int .i64 0,
 .int .i64 0,.int .u64 0,.int .i64 0,.int .i64 0,.int .i64 0]
theorem QcY(k t i lt D:Int)(I:Bool)(E:Value)(bi bt:Int)(mv:Value):(Xl k t i lt D I E bi bt mv).size =58:=rfl
def Mg.arr(m:Mg)(ev:Value):Array Value:=Xl m.kind m.term m.idx m.lt m.com m.ok ev 0 0 (.slice none 0 0)
abbrev XI:=Nat×Mg×Value
def WH(x:XI):Array Value:= #[.int .i64 (x.1:Nat)]++x.2.1.arr x.2.2
theorem QiN(x:XI):(WH x).size =59:=by simp[WH,Mg.arr,QcY]
def Zi:List XI->List Value
 |[]=>[]
 |x::r=>(WH x).toList ++Zi r
theorem Ql8(a b:List XI):Zi (a++b)=Zi a++Zi b:=by
 induction a with
 |nil=>rfl
 |cons x r ih=>rw[List.cons_append,Zi,Zi,ih,List.append_assoc]
def XA(w:World)(S:Nat->Prop)(x:XI):Prop:=QA w x.2.2 x.2.1.idx x.2.1.es/\x.2.2.oneCell'=true/\x.2.1.bi=0/\x.2.1.bt=0/\ ∀g,x.2.2.ownBlock=some g->g<w.heap.size/\ ¬S g
def QE(o:Ou):Nat×Nat:=o.rest.getD (0,0)
def outA(o:Ou)(bv sv:Value):Array Value:= #[.int .u64 0,.int .i64 0,.int .u64 o.frm,.slice none 0 0,.bool o.rest.isSome,.int .u64 ((QE o).1:Nat),.int .u64 ((QE o).2:Nat),bv,sv]
structure Qag(w:World)(T:Nat->Prop)(q n:Nat)(o:Ou)(bv sv:Value)(L:List XI):Prop where
 row:w.heap[q]? =some (.cells (outA o bv sv) 57 (0,0))
 sends:o.sends=L.map fun x=>(x.1,x.2.1)
 own:w.ownsRow 0 112 59 sv L.length (Zi L)
 at_: ∀x∈L,XA w T x
 base:(o.rest=none/\bv= .slice none 0 0)\/(o.rest≠none/\ ∃g,QD w bv n g/\g<w.heap.size/\ ¬T g)
 sq:T q
 sb: ∀g,sv.ownBlock=some g->T g/\g≠q
 few:L.length<=20000
 new:(∀x∈L,∀g,x.2.2.ownBlock=some g->q<=g)/\(∀g,sv.ownBlock=some g->q<=g)/\(∀g,bv.ownBlock=some g->q<=g)
def QM(q:Nat):Value:=.func (.func 88) #[] #[.pointer (some ⟨q,0,none⟩)]
structure St(w:World)(S:Nat->Prop)(p q:Nat)(c:Core)(o:Ou):Prop where
 ex: ∃SC bv sv L,Q2 w SC p c (QM q)/\Qag w S q c.n o bv sv L/\(∀i,SC i->S i/\i≠q/\sv.ownBlock≠some i)/\(∀i,S i->i<w.heap.size)
 fit:Fit c
def QU(v:Value)(S:Nat->Prop)(p q:Nat)(c':Core)(o':Ou)(w:World)(e:Ending)(w':World):Prop:=
 e= .returned v/\ ∃S',St w' S' p q c' o'/\(∀i,S' i->S i\/w.heap.size<=i)/\Qa S w w'
theorem XA.upd{x:XI}(h:XA w S x)(E:Qa T w w')(I: ∀g,¬S g-> ¬T g):XA w' S x:=
 ⟨Qr.X3 h.1 E (fun g D=>I g (h.2.2.2.2 g D).2),h.2.1,h.2.2.1,h.2.2.2.1,fun g D=>⟨Zu (h.2.2.2.2 g D).1 E.size,(h.2.2.2.2 g D).2⟩⟩
theorem XA.wide{x:XI}(h:XA w S x)(E: ∀g,g<w.heap.size->U g->S g):XA w U x:=
 ⟨h.1,h.2.1,h.2.2.1,h.2.2.2.1,fun g D=>⟨(h.2.2.2.2 g D).1,fun hs=>(h.2.2.2.2 g D).2 (E g (h.2.2.2.2 g D).1 hs)⟩⟩
theorem Qag.upd{L:List XI}(h:Qag w S q n o Y Z L)(I:Qa T w w')(ae: ¬T q)(E: ∀g,Z.ownBlock=some g-> ¬T g)(W: ∀g,T g->S g)
  (J: ∀g,g<w.heap.size->U g->S g) (af:U q) (ag: ∀g,Z.ownBlock=some g->U g):Qag w' U q n o Y Z L:=by
 refine⟨I.keep h.row ae,h.sends,Q3 h.own I E,fun x aa=> ?_,?_,af,fun g D=>⟨ag g D,(h.sb g D).2⟩,h.few,h.new⟩
 ·have:=(h.at_ x aa).upd I (fun g ad N=>ad (W g N))
  exact wide' this (fun g D=>h.at_ x aa |>.2.2.2.2 g D |>.1) J
 ·rcases h.base with M|⟨M,g,ab,O,Q⟩
  ·exact .inl M
  ·exact .inr ⟨M,g,ab.upd I (fun N=>Q (W g N)),Zu O I.size,fun E=>Q (J g O E)⟩
where
 wide' {w w':World} {S U:Nat->Prop} {x:XI} (h:XA w' S x) (ac: ∀g,x.2.2.ownBlock=some g->g<w.heap.size) (J: ∀g,g<w.heap.size->U g->S g):XA w' U x:=
  ⟨h.1,h.2.1,h.2.2.1,h.2.2.2.1,fun g D=>⟨(h.2.2.2.2 g D).1,fun E=>(h.2.2.2.2 g D).2 (J g (ac g D) E)⟩⟩
theorem St.Qc(h:St w S p q c o)(E:Qa Ze w w'):St w' S p q c o:=by
 obtain⟨⟨I,J,U,L,M,D,N,O⟩,Q⟩:=h;exact⟨⟨I,J,U,L,M.Qc E,D.upd E (fun f=>f) (fun _ _ f=>f) (fun _ f=>f.elim) (fun _ _ h=>h) D.sq (fun g hg=>(D.sb g hg).1),N,fun i hi=>Zu (O i hi) E.size⟩,Q⟩
theorem St.Qih(h:St w S p q c o):S q/\q<w.heap.size:=by
 obtain⟨⟨I,J,Q,L,M,D,N,E⟩,O⟩:=h;exact⟨D.sq,E q D.sq⟩
theorem St.core{L:List XI}(I:Qag w S q c.n o Y Z L)(E: ∀i,U i->S i/\i≠q/\Z.ownBlock≠some i)(O: ∀i,S i->i<w.heap.size)
  (Q:Q2 w' Sa p c' (QM q)) (J: ∀i,Sa i->U i\/w.heap.size<=i) (N:Qa U w w') (aa:c'.n=c.n) (W:Fit c'):
  ∃S',St w' S' p q c' o/\(∀i,S' i->S i\/w.heap.size<=i)/\Qa S w w':=by
 have M:=I.sb;have ab:=O q I.sq;refine⟨fun i=>Sa i\/i=q\/Z.ownBlock=some i,⟨⟨Sa,Y,Z,L,Q,?_,fun i hi=>⟨.inl hi,?_,?_⟩,?_⟩,W⟩,?_,N.mono (fun i _ hi=>(E i hi).1)⟩
 ·rw[aa]
  refine I.upd N (fun h=>(E q h).2.1 rfl) (fun g hg h=>(E g h).2.2 hg) (fun g h=>(E g h).1) (fun g hg hs=> ?_) (.inr (.inl rfl)) (fun g hg=>.inr (.inr hg));rcases hs with h|rfl|h
  ·rcases J g h with D|D
   ·exact (E g D).1
   ·omega
  ·exact I.sq
  ·exact (M g h).1
 ·rintro rfl
  rcases J i hi with D|D
  ·exact (E i D).2.1 rfl
  ·omega
 ·intro h
  rcases J i hi with D|D
  ·exact (E i D).2.2 h
  ·have:=O i (M i h).1
   omega
 ·rintro i (h|rfl|h)
  ·obtain⟨_,_,_,_,_,_,ac⟩:=Q
   exact ac.lt i h
  ·exact Zu ab N.size
  ·exact Zu (O i (M i h).1) N.size
 ·rintro i (h|rfl|h)
  ·rcases J i h with D|D
   ·exact .inl (E i D).1
   ·exact .inr D
  ·exact .inl I.sq
  ·exact .inl (M i h).1
end
section
open Go.RowKit Go.Acre
attribute [local go_sem ↓] LcG ScG
attribute [local go_sem] Sc1 Sc2 Sc3 Lc2 Lc3
section
variable {w:World} {S:Nat->Prop} {p:Nat} {c:Core} {sv:Value} {lp yb mg:Nat} {SL:Nat->Prop} {mv ev:Value}
theorem XD.c5(h:XD w S p c sv lp yb mg SL mv ev):w.cell? ⟨p,5,none⟩=some (.pointer (some ⟨lp,0,none⟩)):=Qb h.row 5
theorem K4(h:XD w S p c sv lp yb mg SL mv ev):Calls Tryz.prog 40 #[.pointer (some ⟨p,0,none⟩)] w (Is (.bool false) w):=by
 have c5:=h.c5;have H:=Zh h;clear h;go_enter Tryz.func40,Tryz.ntmps40;go_wp2_with fail;go_ret;exact⟨rfl,rfl⟩
theorem Qbh(h:XD w S p c sv lp yb mg SL mv ev):Calls Tryz.prog 98 #[.pointer (some ⟨p,0,none⟩)] w (Qk (.int .u64 c.last) w):=by
 have c5:=h.c5;have I:=Zh (K4 h);have E:=Zh (last_any h.log);clear h;go_enter Tryz.func98,Tryz.ntmps98;go_wp2_with fail;refine I.out.mono ?_
 rintro e w' ⟨rfl,rfl⟩;go_wp2_with fail;refine E.out.mono ?_
 rintro e w' ⟨rfl,D⟩;have J:=Zh D;clear D;go_wp2_with fail;go_ret;exact⟨rfl,J.out⟩
theorem Qaj(h:XD w S p c sv lp yb mg SL mv ev):Calls Tryz.prog 92 #[.pointer (some ⟨p,0,none⟩)] w (Qaf c.n w):=by
 have J:Hid (∀w',Qa Ze w w'->Calls Tryz.prog 98 #[.pointer (some ⟨p,0,none⟩)] w' (Qk (.int .u64 c.last) w')):=Zh (fun w' hu=>Qbh (h.Qc hu));have I:Hid (∀w',Qa Ze w w'->w'.cell? ⟨p,5,none⟩=some (.pointer (some ⟨lp,0,none⟩))):=Zh (fun w' hu=>(h.Qc hu).c5);have M:Hid (∀w',Qa Ze w w'->Calls Tryz.prog 107 #[.pointer (some ⟨lp,0,none⟩),.int .u64 c.last] w' (Qaf c.n w')):=Zh (fun w' hu=>QhP (h.Qc hu).log _ (by have:=h.log.fit;unfold Core.last lastOf;omega));clear h;go_enter Tryz.func92,Tryz.ntmps92;go_upto_region 1 with fail
 have D:=(Zr Ze w).drew;have N:=I.out _ D;go_region_with (first
  |(go_at_call 98;refine (J.out _ D).mono ?_;rintro e w2 ⟨rfl,E⟩;have O:=I.out _ (D.trans E (fun _ _ f=>f)))
  |(go_at_call 107;refine (M.out _ (D.trans E (fun _ _ f=>f))).mono ?_;rintro e w3 ⟨v,g,rfl,hm,hg,hu3⟩))
 all_goals
  go_wp2_with fail;go_ret;exact⟨v,g,rfl,hm,Zt E.size hg,(D.trans E (fun _ _ f=>f)).trans hu3 (fun _ _ f=>f)⟩
end
theorem QaN(k t i lt J:Int)(M:Bool)(D:Value)(bi bt:Int)(mv:Value)(E:D.oneCell'=true)(I:mv.oneCell'=true):(Xl k t i lt J M D bi bt mv).all (·.oneCell')=true:=by
 simp[Xl,Value.oneCell'] at E I ⊢;exact⟨E,I⟩
theorem Qbu{A:Array Value}(h:A.size=58):(Tryz.prog.info? 76).map (·.size)=some A.size:=by rw[h];kernel_rfl
def XC:Array Value:=Xl 0 0 0 0 0 false (.slice none 0 0) 0 0 (.slice none 0 0)
theorem Qp4{w:World}{b:Nat}{J:Array Value}{ty:TypeId}(h:w.heap[b]? =some (.cells J ty (0,0)))(O:J.size=58)(k t i lt E:Int)(I:Bool)(D:Value)(bi bt:Int)(mv:Value)(M:D.oneCell'=true)(N:mv.oneCell'=true):
  (StC ⟨b,0,none⟩ [.int .i64 k,.int .i64 0,.int .u64 t,.int .u64 i,.int .u64 lt,.int .u64 E,.bool I,D,.int .u64 bi,.int .u64 bt,mv,.string ⟨#[]⟩,
 .int .i64 0,.int .u64 0,.int .i64 0,.int .u64 0,.int .i64 0,.string ⟨#[]⟩,.string ⟨#[]⟩,.string ⟨#[]⟩,.bool false,.string ⟨#[]⟩,
 .int .i64 0,.int .u64 0,.int .i64 0,.bool false,.string ⟨#[]⟩,.string ⟨#[]⟩,.int .u64 0,.int .i64 0,
 .int .i64 0,.int .i64 0,.int .i64 0,.int .u64 0,.int .u64 0,.int .i64 0,.string ⟨#[]⟩,.string ⟨#[]⟩,.string ⟨#[]⟩,.bool false,.string ⟨#[]⟩,.int .u64 0,.int .i64 0,.string ⟨#[]⟩,.string ⟨#[]⟩,.int .i64 0,.bool false,.int .i64 0,.string ⟨#[]⟩,.int .i64 0,.int .i64 0,.int .i64 0,.int .i64 0,
 .int .i64 0,.int .u64 0,.int .i64 0,.int .i64 0,.int .i64 0]).run Tryz.prog w= .ok () (w.setRow b (Xl k t i lt E I D bi bt mv)):=
 Qa3 h O (QaN k t i lt E I D bi bt mv M N)
theorem QeQ{w:World}{S:Nat->Prop}{p:Nat}{c:Core}{sv:Value}{lp yb mg:Nat}{SL:Nat->Prop}{mv ev:Value}(h:XD w S p c sv lp yb mg SL mv ev)(k:Nat):
  Calls Tryz.prog 95 #[.pointer (some ⟨p,0,none⟩),.int .i64 k] w (Qk (.agg (Xl k c.term 0 0 0 false (.slice none 0 0) 0 0 (.slice none 0 0))) w):=by
 have I:w.cell? ⟨p,3,none⟩=some (.int .u64 c.term):=Qb h.row 3;have ac:=Ql h.row;clear h;go_enter Tryz.func95,Tryz.ntmps95;go_upto_region 1 with fail
 have O:=Qf (w:=w) (.cells XC 76);have D:Qa Ze w (w.alloc (.cells XC 76)):=(Zr _ w).alloc _;have aa:=Qe D I (fun f=>f);have E:=Zh O;have W:=Zh D;have ab:p≠w.heap.size:=by omega
 clear O D I;change Code.wp _ _ _ _ (w.alloc (.cells XC 76));generalize w.alloc (.cells XC 76)=w1 at*
 generalize hb:w.heap.size=b at*
 have Q:=Zh hb;clear hb;have ad:=Qp4 E.out rfl (k:Int) (c.term:Int) 0 0 0 false (.slice none 0 0) 0 0 (.slice none 0 0) rfl rfl;have J:=Xr w1 b (Xl (k:Int) (c.term:Int) 0 0 0 false (.slice none 0 0) 0 0 (.slice none 0 0)) E.out;have N:=QL W.out (g:=b) (fun h=>by have:=Q.out;omega) (Xl (k:Int) (c.term:Int) 0 0 0 false (.slice none 0 0) 0 0 (.slice none 0 0));have Z:Hid ((Xl (k:Int) (c.term:Int) 0 0 0 false (.slice none 0 0) 0 0 (.slice none 0 0)).size =58):=Zh rfl;generalize Xl (k:Int) (c.term:Int) 0 0 0 false (.slice none 0 0) 0 0 (.slice none 0 0)=M at*
 have U:=Zh J;have Y:=Zh N;clear J N;go_wp2_with fail;refine bodyPost_ret (v:=.agg M) ?_ rfl ⟨rfl,Y.out⟩
 exact results_cell_row rfl _ _ _ _ _ _ _ rfl U.out Tryz.underlying76 rfl (Qbu Z.out)
end
section
open Go.RowKit Go.Acre
attribute [local go_sem ↓] LcG ScG
attribute [local go_sem] Sc1 Sc2 Sc3 Lc2 Lc3
theorem Qqr{x:XI}(h:x.2.2.oneCell'=true):(WH x).all (·.oneCell')=true:=by
 have:=QaN x.2.1.kind x.2.1.term x.2.1.idx x.2.1.lt x.2.1.com x.2.1.ok x.2.2 0 0 (.slice none 0 0) h rfl;unfold WH Mg.arr;rw[Array.all_append,this];simp[Value.oneCell']
def zeroS:Array Value:= #[.int .i64 0]++XC
theorem Qmw:(Tryz.prog.info? 112).map (fun i=>(i.zero,i.size,decide (i.bytes<=2000)))=some (some (.agg zeroS),59,true):=by kernel_rfl
theorem Qmv: ∃i,Tryz.prog.info? 112=some i/\i.zero=some (.agg zeroS)/\i.size=59/\i.bytes<=2000:=by
 have h:=Qmw
 cases hi:Tryz.prog.info? 112 with
 |none=>rw[hi] at h;cases h
 |
  some i=>
  rw[hi] at h;simp only[Option.map_some,Option.some.injEq,Prod.mk.injEq,decide_eq_true_eq] at h;exact⟨i,rfl,h.1,h.2.1,h.2.2⟩
theorem QcH(A E:Array Value)(o:Nat)(h:E.size=o+A.size):Array.foldl (fun D x=>D.setIfInBounds (o+x.snd) x.fst) E A.zipIdx 0 A.size=E.extract 0 o++A:=by
 have U:A.zipIdx.size=A.size:=by simp
 have key:= @Array.foldl_induction _ _ A.zipIdx (fun i D=>D.size=o+A.size/\(∀j,j<o->D[j]? =E[j]?)/\ ∀j,j<i->D[o+j]? =A[j]?) E ⟨h,fun _ _=>rfl,fun j I=>by omega⟩
  (fun D x=>D.setIfInBounds (o+x.snd) x.fst) (by
   intro i D ⟨J,M,N⟩;refine⟨by simpa using J,fun j I=> ?_,fun j I=> ?_⟩
   ·rw[Array.getElem?_setIfInBounds,if_neg (by simp;omega)]
    exact M j I
   have O:i.1<A.size:=by simpa using i.2
   simp only[Fin.getElem_fin,Array.getElem_zipIdx,Nat.zero_add];rw[Array.getElem?_setIfInBounds];by_cases hji:i.1=j
   ·rw[if_pos (by omega),if_pos (by omega)]
    subst hji;rw[Array.getElem?_eq_getElem O]
   ·rw[if_neg (by omega)]
    exact N j (by omega))
 rw[U] at key;apply Array.ext_getElem?;intro j;have Q:(E.extract 0 o).size =o:=by simp;omega
 by_cases I:j<o
 ·rw[Array.getElem?_append_left (by omega),key.2.1 j I,Array.getElem?_extract,if_pos (by omega),Nat.zero_add]
 ·rw[Array.getElem?_append_right (by omega),Q]
  by_cases hj2:j - o<A.size
  ·have:=key.2.2 (j - o) hj2
   rwa [show o+(j - o)=j by omega] at this
  ·rw[Array.getElem?_eq_none (by omega),Array.getElem?_eq_none (by omega)]
theorem Qks(n:Int)(h:A.size=58):Tryz.prog.built 112 [(0,.int .i64 n),(1,.agg A)]=some (#[.int .i64 n]++A):=by
 have E: ∀parts,Tryz.prog.built 112 parts=Instr.fill (([(0,1),(1,58)]:List (Nat×Nat)).toArray[·]?) zeroS parts:=fun parts=>by kernel_rfl
 rw[E];have D:=QcH A (zeroS.setIfInBounds 0 (.int .i64 n)) 1 (by rw[h];rfl);rw[h] at D;have J:(zeroS.setIfInBounds 0 (.int .i64 n)).extract 0 1= #[.int .i64 n]:=rfl;rw[J] at D;have M:(zeroS.setIfInBounds 0 (.int .i64 n)).size =59:=rfl;have I:zeroS.size=59:=rfl;simp[Instr.fill,Value.cells,h,I];generalize zeroS.setIfInBounds 0 (.int .i64 n)=Z at*
 rw[D]
theorem QlQ{B:Array Value}(h:B.size=59):Instr.fill (fun i=>some (i*59,59)) ((Array.range (1*59)).map ((Value.agg zeroS).cells[· %(Value.agg zeroS).cells.size]!)) [(0,.agg B)]=some B:=by
 have D:=QcH B ((Array.range (1*59)).map ((Value.agg zeroS).cells[· %(Value.agg zeroS).cells.size]!)) 0 (by simp;omega);have I:((Array.range (1*59)).map ((Value.agg zeroS).cells[· %(Value.agg zeroS).cells.size]!)).size =59:=by simp
 generalize (Array.range (1*59)).map ((Value.agg zeroS).cells[· %(Value.agg zeroS).cells.size]!)=Z at*
 rw[h] at D;have E:Z.extract 0 0= #[]:=by simp
 rw[E] at D;simp only[Nat.zero_add,Array.empty_append] at D;simp[Instr.fill,Value.cells,h,I];exact D
theorem Qfn{ops:Array Oper}{rest:List Oper}{o:Oper}{a:Act}{D:Exit->Act->World->Prop}(M:o.guard=none)(t:TypeId)(i j:Nat)(x y:Operand)(N:o.op= .build t #[(i,x),(j,y)])
  (E I:Value) (O:a.eval x=E) (Q:a.eval y=I) (cells:Array Value) (J:P.built t [(i,E),(j,I)]=some cells) (h:wpList P ops D rest (a.put o.dst (.agg cells)) w):wpList P ops D (o::rest) a w:=by
 refine wpList_buildTo M t _ N _ rfl cells ?_ h
 simpa [O,Q] using J
theorem Qr2{ops:Array Oper}{rest:List Oper}{o:Oper}{a:Act}{E:Exit->Act->World->Prop}(M:o.guard=none)(t e:TypeId)(x:Operand)(O:o.op= .buildSlice t 1 #[(0,x)])
  (cells:Array Value) (I:Value) (Y:a.eval x=I) (D:TypeInfo) (z:Value)
  (W:P.underlying t=some (.slice e)) (N:P.info? e=some D) (Z:D.zero=some z) (U: ¬1*D.size>2^24) (Q: ¬1*D.size=0)
  (J:Instr.fill (fun i=>some (i*D.size,D.size)) ((Array.range (1*D.size)).map (z.cells[· %z.cells.size]!)) [(0,I)]=some cells)
  (h:wpList P ops E rest (a.put o.dst (.slice (some ⟨w.heap.size,0,none⟩) 1 1)) (w.alloc (.cells cells e))):wpList P ops E (o::rest) a w:=by
 refine wpList_buildSlice M t e 1 _ O cells D z W N Z U Q ?_ h
 simpa [Y] using J
theorem XA.step{x:XI}(h:XA w S x)(E:Qa T w w')(J: ∀g,T g->S g)(I: ∀g,g<w.heap.size->U g->S g):XA w' U x:=
 ⟨Qr.X3 h.1 E (fun g D M=>(h.2.2.2.2 g D).2 (J g M)),h.2.1,h.2.2.1,h.2.2.2.1,fun g D=>⟨Zu (h.2.2.2.2 g D).1 E.size,fun hs=>(h.2.2.2.2 g D).2 (I g (h.2.2.2.2 g D).1 hs)⟩⟩
theorem Qp8{L:List XI}{x:XI}{B:Array Value}(av:XA w S x)(ak:WH x=B)(al:Q2 w U p c (QM q))(E:Qag w S q c.n o Y Z L)
  (N: ∀i,U i->S i/\i≠q/\Z.ownBlock≠some i) (ae: ∀i,S i->i<w.heap.size) (am:Fit c) (ay:L.length<20000) (ar:Qa Ze w w0) (au:Qa (fun i=>Z.ownBlock=some i) w w6)
  (ao:w6.heap[q]? =some (.cells (outA o Y Z) 57 (0,0))) (ai:w6.ownsRow 0 112 59 (.slice (some ⟨g,0,none⟩) (L.length+1) cap) (L.length+1) (Zi L++B.toList)) (ac:Z.ownBlock=some g\/g=w0.heap.size+1) (aw: ∀k,x.2.2.ownBlock=some k->q<=k):
  QU (.tuple #[]) S p q c (o.send x.1 x.2.1) w (.returned (.tuple #[])) (w6.setCell ⟨q,8,none⟩ (.slice (some ⟨g,0,none⟩) (L.length+1) cap)):=by
 generalize hV:Value.slice (some ⟨g,0,none⟩) (L.length+1) cap=V at*
 have M:V.ownBlock=some g:=by rw[<-hV];rfl
 have ap:=ae q E.sq;have az:=ar.size;have ag:S g\/w.heap.size<=g:=by
  rcases ac with h|h
  ·exact .inl (E.sb g h).1
  ·exact .inr (by omega)
 have ah:g≠q:=by
  rcases ac with h|h
  ·exact (E.sb g h).2
  ·omega
 have an: ∀i,U i->i≠g:=by
  rintro i J rfl;rcases ac with h|h
  ·exact (N i J).2.2 h
  ·have:=ae i (N i J).1
   omega
 have O:Qa (fun i=>Z.ownBlock=some i\/i=q) w (w6.setCell ⟨q,8,none⟩ V):=(au.mono (T:=fun i=>Z.ownBlock=some i\/i=q) (fun i _ h=>.inl h)).setCell (p:=⟨q,8,none⟩) (fun _=>.inr rfl) V;have ab: ∀i,(Z.ownBlock=some i\/i=q)->S i:=fun i h=>by
  rcases h with h|rfl
  ·exact (E.sb i h).1
  ·exact E.sq
 have ad: ∀i,i<w.heap.size->(U i\/i=q\/i=g)->S i:=fun i J h=>by
  rcases h with h|rfl|rfl
  ·exact (N i h).1
  ·exact E.sq
  ·rcases ag with h|h
   ·exact h
   ·omega
 have aq:=Qi (o:=8) ao V;have aj:Qa (fun i=>i=q) w6 (w6.setCell ⟨q,8,none⟩ V):=(Zr (fun i=>i=q) w6).setCell (p:=⟨q,8,none⟩) (fun _=>rfl) V;refine⟨rfl,fun i=>U i\/i=q\/i=g,⟨⟨U,Y,V,L++[x],?_,⟨aq,?_,?_,?_,?_,.inr (.inl rfl),?_,?_,?_⟩,?_,?_⟩,am⟩,?_,O.mono (fun i _ h=>ab i h)⟩
 ·refine al.upd O (fun i J h=> ?_)
  rcases h with h|h
  ·exact (N i J).2.2 h
  ·exact (N i J).2.1 h
 ·show o.sends++[(x.1,x.2.1)]=_
  rw[E.sends,List.map_append];rfl
 ·have:(L++[x]).length =L.length+1:=by simp
  rw[this,Ql8,Zi,Zi,List.append_nil,ak];exact Q3 ai aj (fun k I e=>by
   rw[M] at I
   cases I
   exact ah e)
 ·intro y af
  rcases List.mem_append.1 af with D|D
  ·exact (E.at_ y D).step O ab ad
  ·rw[List.mem_singleton] at D
   subst D;exact av.step O ab ad
 ·rcases E.base with D|⟨D,k,Q,W,aa⟩
  ·exact .inl D
  ·exact .inr ⟨D,k,Q.upd O (fun h=>aa (ab k h)),Zu W O.size,fun h=>aa (ad k W h)⟩
 ·intro k I
  rw[M] at I
  cases I
  exact⟨.inr (.inr rfl),ah⟩
 ·simp
  omega
 ·refine⟨fun y af k I=> ?_,fun k I=> ?_,E.new.2.2⟩
  ·rcases List.mem_append.1 af with D|D
   ·exact E.new.1 y D k I
   ·rw[List.mem_singleton] at D
    subst D;exact aw k I
  ·rw[M] at I
   cases I
   rcases ac with h|h
   ·exact E.new.2.1 g h
   ·omega
 ·intro i J
  refine⟨.inl J,(N i J).2.1,fun h=> ?_⟩;rw[M] at h;simp only[Option.some.injEq] at h;exact an i J h.symm
 ·rintro i (h|rfl|rfl)
  ·exact Zu (ae i (N i h).1) O.size
  ·exact Zu ap O.size
  ·have Q:=ai.2
   rcases Q with ⟨Q,_⟩|⟨ax,_,_,W,_,aa,_⟩
   ·rw[Q] at M
    cases M
   ·rw[W] at M
    simp only[Value.ownBlock,Option.some.injEq] at M;subst M;exact Zu (Ql aa) aj.size
 ·rintro i (h|rfl|rfl)
  ·exact .inl (N i h).1
  ·exact .inl E.sq
  ·exact ag
theorem Qdf(h:St w S p q c o)(x:XI)(al:XA w S x)(ah:o.sends.length<20000)(ao: ∀k,x.2.2.ownBlock=some k->q<=k):
  Calls Tryz.prog 88 #[.int .i64 (x.1:Nat),.agg (x.2.1.arr x.2.2),.pointer (some ⟨q,0,none⟩)] w (QU (.tuple #[]) S p q c (o.send x.1 x.2.1) w):=by
 have ac:=Zh al;have aD:=Zh ao;obtain⟨A,N⟩: ∃A,A=x.2.1.arr x.2.2:=⟨_,rfl⟩
 have J:Hid (A.size=58):=Zh (by rw[N];exact QcY _ _ _ _ _ _ _ _ _ _);have Q:Hid (WH x= #[.int .i64 (x.1:Nat)]++A):=Zh (by rw[N];unfold WH;rfl);rw[<-N];clear N;obtain⟨⟨aI,aJ,I,L,af,Z,ae,Y⟩,ag⟩:=h;have M:=Zh Z;have av:=Zh af;have az:=Zh ae;have ax:=Zh Y;have aw:=Zh ag;have ak:=Z.row;clear Z af ae Y ag al ao;go_enter Tryz.func88,Tryz.ntmps88;go_upto_region 1 with fail
 have D:Qa Ze w (w.alloc (.cells A 76)):=(Zr _ w).alloc _;have am:=Qf (w:=w) (.cells A 76);have aK:(w.alloc (.cells A 76)).cell? ⟨q,8,none⟩=some I:=Qb (D.keep ak (fun f=>f)) 8;have aO:=Xc am J.out;generalize w.alloc (.cells A 76)=w1 at*
 generalize hwb:w.heap.size=b at*
 have aC:=Zh hwb;clear hwb;have aE:=Qks (x.1:Int) J.out;have W:(#[Value.int .i64 (x.1:Nat)]++A).size =59:=by rw[Array.size_append,J.out];rfl
 have aG:=Q;generalize #[Value.int .i64 (x.1:Nat)]++A=B at*
 have ar:=Zh W;have ai:=QlQ W;obtain⟨E,aj,ap,O,aF⟩:=Qmv;rw[<-O] at ai;clear W;have ay:Hid (w1.ownsRow 0 112 59 I L.length (Zi L)):=Zh (Q3 M.out.own D (fun _ _ f=>f));have aq:Hid (∀u∈B.toList,u.oneCell'=true):=Zh (fun u D=>by
  have ad:=Qqr (x:=x) ac.out.2.1;rw[Q.out] at ad;exact Array.all_eq_true_iff_forall_mem.1 ad u (by simpa using D))
 have U:Hid (L.length<20000):=Zh (by have:=M.out.sends;rw[this,List.length_map] at ah;exact ah);have au:Hid ((L.length+1)*E.bytes<=140737488355328):=Zh (by
  have:=U.out;have aN:(L.length+1)*E.bytes<=20000*2000:=Nat.mul_le_mul (by omega) aF;omega)
 go_wp2_with (first
  |(refine wpList_load_row rfl 76 _ rfl _ rfl _ _ _ _ am Tryz.underlying76 rfl (Qbu J.out) ?_)
  |(refine Qfn rfl 112 0 1 _ _ rfl _ _ rfl rfl B aE ?_)
  |(refine Qr2 rfl 55 112 _ rfl B _ rfl E (.agg zeroS) Tryz.underlying55 aj ap (by rw[O];decide) (by rw[O];decide) ai ?_;have an:=Qf (w:=w1) (.cells B 112))
  |(refine wpList_append_lies _ rfl _ _ _ rfl 0 112 E (.agg zeroS) 59 E.bytes Tryz.underlying55 aj ap O rfl (by rfl) (by omega) I L.length (Zi L) rfl (Q3 ay.out ((Zr Ze w1).alloc _) (fun _ _ f=>f)) ⟨w1.heap.size,0,none⟩ 1 1 B.toList rfl (by rw[Array.length_toList,ar.out]) (World.news_of_block an) aq.out (by omega) (by have:=U.out;unfold maxLen;omega) (au.out) (Zz _) (w1.heap.size+1) (by simp) ?_;intro g cap w6 hown6 hgrow hat Y;have ab:Qa (fun i=>I.ownBlock=some i) w w6:=((D.alloc _).mono (fun _ _ f=>f.elim)).X8 hgrow (fun k hk _=>hk);have aa:=ab.keep ak (fun e=>(M.out.sb _ e).2 rfl);have aL:w6.cell? ⟨q,8,none⟩=some I:=Qb aa 8;have aM:=Qg aa 8 none;have aH:=Zh hgrow;have aB:=Zh hown6;have aA:=Zh ab;clear hgrow hown6 ab an))
 go_end0;exact Qp8 ac.out Q.out av.out M.out az.out (by rw[aC.out];exact ax.out) aw.out U.out D aA.out aa aB.out hat aD.out
end
section
open Go.RowKit Go.Acre
attribute [local go_sem ↓] LcG ScG
attribute [local go_sem] Sc1 Sc2 Sc3 Lc2 Lc3
theorem St.open(h:St w S p q c o): ∃D J N M E mv I,XD w D p c (QM q) J N M E mv I/\(∀i,D i->S i)/\(∀i,S i->i<w.heap.size)/\Fit c:=by
 obtain⟨⟨D,aa,ac,L,Q,ab,O,Y⟩,U⟩:=h;obtain⟨J,N,M,E,mv,I,Z⟩:=Q;exact⟨D,J,N,M,E,mv,I,Z,fun i W=>(O i W).1,Y,U⟩
theorem QU.trans{e:Ending}(E:Qa Ze w w0)(h:QU v S p q c' o' w0 e w'):QU v S p q c' o' w e w':=by
 obtain⟨O,I,J,M,N⟩:=h;refine⟨O,I,J,fun i D=> ?_,(E.mono (fun _ _ f=>f.elim)).trans N (fun i _ D=>D)⟩;rcases M i D with h|h
 ·exact .inl h
 ·exact .inr (Zt E.size h)
theorem St.drew'(h:St w S p q c o):St w.drew S p q c o:=h.Qc (Zr _ w).drew
theorem Qe5(w:World)(S:Nat->Prop)(x:XI)(D:x.2.2= .slice none 0 0)(J:x.2.1.es=[])(E:x.2.1.bi=0/\x.2.1.bt=0:=by exact⟨rfl,rfl⟩):XA w S x:=by
 refine⟨?_,by rw[D];rfl,E.1,E.2,fun g I=> ?_⟩
 ·rw[D,J]
  exact Qr.nil w 24
 ·rw[D] at I
  cases I
theorem Qaq(h:St w S p q c o)(d k x:Nat)(E:Bool)(au:o.sends.length<20000):
  Calls Tryz.prog 97 #[.pointer (some ⟨p,0,none⟩),.int .i64 d,.int .i64 k,.bool E,.int .u64 x] w (QU (.tuple #[]) S p q c (c.Zk d k E x o) w):=by
 obtain⟨ay,aD,aG,aE,az,mv,aA,N,aq,aw,ar⟩:=h.open;have Y:=Zh (QeQ N k);have HP:=Zh (Ql N.row);have ak:Hid (∀w',Qa Ze w w'->w'.cell? ⟨p,22,none⟩=some (QM q)):=Zh (fun w' hu=>Qb (hu.keep N.row (fun f=>f)) 22);have H:=Zh h;clear h N aq aw ar;go_enter Tryz.func97,Tryz.ntmps97;go_wp2_with fail;refine Y.out.mono ?_
 rintro e D ⟨rfl,J⟩;have Q:(Xl (k:Int) (c.term:Int) 0 0 0 false (.slice none 0 0) 0 0 (.slice none 0 0)).size =58:=rfl;have af:=QaN (k:Int) (c.term:Int) 0 0 0 false (.slice none 0 0) 0 0 (.slice none 0 0) rfl rfl;have ae:(((Xl (k:Int) (c.term:Int) 0 0 0 false (.slice none 0 0) 0 0 (.slice none 0 0)).setIfInBounds 6 (.bool E)).setIfInBounds 3 (.int .u64 (x:Int)))=(⟨k,c.term,x,0,0,E,[],0,0⟩:Mg).arr (.slice none 0 0):=rfl;have W:=Zh ae;have ab:(Xl (k:Int) (c.term:Int) 0 0 0 false (.slice none 0 0) 0 0 (.slice none 0 0))[6]? =some (.bool false):=rfl;have aa:(Xl (k:Int) (c.term:Int) 0 0 0 false (.slice none 0 0) 0 0 (.slice none 0 0))[3]? =some (.int .u64 0):=rfl;clear ae;generalize Xl (k:Int) (c.term:Int) 0 0 0 false (.slice none 0 0) 0 0 (.slice none 0 0)=A at*
 go_upto_region 1 with (refine wpList_store_row rfl 76 _ _ rfl _ _ rfl rfl _ _ (Qf (w:=D) (.cells XC 76)) (Qbu Q) (by rw[Q];rfl) af ?_)
 have aj:=Qf (w:=D) (.cells XC 76);have I:=Xr _ _ A aj;have ah:Qa Ze w ((D.alloc (.cells XC 76)).setRow D.heap.size A):=QL (J.alloc _) (g:=D.heap.size) (fun h=>by have:=J.size;omega) A;have Z:Hid (p≠D.heap.size/\w.heap.size<=D.heap.size):=Zh ⟨by have:=HP.out;have:=J.size;omega,J.size⟩;change Code.wp _ _ _ _ ((D.alloc (.cells XC 76)).setRow D.heap.size A);generalize (D.alloc (.cells XC 76)).setRow D.heap.size A=w2 at*
 generalize D.heap.size=b at*
 have ad:=Qb I 6;have ac:=Qb I 3;rw[ab] at ad;rw[aa] at ac;have ao:=Qg I 6 none;have an:=Qg I 3 none;have ag:=Qi (o:=6) I (.bool E);have U:=Qi (o:=3) ag (.int .u64 (x:Int));rw[W.out] at U;have ai:=(ah.setCell (p:=⟨b,6,none⟩) (fun h=>by have:=Z.out.2;simp only at h;omega) (.bool E)).setCell (p:=⟨b,3,none⟩) (fun h=>by have:=Z.out.2;simp only at h;omega) (.int .u64 (x:Int));have al:=Zh U;have O:=Zh ai;clear U ai ag I ah aj ab aa af;go_upto_region 2 with fail
 generalize (w2.setCell ⟨b,6,none⟩ (.bool E)).setCell ⟨b,3,none⟩ (.int .u64 (x:Int))=w3 at*
 have aB:w3.cell? ⟨p,22,none⟩=some (.func (.func 88) #[] #[.pointer (some ⟨q,0,none⟩)]):=ak.out _ O.out;have ap:((⟨k,c.term,x,0,0,E,[],0,0⟩:Mg).arr (.slice none 0 0)).size =58:=rfl;have am:=Zh (Qdf (H.out.Qc O.out).drew' (d,⟨k,c.term,x,0,0,E,[],0,0⟩,.slice none 0 0) (Qe5 _ _ _ rfl rfl) au (fun k av=>by cases av));generalize (⟨k,c.term,x,0,0,E,[],0,0⟩:Mg).arr (.slice none 0 0)=M at*
 have aC:(LdC ⟨b,0,none⟩ 58).run Tryz.prog w3.drew= .ok M w3.drew:=Xc (show w3.drew.heap[b]? =_ from al.out) ap;clear Q W Y ad ac ao an;go_region_with (go_at_call 88;refine Calls.mono am.out ?_;rintro e aF ⟨rfl,ax⟩)
 all_goals
  go_wp2_with fail;go_end0;exact QU.trans O.out (QU.trans (Zr _ w3).drew ⟨rfl,ax⟩)
theorem Qak(c:Core)(D I:Nat)(E:Value)(h:d<5):(QK c D I E)[12+d]? =some (.int .u64 (gd c.next d:Nat)):=by
 rcases (show d=0\/d=1\/d=2\/d=3\/d=4 by omega) with rfl|rfl|rfl|rfl|rfl<;>rfl
theorem Qbi(c:Core)(D I:Nat)(E:Value)(h:d<5):(QK c D I E)[17+d]? =some (.int .u64 (gd c.mtch d:Nat)):=by
 rcases (show d=0\/d=1\/d=2\/d=3\/d=4 by omega) with rfl|rfl|rfl|rfl|rfl<;>rfl
def Qbc(i:Nat)(l:List En)(w:World)(e:Ending)(w':World):Prop:=
 ∃a n cap,e= .returned (.slice a n cap)/\QA w' (.slice a n cap) i l/\(∀g,(Value.slice a n cap).ownBlock =some g->w.heap.size<=g/\g<w'.heap.size)/\Qa Ze w w'
theorem Qcz{l:List En}(h:Q4 w S p n bi bt l mv Y na)(x:Nat)(D:Int)(Q:x<=1000000)(N:1<=D/\D<=4611686018427387904):
  Calls Tryz.prog 87 #[.pointer (some ⟨p,0,none⟩),.int .u64 x,.int .i64 D] w (Qbc (x - 1) (Xs bi l x D.toNat) w):=by
 unfold Xs;split
 ·rename_i ho
  refine (Qqp h x D Q N.1 ho).mono ?_
  rintro e w' ⟨rfl,I⟩;exact⟨_,_,_,rfl,Qr.nil w' 24,fun g E=>(by cases E),I⟩
 ·rename_i ho
  refine (Qqq h x D N (by omega) (by omega)).mono ?_
  rintro e w' ⟨g,rfl,E,J,I⟩;have O:=Ql J;generalize hL:(l.drop (x - bi - 1)).take D.toNat=L at*
  refine⟨_,_,_,rfl,?_,fun k M=> ?_,I⟩
  ·refine⟨by rw[Q5],_,_,rfl,Zf _,?_,fun e=>(by cases e),fun _=>⟨g,0,rfl,fun j hj=> ?_⟩⟩
   ·have U:=h.fit
    have W:L.length<=l.length:=by rw[<-hL,List.length_take,List.length_drop];omega
    unfold maxLen;omega
   ·rw[Nat.zero_add,Qb J j]
    simp
  ·simp only[Value.ownBlock,Option.some.injEq] at M
   subst M;exact⟨E,O⟩
theorem QcS(h:St w S p q c o)(aX:c.role=2)(d:Nat)(au:d<5)(aE:o.sends.length<20000):
  Calls Tryz.prog 90 #[.pointer (some ⟨p,0,none⟩),.int .i64 d] w (QU (.tuple #[]) S p q c (o.send d (c.lacks d)) w):=by
 obtain⟨a7,a1,bn,bm,a8,mv,a9,Y,aS,aj,ac⟩:=h.open;have ao:Hid (∀w',Qa Ze w w'-> ∀k:Nat,Calls Tryz.prog 95 #[.pointer (some ⟨p,0,none⟩),.int .i64 k] w' (Qk (.agg (Xl k c.term 0 0 0 false (.slice none 0 0) 0 0 (.slice none 0 0))) w')):=Zh (fun w' hu k=>QeQ (Y.Qc hu) k);have HP:=Zh (Ql Y.row);obtain⟨a2,n2,_⟩:=ac.lead aX d au;have aV:=ac.cap;have aB:=Zh (Qa7 Y.log (gd c.next d - 1) (by omega));have ab:=Zh Y;have aH:Hid (Fit c/\gd c.next d<=20001):=Zh ⟨ac,by have:=ac.cap;omega⟩;have H:=Zh h;have c5:=Y.c5;have ah:w.cell? ⟨p,12+d,none⟩=some (.int .u64 (gd c.next d:Nat)):=(Qb Y.row _).trans (Qak _ _ _ _ au);have ak:IntKind.u64.wrap ((gd c.next d:Int) - 1)=((gd c.next d - 1:Nat):Int):=by rw[IntWalk.u64_in _ (by omega)];omega
 have bd:(0:Int)<=d:=by omega
 have be:(d:Int)<5:=by omega
 have aW: ¬(5:Int)<=d:=by omega
 have af:Hid (gd c.next d=gd c.next d - 1+1):=Zh (by omega);generalize gd c.next d - 1=x at*
 clear h Y aS aj ac a2 n2 aV;go_enter Tryz.func90,Tryz.ntmps90;go_wp2_with fail;refine aB.out.mono ?_
 rintro e a4 ⟨rfl,N⟩;unfold XT;have aW: ¬(5:Int)<=d:=by omega
 have am:Hid (∀w',Qa Ze w w'->w'.cell? ⟨p,22,none⟩=some (.func (.func 88) #[] #[.pointer (some ⟨q,0,none⟩)])):=Zh (fun w' hu=>Qb (hu.keep ab.out.row (fun f=>f)) 22);have E:Hid (c.lacks d=match Qu c.bi c.bt c.l x with|none=>c.own 5|some t=>⟨3,c.term,x,t,c.commit,false,Xs c.bi c.l (x+1) 8,0,0⟩):=Zh (by
  unfold Core.lacks;rw[af.out,Nat.add_sub_cancel]
  cases Qu c.bi c.bt c.l x<;>rfl)
 clear aB
 cases hT:Qu c.bi c.bt c.l x with
 |
  none=>
  rw[hT] at E;have E:Hid (c.lacks d=c.own 5):=E;rw[E.out];simp only[Option.getD_none,Option.isSome_none];have D:Qa Ze w a4.drew:=N.drew;have aU:=am.out _ N;have aI:Hid (∀w',Qa Ze w w'->Calls Tryz.prog 95 #[.pointer (some ⟨p,0,none⟩),.int .i64 5] w' (Qk (.agg ((c.own 5).arr (.slice none 0 0))) w')):=Zh (fun w' hu=>ao.out w' hu 5);have aq:Hid (∀w',Qa Ze w w'->Calls Tryz.prog 88 #[.int .i64 d,.agg ((c.own 5).arr (.slice none 0 0)),.pointer (some ⟨q,0,none⟩)] w' (QU (.tuple #[]) S p q c (o.send d (c.own 5)) w')):=Zh (fun w' hu=>Qdf (H.out.Qc hu) (d,c.own 5,.slice none 0 0) (Qe5 _ _ _ rfl rfl) aE (fun k av=>by cases av));generalize (c.own 5).arr (.slice none 0 0)=M at*
  clear ah c5 ak;go_upto_region 3 with fail
  go_region_with (first
   |(go_at_call 95;refine (aI.out _ D).mono ?_;rintro e w2 ⟨rfl,I⟩;have bc:=am.out _ (D.trans I (fun _ _ f=>f)))
   |(go_at_call 88;refine Calls.mono (aq.out _ (D.trans I (fun _ _ f=>f))) ?_;rintro e a5 ⟨rfl,aw⟩))
  all_goals
   go_wp2_with fail;go_end0;exact QU.trans (D.trans I (fun _ _ f=>f)) ⟨rfl,by rw[E.out];exact aw⟩
 |
  some t=>
  rw[hT] at E;have E:Hid (c.lacks d=⟨3,c.term,x,t,c.commit,false,Xs c.bi c.l (x+1) 8,0,0⟩):=E;rw[E.out];simp only[Option.getD_some,Option.isSome_some];have an:Hid (∀w',Qa Ze w w'->Calls Tryz.prog 95 #[.pointer (some ⟨p,0,none⟩),.int .i64 3] w' (Qk (.agg (Xl 3 (c.term:Int) 0 0 0 false (.slice none 0 0) 0 0 (.slice none 0 0))) w')):=Zh (fun w' hu=>ao.out w' hu 3);have a6:Hid (Xl 3 (c.term:Int) 0 0 0 false (.slice none 0 0) 0 0 (.slice none 0 0)=Xl 3 (c.term:Int) 0 0 0 false (.slice none 0 0) 0 0 (.slice none 0 0)):=Zh rfl;generalize hA:Xl 3 (c.term:Int) 0 0 0 false (.slice none 0 0) 0 0 (.slice none 0 0)=A at an;have aC:A.size=58:=by rw[<-hA];rfl
  have aD:A.all (·.oneCell')=true:=by rw[<-hA];exact QaN _ _ _ _ _ _ _ _ _ _ rfl rfl
  have ae:=Zh hA;clear hA;go_upto_region 4 with fail
  go_wp2_with (first|(go_at_call 95;refine (an.out _ N).mono ?_;rintro e w2 ⟨rfl,I⟩;have ay:=Qf (w:=w2) (.cells XC 76))|refine wpList_store_row rfl 76 _ _ rfl _ _ rfl rfl _ _ ay (Qbu aC) (by rw[aC];rfl) aD ?_);have J:=Xr _ _ A ay;have ax:Qa Ze w ((w2.alloc (.cells XC 76)).setRow w2.heap.size A):=QL ((N.trans I (fun _ _ f=>f)).alloc _) (g:=w2.heap.size) (fun h=>by have:=N.size;have:=I.size;omega) A;have ap:Hid (p≠w2.heap.size/\w.heap.size<=w2.heap.size):=Zh ⟨by have:=HP.out;have:=N.size;have:=I.size;omega,by have:=N.size;have:=I.size;omega⟩;change Code.wp _ _ _ _ ((w2.alloc (.cells XC 76)).setRow w2.heap.size A);clear ay I N;generalize (w2.alloc (.cells XC 76)).setRow w2.heap.size A=w3 at*
  generalize w2.heap.size=b at*
  have aL:w3.cell? ⟨b,3,none⟩=some (.int .u64 0):=by rw[Qb J 3,<-ae.out];rfl
  have aM:w3.cell? ⟨b,4,none⟩=some (.int .u64 0):=by rw[Qb J 4,<-ae.out];rfl
  have aN:w3.cell? ⟨b,5,none⟩=some (.int .u64 0):=by rw[Qb J 5,<-ae.out];rfl
  have aO:=Qg J 3 none;have aP:=Qg J 4 none;have aQ:=Qg J 5 none;have a3:w3.cell? ⟨p,6,none⟩=some (.int .u64 c.commit):=Qb (ax.keep ab.out.row (fun f=>f)) 6;have bj: ¬p=b:=ap.out.1;have aJ:=Zh J;have aK:=Zh ax;clear J ax c5 ah ak ao an aD;go_upto_region 5 with fail
  simp only[Act.put];go_cut [44] (fun _ Z=>Z.heap[b]? =some (.cells (Xl 3 (c.term:Int) (x:Int) (t:Int) (c.commit:Int) false (.slice none 0 0) 0 0 (.slice none 0 0)) 76 (0,0))/\Qa Ze w Z)
  case first=>
   go_region
   all_goals
    go_wp2_with fail;go_meet
    case rel=>
     have ai:=Qi (o:=5) (Qi (o:=4) (Qi (o:=3) aJ.out (.int .u64 (x:Int))) (.int .u64 (t:Int))) (.int .u64 (c.commit:Int));rw[<-ae.out] at ai;refine⟨ai,?_⟩;have aT:=ap.out.2;exact (((aK.out.setCell (p:=⟨b,3,none⟩) (fun h=>by simp only at h;omega) _).setCell (p:=⟨b,4,none⟩) (fun h=>by simp only at h;omega) _).setCell (p:=⟨b,5,none⟩) (fun h=>by simp only at h;omega) _).drew
  case rest=>
   obtain⟨aF,ad⟩:=hcut;clear aL aM aN aO aP aQ a3;have c5:=(ab.out.Qc ad).c5;have ah:wc.cell? ⟨p,12+d,none⟩=some (.int .u64 (gd c.next d:Nat)):=(Qb (ab.out.Qc ad).row _).trans (Qak _ _ _ _ au);have aA:Hid (∀w',Qa Ze wc w'->Calls Tryz.prog 87 #[.pointer (some ⟨a1,0,none⟩),.int .u64 (gd c.next d:Nat),.int .i64 8] w' (Qbc x (Xs c.bi c.l (x+1) 8) w')):=Zh (fun w' hu=>by
    have:=Qcz ((ab.out.Qc ad).Qc hu).log (gd c.next d) 8 (by have:=aH.out.2;omega) (by decide);rw[show gd c.next d - 1=x by have:=af.out;omega,show gd c.next d=x+1 from af.out] at this;rw[show gd c.next d=x+1 from af.out];exact this)
   have ar:=Zh ad;have ag:=Zh aF;have az:Hid (∀w',Qa Ze wc w'->w'.cell? ⟨b,7,none⟩=some (.slice none 0 0)/\w'.frozen? ⟨b,7,none⟩=false):=Zh (fun w' hu=>⟨Qb (hu.keep ag.out (fun f=>f)) 7,Qg (hu.keep ag.out (fun f=>f)) 7 none⟩);clear aF ad;generalize gd c.next d=y at*
   go_upto_region 6 with fail
   have D:=(Zr Ze wc).drew;go_cut [44] (fun _ Z=> ∃a n cap,Z.heap[b]? =some (.cells (Xl 3 (c.term:Int) (x:Int) (t:Int) (c.commit:Int) false (.slice a n cap) 0 0 (.slice none 0 0)) 76 (0,0))/\QA Z (.slice a n cap) x (Xs c.bi c.l (x+1) 8)/\(∀g,(Value.slice a n cap).ownBlock =some g->w.heap.size<=g/\g<Z.heap.size/\g≠b)/\Qa Ze w Z)
   case first=>
    go_region_with (go_at_call 87;refine (aA.out _ D).mono ?_;rintro e w5 ⟨Q,W,U,rfl,al,O,aa⟩;obtain⟨z7,g7⟩:=az.out _ (D.trans aa (fun _ _ f=>f)))
    all_goals
     go_wp2_with fail;go_meet
     case rel=>
      have aj:=Ql ag.out;have bg:wc.drew.heap.size=wc.heap.size:=rfl;have aG:=D.trans aa (fun _ _ f=>f);have aT:=ap.out.2;have aZ:Qa (fun i=>i=b) w5 (w5.setCell ⟨b,7,none⟩ (.slice Q W U)):=(Zr (fun i=>i=b) w5).setCell (p:=⟨b,7,none⟩) (fun _=>rfl) _;refine⟨Q,W,U,Qi (o:=7) (aG.keep ag.out (fun f=>f)) (.slice Q W U),Qr.X3 al aZ (fun g hg e=> ?_),fun g hg=> ?_,?_⟩
      ·subst e
       have:=(O _ hg).1;omega
      ·have ai:=O _ hg
       have bb:=ar.out.size;refine⟨by omega,by simpa using ai.2,fun e=>by omega⟩
      ·exact (ar.out.trans aG (fun _ _ f=>f)).setCell (p:=⟨b,7,none⟩) (fun h=>by simp only at h;omega) _
   case rest=>
    obtain⟨Q,W,U,aY,al,O,aa⟩:=hcut;clear ar aA az D;have a0:=O;have aq:Hid (∀w',Qa Ze wc w'->Calls Tryz.prog 88 #[.int .i64 d,.agg (Xl 3 (c.term:Int) (x:Int) (t:Int) (c.commit:Int) false (.slice Q W U) 0 0 (.slice none 0 0)),.pointer (some ⟨q,0,none⟩)] w' (QU (.tuple #[]) S p q c (o.send d ⟨3,c.term,x,t,c.commit,false,Xs c.bi c.l (x+1) 8,0,0⟩) w')):=Zh (fun w' hu=>Qdf (H.out.Qc (aa.trans hu (fun _ _ f=>f))) (d,⟨3,c.term,x,t,c.commit,false,Xs c.bi c.l (x+1) 8,0,0⟩,.slice Q W U) ⟨al.Qc hu,rfl,rfl,rfl,fun g hg=>⟨Zu (O g hg).2.1 hu.size,fun ak=>by
     obtain⟨_,_,_,_,_,_,_,_,_,aj,_⟩:=H.out.open;have:=aj g ak;have:=(O g hg).1;omega⟩⟩ aE (fun k av=>by
     have ba:=(O k av).1;obtain⟨_,bk⟩:=H.out.Qih;omega))
    have aR:(Xl 3 (c.term:Int) (x:Int) (t:Int) (c.commit:Int) false (.slice Q W U) 0 0 (.slice none 0 0)).size =58:=rfl;generalize Xl 3 (c.term:Int) (x:Int) (t:Int) (c.commit:Int) false (.slice Q W U) 0 0 (.slice none 0 0)=M at*
    have aU:=am.out _ aa;have bh:(LdC ⟨b,0,none⟩ 58).run Tryz.prog wc.drew= .ok M wc.drew:=Xc (show wc.drew.heap[b]? =_ from aY) aR;clear al O a0 c5 ah;go_upto_region 7 with fail
    have D:=(Zr Ze wc).drew;go_region_with (go_at_call 88;refine Calls.mono (aq.out _ D) ?_;rintro e a5 ⟨rfl,aw⟩)
    all_goals
     go_wp2_with fail;go_end0;exact QU.trans (aa.trans D (fun _ _ f=>f)) ⟨rfl,by rw[E.out];exact aw⟩
theorem Qb4(id:Nat)(f:Nat->Mg): ∀(r k:Nat) (o:Ou),Q8 id f (r+1) k o=if k+r=id then Q8 id f r k o else (Q8 id f r k o).send (k+r) (f (k+r))
 |0,k,o=>by simp[Q8]
 |
  r+1,k,o=>by
  rw[Q8,Qb4 id f r (k+1)]
  have e:k+1+r=k+(r+1):=by omega
  rw[e,Q8]
theorem QeM(id:Nat)(f:Nat->Mg): ∀(r k:Nat) (o:Ou),(Q8 id f r k o).sends.length <=o.sends.length+r
 |0,_,_=>Zf _
 |
  r+1,k,o=>by
  rw[Q8]
  refine Zt (QeM id f r (k+1) _) ?_
  split
  ·omega
  ·simp[Ou.send]
   omega
def Qft(w:World)(S:Nat->Prop)(p q:Nat)(c:Core)(f:Nat->Mg):Prop:=
 ∀(d:Nat) (w':World) (S':Nat->Prop) (o':Ou),d<c.n->d≠c.id->St w' S' p q c o'->(∀i,S' i->S i\/w.heap.size<=i)->Qa S w w'->o'.sends.length<20000->
  Calls Tryz.prog 90 #[.pointer (some ⟨p,0,none⟩),.int .i64 d] w' (QU (.tuple #[]) S' p q c (o'.send d (f d)) w')
theorem Qom(h:St w S p q c o)(f:Nat->Mg)(af:Qft w S p q c f)(aJ:o.sends.length<19000):
  Calls Tryz.prog 89 #[.pointer (some ⟨p,0,none⟩),.func (.func 90) #[.pointer (some ⟨p,0,none⟩)] #[]] w (QU (.tuple #[]) S p q c (c.others f o) w):=by
 obtain⟨aF,aR,aU,aT,aG,mv,aI,ak,ay,J,ag⟩:=h.open;have ab:=Zh (Qaj ak);have aO:=ag.n;have an:=Zh af;have H:=Zh h;have ar:=Zh J;have ap:Hid (∀w' E o',St w' E p q c o'->w'.cell? ⟨p,0,none⟩=some (.int .i64 c.id)):=Zh (fun w' E o' ax=>by
  obtain⟨_,_,_,_,_,_,_,aD,_⟩:=ax.open;exact Qb aD.row 0)
 clear h ak ay J ag af;go_enter Tryz.func89,Tryz.ntmps89;go_wp2_with fail;refine ab.out.mono ?_
 rintro e I ⟨v,g,rfl,⟨aS,rfl,aP,aQ,aM,aN,Z⟩,aK,aa⟩;have am:=Zh Z;have al:=Zh (H.out.Qc aa);have O:=Zh aa;have ao:Hid (¬S g/\g<I.heap.size):=Zh ⟨fun aC=>by have:=ar.out g aC;omega,World.block_lt_of_cell? I ⟨g,0,none⟩ (Z 0 (by omega))⟩;clear Z aa ab;go_wp2_with fail;go_loopw [9] (fun x wr=> ∃k:Nat,x= .int .i64 k/\k<=c.n/\ ∃E,St wr E p q c (Q8 c.id f k 0 o)/\(∀i,E i->S i\/I.heap.size<=i)/\Qa S I wr) (fun x _=>c.n - (Go.RowKit.intOf x).toNat)
 case atStart=>exact⟨0,rfl,by omega,S,al.out,fun i D=>.inl D,Zr _ _⟩
 case round=>
  obtain⟨k,rfl,aL,E,Q,Y,U⟩:=hrel;by_cases J:k<c.n
  ·have ah:(k:Int)< (c.n:Int):=by omega
   have aA:(0:Int)<=k:=by omega
   have aB: ¬(k:Int)<0:=by omega
   have ck:=Qe U (am.out k J) ao.out.1;have aH:=ap.out _ _ _ Q;have ac:=Zh Q;have M:=Zh Y;have N:=Zh U;clear Q Y U;by_cases hid:k=c.id
   ·have az:(k:Int)=c.id:=by omega
    have W:Hid (Q8 c.id f (k+1) 0 o=Q8 c.id f k 0 o):=Zh (by rw[Qb4,Nat.zero_add,if_pos hid]);rw[hid] at ck ah aA aB;go_wp2_with fail;exact⟨⟨k+1,by go_num,by omega,E,by rw[W.out];exact ac.out,M.out,N.out⟩,by simp[Go.RowKit.intOf];omega⟩
   ·have az: ¬(k:Int)=c.id:=by omega
    have W:Hid (Q8 c.id f (k+1) 0 o=(Q8 c.id f k 0 o).send k (f k)):=Zh (by rw[Qb4,Nat.zero_add,if_neg hid]);have aq:=Zh (an.out k wr E (Q8 c.id f k 0 o) J hid ac.out (fun i D=>(M.out i D).imp id (Zt O.out.size)) ((O.out.mono (fun _ _ f=>f.elim)).trans N.out (fun i _ D=>D)) (by have:=QeM c.id f k 0 o;omega));go_wp2_with fail;refine Calls.mono aq.out ?_
    rintro e aE ⟨rfl,ad,ai,ae,aj⟩;have av:=Zh ai;have au:Hid (∀i,ad i->S i\/I.heap.size<=i):=Zh (fun i D=>by
     rcases ae i D with h|h
     ·exact M.out i h
     ·exact .inr (Zt N.out.size h))
    have aw:Hid (Qa S I aE):=Zh (N.out.trans aj (fun i D h=>by
     rcases M.out i h with h|h
     ·exact h
     ·omega))
    clear ai ae aj;go_wp2_with fail;exact⟨⟨k+1,by go_num,by omega,ad,by rw[W.out];exact av.out,au.out,aw.out⟩,by simp[Go.RowKit.intOf];omega⟩
  ·have ah: ¬(k:Int)< (c.n:Int):=by omega
   obtain rfl:k=c.n:=by omega
   go_wp2_with fail;go_end0;exact⟨rfl,E,Q,fun i D=>(Y i D).imp id (Zt O.out.size),(O.out.mono (fun _ _ f=>f.elim)).trans U (fun i _ D=>D)⟩
def Qjs(cb mb:Nat)(w:World)(S:Nat->Prop)(p q:Nat)(c:Core)(f:Nat->Mg):Prop:=
 ∀(d:Nat) (w':World) (S':Nat->Prop) (o':Ou),d<c.n->d≠c.id->St w' S' p q c o'->(∀i,S' i->S i\/w.heap.size<=i)->Qa S w w'->o'.sends.length<20000->
  Calls Tryz.prog 96 #[.int .i64 d,.pointer (some ⟨cb,0,none⟩),.pointer (some ⟨mb,0,none⟩)] w' (QU (.tuple #[]) S' p q c (o'.send d (f d)) w')
theorem Qon(h:St w S p q c o)(f:Nat->Mg)(ae am:Nat)(ag:Qjs ae am w S p q c f)(aL:o.sends.length<19000):
  Calls Tryz.prog 89 #[.pointer (some ⟨p,0,none⟩),.func (.func 96) #[] #[.pointer (some ⟨ae,0,none⟩),.pointer (some ⟨am,0,none⟩)]] w (QU (.tuple #[]) S p q c (c.others f o) w):=by
 obtain⟨aH,aT,aW,aV,aI,mv,aK,al,aA,J,ah⟩:=h.open;have ab:=Zh (Qaj al);have aQ:=ah.n;have ap:=Zh ag;have H:=Zh h;have av:=Zh J;have ar:Hid (∀w' E o',St w' E p q c o'->w'.cell? ⟨p,0,none⟩=some (.int .i64 c.id)):=Zh (fun w' E o' az=>by
  obtain⟨_,_,_,_,_,_,_,aF,_⟩:=az.open;exact Qb aF.row 0)
 clear h al aA J ah ag;go_enter Tryz.func89,Tryz.ntmps89;go_wp2_with fail;refine ab.out.mono ?_
 rintro e I ⟨v,g,rfl,⟨aU,rfl,aR,aS,aO,aP,Z⟩,aM,aa⟩;have ao:=Zh Z;have an:=Zh (H.out.Qc aa);have O:=Zh aa;have aq:Hid (¬S g/\g<I.heap.size):=Zh ⟨fun aE=>by have:=av.out g aE;omega,World.block_lt_of_cell? I ⟨g,0,none⟩ (Z 0 (by omega))⟩;clear Z aa ab;go_wp2_with fail;go_loopw [9] (fun x wr=> ∃k:Nat,x= .int .i64 k/\k<=c.n/\ ∃E,St wr E p q c (Q8 c.id f k 0 o)/\(∀i,E i->S i\/I.heap.size<=i)/\Qa S I wr) (fun x _=>c.n - (Go.RowKit.intOf x).toNat)
 case atStart=>exact⟨0,rfl,by omega,S,an.out,fun i D=>.inl D,Zr _ _⟩
 case round=>
  obtain⟨k,rfl,aN,E,Q,Y,U⟩:=hrel;by_cases J:k<c.n
  ·have ai:(k:Int)< (c.n:Int):=by omega
   have aC:(0:Int)<=k:=by omega
   have aD: ¬(k:Int)<0:=by omega
   have ck:=Qe U (ao.out k J) aq.out.1;have aJ:=ar.out _ _ _ Q;have ac:=Zh Q;have M:=Zh Y;have N:=Zh U;clear Q Y U;by_cases hid:k=c.id
   ·have aB:(k:Int)=c.id:=by omega
    have W:Hid (Q8 c.id f (k+1) 0 o=Q8 c.id f k 0 o):=Zh (by rw[Qb4,Nat.zero_add,if_pos hid]);rw[hid] at ck ai aC aD;go_wp2_with fail;exact⟨⟨k+1,by go_num,by omega,E,by rw[W.out];exact ac.out,M.out,N.out⟩,by simp[Go.RowKit.intOf];omega⟩
   ·have aB: ¬(k:Int)=c.id:=by omega
    have W:Hid (Q8 c.id f (k+1) 0 o=(Q8 c.id f k 0 o).send k (f k)):=Zh (by rw[Qb4,Nat.zero_add,if_neg hid]);have au:=Zh (ap.out k wr E (Q8 c.id f k 0 o) J hid ac.out (fun i D=>(M.out i D).imp id (Zt O.out.size)) ((O.out.mono (fun _ _ f=>f.elim)).trans N.out (fun i _ D=>D)) (by have:=QeM c.id f k 0 o;omega));go_wp2_with fail;refine Calls.mono au.out ?_
    rintro e aG ⟨rfl,ad,aj,af,ak⟩;have ax:=Zh aj;have aw:Hid (∀i,ad i->S i\/I.heap.size<=i):=Zh (fun i D=>by
     rcases af i D with h|h
     ·exact M.out i h
     ·exact .inr (Zt N.out.size h))
    have ay:Hid (Qa S I aG):=Zh (N.out.trans ak (fun i D h=>by
     rcases M.out i h with h|h
     ·exact h
     ·omega))
    clear aj af ak;go_wp2_with fail;exact⟨⟨k+1,by go_num,by omega,ad,by rw[W.out];exact ax.out,aw.out,ay.out⟩,by simp[Go.RowKit.intOf];omega⟩
  ·have ai: ¬(k:Int)< (c.n:Int):=by omega
   obtain rfl:k=c.n:=by omega
   go_wp2_with fail;go_end0;exact⟨rfl,E,Q,fun i D=>(Y i D).imp id (Zt O.out.size),(O.out.mono (fun _ _ f=>f.elim)).trans U (fun i _ D=>D)⟩
theorem St.set(h:St w S p q c o)(M:Qa (fun i=>i=p) w w')
  (ah: ∀E I,w.heap[p]? =some (.cells (QK c E I (QM q)) 126 (0,0))->w'.heap[p]? =some (.cells (QK c' E I (QM q)) 126 (0,0)))
  (e1:c'.n=c.n) (Y:c'.bi=c.bi) (Z:c'.bt=c.bt) (aa:c'.l=c.l) (ab:c'.yes=c.yes) (ae:Fit c'):St w' S p q c' o/\Qa S w w':=by
 obtain⟨⟨Q,W,aj,L,ad,N,J,ag⟩,_⟩:=h;obtain⟨E,I,ai,U,mv,ac,D⟩:=ad;have O:=(J p D.sp).1;refine⟨⟨⟨Q,W,aj,L,⟨E,I,ai,U,mv,ac,D.cells M (ah E I D.row) e1 Y Z aa ab⟩,?_,J,fun i af=>Zu (ag i af) M.size⟩,ae⟩,M.mono (fun i _ e=>e▸O)⟩;rw[e1];exact N.upd M (fun e=>(J p D.sp).2.1 e.symm) (fun g hg e=>(J p D.sp).2.2 (e▸hg)) (fun g e=>e▸O) (fun _ _ h=>h) N.sq (fun g hg=>(N.sb g hg).1)
theorem St.Z1(h:St w S p q c o): ∃E I,w.heap[p]? =some (.cells (QK c E I (QM q)) 126 (0,0))/\S p/\p<w.heap.size:=by
 obtain⟨N,E,I,U,O,mv,Q,D,J,M,_⟩:=h.open;exact⟨E,I,D.row,J p D.sp,M p (J p D.sp)⟩
theorem Qlm(E:c.role=2)(N:c.n<=5):Qft w S p q c c.lacks:=fun d w' J o' M _ I _ _ D=>QcS I E d (by omega) D
theorem Qi5(h:St w S p q c o)(I:c.role=2)(am:o.sends.length<19000):
  Calls Tryz.prog 43 #[.pointer (some ⟨p,0,none⟩)] w (QU (.tuple #[]) S p q (c.tell o).1 (c.tell o).2 w):=by
 have E:=h.fit;have Y:=Zh (Qom h c.lacks (Qlm I E.n.2.1) am);have W:=Zh E;clear h E;go_enter Tryz.func43,Tryz.ntmps43;go_wp2_with fail;refine Y.out.mono ?_
 rintro e N ⟨rfl,ab,M,Q,U⟩;obtain⟨ao,ap,J,ar,av⟩:=M.Z1;have c10:N.cell? ⟨p,10,none⟩=some (.int .i64 c.beats):=Qb J 10;have aq:=Qg J 10 none;have Z:=Zh M;have O:=Zh Q;have aa:=Zh U;clear M Q U J;go_wp2_with fail;go_end0;obtain⟨al,an⟩:=Z.out.set (c':={c with beats:=0}) (w':=N.setCell ⟨p,10,none⟩ (.int .i64 0)) ((Zr (fun i=>i=p) N).setCell (p:=⟨p,10,none⟩) (fun _=>rfl) _) (fun ao ap I=>Qi (o:=10) I (.int .i64 0)) rfl rfl rfl rfl rfl
  (by obtain⟨ac,ad,ae,af,ag,ah,ai,aj,ak,D⟩:=W.out;exact⟨ac,ad,ae,af,ag,ah,ai,aj,ak,⟨D.1,D.2.1,D.2.2.1,by show 0<=20000;omega,D.2.2.2.2⟩⟩)
 exact⟨rfl,ab,al,O.out,aa.out.trans an (fun i au h=>by
  rcases O.out i h with h|h
  ·exact h
  ·omega)⟩
theorem QrK(h:St w S p q c o)(E:w.heap[na]? =some (.cells #[.pointer (some ⟨p,0,none⟩)] 50 (0,0)))(m:Mg)(J:w.heap[nb]? =some (.cells (m.arr (.slice none 0 0)) 76 (0,0)))(I:m.es=[]/\m.bi=0/\m.bt=0)(d:Nat)(U:o.sends.length<20000):
  Calls Tryz.prog 96 #[.int .i64 d,.pointer (some ⟨na,0,none⟩),.pointer (some ⟨nb,0,none⟩)] w (QU (.tuple #[]) S p q c (o.send d m) w):=by
 obtain⟨ae,ag,N,Z,ad⟩:=h.Z1;have ab:w.cell? ⟨p,22,none⟩=some (.func (.func 88) #[] #[.pointer (some ⟨q,0,none⟩)]):=Qb N 22;have aa:w.cell? ⟨na,0,none⟩=some (.pointer (some ⟨p,0,none⟩)):=Qb E 0;have O:=(Zr Ze w).drew;have D:=Zh (Qdf (h.Qc O) (d,m,.slice none 0 0) (Qe5 _ _ _ rfl I.1 I.2) U (fun k W=>by cases W));have Q:(m.arr (.slice none 0 0)).size =58:=QcY _ _ _ _ _ _ _ _ _ _;have D:Hid (Calls Tryz.prog 88 #[.int .i64 d,.agg (m.arr (.slice none 0 0)),.pointer (some ⟨q,0,none⟩)] w.drew (QU (.tuple #[]) S p q c (o.send d m) w.drew)):=D;generalize m.arr (.slice none 0 0)=M at*
 have ac:(LdC ⟨nb,0,none⟩ 58).run Tryz.prog w.drew= .ok M w.drew:=Xc (show w.drew.heap[nb]? =_ from J) Q;clear h N J E;go_enter Tryz.func96,Tryz.ntmps96;go_region_with (go_at_call 88;refine Calls.mono D.out ?_;rintro e af ⟨rfl,Y⟩)
 all_goals
  go_wp2_with fail;go_end0;exact QU.trans O ⟨rfl,Y⟩
theorem QkW{v:Nat}(h:KX la v):la.countP (fun x=>decide (v<x))<=la.length/2:=by
 obtain⟨D,E,O,rfl⟩:=h;have hlen:=E.length_eq;rw[<-E.countP_eq];have e:D=D.take (la.length/2)++D.drop (la.length/2):=(List.take_append_drop _ _).symm;have M:(D.drop (la.length/2)).countP (fun x=>decide (gd D (la.length/2)<x))=0:=by
  rw[List.countP_eq_zero];intro x Q;obtain⟨k,N,rfl⟩:=List.mem_iff_getElem.1 Q;rw[List.length_drop] at N;rw[List.getElem_drop];simp only[decide_eq_true_eq,Nat.not_lt];have I:D[la.length/2+k]=gd D (la.length/2+k):=by simp[gd,List.getD_eq_getElem?_getD,List.getElem?_eq_getElem (show la.length/2+k<D.length by omega)]
  rw[I];rcases Nat.eq_zero_or_pos k with rfl|U
  ·exact Zf _
  ·exact O _ _ (by omega) (by omega)
 have J:D.countP (fun x=>decide (gd D (la.length/2)<x))=(D.take (la.length/2)).countP (fun x=>decide (gd D (la.length/2)<x)):=by
  conv=>lhs;rw[e]
  rw[List.countP_append,List.take_append_drop,M];rfl
 rw[J];refine Zt List.countP_le_length ?_
 rw[List.length_take];omega
theorem QkY(D:KX la a)(E:KX la b)(I:0<la.length):a=b:=by
 have key: ∀a b,KX la a->KX la b-> ¬a<b:=fun a b D E O=>by
  have J:=Qf7 E I;have M:=QkW D;have N:la.countP (fun x=>decide (b<=x))<=la.countP (fun x=>decide (a<x)):=List.countP_mono_left (fun x _ h=>by
   simp only[decide_eq_true_eq] at*
   omega)
  omega
 have:=key a b D E;have:=key b a E D;omega
def QaY(M:List Nat)(k:Nat):List Value:=(List.range k).map fun j=>.int .u64 (gd M j:Nat)
theorem QpK(D:List Nat)(k:Nat):QaY D (k+1)=QaY D k++[.int .u64 (gd D k:Nat)]:=by simp[QaY,List.range_succ]
theorem QpL(h:Qr w 1 v n (QaY la n)):QN .u64 w v (((List.range n).map (gd la)).map Nat.cast):=by
 unfold QN;have e:((((List.range n).map (gd la)).map Nat.cast).map (Value.int .u64))=QaY la n:=by simp[QaY,Function.comp_def]
 rw[e]
 simpa using h
theorem Qqg(h:Fit c)(E:c.role=2):Fit c.settle:=by
 have W:=h.n;have Q:=h.ml;have I: ∀j,j<5->gd (c.mtch.set c.id c.last) j<=c.last:=fun j D=>by
  rw[Ks _ _ _ _ (by omega)];split
  ·exact Zf _
  ·exact (h.lead E j D).2.2
 have U:KI c.reached<=c.last:=by
  have:=QdX (Qcx c.reached) (by unfold Core.reached;simp;omega);unfold Core.reached at this;rw[List.mem_map] at this;obtain⟨j,D,e⟩:=this;rw[List.mem_range] at D;unfold Core.reached;rw[<-e];exact I j (by omega)
 refine⟨h.n,h.nl,by simpa [Core.settle] using Q,fun _ j D=>⟨(h.lead E j D).1,(h.lead E j D).2.1,I j D⟩,h.role,h.elect,?_,h.rise,h.term,h.cap⟩;obtain⟨J,M,N,O⟩:=h.bi;refine⟨J,?_,?_,O⟩
 ·show c.bi<=(if _ then _ else _)
  split
  ·rename_i hc
   omega
  ·exact M
 ·show (if _ then _ else _)<=c.last
  split
  ·exact U
  ·exact N
theorem QdZ(c:Core)(D I:Nat)(E:Value){v:Nat}(M:d<5)(N:c.mtch.length=5):(QK c D I E).setIfInBounds (17+d) (.int .u64 v)=QK {c with mtch:=c.mtch.set d v} D I E:=by
 have J:=fun x=>Ks c.mtch d v x (by omega)
 unfold QK;simp only[J];rcases (show d=0\/d=1\/d=2\/d=3\/d=4 by omega) with rfl|rfl|rfl|rfl|rfl<;>rfl
theorem Qd0(c:Core)(D I:Nat)(E:Value){v:Nat}(M:d<5)(N:c.next.length=5):(QK c D I E).setIfInBounds (12+d) (.int .u64 v)=QK {c with next:=c.next.set d v} D I E:=by
 have J:=fun x=>Ks c.next d v x (by omega)
 unfold QK;simp only[J];rcases (show d=0\/d=1\/d=2\/d=3\/d=4 by omega) with rfl|rfl|rfl|rfl|rfl<;>rfl
end
end Go.Proofs.YtbleblbfadeciaaGreatDoor
