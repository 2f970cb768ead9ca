/- For TopKept. -/
import Derived.Test.YtbleblbfadeciaaGreatDoorLc
import Derived.Test.YtbleblbfadeciaaGreatDoorVh
import Derived.Test.YtbleblbfadeciaaGreatDoorKa
import Derived.Test.YtbleblbfadeciaaGreatDoorIta
import Derived.Test.YtbleblbfadeciaaGreatDoorVc
set_option linter.all false
set_option maxHeartbeats 16000000
set_option maxRecDepth 10000
namespace Go.Proofs.YtbleblbfadeciaaGreatDoor
section
open Go.RowKit Go.Acre Go.Acre.Dk
attribute [local simp] QH
section
variable {w:World} {Sw Sd:Nat->Prop} {wb db room n x:Nat} {pre:ByteArray} {E:List FV} {fv:Value}
theorem Tab.two{w:World}(h:Tab w):2<w.heap.size:=by
 unfold Tab Lib.TabIs World.var? at h;rw[Qi2] at h;simp only[Option.bind_some] at h
 cases hb:w.heap[2]? with
 |none=>rw[hb] at h;simp at h
 |some o=>exact Ql hb
theorem QZ.turn(h:QZ w Sw Sd wb db room n x pre E fv){w':World}{Sd':Nat->Prop}{aa:Nat}{I:List FV}(N:Qa Sd w w')(ae:Has w' Sd' db room aa (Qo pre (Qn I)))(ai: ∀k,Sd' k->Sd k\/w.heap.size<=k)(ah:KZ x (Qn I))
  (e1:Xq I=Xq E) (ac:I.length=E.length) (af: ∀z∈I,∃a cap,z.2= .slice a z.1.recs.length cap) (ag: ∀A z,I=A++[z]-> ∃U O,E=U++[O]/\z.2=O.2/\z.1.recs.length=O.1.recs.length):
  QZ w' (fun i=>Sw i\/Sd' i) Sd' wb db room aa x pre I fv:=by
 have hold: ∀g,g<w.heap.size-> ¬Sd g-> ¬Sd' g:=fun g D W M=>(ai g M).elim W (fun h=>by omega)
 obtain⟨ab,Z,_⟩:=ae;refine⟨N.keep h.row h.swb.2,by rw[e1,ac];exact h.files.upd N (fun g D=>(h.own g D).2.1),ah,h.pok,af,fun A z e=> ?_,fun g D=> ?_,?_,fun i J=>.inr J,fun i J=> ?_,⟨ab,Z,by assumption⟩,?_⟩
 ·obtain⟨U,O,W,M,ad⟩:=ag A z e
  obtain⟨⟨aj,Y⟩,Q⟩:=h.last U O W;rw[M,ad];exact⟨⟨aj,Y.upd N (fun g D=>(Q g D).2.1)⟩,fun g D=>⟨.inl (Q g D).1,hold g (Y.lt g D) (Q g D).2.1,(Q g D).2.2⟩⟩
 ·exact⟨.inl (h.own g D).1,hold g (h.files.lt g D) (h.own g D).2.1,(h.own g D).2.2⟩
 ·exact⟨.inl h.swb.1,hold wb (Ql h.row) h.swb.2⟩
 ·rcases J with J|J
  ·exact Zu (h.lt i J) N.size
  ·exact Z.below i J
 ·have M: ¬Sd 2:=fun e=>h.tab.2 (h.sub 2 e)
  exact⟨h.tab.1.upd N M,fun e=>e.elim h.tab.2 (hold 2 h.tab.1.two M)⟩
def K3(Sw:Nat->Prop)(wb db room n x:Nat)(pre:ByteArray)(fs':List Fl)(v:Value)(w:World)(e:Ending)(w':World):Prop:=
 e= .returned v/\ ∃Sw' Sd' E' fv',QZ w' Sw' Sd' wb db room n x pre E' fv'/\Qn E'=fs'/\(∀i,Sw' i->Sw i\/w.heap.size<=i)/\Qa Sw w w'
theorem KL(A:List FV)(z:FV):Qn (A++[z])=Qn A++[z.1]:=List.map_append
theorem Qq9(h:QZ w Sw Sd wb db room n x pre E fv){A:List FV}{z:FV}(e:E=A++[z]){w':World}(Z: ∃I,Has w' I db room n (Qo pre (Qn A++[{z.1 with syn:=z.1.bytes.size}]))/\(∀k,I k->Sd k\/w.heap.size<=k)/\Qa Sd w w')(v:Value):
  K3 Sw wb db room n x pre (ZF (Qn E)) v w (.returned v) w':=by
 subst e;obtain⟨I,Y,O,Q⟩:=Z;have U:Qn (A++[z])=Qn A++[z.1]:=KL A z;have W:=(Qe7 h.ok).1;rw[U,WL] at W;have M:Qn (A++[(z.1.Wc,z.2)])=Qn A++[z.1.Wc]:=KL A _;refine⟨rfl,_,I,A++[(z.1.Wc,z.2)],fv,h.turn Q (by rw[M];exact Y) O (by rw[M];exact W) (by rw[Qbo,Qbo];rfl) (by simp) (fun y J=> ?_) (fun A1 y e=> ?_),by rw[M,U,WL],fun i D=> ?_,Q.mono (fun i _ D=>h.sub i D)⟩
 ·rw[List.mem_append,List.mem_singleton] at J
  rcases J with J|rfl
  ·exact h.lens y (List.mem_append_left _ J)
  ·exact h.lens z (by simp)
 ·obtain⟨e1,N⟩:=List.append_inj' e rfl
  simp only[List.cons.injEq,and_true] at N;subst N;exact⟨A,z,rfl,rfl,rfl⟩
 ·rcases D with D|D
  ·exact .inl D
  ·exact (O i D).imp (h.sub i) id
theorem Qji(h:QZ w Sw Sd wb db room n x pre E fv)(W:E≠[]):Calls Tryz.prog 78 #[.pointer (some ⟨wb,0,none⟩)] w (K3 Sw wb db room n x pre (ZF (Qn E)) (.int .i64 0) w):=by
 obtain⟨ab,ao,aI,O,_⟩:=h.shape;have ak:=Zh (Qa9 h);obtain⟨g,o,cap,cur,av,af,ad,aJ,ac⟩:=h.cells W;have ax:0<E.length:=List.length_pos_iff.2 W;have Y:=h.count;obtain⟨A,z,D⟩: ∃A z,E=A++[z]:=by
  rcases List.eq_nil_or_concat E with h|⟨A,z,h⟩
  ·exact absurd h W
  ·exact⟨A,z,by rw[h,List.concat_eq_append]⟩
 have ah:E[E.length - 1]'(by omega)=z:=by
  subst D;simp
 obtain⟨Q,ap,aq⟩:=ac (E.length - 1) (by omega);clear ap aq;rw[ah] at Q;have aP:=Y.2 z (by rw[D];simp);have U:w.cell? ⟨g,o+(E.length - 1)*3,none⟩=some (.int .u64 (z.1.first:Nat)):=by rw[Qb ad];exact Q
 have I:=h.ok.chain;have Z:=h.ok.cap;have au:1<=z.1.first:=by
  have:=(ZR _ _ I).2.1 z.1 (by rw[D,KL];simp);have:=h.ok.first;omega
 have ag:Wb (Qo pre (Qn E)) (QJ pre z.1.first)=(Qo pre (Qn A++[{z.1 with syn:=z.1.bytes.size}]),0):=by
  rw[D,KL] at I Z ⊢;exact Qly I Z
 have am:Hid (∀w',Qa Ze w w'->Calls Tryz.prog 125 #[.pointer (some ⟨db,0,none⟩),.string (QJ pre z.1.first)] w' (Op Sd w' db room n (Qo pre (Qn A++[{z.1 with syn:=z.1.bytes.size}])) 0)):=Zh (fun w' hu=>by
  have:=Qra (h.disk.upd hu (fun _ _ f=>f)) (QJ pre z.1.first) (by rw[W6];have:=h.pok;unfold maxLen;omega);rw[ag] at this;exact this)
 have al:Hid (∀w',Qa Ze w w'->Calls Tryz.prog 59 #[.pointer (some ⟨wb,0,none⟩),.int .u64 (z.1.first:Nat)] w' (Qk (.string (QJ pre z.1.first)) w')):=Zh (fun w' hu=>Qfk (Qe hu ao (fun f=>f)) (h.tab.1.upd hu (fun f=>f)) h.pok.2 _ au (by omega));have N:Hid (¬Sd wb/\ ¬Sd g):=Zh ⟨h.swb.2,(h.own g af).2.1⟩;have aj:=Zh h;have ai:=Zh D;subst av;clear h af ad ac ah Q D ag I Z;have ar:=Y.1;clear Y;generalize QJ pre z.1.first=NM at*
 generalize z.1.first=y at*
 obtain⟨m,ae⟩: ∃m,m=E.length:=⟨_,rfl⟩
 rw[<-ae] at O U ax ar;have aK: ¬(m:Int)=0:=by omega
 have aL:(0:Int)< (m:Int):=by omega
 have aM:IntKind.i64.wrap ((m:Int) - 1)=((m - 1:Nat):Int):=by rw[IntWalk.i64_in _ (by omega)];omega
 have aN:(0:Int)<=((m - 1:Nat):Int):=by omega
 have aO:((m - 1:Nat):Int)< (m:Int):=by omega
 clear ae;have M:Hid (∀w',Qa Ze w w'->w'.cell? ⟨wb,0,none⟩=some (.pointer (some ⟨db,0,none⟩))/\w'.cell? ⟨wb,3,none⟩=some (.slice (some ⟨g,o,none⟩) m cap)/\w'.cell? ⟨g,o+(m - 1)*3,none⟩=some (.int .u64 y)):=Zh (fun w' hu=>⟨Qe hu ab (fun f=>f),Qe hu O (fun f=>f),Qe hu U (fun f=>f)⟩);go_enter Tryz.func78,Tryz.ntmps78;go_wp2_with fail;refine ak.out.mono ?_
 rintro e w' ⟨rfl,rfl⟩;go_upto_region 4 with fail
 have hcur:Qa Ze w w.drew:=(Zr _ w).drew;obtain⟨az,aA,aB⟩:=M.out _ hcur;clear ab O U;go_region_held3 (fun w'=>w'.cell? ⟨wb,0,none⟩=some (.pointer (some ⟨db,0,none⟩))/\w'.cell? ⟨wb,3,none⟩=some (.slice (some ⟨g,o,none⟩) m cap)/\w'.cell? ⟨g,o+(m - 1)*3,none⟩=some (.int .u64 y)) (first|exact⟨az,aA,aB⟩|exact M.out _ (by assumption)|exact⟨aC,aD,aE⟩) ((first
   |(go_at_call 59;refine (al.out _ (by assumption)).mono ?_;rintro e aH ⟨rfl,ay⟩;have aa:Qa Ze w aH:=Qa.trans hcur ay (fun _ _ f=>f);obtain⟨j0,j3,jg⟩:=M.out _ aa)
   |(go_at_call 125;refine (am.out _ (by assumption)).mono ?_;rintro e aQ ⟨rfl,an,aF,aG,J⟩;have aC:=Qe J j0 N.out.1;have aD:=Qe J j3 N.out.1;have aE:=Qe J jg N.out.2)))
 all_goals
  go_wp2_with fail;go_ret;refine Qq9 aj.out ai.out ⟨an,aF,fun k aw=>(aG k aw).imp id (fun h=>by have:=aa.size;omega),?_⟩ _;exact (aa.mono (fun _ _ f=>f.elim)).trans J (fun _ _ h=>h)
end
end
section
open Go.RowKit Go.Acre Go.Acre.Dk
attribute [local go_sem ↓] LcG ScG ApG
attribute [local go_sem] Sc1 Sc2 Sc3 Lc2 Lc3
attribute [local simp] QH
section
variable {w:World} {Sw Sd:Nat->Prop} {wb db room n x:Nat} {pre:ByteArray} {E:List FV} {fv:Value}
structure QjE(w:World)(Sw Sd:Nat->Prop)(wb:Nat)(fv:Value)(m:Nat)(z:FV)(g o cap:Nat)(ra:Option Addr)(rcap:Nat):Prop where
 fv:fv= .slice (some ⟨g,o,none⟩) m cap
 mok:1<=m/\m<=500000/\m<=cap
 gok:Sw g/\ ¬Sd g/\g≠wb
 rv:z.2= .slice ra z.1.recs.length rcap
 c0:w.cell? ⟨g,o+(m - 1)*3,none⟩=some (.int .u64 (z.1.first:Nat))
 c1:w.cell? ⟨g,o+(m - 1)*3+1,none⟩=some (.int .i64 (z.1.bytes.size:Nat))
 c2:w.cell? ⟨g,o+(m - 1)*3+2,none⟩=some (.slice ra z.1.recs.length rcap)
 hg: ∃cur,w.heap[g]? =some (.cells cur 152 (0,0))
 first:1<=z.1.first/\z.1.first<=500000
 recs:z.1.recs.length<=500000
theorem QZ.Qht(h:QZ w Sw Sd wb db room n x pre E fv){A:List FV}{z:FV}(e:E=A++[z]): ∃g o cap ra rcap,QjE w Sw Sd wb fv E.length z g o cap ra rcap/\E.length=A.length+1:=by
 have N:E≠[]:=by rw[e];simp
 obtain⟨g,o,cap,cur,Y,aa,D,Z,U⟩:=h.cells N;have ad:0<E.length:=List.length_pos_iff.2 N;have O:=h.count;have ab:E[E.length - 1]'(by omega)=z:=by subst e;simp
 obtain⟨J,M,I⟩:=U (E.length - 1) (by omega);rw[ab] at J M I;obtain⟨ra,rcap,Q⟩:=h.lens z (by rw[e];simp);rw[Q] at I;have ac:=O.2 z (by rw[e];simp);have W:1<=z.1.first:=by
  have:=(ZR _ _ h.ok.chain).2.1 z.1 (by rw[e,KL];simp);have:=h.ok.first;omega
 exact⟨g,o,cap,ra,rcap,⟨Y,⟨by omega,O.1,Z⟩,h.own g aa,Q,by rw[Qb D];exact J,by rw[Qb D];exact M,by rw[Qb D];exact I,⟨cur,D⟩,⟨W,by omega⟩,ac.1⟩,by rw[e];simp⟩
theorem Q0.set{w:World}{e:TypeId}{size:Nat}{v:Value}{n:Nat}{I:List Value}(h:Q0 w e size v n I){g o cap:Nat}(U:v= .slice (some ⟨g,o,none⟩) n cap)(j:Nat)(u:Value):Q0 (w.setCell ⟨g,o+j,none⟩ u) e size v n (I.set j u):=by
 subst U;refine⟨by rw[List.length_set];exact h.1,?_⟩;rcases h.2 with ⟨D,_⟩|⟨g',o',W,cur,D,J,M,N,O,Q⟩
 ·simp at D
 ·simp only[Value.slice.injEq,Option.some.injEq,Addr.mk.injEq,and_true,true_and] at D
  obtain⟨⟨rfl,rfl⟩,rfl⟩:=D;refine .inr ⟨g,o,cap,_,rfl,Qi J u,M,N,by rw[Array.size_setIfInBounds];exact O,?_⟩;rw[Array.toList_setIfInBounds,List.drop_set,if_neg (by omega),show o+j - o=j by omega,List.take_set,Q]
theorem Ql3(A:List FV)(z:FV)(a b:Value):((Xq (A++[z])).set (A.length*3+1) a).set (A.length*3+2) b=Xq A++[.int .u64 (z.1.first:Nat),a,b]:=by
 have D:=QcF A;rw[Qbo];show ((Xq A++[Value.int .u64 (z.1.first:Nat),.int .i64 (z.1.bytes.size:Nat),z.2]).set (A.length*3+1) a).set (A.length*3+2) b=_;rw[List.set_append,if_neg (by omega),List.set_append,if_neg (by omega),D,show A.length*3+1 - A.length*3=1 by omega,show A.length*3+2 - A.length*3=2 by omega];rfl
theorem QrQ(h:QZ w Sw Sd wb db room n x pre E fv){A:List FV}{z:FV}(aI:E=A++[z])(hold: ¬4096<=z.1.bytes.size){r:ByteArray}(aO:r.size<=1000000)(aM:Qp x (Qn E)+1<=QV){g o cap:Nat}(ad:fv= .slice (some ⟨g,o,none⟩) E.length cap)
  {w5 w8:World} {J:Nat->Prop} {rv:Value} {ai:List Value} {sz:Nat} (hsz:sz=(z.1.more r).bytes.size) (aR:Has w5 J db room (n+1) (Qo pre (Qn A++[z.1.more r]))) (az: ∀k,J k->Sd k\/w.heap.size<=k) (ag:Qa Sd w w5)
  (ah:Qa (fun j=>z.2.ownBlock=some j) ((w5.setCell ⟨g,o+(E.length - 1)*3+1,none⟩ (.int .i64 sz)).alloc (.cells #[.string r] 9)) w8) (aw:Q0 w8 9 1 rv (z.1.recs.length+1) ai) (av:rv.ownBlock=z.2.ownBlock\/rv.ownBlock=some ((w5.setCell ⟨g,o+(E.length - 1)*3+1,none⟩ (.int .i64 sz)).alloc (.cells #[.string r] 9)).heap.size)
  (hrs: ∃g o cap,rv= .slice (some ⟨g,o,none⟩) (z.1.recs.length+1) cap):K3 Sw wb db room (n+1) x pre (XE x (Qn E) r) (.int .i64 0) w (.returned (.int .i64 0)) (w8.setCell ⟨g,o+(E.length - 1)*3+2,none⟩ rv):=by
 subst aI;have aK:(A++[z]).length - 1=A.length:=by simp
 rw[aK] at ah av ⊢;have M:fv.ownBlock=some g:=by rw[ad];rfl
 obtain⟨ae,af,ap⟩:=h.own g M;have aq:=h.files.lt g M;obtain⟨⟨aV,aQ⟩,Q⟩:=h.last A z rfl;have O: ∀q,q<w.heap.size-> ¬Sd q-> ¬J q:=fun q I aE am=>(az q am).elim aE (fun h=>by omega)
 obtain⟨aA,an,aJ⟩:=aR;have ax: ∀q,J q->q<w5.heap.size:=an.below;have aP:=ag.size;have aG:Qa (fun i=>i=g) w5 (w5.setCell ⟨g,o+A.length*3+1,none⟩ (.int .i64 sz)):=(Zr (fun i=>i=g) w5).setCell (p:=⟨g,o+A.length*3+1,none⟩) (fun _=>rfl) _;have aa:Qa (fun i=>i=g) w5 ((w5.setCell ⟨g,o+A.length*3+1,none⟩ (.int .i64 sz)).alloc (.cells #[.string r] 9)):=aG.alloc _;have aH:Qa Ze (w5.setCell ⟨g,o+A.length*3+1,none⟩ (.int .i64 sz)) ((w5.setCell ⟨g,o+A.length*3+1,none⟩ (.int .i64 sz)).alloc (.cells #[.string r] 9)):=(Zr _ _).alloc _;have ab:Qa (fun i=>i=g) w8 (w8.setCell ⟨g,o+A.length*3+2,none⟩ rv):=(Zr (fun i=>i=g) w8).setCell (p:=⟨g,o+A.length*3+2,none⟩) (fun _=>rfl) _;have aL:w.heap.size<=((w5.setCell ⟨g,o+A.length*3+1,none⟩ (.int .i64 sz)).alloc (.cells #[.string r] 9)).heap.size :=Zt aP aa.size;have aT:w5.heap.size<=((w5.setCell ⟨g,o+A.length*3+1,none⟩ (.int .i64 sz)).alloc (.cells #[.string r] 9)).heap.size :=aa.size;have ay: ∀q,z.2.ownBlock=some q->q<w.heap.size:=aQ.lt;have Z:Qa (fun i=>i=g\/z.2.ownBlock=some i) w5 (w8.setCell ⟨g,o+A.length*3+2,none⟩ rv):=((aa.mono (T:=fun i=>i=g\/z.2.ownBlock=some i) (fun _ _ h=>.inl h)).trans ah (fun i _ h=>.inr h)).trans ab (fun i _ h=>.inl h);have U:Qa (fun i=>Sd i\/i=g\/z.2.ownBlock=some i) w (w8.setCell ⟨g,o+A.length*3+2,none⟩ rv):=(ag.mono (fun _ _ h=>.inl h)).trans Z (fun i _ h=>.inr h);have aN:Q0 (w8.setCell ⟨g,o+A.length*3+2,none⟩ rv) 152 3 fv (A++[z]).length (Xq A++[.int .u64 (z.1.first:Nat),.int .i64 sz,rv]):=by
  have aC:=h.files.upd ag (fun q I=>by rw[M] at I;cases I;exact af);have ak:=(aC.set ad (A.length*3+1) (.int .i64 sz))
  rw[<-Nat.add_assoc] at ak;have al:=((ak.upd aH (fun _ _ f=>f)).upd ah (fun q I e=>by
   have:=(Q q e).2.2.2;exact this I)).set ad (A.length*3+2) rv
  rw[<-Nat.add_assoc,Ql3] at al;exact al
 generalize ((w5.setCell ⟨g,o+A.length*3+1,none⟩ (.int .i64 sz)).alloc (.cells #[.string r] 9)).heap.size =N at*
 have W: ∀q,rv.ownBlock=some q->q≠g/\q≠wb/\ ¬J q/\q≠2/\(Sw q\/w.heap.size<=q):=by
  intro q I;have am:=h.tab.1.two;have aU:=Ql h.row;rcases av with e|e
  ·rw[e] at I
   have:=Q q I;refine⟨fun e=>this.2.2.2 (by rw[M,e]),this.2.2.1,O q (ay q I) this.2.1,?_,.inl this.1⟩;rintro rfl;exact h.tab.2 this.1
  ·rw[e] at I
   cases I
   exact⟨by omega,by omega,fun e=>by have:=ax _ e;omega,by omega,.inr aL⟩
 have ac:Qn (A++[(z.1.more r,rv)])=Qn A++[z.1.more r]:=KL A _;have ao:XE x (Qn (A++[z])) r=Qn A++[z.1.more r]:=by rw[KL,QdR _ _ _ _ hold]
 have au:=(QbU h.ok aO aM).1;rw[ao] at au;have aF:=h.tab.1.two;refine⟨rfl,fun i=>Sw i\/J i\/rv.ownBlock=some i,J,A++[(z.1.more r,rv)],fv,⟨U.keep h.row ?_,?_,by rw[ac];exact au,h.pok,fun y Y=> ?_,fun A1 y e=> ?_,fun q I=> ?_,⟨.inl h.swb.1,O _ (Ql h.row) h.swb.2⟩,fun i D=>.inr (.inl D),fun i D=> ?_,?_,h.tab.1.upd U ?_,?_⟩,by rw[ac,ao],fun i D=> ?_,U.mono (fun i _ D=> ?_)⟩
 ·rintro (e|e|e)
  ·exact h.swb.2 e
  ·exact ap e.symm
  ·exact (Q _ e).2.2.1 rfl
 ·rw[Qbo,show (A++[(z.1.more r,rv)]).length =(A++[z]).length by simp]
  show Q0 _ 152 3 fv _ (Xq A++[.int .u64 (z.1.first:Nat),.int .i64 ((z.1.more r).bytes.size :Nat),rv]);rw[<-hsz];exact aN
 ·rw[List.mem_append,List.mem_singleton] at Y
  rcases Y with Y|rfl
  ·exact h.lens y (List.mem_append_left _ Y)
  ·obtain⟨aD,aS,c9,aB⟩:=hrs
   exact⟨some ⟨aD,aS,none⟩,c9,by show rv=_;rw[aB];show _=Value.slice _ (z.1.recs++[r]).length _;rw[List.length_append];rfl⟩
 ·obtain⟨e1,aj⟩:=List.append_inj' e rfl
  simp only[List.cons.injEq,and_true] at aj;subst aj;have hlen:(z.1.more r).recs.length =z.1.recs.length+1:=by show (z.1.recs++[r]).length =_;rw[List.length_append];rfl
  refine⟨⟨ai,?_⟩,fun q I=> ?_⟩
  ·show Q0 _ 9 1 rv (z.1.more r).recs.length ai
   rw[hlen];exact aw.upd ab (fun q I e=>(W q I).1 e)
  ·have:=W q I
   exact⟨.inr (.inr I),this.2.2.1,this.2.1,fun e=>by rw[M] at e;cases e;exact this.1 rfl⟩
 ·rw[M] at I
  cases I
  exact⟨.inl ae,O _ aq af,ap⟩
 ·rcases D with D|D|D
  ·exact Zu (h.lt i D) U.size
  ·exact Zu (ax i D) Z.size
  ·exact Zu (aw.lt i D) ab.size
 ·rw[ac]
  refine (show Has w5 J db room (n+1) (Qo pre (Qn A++[z.1.more r])) from ⟨aA,an,aJ⟩).upd Z (fun k ar e=> ?_);rcases e with e|e
  ·exact O g aq af (by rw[<-e];exact ar)
  ·exact O k (ay k e) (Q k e).2.1 ar
 ·rintro (e|e|e)
  ·exact h.tab.2 (h.sub 2 e)
  ·exact h.tab.2 (by rw[e];exact ae)
  ·exact h.tab.2 (Q 2 e).1
 ·rintro (e|e|e)
  ·exact h.tab.2 e
  ·exact O 2 aF (fun e=>h.tab.2 (h.sub 2 e)) e
  ·exact (W 2 e).2.2.2.1 rfl
 ·rcases D with D|D|D
  ·exact .inl D
  ·exact (az i D).imp (h.sub i) id
  ·exact (W i D).2.2.2.2
 ·rcases D with D|D|D
  ·exact h.sub i D
  ·rw[D];exact ae
  ·exact (Q i D).1
theorem QdS(h:QZ w Sw Sd wb db room n x pre E fv){w':World}(D:Qa Ze w w'){y:Nat}(I:1<=y)(J:y<=1000000):Calls Tryz.prog 59 #[.pointer (some ⟨wb,0,none⟩),.int .u64 y] w' (Qk (.string (QJ pre y)) w'):=
 Qfk (Qe D h.shape.2.1 (fun f=>f)) (h.tab.1.upd D (fun f=>f)) h.pok.2 _ I (by omega)
theorem QrS(h:QZ w Sw Sd wb db room n x pre E fv){A:List FV}{z:FV}(ae:E=A++[z])(hold: ¬4096<=z.1.bytes.size){r:ByteArray}(bH:r.size<=1000000)(aq:Qp x (Qn E)+1<=QV)(ax:r.size+8+total (Qo pre (Qn E))<=room)(bT:n<=1000000):
  Calls Tryz.prog 77 #[.pointer (some ⟨wb,0,none⟩),.string r] w (K3 Sw wb db room (n+1) x pre (XE x (Qn E) r) (.int .i64 0) w):=by
 obtain⟨aK,bs,aL,am,bu⟩:=h.shape;have aF:=Zh (Qa9 h);have ah:=Zh (QgT r w (by omega));unfold QdD at ah;have al:Hid (∀w',Qa Ze w w'->Calls Tryz.prog 23 #[.pointer (some ⟨wb,0,none⟩)] w' (Qk (.int .u64 (Qp x (Qn E):Nat)) w')):=Zh (fun w' D=>Qcf (h.Qc D));obtain⟨g,o,cap,ra,rcap,I,ao⟩:=h.Qht ae;have Y:=Zh I;obtain⟨bC,bD,bE⟩:=I.mok;have bA:=I.fv;subst bA;have an:=I.c0;have e1:=I.c1;have aM:=I.c2;have bz:=I.first;have bU:=I.recs;have be:Hid (∀w',Qa Ze w w'->Calls Tryz.prog 59 #[.pointer (some ⟨wb,0,none⟩),.int .u64 (z.1.first:Nat)] w' (Qk (.string (QJ pre z.1.first)) w')):=Zh (fun w' D=>QdS h D bz.1 (by omega));have ap:WS room (Qo pre (Qn E)) (QJ pre z.1.first) (XW r)=(Qo pre (Qn A++[z.1.more r]),0):=by
  have aP:=h.ok.chain;have aQ:=h.ok.cap;rw[ae,KL] at aP aQ ax ⊢;exact Qlw aP aQ h.pok ax
 have a7:Hid (∀w',Qa Ze w w'->Calls Tryz.prog 124 #[.pointer (some ⟨db,0,none⟩),.string (QJ pre z.1.first),.string (XW r)] w' (Op Sd w' db room (n+1) (Qo pre (Qn A++[z.1.more r])) 0)):=Zh (fun w' D=>by
  have:=Qgf (h.disk.upd D (fun _ _ f=>f)) (QJ pre z.1.first) (XW r) (by rw[W6];have:=h.pok;unfold maxLen;omega) (by rw[Ww];omega) (by unfold maxLen;omega);rw[ap] at this;exact this)
 have aS:(XW r).size =r.size+8:=Ww r;have bx:Qp x (Qn E)<=500000:=by unfold QV at aq;omega
 have aO:z.1.bytes.size<4096:=by omega
 have ai:=Zh h;have aE:=Zh ae;have bb:Hid (Qp x (Qn E)+1<=QV):=Zh aq;have hsz: ¬(4096:Int)<=z.1.bytes.size:=by omega
 have bw:decide ((4096:Int)<=z.1.bytes.size)=false:=by simpa using hsz
 have bF: ¬(1000000000000000:Int)< (Qp x (Qn E):Int):=by omega
 clear h I ap ae ax bs hold;generalize hnxq:Qp x (Qn E)=nx at aq al bx bF ⊢;clear hnxq;generalize XW r=FR at*
 generalize QJ pre z.1.first=NM at*
 generalize z.1.first=y at*
 have ba:Hid (z.1.bytes.size=z.1.bytes.size):=Zh rfl;generalize hbq:z.1.bytes.size=ad at*
 have aD:=Zh hbq;clear hbq ba;obtain⟨m,aw⟩: ∃m,m=E.length:=⟨_,rfl⟩
 rw[<-aw] at bC bD bE am an e1 aM ao;have ac:=Zh aw;have bM:=Zh ao;clear ao;have bQ: ¬(m:Int)=0:=by omega
 have bS:((m:Int)==0)=false:=by simp;omega
 have bR:(0:Int)< (m:Int):=by omega
 have bV:IntKind.i64.wrap ((m:Int) - 1)=((m - 1:Nat):Int):=by rw[IntWalk.i64_in _ (by omega)];omega
 have bW:(0:Int)<=((m - 1:Nat):Int):=by omega
 have bX:((m - 1:Nat):Int)< (m:Int):=by omega
 clear aw;go_enter Tryz.func77,Tryz.ntmps77;go_wp2_with fail;refine aF.out.mono ?_
 rintro e w' ⟨rfl,rfl⟩;go_wp2_with fail;refine ah.out.mono ?_
 rintro e b1 ⟨rfl,af⟩;have bm:=Zh af;go_wp2_with fail;refine (al.out _ af).mono ?_
 rintro e w2 ⟨rfl,aX⟩;have aa:=af.trans aX (fun _ _ f=>f);have M:Hid (¬Sd wb/\ ¬Sd g):=Zh ⟨ai.out.swb.2,Y.out.gok.2.1⟩;have W:Hid (∀w',Qa Sd w w'->w'.cell? ⟨wb,0,none⟩=some (.pointer (some ⟨db,0,none⟩))/\w'.cell? ⟨wb,2,none⟩=some (.int .i64 4096)/\w'.cell? ⟨wb,3,none⟩=some (.slice (some ⟨g,o,none⟩) m cap)/\w'.cell? ⟨g,o+(m - 1)*3,none⟩=some (.int .u64 y)/\w'.cell? ⟨g,o+(m - 1)*3+1,none⟩=some (.int .i64 ad)):=Zh (fun w' D=>⟨Qe D aK M.out.1,Qe D aL M.out.1,Qe D am M.out.1,Qe D an M.out.2,Qe D e1 M.out.2⟩);clear af aX al ah aF bm aK aL am an e1 aM bu;have aH:=Zh aa;obtain⟨N,J,O,Q,U⟩:=W.out _ (aa.mono (fun _ _ f=>f.elim));clear aa;go_upto_region 7 with fail
 go_quiet (fail);have aj:=Zh (aH.out.drewN nq);clear N J O Q U;obtain⟨N,J,O,Q,U⟩:=W.out _ (aj.out.mono (fun _ _ f=>f.elim));generalize w2.drewN nq=aC at*
 go_upto_region 14 with fail
 go_quiet (fail);have bn:=Zh (aj.out.drewN nq);clear N J O Q U;generalize aC.drewN nq=w4 at*
 clear aj aH;go_upto_region 15 with fail
 have hcur:Qa Ze w w4.drew:=bn.out.drew;obtain⟨N,J,O,Q,U⟩:=W.out _ (hcur.mono (T:=Sd) (fun _ _ f=>f.elim));clear J O Q U;go_region_held3 (fun w'=>w'.cell? ⟨wb,0,none⟩=some (.pointer (some ⟨db,0,none⟩))) (first|exact N|exact aA|exact a4) ((first
   |(go_at_call 59;refine (be.out _ (by assumption)).mono ?_;rintro e aC ⟨rfl,aa⟩;have ar:Qa Ze w aC:=Qa.trans hcur aa (fun _ _ f=>f);have aA:=(W.out _ (ar.mono (T:=Sd) (fun _ _ f=>f.elim))).1)
   |(go_at_call 124;refine (a7.out _ (by assumption)).mono ?_;rintro e w5 ⟨rfl,aJ,a5,a6,aB⟩;have a4:=Qe aB aA M.out.1)))
 all_goals
  have ak:Hid (Qa Sd w w5):=Zh ((ar.mono (fun _ _ f=>f.elim)).trans aB (fun _ _ h=>h));have bg:Hid (∀k,aJ k->Sd k\/w.heap.size<=k):=Zh (fun k bB=>(a6 k bB).imp id (fun h=>by have:=ar.size;omega));have aG:=Zh a5;clear a5 a6 aB a4 N aA;obtain⟨N,J,O,Q,U⟩:=W.out _ ak.out;clear N J;go_upto_region 20 with fail
  go_quiet (fail);have Z:Hid (Qa Sd w (w5.drewN nq)):=Zh (ak.out.drewN nq);have bh:Hid (Has (w5.drewN nq) aJ db room (n+1) (Qo pre (Qn A++[z.1.more r]))):=Zh (aG.out.upd ((Zr Ze w5).drewN nq) (fun _ _ f=>f));clear ak aG O Q U;generalize w5.drewN nq=w6 at*
  obtain⟨cur,au⟩:=Y.out.hg;have av:=Z.out.keep au M.out.2;have bL:=(W.out _ Z.out).2.2.2.2;have bv:=Qg av (o+(m - 1)*3+1) none;obtain⟨sz,aW⟩: ∃sz:Nat,sz=ad+FR.size:=⟨_,rfl⟩
  have bJ:IntKind.i64.wrap ((ad:Int)+(FR.size:Int))=(sz:Int):=by rw[IntWalk.i64_in _ (by omega)];omega
  have bk:=Zh aW;clear aW;have aT:=Qi av (o:=o+(m - 1)*3+1) (.int .i64 sz);have bd:=Zh aT;have bN:=Zh au;have bc:=Zh aS;clear au av aT aS;go_upto_region 21 with fail
  go_upto_region 22 with fail
  have bj:Hid (sz=(z.1.more r).bytes.size):=Zh (by rw[bk.out,QeD,ByteArray.size_append,aD.out,Ww,bc.out]);have J:(w6.setCell ⟨g,o+(m - 1)*3+1,none⟩ (.int .i64 sz)).cell? ⟨g,o+(m - 1)*3+2,none⟩=some (.slice ra z.1.recs.length rcap):=by
   rw[World.cell?_setCell_other _ _ _ _ (by simp)];exact Qe Z.out (by rw[ac.out];exact Y.out.c2) M.out.2
  have bo:Hid (Qa (fun i=>Sd i\/i=g) w (w6.setCell ⟨g,o+(m - 1)*3+1,none⟩ (.int .i64 sz))):=Zh ((Z.out.mono (fun _ _ h=>.inl h)).setCell (p:=⟨g,o+(m - 1)*3+1,none⟩) (fun _=>.inr rfl) _);have bq:Hid (w6.setCell ⟨g,o+(m - 1)*3+1,none⟩ (.int .i64 sz)=w6.setCell ⟨g,o+(m - 1)*3+1,none⟩ (.int .i64 sz)):=Zh rfl;generalize hw7:w6.setCell ⟨g,o+(m - 1)*3+1,none⟩ (.int .i64 sz)=w7 at*
  have aI:=Zh hw7;clear hw7 bq;obtain⟨⟨b2,az⟩,ab⟩:=ai.out.last A z aE.out;have ay:=Y.out.rv;rw[ay] at az ab;have aY:Qa (fun i=>Sd i\/i=g) w (w7.alloc (.cells #[.string r] 9)):=bo.out.alloc _;have aZ:=az.upd aY (fun q bG e=>by
   have:=ab q bG;rcases e with e|e
   ·exact this.2.1 e
   ·exact this.2.2.2 (by rw[e];rfl))
  obtain⟨bK,aV,a1,a2,a3⟩:=info_parts info9;obtain⟨b0,w8,ap,a0,ag,aN,bI⟩:=aZ.append (P:=Tryz.prog) 93 93 9 bK (.string ⟨#[]⟩) 1 16 Tryz.underlying93 aV a1 a2 a3 rfl ⟨w7.heap.size,0,none⟩ 1 1 [.string r] rfl (World.news_of_block (Qf (w:=w7) (.cells #[.string r] 9))) (by intro u D;simp at D;subst D;rfl) (by omega) (by omega) (by omega) (by omega);rw[ApG] at ap;have aU:=ag.keep (((Zr Ze w7).alloc (.cells #[.string r] 9)).keep bd.out (fun f=>f)) (fun e=>(ab g e).2.2.2 rfl);have bY:w8.cell? ⟨g,o+(m - 1)*3+2,none⟩=some (.slice ra z.1.recs.length rcap):=Qe (ag) (Qe ((Zr Ze w7).alloc (.cells #[.string r] 9)) J (fun f=>f)) (fun e=>(ab g e).2.2.2 rfl);have bO:=Qg aU (o+(m - 1)*3+2) none;obtain⟨bP,bZ,c9,rfl⟩:=bI;have br:=Zh a0;have bp:=Zh ag;have a9:=Zh aN;clear a0 ag aN aZ aY az ab aV a1 a2 a3 aU bL bv bJ;have a8:Hid (ad<4096):=Zh aO;clear bw hsz aO;go_wp2_with fail;go_ret;have aR:=QrQ (w5:=w6) (w8:=w8) ai.out aE.out (by rw[aD.out];have:=a8.out;omega) bH (by exact bb.out) Y.out.fv bj.out bh.out bg.out Z.out (by rw[<-ac.out,aI.out,ay];exact bp.out) br.out (by rw[<-ac.out,aI.out,ay];exact a9.out) ⟨_,_,_,rfl⟩;rw[<-ac.out] at aR;exact aR
end
section
variable {w:World} {Sw Sd:Nat->Prop} {wb db room n x:Nat} {pre:ByteArray} {E:List FV} {fv:Value}
theorem Qj9{x:Nat}{D:List Fl}(h:Qbr D=true)(r:ByteArray)(I:XY x D):XE x D r=ZF D++[⟨Qp x D,[r],0⟩]:=by
 rcases WI D with rfl|⟨a,f,rfl⟩
 ·rfl
 ·unfold Qbr at h
  rw[Qbs] at h;rw[QdQ _ _ _ _ (by simpa using h),WL,Ws]
theorem Ql4(A:List FV)(u a b D I:Value):((Xq A++[u,a,b]).set (A.length*3+1) D).set (A.length*3+2) I=Xq A++[u,D,I]:=by
 have J:=QcF A;rw[List.set_append,if_neg (by omega),List.set_append,if_neg (by omega),J,show A.length*3+1 - A.length*3=1 by omega,show A.length*3+2 - A.length*3=2 by omega];rfl
theorem QrW(h:QZ w Sw Sd wb db room n x pre E fv){r:ByteArray}{J:Nat}(aI:KZ x (Qn E++[⟨J,[r],0⟩]))
  {w5 w6 w9:World} {O:Nat->Prop} {fv' rv:Value} {g o cap:Nat} {sz q7:Nat} {aw:List Value} (hsz:sz=r.size+8) (aO:Has w5 O db room (n+1) (Qo pre (Qn E++[⟨J,[r],0⟩]))) (av: ∀k,O k->Sd k\/w.heap.size<=k) (al:Qa Sd w w5)
  (aM:Qa (fun j=>fv.ownBlock=some j) (w5.alloc (.cells #[.int .u64 J,.int .i64 0,.slice none 0 0] 152)) w6) (aq:Q0 w6 152 3 fv' (E.length+1) (Xq E++[.int .u64 J,.int .i64 0,.slice none 0 0]))
  (aF:fv'.ownBlock=fv.ownBlock\/fv'.ownBlock=some (w5.alloc (.cells #[.int .u64 J,.int .i64 0,.slice none 0 0] 152)).heap.size) (ai:fv'= .slice (some ⟨g,o,none⟩) (E.length+1) cap)
  (aN:Qa (fun j=>(Value.slice none 0 0).ownBlock =some j) ((((w6.setCell ⟨wb,3,none⟩ fv').drewN q7).setCell ⟨g,o+E.length*3+1,none⟩ (.int .i64 sz)).alloc (.cells #[.string r] 9)) w9) (ar:Q0 w9 9 1 rv 1 aw)
  (aJ:rv.ownBlock=(Value.slice none 0 0).ownBlock \/rv.ownBlock=some ((((w6.setCell ⟨wb,3,none⟩ fv').drewN q7).setCell ⟨g,o+E.length*3+1,none⟩ (.int .i64 sz)).alloc (.cells #[.string r] 9)).heap.size) (hrs: ∃g o cap,rv= .slice (some ⟨g,o,none⟩) 1 cap):
  K3 Sw wb db room (n+1) x pre (Qn E++[⟨J,[r],0⟩]) (.int .i64 0) w (.returned (.int .i64 0)) (w9.setCell ⟨g,o+E.length*3+2,none⟩ rv):=by
 have Q:fv'.ownBlock=some g:=by rw[ai];rfl
 have Y: ∀q,q<w.heap.size-> ¬Sd q-> ¬O q:=fun q I aB aC=>(av q aC).elim aB (fun h=>by omega)
 obtain⟨ax,ap,aE⟩:=aO;have ak: ∀q,O q->q<w5.heap.size:=ap.below;have a0:=al.size;have au:=Ql h.row;have aD:=h.tab.1.two;have M:g≠wb/\ ¬O g/\g≠2/\(Sw g\/w.heap.size<=g):=by
  have aX:w5.heap.size<=(w5.alloc (.cells #[.int .u64 J,.int .i64 0,.slice none 0 0] 152)).heap.size :=((Zr Ze w5).alloc _).size;rcases aF with e|e
  ·rw[Q] at e
   have:=h.own g e.symm;have aH:=h.files.lt g e.symm;refine⟨this.2.2,Y g aH this.2.1,?_,.inl this.1⟩;rintro rfl;exact h.tab.2 this.1
  ·rw[Q] at e
   simp only[Option.some.injEq] at e;exact⟨by omega,fun Z=>by have:=ak _ Z;omega,by omega,.inr (by omega)⟩
 have ad:Qa (fun j=>fv.ownBlock=some j) w5 w6:=((Zr _ w5).alloc _).trans aM (fun _ _ h=>h);have af:Qa (fun i=>i=wb\/i=g) w6 ((((w6.setCell ⟨wb,3,none⟩ fv').drewN q7).setCell ⟨g,o+E.length*3+1,none⟩ (.int .i64 sz))):=(((Zr (fun i=>i=wb\/i=g) w6).setCell (p:=⟨wb,3,none⟩) (fun _=>.inl rfl) _).drewN q7).setCell (p:=⟨g,o+E.length*3+1,none⟩) (fun _=>.inr rfl) _;have W:Qa Ze ((((w6.setCell ⟨wb,3,none⟩ fv').drewN q7).setCell ⟨g,o+E.length*3+1,none⟩ (.int .i64 sz))) (((((w6.setCell ⟨wb,3,none⟩ fv').drewN q7).setCell ⟨g,o+E.length*3+1,none⟩ (.int .i64 sz))).alloc (.cells #[.string r] 9)):=(Zr _ _).alloc _;have ab:Qa Ze (((((w6.setCell ⟨wb,3,none⟩ fv').drewN q7).setCell ⟨g,o+E.length*3+1,none⟩ (.int .i64 sz))).alloc (.cells #[.string r] 9)) w9:=aN.mono (fun i _ e=>by cases e);have U:Qa (fun i=>i=g) w9 (w9.setCell ⟨g,o+E.length*3+2,none⟩ rv):=(Zr (fun i=>i=g) w9).setCell (p:=⟨g,o+E.length*3+2,none⟩) (fun _=>rfl) _;have aW:w6.heap.size<=(((((w6.setCell ⟨wb,3,none⟩ fv').drewN q7).setCell ⟨g,o+E.length*3+1,none⟩ (.int .i64 sz))).alloc (.cells #[.string r] 9)).heap.size :=Zt af.size W.size;have aV:=ad.size;have aU:w6.heap.size<=(w9.setCell ⟨g,o+E.length*3+2,none⟩ rv).heap.size :=Zt (Zt (Zt af.size W.size) ab.size) U.size
 have ae:Qa (fun i=>i=wb\/i=g\/fv.ownBlock=some i) w5 (w9.setCell ⟨g,o+E.length*3+2,none⟩ rv):=((((ad.mono (T:=fun i=>i=wb\/i=g\/fv.ownBlock=some i) (fun _ _ h=>.inr (.inr h))).trans af (fun i _ h=>h.elim .inl (fun h=>.inr (.inl h)))).trans W (fun _ _ f=>f.elim)).trans ab (fun _ _ f=>f.elim)).trans U (fun i _ h=>.inr (.inl h));have ah:Qa (fun i=>Sd i\/i=wb\/i=g\/fv.ownBlock=some i) w (w9.setCell ⟨g,o+E.length*3+2,none⟩ rv):=(al.mono (fun _ _ h=>.inl h)).trans ae (fun i _ h=>.inr h);have aK:(w9.setCell ⟨g,o+E.length*3+2,none⟩ rv).heap[wb]? =some (.cells (We db pre fv') 140 (0,0)):=by
  have aQ:=al.keep h.row h.swb.2;have aR:=ad.keep aQ (fun e=>(h.own wb e).2.2 rfl);have am:=Qi (o:=3) aR fv';have am:((w6.setCell ⟨wb,3,none⟩ fv').drewN q7).heap[wb]? =_:=am;have aS:=((Zr (fun i=>i=g) ((w6.setCell ⟨wb,3,none⟩ fv').drewN q7)).setCell (p:=⟨g,o+E.length*3+1,none⟩) (fun _=>rfl) (.int .i64 sz)).keep am (fun e=>M.1 e.symm);have aT:=U.keep (ab.keep (W.keep aS (fun f=>f)) (fun f=>f)) (fun e=>M.1 e.symm);rw[aT];rfl
 have aG:Q0 (w9.setCell ⟨g,o+E.length*3+2,none⟩ rv) 152 3 fv' (E.length+1) (Xq E++[.int .u64 J,.int .i64 sz,rv]):=by
  have az:=aq.upd (((Zr (fun i=>i=wb) w6).setCell (p:=⟨wb,3,none⟩) (fun _=>rfl) fv').drewN q7) (fun q I e=>by rw[Q] at I;cases I;exact M.1 e);have an:=(az.set ai (E.length*3+1) (.int .i64 sz))
  rw[<-Nat.add_assoc] at an;have ao:=((an.upd W (fun _ _ f=>f)).upd ab (fun _ _ f=>f)).set ai (E.length*3+2) rv;rw[<-Nat.add_assoc,Ql4] at ao;exact ao
 generalize (((((w6.setCell ⟨wb,3,none⟩ fv').drewN q7).setCell ⟨g,o+E.length*3+1,none⟩ (.int .i64 sz))).alloc (.cells #[.string r] 9)).heap.size =N at*
 have aY:g<w6.heap.size:=aq.lt g Q;have aa: ∀q,rv.ownBlock=some q->q=N:=by
  intro q I;rcases aJ with e|e
  ·rw[e] at I;cases I
  ·rw[e] at I;cases I;rfl
 have aL: ∀q,fv.ownBlock=some q-> ¬O q:=fun q I=>Y q (h.files.lt q I) (h.own q I).2.1
 have ag:Qn (E++[((⟨J,[r],0⟩:Fl),rv)])=Qn E++[⟨J,[r],0⟩]:=KL E _;refine⟨rfl,fun i=>Sw i\/O i\/i=g\/rv.ownBlock=some i,O,E++[((⟨J,[r],0⟩:Fl),rv)],fv',⟨aK,?_,by rw[ag];exact aI,h.pok,fun y ac=> ?_,fun A1 y e=> ?_,fun q I=> ?_,⟨.inl h.swb.1,Y _ au h.swb.2⟩,fun i D=>.inr (.inl D),fun i D=> ?_,?_,h.tab.1.upd ah ?_,?_⟩,ag,fun i D=> ?_,ah.mono (fun i hi0 D=> ?_)⟩
 ·rw[Qbo,show (E++[((⟨J,[r],0⟩:Fl),rv)]).length =E.length+1 by simp]
  show Q0 _ 152 3 fv' _ (Xq E++[.int .u64 J,.int .i64 ((frames [r]).size :Nat),rv]);rw[QeH,<-hsz];exact aG
 ·rw[List.mem_append,List.mem_singleton] at ac
  rcases ac with ac|rfl
  ·exact h.lens y ac
  ·obtain⟨aA,aP,c9,ay⟩:=hrs
   exact⟨some ⟨aA,aP,none⟩,c9,ay⟩
 ·obtain⟨e1,Z⟩:=List.append_inj' e rfl
  simp only[List.cons.injEq,and_true] at Z;subst Z;refine⟨⟨aw,ar.upd U (fun q I e=>by have:=aa q I;omega)⟩,fun q I=> ?_⟩;have aZ:=aa q I;exact⟨.inr (.inr (.inr I)),fun e=>by have:=ak q e;omega,by omega,fun e=>by rw[Q] at e;cases e;omega⟩
 ·rw[Q] at I
  cases I
  exact⟨.inr (.inr (.inl rfl)),M.2.1,M.1⟩
 ·rcases D with D|D|D|D
  ·exact Zu (h.lt i D) ah.size
  ·exact Zu (ak i D) ae.size
  ·rw[D];omega
  ·exact Zu (ar.lt i D) U.size
 ·rw[ag]
  refine (show Has w5 O db room (n+1) (Qo pre (Qn E++[⟨J,[r],0⟩])) from ⟨ax,ap,aE⟩).upd ae (fun k aj e=> ?_);rcases e with e|e|e
  ·exact Y wb au h.swb.2 (by rw[<-e];exact aj)
  ·exact M.2.1 (by rw[<-e];exact aj)
  ·exact aL k e aj
 ·rintro (e|e|e|e)
  ·exact h.tab.2 (h.sub 2 e)
  ·exact h.tab.2 (by rw[e];exact h.swb.1)
  ·exact M.2.2.1 e.symm
  ·exact h.tab.2 (h.own 2 e).1
 ·rintro (e|e|e|e)
  ·exact h.tab.2 e
  ·exact Y 2 aD (fun e=>h.tab.2 (h.sub 2 e)) e
  ·exact M.2.2.1 e.symm
  ·have:=aa 2 e;omega
 ·rcases D with D|D|D|D
  ·exact .inl D
  ·exact (av i D).imp (h.sub i) id
  ·rw[D];exact M.2.2.2
  ·have:=aa i D;exact .inr (by omega)
 ·rcases D with D|D|D|D
  ·exact h.sub i D
  ·rw[D];exact h.swb.1
  ·rw[D] at hi0 ⊢
   exact M.2.2.2.elim id (fun h=>by omega)
  ·exact (h.own i D).1
end
section
variable {w:World} {Sw Sd:Nat->Prop} {wb db room n x:Nat} {pre:ByteArray} {E:List FV} {fv:Value}
theorem Qej:(Tryz.prog.info? 152).map (fun i=>(i.zero,i.size,i.bytes))=some (some (.agg #[.int .u64 0,.int .i64 0,.slice none 0 0]),3,40):=by kernel_rfl
theorem K3.after{Q:World}{D:Nat->Prop}{O:Nat}{I:List Fl}{v:Value}{e:Ending}{w':World}(h:K3 D wb db room O x pre I v Q e w')(M: ∀i,D i->Sw i\/w.heap.size<=i)(N:Qa Sw w Q):K3 Sw wb db room O x pre I v w e w':=by
 obtain⟨ae,W,Y,U,Z,aa,ab,ac,ad⟩:=h;refine⟨ae,W,Y,U,Z,aa,ab,fun i J=> ?_,N.trans ad (fun i J h=>(M i h).elim id (fun h=>by omega))⟩;rcases ac i J with h|h
 ·exact M i h
 ·have:=N.size;exact .inr (by omega)
theorem QrR(h:QZ w Sw Sd wb db room n x pre E fv)(af:Qbr (Qn E)=true){r:ByteArray}(cF:r.size<=1000000)(aC:Qp x (Qn E)+1<=QV)(bO:r.size+8+total (Qo pre (Qn E))<=room)(cY:n<=1000000):
  Calls Tryz.prog 77 #[.pointer (some ⟨wb,0,none⟩),.string r] w (K3 Sw wb db room (n+1) x pre (XE x (Qn E) r) (.int .i64 0) w):=by
 obtain⟨ay,aO,am,U,aP⟩:=h.shape;have av:=Zh (Qa9 h);have ag:=Zh (QgT r w (by omega));unfold QdD at ag;have aj:Hid (∀w',Qa Ze w w'->Calls Tryz.prog 23 #[.pointer (some ⟨wb,0,none⟩)] w' (Qk (.int .u64 (Qp x (Qn E):Nat)) w')):=Zh (fun w' hu=>Qcf (h.Qc hu));have aV:=Qj9 af r h.ok.chain;rw[aV];have a5:=(QbU h.ok cF aC).1;rw[aV] at a5;have aK:=Zh a5;have bE:1<=Qp x (Qn E):=by have:=(ZR _ _ h.ok.chain).1;have:=h.ok.first;omega
 have cz:Qp x (Qn E)<=500000:=by unfold QV at aC;omega
 have a3: ¬(1000000000000000:Int)< (Qp x (Qn E):Int):=by omega
 have ah:=Zh h;have ax:=Zh bO;have bh:=Zh aC;have ar:=Zh (Ww r);clear a5 aV bO aC ay aO aP;obtain⟨ad,aR⟩: ∃ad,ad=XW r:=⟨_,rfl⟩
 rw[<-aR] at ag ar;have b9:=Zh aR;clear aR;obtain⟨M,a4⟩: ∃M,M=Qp x (Qn E):=⟨_,rfl⟩
 rw[<-a4] at bE cz a3 aj aK ⊢;have aw:=Zh a4;clear a4;obtain⟨ak,aT⟩: ∃ak,ak=ZF (Qn E):=⟨_,rfl⟩
 rw[<-aT] at aK ⊢;have bo:=Zh aT;clear aT;obtain⟨bb,aS⟩: ∃bb,bb=ak++[(⟨M,[r],0⟩:Fl)]:=⟨_,rfl⟩
 rw[<-aS];have ca:=Zh aS;clear aS;by_cases hE:E=[]
 case' pos=>
  subst hE;obtain⟨a,cap,an⟩:=h.files.slice;have an:fv= .slice a 0 cap:=an;subst an;clear h;go_enter Tryz.func77,Tryz.ntmps77;go_wp2_with fail;refine av.out.mono ?_
  rintro e w' ⟨rfl,rfl⟩;go_wp2_with fail;refine ag.out.mono ?_
  rintro e cR ⟨rfl,W⟩;have aM:=Zh W;go_wp2_with fail;refine (aj.out _ W).mono ?_
  rintro e w2 ⟨rfl,ao⟩;have ae:=Zh (W.trans ao (fun _ _ f=>f));have Y:=Qe ae.out U (fun f=>f);have Z:=Zh U;clear W ao aj ag av aM am U;go_upto_region 7 with fail
  go_quiet (fail);have O:=Zh (ae.out.drewN nq);clear Y;have Y:=Qe O.out Z.out (fun f=>f);generalize w2.drewN nq=w3 at*
  go_upto_region 12 with fail
  have J:=Zh (ah.out.Qc O.out);have bp:Hid (Qa Sw w w3):=Zh (O.out.mono (fun _ _ f=>f.elim));have bm:Hid (∀i,Sw i->Sw i\/w.heap.size<=i):=Zh (fun i a1=>.inl a1);have aq:Hid (Qn ([]:List FV)=ak):=Zh bo.out.symm;have aN:Hid (Qp x (Qn ([]:List FV))=M):=Zh aw.out.symm;have aL:Hid (r.size+8+total (Qo pre (Qn ([]:List FV)))<=room):=ax;clear Y Z O ae ah ax af bh aw a3;have bu:Hid (([]:List FV).length =0):=Zh rfl;generalize ([]:List FV)=N at J aq aN aL bu;obtain⟨al,aU⟩: ∃al,al=Sw:=⟨_,rfl⟩
  obtain⟨ab,bw⟩: ∃ab,ab=Sd:=⟨_,rfl⟩
  have bn:Hid (∀i,al i->Sw i\/w.heap.size<=i):=by rw[aU];exact bm
  rw[<-aU,<-bw] at J;clear bm bu aU bw;generalize Value.slice a 0 cap=aQ at*
 case' neg=>
  obtain⟨A,z,az⟩: ∃A z,E=A++[z]:=by
   rcases List.eq_nil_or_concat E with h|⟨A,z,h⟩
   ·exact absurd h hE
   ·exact⟨A,z,by rw[h,List.concat_eq_append]⟩
  obtain⟨g,o,cap,ra,rcap,aA,cv⟩:=h.Qht az;have cw:4096<=z.1.bytes.size:=by
   rw[az,KL] at af;unfold Qbr at af;rw[Qbs] at af
   simpa using af
  obtain⟨aG,bM,bN⟩:=aA.mok;have an:=aA.fv;subst an;have e1:=aA.c1;obtain⟨m,ac⟩: ∃m,m=E.length:=⟨_,rfl⟩
  rw[<-ac] at aG bM bN U e1;have aa:=Zh ac;have a2: ¬(m:Int)=0:=by omega
  have cC:((m:Int)==0)=false:=by simp;omega
  have cB:(0:Int)< (m:Int):=by omega
  have cG:IntKind.i64.wrap ((m:Int) - 1)=((m - 1:Nat):Int):=by rw[IntWalk.i64_in _ (by omega)];omega
  have cH:(0:Int)<=((m - 1:Nat):Int):=by omega
  have cI:((m - 1:Nat):Int)< (m:Int):=by omega
  have hsz:(4096:Int)<=z.1.bytes.size:=by omega
  have cy:decide ((4096:Int)<=z.1.bytes.size)=true:=by simpa using hsz
  have b7:=Zh az;clear h aA ac cv af az;generalize z.1.bytes.size=cr at*
  have Z:Hid (∀w',Qa Ze w w'->w'.cell? ⟨wb,3,none⟩=some (.slice (some ⟨g,o,none⟩) m cap)/\w'.cell? ⟨wb,2,none⟩=some (.int .i64 4096)/\w'.cell? ⟨g,o+(m - 1)*3+1,none⟩=some (.int .i64 cr)):=Zh (fun w' hu=>⟨Qe hu U (fun f=>f),Qe hu am (fun f=>f),Qe hu e1 (fun f=>f)⟩);clear am U e1;go_enter Tryz.func77,Tryz.ntmps77;go_wp2_with fail;refine av.out.mono ?_
  rintro e w' ⟨rfl,rfl⟩;go_wp2_with fail;refine ag.out.mono ?_
  rintro e cR ⟨rfl,W⟩;have aM:=Zh W;go_wp2_with fail;refine (aj.out _ W).mono ?_
  rintro e w2 ⟨rfl,ao⟩;have ae:=Zh (W.trans ao (fun _ _ f=>f));obtain⟨Y,a8,a9⟩:=Z.out _ ae.out;clear W ao aj ag av aM;go_upto_region 7 with fail
  go_quiet (fail);have O:=Zh (ae.out.drewN nq);clear Y a8 a9;obtain⟨Y,a8,a9⟩:=Z.out _ O.out;generalize w2.drewN nq=w3 at*
  go_upto_region 11 with fail
  go_wp2_with fail;refine (Qji (ah.out.Qc O.out) hE).mono ?_
  rintro e b4 ⟨rfl,al,ab,N,aQ,bv,aE,bP,bQ⟩;have J:=Zh bv;have bp:Hid (Qa Sw w b4):=Zh ((O.out.mono (fun _ _ f=>f.elim)).trans bQ (fun _ _ h=>h));have aq:Hid (Qn N=ak):=Zh (by rw[aE,bo.out]);have aN:Hid (Qp x (Qn N)=M):=Zh (by rw[aE,aw.out];exact (Qe7 ah.out.ok).2.2);have aL:Hid (r.size+8+total (Qo pre (Qn N))<=room):=Zh (by rw[aE,Qfg];exact ax.out);have bn:Hid (∀i,al i->Sw i\/w.heap.size<=i):=Zh (fun i a1=>(bP i a1).imp id (fun h=>by have:=O.out.size;omega));clear bv aE bP bQ Y a8 a9 Z O ae ah ax bh aw a3 cy hsz cw cG cH cI a2 cC cB aG bM bN aa b7;generalize w3=w0 at*
  generalize b4=w3 at*
  go_upto_region 12 with fail
 all_goals
  have bC:=J.out.ok.chain;obtain⟨ay,aO,am,U,aP⟩:=J.out.shape;have bB:=J.out.ok.cap;have bz:WS room (Qo pre (Qn N)) (QJ pre M) ad=(Qo pre (Qn N++[⟨M,[r],0⟩]),0):=by
   have:=Qlt bC bB (r:=r) J.out.pok aL.out;rw[aN.out] at this;rw[b9.out];exact this
  have bk:Hid (∀w',Qa Ze w3 w'->Calls Tryz.prog 59 #[.pointer (some ⟨wb,0,none⟩),.int .u64 M] w' (Qk (.string (QJ pre M)) w')):=Zh (fun w' hu=>QdS J.out hu bE (by omega));have bc:Hid (∀w',Qa Ze w3 w'->Calls Tryz.prog 124 #[.pointer (some ⟨db,0,none⟩),.string (QJ pre M),.string ad] w' (Op ab w' db room (n+1) (Qo pre (Qn N++[⟨M,[r],0⟩])) 0)):=Zh (fun w' hu=>by
   have:=Qgf (h:=J.out.disk.upd hu (fun _ _ f=>f)) (QJ pre M) ad (by rw[W6];have:=J.out.pok;unfold maxLen;omega) (by have:=ar.out;omega) (by unfold maxLen;omega);rw[bz] at this;exact this)
  generalize QJ pre M=NM at*
  have aJ:Hid (¬ab wb):=Zh J.out.swb.2;have Z:=Zh U;have bg:=Zh ay;clear bC bB bz aO am aP ay U;go_upto_region 15 with fail
  have hcur:Qa Ze w3 w3.drew:=(Zr _ w3).drew;have b0:=Qe hcur bg.out (fun f=>f);go_region_held3 (fun w'=>w'.cell? ⟨wb,0,none⟩=some (.pointer (some ⟨db,0,none⟩))) (first|exact b0|exact ap|exact b1) ((first
   |(go_at_call 59;refine (bk.out _ (by assumption)).mono ?_;rintro e cT ⟨rfl,bS⟩;have aD:Qa Ze w3 cT:=Qa.trans hcur bS (fun _ _ f=>f);have ap:=Qe aD bg.out (fun f=>f))
   |(go_at_call 124;refine (bc.out _ (by assumption)).mono ?_;rintro e w5 ⟨rfl,cq,D,b2,ba⟩;have b1:=Qe ba ap aJ.out)))
  all_goals
   have ai:Hid (Qa ab w3 w5):=Zh ((aD.mono (fun _ _ f=>f.elim)).trans ba (fun _ _ h=>h));have ch:Hid (∀k,cq k->ab k\/w3.heap.size<=k):=Zh (fun k cA=>(b2 k cA).imp id (fun h=>by have:=aD.size;omega));have cg:=Zh D;clear D b2 ba b1 ap b0 hcur aD bS;have Y:=Qe ai.out Z.out aJ.out;have bR:Qa ab w3 (w5.alloc (.cells #[.int .u64 M,.int .i64 0,.slice none 0 0] 152)):=ai.out.alloc _;have bF:=J.out.files.upd bR (fun q cE=>(J.out.own q cE).2.1);have cx:=J.out.count.1;obtain⟨cL,bK,bX,bY,bZ⟩:=info_parts Qej;obtain⟨fv',w6,aB,aF,a7,aW,I,D,Q,rfl⟩:=bF.append (P:=Tryz.prog) 138 138 152 cL (.agg #[.int .u64 0,.int .i64 0,.slice none 0 0]) 3 40 Tryz.underlying138 bK bX bY bZ rfl ⟨w5.heap.size,0,none⟩ 1 1 [.int .u64 M,.int .i64 0,.slice none 0 0] rfl (World.news_of_block (Qf (w:=w5) (.cells #[.int .u64 M,.int .i64 0,.slice none 0 0] 152))) (by intro u hu;simp at hu;rcases hu with rfl|rfl|rfl<;>rfl) (by omega) (by omega) (by omega) (by omega);rw[ApG] at aB;obtain⟨m,ac⟩: ∃m,m=N.length:=⟨_,rfl⟩
   rw[<-ac] at aB aF cx;have aa:=Zh ac;have b8:=Zh aF;have cl:=Zh a7;have bd:=Zh aW;have aH:w6.heap[wb]? =some (.cells (We db pre aQ) 140 (0,0)):=a7.keep (((Zr Ze w5).alloc _).keep (ai.out.keep J.out.row aJ.out) (fun f=>f)) (fun e=>(J.out.own wb e).2.2 rfl);have cN:w6.cell? ⟨wb,3,none⟩=some aQ:=Qb aH 3;have ct:=Qg aH 3 none;have bJ:I≠wb:=by
    have cZ:wb<w5.heap.size:=Zu (Ql J.out.row) ai.out.size;have cX:w5.heap.size<=(w5.alloc (.cells #[.int .u64 M,.int .i64 0,.slice none 0 0] 152)).heap.size :=((Zr Ze w5).alloc _).size;rcases aW with e|e
    ·exact (J.out.own I e.symm).2.2
    ·simp only[Value.ownBlock,Option.some.injEq] at e
     omega
   obtain⟨cW,c0,cU,cur,bD,cD,bI,_,aX⟩:=aF.at (by omega);simp only[Value.slice.injEq,Option.some.injEq,Addr.mk.injEq,and_true,true_and] at bD;obtain⟨⟨rfl,rfl⟩,rfl⟩:=bD;have a0:(Xq N).length =m*3:=by rw[ac];exact QcF N
   have aY:cur[D+(m*3+1)]? =some (.int .i64 0):=aX _ _ (by rw[List.getElem?_append_right (by omega),a0,show m*3+1 - m*3=1 by omega];rfl);have aZ:cur[D+(m*3+2)]? =some (.slice none 0 0):=aX _ _ (by rw[List.getElem?_append_right (by omega),a0,show m*3+2 - m*3=2 by omega];rfl);rw[<-Nat.add_assoc] at aY aZ;have cb:=Zh bI;have b5:=Zh aY;have b6:=Zh aZ;have cf:=Zh bJ;have ci:=Zh aH;clear ac aF a7 aW bF bR bK bX bY bZ bc bk aH bI aY aZ aX bJ cD a0;go_upto_region 19 with fail
   go_upto_region 20 with fail
   have cO:(w6.setCell ⟨wb,3,none⟩ (.slice (some ⟨I,D,none⟩) (m+1) Q)).cell? ⟨wb,3,none⟩=some (.slice (some ⟨I,D,none⟩) (m+1) Q):=by
    rw[Qb (Qi ci.out (.slice (some ⟨I,D,none⟩) (m+1) Q))];rfl
   have bx:Qa (fun i=>i=wb) w6 (w6.setCell ⟨wb,3,none⟩ (.slice (some ⟨I,D,none⟩) (m+1) Q)):=(Zr (fun i=>i=wb) w6).setCell (p:=⟨wb,3,none⟩) (fun _=>rfl) _;have bj:=Zh (bx.keep cb.out cf.out);have co:Hid (w6.setCell ⟨wb,3,none⟩ (.slice (some ⟨I,D,none⟩) (m+1) Q)=w6.setCell ⟨wb,3,none⟩ (.slice (some ⟨I,D,none⟩) (m+1) Q)):=Zh rfl;clear bx aB cN ct Y;generalize hw7:w6.setCell ⟨wb,3,none⟩ (.slice (some ⟨I,D,none⟩) (m+1) Q)=w7 at*
   have cn:=Zh hw7;clear hw7 co;have cJ:IntKind.i64.wrap (m:Int)=m:=IntWalk.i64_in _ (by omega);have a2:(0:Int)<=m:=by omega
   have aG:(m:Int)< (m:Int)+1:=by omega
   go_quiet (fail);have bq:Hid (((w6.setCell ⟨wb,3,none⟩ (.slice (some ⟨I,D,none⟩) (m+1) Q)).drewN nq)=w7.drewN nq):=Zh (by rw[cn.out]);have au:Hid ((w7.drewN nq).heap[I]? =some (.cells cur 152 (0,0))):=Zh bj.out;clear cO bj cJ a2 aG;generalize w7.drewN nq=w8 at*
   have cP:w8.cell? ⟨I,D+m*3+1,none⟩=some (.int .i64 0):=by rw[Qb au.out];exact b5.out
   have cs:=Qg au.out (D+m*3+1) none;obtain⟨sz,a6⟩: ∃sz:Nat,sz=ad.size:=⟨_,rfl⟩
   have cK:IntKind.i64.wrap (ad.size:Int)=sz:=by have:=ar.out;rw[IntWalk.i64_in _ (by omega),a6]
   have cj:Hid (sz=r.size+8):=Zh (by rw[a6,ar.out]);clear a6;go_upto_region 21 with fail
   go_upto_region 22 with fail
   have ce:Hid _:=Zh (Qi (o:=D+m*3+1) au.out (.int .i64 sz));have cQ:(w8.setCell ⟨I,D+m*3+1,none⟩ (.int .i64 sz)).cell? ⟨I,D+m*3+2,none⟩=some (.slice none 0 0):=by
    rw[World.cell?_setCell_other _ _ _ _ (by simp),Qb au.out];exact b6.out
   have cp:Hid (w8.setCell ⟨I,D+m*3+1,none⟩ (.int .i64 sz)=w8.setCell ⟨I,D+m*3+1,none⟩ (.int .i64 sz)):=Zh rfl;clear cP cs cK;generalize hw9:w8.setCell ⟨I,D+m*3+1,none⟩ (.int .i64 sz)=w9 at*
   have br:=Zh hw9;clear hw9 cp;obtain⟨ap,bL,bU,bV,bW⟩:=info_parts info9;obtain⟨c1,b3,aB,bT,aI,bA,cu,cM,c9,rfl⟩:=(Q0.nil (w9.alloc (.cells #[.string r] 9)) 9 1).append (P:=Tryz.prog) 93 93 9 ap (.string ⟨#[]⟩) 1 16 Tryz.underlying93 bL bU bV bW rfl ⟨w9.heap.size,0,none⟩ 1 1 [.string r] rfl (World.news_of_block (Qf (w:=w9) (.cells #[.string r] 9))) (by intro u hu;simp at hu;subst hu;rfl) (by omega) (by omega) (by omega) (by omega);rw[ApG] at aB;have bH:=aI.keep (((Zr Ze w9).alloc (.cells #[.string r] 9)).keep ce.out (fun f=>f)) (fun e=>by cases e);have c2:b3.cell? ⟨I,D+m*3+2,none⟩=some (.slice none 0 0):=Qe aI (Qe ((Zr Ze w9).alloc (.cells #[.string r] 9)) cQ (fun f=>f)) (fun e=>by cases e);have cV:=Qg bH (D+m*3+2) none;have bs:=Zh bT;have cm:=Zh aI;have be:=Zh bA;clear bT aI bA bL bU bV bW bH;rw[Nat.zero_add] at aB bs be;go_wp2_with fail;go_ret;have bG:=QrW (w5:=w5) (w6:=w6) (w9:=b3) (q7:=nq) (g:=I) (o:=D) (cap:=Q) (fv':=.slice (some ⟨I,D,none⟩) (m+1) Q) (sz:=sz) (rv:=.slice (some ⟨cu,cM,none⟩) 1 c9) J.out (by rw[aq.out];exact aK.out) cj.out cg.out ch.out ai.out cl.out (by rw[<-aa.out];exact b8.out) (by rw[<-aa.out] at bd;exact bd.out) (by rw[aa.out]) (by rw[bq.out,<-aa.out,br.out];exact cm.out) bs.out (by rw[bq.out,<-aa.out,br.out];exact be.out) ⟨_,_,_,rfl⟩;rw[<-aa.out,aq.out,<-ca.out] at bG;exact bG.after bn.out bp.out
end
end
section
open Go.RowKit Go.Acre Go.Acre.Dk
attribute [local simp] QH
section
variable {w:World} {Sw Sd:Nat->Prop} {wb db room n x:Nat} {pre:ByteArray} {E:List FV} {fv:Value}
theorem QrP(h:QZ w Sw Sd wb db room n x pre E fv){r:ByteArray}(M:r.size<=1000000)(I:Qp x (Qn E)+1<=QV)(N:r.size+8+total (Qo pre (Qn E))<=room)(J:n<=1000000):
  Calls Tryz.prog 77 #[.pointer (some ⟨wb,0,none⟩),.string r] w (K3 Sw wb db room (n+1) x pre (XE x (Qn E) r) (.int .i64 0) w):=by
 cases hf:Qbr (Qn E) with
 |true=>exact QrR h hf M I N J
 |
  false=>
  rcases List.eq_nil_or_concat E with D|⟨A,z,D⟩
  ·rw[D] at hf;cases hf
  ·rw[List.concat_eq_append] at D
   refine QrS h D ?_ M I N J
   rw[D,KL] at hf;unfold Qbr at hf;rw[Qbs] at hf
   simpa using hf
theorem Q0.tail{w:World}{e:TypeId}{size:Nat}{n:Nat}{I:List Value}{g o cap:Nat}(h:Q0 w e size (.slice (some ⟨g,o,none⟩) (n+1) cap) (n+1) I):Q0 w e size (.slice (some ⟨g,o+size,none⟩) n (cap - 1)) n (I.drop size):=by
 refine⟨by rw[List.length_drop,h.1,Nat.succ_mul];omega,?_⟩;rcases h.2 with ⟨D,_⟩|⟨g',o',N,cur,D,J,O,Q,U,M⟩
 ·simp at D
 ·simp only[Value.slice.injEq,Option.some.injEq,Addr.mk.injEq,and_true,true_and] at D
  obtain⟨⟨rfl,rfl⟩,rfl⟩:=D;have W:(cap - 1)*size+size=cap*size:=by
   rw[<-Nat.succ_mul]
   congr 1
   omega
  refine .inr ⟨g,o+size,cap - 1,cur,rfl,J,by omega,by omega,by omega,?_⟩;rw[<-M,List.drop_take,List.drop_drop,Nat.succ_mul,Nat.add_sub_cancel]
def Qed(wb:Nat)(w:World):Nat:=match w.cell? ⟨wb,3,none⟩ with
 |some (.slice _ n _)=>n
 |_=>0
theorem QgQ(h:QZ w Sw Sd wb db room n x pre E fv):Qed wb w=E.length:=by
 obtain⟨a,cap,D⟩:=h.files.slice;unfold Qed;rw[h.shape.2.2.2.1,D]
theorem QrT{z:FV}{D:List FV}(h:QZ w Sw Sd wb db room n x pre (z::D) fv)(ao:D≠[]){g o cap:Nat}(ad:fv= .slice (some ⟨g,o,none⟩) (D.length+1) cap){w5:World}{M:Nat->Prop}(ar:Has w5 M db room n (Qo pre (Qn D)))(au: ∀k,M k->Sd k\/w.heap.size<=k)(af:Qa Sd w w5):
  QZ (w5.setCell ⟨wb,3,none⟩ (.slice (some ⟨g,o+3,none⟩) D.length (cap - 1))) (fun i=>Sw i\/M i) M wb db room n z.1.next pre D (.slice (some ⟨g,o+3,none⟩) D.length (cap - 1))/\Qa Sw w (w5.setCell ⟨wb,3,none⟩ (.slice (some ⟨g,o+3,none⟩) D.length (cap - 1))):=by
 have aa:fv.ownBlock=some g:=by rw[ad];rfl
 have U: ∀q,q<w.heap.size-> ¬Sd q-> ¬M q:=fun q J Y ai=>(au q ai).elim Y (fun h=>by omega)
 obtain⟨ah,ab,ak⟩:=ar;have Z:Qa (fun i=>i=wb) w5 (w5.setCell ⟨wb,3,none⟩ (.slice (some ⟨g,o+3,none⟩) D.length (cap - 1))):=(Zr (fun i=>i=wb) w5).setCell (p:=⟨wb,3,none⟩) (fun _=>rfl) _;have Q:Qa (fun i=>Sd i\/i=wb) w (w5.setCell ⟨wb,3,none⟩ (.slice (some ⟨g,o+3,none⟩) D.length (cap - 1))):=(af.mono (fun _ _ h=>.inl h)).trans Z (fun _ _ h=>.inr h);have ag:=Ql h.row;have aj:=h.tab.1.two;have W:=h.own g aa;have am:=h.files.lt g aa;have ac:=h.ok.chain;have ap:KZ z.1.next (Qn D):=⟨ac.2.2,by have:=(ZR _ _ ac).2.1 z.1 List.mem_cons_self;have:=h.ok.first;omega,fun e=>absurd (List.map_eq_nil_iff.1 e) ao,fun f O=>h.ok.recs f (List.mem_cons_of_mem _ O),fun f O=>h.ok.syn f (List.mem_cons_of_mem _ O),h.ok.cap⟩
 refine⟨⟨?_,?_,ap,h.pok,fun y aq=>h.lens y (List.mem_cons_of_mem _ aq),fun A y e=> ?_,fun q J=> ?_,⟨.inl h.swb.1,U _ ag h.swb.2⟩,fun i I=>.inr I,fun i I=> ?_,?_,h.tab.1.upd Q ?_,?_⟩,Q.mono (fun i _ I=> ?_)⟩
 ·have:=Qi (o:=3) (af.keep h.row h.swb.2) (.slice (some ⟨g,o+3,none⟩) D.length (cap - 1))
  rw[this];rfl
 ·have O:=h.files
  rw[ad] at O;have ae:=Q0.tail O;have al:(Xq (z::D)).drop 3=Xq D:=by
   have:Xq (z::D)=QaI z++Xq D:=List.flatMap_cons;rw[this];rfl
  rw[al] at ae;exact ae.upd Q (fun q J e=>by
   cases J
   exact e.elim W.2.1 W.2.2)
 ·obtain⟨⟨av,Y⟩,N⟩:=h.last (z::A) y (by rw[e];rfl)
  refine⟨⟨av,Y.upd Q (fun q J e=>e.elim (N q J).2.1 (N q J).2.2.1)⟩,fun q J=>⟨.inl (N q J).1,U q (Y.lt q J) (N q J).2.1,(N q J).2.2.1,fun e=>(N q J).2.2.2 (by rw[aa];exact e)⟩⟩
 ·cases J
  exact⟨.inl W.1,U g am W.2.1,W.2.2⟩
 ·rcases I with I|I
  ·exact Zu (h.lt i I) Q.size
  ·exact Zu (ab.below i I) Z.size
 ·exact (show Has w5 M db room n (Qo pre (Qn D)) from ⟨ah,ab,ak⟩).upd Z (fun k an e=>U wb ag h.swb.2 (by rw[<-e];exact an))
 ·rintro (e|e)
  ·exact h.tab.2 (h.sub 2 e)
  ·exact h.tab.2 (by rw[e];exact h.swb.1)
 ·rintro (e|e)
  ·exact h.tab.2 e
  ·exact U 2 aj (fun e=>h.tab.2 (h.sub 2 e)) e
 ·rcases I with I|I
  ·exact h.sub i I
  ·rw[I];exact h.swb.1
def QdC(Sw:Nat->Prop)(wb db room n:Nat)(pre:ByteArray)(fs':List Fl)(v:Value)(w:World)(e:Ending)(w':World):Prop:=
 e= .returned v/\ ∃x' Sw' Sd' E' fv',QZ w' Sw' Sd' wb db room n x' pre E' fv'/\Qn E'=fs'/\E'≠[]/\(∀i,Sw' i->Sw i\/w.heap.size<=i)/\Qa Sw w w'
theorem Qjf(h:QZ w Sw Sd wb db room n x pre E fv)(av:E≠[])(J:Nat)(a9:J<=1000000):
  Calls Tryz.prog 35 #[.pointer (some ⟨wb,0,none⟩),.int .u64 J] w (QdC Sw wb db room n pre (Z2 J (Qn E)) (.int .i64 0) w):=by
 have aO:=Zh (Qa9 h);have aN:=Zh h;clear h;go_enter Tryz.func35,Tryz.ntmps35;go_wp2_with fail;refine aO.out.mono ?_
 rintro e w' ⟨rfl,rfl⟩;go_upto_block 0 with fail
 go_wp2_with fail;go_loopw [] (fun wr=> ∃af Sw' Sd' ac fv',QZ wr Sw' Sd' wb db room n af pre ac fv'/\Z2 J (Qn ac)=Z2 J (Qn E)/\ac≠[]/\(∀i,Sw' i->Sw i\/w.heap.size<=i)/\Qa Sw w wr) (fun wr=>Qed wb wr)
 case atStart=>exact⟨x,Sw,Sd,E,fv,aN.out,rfl,av,fun i M=>.inl M,Zr _ _⟩
 case round=>
  obtain⟨af,Sw',Sd',ac,fv',W,U,al,aA,aC⟩:=hrel;obtain⟨z,R,rfl⟩:=List.exists_cons_of_ne_nil al;obtain⟨g,o,cap,cur,aj,ay,ak,ax,Z⟩:=W.cells al;have aa:=W.count;have I:=Zh W;have Y:=Zh aA;have ae:=Zh aC;have aL:=Zh (QgQ W);obtain⟨aq,aT,aU,Q,aV⟩:=W.shape;rw[aj] at Q;clear W aA aC av
  cases R with
  |
   nil=>
   have Q:wr.cell? ⟨wb,3,none⟩=some (.slice (some ⟨g,o,none⟩) 1 cap):=Q;have ag:Hid (QdC Sw wb db room n pre (Z2 J (Qn E)) (.int .i64 0) w (.returned (.int .i64 0)) wr):=Zh ⟨rfl,af,Sw',Sd',[z],fv',I.out,by rw[<-U];rfl,by simp,Y.out,ae.out⟩;clear Z U aa;go_wp2_with fail;go_ret;exact ag.out
  |
   cons D R=>
   obtain⟨ar,_,_⟩:=Z 0 (by simp);obtain⟨au,_,_⟩:=Z 1 (by simp);have aG:wr.cell? ⟨g,o,none⟩=some (.int .u64 (z.1.first:Nat)):=by
    rw[Qb ak]
    simpa using ar
   have a0:wr.cell? ⟨g,o+3,none⟩=some (.int .u64 (D.1.first:Nat)):=by
    rw[Qb ak]
    simpa using au
   obtain⟨m,N⟩: ∃m,m=(z::D::R).length :=⟨_,rfl⟩
   rw[<-N] at Q;have a7:(1:Int)< (m:Int):=by rw[N];simp;omega
   have ba:=aa.2 D (by simp);have aZ:=aa.2 z (by simp);by_cases hlt:D.1.first<=J
   ·have aY:(D.1.first:Int)<=J:=by omega
    have aW:1<=z.1.first:=by have:=(ZR _ _ I.out.ok.chain).2.1 z.1 List.mem_cons_self;have:=I.out.ok.first;omega
    have az:KR (Qo pre (Qn (z::D::R))) (QJ pre z.1.first)=(Qo pre (Qn (D::R)),0):=Qlx I.out.ok.chain I.out.ok.cap;have aP:Hid (∀w',Qa (fun _=>False) wr w'->Calls Tryz.prog 59 #[.pointer (some ⟨wb,0,none⟩),.int .u64 (z.1.first:Nat)] w' (Qk (.string (QJ pre z.1.first)) w')):=Zh (fun w' O=>QdS I.out O aW (by omega));have aR:Hid (∀w',Qa (fun _=>False) wr w'->Calls Tryz.prog 55 #[.pointer (some ⟨db,0,none⟩),.string (QJ pre z.1.first)] w' (Op Sd' w' db room n (Qo pre (Qn (D::R))) 0)):=Zh (fun w' O=>by
     have:=Qio (I.out.disk.upd O (fun _ _ f=>f)) (QJ pre z.1.first) (by rw[W6];have:=I.out.pok;unfold maxLen;omega);rw[az] at this;exact this)
    have ad:Hid (¬Sd' wb/\ ¬Sd' g):=Zh ⟨I.out.swb.2,(I.out.own g ay).2.1⟩;have ai:Hid (m=R.length+2):=Zh (by rw[N];rfl);have aM:=Zh aj;have aK:Hid (Z2 J (Qn (D::R))=Z2 J (Qn E)):=Zh (by
     rw[<-U];show _=(if D.1.first<=J then _ else _)
     rw[if_pos hlt];rfl)
    have ah:Hid (∀w',Qa Sd' wr w'->w'.cell? ⟨wb,0,none⟩=some (.pointer (some ⟨db,0,none⟩))/\w'.cell? ⟨wb,3,none⟩=some (.slice (some ⟨g,o,none⟩) m cap)/\w'.cell? ⟨g,o,none⟩=some (.int .u64 (z.1.first:Nat))):=Zh (fun w' O=>⟨Qe O aq ad.out.1,Qe O Q ad.out.1,Qe O aG ad.out.2⟩);have a8:m<=cap:=by rw[N];exact ax
    clear az Z U aa N ax aj ak ay aZ aq aT aU aV aG hlt al ar au;generalize QJ pre z.1.first=NM at*
    generalize z.1.first=a2 at*
    generalize D.1.first=y2 at*
    have a4:(0:Int)< (m:Int):=by omega
    have a6:(1:Int)<=m:=by omega
    have a5:0<m:=by omega
    go_upto_region 4 with fail
    have hcur:Qa (fun _=>False) wr wr.drew:=(Zr _ wr).drew;obtain⟨aD,aE,aF⟩:=ah.out _ (hcur.mono (fun _ _ f=>f.elim));clear Q a0;go_region_held3 (fun w'=>w'.cell? ⟨wb,0,none⟩=some (.pointer (some ⟨db,0,none⟩))/\w'.cell? ⟨wb,3,none⟩=some (.slice (some ⟨g,o,none⟩) m cap)/\w'.cell? ⟨g,o,none⟩=some (.int .u64 a2)) (first|exact⟨aD,aE,aF⟩|exact⟨j0,j3,jg⟩|exact⟨l0,l3,lg⟩) ((first
     |(go_at_call 59;refine (aP.out _ (by assumption)).mono ?_;rintro e a1 ⟨rfl,aB⟩;have ab:Qa (fun _=>False) wr a1:=Qa.trans hcur aB (fun _ _ f=>f);obtain⟨j0,j3,jg⟩:=ah.out _ (ab.mono (fun _ _ f=>f.elim)))
     |(go_at_call 55;refine (aR.out _ (by assumption)).mono ?_;rintro e w5 ⟨rfl,aS,aH,aI,am⟩;obtain⟨l0,l3,lg⟩:=ah.out _ ((ab.mono (fun _ _ f=>f.elim)).trans am (fun _ _ h=>h)))))
    all_goals
     have ap:Hid (Qa Sd' wr w5):=Zh ((ab.mono (fun _ _ f=>f.elim)).trans am (fun _ _ h=>h));have ao:Hid (∀k,aS k->Sd' k\/wr.heap.size<=k):=Zh (fun k aX=>(aI k aX).imp id (fun h=>by have:=ab.size;omega));have aQ:=Zh aH;have a3:w5.frozen? ⟨wb,3,none⟩=false:=Qg (ap.out.keep I.out.row ad.out.1) 3 none;clear aH aI am l0 lg ab aB hcur aD aE aF j0 j3 jg;go_wp2_with fail;have aw:(D::R).length =m - 1:=by rw[ai.out,List.length_cons];omega
     obtain⟨an,aJ⟩:=QrT (w:=wr) (wb:=wb) I.out (by simp) (by rw[aM.out];rfl) aQ.out ao.out ap.out;rw[aw] at an aJ;refine⟨⟨_,_,_,D::R,_,an,aK.out,by simp,fun i M=> ?_,ae.out.trans aJ (fun i M h=>(Y.out i h).elim id (fun h=>by omega))⟩,?_⟩
     ·rcases M with M|M
      ·exact Y.out i M
      ·rcases ao.out i M with h|h
       ·exact Y.out i (I.out.sub i h)
       ·have:=ae.out.size;exact .inr (by omega)
     ·rw[QgQ an,aL.out,aw]
      have:=ai.out;simp;omega
   ·have aY: ¬(D.1.first:Int)<=J:=by omega
    have ag:Hid (QdC Sw wb db room n pre (Z2 J (Qn E)) (.int .i64 0) w (.returned (.int .i64 0)) wr):=Zh ⟨rfl,af,Sw',Sd',z::D::R,fv',I.out,by
     rw[<-U];show _=(if D.1.first<=J then _ else _)
     rw[if_neg hlt];rfl,by simp,Y.out,ae.out⟩
    clear Z U aa;have ai:=Zh N;clear N;generalize D.1.first=y2 at*
    go_wp2_with fail;go_ret;exact ag.out
end
section
variable {w:World} {Sw Sd:Nat->Prop} {wb db room n x:Nat} {pre:ByteArray} {E:List FV} {fv:Value}
theorem QrU(h:QZ w Sw Sd wb db room n x pre E fv){A B:List FV}{z:FV}(I:E=A++z::B)(aE:Xe w z.2 z.1.recs){k:Nat}(aT:k<z.1.recs.length):
  Calls Tryz.prog 24 #[.pointer (some ⟨wb,0,none⟩),.int .u64 (z.1.first+k:Nat)] w (Qk (.tuple #[.string z.1.recs[k],.int .i64 0]) w):=by
 have aW:E≠[]:=by rw[I];simp
 obtain⟨aM,aN,aO,ad,aP⟩:=h.shape;have aJ:=Zh (Qa9 h);obtain⟨g,o,cap,cur,aD,aY,ai,aU,aA⟩:=h.cells aW;have ah:=h.count;have ag:=h.ok.chain;rw[I] at ag;have W:XY x (Qn A++z.1::Qn B):=by
  have e:Qn (A++z::B)=Qn A++z.1::Qn B:=by simp[Qn]
  rw[<-e];exact ag
 have an:Hid (∀j (J:j<A.length),(A[j]).1.first <=z.1.first+k/\(A[j]).1.next <=z.1.first+k):=Zh (fun j J=>by
  rw[WV] at W;have ay:=(ZR _ _ W.1).2.1 (A[j]).1 (List.mem_map_of_mem (List.getElem_mem J));have az:=W.2.1;omega)
 have ao:Hid (∀j (J:j<E.length) w',Qa (fun _=>False) w w'->w'.cell? ⟨g,o+j*3,none⟩=some (.int .u64 (E[j].1.first :Nat))/\w'.cell? ⟨g,o+j*3+2,none⟩=some E[j].2):=Zh (fun j J w' hu=>by
  obtain⟨aQ,_,aR⟩:=aA j J;exact⟨Qe hu (by rw[Qb ai];exact aQ) (fun f=>f),Qe hu (by rw[Qb ai];exact aR) (fun f=>f)⟩)
 rw[aD] at ad;have ap:=Zh ad;have aI:=Zh h;have au:=Zh I;have aL:=Zh aE;have a7:=ah.2 z (by rw[I];simp);have aV:A.length<E.length:=by rw[I];simp
 have aq:=Zh ah;clear h aD aY ai aU aA ag W aE I ah aP aM aN aO;obtain⟨m,aj⟩: ∃m,m=E.length:=⟨_,rfl⟩
 rw[<-aj] at ad ap aV;have av:=Zh aj;clear aj;have a4:m<=500000:=by rw[av.out];exact aq.out.1
 obtain⟨y,al⟩: ∃y,y=z.1.first+k:=⟨_,rfl⟩
 rw[<-al] at an ⊢;have aa:=Zh al;have a6:y<=1000000:=by omega
 clear al;obtain⟨ac,ae⟩: ∃ac,ac=z.1.recs[k]:=⟨_,rfl⟩
 rw[<-ae];have aK:=Zh ae;clear ae;go_enter Tryz.func24,Tryz.ntmps24;go_wp2_with fail;refine aJ.out.mono ?_
 rintro e w' ⟨rfl,rfl⟩;go_upto_block 0 with fail
 go_wp2_with fail;go_loopw [15] (fun s wr=> ∃j:Nat,s= .int .i64 j/\j<=A.length/\Qa (fun _=>False) w wr) (fun s _=>A.length - (Go.RowKit.intOf s).toNat)
 case atStart=>exact⟨0,rfl,by omega,Zr _ _⟩
 case round=>
  obtain⟨j,rfl,J,D⟩:=hrel;have a1:(j:Int)< (m:Int):=by omega
  have a0:(0:Int)<=j:=by omega
  have Y:j<E.length:=by rw[<-av.out];omega
  obtain⟨Z,Q⟩:=ao.out j Y wr D;have aF:=Qe D ap.out (fun f=>f);obtain⟨ra,rcap,M⟩:=aI.out.lens E[j] (List.getElem_mem Y);rw[M] at Q;have aB:=aq.out.2 E[j] (List.getElem_mem Y);have U:Hid (∀w',Qa (fun _=>False) w w'->Calls Tryz.prog 63 #[.pointer (some ⟨g,o+j*3,none⟩)] w' (Qk (.int .u64 (E[j].1.first +E[j].1.recs.length :Nat)) w')):=Zh (fun w' hu=>by
   obtain⟨aH,am⟩:=ao.out j Y w' hu;rw[M] at am;exact Qee aH am (by omega) (by omega))
  by_cases hlt:j<A.length
  ·have O:E[j]=A[j]:=by
    have:=au.out;subst this;rw[List.getElem_append_left hlt]
   have af:=an.out j hlt;rw[<-O] at af;have aX:E[j].1.next =E[j].1.first +E[j].1.recs.length :=rfl;rw[aX] at af;have ay:(E[j].1.first :Int)<=(y:Int):=by omega
   have az: ¬(y:Int)< ((E[j].1.first +E[j].1.recs.length :Nat):Int):=by omega
   generalize E[j].1.first +E[j].1.recs.length =nx at*
   generalize E[j].1.first =fx at*
   clear O M af aB;go_wp2_with fail;refine (U.out _ D).mono ?_
   rintro e w' ⟨rfl,N⟩;have ak:=D.trans N (fun _ _ f=>f);clear N Z Q aF;go_wp2_with fail;exact⟨⟨j+1,by go_num,by omega,ak⟩,by simp[Go.RowKit.intOf];omega⟩
  ·have aS:j=A.length:=by omega
   subst aS;have O:E[A.length]=z:=by
    have:=au.out;subst this;simp
   rw[O] at M Z Q U;have ab:=aL.out.Qc D;rw[M] at ab;obtain⟨ax,aG,aZ,aC⟩:=Xe.cell ab aT;subst aZ;have ay:(z.1.first:Int)<=y:=by have:=aa.out;omega
   have az:(y:Int)< ((z.1.first+z.1.recs.length:Nat):Int):=by have:=aa.out;omega
   have aw:=Zh (U.out _ D);clear U;have a5:IntKind.u64.wrap ((y:Int) - (z.1.first:Int))=(k:Int):=by have:=aa.out;rw[IntWalk.u64_in _ (by omega)];omega
   have a2:(0:Int)<=k:=by omega
   have a3:(k:Int)< (z.1.recs.length:Int):=by omega
   have ar:Hid (∀w',Qa (fun _=>False) wr w'->w'.cell? ⟨g,o+A.length*3,none⟩=some (.int .u64 (z.1.first:Nat))/\w'.cell? ⟨g,o+A.length*3+2,none⟩=some (.slice (some ⟨ax,aG,none⟩) z.1.recs.length rcap)/\w'.cell? ⟨ax,aG+k,none⟩=some (.string ac)):=Zh (fun w' hu=>⟨Qe hu Z (fun f=>f),Qe hu Q (fun f=>f),by rw[aK.out];exact Qe hu aC (fun f=>f)⟩);clear O M aB ab aC;generalize z.1.first+z.1.recs.length=nx at*
   generalize z.1.first=fx at*
   go_wp2_with fail;refine aw.out.mono ?_
   rintro e w' ⟨rfl,N⟩;have ak:=D.trans N (fun _ _ f=>f);obtain⟨aH,am,a8⟩:=ar.out _ N;clear N Z Q aF aw ar;go_upto_region 8 with fail
   go_quiet (fail);go_wp2_with fail;go_ret2;exact⟨rfl,ak.drewN _⟩
end
end
section
open Go.RowKit Go.Acre
attribute [local simp] QH
structure K1(w:World)(g m:Nat)(f:Nat->Nat):Prop where
 cell: ∀j,j<m->w.cell? ⟨g,j,none⟩=some (.int .u64 (f j:Nat))
 le: ∀i j,i<=j->j<m->f i<=f j
 few:m<=1000000
theorem K1.Qc{w w':World}{g m:Nat}{f:Nat->Nat}(h:K1 w g m f)(D:Qa Ze w w'):K1 w' g m f:=⟨fun j hj=>Qe D (h.cell j hj) (fun f=>f),h.le,h.few⟩
theorem QmL(x:Int)(w:World):Calls Tryz.prog 233 #[.int .u64 x] w (Is (.bool false) w):=by
 go_enter Tryz.func233,Tryz.ntmps233;go_wp2_with fail;go_ret;exact⟨rfl,rfl⟩
theorem Qex{a b:Nat}(h:b<=a)(w:World):Calls Tryz.prog 180 #[.int .u64 a,.int .u64 b] w (Is (.bool false) w):=by
 have E: ¬(a:Int)< (b:Int):=by omega
 go_enter Tryz.func180,Tryz.ntmps180;go_wp2_with fail;refine (QmL _ _).mono ?_
 rintro e w' ⟨rfl,rfl⟩;go_wp2_with fail;go_ret;have D:decide (a<b)=false:=by simp;omega
 refine⟨?_,rfl⟩;show Ending.returned (Value.bool (decide (a<b)))=_;rw[D]
section
variable {w:World} {g m cap:Nat} {f:Nat->Nat}
theorem Qh0(h:K1 w g m f){a b:Nat}(N:a<=b)(J:b<m)(p:Value):Calls Tryz.prog 268 #[.slice (some ⟨g,0,none⟩) m cap,.int .i64 a,.int .i64 b,p] w (Qk (.tuple #[.int .i64 a,.int .i64 b]) w):=by
 have E:=h.cell a (by omega);have I:=h.cell b J;have M:=Zh (fun w=>Qex (h.le a b N J) w);have W:(0:Int)<=a:=by omega
 have Y:(a:Int)< (m:Int):=by omega
 have Z:(0:Int)<=b:=by omega
 have aa:(b:Int)< (m:Int):=by omega
 clear h;generalize f a=x at*
 generalize f b=y at*
 go_enter Tryz.func268,Tryz.ntmps268;go_upto_region 1 with fail
 have D:Hid (∀w',Qa Ze w w'->w'.cell? ⟨g,a,none⟩=some (.int .u64 x)/\w'.cell? ⟨g,b,none⟩=some (.int .u64 y)):=Zh (fun w' hu=>⟨Qe hu E (fun f=>f),Qe hu I (fun f=>f)⟩);have hcur:Qa Ze w w.drew:=(Zr _ w).drew;obtain⟨Q,U⟩:=D.out _ hcur;clear E I;go_region_held3 (fun w'=>w'.cell? ⟨g,a,none⟩=some (.int .u64 x)/\w'.cell? ⟨g,b,none⟩=some (.int .u64 y)) (first|exact⟨Q,U⟩|exact D.out _ (by assumption)) ((first
   |(go_at_call 180;refine (M.out _).mono ?_;rintro e ab ⟨rfl,O⟩;subst O)))
 all_goals
  go_wp2_with fail;go_ret2;exact⟨rfl,hcur⟩
theorem QhL(h:K1 w g m f){a b c:Nat}(O:a<=b)(Q:b<=c)(U:c<m)(p:Value):Calls Tryz.prog 232 #[.slice (some ⟨g,0,none⟩) m cap,.int .i64 a,.int .i64 b,.int .i64 c,p] w (Qk (.int .i64 b) w):=by
 have I:=Zh (fun (w':World) (D:Qa Ze w w')=>Qh0 (cap:=cap) (h.Qc D) O (by omega) p);have N:=Zh (fun (w':World) (D:Qa Ze w w')=>Qh0 (cap:=cap) (h.Qc D) Q U p);clear h;go_enter Tryz.func232,Tryz.ntmps232;go_wp2_with fail;refine (I.out _ (Zr _ _)).mono ?_
 rintro e Y ⟨rfl,E⟩;go_wp2_with fail;refine (N.out _ E).mono ?_
 rintro e w2 ⟨rfl,J⟩;have M:=E.trans J (fun _ _ f=>f);clear E J;go_wp2_with fail;refine (I.out _ M).mono ?_
 rintro e Z ⟨rfl,W⟩;go_wp2_with fail;go_ret;exact⟨rfl,M.trans W (fun _ _ f=>f)⟩
theorem QeA(h:K1 w g m f){i:Nat}(M:1<=i)(E:i+1<m)(p:Value):Calls Tryz.prog 231 #[.slice (some ⟨g,0,none⟩) m cap,.int .i64 i,p] w (Qk (.int .i64 i) w):=by
 have D:=Zh (QhL (cap:=cap) h (a:=i - 1) (b:=i) (c:=i+1) (by omega) (by omega) E p);have J:=h.few;have N:IntKind.i64.wrap ((i:Int) - 1)=((i - 1:Nat):Int):=by rw[IntWalk.i64_in _ (by omega)];omega
 have O:IntKind.i64.wrap ((i:Int)+1)=((i+1:Nat):Int):=by rw[IntWalk.i64_in _ (by omega)];omega
 clear h;generalize i - 1=i0 at*
 generalize i+1=i1 at*
 go_enter Tryz.func231,Tryz.ntmps231;go_wp2_with fail;refine D.out.mono ?_
 rintro e Q ⟨rfl,I⟩;go_wp2_with fail;go_ret;exact⟨rfl,I⟩
theorem QmG(h:K1 w g m f):Calls Tryz.prog 174 #[.slice (some ⟨g,0,none⟩) m cap,.int .i64 0,.int .i64 m] w (Qk (.tuple #[]) w):=by
 have E:=Zh h;have ac:=h.few;clear h;go_enter Tryz.func174,Tryz.ntmps174;go_upto_block 0 with fail
 go_wp2_with fail;go_loopw [6] (fun s wr=> ∃j:Nat,s= .int .i64 j/\1<=j/\j<=m+1/\Qa (fun _=>False) w wr) (fun s _=>m+1 - (Go.RowKit.intOf s).toNat)
 case atStart=>exact⟨1,rfl,by omega,by omega,Zr _ _⟩
 case round=>
  obtain⟨j,rfl,af,ag,D⟩:=hrel;by_cases hlt:j<m
  ·have O:(j:Int)< (m:Int):=by omega
   have ad:(0:Int)< (j:Int):=by omega
   have ae:(0:Int)<=j:=by omega
   have aa:decide (0<j)=true:=by simp;omega
   have ab:decide ((0:Int)< (j:Int))=true:=by simp;omega
   have ah:IntKind.i64.wrap ((j:Int) - 1)=((j - 1:Nat):Int):=by rw[IntWalk.i64_in _ (by omega)];omega
   have ai:(0:Int)<=((j - 1:Nat):Int):=by omega
   have aj:((j - 1:Nat):Int)< (m:Int):=by omega
   have M:=Zh (fun w=>Qex (E.out.le (j - 1) j (by omega) hlt) w);have J:Hid (∀w',Qa (fun _=>False) wr w'->w'.cell? ⟨g,j,none⟩=some (.int .u64 (f j:Nat))/\w'.cell? ⟨g,j - 1,none⟩=some (.int .u64 (f (j - 1):Nat))):=Zh (fun w' hu=>⟨(E.out.Qc (D.trans hu (fun _ _ f=>f))).cell j hlt,(E.out.Qc (D.trans hu (fun _ _ f=>f))).cell (j - 1) (by omega)⟩);generalize f j=x at*
   generalize f (j - 1)=y at*
   have N:=Zh D;clear D;go_upto_block 2 with fail
   go_wp2_with fail;go_loopw [7] (fun Z I=>Z= .int .i64 j/\Qa (fun _=>False) wr I) (fun _ _=>0)
   case atStart=>exact⟨rfl,Zr _ _⟩
   case round=>
    obtain⟨rfl,Q⟩:=hrel;go_upto_region 4 with fail
    rename World=>I
    have hcur:Qa (fun _=>False) wr I.drew:=Q.drew;obtain⟨W,Y⟩:=J.out _ hcur;go_region_held3 (fun w'=>w'.cell? ⟨g,j,none⟩=some (.int .u64 x)/\w'.cell? ⟨g,j - 1,none⟩=some (.int .u64 y)) (first|exact⟨W,Y⟩|exact J.out _ (by assumption)) ((first
     |(go_at_call 180;refine (M.out _).mono ?_;rintro e ak ⟨rfl,U⟩;subst U)))
    all_goals
     go_wp2_with fail;exact⟨⟨j+1,by go_num,by omega,by omega,N.out.trans hcur (fun _ _ f=>f)⟩,by simp[Go.RowKit.intOf];omega⟩
  ·have O: ¬(j:Int)< (m:Int):=by omega
   go_wp2_with fail;go_end0;exact⟨rfl,D⟩
theorem Qou(h:K1 w g m f)(ae:2<=m):Calls Tryz.prog 179 #[.slice (some ⟨g,0,none⟩) m cap,.int .i64 0,.int .i64 m] w (Qk (.bool true) w):=by
 have I:=Zh h;have aa:=h.few;clear h;go_enter Tryz.func179,Tryz.ntmps179;go_upto_block 0 with fail
 go_wp2_with fail;go_loopw [7,8] (fun D s wr=>D= .int .i64 1/\s= .int .i64 0/\wr=w) (fun _ _ _=>0)
 case atStart=>exact⟨rfl,rfl,rfl⟩
 case round=>
  obtain⟨rfl,rfl,rfl⟩:=hrel
  rename World=>wr
  go_upto_block 2 with fail
  go_wp2_with fail;go_loopw [7] (fun D E=> ∃j:Nat,D= .int .i64 j/\1<=j/\j<=m/\Qa (fun _=>False) wr E) (fun D _=>m - (Go.RowKit.intOf D).toNat)
  case atStart=>exact⟨1,rfl,by omega,by omega,Zr _ _⟩
  case round=>
   obtain⟨j,rfl,ac,ad,J⟩:=hrel
   rename World=>E
   by_cases hlt:j<m
   ·have N:(j:Int)< (m:Int):=by omega
    have ab:(0:Int)<=j:=by omega
    have Q:decide (j<m)=true:=by simp;omega
    have U:decide ((j:Int)< (m:Int))=true:=by simp;omega
    have af:IntKind.i64.wrap ((j:Int) - 1)=((j - 1:Nat):Int):=by rw[IntWalk.i64_in _ (by omega)];omega
    have ag:(0:Int)<=((j - 1:Nat):Int):=by omega
    have ah:((j - 1:Nat):Int)< (m:Int):=by omega
    have O:=Zh (fun w=>Qex (I.out.le (j - 1) j (by omega) hlt) w);have M:Hid (∀w',Qa (fun _=>False) wr w'->w'.cell? ⟨g,j,none⟩=some (.int .u64 (f j:Nat))/\w'.cell? ⟨g,j - 1,none⟩=some (.int .u64 (f (j - 1):Nat))):=Zh (fun w' hu=>⟨(I.out.Qc hu).cell j hlt,(I.out.Qc hu).cell (j - 1) (by omega)⟩);generalize f j=x at*
    generalize f (j - 1)=y at*
    go_upto_region 5 with fail
    have hcur:Qa (fun _=>False) wr E.drew:=J.drew;obtain⟨Y,Z⟩:=M.out _ hcur;go_region_held3 (fun w'=>w'.cell? ⟨g,j,none⟩=some (.int .u64 x)/\w'.cell? ⟨g,j - 1,none⟩=some (.int .u64 y)) (first|exact⟨Y,Z⟩|exact M.out _ (by assumption)) ((first
     |(go_at_call 180;refine (O.out _).mono ?_;rintro e ai ⟨rfl,W⟩;subst W)))
    all_goals
     go_wp2_with fail;exact⟨⟨j+1,by go_num,by omega,by omega,hcur⟩,by simp[Go.RowKit.intOf];omega⟩
   ·have N:j=m:=by omega
    subst N;have hcur:Qa (fun _=>False) wr E.drew:=J.drew;have Q:decide (j<j)=false:=by simp
    have U:decide ((j:Int)< (j:Int))=false:=by simp
    go_upto_region 5 with fail
    go_quiet (fail);go_wp2_with fail;go_ret;exact⟨rfl,J.drewN _⟩
theorem Qoz(h:K1 w g m f)(ap:12<m):Calls Tryz.prog 177 #[.slice (some ⟨g,0,none⟩) m cap,.int .i64 0,.int .i64 m] w (fun e w'=> ∃p:Nat,e= .returned (.tuple #[.int .i64 p,.int .i64 1])/\Qa Ze w w'):=by
 have ao:=h.few;obtain⟨q,ag⟩: ∃q,q=m/4:=⟨_,rfl⟩
 have aq:(m:Int)/4=(q:Int):=by omega
 obtain⟨E,ak⟩: ∃E,E=q*2:=⟨_,rfl⟩
 obtain⟨J,al⟩: ∃J,J=q*3:=⟨_,rfl⟩
 have O:=Zh (fun (w':World) (D:Qa Ze w w') (p:Value)=>QeA (cap:=cap) (h.Qc D) (i:=q) (by omega) (by omega) p);have Q:=Zh (fun (w':World) (D:Qa Ze w w') (p:Value)=>QeA (cap:=cap) (h.Qc D) (i:=E) (by omega) (by omega) p);have U:=Zh (fun (w':World) (D:Qa Ze w w') (p:Value) (af:50<=m)=>QeA (cap:=cap) (h.Qc D) (i:=J) (by omega) (by omega) p);have M:=Zh (fun (w':World) (D:Qa Ze w w') (p:Value)=>QhL (cap:=cap) (h.Qc D) (a:=q) (b:=E) (c:=J) (by omega) (by omega) (by omega) p);have ah:=Qf (w:=w) (.cells #[.int .i64 0] 3);have N:Hid (Qa Ze w (w.alloc (.cells #[.int .i64 0] 3))):=Zh ((Zr _ w).alloc _);have ar:IntKind.i64.wrap ((q:Int)*2)=(E:Int):=by rw[IntWalk.i64_in _ (by omega)];omega
 have au:IntKind.i64.wrap ((q:Int)*3)=(J:Int):=by rw[IntWalk.i64_in _ (by omega)];omega
 have av:IntKind.i64.wrap (q:Int)=q:=IntWalk.i64_in _ (by omega);have aw:IntKind.i64.wrap (E:Int)=E:=IntWalk.i64_in _ (by omega);have ax:IntKind.i64.wrap (J:Int)=J:=IntWalk.i64_in _ (by omega);have an:(8:Int)<=m:=by omega
 have am:=Zh ag;clear h ag ak al;go_enter Tryz.func177,Tryz.ntmps177;go_upto_region 3 with fail
 generalize w.alloc (.cells #[.int .i64 0] 3)=w1 at*
 generalize w.heap.size=pb at*
 have ae:Hid (∀w',Qa Ze w1 w'->w'.cell? ⟨pb,0,none⟩=some (.int .i64 0)):=Zh (fun w' D=>Qe D (Qb ah 0) (fun f=>f));clear ah;go_upto_region 7 with fail
 by_cases af:50<=m
 ·have aj:(50:Int)<=m:=by omega
  go_wp2_with fail;refine (O.out _ N.out _).mono ?_
  rintro e w2 ⟨rfl,W⟩;have aa:=N.out.trans W (fun _ _ f=>f);go_wp2_with fail;refine (Q.out _ aa _).mono ?_
  rintro e ay ⟨rfl,Y⟩;have ab:=aa.trans Y (fun _ _ f=>f);go_wp2_with fail;refine (U.out _ ab _ af).mono ?_
  rintro e az ⟨rfl,Z⟩;have ac:=ab.trans Z (fun _ _ f=>f);go_wp2_with fail;refine (M.out _ ac _).mono ?_
  rintro e w5 ⟨rfl,I⟩;have ad:=ac.trans I (fun _ _ f=>f);have ai:=ae.out _ (((W.trans Y (fun _ _ f=>f)).trans Z (fun _ _ f=>f)).trans I (fun _ _ f=>f));clear W Y Z I aa ab ac O Q U M;go_wp2_with fail;go_ret2;exact⟨E,rfl,ad⟩
 ·have aj: ¬(50:Int)<=m:=by omega
  go_wp2_with fail;refine (M.out _ N.out _).mono ?_
  rintro e w5 ⟨rfl,I⟩;have ad:=N.out.trans I (fun _ _ f=>f);have ai:=ae.out _ I;clear I O Q U M;go_wp2_with fail;go_ret2;exact⟨E,rfl,ad⟩
theorem Qox(h:K1 w g m f){k:Nat}(O:12<m->1<=k):Calls Tryz.prog 118 #[.slice (some ⟨g,0,none⟩) m cap,.int .i64 0,.int .i64 m,.int .i64 k] w (Qk (.tuple #[]) w):=by
 have ac:=h.few;have I:=Zh (QmG (cap:=cap) h);have HP:=Zh (fun D=>Qoz (cap:=cap) h D);have J:=Zh (fun (w':World) (Q:Qa (fun _=>False) w w') (N:2<=m)=>Qou (cap:=cap) (h.Qc Q) N);clear h;go_enter Tryz.func118,Tryz.ntmps118;go_upto_block 0 with fail
 go_wp2_with fail;go_loopw [1,2,3,8,9] (fun W Y Z aa ab wr=>W= .int .i64 0/\Y= .int .i64 m/\Z= .int .i64 k/\aa= .bool true/\ab= .bool true/\wr=w) (fun _ _ _ _ _ _=>0)
 case atStart=>exact⟨rfl,rfl,rfl,rfl,rfl,rfl⟩
 case round=>
  obtain⟨rfl,rfl,rfl,rfl,rfl,rfl⟩:=hrel;by_cases D:12<m
  ·have M: ¬(m:Int)<=12:=by omega
   have ae:=O D;have ad: ¬(k:Int)=0:=by omega
   have af:((k:Int)==0)=false:=by simp;omega
   go_wp2_with fail;refine (HP.out D).mono ?_
   rintro e w2 ⟨p,rfl,E⟩;go_wp2_with fail;refine (J.out _ E (by omega)).mono ?_
   rintro e ag ⟨rfl,U⟩;go_wp2_with fail;go_end0;exact⟨rfl,E.trans U (fun _ _ f=>f)⟩
  ·have M:(m:Int)<=12:=by omega
   go_wp2_with fail;refine I.out.mono ?_
   rintro e w2 ⟨rfl,E⟩;go_wp2_with fail;go_end0;exact⟨rfl,E⟩
theorem Qqz(h:K1 w g m f):Calls Tryz.prog 57 #[.slice (some ⟨g,0,none⟩) m cap] w (Qk (.tuple #[]) w):=by
 have M:=h.few;have D:12<m->1<=Lib.bitLen m:=fun J=>by
  show 1<=(if m=0 then 0 else 1+Lib.bitLenAux 63 (m/2));rw[if_neg (by omega)];omega
 have E:Hid (∀w,Calls Tryz.prog 119 #[.int .u64 m] w (Is (.int .i64 (Lib.bitLen m:Nat)) w)):=Zh (fun w=>(Tryz.bits_Len (m:Int) w (by omega) (by omega)).mono (fun e w' h=>⟨by rw[h.1];simp,h.2.symm⟩));have HP:=Zh (Qox (cap:=cap) h D);have N:IntKind.u64.wrap (m:Int)=m:=IntWalk.u64_in _ (by omega);clear h D;generalize Lib.bitLen m=k at*
 go_enter Tryz.func57,Tryz.ntmps57;go_wp2_with fail;refine (E.out _).mono ?_
 rintro e w2 ⟨rfl,rfl⟩;go_wp2_with fail;refine HP.out.mono ?_
 rintro e w2 ⟨rfl,I⟩;go_wp2_with fail;go_end0;exact⟨rfl,I⟩
end
theorem QmH(w:World):Calls Tryz.prog 174 #[.slice none 0 0,.int .i64 0,.int .i64 0] w (Qk (.tuple #[]) w):=by
 go_enter Tryz.func174,Tryz.ntmps174;go_upto_block 0 with fail
 go_wp2_with fail;go_loopw [6] (fun s wr=>s= .int .i64 1/\wr=w) (fun _ _=>0)
 case atStart=>exact⟨rfl,rfl⟩
 case round=>
  obtain⟨rfl,rfl⟩:=hrel;go_wp2_with fail;go_end0;exact⟨rfl,Zr _ _⟩
theorem Qoy(w:World)(k:Nat):Calls Tryz.prog 118 #[.slice none 0 0,.int .i64 0,.int .i64 0,.int .i64 k] w (Qk (.tuple #[]) w):=by
 go_enter Tryz.func118,Tryz.ntmps118;go_upto_block 0 with fail
 go_wp2_with fail;go_loopw [1,2,3,8,9] (fun E I J M N wr=>E= .int .i64 0/\I= .int .i64 0/\J= .int .i64 k/\M= .bool true/\N= .bool true/\wr=w) (fun _ _ _ _ _ _=>0)
 case atStart=>exact⟨rfl,rfl,rfl,rfl,rfl,rfl⟩
 case round=>
  obtain⟨rfl,rfl,rfl,rfl,rfl,rfl⟩:=hrel;go_wp2_with fail;refine (QmH _).mono ?_
  rintro e w2 ⟨rfl,D⟩;go_wp2_with fail;go_end0;exact⟨rfl,D⟩
theorem QqA(w:World):Calls Tryz.prog 57 #[.slice none 0 0] w (Qk (.tuple #[]) w):=by
 have D:Hid (∀w,Calls Tryz.prog 119 #[.int .u64 0] w (Is (.int .i64 (Lib.bitLen 0:Nat)) w)):=Zh (fun w=>(Tryz.bits_Len 0 w (by omega) (by omega)).mono (fun e w' h=>⟨by rw[h.1];rfl,h.2.symm⟩));generalize Lib.bitLen 0=k at*
 go_enter Tryz.func57,Tryz.ntmps57;go_wp2_with fail;refine (D.out _).mono ?_
 rintro e w2 ⟨rfl,rfl⟩;go_wp2_with fail;refine (Qoy _ k).mono ?_
 rintro e w2 ⟨rfl,E⟩;go_wp2_with fail;go_end0;exact⟨rfl,E⟩
def WA(fs:List Fl):List Value:=fs.map fun f=>.int .u64 f.first
theorem Qqu{w:World}{base x:Nat}{v:Value}{D:List Fl}(h:w.ownsRow base 30 1 v D.length (WA D))(M:XY x D)(N:D.length<=1000000):Calls Tryz.prog 57 #[v] w (Qk (.tuple #[]) w):=by
 rcases h.2 with ⟨rfl,Q⟩|⟨g,cap,cur,rfl,U,I,W,Y,Z,J⟩
 ·exact QqA w
 ·refine Qqz (f:=fun j=>((D[j]?).map (·.first)).getD 0) ⟨fun j hj=> ?_,fun i j hij hj=> ?_,N⟩
  ·rw[Qb I]
   have E:(WA D)[j]? =some (.int .u64 (D[j].first :Nat)):=by
    unfold WA;rw[List.getElem?_map,List.getElem?_eq_getElem hj];rfl
   rw[<-J,List.getElem?_take] at E;split at E
   ·rw[List.getElem?_eq_getElem hj]
    simpa using E
   ·cases E
  ·rw[List.getElem?_eq_getElem hj,List.getElem?_eq_getElem (by omega:i<D.length)]
   simp only[Option.map_some,Option.getD_some];rcases Nat.lt_or_ge i j with O|aa
   ·exact Nat.le_of_lt (List.pairwise_iff_getElem.1 (ZR D x M).2.2 i j (by omega) hj O)
   ·have:i=j:=by omega
    subst this;exact Zf _
end
end Go.Proofs.YtbleblbfadeciaaGreatDoor
