/- For TopKept. -/
import Derived.Orders
import Derived.RegionTactic
import Derived.Test.YtbleblbfadeciaaGreatDoorRa
set_option linter.all false
set_option maxHeartbeats 16000000
set_option maxRecDepth 10000
namespace Go
section
variable {P:Program} {ops:Array Oper} {Q:Exit->Act->World->Prop} {md:Region.Mode}
theorem Qim{listed:Array Bool}{i:Nat}(h:i∈Region.ready md ops listed): ∃o,ops[i]? =some o/\listed.getD i true=false/\ ∀e∈o.after,Region.binds md e=true->listed.getD e.on false=true:=by
 unfold Region.ready at h;rw[List.mem_filter] at h;obtain⟨_,E⟩:=h;rw[Bool.and_eq_true] at E;obtain⟨J,D⟩:=E
 cases ho:ops[i]? with
 |none=>rw[ho] at D;cases D
 |
  some o=>
  rw[ho] at D;simp only[Option.map_some,Option.getD_some] at D;refine⟨o,rfl,by simpa using J,fun e N M=> ?_⟩;have I:=Array.all_eq_true'.1 D e N;rw[M] at I
  simpa using I
theorem QpN{listed:Array Bool}{i:Nat}{o:Oper}(D:ops[i]? =some o)(E:listed.getD i true=false)(I: ∀e∈o.after,Region.binds md e=true->listed.getD e.on false=true):i∈Region.ready md ops listed:=by
 unfold Region.ready;rw[List.mem_filter];refine⟨List.mem_range.2 (Array.getElem?_eq_some_iff.1 D).1,?_⟩;rw[Bool.and_eq_true,D];refine⟨by rw[E];rfl,?_⟩;simp only[Option.map_some,Option.getD_some];refine Array.all_eq_true'.2 fun e J=> ?_
 cases hb:Region.binds md e with
 |false=>rfl
 |true=>simpa using I e J hb
def Early(md:Region.Mode)(ops:Array Oper):Prop:= ∀i o,ops[i]? =some o-> ∀e∈o.after,Region.binds md e=true->e.on<i
theorem QaF(h:(List.range ops.size).all (fun i=>((ops[i]?).map fun o=>o.after.all fun e=> !Region.binds md e||decide (e.on<i)).getD true)=true):Early md ops:=by
 intro i o I e M J;have D:=List.all_eq_true.1 h i (List.mem_range.2 (Array.getElem?_eq_some_iff.1 I).1);rw[I] at D;simp only[Option.map_some,Option.getD_some] at D;have E:=Array.all_eq_true'.1 D e M;rw[J] at E
 simpa using E
theorem QfL{listed:Array Bool}(J:Early md ops)(h:Region.ready md ops listed=[]): ∀i,i<ops.size->listed.getD i true=true:=by
 intro i;induction i using Nat.strongRecOn with
 |
  _ i ih=>
  intro O
  cases hl:listed.getD i true with
  |true=>rfl
  |
   false=>
   have E:ops[i]? =some ops[i]:=Array.getElem?_eq_getElem O
   have D:i∈Region.ready md ops listed:=QpN E hl (fun e N M=>by
    have U:=J i _ E e N M;have I:=ih e.on U (by omega);by_cases hs:e.on<listed.size
    ·simpa [Array.getD,hs] using I
    ·exfalso
     have:listed.getD i true=true:=by simp[Array.getD];omega
     rw[this] at hl
     cases hl)
   rw[h] at D
   cases D
theorem Qr1(U:Early md ops)(Inv:Array Bool->Act->World->Prop)
  (ab: ∀(listed:Array Bool) (a:Act) (w:World) (i:Nat) (o:Oper),listed.size=ops.size->Inv listed a w->ops[i]? =some o->listed.getD i true=false->(∀e∈o.after,Region.binds md e=true->listed.getD e.on false=true)->wpOp P ops Q i (Inv (listed.setIfInBounds i true)) a w)
  (Y: ∀(listed:Array Bool) (a:Act) (w:World),listed.size=ops.size->Inv listed a w->(∀i,i<ops.size->listed.getD i true=true)->Q .normal a w):
  ∀(fuel:Nat) (listed:Array Bool) (a:Act) (w:World),listed.size=ops.size->listed.toList.countP (fun b=> !b)<=fuel->Inv listed a w->wpAny P md ops Q fuel listed a w:=by
 intro fuel;induction fuel with
 |
  zero=>
  intro listed a w E W J;have aa: ∀b∈listed.toList,¬((!b)=true):=List.countP_eq_zero.1 (Nat.le_zero.1 W);have I:Region.ready md ops listed=[]:=by
   cases I:Region.ready md ops listed with
   |nil=>rfl
   |
    cons i r=>
    exfalso
    have O:i∈Region.ready md ops listed:=by rw[I];simp
    obtain⟨o,N,D,_⟩:=Qim O;have M:i<listed.size:=by rw[E];exact (Array.getElem?_eq_some_iff.1 N).1
    have:=aa listed[i] (by simp);simp[Array.getD,M] at D;rw[D] at this;exact this rfl
  exact⟨I,Y listed a w E J (QfL U I)⟩
 |
  succ fuel ih=>
  intro listed a w E W J;refine⟨fun I=>Y listed a w E J (QfL U I),fun i O=> ?_⟩;obtain⟨o,N,D,Z⟩:=Qim O;have M:i<listed.size:=by rw[E];exact (Array.getElem?_eq_some_iff.1 N).1
  refine wpOp_mono (fun a w h=>ih _ a w (by simpa using E) ?_ h) (ab listed a w i o E J N D Z);rw[Array.toList_setIfInBounds,List.countP_set (by simpa using M)];simp[Array.getD,M] at D;simp only[Array.getElem_toList,D];have ac:0<listed.toList.countP (fun b=> !b):=List.countP_pos_iff.2 ⟨listed[i],by simp,by rw[D];rfl⟩;simp only[Bool.not_false,Bool.not_true,if_true];generalize listed.toList.countP (fun b=> !b)=c at*
  simp;omega
theorem Qr4{id:Nat}{a:Act}{w:World}(J:P.follows .mixedOrders =true)(E:Early .any ops)(Inv:Array Bool->Act->World->Prop)
  (D:Inv (Array.replicate ops.size false) a {w with drawn:=w.drawn+1})
  (M: ∀(listed:Array Bool) (a:Act) (w:World) (i:Nat) (o:Oper),listed.size=ops.size->Inv listed a w->ops[i]? =some o->listed.getD i true=false->(∀e∈o.after,Region.binds .any e=true->listed.getD e.on false=true)->wpOp P ops Q i (Inv (listed.setIfInBounds i true)) a w)
  (I: ∀(listed:Array Bool) (a:Act) (w:World),listed.size=ops.size->Inv listed a w->(∀i,i<ops.size->listed.getD i true=true)->Q .normal a w):(Code.region id ops true).wp P Q a w:=
 wp_region_any J (Qr1 E Inv M I _ _ _ _ (by simp) (by have:=List.countP_le_length (p:=fun b=> !b) (l:=(Array.replicate ops.size false).toList);simpa using this) D)
def writer(ops:Array Oper)(d:Nat):Option Nat:=ops.findIdx? (fun o=>o.dst==some d)
def XQ(ops:Array Oper):Prop:= ∀i o d,ops[i]? =some o->o.dst=some d->writer ops d=some i
theorem Qj(h:(List.range ops.size).all (fun i=>((ops[i]?).map fun o=>match o.dst with|some d=>writer ops d==some i|none=>true).getD true)=true):XQ ops:=by
 intro i o d E I;have D:=List.all_eq_true.1 h i (List.mem_range.2 (Array.getElem?_eq_some_iff.1 E).1);rw[E] at D;simp only[Option.map_some,Option.getD_some,I] at D
 simpa using D
theorem Qdu{d i:Nat}(h:writer ops d=some i): ∃o,ops[i]? =some o/\o.dst=some d:=by
 unfold writer at h;obtain⟨E,D,_⟩:=Array.findIdx?_eq_some_iff_getElem.1 h
 exact⟨ops[i],Array.getElem?_eq_getElem E,by simpa using D⟩
def ZB(ops:Array Oper)(L:Nat->Bool)(vs:Nat->Value)(a:Act):Act:=
 {a with tmps:=a.tmps.mapIdx fun d x=>match writer ops d with|some i=>if L i then vs i else x|none=>x}
def XX{α:Type}(f:Nat->α)(i:Nat)(x:α):Nat->α:=fun j=>if j=i then x else f j
theorem WG{α:Type}(f:Nat->α)(i:Nat)(x:α):XX f i x i=x:=if_pos rfl
theorem ZM{α:Type}(f:Nat->α){i j:Nat}(x:α)(h:j≠i):XX f i x j=f j:=if_neg h
theorem QgD(L:Nat->Bool)(D:Nat->Value)(a:Act)(h: ∀i,i<ops.size->L i=false):ZB ops L D a=a:=by
 have e:(a.tmps.mapIdx fun d x=>match writer ops d with|some i=>if L i then D i else x|none=>x)=a.tmps:=by
  apply Array.ext
  ·simp
  ·intro j I J
   rw[Array.getElem_mapIdx];split
   ·rename_i i hw
    obtain⟨o,E,_⟩:=Qdu hw;rw[h i (Array.getElem?_eq_some_iff.1 E).1];rfl
   ·rfl
 unfold ZB;rw[e]
theorem QgE(W:XQ ops){L:Nat->Bool}{O:Nat->Value}{a:Act}{i:Nat}{o:Oper}(J:ops[i]? =some o)(v:Value):(ZB ops L O a).put o.dst v=ZB ops (XX L i true) (XX O i v) a:=by
 unfold ZB
 cases hd:o.dst with
 |
  none=>
  show Act.mk _ _=Act.mk _ _
  congr 1
  apply Array.ext
  ·simp
  ·intro j N U
   rw[Array.getElem_mapIdx,Array.getElem_mapIdx]
   cases M:writer ops j with
   |none=>rfl
   |
    some k=>
    have I:k≠i:=fun e=>by
     subst e;obtain⟨Y,D,E⟩:=Qdu M;rw[J] at D;simp only[Option.some.injEq] at D;subst D;rw[hd] at E
     cases E
    simp only[XX,if_neg I]
 |
  some d=>
  have M:=W i o d J hd;show Act.mk _ _=Act.mk _ _
  congr 1
  apply Array.ext
  ·simp
  ·intro j N U
   rw[Array.getElem_setIfInBounds,Array.getElem_mapIdx,Array.getElem_mapIdx];by_cases hj:d=j
   ·subst hj
    rw[if_pos rfl,M];simp only[XX,if_true]
   ·rw[if_neg hj]
    cases hw2:writer ops j with
    |none=>rfl
    |
     some k=>
     have I:k≠i:=fun e=>by
      subst e;obtain⟨Y,D,E⟩:=Qdu hw2;rw[J] at D;simp only[Option.some.injEq] at D;subst D;rw[hd] at E;simp only[Option.some.injEq] at E;exact hj E
     simp only[XX,if_neg I]
   ·simpa using N
theorem QlT(I:XQ ops){L:Nat->Bool}{D:Nat->Value}{a:Act}{i:Nat}{o:Oper}{d:Nat}(M:ops[i]? =some o)(J:o.dst=some d)(E:L i=true)(N:d<a.tmps.size):(ZB ops L D a).tmps[d]? =some (D i):=by
 have O:=I i o d M J;unfold ZB;rw[Array.getElem?_mapIdx,Array.getElem?_eq_getElem N];simp[O,E]
theorem QlU{L:Nat->Bool}{E:Nat->Value}{a:Act}{d:Nat}(D:writer ops d=none):(ZB ops L E a).tmps[d]? =a.tmps[d]? :=by
 unfold ZB;rw[Array.getElem?_mapIdx]
 cases a.tmps[d]? with
 |none=>rfl
 |some x=>simp[D]
def Z6(vs:Nat->Value):Nat->List Oper->Act->Act
 |_,[],a=>a
 |i,o::r,a=>Z6 vs (i+1) r (a.put o.dst (vs i))
theorem Qic(I:XQ ops)(D:Nat->Value)(a:Act): ∀(r:List Oper) (i:Nat),(∀j (h:j<r.length),ops[i+j]? =some r[j])->Z6 D i r (ZB ops (fun j=>decide (j<i)) D a)=ZB ops (fun j=>decide (j<i+r.length)) D a
 |[],i,_=>rfl
 |
  o::r,i,h=>by
  have M:ops[i]? =some o:=h 0 (by simp)
  unfold Z6
  rw[QgE I M]
  have e1:XX (fun j=>decide (j<i)) i true=fun j=>decide (j<i+1):=by
   funext j
   unfold XX;by_cases E:j=i
   ·subst E;simp
   ·rw[if_neg E]
    by_cases hk:j<i
    ·simp[hk];omega
    ·simp[hk];omega
  have J:XX D i (D i)=D:=by
   funext j
   unfold XX;by_cases E:j=i
   ·subst E;simp
   ·rw[if_neg E]
  rw[e1,J,Qic I D a r (i+1) (fun j E=>by
   have:=h (j+1) (by simp;omega);rw[show i+1+j=i+(j+1) from by omega]
   simpa using this)]
  rw[List.length_cons,show i+(r.length+1)=i+1+r.length from by omega]
theorem QlS{L D:Nat->Bool}{E:Nat->Value}{a:Act}(h: ∀i,i<ops.size->L i=D i):ZB ops L E a=ZB ops D E a:=by
 unfold ZB
 congr 1
 apply Array.ext
 ·simp
 ·intro j J M
  rw[Array.getElem_mapIdx,Array.getElem_mapIdx]
  cases hw:writer ops j with
  |none=>rfl
  |
   some k=>
   obtain⟨o,I,_⟩:=Qdu hw;simp only[h k (Array.getElem?_eq_some_iff.1 I).1]
theorem QlR(M:XQ ops){L:Nat->Bool}{D:Nat->Value}{a:Act}(h: ∀i,i<ops.size->L i=true):ZB ops L D a=Z6 D 0 ops.toList a:=by
 have J:=QgD (ops:=ops) (fun j=>decide (j<0)) D a (fun i _=>by simp);have E:=Qic M D a ops.toList 0 (fun j N=>by
  rw[Nat.zero_add,Array.getElem_toList];exact Array.getElem?_eq_getElem (by simpa using N))
 rw[J] at E;rw[E];refine QlS fun i I=> ?_
 rw[h i I];simp;exact I
def Qaz(P:Program)(ops:Array Oper)(Q:Exit->Act->World->Prop)(a0:Act)(V:(Nat->Bool)->(Nat->Value)->World->Prop)(i:Nat):Prop:=
 ∀(o:Oper),ops[i]? =some o-> ∀(L:Nat->Bool) (vs:Nat->Value) (w:World),V L vs w->L i=false->(∀e∈o.after,Region.binds .any e=true->L e.on=true)->
  ∀K:Act->World->Prop,(∀v w',V (XX L i true) (XX vs i v) w'->K ((ZB ops L vs a0).put o.dst v) w')->wpOp P ops Q i K (ZB ops L vs a0) w
theorem Qr3{id:Nat}{a:Act}{w:World}(aj:P.follows .mixedOrders =true)(O:Early .any ops)(W:XQ ops)(V:(Nat->Bool)->(Nat->Value)->World->Prop)
  (aa:V (fun _=>false) (fun _=>undef) {w with drawn:=w.drawn+1}) (al: ∀i,i<ops.size->Qaz P ops Q a V i)
  (ah: ∀L D w,(∀i,i<ops.size->L i=true)->V L D w->Q .normal (Z6 D 0 ops.toList a) w):(Code.region id ops true).wp P Q a w:=by
 refine Qr4 aj O (fun listed M w'=> ∃L D,(∀i,i<ops.size->listed.getD i false=L i)/\M=ZB ops L D a/\V L D w') ?_ ?_ ?_
 ·exact⟨fun _=>false,fun _=>undef,fun i E=>by simp[Array.getD],(QgD _ _ _ (fun _ _=>rfl)).symm,aa⟩
 ·rintro listed M w' i o ak ⟨L,D,I,rfl,N⟩ J ab ac
  have E:i<ops.size:=(Array.getElem?_eq_some_iff.1 J).1;have af:L i=false:=by
   rw[<-I i E];have:i<listed.size:=by omega
   simpa [Array.getD,this] using ab
  refine al i E o J L D w' N af (fun e Z Y=>by rw[<-I e.on (by have:=O i o J e Z Y;omega)];exact ac e Z Y) _ ?_
  intro v w2 ad;refine⟨XX L i true,XX D i v,fun j ai=> ?_,QgE W J v,ad⟩;by_cases e:j=i
  ·subst e
   rw[WG];have:j<listed.size:=by omega
   simp[Array.getD,this]
  ·rw[ZM _ _ e,<-I j ai]
   have:j<listed.size:=by omega
   simp[Array.getD,this,Array.getElem_setIfInBounds,Ne.symm e]
 ·rintro listed M w' ak ⟨L,D,I,rfl,N⟩ ag
  have U: ∀i,i<ops.size->L i=true:=fun i E=>by
   rw[<-I i E];have ae:=ag i E;have:i<listed.size:=by omega
   simpa [Array.getD,this] using ae
  rw[QlR W U];exact ah L D w' U N
end
end Go
namespace Go
section
variable {P:Program} {ops:Array Oper} {Q:Exit->Act->World->Prop}
theorem Qbz{E:Act}{V:(Nat->Bool)->(Nat->Value)->World->Prop}{i:Nat}{o:Oper}(N:ops[i]? =some o)(Z:XQ ops)
  (h: ∀L D w,V L D w->L i=false->(∀e∈o.after,Region.binds .any e=true->L e.on=true)-> ∀a:Act,
   (∀j M d,ops[j]? =some M->M.dst=some d->L j=true->d<E.tmps.size->a.tmps[d]? =some (D j))->(∀d,writer ops d=none->a.tmps[d]? =E.tmps[d]?)->
   ∀K:Act->World->Prop,(∀v w',V (XX L i true) (XX D i v) w'->K (a.put o.dst v) w')->
   if Region.wanted o (yielded ops a.tmps)=true then Oper.wp P o a w K Q else K (a.put o.dst undef) w):Qaz P ops Q E V i:=by
 intro ag J L D w aa Y ab K U;rw[N] at J;simp only[Option.some.injEq] at J;subst J;refine wpOp_step N fun O W=> ?_
 refine h L D w aa Y ab _ ?_ ?_ O (fun v w' af=>W _ _ (U v w' af))
 ·intro j M d ac I ad ae
  exact QlT Z ac I ad ae
 ·intro d I
  exact QlU I
end
end Go
namespace Go.Proofs.YtbleblbfadeciaaGreatDoor
section
open Go.RowKit Go.Acre
theorem Qh9{ops:Array Oper}{o:Oper}{E:Array Value}{g:Nat}{b D:Bool}(M:o.guard=some (g,b)){d:Nat}{I:Oper}(N:ops[g]? =some I)(J:I.dst=some d)(O:E[d]? =some (.bool D))(W:(D==b)=false):Region.wanted o (yielded ops E)=false:=by
 have U:yielded ops E g=some D:=by
  unfold yielded;rw[N];show (match (I.dst).bind (E[·]?) with|some (.bool b)=>some b|_=>none)=some D;rw[J];show (match E[d]? with|some (.bool b)=>some b|_=>none)=some D;rw[O]
 unfold Region.wanted;rw[M];simp[U]
 cases b<;>cases D<;>simp_all
def KA(w0:World)(p:Nat->Value->Prop)(L:Nat->Bool)(vs:Nat->Value)(w:World):Prop:=Qa Ze w0 w/\ ∀i,L i=true->p i (vs i)
theorem KA.next{E w w':World}{p:Nat->Value->Prop}{L:Nat->Bool}{D:Nat->Value}(h:KA E p L D w)(I:Qa Ze w w'){i:Nat}{v:Value}(J:p i v):KA E p (XX L i true) (XX D i v) w':=by
 refine⟨h.1.trans I (fun _ _ f=>f),fun j hj=> ?_⟩;by_cases e:j=i
 ·subst e
  rw[WG];exact J
 ·rw[ZM _ _ e] at hj ⊢
  exact h.2 j hj
section
variable {P:Program} {ops:Array Oper} {Q:Exit->Act->World->Prop}
theorem QeO{W:World}{p:Nat->Value->Prop}{E:Act}{i:Nat}{o:Oper}(ad:ops[i]? =some o)(aa:XQ ops)
  (h: ∀w,Qa Ze W w-> ∀a:Act,
   (∀e∈o.after,Region.binds .any e=true-> ∀D d,ops[e.on]? =some D->D.dst=some d->d<E.tmps.size-> ∃v,a.tmps[d]? =some v/\p e.on v)->(∀d,writer ops d=none->a.tmps[d]? =E.tmps[d]?)->
   ∀K:Act->World->Prop,(∀v w',Qa Ze w w'->p i v->K (a.put o.dst v) w')->
   if Region.wanted o (yielded ops a.tmps)=true then Oper.wp P o a w K Q else K (a.put o.dst undef) w):Qaz P ops Q E (KA W p) i:=by
 refine Qbz ad aa ?_
 intro L ae w M af O fr ac ab K Z;exact h w M.1 fr (fun e U N D d I J Y=>⟨ae e.on,ac e.on D d I J (O e U N) Y,M.2 _ (O e U N)⟩) ab K (fun v w' I J=>Z v w' (M.next I J))
theorem Qoq{aj:World}{p:Nat->Value->Prop}{E:Act}{i:Nat}{o:Oper}(ag:ops[i]? =some o)(Y:XQ ops){g:Nat}{b:Bool}(ad:o.guard=some (g,b)){D:Oper}{d:Nat}(N:ops[g]? =some D)(J:D.dst=some d)(ae:d<E.tmps.size)(Z: ∃e∈o.after,Region.binds .any e=true/\e.on=g)(I:Bool)(ah: ∀v,p g v->v= .bool I)(af:(I==b)=false)(ai:p i undef):Qaz P ops Q E (KA aj p) i:=by
 refine QeO ag Y ?_
 intro w al a ac ak K W;obtain⟨e,aa,ab,M⟩:=Z;obtain⟨v,U,O⟩:=ac e aa ab D d (by rw[M];exact N) J ae;rw[M] at O;rw[ah v O] at U;rw[if_neg (by rw[Qh9 ad N J U af];exact Bool.false_ne_true)];exact W _ _ (Zr _ _) ai
theorem Qor{ac:World}{p:Nat->Value->Prop}{N:Act}{i:Nat}(U:XQ ops)(g:Nat)(b:Bool)(d:Nat)(E:Bool)(O:(ops[i]?).bind (·.guard)=some (g,b))(D:(ops[g]?).bind (·.dst)=some d)(Y:decide (d<N.tmps.size)=true)(I:((ops[i]?).map fun o=>o.after.any fun e=>Region.binds .any e&&e.on==g)=some true)
  (aa: ∀v,p g v->v= .bool E) (Z:(E==b)=false) (ab:p i undef):Qaz P ops Q N (KA ac p) i:=by
 intro o M;rw[M] at O I
 cases hog:ops[g]? with
 |none=>rw[hog] at D;cases D
 |
  some og=>
  rw[hog] at D;simp only[Option.map_some,Option.some.injEq] at I;obtain⟨e,W,J⟩:=Array.any_eq_true'.1 I;rw[Bool.and_eq_true,beq_iff_eq] at J;exact Qoq M U O hog D (of_decide_eq_true Y) ⟨e,W,J.1,J.2⟩ E aa Z ab o M
theorem Qos{Y:World}{p:Nat->Value->Prop}{E:Act}{i:Nat}{o:Oper}(O:ops[i]? =some o)(aa:XQ ops)(g:Nat)(b:Bool)(d:Nat)(N:(ops[i]?).bind (·.guard)=some (g,b))(D:(ops[g]?).bind (·.dst)=some d)(ad:decide (d<E.tmps.size)=true)(J:((ops[i]?).map fun o=>o.after.any fun e=>Region.binds .any e&&e.on==g)=some true)
  (ae: ∀v,p g v->v= .bool b)
  (h: ∀w,Qa Ze Y w-> ∀a:Act,
   (∀e∈o.after,Region.binds .any e=true-> ∀oj d,ops[e.on]? =some oj->oj.dst=some d->d<E.tmps.size-> ∃v,a.tmps[d]? =some v/\p e.on v)->(∀d,writer ops d=none->a.tmps[d]? =E.tmps[d]?)->
   ∀K:Act->World->Prop,(∀v w',Qa Ze w w'->p i v->K (a.put o.dst v) w')->Oper.wp P o a w K Q):Qaz P ops Q E (KA Y p) i:=by
 rw[O] at N J;refine QeO O aa ?_
 intro w af a M ac K Z
 cases hog:ops[g]? with
 |none=>rw[hog] at D;cases D
 |
  some og=>
  rw[hog] at D;simp only[Option.map_some,Option.some.injEq] at J;obtain⟨e,ab,I⟩:=Array.any_eq_true'.1 J;rw[Bool.and_eq_true,beq_iff_eq] at I;obtain⟨v,W,U⟩:=M e ab I.1 og d (by rw[I.2];exact hog) D (of_decide_eq_true ad);rw[I.2] at U;rw[ae v U] at W;have ag:Region.wanted o (yielded ops a.tmps)=true:=by
   have ah:yielded ops a.tmps g=some b:=by
    unfold yielded;rw[hog];show (match (og.dst).bind (a.tmps[·]?) with|some (.bool b)=>some b|_=>none)=some b;rw[show og.dst=some d from D];show (match a.tmps[d]? with|some (.bool b)=>some b|_=>none)=some b;rw[W]
   unfold Region.wanted;rw[show o.guard=some (g,b) from N];simp[ah]
  rw[if_pos ag];exact h w af a M ac K Z
structure Ob(P:Program)(ops:Array Oper)(Q:Exit->Act->World->Prop)(a0:Act)(V:(Nat->Bool)->(Nat->Value)->World->Prop)(i:Nat):Prop where
 out:Qaz P ops Q a0 V i
theorem XM{E:World}{p:Nat->Value->Prop}{D:Act}{i:Nat}{o:Oper}(J:ops[i]? =some o)(I:XQ ops)
  (h: ∀w,Qa Ze E w-> ∀a:Act,
   (∀e∈o.after,Region.binds .any e=true-> ∀oj d,ops[e.on]? =some oj->oj.dst=some d->d<D.tmps.size-> ∃v,a.tmps[d]? =some v/\p e.on v)->(∀d,writer ops d=none->a.tmps[d]? =D.tmps[d]?)->
   ∀K:Act->World->Prop,(∀v w',Qa Ze w w'->p i v->K (a.put o.dst v) w')->
   if Region.wanted o (yielded ops a.tmps)=true then Oper.wp P o a w K Q else K (a.put o.dst undef) w):Ob P ops Q D (KA E p) i:=⟨QeO J I h⟩
theorem WB{Z:World}{p:Nat->Value->Prop}{E:Act}{i:Nat}(I:XQ ops)(g:Nat)(b:Bool)(d:Nat)(D:Bool)(N:(ops[i]?).bind (·.guard)=some (g,b))(J:(ops[g]?).bind (·.dst)=some d)(O:decide (d<E.tmps.size)=true)(M:((ops[i]?).map fun o=>o.after.any fun e=>Region.binds .any e&&e.on==g)=some true)
  (W: ∀v,p g v->v= .bool D) (U:(D==b)=false) (Y:p i undef):Ob P ops Q E (KA Z p) i:=⟨Qor I g b d D N J O M W U Y⟩
theorem Kt{E:World}{p:Nat->Value->Prop}{D:Act}{i:Nat}{o:Oper}(U:ops[i]? =some o)(I:XQ ops)(g:Nat)(b:Bool)(d:Nat)(N:(ops[i]?).bind (·.guard)=some (g,b))(J:(ops[g]?).bind (·.dst)=some d)(O:decide (d<D.tmps.size)=true)(M:((ops[i]?).map fun o=>o.after.any fun e=>Region.binds .any e&&e.on==g)=some true)
  (W: ∀v,p g v->v= .bool b)
  (h: ∀w,Qa Ze E w-> ∀a:Act,
   (∀e∈o.after,Region.binds .any e=true-> ∀oj d,ops[e.on]? =some oj->oj.dst=some d->d<D.tmps.size-> ∃v,a.tmps[d]? =some v/\p e.on v)->(∀d,writer ops d=none->a.tmps[d]? =D.tmps[d]?)->
   ∀K:Act->World->Prop,(∀v w',Qa Ze w w'->p i v->K (a.put o.dst v) w')->Oper.wp P o a w K Q):Ob P ops Q D (KA E p) i:=⟨Qos U I g b d N J O M W h⟩
theorem Qcg{id:Nat}{a:Act}{w:World}(N:P.follows .mixedOrders =true)(E:Early .any ops)(I:XQ ops)(V:(Nat->Bool)->(Nat->Value)->World->Prop)
  (D:V (fun _=>false) (fun _=>undef) {w with drawn:=w.drawn+1}) (O: ∀i,i<ops.size->Ob P ops Q a V i)
  (J: ∀L vs w,(∀i,i<ops.size->L i=true)->V L vs w->Q .normal (Z6 vs 0 ops.toList a) w):(Code.region id ops true).wp P Q a w:=
 Qr3 N E I V D (fun i M=>(O i M).out) J
structure Wj(ops:Array Oper)(w0:World)(p:Nat->Value->Prop)(s:Nat)(F:World->World->Prop)(L:Nat->Bool)(vs:Nat->Value)(w:World):Prop where
 val: ∀i,L i=true->p i (vs i)
 cl: ∀i o,ops[i]? =some o->L i=true-> ∀e∈o.after,Region.binds .any e=true->L e.on=true
 a:L s=false->Qa Ze w0 w
 b:L s=true-> ∃w1,Qa Ze w0 w1/\F w1 w
def QaX(ops:Array Oper):Nat->List Nat->List Nat
 |0,l=>l
 |n+1,l=>QaX ops n (l++l.flatMap fun i=>((ops[i]?).map fun o=>((o.after.toList.filter (Region.binds .any ·)).map (·.on)).filter (fun k=> !l.contains k)).getD [])
theorem Qdb{L:Nat->Bool}(I: ∀i o,ops[i]? =some o->L i=true-> ∀e∈o.after,Region.binds .any e=true->L e.on=true): ∀(n:Nat) (l:List Nat),(∀i∈l,L i=true)-> ∀i∈QaX ops n l,L i=true
 |0,l,h,i,hi=>h i hi
 |
  n+1,l,h,i,hi=>by
  refine Qdb I n _ (fun j D=> ?_) i hi
  rcases List.mem_append.1 D with D|D
  ·exact h j D
  ·obtain⟨k,N,E⟩:=List.mem_flatMap.1 D
   cases ho:ops[k]? with
   |none=>rw[ho] at E;cases E
   |
    some o=>
    rw[ho] at E
    simp only[Option.map_some,Option.getD_some,List.mem_filter,List.mem_map] at E
    obtain⟨⟨e,⟨J,M⟩,rfl⟩,_⟩:=E
    exact I k o ho (h k N) e (by simpa using J) M
theorem QbG{L:Nat->Bool}{i j:Nat}(h:L j=true):XX L i true j=true:=by
 by_cases e:j=i
 ·subst e;exact WG _ _ _
 ·rw[ZM _ _ e];exact h
theorem Wj.keep{J w w':World}{p:Nat->Value->Prop}{s:Nat}{F:World->World->Prop}{L:Nat->Bool}{I:Nat->Value}(h:Wj ops J p s F L I w){i:Nat}{o:Oper}(O:ops[i]? =some o)(M: ∀e∈o.after,Region.binds .any e=true->L e.on=true)(N:i≠s)(E:L s=false)(U:Qa Ze w w'){v:Value}(W:p i v):Wj ops J p s F (XX L i true) (XX I i v) w':=by
 refine⟨fun j D=> ?_,fun j o' ho' D e he hb=> ?_,fun _=>(h.a E).trans U (fun _ _ f=>f),fun hs=> ?_⟩
 ·by_cases e:j=i
  ·subst e;rw[WG];exact W
  ·rw[ZM _ _ e] at D ⊢;exact h.val j D
 ·by_cases e2:j=i
  ·subst e2
   rw[O] at ho'
   cases ho'
   exact QbG (M e he hb)
  ·rw[ZM _ _ e2] at D
   exact QbG (h.cl j o' ho' D e he hb)
 ·rw[ZM _ _ (Ne.symm N),E] at hs;cases hs
theorem Xf{aa:World}{p:Nat->Value->Prop}{s:Nat}{F:World->World->Prop}{J:Act}{i:Nat}{o:Oper}(Z:ops[i]? =some o)(ae:XQ ops)(ai:(QaX ops 40 [s]).contains i=true)(ah:i≠s)
  (h: ∀w,Qa Ze aa w-> ∀a:Act,
   (∀e∈o.after,Region.binds .any e=true-> ∀I d,ops[e.on]? =some I->I.dst=some d->d<J.tmps.size-> ∃v,a.tmps[d]? =some v/\p e.on v)->(∀d,writer ops d=none->a.tmps[d]? =J.tmps[d]?)->
   ∀K:Act->World->Prop,(∀v w',Qa Ze w w'->p i v->K (a.put o.dst v) w')->
   if Region.wanted o (yielded ops a.tmps)=true then Oper.wp P o a w K Q else K (a.put o.dst undef) w):Ob P ops Q J (Wj ops aa p s F) i:=by
 refine⟨Qbz Z ae ?_⟩;intro L aj w D ad O fr ag af K ac;have E:L s=false:=by
  cases E:L s with
  |false=>rfl
  |
   true=>
   have:=Qdb D.cl 40 [s] (fun j Y=>by rw[List.mem_singleton] at Y;rw[Y];exact E) i (by simpa using ai);rw[ad] at this
   cases this
 exact h w (D.a E) fr (fun e W U I d M N ab=>⟨aj e.on,ag e.on I d M N (O e W U) ab,D.val _ (O e W U)⟩) af K (fun v w' M N=>ac v w' (D.keep Z O ah E M N))
theorem QhW{aa:World}{p:Nat->Value->Prop}{s:Nat}{F:World->World->Prop}{N:Act}{o:Oper}(Z:ops[s]? =some o)(ad:XQ ops)
  (h: ∀w,Qa Ze aa w-> ∀a:Act,
   (∀e∈o.after,Region.binds .any e=true-> ∀M d,ops[e.on]? =some M->M.dst=some d->d<N.tmps.size-> ∃v,a.tmps[d]? =some v/\p e.on v)->(∀d,writer ops d=none->a.tmps[d]? =N.tmps[d]?)->
   ∀K:Act->World->Prop,(∀v w',F w w'->p s v->K (a.put o.dst v) w')->
   if Region.wanted o (yielded ops a.tmps)=true then Oper.wp P o a w K Q else K (a.put o.dst undef) w):Ob P ops Q N (Wj ops aa p s F) s:=by
 refine⟨Qbz Z ad ?_⟩;intro L ag w D Y W fr af ae K ac;refine h w (D.a Y) fr (fun e I E M d O U ab=>⟨ag e.on,af e.on M d O U (W e I E) ab,D.val _ (W e I E)⟩) ae K (fun v w' O U=>ac v w' ?_);refine⟨fun j J=> ?_,fun j o' ho' J e I E=> ?_,fun hs=> ?_,fun _=>⟨w,D.a Y,O⟩⟩
 ·by_cases e:j=s
  ·subst e;rw[WG];exact U
  ·rw[ZM _ _ e] at J ⊢;exact D.val j J
 ·by_cases e2:j=s
  ·subst e2
   rw[Z] at ho'
   cases ho'
   exact QbG (W e I E)
  ·rw[ZM _ _ e2] at J
   exact QbG (D.cl j o' ho' J e I E)
 ·rw[WG] at hs;cases hs
theorem KP{ah:World}{p:Nat->Value->Prop}{s:Nat}{F:World->World->Prop}{M:Act}{i:Nat}(Y:XQ ops)(af:(QaX ops 40 [s]).contains i=true)(ab:i≠s)(g:Nat)(b:Bool)(d:Nat)(N:Bool)(I:(ops[i]?).bind (·.guard)=some (g,b))(D:(ops[g]?).bind (·.dst)=some d)(ac:decide (d<M.tmps.size)=true)(J:((ops[i]?).map fun o=>o.after.any fun e=>Region.binds .any e&&e.on==g)=some true)
  (ae: ∀v,p g v->v= .bool N) (ad:(N==b)=false) (ag:p i undef):Ob P ops Q M (Wj ops ah p s F) i:=by
 cases ho:ops[i]? with
 |none=>rw[ho] at I;cases I
 |
  some o=>
  rw[ho] at I J;refine Xf ho Y af ab ?_
  intro w aj a aa ai K W
  cases hog:ops[g]? with
  |none=>rw[hog] at D;cases D
  |
   some og=>
   rw[hog] at D;simp only[Option.map_some,Option.some.injEq] at J;obtain⟨e,Z,E⟩:=Array.any_eq_true'.1 J;rw[Bool.and_eq_true,beq_iff_eq] at E;obtain⟨v,U,O⟩:=aa e Z E.1 og d (by rw[E.2];exact hog) D (of_decide_eq_true ac);rw[E.2] at O;rw[ae v O] at U;rw[if_neg (by rw[Qh9 I hog D U ad];exact Bool.false_ne_true)];exact W _ _ (Zr _ _) ag
theorem XS{Y:World}{p:Nat->Value->Prop}{s:Nat}{F:World->World->Prop}{E:Act}{i:Nat}{o:Oper}(O:ops[i]? =some o)(aa:XQ ops)(ag:(QaX ops 40 [s]).contains i=true)(ad:i≠s)(g:Nat)(b:Bool)(d:Nat)(N:(ops[i]?).bind (·.guard)=some (g,b))(D:(ops[g]?).bind (·.dst)=some d)(ae:decide (d<E.tmps.size)=true)(J:((ops[i]?).map fun o=>o.after.any fun e=>Region.binds .any e&&e.on==g)=some true)
  (af: ∀v,p g v->v= .bool b)
  (h: ∀w,Qa Ze Y w-> ∀a:Act,
   (∀e∈o.after,Region.binds .any e=true-> ∀oj d,ops[e.on]? =some oj->oj.dst=some d->d<E.tmps.size-> ∃v,a.tmps[d]? =some v/\p e.on v)->(∀d,writer ops d=none->a.tmps[d]? =E.tmps[d]?)->
   ∀K:Act->World->Prop,(∀v w',Qa Ze w w'->p i v->K (a.put o.dst v) w')->Oper.wp P o a w K Q):Ob P ops Q E (Wj ops Y p s F) i:=by
 rw[O] at N J;refine Xf O aa ag ad ?_
 intro w ah a M ac K Z
 cases hog:ops[g]? with
 |none=>rw[hog] at D;cases D
 |
  some og=>
  rw[hog] at D;simp only[Option.map_some,Option.some.injEq] at J;obtain⟨e,ab,I⟩:=Array.any_eq_true'.1 J;rw[Bool.and_eq_true,beq_iff_eq] at I;obtain⟨v,W,U⟩:=M e ab I.1 og d (by rw[I.2];exact hog) D (of_decide_eq_true ae);rw[I.2] at U;rw[af v U] at W;have ai:Region.wanted o (yielded ops a.tmps)=true:=by
   have aj:yielded ops a.tmps g=some b:=by
    unfold yielded;rw[hog];show (match (og.dst).bind (a.tmps[·]?) with|some (.bool b)=>some b|_=>none)=some b;rw[show og.dst=some d from D];show (match a.tmps[d]? with|some (.bool b)=>some b|_=>none)=some b;rw[W]
   unfold Region.wanted;rw[show o.guard=some (g,b) from N];simp[aj]
  rw[if_pos ai];exact h w ah a M ac K Z
theorem Qfo{id:Nat}{a:Act}{w:World}(Y:P.follows .mixedOrders =true)(N:Early .any ops)(O:XQ ops)(D:World)(p:Nat->Value->Prop)(s:Nat)(F:World->World->Prop)(Z:decide (s<ops.size)=true)
  (I:Qa Ze D {w with drawn:=w.drawn+1}) (aa: ∀i,i<ops.size->Ob P ops Q a (Wj ops D p s F) i)
  (U: ∀vs E w',Qa Ze D E->F E w'->(∀i,i<ops.size->p i (vs i))->Q .normal (Z6 vs 0 ops.toList a) w'):(Code.region id ops true).wp P Q a w:=
 Qcg Y N O (Wj ops D p s F) ⟨fun i h=>(by cases h),fun i o ho h=>(by cases h),fun _=>I,fun h=>(by cases h)⟩ aa (fun L vs w' hall hV=>by
  obtain⟨E,J,M⟩:=hV.b (hall s (of_decide_eq_true Z))
  exact U vs E w' J M (fun i W=>hV.val i (hall i W)))
end
section
variable {P:Program} {ops:Array Oper} {Q:Exit->Act->World->Prop}
structure QbN(ops:Array Oper)(w0:World)(p:Nat->Value->Prop)(s t:Nat)(G:Value->World->World->Prop)(F:World->Prop)(L:Nat->Bool)(vs:Nat->Value)(w:World):Prop where
 val: ∀i,i≠s->i≠t->L i=true->p i (vs i)
 cl: ∀i o,ops[i]? =some o->L i=true-> ∀e∈o.after,Region.binds .any e=true->L e.on=true
 a:L s=false->Qa (fun _=>False) w0 w
 b:L s=true->L t=false-> ∃w1,Qa (fun _=>False) w0 w1/\G (vs s) w1 w
 c:L t=true->F w
theorem Qe3{L:Nat->Bool}{i:Nat}{o:Oper}(O:ops[i]? =some o)(N: ∀e∈o.after,Region.binds .any e=true->L e.on=true)(M: ∀i o,ops[i]? =some o->L i=true-> ∀e∈o.after,Region.binds .any e=true->L e.on=true):
  ∀j o,ops[j]? =some o->XX L i true j=true-> ∀e∈o.after,Region.binds .any e=true->XX L i true e.on=true:=fun j o' D J e I E=>by
 by_cases e2:j=i
 ·subst e2
  rw[O] at D
  cases D
  exact QbG (N e I E)
 ·rw[ZM _ _ e2] at J
  exact QbG (M j o' D J e I E)
theorem ZT{J:World}{p:Nat->Value->Prop}{s t:Nat}{G:Value->World->World->Prop}{F:World->Prop}{U:Act}{i:Nat}{o:Oper}(ae:ops[i]? =some o)(ai:XQ ops)(an:(QaX ops 40 [t]).contains i=true)(ac:i≠s)(hit:i≠t)(aj:(o.after.all fun e=> !Region.binds .any e||(e.on != s&&e.on != t))=true)
  (h: ∀w,(Qa (fun _=>False) J w\/ ∃v E,Qa (fun _=>False) J E/\G v E w)-> ∀a:Act,
   (∀e∈o.after,Region.binds .any e=true-> ∀O d,ops[e.on]? =some O->O.dst=some d->d<U.tmps.size-> ∃v,a.tmps[d]? =some v/\p e.on v)->(∀d,writer ops d=none->a.tmps[d]? =U.tmps[d]?)->
   ∀K:Act->World->Prop,(∀v,p i v->K (a.put o.dst v) w)->
   if Region.wanted o (yielded ops a.tmps)=true then Oper.wp P o a w K Q else K (a.put o.dst undef) w):Ob P ops Q U (QbN ops J p s t G F) i:=by
 refine⟨Qbz ae ai ?_⟩;intro L ap w D ah aa fr al ak K ag;have I:L t=false:=by
  cases I:L t with
  |false=>rfl
  |
   true=>
   have:=Qdb D.cl 40 [t] (fun j M=>by rw[List.mem_singleton] at M;rw[M];exact I) i (by simpa using an);rw[ah] at this
   cases this
 have ao:Qa (fun _=>False) J w\/ ∃v E,Qa (fun _=>False) J E/\G v E w:=by
  cases hs:L s with
  |false=>exact .inl (D.a hs)
  |
   true=>
   obtain⟨E,W,Y⟩:=D.b hs I;exact .inr ⟨_,E,W,Y⟩
 refine h w ao fr (fun e ab Z O d W Y af=> ?_) ak K (fun v hv=>ag v w ?_)
 ·have N:=Array.all_eq_true'.1 aj e ab
  rw[Z] at N;simp only[Bool.not_true,Bool.false_or,Bool.and_eq_true,bne_iff_ne,ne_eq] at N;exact⟨ap e.on,al e.on O d W Y (aa e ab Z) af,D.val _ N.1 N.2 (aa e ab Z)⟩
 ·refine⟨fun j M am ad=> ?_,Qe3 ae aa D.cl,fun hs=> ?_,fun hs ht2=> ?_,fun ht2=> ?_⟩
  ·by_cases e:j=i
   ·subst e;rw[WG];exact hv
   ·rw[ZM _ _ e] at ad ⊢;exact D.val j M am ad
  ·rw[ZM _ _ (Ne.symm ac)] at hs;exact D.a hs
  ·rw[ZM _ _ (Ne.symm ac)] at hs ⊢
   exact D.b hs I
  ·rw[ZM _ _ (Ne.symm hit),I] at ht2;cases ht2
theorem Qn9{ab:World}{p:Nat->Value->Prop}{s t:Nat}{G:Value->World->World->Prop}{F:World->Prop}{M:Act}{o:Oper}(aa:ops[s]? =some o)(ag:XQ ops)(am:s≠t)(al:(QaX ops 40 [t]).contains s=true)(ah:(o.after.all fun e=> !Region.binds .any e||(e.on != s&&e.on != t))=true)
  (h: ∀w,Qa (fun _=>False) ab w-> ∀a:Act,
   (∀e∈o.after,Region.binds .any e=true-> ∀J d,ops[e.on]? =some J->J.dst=some d->d<M.tmps.size-> ∃v,a.tmps[d]? =some v/\p e.on v)->(∀d,writer ops d=none->a.tmps[d]? =M.tmps[d]?)->
   ∀K:Act->World->Prop,(∀v w',G v w w'->K (a.put o.dst v) w')->
   if Region.wanted o (yielded ops a.tmps)=true then Oper.wp P o a w K Q else K (a.put o.dst undef) w):Ob P ops Q M (QbN ops ab p s t G F) s:=by
 refine⟨Qbz aa ag ?_⟩;intro L an w D N U fr aj ai K af;have Y:L t=false:=by
  cases Y:L t with
  |false=>rfl
  |
   true=>
   have:=Qdb D.cl 40 [t] (fun j E=>by rw[List.mem_singleton] at E;rw[E];exact Y) s (by simpa using al);rw[N] at this
   cases this
 refine h w (D.a N) fr (fun e W O J d ac ad ae=> ?_) ai K (fun v w' hg=>af v w' ?_)
 ·have I:=Array.all_eq_true'.1 ah e W
  rw[O] at I;simp only[Bool.not_true,Bool.false_or,Bool.and_eq_true,bne_iff_ne,ne_eq] at I;exact⟨an e.on,aj e.on J d ac ad (U e W O) ae,D.val _ I.1 I.2 (U e W O)⟩
 ·refine⟨fun j E ak Z=> ?_,Qe3 aa U D.cl,fun hs=> ?_,fun _ _=>⟨w,D.a N,by rw[WG];exact hg⟩,fun ht2=> ?_⟩
  ·rw[ZM _ _ E] at Z ⊢;exact D.val j E ak Z
  ·rw[WG] at hs;cases hs
  ·rw[ZM _ _ (Ne.symm am),Y] at ht2;cases ht2
theorem Qoa{af:World}{p:Nat->Value->Prop}{s t:Nat}{G:Value->World->World->Prop}{F:World->Prop}{D:Act}{o:Oper}(ad:ops[t]? =some o)(al:XQ ops)(ax:s≠t)(an:(o.after.any fun e=>Region.binds .any e&&e.on==s)=true)(am:(o.after.all fun e=> !Region.binds .any e||e.on != t)=true)
  {os:Oper} {E:Nat} (aw:ops[s]? =some os) (av:os.dst=some E) (au:E<D.tmps.size)
  (h: ∀v N w,Qa (fun _=>False) af N->G v N w-> ∀a:Act,a.tmps[E]? =some v->
   (∀e∈o.after,Region.binds .any e=true->e.on≠s-> ∀M d,ops[e.on]? =some M->M.dst=some d->d<D.tmps.size-> ∃v,a.tmps[d]? =some v/\p e.on v)->(∀d,writer ops d=none->a.tmps[d]? =D.tmps[d]?)->
   ∀K:Act->World->Prop,(∀v w',F w'->K (a.put o.dst v) w')->
   if Region.wanted o (yielded ops a.tmps)=true then Oper.wp P o a w K Q else K (a.put o.dst undef) w):Ob P ops Q D (QbN ops af p s t G F) t:=by
 refine⟨Qbz ad al ?_⟩;intro L ae w I ak J fr aa aq K aj;obtain⟨ag,ao,W⟩:=Array.any_eq_true'.1 an;rw[Bool.and_eq_true,beq_iff_eq] at W;have Z:L s=true:=by rw[<-W.2];exact J ag ao W.1
 obtain⟨N,ah,ai⟩:=I.b Z ak;refine h (ae s) N w ah ai fr (aa s os E aw av Z au) (fun e U O ap M d ay az aA=> ?_) aq K (fun v w' hF=>aj v w' ?_)
 ·have Y:=Array.all_eq_true'.1 am e U
  rw[O] at Y;simp only[Bool.not_true,Bool.false_or,bne_iff_ne,ne_eq] at Y;exact⟨ae e.on,aa e.on M d ay az (J e U O) aA,I.val _ ap Y (J e U O)⟩
 ·refine⟨fun j ar ab ac=> ?_,Qe3 ad J I.cl,fun hs2=> ?_,fun _ ht2=> ?_,fun _=>hF⟩
  ·rw[ZM _ _ ab] at ac ⊢;exact I.val j ar ab ac
  ·rw[ZM _ _ ax,Z] at hs2;cases hs2
  ·rw[WG] at ht2;cases ht2
theorem Qr5{id:Nat}{a:Act}{w:World}(W:P.follows .mixedOrders =true)(M:Early .any ops)(N:XQ ops)(D:World)(p:Nat->Value->Prop)(s t:Nat)(G:Value->World->World->Prop)(F:World->Prop)(Z:decide (t<ops.size)=true)
  (E:Qa (fun _=>False) D {w with drawn:=w.drawn+1}) (Y: ∀i,i<ops.size->Ob P ops Q a (QbN ops D p s t G F) i)
  (O: ∀vs w',F w'->(∀i,i<ops.size->i≠s->i≠t->p i (vs i))->Q .normal (Z6 vs 0 ops.toList a) w'):(Code.region id ops true).wp P Q a w:=
 Qcg W M N (QbN ops D p s t G F) ⟨fun i _ _ h=>(by cases h),fun i o ho h=>(by cases h),fun _=>E,fun h=>(by cases h),fun h=>(by cases h)⟩ Y (fun L vs w' hall hV=>
  O vs w' (hV.c (hall t (of_decide_eq_true Z))) (fun i U I J=>hV.val i I J (hall i U)))
end
end
end Go.Proofs.YtbleblbfadeciaaGreatDoor
