/- For TopKept. -/
set_option linter.all false
set_option maxHeartbeats 16000000
set_option maxRecDepth 10000
namespace Raft
abbrev Log:=List (Nat×Nat)
def tm(l:Log)(k:Nat):Nat:=(l.getD k (0,0)).1
def lastT(l:Log):Nat:=tm l (l.length - 1)
structure G where
 n:Nat
 term:Nat->Nat
 vote:Nat->Option Nat
 full:Nat->Log
 bi:Nat->Nat
 commit:Nat->Nat
 role:Nat->Nat
 yes:Nat->Nat->Prop
 mtch:Nat->Nat->Nat
 T:Nat->Option (Nat×Log)
 A:Nat->Nat->Nat
 VR:Nat->Nat->Option (Nat×Log×Bool)
 CL:Nat->Nat->Option Log
def QjK(n:Nat)(P:Nat->Prop)(m:Nat):Prop:= ∃l:List Nat,l.Nodup/\(∀j∈l,j<n/\P j)/\m<=l.length
def Z9(n:Nat)(P:Nat->Prop):Prop:=QjK n P (n/2+1)
theorem Z9.mono{n:Nat}{P I:Nat->Prop}(h:Z9 n P)(N: ∀j,j<n->P j->I j):Z9 n I:=by
 obtain⟨l,J,D,M⟩:=h;exact⟨l,J,fun j E=>⟨(D j E).1,N j (D j E).1 (D j E).2⟩,M⟩
theorem Qnv{l m:List Nat}(h:l.Nodup)(D: ∀x∈l,x∈m):l.length<=m.length:=by
 induction l generalizing m with
 |nil=>simp
 |
  cons x l ih=>
  rw[List.nodup_cons] at h;have E:x∈m:=D x List.mem_cons_self;have:=ih (m:=m.erase x) h.2 (fun y I=>(List.mem_erase_of_ne (fun e=>h.1 (by rw[<-e];exact I))).2 (D y (List.mem_cons_of_mem _ I)));rw[List.length_erase_of_mem E] at this;have J:0<m.length:=List.length_pos_of_mem E;simp only[List.length_cons];omega
theorem Z9.meet{n:Nat}{P I:Nat->Prop}(h:Z9 n P)(O:Z9 n I): ∃j,j<n/\P j/\I j:=by
 obtain⟨l,Q,E,ab⟩:=h;obtain⟨N,U,J,ac⟩:=O;by_cases D: ∃j,j∈l/\j∈N
 ·obtain⟨j,M,Z⟩:=D
  exact⟨j,(E j M).1,(E j M).2,(J j Z).2⟩
 ·have aa:(l++N).Nodup :=by
   rw[List.nodup_append];refine⟨Q,U,fun a W b Y e=>D ⟨a,W,by rw[e];exact Y⟩⟩
  have:=Qnv (m:=List.range n) aa (fun x D=>by
   rw[List.mem_append] at D;rw[List.mem_range];rcases D with h|h
   ·exact (E x h).1
   ·exact (J x h).1)
  rw[List.length_append,List.length_range] at this;omega
def ZO(g:G)(l:Log):Prop:=l≠[]/\l.Pairwise (fun a b=>a.1<=b.1)/\ ∀k,k<l.length-> ∃w L,g.T (tm l k)=some (w,L)/\l.take (k+1)=L.take (k+1)
def Qdz(g:G)(t k:Nat)(L:Log):Prop:= ∃w,g.T t=some (w,L)/\1<=k/\k<=L.length/\tm L (k - 1)=t/\Z9 g.n (fun j=>k<=g.A j t)
def Com(g:G)(t:Nat)(p:Log):Prop:= ∃t0 k L,t0<=t/\Qdz g t0 k L/\p <+: L.take k
def QdP(l m:Log):Prop:=lastT l<lastT m\/lastT l=lastT m/\l.length<=m.length
structure Inv(g:G):Prop where
 t1:g.T 1=some (g.n,[(1,0)])
 ZG: ∀t w L,g.T t=some (w,L)->1<=t
 tlog: ∀t w L,g.T t=some (w,L)->ZO g L/\ ∀e∈L,e.1<=t
 tel: ∀t w L,g.T t=some (w,L)->t=1\/w<g.n/\ ∃l S,g.CL w t=some l/\L=l++S/\S≠[]/\(∀e∈S,e.1=t)/\Z9 g.n (fun j=> ∃l',g.VR j t=some (w,l',false))
 full: ∀i,i<g.n->ZO g (g.full i)/\ ∀e∈g.full i,e.1<=g.term i
 vr: ∀i t c l b,g.VR i t=some (c,l,b)->t<=g.term i/\(t=g.term i->g.vote i=some c)/\(b=true->g.T t≠none)/\ ∃l',g.CL c t=some l'/\QdP l l'/\ZO g l
 vote: ∀i c,i<g.n->g.vote i=some c-> ∃l b,g.VR i (g.term i)=some (c,l,b)
 cl: ∀c t l,g.CL c t=some l->t<=g.term c/\ZO g l/\ ∀e∈l,e.1<t
 cand: ∀i,i<g.n->g.role i=1->g.CL i (g.term i)=some (g.full i)/\(∀j,j<g.n->g.yes i j-> ∃l b,g.VR j (g.term i)=some (i,l,b))/\ ∀L,g.T (g.term i)≠some (i,L)
 lead: ∀i,i<g.n->g.role i=2->g.T (g.term i)=some (i,g.full i)/\(∀j,j<g.n->g.mtch i j<=g.A j (g.term i))/\(g.full i).length <=g.A i (g.term i)
 ack: ∀j t,j<g.n->1<=g.A j t->t<=g.term j/\ ∃w L,g.T t=some (w,L)/\g.A j t<=L.length
 keep: ∀j t k w L,j<g.n->g.T t=some (w,L)->1<=k->k<=g.A j t->tm L (k - 1)=t->L.take k <+: g.full j\/ ∃t' w' L',t<t'/\t'<=g.term j/\g.T t'=some (w',L')/\ ¬L.take k <+: L'
 kept: ∀j t k w L t' c l b,j<g.n->g.T t=some (w,L)->1<=k->k<=g.A j t->tm L (k - 1)=t->t<t'->g.VR j t'=some (c,l,b)->L.take k <+: l\/(∃t'' w'' L'',t<t''/\t''<t'/\g.T t''=some (w'',L'')/\ ¬L.take k <+: L'')\/b=true
 com: ∀i,i<g.n->1<=g.bi i/\g.bi i<=g.commit i/\g.commit i<=(g.full i).length /\Com g (g.term i) ((g.full i).take (g.commit i))
theorem ZU{l:Log}{k:Nat}(h:k<l.length):tm l k=l[k].1:=by simp[tm,h]
theorem Z8{l:Log}{k m:Nat}(h:k<m):tm (l.take m) k=tm l k:=by
 unfold tm;rw[List.getD_eq_getElem?_getD,List.getD_eq_getElem?_getD,List.getElem?_take,if_pos h]
theorem Z7{l m:Log}(h:l <+: m){k:Nat}(D:k<l.length):tm l k=tm m k:=by
 obtain⟨s,rfl⟩:=h;unfold tm;rw[List.getD_eq_getElem?_getD,List.getD_eq_getElem?_getD,List.getElem?_append_left D]
theorem Qdo{l:Log}(h:l.Pairwise (fun a b=>a.1<=b.1)){i j:Nat}(I:i<=j)(D:j<l.length):tm l i<=tm l j:=by
 rw[ZU D,ZU (by omega)];rcases Nat.lt_or_eq_of_le I with E|rfl
 ·exact List.pairwise_iff_getElem.1 h i j (by omega) D E
 ·exact Nat.le_refl _
theorem QoI{p l:Log}(h:p <+: l){k:Nat}(D:p.length<=k):p <+: l.take k:=by
 obtain⟨s,rfl⟩:=h;rw[List.take_append];rw[List.take_of_length_le D];exact List.prefix_append _ _
theorem Qc7{p q l:Log}(D:p <+: l)(E:q <+: l)(h:p.length<=q.length):p <+: q:=List.prefix_of_prefix_length_le D E h
theorem Inv.Qk4{g:G}(h:Inv g){t k:Nat}{L:Log}(ap:Qdz g t k L): ∀t' w' I,t<t'->g.T t'=some (w',I)->L.take k <+: I:=by
 obtain⟨w,O,au,aK,U,aA⟩:=ap;intro t';induction t' using Nat.strongRecOn with
 |
  ind t' ih=>
  intro w' I aE ao;have aN:=h.ZG t w L O;rcases h.tel t' w' I ao with D|⟨aO,l,S,Y,rfl,aI,aJ,aB⟩
  ·omega
  ·obtain⟨j,ar,av,E,ah⟩:=aA.meet aB
   obtain⟨_,ad,az⟩:=h.cl _ _ _ Y;obtain⟨_,_,_,l2,Z,ag,aw⟩:=h.vr _ _ _ _ _ ah;rw[Y] at Z
   cases Z
   have W:(L.take k).length =k:=by rw[List.length_take];omega
   have af:L.take k <+: E:=by
    rcases h.kept j t k w L t' w' E false ar O au av U aE ah with D|⟨aF,w2,ai,aj,ak,al,am⟩|an
    ·exact D
    ·exact absurd (ih aF ak w2 ai aj al) am
    ·cases an
   have aL:k<=E.length:=by have:=af.length_le;omega
   have aD:t<=lastT E:=by
    have e1:tm (L.take k) (k - 1)=tm E (k - 1):=Z7 af (by omega);rw[Z8 (by omega)] at e1;rw[<-U,e1];exact Qdo aw.2.1 (by omega) (by omega)
   have aM:0<l.length:=List.length_pos_iff.2 ad.1;obtain⟨aG,J,M,aa⟩:=ad.2.2 (l.length - 1) (by omega);have ay:l.length - 1+1=l.length:=by omega
   rw[ay,List.take_length] at aa;have Q:l <+: J:=by rw[aa];exact List.take_prefix _ _
   have aq:t<=lastT l:=by
    rcases ag with D|⟨D,_⟩<;>omega
   have ax:lastT l<t':=by
    unfold lastT;rw[ZU (by omega)];exact az _ (List.getElem_mem _)
   refine List.IsPrefix.trans ?_ (List.prefix_append l S)
   rcases Nat.lt_or_eq_of_le aq with ae|ab
   ·
    have N:=ih (lastT l) ax aG J ae M;refine Qc7 N Q ?_
    rw[W];rcases Nat.lt_or_ge l.length k with ac|ac
    ·exfalso
     have e1:tm (L.take k) (k - 1)=tm J (k - 1):=Z7 N (by omega);rw[Z8 (by omega),U] at e1;have aC:=(h.tlog _ _ _ M).1.2.1;have:=Qdo aC (i:=l.length - 1) (j:=k - 1) (by omega) (by have:=N.length_le;omega);have aH:tm l (l.length - 1)=tm J (l.length - 1):=Z7 Q (by omega);unfold lastT at ae;omega
    ·exact ac
   ·
    unfold lastT at ab;rw[<-ab,O] at M
    cases M
    refine Qc7 (List.take_prefix _ _) Q ?_
    rw[W];rcases ag with D|⟨_,D⟩
    ·unfold lastT at D aD;omega
    ·omega
theorem Inv.QbV{g:G}(h:Inv g){t t':Nat}{p:Log}(O:Com g t p){w:Nat}{L:Log}(D:g.T t'=some (w,L))(Q:t<=t'):p <+: L:=by
 obtain⟨t0,k,U,M,I,J⟩:=O;rcases Nat.lt_or_eq_of_le (Nat.le_trans M Q) with N|rfl
 ·exact J.trans (h.Qk4 I t' w L N D)
 ·obtain⟨w',E,_⟩:=I
  rw[D] at E
  cases E
  exact J.trans (List.take_prefix _ _)
theorem prefix_or{p q l:Log}(D:p <+: l)(E:q <+: l):p <+: q\/q <+: p:=by
 rcases Nat.le_total p.length q.length with h|h
 ·exact .inl (Qc7 D E h)
 ·exact .inr (Qc7 E D h)
theorem Inv.agree{g:G}(h:Inv g){t t':Nat}{p q:Log}(W:Com g t p)(Y:Com g t' q):p <+: q\/q <+: p:=by
 obtain⟨t0,k,L,aa,E,J⟩:=W;obtain⟨N,Z,O,ab,I,M⟩:=Y;have Q:=E.choose_spec.1;have U:=I.choose_spec.1;rcases Nat.le_total t0 N with D|D
 ·exact prefix_or (h.QbV ⟨t0,k,L,D,E,J⟩ U (Nat.le_refl _)) (M.trans (List.take_prefix _ _))
 ·exact prefix_or (J.trans (List.take_prefix _ _)) (h.QbV ⟨N,Z,O,D,I,M⟩ Q (Nat.le_refl _))
structure Le(g g':G):Prop where
 n:g'.n=g.n
 T: ∀t w L,g.T t=some (w,L)-> ∃L',g'.T t=some (w,L')/\L <+: L'
 A: ∀j t,g.A j t<=g'.A j t
 VR: ∀j t x,g.VR j t=some x->g'.VR j t=some x
 CL: ∀j t x,g.CL j t=some x->g'.CL j t=some x
theorem Le.refl(g:G):Le g g:=⟨rfl,fun t w L h=>⟨L,h,List.prefix_refl _⟩,fun _ _=>Nat.le_refl _,fun _ _ _ h=>h,fun _ _ _ h=>h⟩
theorem Le.trans{a b c:G}(h:Le a b)(k:Le b c):Le a c:=
 ⟨by rw[k.n,h.n],fun t w L e=>by
  obtain⟨D,e1,J⟩:=h.T t w L e
  obtain⟨E,I,M⟩:=k.T t w D e1
  exact⟨E,I,J.trans M⟩,fun j t=>Nat.le_trans (h.A j t) (k.A j t),fun j t x e=>k.VR j t x (h.VR j t x e),fun j t x e=>k.CL j t x (h.CL j t x e)⟩
theorem Qat{l m:Log}(h:l <+: m){k:Nat}(D:k<=l.length):l.take k=m.take k:=by
 obtain⟨s,rfl⟩:=h;rw[List.take_append_of_le_length D]
theorem ZO.mono{g g':G}(N:Le g g'){l:Log}(h:ZO g l):ZO g' l:=by
 refine⟨h.1,h.2.1,fun k M=> ?_⟩;obtain⟨w,L,I,D⟩:=h.2.2 k M;obtain⟨E,J,O⟩:=N.T _ _ _ I;refine⟨w,E,J,?_⟩;have hlen:k+1<=L.length:=by
  have:=congrArg List.length D;rw[List.length_take,List.length_take] at this;omega
 rw[D,Qat O hlen]
theorem Com.mono{g g':G}(D:Le g g'){t t':Nat}{p:Log}(h:Com g t p)(Y:t<=t'):Com g' t' p:=by
 obtain⟨t0,k,L,I,⟨w,J,O,Q,Z,U⟩,W⟩:=h;obtain⟨E,M,hpre⟩:=D.T _ _ _ J;have aa:=hpre.length_le;refine⟨t0,k,E,Nat.le_trans I Y,⟨w,M,O,by omega,?_,?_⟩,?_⟩
 ·rw[<-Z7 hpre (by omega)]
  exact Z
 ·rw[D.n]
  exact U.mono (fun j _ N=>Nat.le_trans N (D.A j t0))
 ·rw[<-Qat hpre Q]
  exact W
theorem Com.sub{g:G}{t:Nat}{p q:Log}(h:Com g t p)(J:q <+: p):Com g t q:=by
 obtain⟨t0,k,L,D,E,I⟩:=h;exact⟨t0,k,L,D,E,J.trans I⟩
def upd{α:Type}(f:Nat->α)(i:Nat)(v:α):Nat->α:=fun x=>if x=i then v else f x
theorem upd_same{α:Type}(f:Nat->α)(i:Nat)(v:α):upd f i v i=v:=by simp[upd]
theorem upd_ne{α:Type}(f:Nat->α){i x:Nat}(v:α)(h:x≠i):upd f i v x=f x:=by simp[upd,h]
theorem Inv.Qfb{g:G}(h:Inv g){i:Nat}(J:i<g.n):1<=g.term i:=by
 obtain⟨D,E⟩:=h.full i J;have hlen:=List.length_pos_iff.2 D.1;obtain⟨w,L,I,_⟩:=D.2.2 0 hlen;have:=h.ZG _ _ _ I;have:=E _ (List.getElem_mem hlen);rw[ZU hlen] at*
 omega
end Raft
namespace Raft
def G.bump(g:G)(i t:Nat):G:={g with term:=upd g.term i t,vote:=upd g.vote i none,role:=upd g.role i 0}
theorem Qhx{g g':G}(M:g'.n=g.n)(I:g'.T=g.T)(D:g'.A=g.A)(J:g'.VR=g.VR)(E:g'.CL=g.CL):Le g g':=
 ⟨M,fun t w L h=>⟨L,by rw[I];exact h,List.prefix_refl _⟩,fun j t=>by rw[D];exact Nat.le_refl _,fun j t x h=>by rw[J];exact h,fun j t x h=>by rw[E];exact h⟩
theorem Inv.bump{g:G}(h:Inv g){i t:Nat}(ap:i<g.n)(aq:g.term i<t):Inv (g.bump i t)/\Le g (g.bump i t):=by
 have M:Le g (g.bump i t):=Qhx rfl rfl rfl rfl rfl;have N: ∀j,g.term j<=(g.bump i t).term j:=fun j=>by
  show g.term j<=upd g.term i t j;unfold upd;split
  ·rename_i e;subst e;omega
  ·exact Nat.le_refl _
 refine⟨⟨h.t1,h.ZG,fun t' w L Q=>⟨(h.tlog t' w L Q).1.mono M,(h.tlog t' w L Q).2⟩,h.tel,fun j D=>⟨(h.full j D).1.mono M,fun e he=>Nat.le_trans ((h.full j D).2 e he) (N j)⟩,?_,?_,?_,?_,?_,?_,?_,?_,?_⟩,M⟩
 ·intro j t' c l b Z
  obtain⟨E,J,O,an,W,ag,ah⟩:=h.vr j t' c l b Z;refine⟨Nat.le_trans E (N j),fun e=> ?_,O,an,W,ag,ah.mono M⟩;by_cases hji:j=i
  ·subst hji
   have aa:t'=t:=by rw[e];exact upd_same _ _ _
   omega
  ·have aa:t'=g.term j:=by rw[e];exact upd_ne _ _ hji
   show upd g.vote i none j=some c;rw[upd_ne _ _ hji];exact J aa
 ·intro j c D Z
  have U:upd g.vote i none j=some c:=Z;by_cases hji:j=i
  ·subst hji;rw[upd_same] at U;cases U
  ·rw[upd_ne _ _ hji] at U
   obtain⟨l,b,E⟩:=h.vote j c D U;refine⟨l,b,?_⟩;show g.VR j (upd g.term i t j)=_;rw[upd_ne _ _ hji];exact E
 ·intro c t' l aj
  obtain⟨E,J,O⟩:=h.cl c t' l aj;exact⟨Nat.le_trans E (N c),J.mono M,O⟩
 ·intro j D Y
  have I:upd g.role i 0 j=1:=Y;by_cases hji:j=i
  ·subst hji;rw[upd_same] at I;cases I
  ·rw[upd_ne _ _ hji] at I
   have:=h.cand j D I;show g.CL j (upd g.term i t j)=_/\(∀j2,j2<g.n->g.yes j j2-> ∃l b,g.VR j2 (upd g.term i t j)=_)/\ ∀L,g.T (upd g.term i t j)≠_;rw[upd_ne _ _ hji];exact this
 ·intro j D Y
  have I:upd g.role i 0 j=2:=Y;by_cases hji:j=i
  ·subst hji;rw[upd_same] at I;cases I
  ·rw[upd_ne _ _ hji] at I
   have:=h.lead j D I;show g.T (upd g.term i t j)=_/\(∀j2,j2<g.n->g.mtch j j2<=g.A j2 (upd g.term i t j))/\(g.full j).length <=g.A j (upd g.term i t j);rw[upd_ne _ _ hji];exact this
 ·intro j t' D ai
  obtain⟨E,J⟩:=h.ack j t' D ai;exact⟨Nat.le_trans E (N j),J⟩
 ·intro j t' k w L D Q ak al am
  rcases h.keep j t' k w L D Q ak al am with E|⟨ao,w2,ab,ac,ad,ae,af⟩
  ·exact .inl E
  ·exact .inr ⟨ao,w2,ab,ac,Nat.le_trans ad (N j),ae,af⟩
 ·exact h.kept
 ·intro j D
  obtain⟨E,J,O,W⟩:=h.com j D;exact⟨E,J,O,W.mono M (N j)⟩
theorem Inv.soft{g g':G}(h:Inv g)(Z:g'.n=g.n)(ab:g'.term=g.term)(O:g'.vote=g.vote)(aa:g'.full=g.full)(D:g'.T=g.T)(U:g'.A=g.A)(Y:g'.VR=g.VR)(W:g'.CL=g.CL)
  (af: ∀i,i<g.n->g'.role i=1->g.CL i (g.term i)=some (g.full i)/\(∀j,j<g.n->g'.yes i j-> ∃l b,g.VR j (g.term i)=some (i,l,b))/\ ∀L,g.T (g.term i)≠some (i,L))
  (ah: ∀i,i<g.n->g'.role i=2->g.T (g.term i)=some (i,g.full i)/\(∀j,j<g.n->g'.mtch i j<=g.A j (g.term i))/\(g.full i).length <=g.A i (g.term i))
  (ag: ∀i,i<g.n->1<=g'.bi i/\g'.bi i<=g'.commit i/\g'.commit i<=(g.full i).length /\Com g (g.term i) ((g.full i).take (g'.commit i))):Inv g'/\Le g g':=by
 have E:Le g g':=Qhx Z D U Y W;obtain⟨ar,av,aw,ap,an,ao,au,ax,aq,al,aj,am,ak⟩:=g';simp only at Z ab O aa D U Y W;subst Z ab O aa D U Y W;refine⟨⟨h.t1,h.ZG,fun t' w L D=>⟨(h.tlog t' w L D).1.mono E,(h.tlog t' w L D).2⟩,h.tel,fun j N=>⟨(h.full j N).1.mono E,(h.full j N).2⟩,?_,h.vote,?_,af,ah,h.ack,h.keep,h.kept,?_⟩,E⟩
 ·intro j t' c l b O
  obtain⟨I,J,M,ai,Q,ac,ad⟩:=h.vr j t' c l b O;exact⟨I,J,M,ai,Q,ac,ad.mono E⟩
 ·intro c t' l ae
  obtain⟨I,J,M⟩:=h.cl c t' l ae;exact⟨I,J.mono E,M⟩
 ·intro j N
  obtain⟨I,J,M,Q⟩:=ag j N;exact⟨I,J,M,Q.mono E (Nat.le_refl _)⟩
def G.follow(g:G)(i:Nat):G:={g with role:=upd g.role i 0}
theorem Inv.follow{g:G}(h:Inv g)(i:Nat):Inv (g.follow i)/\Le g (g.follow i):=by
 refine h.soft rfl rfl rfl rfl rfl rfl rfl rfl (fun j E I=> ?_) (fun j E I=> ?_) h.com
 ·have D:upd g.role i 0 j=1:=I
  by_cases hji:j=i
  ·subst hji;rw[upd_same] at D;cases D
  ·rw[upd_ne _ _ hji] at D
   exact h.cand j E D
 ·have D:upd g.role i 0 j=2:=I
  by_cases hji:j=i
  ·subst hji;rw[upd_same] at D;cases D
  ·rw[upd_ne _ _ hji] at D
   exact h.lead j E D
def G.Qa2(g:G)(i:Nat):G:={g with role:=upd g.role i 0,commit:=upd g.commit i (g.bi i)}
theorem Qcc(l:Log){a b:Nat}(h:a<=b):l.take a <+: l.take b:=by
 rw[<-Nat.min_eq_left h,<-List.take_take];exact List.take_prefix _ _
theorem Inv.Qa2{g:G}(h:Inv g){i:Nat}(Q:i<g.n):Inv (g.Qa2 i)/\Le g (g.Qa2 i):=by
 refine h.soft rfl rfl rfl rfl rfl rfl rfl rfl (fun j E I=> ?_) (fun j E I=> ?_) (fun j E=> ?_)
 ·have D:upd g.role i 0 j=1:=I
  by_cases hji:j=i
  ·subst hji;rw[upd_same] at D;cases D
  ·rw[upd_ne _ _ hji] at D
   exact h.cand j E D
 ·have D:upd g.role i 0 j=2:=I
  by_cases hji:j=i
  ·subst hji;rw[upd_same] at D;cases D
  ·rw[upd_ne _ _ hji] at D
   exact h.lead j E D
 ·obtain⟨J,M,O,N⟩:=h.com j E
  show 1<=g.bi j/\g.bi j<=upd g.commit i (g.bi i) j/\upd g.commit i (g.bi i) j<=(g.full j).length /\Com g (g.term j) ((g.full j).take (upd g.commit i (g.bi i) j));by_cases hji:j=i
  ·subst hji
   rw[upd_same];exact⟨J,Nat.le_refl _,by omega,N.sub (Qcc _ M)⟩
  ·rw[upd_ne _ _ hji]
   exact⟨J,M,O,N⟩
def G.compact(g:G)(i b:Nat):G:={g with bi:=upd g.bi i b}
theorem Inv.compact{g:G}(h:Inv g){i b:Nat}(Q:i<g.n)(O:g.bi i<=b)(M:b<=g.commit i):Inv (g.compact i b)/\Le g (g.compact i b):=by
 refine h.soft rfl rfl rfl rfl rfl rfl rfl rfl h.cand h.lead (fun j N=> ?_);obtain⟨I,J,D,E⟩:=h.com j N;show 1<=upd g.bi i b j/\upd g.bi i b j<=g.commit j/\_/\_;by_cases hji:j=i
 ·subst hji
  rw[upd_same];exact⟨by omega,M,D,E⟩
 ·rw[upd_ne _ _ hji]
  exact⟨I,J,D,E⟩
def G.heard(g:G)(c i:Nat):G:={g with yes:=upd g.yes c (fun j=>g.yes c j\/j=i)}
theorem Inv.heard{g:G}(h:Inv g){c i:Nat}{l:Log}{b:Bool}(Q:g.VR i (g.term c)=some (c,l,b)):Inv (g.heard c i)/\Le g (g.heard c i):=by
 refine h.soft rfl rfl rfl rfl rfl rfl rfl rfl (fun j N O=> ?_) h.lead h.com;obtain⟨J,E,M⟩:=h.cand j N O;refine⟨J,fun k I U=> ?_,M⟩;have D:upd g.yes c (fun j=>g.yes c j\/j=i) j k:=U;by_cases hjc:j=c
 ·subst hjc
  rw[upd_same] at D;rcases D with D|rfl
  ·exact E k I D
  ·exact⟨l,b,Q⟩
 ·rw[upd_ne _ _ hjc] at D
  exact E k I D
def G.KO(g:G)(i j k:Nat):G:={g with mtch:=upd g.mtch i (upd (g.mtch i) j k)}
theorem Inv.KO{g:G}(h:Inv g){i j k:Nat}(N:g.role i=2->k<=g.A j (g.term i)):Inv (g.KO i j k)/\Le g (g.KO i j k):=by
 refine h.soft rfl rfl rfl rfl rfl rfl rfl rfl h.cand (fun x O E=> ?_) h.com;obtain⟨J,D,M⟩:=h.lead x O E;refine⟨J,fun y I=> ?_,M⟩;show upd g.mtch i (upd (g.mtch i) j k) x y<=_;by_cases hxi:x=i
 ·subst hxi
  rw[upd_same];by_cases hyj:y=j
  ·subst hyj
   rw[upd_same];exact N E
  ·rw[upd_ne _ _ hyj]
   exact D y I
 ·rw[upd_ne _ _ hxi]
  exact D y I
def G.settle(g:G)(i k:Nat):G:={g with commit:=upd g.commit i k}
theorem Inv.settle{g:G}(h:Inv g){i k:Nat}(I:i<g.n)(aa:g.role i=2)(af:g.commit i<=k)(J:k<=(g.full i).length)(ab:tm (g.full i) (k - 1)=g.term i)(Z:Z9 g.n (fun j=>k<=g.mtch i j)):Inv (g.settle i k)/\Le g (g.settle i k):=by
 obtain⟨U,Q,_⟩:=h.lead i I aa;obtain⟨ac,ad,ae,_⟩:=h.com i I;have W:Qdz g (g.term i) k (g.full i):=⟨i,U,by omega,J,ab,Z.mono (fun j D Y=>Nat.le_trans Y (Q j D))⟩
 refine h.soft rfl rfl rfl rfl rfl rfl rfl rfl h.cand h.lead (fun j D=> ?_);obtain⟨E,M,N,O⟩:=h.com j D;show 1<=g.bi j/\g.bi j<=upd g.commit i k j/\upd g.commit i k j<=(g.full j).length /\Com g (g.term j) ((g.full j).take (upd g.commit i k j));by_cases hji:j=i
 ·subst hji
  rw[upd_same];exact⟨E,by omega,J,⟨_,k,_,Nat.le_refl _,W,List.prefix_refl _⟩⟩
 ·rw[upd_ne _ _ hji]
  exact⟨E,M,N,O⟩
end Raft
namespace Raft
def late(g:G)(t:Nat):Bool:=(g.T t).isSome
theorem Qhu{g:G}{t:Nat}:late g t=true↔g.T t≠none:=by
 unfold late
 cases g.T t<;>simp
def G.cast(g:G)(i c:Nat):G:={g with vote:=upd g.vote i (some c),VR:=upd g.VR i (upd (g.VR i) (g.term i) (some (c,g.full i,late g (g.term i))))}
theorem Inv.cast{g:G}(h:Inv g){i c:Nat}(an:i<g.n)(ag:g.vote i=none){l:Log}(am:g.CL c (g.term i)=some l)(ar:QdP (g.full i) l):Inv (g.cast i c)/\Le g (g.cast i c):=by
 have ap:g.VR i (g.term i)=none:=by
  cases e:g.VR i (g.term i) with
  |none=>rfl
  |
   some x=>
   obtain⟨c',N,b⟩:=x;have:=(h.vr i (g.term i) c' N b e).2.1 rfl;rw[ag] at this
   cases this
 have aa: ∀j t x,g.VR j t=some x->(g.cast i c).VR j t=some x:=fun j t x e=>by
  show upd g.VR i _ j t=some x;by_cases hji:j=i
  ·subst hji
   rw[upd_same];by_cases W:t=g.term j
   ·subst W;rw[ap] at e;cases e
   ·rw[upd_ne _ _ W];exact e
  ·rw[upd_ne _ _ hji];exact e
 have U:Le g (g.cast i c):=⟨rfl,fun t w L e=>⟨L,e,List.prefix_refl _⟩,fun _ _=>Nat.le_refl _,aa,fun _ _ _ e=>e⟩
 have hold: ∀j t x,(g.cast i c).VR j t=some x->(j=i/\t=g.term i/\x=(c,g.full i,late g (g.term i)))\/g.VR j t=some x:=fun j t x e=>by
  have D:upd g.VR i (upd (g.VR i) (g.term i) (some (c,g.full i,late g (g.term i)))) j t=some x:=e;by_cases hji:j=i
  ·subst hji
   rw[upd_same] at D;by_cases W:t=g.term j
   ·subst W
    rw[upd_same] at D
    cases D
    exact .inl ⟨rfl,rfl,rfl⟩
   ·rw[upd_ne _ _ W] at D;exact .inr D
  ·rw[upd_ne _ _ hji] at D;exact .inr D
 have ao:(g.cast i c).VR i (g.term i)=some (c,g.full i,late g (g.term i)):=by
  show upd g.VR i _ i (g.term i)=_;rw[upd_same,upd_same]
 refine⟨⟨h.t1,h.ZG,fun t' w L Q=>⟨(h.tlog t' w L Q).1.mono U,(h.tlog t' w L Q).2⟩,?_,fun j I=>⟨(h.full j I).1.mono U,(h.full j I).2⟩,?_,?_,?_,?_,h.lead,h.ack,h.keep,?_,fun j I=> ?_⟩,U⟩
 ·intro t w L Q
  rcases h.tel t w L Q with E|⟨E,N,S,J,M,O,ab,ac⟩
  ·exact .inl E
  ·refine .inr ⟨E,N,S,J,M,O,ab,ac.mono (fun j _ I=> ?_)⟩
   obtain⟨l2,I⟩:=I;exact⟨l2,aa _ _ _ I⟩
 ·intro j t c' N b e
  rcases hold j t _ e with ⟨rfl,rfl,D⟩|D
  ·cases D
   refine⟨Nat.le_refl _,fun _=> ?_,fun Y=>Qhu.1 Y,l,am,ar,(h.full j an).1.mono U⟩;show upd g.vote j (some c) j=some c;rw[upd_same]
  ·obtain⟨E,J,M,l2,O,ab,ac⟩:=h.vr j t c' N b D
   refine⟨E,fun Y=> ?_,M,l2,O,ab,ac.mono U⟩;show upd g.vote i (some c) j=some c';by_cases hji:j=i
   ·subst hji
    have:=J Y;rw[ag] at this
    cases this
   ·rw[upd_ne _ _ hji];exact J Y
 ·intro j c' I e
  have D:upd g.vote i (some c) j=some c':=e;by_cases hji:j=i
  ·subst hji
   rw[upd_same] at D
   cases D
   exact⟨_,_,ao⟩
  ·rw[upd_ne _ _ hji] at D
   obtain⟨l2,b,E⟩:=h.vote j c' I D;exact⟨l2,b,aa _ _ _ E⟩
 ·intro c' t' N e
  obtain⟨E,J,M⟩:=h.cl c' t' N e;exact⟨E,J.mono U,M⟩
 ·intro j I aq
  obtain⟨E,J,M⟩:=h.cand j I aq;refine⟨E,fun k Z au=> ?_,M⟩;obtain⟨l2,b,O⟩:=J k Z au;exact⟨l2,b,aa _ _ _ O⟩
 ·intro j t k w L t' c' N b I Q Z ae af W e
  rcases hold j t' _ e with ⟨rfl,rfl,D⟩|D
  ·cases D
   rcases h.keep j t k w L I Q Z ae af with E|⟨av,w2,ah,ai,aj,ad,ak⟩
   ·exact .inl E
   ·rcases Nat.lt_or_eq_of_le aj with al|rfl
    ·exact .inr (.inl ⟨av,w2,ah,ai,al,ad,ak⟩)
    ·exact .inr (.inr (Qhu.2 (by rw[ad];simp)))
  ·exact h.kept j t k w L t' c' N b I Q Z ae af W D
 ·obtain⟨E,J,M,O⟩:=h.com j I
  exact⟨E,J,M,O.mono U (Nat.le_refl _)⟩
def G.stand(g:G)(i:Nat):G:=
 {g with term:=upd g.term i (g.term i+1),vote:=upd g.vote i none,role:=upd g.role i 0,CL:=upd g.CL i (upd (g.CL i) (g.term i+1) (some (g.full i)))}
theorem Inv.stand{g:G}(h:Inv g){i:Nat}(Y:i<g.n):Inv (g.stand i)/\Le g (g.stand i):=by
 obtain⟨D,aa⟩:=h.bump (i:=i) (t:=g.term i+1) Y (by omega);have ae:g.CL i (g.term i+1)=none:=by
  cases e:g.CL i (g.term i+1) with
  |none=>rfl
  |some l=>have:=(h.cl _ _ _ e).1;omega
 have U: ∀j t x,g.CL j t=some x->(g.stand i).CL j t=some x:=fun j t x e=>by
  show upd g.CL i _ j t=some x;by_cases hji:j=i
  ·subst hji
   rw[upd_same];by_cases htt:t=g.term j+1
   ·subst htt;rw[ae] at e;cases e
   ·rw[upd_ne _ _ htt];exact e
  ·rw[upd_ne _ _ hji];exact e
 have N:Le (g.bump i (g.term i+1)) (g.stand i):=⟨rfl,fun t w L e=>⟨L,e,List.prefix_refl _⟩,fun _ _=>Nat.le_refl _,fun _ _ _ e=>e,U⟩
 refine⟨⟨D.t1,D.ZG,fun t' w L Q=>⟨(D.tlog t' w L Q).1.mono N,(D.tlog t' w L Q).2⟩,?_,fun j O=>⟨(D.full j O).1.mono N,(D.full j O).2⟩,?_,D.vote,?_,?_,D.lead,D.ack,D.keep,D.kept,fun j O=> ?_⟩,aa.trans N⟩
 ·intro t w L Q
  rcases D.tel t w L Q with E|⟨E,Z,S,I,J⟩
  ·exact .inl E
  ·exact .inr ⟨E,Z,S,U _ _ _ I,J⟩
 ·intro j t c' Z b e
  obtain⟨E,I,J,l2,W,ab,ac⟩:=D.vr j t c' Z b e;exact⟨E,I,J,l2,U _ _ _ W,ab,ac.mono N⟩
 ·intro c t l e
  have M:upd g.CL i (upd (g.CL i) (g.term i+1) (some (g.full i))) c t=some l:=e;have hold:g.CL c t=some l->t<=(g.stand i).term c/\ZO (g.stand i) l/\ ∀e∈l,e.1<t:=fun e=>by
   obtain⟨E,I,J⟩:=D.cl c t l e;exact⟨E,I.mono N,J⟩
  by_cases hci:c=i
  ·subst hci
   rw[upd_same] at M;by_cases htt:t=g.term c+1
   ·subst htt
    rw[upd_same] at M
    cases M
    refine⟨?_,(h.full c Y).1.mono (aa.trans N),fun e ad=>Nat.lt_succ_of_le ((h.full c Y).2 e ad)⟩;show g.term c+1<=upd g.term c _ c;rw[upd_same];exact Nat.le_refl _
   ·rw[upd_ne _ _ htt] at M;exact hold M
  ·rw[upd_ne _ _ hci] at M;exact hold M
 ·intro j O af
  obtain⟨E,I,J⟩:=D.cand j O af;exact⟨U _ _ _ E,I,J⟩
 ·obtain⟨E,I,J,W⟩:=D.com j O
  exact⟨E,I,J,W.mono N (Nat.le_refl _)⟩
theorem QqI(g:G)(i:Nat):(g.stand i).term i=g.term i+1/\(g.stand i).vote i=none/\(g.stand i).role i=0/\(g.stand i).CL i (g.term i+1)=some (g.full i)/\(g.stand i).full =g.full:=
 ⟨upd_same _ _ _,upd_same _ _ _,upd_same _ _ _,by show upd g.CL i _ i _=_;rw[upd_same,upd_same],rfl⟩
def G.candidate(g:G)(i:Nat):G:={g with role:=upd g.role i 1,yes:=upd g.yes i (fun j=>j=i)}
theorem Inv.candidate{g:G}(h:Inv g){i:Nat}(Z:i<g.n)(Y:g.CL i (g.term i)=some (g.full i))(aa:g.vote i=some i)(W: ∀L,g.T (g.term i)≠some (i,L)):Inv (g.candidate i)/\Le g (g.candidate i):=by
 refine h.soft rfl rfl rfl rfl rfl rfl rfl rfl (fun j I J=> ?_) (fun j I J=> ?_) h.com
 ·have D:upd g.role i 1 j=1:=J
  by_cases hji:j=i
  ·subst hji
   refine⟨Y,fun k N M=> ?_,W⟩;have E:upd g.yes j (fun x=>x=j) j k:=M;rw[upd_same] at E;subst E;exact h.vote k k Z aa
  ·rw[upd_ne _ _ hji] at D
   obtain⟨O,Q,U⟩:=h.cand j I D;refine⟨O,fun k N M=>Q k N ?_,U⟩;have E:upd g.yes i (fun x=>x=i) j k:=M
   rwa [upd_ne _ _ hji] at E
 ·have D:upd g.role i 1 j=2:=J
  by_cases hji:j=i
  ·subst hji;rw[upd_same] at D;cases D
  ·rw[upd_ne _ _ hji] at D
   exact h.lead j I D
theorem Inv.fresh{g:G}(h:Inv g){i t:Nat}(I:i<g.n)(N:g.term i<t): ∀L,g.T t≠some (i,L):=by
 intro L D;have M:=h.Qfb I;rcases h.tel t i L D with J|⟨_,l,S,E,_⟩
 ·omega
 ·have:=(h.cl _ _ _ E).1
  omega
end Raft
namespace Raft
def G.grow(g:G)(i s:Nat)(m:Nat->Nat):G:=
 {g with T:=upd g.T (g.term i) (some (i,g.full i++[(g.term i,s)])),full:=upd g.full i (g.full i++[(g.term i,s)]),A:=upd g.A i (upd (g.A i) (g.term i) ((g.full i).length +1)),role:=upd g.role i 2,mtch:=upd g.mtch i m}
theorem QhS{p l:Log}{x:Nat×Nat}(h: ¬p <+: l)(I:p≠[])(J:tm p (p.length - 1)≠x.1): ¬p <+: l++[x]:=by
 intro D;have hlen:=D.length_le;rw[List.length_append,List.length_singleton] at hlen;have M:=List.length_pos_iff.2 I;rcases Nat.lt_or_ge l.length p.length with E|E
 ·apply J
  rw[Z7 D (by omega)];have:p.length - 1=l.length:=by omega
  rw[this];unfold tm;simp[List.getD_eq_getElem?_getD]
 ·exact h (Qc7 D (List.prefix_append _ _) E)
theorem Inv.grow{g:G}(h:Inv g){i s:Nat}{m:Nat->Nat}(aq:i<g.n)(aQ:g.T (g.term i)=none\/g.T (g.term i)=some (i,g.full i))
  (aA: ∃l S,g.CL i (g.term i)=some l/\g.full i++[(g.term i,s)]=l++S/\S≠[]/\(∀e∈S,e.1=g.term i)/\Z9 g.n (fun j=> ∃l',g.VR j (g.term i)=some (i,l',false)))
  (aN:g.A i (g.term i)<=(g.full i).length +1) (aV: ∀j,j<g.n->m j<=g.A j (g.term i)):Inv (g.grow i s m)/\Le g (g.grow i s m):=by
 have O:(g.grow i s m).T (g.term i)=some (i,g.full i++[(g.term i,s)]):=upd_same _ _ _;have Q: ∀t,t≠g.term i->(g.grow i s m).T t=g.T t:=fun t I=>upd_ne _ _ I
 have an:(g.grow i s m).full i=g.full i++[(g.term i,s)]:=upd_same _ _ _;have ah: ∀j,j≠i->(g.grow i s m).full j=g.full j:=fun j J=>upd_ne _ _ J
 have av:(g.grow i s m).A i (g.term i)=(g.full i).length +1:=by show upd g.A i _ i _=_;rw[upd_same,upd_same]
 have af: ∀j t,j≠i\/t≠g.term i->(g.grow i s m).A j t=g.A j t:=fun j t ad=>by
  show upd g.A i _ j t=_;by_cases hji:j=i
  ·subst hji
   rw[upd_same,upd_ne _ _ (ad.resolve_left (fun e=>e rfl))]
  ·rw[upd_ne _ _ hji]
 have ag: ∀t w L,g.T t=some (w,L)->t=g.term i->w=i/\L=g.full i:=fun t w L e aL=>by
  subst aL;rcases aQ with D|D
  ·rw[D] at e;cases e
  ·rw[D] at e;cases e;exact⟨rfl,rfl⟩
 have U:Le g (g.grow i s m):=by
  refine⟨rfl,fun t w L e=> ?_,fun j t=> ?_,fun _ _ _ e=>e,fun _ _ _ e=>e⟩
  ·by_cases I:t=g.term i
   ·obtain⟨rfl,rfl⟩:=ag t w L e I
    subst I;exact⟨_,O,List.prefix_append _ _⟩
   ·exact⟨L,by rw[Q t I];exact e,List.prefix_refl _⟩
  ·by_cases ad:j=i/\t=g.term i
   ·obtain⟨rfl,rfl⟩:=ad
    rw[av];exact aN
   ·rw[af j t (by by_cases J:j=i;exact .inr (fun e=>ad ⟨J,e⟩);exact .inl J)]
    exact Nat.le_refl _
 have aZ:=h.Qfb aq;have aB:ZO (g.grow i s m) (g.full i++[(g.term i,s)]):=by
  obtain⟨D,E⟩:=h.full i aq;refine⟨by simp,?_,fun k Y=> ?_⟩
  ·rw[List.pairwise_append]
   refine⟨D.2.1,by simp,fun a ap b az=> ?_⟩;rw[List.mem_singleton] at az;subst az;exact E a ap
  ·rw[List.length_append,List.length_singleton] at Y
   by_cases aa:k< (g.full i).length
   ·obtain⟨w,L,e1,aI⟩:=(D.mono U).2.2 k aa
    refine⟨w,L,?_,?_⟩
    ·rw[<-Z7 (List.prefix_append _ _) aa]
     exact e1
    ·rw[List.take_append_of_le_length (by omega)]
     exact aI
   ·have:k=(g.full i).length :=by omega
    subst this;refine⟨i,_,?_,rfl⟩;have:tm (g.full i++[(g.term i,s)]) (g.full i).length =g.term i:=by simp[tm,List.getD_eq_getElem?_getD]
    rw[this];exact O
 have ay: ∀e∈g.full i++[(g.term i,s)],e.1<=g.term i:=by
  intro e aT;rcases List.mem_append.1 aT with D|D
  ·exact (h.full i aq).2 e D
  ·rw[List.mem_singleton] at D;subst D;exact Nat.le_refl _
 have aW:g.term i≠1:=by
  intro e;obtain⟨l,S,aS,_⟩:=aA;obtain⟨D,E,M⟩:=h.cl _ _ _ aS;rw[e] at M;have aw:=List.length_pos_iff.2 E.1;have ac:=M _ (List.getElem_mem aw);obtain⟨w,L,aR,_⟩:=E.2.2 0 aw;have:=h.ZG _ _ _ aR;rw[ZU aw] at this;omega
 refine⟨⟨?_,?_,?_,?_,?_,?_,h.vote,?_,?_,?_,?_,?_,?_,?_⟩,U⟩
 ·rw[Q 1 (fun e=>aW e.symm)];exact h.t1
 ·intro t w L e
  by_cases I:t=g.term i
  ·omega
  ·rw[Q t I] at e;exact h.ZG t w L e
 ·intro t w L e
  by_cases I:t=g.term i
  ·subst I
   rw[O] at e
   cases e
   exact⟨aB,ay⟩
  ·rw[Q t I] at e
   exact⟨(h.tlog t w L e).1.mono U,(h.tlog t w L e).2⟩
 ·intro t w L e
  by_cases I:t=g.term i
  ·subst I
   rw[O] at e
   cases e
   exact .inr ⟨aq,aA⟩
  ·rw[Q t I] at e
   exact h.tel t w L e
 ·intro j J
  by_cases hji:j=i
  ·subst hji
   rw[an];exact⟨aB,ay⟩
  ·rw[ah j hji]
   exact⟨(h.full j J).1.mono U,(h.full j J).2⟩
 ·intro j t c l b e
  obtain⟨D,E,M,l2,ac,au,aM⟩:=h.vr j t c l b e;refine⟨D,E,fun aK=> ?_,l2,ac,au,aM.mono U⟩;by_cases I:t=g.term i
  ·subst I;rw[O];simp
  ·rw[Q t I];exact M aK
 ·intro c t l e
  obtain⟨D,E,M⟩:=h.cl c t l e;exact⟨D,E.mono U,M⟩
 ·intro j J ax
  have ae:upd g.role i 2 j=1:=ax;by_cases hji:j=i
  ·subst hji;rw[upd_same] at ae;cases ae
  ·rw[upd_ne _ _ hji] at ae
   obtain⟨D,E,M⟩:=h.cand j J ae;rw[ah j hji];refine⟨D,E,fun L e=> ?_⟩;have e:(g.grow i s m).T (g.term j)=some (j,L):=e;by_cases I:g.term j=g.term i
   ·rw[I,O] at e
    cases e
    exact hji rfl
   ·rw[Q _ I] at e
    exact M L e
 ·intro j J ax
  have ae:upd g.role i 2 j=2:=ax;show (g.grow i s m).T (g.term j)=_/\(∀k,k<g.n->upd g.mtch i m j k<=(g.grow i s m).A k (g.term j))/\_<=(g.grow i s m).A j (g.term j);by_cases hji:j=i
  ·subst hji
   rw[an,O,av,upd_same];exact⟨rfl,fun k Y=>Nat.le_trans (aV k Y) (U.A _ _),by simp⟩
  ·rw[upd_ne _ _ hji] at ae
   obtain⟨D,E,M⟩:=h.lead j J ae;have I:g.term j≠g.term i:=by
    intro e;have:=(ag _ _ _ D e).1;exact hji this
   rw[Q _ I,ah j hji,upd_ne _ _ hji];exact⟨D,fun k Y=>Nat.le_trans (E k Y) (U.A _ _),Nat.le_trans M (U.A _ _)⟩
 ·intro j t J ap
  by_cases ad:j=i/\t=g.term i
  ·obtain⟨rfl,rfl⟩:=ad
   exact⟨Nat.le_refl _,_,_,O,by rw[av];simp⟩
  ·rw[af j t (by by_cases J:j=i;exact .inr (fun e=>ad ⟨J,e⟩);exact .inl J)] at ap ⊢
   obtain⟨D,w,L,E,M⟩:=h.ack j t J ap;obtain⟨aF,ac,au⟩:=U.T _ _ _ E;exact⟨D,w,aF,ac,Nat.le_trans M au.length_le⟩
 ·
  have aC: ∀(t:Nat) (P:Log) (j:Nat),P≠[]->tm P (P.length - 1)=t->(∃N w2 W,t<N/\N<=g.term j/\g.T N=some (w2,W)/\ ¬P <+: W)-> ∃N w2 W,t<N/\N<=g.term j/\(g.grow i s m).T N=some (w2,W)/\ ¬P <+: W:=by
   intro t P j aO aP ⟨N,w2,W,aj,ak,al,am⟩;by_cases ht2:N=g.term i
   ·obtain⟨rfl,rfl⟩:=ag N w2 W al ht2
    subst ht2;exact⟨_,_,_,aj,ak,O,QhS am aO (by rw[aP];show t≠g.term _;omega)⟩
   ·exact⟨N,w2,W,aj,ak,by rw[Q _ ht2];exact al,am⟩
  intro j t k w L J e Y Z ai;by_cases I:t=g.term i
  ·subst I
   rw[O] at e
   cases e
   by_cases hji:j=i
   ·subst hji
    rw[an];exact .inl (List.take_prefix _ _)
   ·rw[af j _ (.inl hji)] at Z
    obtain⟨_,w,L,E,M⟩:=h.ack j (g.term i) J (by omega);obtain⟨rfl,rfl⟩:=ag _ _ _ E rfl;have aa:k<=(g.full w).length :=by omega
    rw[List.take_append_of_le_length aa];have aE:tm (g.full w) (k - 1)=g.term w:=by rw[Z7 (List.prefix_append _ [(g.term w,s)]) (by omega)];exact ai
    rw[ah j hji];rcases h.keep j _ k w _ J E Y Z aE with D|D
    ·exact .inl D
    ·exact .inr (aC _ _ j (by
      intro e;have:=congrArg List.length e;rw[List.length_take,List.length_nil] at this;omega) (by rw[List.length_take,Nat.min_eq_left aa,Z8 (by omega)];exact aE) D)
  ·rw[Q t I] at e
   rw[af j t (.inr I)] at Z;have aa:k<=L.length:=by
    obtain⟨_,aY,aG,E,M⟩:=h.ack j t J (by omega);rw[e] at E
    cases E
    omega
   rcases h.keep j t k w L J e Y Z ai with D|D
   ·refine .inl ?_
    by_cases hji:j=i
    ·subst hji
     rw[an];exact D.trans (List.prefix_append _ _)
    ·rw[ah j hji];exact D
   ·exact .inr (aC _ _ j (by
      intro e;have:=congrArg List.length e;rw[List.length_take,List.length_nil] at this;omega) (by rw[List.length_take,Nat.min_eq_left aa,Z8 (by omega)];exact ai) D)
 ·
  intro j t k w L t' c l b J e Y Z ai aX ar;have ar:g.VR j t'=some (c,l,b):=ar;have hold: ∀(ab:Log) (ao:Nat),g.T t=some (ao,ab)->k<=g.A j t->k<=ab.length->L.take k=ab.take k->tm ab (k - 1)=t->L.take k <+: l\/(∃t'' w'' L'',t<t''/\t''<t'/\(g.grow i s m).T t''=some (w'',L'')/\ ¬L.take k <+: L'')\/b=true:=by
   intro ab ao aH aU aa aJ aD;rw[aJ];rcases h.kept j t k ao ab t' c l b J aH Y aU aD aX ar with D|⟨N,w2,W,aj,ak,al,am⟩|D
   ·exact .inl D
   ·refine .inr (.inl ?_)
    by_cases ht2:N=g.term i
    ·obtain⟨rfl,rfl⟩:=ag N w2 W al ht2
     subst ht2;refine⟨_,_,_,aj,ak,O,QhS am ?_ ?_⟩
     ·intro e
      have:=congrArg List.length e;rw[List.length_take,List.length_nil] at this;omega
     ·rw[List.length_take,Nat.min_eq_left aa,Z8 (by omega),aD]
      show t≠g.term _;omega
    ·exact⟨N,w2,W,aj,ak,by rw[Q _ ht2];exact al,am⟩
   ·exact .inr (.inr D)
  by_cases I:t=g.term i
  ·subst I
   rw[O] at e
   cases e
   by_cases hji:j=i
   ·subst hji
    have:=(h.vr _ _ _ _ _ ar).1;omega
   ·rw[af j _ (.inl hji)] at Z
    obtain⟨_,ao,ab,E,M⟩:=h.ack j (g.term i) J (by omega);obtain⟨rfl,rfl⟩:=ag _ _ _ E rfl;exact hold _ _ E Z (by omega) (List.take_append_of_le_length (by omega)) (by rw[Z7 (List.prefix_append _ [(g.term ao,s)]) (by omega)];exact ai)
  ·rw[Q t I] at e
   rw[af j t (.inr I)] at Z;obtain⟨_,aY,aG,E,M⟩:=h.ack j t J (by omega);rw[e] at E
   cases E
   exact hold _ _ e Z (by omega) rfl ai
 ·intro j J
  obtain⟨D,E,M,ac⟩:=h.com j J;show 1<=g.bi j/\g.bi j<=g.commit j/\g.commit j<=((g.grow i s m).full j).length /\Com (g.grow i s m) (g.term j) (((g.grow i s m).full j).take (g.commit j));by_cases hji:j=i
  ·subst hji
   rw[an,List.length_append,List.take_append_of_le_length M];exact⟨D,E,by omega,ac.mono U (Nat.le_refl _)⟩
  ·rw[ah j hji]
   exact⟨D,E,M,ac.mono U (Nat.le_refl _)⟩
end Raft
namespace Raft
theorem Inv.QkF{g:G}(h:Inv g){c t:Nat}{l:Log}(M:g.CL c t=some l):t≠1:=by
 intro e;obtain⟨N,E,I⟩:=h.cl _ _ _ M;rw[e] at I;have D:=List.length_pos_iff.2 E.1;have O:=I _ (List.getElem_mem D);obtain⟨w,L,J,_⟩:=E.2.2 0 D;have:=h.ZG _ _ _ J;rw[ZU D] at this;omega
theorem Inv.QcV{g:G}(h:Inv g){i:Nat}(s:Nat)(N:i<g.n)(ac:g.role i=1)(Y:Z9 g.n (g.yes i)):g.T (g.term i)=none/\Inv (g.grow i s (fun _=>0))/\Le g (g.grow i s (fun _=>0)):=by
 obtain⟨Q,U,aa⟩:=h.cand i N ac;have ab:=h.QkF Q;have J:g.T (g.term i)=none:=by
  cases e:g.T (g.term i) with
  |none=>rfl
  |
   some x=>
   obtain⟨w,L⟩:=x;rcases h.tel _ w L e with D|⟨_,l,S,_,_,_,_,E⟩
   ·exact absurd D ab
   ·obtain⟨j,I,O,ad,M⟩:=Y.meet E
    obtain⟨l2,b,Z⟩:=U j I O;rw[M] at Z
    cases Z
    exact absurd e (aa L)
 refine⟨J,h.grow N (.inl J) ⟨g.full i,_,Q,rfl,by simp,fun e W=>by rw[List.mem_singleton] at W;rw[W],Y.mono (fun j I O=> ?_)⟩ ?_ (fun j I=>Nat.zero_le _)⟩
 ·obtain⟨l2,b,M⟩:=U j I O
  cases b with
  |false=>exact⟨l2,M⟩
  |true=>exact absurd J ((h.vr _ _ _ _ _ M).2.2.1 rfl)
 ·rcases Nat.eq_zero_or_pos (g.A i (g.term i)) with D|D
  ·omega
  ·obtain⟨_,w,L,E,_⟩:=h.ack i _ N D
   rw[J] at E
   cases E
theorem Inv.QeU{g:G}(h:Inv g){i:Nat}(s:Nat)(J:i<g.n)(W:g.role i=2):Inv (g.grow i s (g.mtch i))/\Le g (g.grow i s (g.mtch i)):=by
 obtain⟨D,N,Y⟩:=h.lead i J W;refine h.grow J (.inr D) ?_ ?_ N
 ·rcases h.tel _ _ _ D with E|⟨_,l,S,I,M,Z,O,Q⟩
  ·rw[E,h.t1] at D
   simp only[Option.some.injEq,Prod.mk.injEq] at D;omega
  ·refine⟨l,S++[(g.term i,s)],I,by rw[M,List.append_assoc],by simp,fun e U=> ?_,Q⟩
   rcases List.mem_append.1 U with h|h
   ·exact O e h
   ·rw[List.mem_singleton] at h;rw[h]
 ·rcases Nat.eq_zero_or_pos (g.A i (g.term i)) with E|E
  ·omega
  ·obtain⟨_,w,L,I,M⟩:=h.ack i _ J E
   rw[D] at I
   cases I
   omega
theorem ZO.take{g:G}{L:Log}(h:ZO g L){e:Nat}(E:1<=e)(I:e<=L.length):ZO g (L.take e):=by
 refine⟨fun D=> ?_,h.2.1.sublist (List.take_sublist _ _),fun k hk=> ?_⟩
 ·have:=congrArg List.length D
  rw[List.length_take,List.length_nil] at this;omega
 ·rw[List.length_take] at hk
  rw[Z8 (by omega),List.take_take,Nat.min_eq_left (by omega)];exact h.2.2 k (by omega)
theorem Qe1{g:G}{l m:Log}(h:ZO g l)(J:ZO g m){k:Nat}(M:k<l.length)(N:k<m.length)(O:tm l k=tm m k):l.take (k+1)=m.take (k+1):=by
 obtain⟨w,L,e1,D⟩:=h.2.2 k M;obtain⟨w',Q,E,I⟩:=J.2.2 k N;rw[O,E] at e1
 cases e1
 rw[D,I]
def G.append(g:G)(i:Nat)(F:Log)(e c:Nat):G:=
 {g with full:=upd g.full i F,A:=upd g.A i (upd (g.A i) (g.term i) (max (g.A i (g.term i)) e)),role:=upd g.role i 0,commit:=upd g.commit i (max (g.commit i) c)}
theorem Inv.append{g:G}(h:Inv g){i w:Nat}{L F:Log}{e c:Nat}(az:i<g.n)(O:g.T (g.term i)=some (w,L))(ax:1<=e)(ay:e<=L.length)(aw:c<=e)(av:Com g (g.term i) (L.take c))
  (ag:(F=g.full i/\L.take e <+: g.full i)\/(F=L.take e/\ ¬L.take e <+: g.full i)):Inv (g.append i F e c)/\Le g (g.append i F e c):=by
 have al:(g.append i F e c).full i=F:=upd_same _ _ _;have ad: ∀j,j≠i->(g.append i F e c).full j=g.full j:=fun j D=>upd_ne _ _ D
 have ai:(g.append i F e c).A i (g.term i)=max (g.A i (g.term i)) e:=by show upd g.A i _ i _=_;rw[upd_same,upd_same]
 have ac: ∀j t,j≠i\/t≠g.term i->(g.append i F e c).A j t=g.A j t:=fun j t Q=>by
  show upd g.A i _ j t=_;by_cases hji:j=i
  ·subst hji
   rw[upd_same,upd_ne _ _ (Q.resolve_left (fun e=>e rfl))]
  ·rw[upd_ne _ _ hji]
 have J:Le g (g.append i F e c):=by
  refine⟨rfl,fun t w L e=>⟨L,e,List.prefix_refl _⟩,fun j t=> ?_,fun _ _ _ e=>e,fun _ _ _ e=>e⟩;by_cases Q:j=i/\t=g.term i
  ·obtain⟨rfl,rfl⟩:=Q
   rw[ai];exact Nat.le_max_left _ _
  ·rw[ac j t (by by_cases D:j=i;exact .inr (fun e=>Q ⟨D,e⟩);exact .inl D)]
   exact Nat.le_refl _
 obtain⟨ar,au⟩:=h.tlog _ _ _ O;have aj:L.take e <+: F:=by
  rcases ag with ⟨rfl,E⟩|⟨rfl,_⟩
  ·exact E
  ·exact List.prefix_refl _
 have aI:F <+: L\/F=g.full i:=by
  rcases ag with ⟨rfl,_⟩|⟨rfl,_⟩
  ·exact .inr rfl
  ·exact .inl (List.take_prefix _ _)
 have an: ∀P:Log,P <+: g.full i->P <+: L->P <+: F:=by
  intro P E I;rcases ag with ⟨rfl,_⟩|⟨rfl,U⟩
  ·exact E
  ·refine QoI I ?_
   rcases Nat.lt_or_ge e P.length with M|M
   ·exfalso
    apply U;refine List.IsPrefix.trans (Qc7 (List.take_prefix _ _) I ?_) E;rw[List.length_take];omega
   ·exact M
 refine⟨⟨h.t1,h.ZG,fun t' w L O=>⟨(h.tlog t' w L O).1.mono J,(h.tlog t' w L O).2⟩,h.tel,?_,?_,h.vote,?_,?_,?_,?_,?_,?_,?_⟩,J⟩
 ·intro j D
  by_cases hji:j=i
  ·subst hji
   rw[al];rcases ag with ⟨rfl,_⟩|⟨rfl,_⟩
   ·exact⟨(h.full j D).1.mono J,(h.full j D).2⟩
   ·exact⟨(ar.take ax ay).mono J,fun x aC=>au x (List.mem_of_mem_take aC)⟩
  ·rw[ad j hji]
   exact⟨(h.full j D).1.mono J,(h.full j D).2⟩
 ·intro j t c l b e
  obtain⟨E,I,U,l2,M,af,ao⟩:=h.vr j t c l b e;exact⟨E,I,U,l2,M,af,ao.mono J⟩
 ·intro c t l e
  obtain⟨E,I,U⟩:=h.cl c t l e;exact⟨E,I.mono J,U⟩
 ·intro j D am
  have W:upd g.role i 0 j=1:=am;by_cases hji:j=i
  ·subst hji;rw[upd_same] at W;cases W
  ·rw[upd_ne _ _ hji] at W
   rw[ad j hji];exact h.cand j D W
 ·intro j D am
  have W:upd g.role i 0 j=2:=am;by_cases hji:j=i
  ·subst hji;rw[upd_same] at W;cases W
  ·rw[upd_ne _ _ hji] at W
   obtain⟨E,I,U⟩:=h.lead j D W;rw[ad j hji];exact⟨E,fun k aa=>Nat.le_trans (I k aa) (J.A _ _),Nat.le_trans U (J.A _ _)⟩
 ·intro j t D ap
  by_cases Q:j=i/\t=g.term i
  ·obtain⟨rfl,rfl⟩:=Q
   refine⟨Nat.le_refl _,_,_,O,?_⟩;rw[ai];rcases Nat.eq_zero_or_pos (g.A j (g.term j)) with M|M
   ·omega
   ·obtain⟨_,w,L,af,ao⟩:=h.ack j _ az M
    rw[O] at af
    cases af
    omega
  ·rw[ac j t (by by_cases D:j=i;exact .inr (fun e=>Q ⟨D,e⟩);exact .inl D)] at ap ⊢
   exact h.ack j t D ap
 ·intro j t k ab Y D N aa Z ae
  replace N:g.T t=some (ab,Y):=N;by_cases hji:j=i
  ·subst hji
   rw[al];show _\/ ∃t' w' L',t<t'/\t'<=g.term j/\g.T t'=some (w',L')/\ ¬Y.take k <+: L';by_cases ht:t=g.term j
   ·subst ht
    rw[O] at N
    cases N
    rw[ai] at Z;rcases Nat.lt_or_ge e k with E|E
    ·rcases h.keep j _ k _ _ D O aa (by omega) ae with I|⟨aK,w2,aD,aE,aF,aG,aH⟩
     ·exact .inl (an _ I (List.take_prefix _ _))
     ·omega
    ·exact .inl ((Qcc L E).trans aj)
   ·rw[ac j t (.inr ht)] at Z
    rcases h.keep j t k ab Y D N aa Z ae with E|E
    ·by_cases hPL:Y.take k <+: L
     ·exact .inl (an _ E hPL)
     ·have:=(h.ack j t D (by omega)).1
      exact .inr ⟨_,_,_,by omega,Nat.le_refl _,O,hPL⟩
    ·exact .inr E
  ·rw[ad j hji]
   rw[ac j t (.inl hji)] at Z;exact h.keep j t k ab Y D N aa Z ae
 ·intro j t k ab Y t' c' l b D N aa Z ae aB ah
  have N:g.T t=some (ab,Y):=N;have ah:g.VR j t'=some (c',l,b):=ah;by_cases Q:j=i/\t=g.term i
  ·obtain⟨rfl,rfl⟩:=Q
   have:=(h.vr _ _ _ _ _ ah).1;omega
  ·rw[ac j t (by by_cases D:j=i;exact .inr (fun e=>Q ⟨D,e⟩);exact .inl D)] at Z
   exact h.kept j t k ab Y t' c' l b D N aa Z ae aB ah
 ·intro j D
  obtain⟨E,I,U,M⟩:=h.com j D;show 1<=g.bi j/\g.bi j<=upd g.commit i (max (g.commit i) c) j/\upd g.commit i (max (g.commit i) c) j<=((g.append i F e c).full j).length /\Com (g.append i F e c) (g.term j) (((g.append i F e c).full j).take (upd g.commit i (max (g.commit i) c) j));by_cases hji:j=i
  ·subst hji
   rw[al,upd_same];have aA:=h.QbV M O (Nat.le_refl _);have aq:=an _ (List.take_prefix _ _) aA;have aJ:g.commit j<=F.length:=by
    have:=aq.length_le;rw[List.length_take] at this;omega
   have hlen2:e<=F.length:=by
    have:=aj.length_le;rw[List.length_take] at this;omega
   refine⟨E,by omega,by omega,?_⟩;rcases Nat.le_total c (g.commit j) with ak|ak
   ·rw[Nat.max_eq_left ak]
    have:F.take (g.commit j)=(g.full j).take (g.commit j):=by
     have:=Qat aq (k:=g.commit j) (by rw[List.length_take];omega);rw[<-this,List.take_take,Nat.min_self]
    rw[this];exact M.mono J (Nat.le_refl _)
   ·rw[Nat.max_eq_right ak]
    have:F.take c=L.take c:=by
     have:=Qat aj (k:=c) (by rw[List.length_take];omega);rw[<-this,List.take_take,Nat.min_eq_left aw]
    rw[this];exact av.mono J (Nat.le_refl _)
  ·rw[ad j hji,upd_ne _ _ hji]
   exact⟨E,I,U,M.mono J (Nat.le_refl _)⟩
end Raft
namespace Go.Acre.Crc
def poly:Nat:=3988292384
def L(x:Nat):Nat:=if x%2=1 then (x/2) ^^^ poly else x/2
def Lk:Nat->Nat->Nat
 |0,x=>x
 |n+1,x=>Lk n (L x)
theorem Qr8(x y:Nat):(x ^^^ y)%2=(x%2+y%2)%2:=by
 have:=Nat.xor_mod_two_pow (a:=x) (b:=y) (n:=1);simp only[Nat.pow_one] at this;rw[this];rcases Nat.mod_two_eq_zero_or_one x with h|h<;>rcases Nat.mod_two_eq_zero_or_one y with h'|h'<;>rw[h,h']<;>rfl
theorem Qr7(x y:Nat):(x ^^^ y)/2=(x/2) ^^^ (y/2):=by
 have:=Nat.shiftRight_xor_distrib (a:=x) (b:=y) (i:=1)
 simpa [Nat.shiftRight_eq_div_pow] using this
theorem QjD(x y:Nat):L (x ^^^ y)=L x ^^^ L y:=by
 unfold L;rw[Qr8,Qr7];rcases Nat.mod_two_eq_zero_or_one x with h|h<;>rcases Nat.mod_two_eq_zero_or_one y with h'|h'<;>rw[h,h']<;>simp
 ·rw[Nat.xor_assoc]
 ·rw[Nat.xor_assoc,Nat.xor_assoc,Nat.xor_comm poly]
 ·rw[show x/2 ^^^ poly ^^^ (y/2 ^^^ poly)=(x/2 ^^^ y/2) ^^^ (poly ^^^ poly) from by
   rw[Nat.xor_assoc,Nat.xor_assoc,<-Nat.xor_assoc poly,Nat.xor_comm poly (y/2),Nat.xor_assoc]]
  simp
theorem QjJ(n:Nat): ∀x y,Lk n (x ^^^ y)=Lk n x ^^^ Lk n y:=by
 induction n with
 |zero=>intro x y;rfl
 |succ n ih=>intro x y;simp only[Lk];rw[QjD,ih]
theorem QjC(x:Nat):L (2*x)=x:=by
 unfold L;rw[if_neg (by omega)];omega
theorem QjI(n x:Nat):Lk n (2^n*x)=x:=by
 induction n generalizing x with
 |zero=>simp[Lk]
 |
  succ n ih=>
  simp only[Lk];rw[show 2^(n+1)*x=2*(2^n*x) from by rw[Nat.pow_succ,Nat.mul_comm (2^n) 2,Nat.mul_assoc],QjC,ih]
theorem QjA{x:Nat}(h:x<4294967296):L x<4294967296:=by
 unfold L;split
 ·exact Nat.xor_lt_two_pow (n:=32) (by omega) (by decide)
 ·omega
theorem Qfz(n:Nat): ∀{x:Nat},x<4294967296->Lk n x<4294967296:=by
 induction n with
 |zero=>intro x h;exact h
 |succ n ih=>intro x h;exact ih (QjA h)
def T(x b:Nat):Nat:=(x/256) ^^^ Lk 8 ((x%256) ^^^ b)
theorem QqB(x:Nat):x=(256*(x/256)) ^^^ (x%256):=by
 have h:256*(x/256)+x%256=x:=Nat.div_add_mod x 256;have E:=Nat.two_pow_add_eq_or_of_lt (i:=8) (b:=x%256) (by omega) (x/256);have D:2^8*(x/256) ^^^ x%256=2^8*(x/256)+x%256:=by
  rw[Nat.two_pow_add_eq_or_of_lt (by omega)];apply Nat.eq_of_testBit_eq;intro i;simp only[Nat.testBit_xor,Nat.testBit_or,Nat.testBit_two_pow_mul];by_cases hi:8<=i
  ·have:(x%256).testBit i=false:=Nat.testBit_lt_two_pow (Nat.lt_of_lt_of_le (show x%256<2^8 by omega) (Nat.pow_le_pow_right (by omega) hi))
   simp[this]
  ·simp[hi]
 simp only[show (2:Nat)^8=256 from rfl] at D;rw[D];omega
theorem QjZ(x b:Nat):T x b=Lk 8 (x ^^^ b):=by
 unfold T;have D:Lk 8 (x ^^^ b)=Lk 8 (2^8*(x/256)) ^^^ Lk 8 ((x%256) ^^^ b):=by
  rw[<-QjJ,<-Nat.xor_assoc];rw[show (2:Nat)^8*(x/256)=256*(x/256) from rfl,<-QqB]
 rw[D,QjI]
def R(x c:Nat):Nat:=if (x ^^^ c)%2=1 then (x/2) ^^^ poly else x/2
def crc:Nat->List Nat->Nat
 |x,[]=>x
 |x,b::l=>crc (T x b) l
theorem Qge(x:Nat)(l m:List Nat):crc x (l++m)=crc (crc x l) m:=by
 induction l generalizing x with
 |nil=>rfl
 |cons b l ih=>exact ih _
theorem Qcy{l:List Nat}(D: ∀b∈l,b<256): ∀{x:Nat},x<4294967296->crc x l<4294967296:=by
 induction l with
 |nil=>intro x h;exact h
 |
  cons b l ih=>
  intro x h;refine ih (fun c E=>D c (List.mem_cons_of_mem _ E)) ?_
  rw[QjZ];have I:=D b (by simp);exact Qfz 8 (Nat.xor_lt_two_pow (n:=32) (by omega) (by omega))
def val:List Nat->Nat
 |[]=>0
 |b::l=>b ^^^ (256*val l)
def sum(l:List Nat):Nat:=crc 4294967295 l ^^^ 4294967295
theorem sum_lt{l:List Nat}(D: ∀b∈l,b<256):sum l<4294967296:=
 Nat.xor_lt_two_pow (n:=32) (Qcy D (by decide)) (by decide)
end Go.Acre.Crc
