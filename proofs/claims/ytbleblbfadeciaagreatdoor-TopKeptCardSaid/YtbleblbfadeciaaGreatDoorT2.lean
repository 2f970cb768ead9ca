/- For TopKept. -/
import Derived.Test.YtbleblbfadeciaaGreatDoorLc
import Derived.Test.YtbleblbfadeciaaGreatDoorRa
set_option linter.all false
set_option maxHeartbeats 16000000
set_option maxRecDepth 10000
namespace Go.Proofs.YtbleblbfadeciaaGreatDoor
variable{A ab:Array Value}{zs zt:List Int}{b cap g i k m n:Nat}{S:Nat->Prop}{v:Value}{w:World}
section
open Go.RowKit Go.Acre
theorem QfO{a:Option Addr}{l L:List En}(h:QA w (.slice a n cap) i l)(ai:k<=l.length){b:Option Addr}{c':Nat}(Z:QA w (.slice b m c') (i+k) L)(ak:0<L.length)(aA:k+L.length<=100000):
  ∃X c,(ApC #[45,45] 45 #[.slice a k k,.slice b m c']).run Tryz.prog w= .ok (.slice (some ⟨w.heap.size,0,none⟩) (k+m) c) (w.drew.alloc (.cells X 116))/\
   (w.drew.alloc (.cells X 116)).ownsRow 0 116 24 (.slice (some ⟨w.heap.size,0,none⟩) (k+m) c) (l.take k++L).length (Qs i (l.take k++L))/\(l.take k++L).length =k+m:=by
 obtain⟨W,M,Q,J,U⟩:=info_parts QcL;obtain⟨az,ap,aq,D,aw,ax,ay,aa⟩:=Z;simp only[Value.slice.injEq] at D;obtain⟨rfl,rfl,rfl⟩:=D;obtain⟨aC,ao,cc,D,au,av,Y,ab⟩:=h;simp only[Value.slice.injEq] at D;obtain⟨rfl,rfl,rfl⟩:=D;have ag:Qs (i+k) L≠[]:=by
  intro e;have:=Q5 L (i+k);rw[e,List.length_nil] at this;omega
 obtain⟨g,o,rfl,ae⟩:=aa ag;have N: ∀j v,(Qs (i+k) L)[j]? =some v->w.cell? ((⟨g,o,none⟩:Addr).add j)=some v:=fun j v D=>by
  rw[Addr.add_mid,ae j (List.getElem?_eq_some_iff.1 D).1];exact D
 have E:(l.take k).length =k:=by rw[List.length_take];omega
 have hlen:(l.take k++L).length =k+L.length:=by rw[List.length_append,E]
 have al:k+L.length<=maxLen:=by unfold maxLen;omega
 have am:Qs i (l.take k++L)=Qs i (l.take k)++Qs (i+k) L:=by rw[QbX,E]
 have O: ∀old,(w.drew.alloc (.cells ((Qs i (l.take k)).toArray ++(Qs (i+k) L).toArray ++Builtin.zeroCells (Value.agg QG).cells (grownCap w (k+L.length) old 116 - (k+L.length))) 116)).ownsRow 0 116 24 (.slice (some ⟨w.heap.size,0,none⟩) (k+L.length) (grownCap w (k+L.length) old 116)) (l.take k++L).length (Qs i (l.take k++L)):=by
  intro old;have ah:=grownCap_ge w (k+L.length) old 116;have af:=grownCap_le_maxLen w (k+L.length) old 116 al;refine⟨by rw[Q5],.inr ⟨w.heap.size,_,_,by rw[hlen],Zz _,heap_alloc_new w.drew _,by rw[hlen];exact ah,af,?_,?_⟩⟩
  ·have an:(Value.agg QG).cells.size =24:=rfl
   simp only[Array.size_append,List.size_toArray,size_zeroCells,an,Q5,E];omega
  ·rw[hlen,am]
   have e:(k+L.length)*24=(Qs i (l.take k)++Qs (i+k) L).length :=by rw[List.length_append,Q5,Q5,E];omega
   rw[e];simp only[Array.toList_append];exact List.take_left
 cases a with
 |
  none=>
  have aB:=Y rfl;have aj:k=0:=by omega
  subst aj;have I:=run_append_nil (P:=Tryz.prog) w 45 45 116 W (.agg QG) Tryz.underlying45 M Q ⟨g,o,none⟩ L.length c' (Qs (i+0) L) (by rw[Q5,J]) N ak (by omega) (by rw[U];omega);refine⟨_,grownCap w (0+L.length) 0 116,?_,O 0,hlen⟩;rw[ApG] at I;rw[I];simp[Qs]
 |
  some ad=>
  have holds: ∀j v,(Qs i (l.take k))[j]? =some v->w.cell? (ad.add j)=some v:=by
   intro j v D;rw[<-QgJ l i k ai] at D;rw[List.getElem?_take] at D;split at D
   ·obtain⟨ar,aD,e,ac⟩:=ab (by intro e;rw[e] at D;simp at D)
    simp only[Option.some.injEq] at e;subst e;rw[Addr.add_mid,ac j (List.getElem?_eq_some_iff.1 D).1];exact D
   ·cases D
  have I:=run_append_grow (P:=Tryz.prog) w 45 45 116 W (.agg QG) Tryz.underlying45 M Q ad k k (Qs i (l.take k)) (by rw[Q5,E,J]) holds ⟨g,o,none⟩ L.length c' (Qs (i+k) L) (by rw[Q5,J]) N (by omega) (by omega) (growslice_fits (by omega) (by rw[U];omega));exact⟨_,_,I,O k,hlen⟩
theorem Qa3{t:TypeId}(h:w.heap[b]? =some (.cells ab t (0,0)))(I:ab.size=A.size)(D:A.all (·.oneCell')=true):(StC ⟨b,0,none⟩ A.toList).run Tryz.prog w= .ok () (w.setRow b A):=by
 have:=run_storeCells_at Tryz.prog b 0 t A.toList 0 ab w h (by simp;omega) (fun v E=>Array.all_eq_true_iff_forall_mem.1 D v (by simpa using E));rw[ScG] at this;rw[this]
 congr 2
 apply Array.ext';simp;omega
theorem Qde(w:World)(E:A.size=24)(D:A.all (·.oneCell')=true):(StC ⟨w.heap.size,0,none⟩ A.toList).run Tryz.prog (w.alloc (.cells #[.int .u64 0,.int .u64 0,.int .i64 0,.int .i64 0,.int .i64 0,.int .u64 0,.int .u64 0,.int .i64 0,.string ⟨#[]⟩,.string ⟨#[]⟩,.string ⟨#[]⟩,.bool false,.string ⟨#[]⟩,.int .u64 0,.int .i64 0,.string ⟨#[]⟩,.string ⟨#[]⟩,.int .i64 0,.bool false,.int .i64 0,.string ⟨#[]⟩,.int .i64 0,.int .i64 0,.slice none 0 0] 116))= .ok () ((w.alloc (.cells QG 116)).setRow w.heap.size A):=
 Qa3 (Qf (w:=w) (.cells QG 116)) (by rw[E];rfl) D
theorem Qdv(w:World)(A:Array Value):((w.alloc (.cells QG 116)).setRow w.heap.size A).heap[w.heap.size]? =some (.cells A 116 (0,0)):=Xr _ _ A (Qf (w:=w) (.cells QG 116))
theorem Qdw{a:World}(h:Qa S a w)(A:Array Value):Qa S a ((w.alloc (.cells QG 116)).setRow w.heap.size A):=
 QL (h.alloc (.cells QG 116)) (g:=w.heap.size) (fun D=>by have:=h.size;omega) A
end
section
open Go.RowKit Go.Acre
attribute [local go_sem ↓] LcG ScG ApG
attribute [local go_sem] Sc1 Sc2 Sc3 Lc2 Lc3
attribute [local simp] QH
section
variable {w:World} {S:Nat->Prop} {p n bi bt:Nat} {l:List En} {mv ev:Value} {mg:Nat}
def KE(bi:Nat)(l:List En)(idx:Nat):Nat:=if bi+l.length<idx then bi+l.length else if idx<=bi then bi else idx - 1
theorem QpB(h:Q4 w S p n bi bt l mv ev mg){a:Option Addr}{m cap D t:Nat}{L:List En}(U:QA w (.slice a m cap) D L)(ah:1<=t)(aa:XP t L)(ag:D+L.length<=100000)(ab:t<=1000000/\ ∀e∈L,e.1<=1000000)
  (Q:D<bi-> ∀k (al:k<L.length),D+k+1=bi->L[k].1=bt) (Y:ZH bi bt l D t=false):
  Calls Tryz.prog 102 #[.pointer (some ⟨p,0,none⟩),.int .u64 D,.int .u64 t,.slice a m cap] w (Qk (.tuple #[.int .u64 (KE bi l D:Nat),.int .u64 0,.bool false]) w):=by
 have Z:=Zh (K8 h);have I:=Zh (QfK h U ah aa ag ab Q);rw[Y] at I;have H:=Zh h;have ak:=h.fit;clear h U aa ab Q Y;go_enter Tryz.func102,Tryz.ntmps102;go_wp2_with fail;refine Z.out.mono ?_
 rintro e w' ⟨rfl,rfl⟩;go_wp2_with fail;refine I.out.mono ?_
 rintro e an ⟨rfl,M⟩;have E:=Zh (H.out.Qc M);have O:=Zh M;have W:=Zh (last_any E.out);clear M I Z H;go_wp2_with fail;refine W.out.mono ?_
 rintro e w2 ⟨rfl,N⟩;have ac:=Zh (E.out.Qc N);have J:=Zh (O.out.trans N (fun _ _ f=>f));clear N W E O;obtain⟨ai,aj,_,_,_⟩:=cells5 ac.out.row;have ad:lastOf bi l=bi+l.length:=rfl;rw[ad];by_cases h1:bi+l.length<D
 ·have ae:((bi+l.length:Nat):Int)< (D:Int):=by omega
  have e:KE bi l D=bi+l.length:=by unfold KE;rw[if_pos h1]
  generalize bi+l.length=x at*
  go_wp2_with fail;refine bodyPost_ret (v:=.tuple #[.int .u64 x,.int .u64 0,.bool false]) ?_ rfl ⟨by rw[e],J.out⟩
  simp[results,Tryz.results102]
 ·have ae: ¬((bi+l.length:Nat):Int)< (D:Int):=by omega
  by_cases h2:D<=bi
  ·have af:(D:Int)<=bi:=by omega
   have e:KE bi l D=bi:=by unfold KE;rw[if_neg h1,if_pos h2]
   generalize bi+l.length=x at*
   go_wp2_with fail;refine bodyPost_ret (v:=.tuple #[.int .u64 bi,.int .u64 0,.bool false]) ?_ rfl ⟨by rw[e],J.out⟩
   simp[results,Tryz.results102]
  ·have af: ¬(D:Int)<=bi:=by omega
   have e:KE bi l D=D - 1:=by unfold KE;rw[if_neg h1,if_neg h2]
   have am:IntKind.u64.wrap ((D:Int) - 1)=((D - 1:Nat):Int):=by rw[IntWalk.u64_in _ (by omega)];omega
   generalize D - 1=y at*
   generalize bi+l.length=x at*
   go_wp2_with fail;refine bodyPost_ret (v:=.tuple #[.int .u64 y,.int .u64 0,.bool false]) ?_ rfl ⟨by rw[e],J.out⟩
   simp[results,Tryz.results102]
def KH(bi bt:Nat)(l:List En)(idx:Nat)(L:List En)(j:Nat):Prop:=bi<idx+j+1/\ ∀t',Qu bi bt l (idx+j+1)=some t'->t'≠(L.getD j (0,0)).1
theorem QbI{bi bt:Nat}{l:List En}{x t:Nat}(h:Qu bi bt l x=some t):bi<=x/\x<=bi+l.length:=by
 unfold Qu at h;split at h
 ·omega
 ·split at h
  ·cases e:l[x - bi - 1]? with
   |none=>rw[e] at h;cases h
   |some y=>have:=(List.getElem?_eq_some_iff.1 e).1;omega
  ·cases h
theorem QmT{bi bt:Nat}{l:List En}{D t:Nat}{L:List En}{k:Nat}(E:ZH bi bt l D t=true)(N: ∀j,j<k-> ¬KH bi bt l D L j)(O:bi<D+k+1):D+k<=bi+l.length:=by
 by_cases I:k=0\/D+k<=bi
 ·rcases I with rfl|I
  ·unfold ZH at E
   split at E
   ·exact (QbI (by simpa using E)).2
   ·omega
  ·omega
 ·have J:=N (k - 1) (by omega)
  unfold KH at J;have M:bi<D+(k - 1)+1:=by omega
  cases e:Qu bi bt l (D+(k - 1)+1) with
  |none=>exact absurd ⟨M,fun t' h=>by rw[e] at h;cases h⟩ J
  |some t'=>have:=(QbI e).2;omega
def QjR(S:Nat->Prop)(p n bi bt:Nat)(l:List En)(idx:Nat)(L:List En)(w:World)(e:Ending)(w':World):Prop:=
 (∃k,k<L.length/\KH bi bt l idx L k/\(∀j,j<k-> ¬KH bi bt l idx L j)/\Qae (.tuple #[.int .u64 ((idx+L.length:Nat):Int),.int .u64 ((idx+k+1:Nat):Int),.bool true]) S p n bi bt (l.take (idx+k - bi)++L.drop k) w e w')\/
 ((∀j,j<L.length-> ¬KH bi bt l idx L j)/\e= .returned (.tuple #[.int .u64 ((idx+L.length:Nat):Int),.int .u64 0,.bool true])/\Qa Ze w w')
theorem Qpz{w w8:World}(D:Q4 w8 S p n bi bt l mv ev mg)(Z:Qa Ze w w8){E c I:Nat}{M:List En}(W:w8.ownsRow 0 116 24 (.slice (some ⟨E,0,none⟩) I c) M.length (Qs bi M))(O:mg<E/\p<E/\w.heap.size<=E)(U:bi+M.length<=100000):
  ∃S' mv ev mg,Q4 (w8.setCell ⟨p,3,none⟩ (.slice (some ⟨E,0,none⟩) I c)) S' p n bi bt M mv ev mg/\(∀i,S' i->S i\/w.heap.size<=i)/\Qa S w (w8.setCell ⟨p,3,none⟩ (.slice (some ⟨E,0,none⟩) I c)):=by
 obtain⟨aa,ab,Q⟩:=O;have Y:=Qi (o:=3) D.row (.slice (some ⟨E,0,none⟩) I c);have N:Qa (fun i=>i=p) w8 (w8.setCell ⟨p,3,none⟩ (.slice (some ⟨E,0,none⟩) I c)):=XG (Zr (fun i=>i=p) w8) p 3 _ (fun _=>rfl);refine⟨fun i=>S i\/i=E,mv,_,mg,⟨by simpa using Y,D.mem.upd N D.pm,?_,.inl D.sp,.inl D.sm,D.pm,?_,⟨U,D.fit.2.1,D.fit.2.2⟩⟩,?_,?_⟩
 ·refine Q3 W N (fun k J=> ?_)
  simp only[Value.ownBlock,Option.some.injEq] at J;omega
 ·intro k J
  simp only[Value.ownBlock,Option.some.injEq] at J;subst J;exact⟨.inr rfl,by omega,by omega⟩
 ·rintro i (h|rfl)
  ·exact .inl h
  ·exact .inr Q
 ·exact (Z.mono (fun _ _ f=>f.elim)).trans N (fun i _ e=>e▸D.sp)
theorem QpF(h:Q4 w S p n bi bt l mv ev mg){a:Option Addr}{m cap D t:Nat}{L:List En}(Z:QA w (.slice a m cap) D L)(bE:1<=t)(aX:XP t L)(bo:D+L.length<=100000)(az:t<=1000000/\ ∀e∈L,e.1<=1000000)
  (aO:D<bi-> ∀k (bp:k<L.length),D+k+1=bi->L[k].1=bt) (aA:ZH bi bt l D t=true):
  Calls Tryz.prog 102 #[.pointer (some ⟨p,0,none⟩),.int .u64 D,.int .u64 t,.slice a m cap] w (QjR S p n bi bt l D L w):=by
 have bz:m=L.length:=by
  obtain⟨_,_,ad,_⟩:=Z.slice;simp only[Value.slice.injEq] at ad;exact ad.2.1
 subst bz;have aV:=Zh (K8 h);have ai:=Zh (QfK h Z bE aX bo az aO);rw[aA] at ai;have H:=Zh h;have aE:=Zh Z;have ba:=Zh az.2;have bb:=Zh aA;have bU:=h.fit;have b0:IntKind.u64.wrap (L.length:Int)=L.length:=IntWalk.u64_in _ (by omega);have b1:IntKind.u64.wrap ((D:Int)+(L.length:Int))=(D:Int)+(L.length:Int):=IntWalk.u64_in _ (by omega);clear h Z aX az aO aA;go_enter Tryz.func102,Tryz.ntmps102;go_wp2_with fail;refine aV.out.mono ?_
 rintro e w' ⟨rfl,rfl⟩;go_wp2_with fail;refine ai.out.mono ?_
 rintro e bP ⟨rfl,ab⟩;have ae:=Zh (H.out.Qc ab);have Q:=Zh (aE.out.Qc ab);have al:=Zh ab;clear ab ai aV H aE;go_wp2_with fail;go_loopw [8,58] (fun bO x wr=> ∃k:Nat,bO= .int .u64 ((D+L.length:Nat):Int)/\x= .int .i64 k/\k<=L.length/\(∀j,j<k-> ¬KH bi bt l D L j)/\Qa Ze bP wr) (fun _ x _=>L.length - (intOf x).toNat)
 case atStart=>exact⟨0,by go_num,rfl,by omega,fun j N=>by omega,Zr _ _⟩
 case round=>
  obtain⟨k,rfl,rfl,bp,aP,E⟩:=hrel;have M:=Zh aP;clear aP;by_cases hlt:k<L.length
  ·have bw:(k:Int)< (L.length:Int):=by omega
   have bV:(0:Int)<=k:=by omega
   obtain⟨g,o,rfl,aY⟩:=(Q.out.Qc E).range hlt;have bX:=ba.out L[k] (List.getElem_mem hlt);have aS:(L.getD k (0,0)).1=L[k].1:=by simp[hlt]
   have aG:=Zh aS;have bv:=W3 aY (ZJ (D+k+1) L[k].1 L[k].2);have aJ:=Wt (D+k+1) L[k].1 L[k].2;have aK:=Qbm (D+k+1) L[k].1 L[k].2;have a9:=Zh (ZJ (D+k+1) L[k].1 L[k].2);have a8:=Zh (Z3 (D+k+1) L[k].1 L[k].2);have ak:=Zh E;clear aY E aS;generalize Qh (D+k+1) L[k].1 L[k].2=A at*
   generalize L[k].1=J at*
   have a4:=Zh aJ;have a5:=Zh aK;have aZ:=a9.out;have bD:=Qde wr aZ a8.out;have bZ:wr.heap.size≠p:=by have:=Ql (ae.out.Qc ak.out).row;omega
   clear aJ aK;go_upto_region 14 with fail
   have aw:=Qdv wr A;have W:=Zh (Qdw ak.out A);clear bv bD aZ ak;generalize (wr.alloc (.cells QG 116)).setRow wr.heap.size A=w3 at*
   generalize wr.heap.size=eb at*
   have ao:=Qb aw 0;have ap:=Qb aw 1;rw[a4.out] at ao;rw[a5.out] at ap;clear aw;have af:=Zh (ae.out.Qc W.out);obtain⟨bd,be,_,_,_⟩:=cells5 af.out.row;by_cases hb:bi<D+k+1
   rotate_left
   ·have bj:((D+k+1:Nat):Int)<=(bi:Int):=by omega
    generalize hy:D+k+1=y at*
    go_quiet (fail);go_wp2_with fail;exact⟨⟨k+1,rfl,by go_num,by omega,fun j N=>by
     rcases Nat.lt_or_eq_of_le (Nat.le_of_lt_succ N) with h|rfl
     ·exact M.out j h
     ·rintro⟨h,_⟩
      omega,W.out.drewN _⟩,by simp[intOf];omega⟩
   ·have bj: ¬((D+k+1:Nat):Int)<=(bi:Int):=by omega
    have bW:=QmT bb.out M.out hb;generalize hy:D+k+1=y at*
    go_quiet (fail);go_upto_region 15 with fail
    have aI:=Zh (W.out.drewN nq);have ag:=Zh (af.out.Qc ((Zr Ze w3).drewN nq));have aL:=Qe ((Zr Ze w3).drewN nq) ao (fun f=>f);have e1:=Qe ((Zr Ze w3).drewN nq) ap (fun f=>f);have aH:=Zh (Qa7 ag.out y (by omega));clear W af ao ap bd be;generalize w3.drewN nq=w4 at*
    go_wp2_with fail;refine aH.out.mono ?_
    rintro e w5 ⟨rfl,O⟩;have am:=Zh (aI.out.trans O (fun _ _ f=>f));have ah:=Zh (ag.out.Qc O);have a1:=Qe O aL (fun f=>f);have bL:=Qe O e1 (fun f=>f);clear O aH aI ag aL e1;have bm:Qu bi bt l y=some J\/ ∃(x:Nat) (b:Bool),XT (Qu bi bt l y)= .tuple #[.int .u64 (x:Int),.bool b]/\(b=false\/b=true/\x≠J)/\ ∀t',Qu bi bt l y=some t'->t'≠J:=by
     cases hta:Qu bi bt l y with
     |none=>exact .inr ⟨0,false,rfl,.inl rfl,fun t' h=>by cases h⟩
     |
      some t'=>
      by_cases htt:t'=J
      ·exact .inl (by rw[htt])
      ·exact .inr ⟨t',true,rfl,.inr ⟨rfl,htt⟩,fun b4 h=>by cases h;exact htt⟩
    rcases bm with a0|⟨x,b,aW,bk,aQ⟩
    ·rw[a0]
     unfold XT;simp only[Option.getD_some,Option.isSome_some];go_wp2_with fail;exact⟨⟨k+1,rfl,by go_num,by omega,fun j N=>by
      rcases Nat.lt_or_eq_of_le (Nat.le_of_lt_succ N) with h|rfl
      ·exact M.out j h
      ·rintro⟨_,h⟩
       rw[hy] at h;exact h J a0 aG.out.symm,am.out⟩,by simp[intOf];omega⟩
    ·rw[aW]
     have a6:=Zh (show KH bi bt l D L k from ⟨by omega,fun t' h=>by rw[aG.out];rw[hy] at h;exact aQ t' h⟩);clear aW aQ;obtain⟨bM,bN,_,_,_⟩:=cells5 ah.out.row;have bF:IntKind.u64.wrap ((y:Int) - (bi:Int))=(y:Int) - (bi:Int):=IntWalk.u64_in _ (by omega);have bG:IntKind.u64.wrap ((y:Int) - (bi:Int) - 1)=((y - bi - 1:Nat):Int):=by rw[IntWalk.u64_in _ (by omega)];omega
     have bH:IntKind.i64.wrap ((y - bi - 1:Nat):Int)=((y - bi - 1:Nat):Int):=IntWalk.i64_in _ (by omega);have aU:y - bi - 1=D+k - bi:=by omega
     have bu:y - bi - 1<=l.length:=by omega
     have aj:=Zh aU;clear aU;generalize y - bi - 1=kp at*
     rcases bk with rfl|⟨rfl,b2⟩
     case' inr=>
      have b3: ¬(x:Int)=J:=by omega
     all_goals
      go_upto_region 17 with fail
      go_quiet (fail);go_upto_region 18 with fail
      have ay:=(Zr Ze w5).drewN nq;have I:=Zh (ah.out.Qc ay);have an:=Zh (am.out.trans ay (fun _ _ f=>f));have a2:=Qe ay a1 (fun f=>f);clear ah am a1 bL bM bN bF bG bH;generalize w5.drewN nq=w6 at*
      obtain⟨aq,ar,bn,bT,bY⟩:=I.out.Qq.slice;subst bn;obtain⟨g',o',aT,ax⟩:=(Q.out.Qc an.out).sub (k:=k) (m:=L.length - k) hlt (Zf _);simp only[Option.some.injEq,Addr.mk.injEq,and_true] at aT;obtain⟨rfl,rfl⟩:=aT;rw[List.take_of_length_le (by rw[List.length_drop];omega)] at ax;have aC:Hid (∀w',Qa Ze w6 w'->Calls Tryz.prog 108 #[.slice (some ⟨g,o+k*24,none⟩) (L.length - k) (cap - k)] w' (Wg (D+k) (L.drop k) w')):=Zh (fun w' E=>WR (ax.Qc E) (by rw[List.length_drop];omega));have bS:L.length<=cap:=by
       obtain⟨_,_,ad,aM,_⟩:=Q.out.slice;simp only[Value.slice.injEq] at ad;omega
      have bA: ¬cap=k:=by omega
      have bq:(k:Int)<=L.length:=by omega
      have br:(L.length:Int)<=cap:=by omega
      have bs:(k:Int)<=cap:=by omega
      have bB:(0:Int)<=kp:=by omega
      have bC:(kp:Int)<=ar:=by omega
      have aF:Hid (QA w6 (.slice aq l.length ar) bi l):=Zh I.out.Qq;have U:Hid (∀w',Qa Ze w6 w'->w'.cell? ⟨p,3,none⟩=some (.slice aq l.length ar)/\w'.frozen? ⟨p,3,none⟩=false):=Zh (fun w' E=>⟨(cells5 (I.out.Qc E).row).2.2.2.1,(WX (I.out.Qc E).row).2.2.2.1⟩);have aD:Hid (∀w',Qa Ze w6 w'-> ∀g7,w'.heap[g7]? =some (.cells (Qs (D+k) (L.drop k)).toArray 116 (0,0))-> ∃b8 c w8,(ApC #[45,45] 45 #[.slice aq kp kp,.slice (some ⟨g7,0,none⟩) (L.length - k) (L.length - k)]).run Tryz.prog w'= .ok (.slice (some ⟨b8,0,none⟩) (kp+(L.length - k)) c) w8/\
        w8.ownsRow 0 116 24 (.slice (some ⟨b8,0,none⟩) (kp+(L.length - k)) c) (l.take kp++L.drop k).length (Qs bi (l.take kp++L.drop k))/\w'.heap.size<=b8/\Qa Ze w' w8):=Zh (fun w' E g7 hg7=>by
       have e:bi+kp=D+k:=by have:=aj.out;omega
       have aa:(L.drop k).length =L.length - k:=List.length_drop;obtain⟨X,c,aM,Y,av⟩:=QfO (L:=L.drop k) (m:=L.length - k) (b:=some ⟨g7,0,none⟩) (c':=L.length - k) (aF.out.Qc E) bu (by
        rw[e];refine⟨by rw[Q5],some ⟨g7,0,none⟩,L.length - k,by rw[aa],by rw[aa];exact Zf _,by unfold maxLen;omega,(fun e=>by cases e),fun _=>⟨g7,0,rfl,fun j N=> ?_⟩⟩;rw[Nat.zero_add,Qb hg7 j];simp) (by rw[aa];omega) (by rw[aa];omega)
       exact⟨_,c,_,aM,Y,Zf _,((Zr Ze w').drew).alloc _⟩)
      obtain⟨bK,au⟩:=U.out _ ((Zr Ze w6).drew);go_region_with (go_at_call 108;refine (aC.out _ ((Zr Ze w6).drew)).mono ?_;rintro e w7 ⟨g7,rfl,hg7,hr7,hu7⟩;obtain⟨b8,c8,w8,hap,hown8,hb8,hu8⟩:=aD.out w7 ((Zr Ze w6).drew.trans hu7 (fun _ _ f=>f)) g7 hr7;obtain⟨p7,f7⟩:=U.out _ ((Zr Ze w6).drew.trans hu7 (fun _ _ f=>f));obtain⟨p8,f8⟩:=U.out w8 ((((Zr Ze w6).drew.trans hu7 (fun _ _ f=>f))).trans hu8 (fun _ _ f=>f)))
      all_goals
       clear hap bK au p7 f7 bA bq br bs bB bC;have ac:=(((Zr Ze w6).drew.trans hu7 (fun _ _ f=>f))).trans hu8 (fun _ _ f=>f);have aB:=I.out.Qc ac;have aR:=Qpz aB ((al.out.trans an.out (fun _ _ f=>f)).trans ac (fun _ _ f=>f)) hown8 ⟨by
        obtain⟨_,_,_,_,_,_,bx⟩:=I.out.mem;have Y:=World.block_lt_of_cell? _ _ (bx 0 (by omega));have av:=hu7.size;have aN:=(Zr Ze w6).drew.size;simp only at Y;omega,by
        have Y:=Ql I.out.row;have av:=hu7.size;have aN:=(Zr Ze w6).drew.size;omega,by
        have av:=hu7.size;have aN:=(Zr Ze w6).drew.size;have bQ:=al.out.size;have bR:=an.out.size;omega⟩ (by rw[List.length_append,List.length_take,List.length_drop];have:=aj.out;omega)
       have a7:=Zh aR;have a3:=Qe ac a2 (fun f=>f);clear aR aB hown8 ac hu8 hu7 p8 f8 a2;have b5:(w8.setCell ⟨p,3,none⟩ (.slice (some ⟨b8,0,none⟩) (kp+(L.length - k)) c8)).cell? ⟨eb,0,none⟩=some (.int .u64 y):=by
        rw[World.cell?_setCell_other _ _ _ _ (by simp)];exact a3
       generalize w8.setCell ⟨p,3,none⟩ (.slice (some ⟨b8,0,none⟩) (kp+(L.length - k)) c8)=w9 at*
       clear aC aF U aD ax Q ae I a3;go_upto_region 19 with fail
       go_quiet (fail);go_wp2_with fail;obtain⟨bc,bJ,ev',bI,bg,bh,au⟩:=a7.out;refine bodyPost_ret (v:=.tuple #[.int .u64 ((D:Int)+(L.length:Int)),.int .u64 y,.bool true]) ?_ rfl (.inl ⟨k,hlt,a6.out,M.out,?_⟩)
       ·simp[results,Tryz.results102]
       ·rw[<-aj.out,hy]
        exact⟨by go_num,bc,bJ,ev',bI,bg.Qc ((Zr Ze w9).drewN _),bh,au.drewN _⟩
  ·have bw: ¬(k:Int)< (L.length:Int):=by omega
   obtain rfl:k=L.length:=by omega
   go_wp2_with fail;refine bodyPost_ret (v:=.tuple #[.int .u64 ((D:Int)+(L.length:Int)),.int .u64 0,.bool true]) ?_ rfl (.inr ⟨M.out,by go_num,al.out.trans E (fun _ _ f=>f)⟩)
   simp[results,Tryz.results102]
end
end
section
open Go.RowKit Go.Acre
attribute [local go_sem ↓] LcG ScG
attribute [local go_sem] Sc1 Sc2 Sc3 Lc2 Lc3
attribute [local simp] QH
theorem Qjl(bi bt:Nat)(v:Value)(D:1<=bi):Calls Tryz.prog 156 #[QC bi bt v] w (Qk (.bool false) w):=by
 have E: ¬(bi:Int)=0:=by omega
 unfold QC;go_enter Tryz.func156,Tryz.ntmps156;go_wp2_with fail;go_ret;exact⟨rfl,(Zr _ w).alloc _⟩
theorem QhK(bi bt:Nat)(h:QD w v n g)(I:1<=bi)(aa:1<=bt):Calls Tryz.prog 143 #[QC bi bt v] w (Qk (.bool true) w):=by
 obtain⟨cap,rfl,ae,af,ag,ah,Z⟩:=h;have ai:(0:Int)< (bi:Int):=by omega
 have al:(0:Int)< (bt:Int):=by omega
 have aj:(0:Int)< (n:Int):=by omega
 have ak:0<n:=by omega
 have Q:Hid (∀w',Calls Tryz.prog 156 #[QC bi bt (.slice (some ⟨g,0,none⟩) n cap)] w' (Qk (.bool false) w')):=Zh (fun w'=>Qjl bi bt _ I);clear Z I aa;unfold QC at*
 go_enter Tryz.func143,Tryz.ntmps143;go_upto_region 1 with fail
 have J:=(Zr Ze w).alloc (.cells #[.int .u64 bi,.int .u64 bt,.slice (some ⟨g,0,none⟩) n cap] 44);have M:=Qf (w:=w) (.cells #[.int .u64 bi,.int .u64 bt,.slice (some ⟨g,0,none⟩) n cap] 44);have E:=Zh M;have N:=Zh J;clear J M;obtain⟨U,W,Y,_,_,_⟩:=cells3 E.out;generalize w.alloc (.cells #[.int .u64 bi,.int .u64 bt,.slice (some ⟨g,0,none⟩) n cap] 44)=w1 at*
 generalize w.heap.size=b at*
 go_wp2_with fail;refine (Q.out _).mono ?_
 rintro e w2 ⟨rfl,D⟩;have O:=Zh (N.out.trans D (fun _ _ f=>f));obtain⟨ab,ac,ad,_,_,_⟩:=cells3 (D.keep E.out (fun f=>f));clear D U W Y;go_wp2_with fail;go_ret;exact⟨rfl,O.out⟩
def QfB(n bi bt:Nat)(l:List En)(w:World)(e:Ending)(w':World):Prop:=
 ∃S p mv ev mg,e= .returned (.tuple #[.pointer (some ⟨p,0,none⟩),.int .i64 0])/\Q4 w' S p n bi bt l mv ev mg/\(∀i,S i->w.heap.size<=i)/\Qa Ze w w'
theorem new_any(bi bt:Nat)(h:QD w v n g){a:Option Addr}{l:List En}(J:QA w (.slice a m cap) bi l)(ai:1<=bi)(an:1<=bt)(am:XP bt l)(aK:bi+l.length<=100000)(ad:bt<=1000000/\ ∀e∈l,e.1<=1000000):
  Calls Tryz.prog 79 #[QC bi bt v,.slice a m cap] w (QfB n bi bt l w):=by
 have aQ:=Zh h;have aP:=Zh J;have ag:Hid (∀w',Qa Ze w w'->Calls Tryz.prog 143 #[QC bi bt v] w' (Qk (.bool true) w')):=Zh (fun w' D=>QhK bi bt (h.upd D (fun f=>f)) ai an);have av:Hid (∀w',Qa Ze w w'->Calls Tryz.prog 144 #[.int .u64 bi,.int .u64 bt,.slice a m cap] w' (Qk (.bool true) w')):=Zh (fun w' D=>Qef (J.Qc D) an am (by omega) ad);have ah:Hid (∀w',Qa Ze w w'->Calls Tryz.prog 106 #[QC bi bt v] w' (KV bi bt n w')):=Zh (fun w' D=>QeP bi bt (h.upd D (fun f=>f)));have au:Hid (∀w',Qa Ze w w'->Calls Tryz.prog 108 #[.slice a m cap] w' (Wg bi l w')):=Zh (fun w' D=>WR (J.Qc D) (by omega));have aO:=ad.1;obtain⟨E,aN⟩: ∃E,v= .slice (some ⟨g,0,none⟩) n E:=⟨h.choose,h.choose_spec.1⟩
 subst aN;clear h J am ad;unfold QC at ag ah ⊢;go_enter Tryz.func79,Tryz.ntmps79;go_upto_region 1 with fail
 have D:=(Zr Ze w).alloc (.cells #[.int .u64 bi,.int .u64 bt,.slice (some ⟨g,0,none⟩) n E] 44);have aq:=Qf (w:=w) (.cells #[.int .u64 bi,.int .u64 bt,.slice (some ⟨g,0,none⟩) n E] 44);have U:=Zh aq;have M:=Zh D;clear D aq;obtain⟨aC,aD,aE,_,_,_⟩:=cells3 U.out;generalize w.alloc (.cells #[.int .u64 bi,.int .u64 bt,.slice (some ⟨g,0,none⟩) n E] 44)=w1 at*
 generalize w.heap.size=b at*
 go_wp2_with fail;refine (ag.out _ M.out).mono ?_
 rintro e w2 ⟨rfl,aa⟩;have N:=Zh (M.out.trans aa (fun _ _ f=>f));have W:=Zh (aa.keep U.out (fun f=>f));obtain⟨aF,aG,aH,_,_,_⟩:=cells3 W.out;clear aa aC aD aE U M;go_wp2_with fail;refine (av.out _ N.out).mono ?_
 rintro e aX ⟨rfl,ab⟩;have O:=Zh (N.out.trans ab (fun _ _ f=>f));have aB:=Zh (ab.keep W.out (fun f=>f));obtain⟨aI,e1,aJ,_,_,_⟩:=cells3 aB.out;clear ab aF aG aH W N;go_wp2_with fail;refine (ah.out _ O.out).mono ?_
 rintro e ar ⟨ae,Y,rfl,al,aj,ao⟩;have Q:=Zh (O.out.trans ao (fun _ _ f=>f));have af:=Zh al;have aw:=Zh (Zt O.out.size aj);clear ao al aj aI e1 aJ;unfold QC;go_wp2_with fail;refine (au.out _ Q.out).mono ?_
 rintro e w5 ⟨I,rfl,aU,Z,ac⟩;have aA:=Zh (Q.out.trans ac (fun _ _ f=>f));have ay:=Zh (af.out.upd ac (fun f=>f));have az:=Zh Z;have aW:=Ql Z;have ax:Hid (Y<ar.heap.size):=Zh (by
  obtain⟨_,_,_,_,_,_,aL⟩:=af.out;have:=World.block_lt_of_cell? _ _ (aL 0 (by omega))
  simpa using this)
 clear ac Z;go_wp2_with fail;go_ret2;have aM:=Qf (w:=w5) (.cells #[.int .u64 bi,.int .u64 bt,ae,.slice (some ⟨I,0,none⟩) l.length l.length,.bool true] 189);have ap:=(Zr Ze w5).alloc (.cells #[.int .u64 bi,.int .u64 bt,ae,.slice (some ⟨I,0,none⟩) l.length l.length,.bool true] 189);have aR:=ax.out;have aV:=Q.out.size;have aS:ar.heap.size<=w5.heap.size:=by omega
 refine⟨fun i=>i=w5.heap.size\/i=Y\/i=I,w5.heap.size,ae,.slice (some ⟨I,0,none⟩) l.length l.length,Y,rfl,⟨aM,ay.out.upd ap (fun f=>f),?_,.inl rfl,.inr (.inl rfl),by omega,?_,⟨aK,aO,ai⟩⟩,?_,aA.out.alloc _⟩
 ·refine⟨by rw[Q5],.inr ⟨I,l.length,(Qs bi l).toArray,rfl,Zz _,ap.keep az.out (fun f=>f),Zf _,by unfold maxLen;omega,by simp[Q5],?_⟩⟩
  rw[List.take_of_length_le (by simp[Q5])]
 ·intro k ak
  simp only[Value.ownBlock,Option.some.injEq] at ak;subst ak;exact⟨.inr (.inr rfl),by omega,by omega⟩
 ·have aT:=aw.out
  rintro i (rfl|rfl|rfl)<;>omega
def Q1(bi bt:Nat)(l:List En)(i t:Nat):List En:=if Qu bi bt l i=some t then l.drop (i - bi) else []
theorem QaG(w:World)(a:Option Addr)(c i:Nat)(h:a=none->c=0)(D:c<=maxLen):QA w (.slice a 0 c) i []:=
 ⟨rfl,a,c,rfl,Zz _,D,h,fun E=>absurd rfl E⟩
section
variable {w:World} {S:Nat->Prop} {p n bi bt:Nat} {l:List En} {mv ev:Value} {mg:Nat}
theorem Qdd{w ac w5:World}(N:Q4 ac S p n bi bt l mv ev mg){i t:Nat}{I:List En}{E ev':Value}{D:Nat}(Z:w5.heap[p]? =some (.cells #[.int .u64 bi,.int .u64 bt,mv,ev,.bool true] 189 (0,0)))(Y:QD w5 E n D)
  (Q:w5.ownsRow 0 116 24 ev' I.length (Qs i I)) (O: ∀k,ev'.ownBlock=some k->w.heap.size<=k) (ad:p<D) (W:w.heap.size<=D) (J: ∀k,ev'.ownBlock=some k->k<D/\k≠p) (ab:Qa Ze w w5) (U:i+I.length<=100000/\t<=1000000/\1<=i):
  ∃S' mv ev mg,Q4 ((((w5.setCell ⟨p,0,none⟩ (.int .u64 i)).setCell ⟨p,1,none⟩ (.int .u64 t)).setCell ⟨p,2,none⟩ E).setCell ⟨p,3,none⟩ ev') S' p n i t I mv ev mg/\(∀j,S' j->S j\/w.heap.size<=j)/\Qa S w ((((w5.setCell ⟨p,0,none⟩ (.int .u64 i)).setCell ⟨p,1,none⟩ (.int .u64 t)).setCell ⟨p,2,none⟩ E).setCell ⟨p,3,none⟩ ev'):=by
 have aa:=Qi (o:=3) (Qi (o:=2) (Qi (o:=1) (Qi (o:=0) Z (.int .u64 i)) (.int .u64 t)) E) ev';have M:Qa (fun j=>j=p) w5 ((((w5.setCell ⟨p,0,none⟩ (.int .u64 i)).setCell ⟨p,1,none⟩ (.int .u64 t)).setCell ⟨p,2,none⟩ E).setCell ⟨p,3,none⟩ ev'):=
  XG (XG (XG (XG (Zr (fun j=>j=p) w5) p 0 _ (fun _=>rfl)) p 1 _ (fun _=>rfl)) p 2 _ (fun _=>rfl)) p 3 _ (fun _=>rfl)
 refine⟨fun j=>S j\/j=D\/ev'.ownBlock=some j,E,ev',D,⟨by simpa using aa,Y.upd M (by omega),Q3 Q M (fun k hk=>(J k hk).2),.inl N.sp,.inr (.inl rfl),by omega,fun k hk=>⟨.inr (.inr hk),(J k hk).2,by have:=(J k hk).1;omega⟩,U⟩,?_,?_⟩
 ·rintro j (h|rfl|h)
  ·exact .inl h
  ·exact .inr W
  ·exact .inr (O j h)
 ·exact (ab.mono (fun _ _ f=>f.elim)).trans M (fun i _ e=>e▸N.sp)
theorem QpR(h:Q4 w S p n bi bt l mv ev mg){v:Value}{g i t:Nat}(aE:QD w v n g)(bO:g≠p)(bP:bi<=i)(bD:1<=t)(bN:i<=100000/\t<=1000000):
  Calls Tryz.prog 100 #[.pointer (some ⟨p,0,none⟩),QC i t v] w (Qae (.int .i64 0) S p n i t (Q1 bi bt l i t) w):=by
 have bM:=h.fit;have bd:Hid (∀w',Qa Ze w w'->Calls Tryz.prog 143 #[QC i t v] w' (Qk (.bool true) w')):=Zh (fun w' M=>QhK i t (aE.upd M (fun f=>f)) (by omega) bD);have bj:Hid (∀w',Calls Tryz.prog 156 #[QC i t v] w' (Qk (.bool false) w')):=Zh (fun w'=>Qjl i t v (by omega));have ay:Hid (∀w',Qa Ze w w'->Calls Tryz.prog 106 #[QC i t v] w' (KV i t n w')):=Zh (fun w' M=>QeP i t (aE.upd M (fun f=>f)));obtain⟨av,aL⟩: ∃av,v= .slice (some ⟨g,0,none⟩) n av:=⟨aE.choose,aE.choose_spec.1⟩
 subst aL;have H:=Zh h;have bJ: ¬(i:Int)< (bi:Int):=by omega
 have bK: ¬i<bi:=by omega
 clear h aE;unfold QC at bd bj ay ⊢;go_enter Tryz.func100,Tryz.ntmps100;go_upto_region 1 with fail
 have M:=(Zr Ze w).alloc (.cells #[.int .u64 i,.int .u64 t,.slice (some ⟨g,0,none⟩) n av] 44);have a6:=Qf (w:=w) (.cells #[.int .u64 i,.int .u64 t,.slice (some ⟨g,0,none⟩) n av] 44);have aB:=Zh a6;have aU:=Zh M;have aH:=Zh (H.out.Qc M);clear M a6;generalize w.alloc (.cells #[.int .u64 i,.int .u64 t,.slice (some ⟨g,0,none⟩) n av] 44)=w1 at*
 generalize w.heap.size=b at*
 have aJ:=Zh (K8 aH.out);have ax:Hid (∀w',Qa Ze w1 w'->(w'.cell? ⟨b,0,none⟩=some (.int .u64 i)/\w'.cell? ⟨b,1,none⟩=some (.int .u64 t)/\w'.cell? ⟨b,2,none⟩=some (.slice (some ⟨g,0,none⟩) n av))/\w'.cell? ⟨p,0,none⟩=some (.int .u64 bi)):=Zh (fun w' M=>⟨⟨(cells3 (M.keep aB.out (fun f=>f))).1,(cells3 (M.keep aB.out (fun f=>f))).2.1,(cells3 (M.keep aB.out (fun f=>f))).2.2.1⟩,(cells5 (aH.out.Qc M).row).1⟩);go_wp2_with fail;refine aJ.out.mono ?_
 rintro e w' ⟨rfl,rfl⟩;go_upto_region 3 with fail
 go_cut [26] (fun bE bF=>bE= .bool false/\Qa Ze w1 bF)
 case first=>
  have U:=(Zr Ze w1).drew;obtain⟨⟨aV,aW,aX⟩,bk⟩:=ax.out _ U;go_region_with (first
   |(go_at_call 143;refine (bd.out _ (aU.out.trans U (fun _ _ f=>f))).mono ?_;rintro e Z ⟨rfl,ab⟩;obtain⟨⟨d0,d1,d2⟩,d3⟩:=ax.out _ (U.trans ab (fun _ _ f=>f)))
   |(go_at_call 156;refine (bj.out _).mono ?_;rintro e aw ⟨rfl,Y⟩;obtain⟨⟨e0,e1,e2⟩,e3⟩:=ax.out _ ((U.trans ab (fun _ _ f=>f)).trans Y (fun _ _ f=>f))))
  all_goals
   go_wp2_with fail;go_meet
   case rel=>exact⟨rfl,(U.trans ab (fun _ _ f=>f)).trans Y (fun _ _ f=>f)⟩
 case rest=>
  obtain⟨rfl,aF⟩:=hcut;have bg:=Zh (aU.out.trans aF (fun _ _ f=>f));have aR:=Zh (aH.out.Qc aF);obtain⟨⟨aV,aW,aX⟩,bk⟩:=ax.out _ aF;have bh:=Zh (aF.keep aB.out (fun f=>f));have be:=Zh (Qa7 aR.out i (by omega));clear aF aU aH aB aJ ax;go_wp2_with fail;refine be.out.mono ?_
  rintro e Z ⟨rfl,ab⟩;have aA:=Zh (bg.out.trans ab (fun _ _ f=>f));have aa:=Zh (aR.out.Qc ab);have aI:=Zh (ab.keep bh.out (fun f=>f));clear ab be bg aR bh aV aW aX bk;obtain⟨aV,aW,aX,_,_,_⟩:=cells3 aI.out;have bq:(Qu bi bt l i=some t)\/(Q1 bi bt l i t=[]/\ ∃(x:Nat) (c:Bool),XT (Qu bi bt l i)= .tuple #[.int .u64 (x:Int),.bool c]/\(c=false\/c=true/\x≠t)):=by
   unfold Q1
   cases hta:Qu bi bt l i with
   |none=>exact .inr ⟨by rw[if_neg (by simp)],0,false,rfl,.inl rfl⟩
   |
    some t'=>
    by_cases htt:t'=t
    ·exact .inl (by rw[htt])
    ·exact .inr ⟨by rw[if_neg (by simp[htt])],t',true,rfl,.inr ⟨rfl,htt⟩⟩
  rcases bq with aK|⟨bm,x,c,bn,br⟩
  ·have bz:=QbI aK
   have a0:Q1 bi bt l i t=l.drop (i - bi):=by unfold Q1;rw[if_pos aK]
   rw[aK,a0];unfold XT;simp only[Option.getD_some,Option.isSome_some];have aD:i+(l.drop (i - bi)).length <=100000/\t<=1000000/\1<=i:=by rw[List.length_drop];omega
   obtain⟨aM,aN,aO,aP,aQ⟩:=cells5 aa.out.row;obtain⟨aY,aC,bu,bL,bV⟩:=aa.out.Qq.slice;subst bu;have bc:=Zh aa.out.Qq;have bW:IntKind.u64.wrap ((i:Int) - (bi:Int))=((i - bi:Nat):Int):=by rw[IntWalk.u64_in _ (by omega)];omega
   have bQ:(0:Int)<=((i - bi:Nat):Int):=by omega
   have bR:((i - bi:Nat):Int)<=(l.length:Int):=by omega
   have bS:(l.length:Int)<=aC:=by omega
   have bT:((i - bi:Nat):Int)<=(aC:Int):=by omega
   have bU:i - bi<=l.length:=by omega
   have bx:bi+(i - bi)=i:=by omega
   have az:=Zh a0;clear aK a0 bz;generalize i - bi=k at*
   have aS:Hid (∀w',Qa Ze Z w'->aC=k->Calls Tryz.prog 108 #[.slice aY (l.length - k) 0] w' (Wg i (l.drop k) w')):=Zh (fun w' M he=>by
    have bs:(l.drop k).length =l.length - k:=List.length_drop;have aZ:l.length - k=0:=by omega
    have a4:l.drop k=[]:=List.eq_nil_of_length_eq_zero (by omega);rw[aZ,a4];exact WR (QaG w' _ _ _ (fun _=>rfl) (by omega)) (by simp))
   have aT:Hid (∀w',Qa Ze Z w'-> ¬aC=k->Calls Tryz.prog 108 #[.slice (Option.map (fun x=>x.add (k*24)) aY) (l.length - k) (aC - k)] w' (Wg i (l.drop k) w')):=Zh (fun w' M he=>by
    have bs:(l.drop k).length =l.length - k:=List.length_drop;by_cases hlt:k<l.length
    ·obtain⟨g',o',bw,bo⟩:=(bc.out.Qc M).sub (k:=k) (m:=l.length - k) hlt (Zf _)
     subst bw;rw[List.take_of_length_le (by omega),bx] at bo;simp only[Option.map_some,Addr.add_mid];exact WR bo (by omega)
    ·have aZ:l.length - k=0:=by omega
     have a4:l.drop k=[]:=List.eq_nil_of_length_eq_zero (by omega);rw[aZ,a4];refine WR (QaG w' _ _ _ ?_ (by omega)) (by simp);intro aJ
     cases aY with
     |
      none=>
      obtain⟨_,bG,c',aL,bH,bI,bp,_⟩:=bc.out;simp only[Value.slice.injEq] at aL;obtain⟨rfl,_,rfl⟩:=aL;have:=bp rfl;omega
     |some ad=>cases aJ)
   go_upto_region 8 with fail
   go_still_tail 13,(by kernel_rfl)
   go_wp2_with fail
   ·have U:=(Zr Ze Z).drew
    refine Calls.mono (aS.out _ U (by assumption)) ?_
    rintro e aw ⟨Q,rfl,a2,ak,aG⟩;have Y:=U.trans aG (fun _ _ f=>f);have N:=Zh (aa.out.Qc Y);have au:=Zh (Y.keep aI.out (fun f=>f));have O:=Zh (aA.out.trans Y (fun _ _ f=>f));have bA:=Ql ak;have bB:=Ql aa.out.row;have bv:Z.heap.size<=Q:=a2;have bC:=aA.out.size;have ar:Hid (aw.ownsRow 0 116 24 (.slice (some ⟨Q,0,none⟩) (l.length - k) (l.length - k)) (l.drop k).length (Qs i (l.drop k))):=Zh ⟨by rw[Q5],.inr ⟨Q,l.length - k,_,by rw[List.length_drop],Zz _,ak,by rw[List.length_drop];exact Zf _,by unfold maxLen;omega,by simp[Q5],by rw[List.take_of_length_le (by simp[Q5])]⟩⟩;have aq:Hid (∀q,(Value.slice (some ⟨Q,0,none⟩) (l.length - k) (l.length - k)).ownBlock =some q->w.heap.size<=q):=Zh (fun q aj=>by
     simp only[Value.ownBlock,Option.some.injEq] at aj;omega)
    have W:Hid (∀q,(Value.slice (some ⟨Q,0,none⟩) (l.length - k) (l.length - k)).ownBlock =some q->q<aw.heap.size/\q≠p):=Zh (fun q aj=>by
     simp only[Value.ownBlock,Option.some.injEq] at aj;exact⟨by omega,by omega⟩)
    clear aG ak aS aT;go_upto_region 9 with fail
    have af:=Zh (ay.out _ O.out);obtain⟨an,ao,ap,_,_,_⟩:=cells3 au.out;go_wp2_with fail;refine af.out.mono ?_
    rintro e w5 ⟨am,ai,rfl,E,a1,I⟩;obtain⟨c5,al⟩: ∃c5,am= .slice (some ⟨ai,0,none⟩) n c5:=⟨E.choose,E.choose_spec.1⟩
    subst al;have D:=N.out.Qc I;have a3:=Ql N.out.row;have ah:=Zh (O.out.trans I (fun _ _ f=>f));have ac:=Zh (Q3 ar.out I (fun _ _ f=>f));have ae:=Zh E;have ag:=Zh D.row;obtain⟨aM,aN,aO,aP,aQ⟩:=cells5 D.row;obtain⟨a7,a8,a9,ba,bb⟩:=WX D.row;have a5:=O.out.size;clear E I D an ao ap;unfold QC;go_wp2_with fail;go_ret;exact⟨rfl,by rw[az.out];exact Qdd N.out ag.out ae.out ac.out aq.out (by omega) (by omega) (fun k J=>⟨by have:=(W.out k J).1;omega,(W.out k J).2⟩) ah.out aD⟩
   ·have U:=(Zr Ze Z).drew
    refine Calls.mono (aT.out _ U (by assumption)) ?_
    rintro e aw ⟨Q,rfl,a2,ak,aG⟩;have Y:=U.trans aG (fun _ _ f=>f);have N:=Zh (aa.out.Qc Y);have au:=Zh (Y.keep aI.out (fun f=>f));have O:=Zh (aA.out.trans Y (fun _ _ f=>f));have bA:=Ql ak;have bB:=Ql aa.out.row;have bv:Z.heap.size<=Q:=a2;have bC:=aA.out.size;have ar:Hid (aw.ownsRow 0 116 24 (.slice (some ⟨Q,0,none⟩) (l.length - k) (l.length - k)) (l.drop k).length (Qs i (l.drop k))):=Zh ⟨by rw[Q5],.inr ⟨Q,l.length - k,_,by rw[List.length_drop],Zz _,ak,by rw[List.length_drop];exact Zf _,by unfold maxLen;omega,by simp[Q5],by rw[List.take_of_length_le (by simp[Q5])]⟩⟩;have aq:Hid (∀q,(Value.slice (some ⟨Q,0,none⟩) (l.length - k) (l.length - k)).ownBlock =some q->w.heap.size<=q):=Zh (fun q aj=>by
     simp only[Value.ownBlock,Option.some.injEq] at aj;omega)
    have W:Hid (∀q,(Value.slice (some ⟨Q,0,none⟩) (l.length - k) (l.length - k)).ownBlock =some q->q<aw.heap.size/\q≠p):=Zh (fun q aj=>by
     simp only[Value.ownBlock,Option.some.injEq] at aj;exact⟨by omega,by omega⟩)
    clear aG ak aS aT;go_upto_region 9 with fail
    have af:=Zh (ay.out _ O.out);obtain⟨an,ao,ap,_,_,_⟩:=cells3 au.out;go_wp2_with fail;refine af.out.mono ?_
    rintro e w5 ⟨am,ai,rfl,E,a1,I⟩;obtain⟨c5,al⟩: ∃c5,am= .slice (some ⟨ai,0,none⟩) n c5:=⟨E.choose,E.choose_spec.1⟩
    subst al;have D:=N.out.Qc I;have a3:=Ql N.out.row;have ah:=Zh (O.out.trans I (fun _ _ f=>f));have ac:=Zh (Q3 ar.out I (fun _ _ f=>f));have ae:=Zh E;have ag:=Zh D.row;obtain⟨aM,aN,aO,aP,aQ⟩:=cells5 D.row;obtain⟨a7,a8,a9,ba,bb⟩:=WX D.row;have a5:=O.out.size;clear E I D an ao ap;unfold QC;go_wp2_with fail;go_ret;exact⟨rfl,by rw[az.out];exact Qdd N.out ag.out ae.out ac.out aq.out (by omega) (by omega) (fun k J=>⟨by have:=(W.out k J).1;omega,(W.out k J).2⟩) ah.out aD⟩
  ·rw[bn,bm]
   have aD:i+([]:List En).length <=100000/\t<=1000000/\1<=i:=by simp;omega
   clear bn;have az:=Zh bm;have N:=aa;have au:=aI;have O:=aA;have ar:Hid (Z.ownsRow 0 116 24 (.slice none 0 0) ([]:List En).length (Qs i [])):=Zh (World.ownsRow_nil _ _ _ _);have aq:Hid (∀k,(Value.slice none 0 0).ownBlock =some k->w.heap.size<=k):=Zh (fun k J=>by cases J);have W:Hid (∀k,(Value.slice none 0 0).ownBlock =some k->k<Z.heap.size/\k≠p):=Zh (fun k J=>by cases J);rcases br with rfl|⟨rfl,a6⟩
   ·go_upto_region 9 with fail
    have af:=Zh (ay.out _ O.out);obtain⟨an,ao,ap,_,_,_⟩:=cells3 au.out;go_wp2_with fail;refine af.out.mono ?_
    rintro e w5 ⟨am,ai,rfl,E,a1,I⟩;obtain⟨c5,al⟩: ∃c5,am= .slice (some ⟨ai,0,none⟩) n c5:=⟨E.choose,E.choose_spec.1⟩
    subst al;have D:=N.out.Qc I;have a3:=Ql N.out.row;have ah:=Zh (O.out.trans I (fun _ _ f=>f));have ac:=Zh (Q3 ar.out I (fun _ _ f=>f));have ae:=Zh E;have ag:=Zh D.row;obtain⟨aM,aN,aO,aP,aQ⟩:=cells5 D.row;obtain⟨a7,a8,a9,ba,bb⟩:=WX D.row;have a5:=O.out.size;clear E I D an ao ap;unfold QC;go_wp2_with fail;go_ret;exact⟨rfl,by rw[az.out];exact Qdd N.out ag.out ae.out ac.out aq.out (by omega) (by omega) (fun k J=>⟨by have:=(W.out k J).1;omega,(W.out k J).2⟩) ah.out aD⟩
   ·have bX: ¬(x:Int)=t:=by omega
    go_upto_region 9 with fail
    have af:=Zh (ay.out _ O.out);obtain⟨an,ao,ap,_,_,_⟩:=cells3 au.out;go_wp2_with fail;refine af.out.mono ?_
    rintro e w5 ⟨am,ai,rfl,E,a1,I⟩;obtain⟨c5,al⟩: ∃c5,am= .slice (some ⟨ai,0,none⟩) n c5:=⟨E.choose,E.choose_spec.1⟩
    subst al;have D:=N.out.Qc I;have a3:=Ql N.out.row;have ah:=Zh (O.out.trans I (fun _ _ f=>f));have ac:=Zh (Q3 ar.out I (fun _ _ f=>f));have ae:=Zh E;have ag:=Zh D.row;obtain⟨aM,aN,aO,aP,aQ⟩:=cells5 D.row;obtain⟨a7,a8,a9,ba,bb⟩:=WX D.row;have a5:=O.out.size;clear E I D an ao ap;unfold QC;go_wp2_with fail;go_ret;exact⟨rfl,by rw[az.out];exact Qdd N.out ag.out ae.out ac.out aq.out (by omega) (by omega) (fun k J=>⟨by have:=(W.out k J).1;omega,(W.out k J).2⟩) ah.out aD⟩
end
theorem Qln{w:World}{E:Option Addr}{D bi:Nat}{l:List En}(M:QA w (.slice E l.length D) bi l){k:Nat}(U:k<=l.length)(Q:l.length<=D)(W:D<=maxLen)(O:D=k):Calls Tryz.prog 108 #[.slice E (l.length - k) 0] w (Wg (bi+k) (l.drop k) w):=by
 have N:(l.drop k).length =l.length - k:=List.length_drop;have I:l.length - k=0:=by omega
 have J:l.drop k=[]:=List.eq_nil_of_length_eq_zero (by omega);rw[I,J];exact WR (QaG w _ _ _ (fun _=>rfl) (by omega)) (by simp)
theorem Qlo{w:World}{E:Option Addr}{D bi:Nat}{l:List En}(I:QA w (.slice E l.length D) bi l){k:Nat}(af:k<=l.length)(ae:l.length<=D)(ah:D<=maxLen)(ag:l.length<=100000)(ac: ¬D=k):Calls Tryz.prog 108 #[.slice (Option.map (fun x=>x.add (k*24)) E) (l.length - k) (D - k)] w (Wg (bi+k) (l.drop k) w):=by
 have ab:(l.drop k).length =l.length - k:=List.length_drop;by_cases hlt:k<l.length
 ·obtain⟨g',o',Q,J⟩:=I.sub (k:=k) (m:=l.length - k) hlt (Zf _)
  subst Q;rw[List.take_of_length_le (by omega)] at J;simp only[Option.map_some,Addr.add_mid];exact WR J (by omega)
 ·have N:l.length - k=0:=by omega
  have U:l.drop k=[]:=List.eq_nil_of_length_eq_zero (by omega);rw[N,U];refine WR (QaG w _ _ _ ?_ (by omega)) (by simp);intro W
  cases E with
  |
   none=>
   obtain⟨_,Y,c',M,Z,aa,O,_⟩:=I;simp only[Value.slice.injEq] at M;obtain⟨rfl,_,rfl⟩:=M;have:=O rfl;omega
  |some ad=>cases W
section
variable {w:World} {S:Nat->Prop} {p n bi bt:Nat} {l:List En} {mv ev:Value} {mg:Nat}
theorem Qf9{w ad w5:World}(N:Q4 ad S p n bi bt l mv ev mg){i t:Nat}{I:List En}{E ev':Value}{D:Nat}(aa:w5.heap[p]? =some (.cells #[.int .u64 bi,.int .u64 bt,mv,ev,.bool true] 189 (0,0)))(Z:QD w5 E n D)
  (U:w5.ownsRow 0 116 24 ev' I.length (Qs i I)) (Q: ∀k,ev'.ownBlock=some k->w.heap.size<=k) (O:D≠p) (Y:w.heap.size<=D) (J: ∀k,ev'.ownBlock=some k->k≠D/\k≠p) (ac:Qa Ze w w5) (W:i+I.length<=100000/\t<=1000000/\1<=i):
  ∃S' mv ev mg,Q4 ((((w5.setCell ⟨p,3,none⟩ ev').setCell ⟨p,0,none⟩ (.int .u64 i)).setCell ⟨p,1,none⟩ (.int .u64 t)).setCell ⟨p,2,none⟩ E) S' p n i t I mv ev mg/\(∀j,S' j->S j\/w.heap.size<=j)/\Qa S w ((((w5.setCell ⟨p,3,none⟩ ev').setCell ⟨p,0,none⟩ (.int .u64 i)).setCell ⟨p,1,none⟩ (.int .u64 t)).setCell ⟨p,2,none⟩ E):=by
 have ab:=Qi (o:=2) (Qi (o:=1) (Qi (o:=0) (Qi (o:=3) aa ev') (.int .u64 i)) (.int .u64 t)) E;have M:Qa (fun j=>j=p) w5 ((((w5.setCell ⟨p,3,none⟩ ev').setCell ⟨p,0,none⟩ (.int .u64 i)).setCell ⟨p,1,none⟩ (.int .u64 t)).setCell ⟨p,2,none⟩ E):=
  XG (XG (XG (XG (Zr (fun j=>j=p) w5) p 3 _ (fun _=>rfl)) p 0 _ (fun _=>rfl)) p 1 _ (fun _=>rfl)) p 2 _ (fun _=>rfl)
 refine⟨fun j=>S j\/j=D\/ev'.ownBlock=some j,E,ev',D,⟨by simpa using ab,Z.upd M O,Q3 U M (fun k hk=>(J k hk).2),.inl N.sp,.inr (.inl rfl),O,fun k hk=>⟨.inr (.inr hk),(J k hk).2,(J k hk).1⟩,W⟩,?_,?_⟩
 ·rintro j (h|rfl|h)
  ·exact .inl h
  ·exact .inr Y
  ·exact .inr (Q j h)
 ·exact (ac.mono (fun _ _ f=>f.elim)).trans M (fun i _ e=>e▸N.sp)
theorem Qk0(h:Q4 w S p n bi bt l mv ev mg){i t:Nat}(br:bi<i)(bs:i<=bi+l.length)(aO:Qu bi bt l i=some t)(bB:t<=1000000):
  Calls Tryz.prog 53 #[.pointer (some ⟨p,0,none⟩),.int .u64 i] w (Qae (.int .i64 0) S p n i t (l.drop (i - bi)) w):=by
 have bq:=h.fit;have aN:=Zh (K8 h);have av:=Zh (last_any h);have H:=Zh h;have aT:=Zh aO;have bo: ¬(i:Int)< (bi:Int):=by omega
 have bp: ¬i<bi:=by omega
 have aZ:lastOf bi l=bi+l.length:=rfl;have a4: ¬((bi+l.length:Nat):Int)< (i:Int):=by omega
 have a6: ¬bi+l.length<i:=by omega
 clear h aO;rw[aZ] at av;go_enter Tryz.func53,Tryz.ntmps53;go_wp2_with fail;refine aN.out.mono ?_
 rintro e w' ⟨rfl,rfl⟩;go_wp2_with fail;refine av.out.mono ?_
 rintro e bD ⟨rfl,ay⟩;have ag:=Zh (H.out.Qc ay);have aD:=Zh ay;obtain⟨aX,aY,_,_,_⟩:=cells5 ag.out.row;have ap:=Zh (Qa7 ag.out i (by omega));rw[aT.out] at ap;clear ay aN av;generalize hx:bi+l.length=x at a4 a6 ⊢;go_wp2_with fail;refine ap.out.mono ?_
 rintro e w2 ⟨rfl,az⟩;have ah:=Zh (ag.out.Qc az);have aE:=Zh (aD.out.trans az (fun _ _ f=>f));have aB:=Zh (QhP ah.out i (by omega));clear az ap ag aD aX aY;unfold XT;simp only[Option.getD_some,Option.isSome_some];go_wp2_with fail;refine aB.out.mono ?_
 rintro e Y ⟨bn,M,rfl,ak,a1,aA⟩;obtain⟨aq,a9⟩: ∃c5,bn= .slice (some ⟨M,0,none⟩) n c5:=⟨ak.choose,ak.choose_spec.1⟩
 subst a9;have am:=Zh (ah.out.Qc aA);have aF:=Zh (aE.out.trans aA (fun _ _ f=>f));have aC:=Zh ak;have aJ:w.heap.size<=M:=Zt aE.out.size a1;have bA:p<M:=by have:=Ql ah.out.row;omega
 clear aA aB ah ak;go_upto_region 8 with fail
 have al:Qa Ze Y (Y.alloc (.cells #[.int .u64 i,.int .u64 t,.slice (some ⟨M,0,none⟩) n aq] 44)):=(Zr _ Y).alloc _;have aP:=Qf (w:=Y) (.cells #[.int .u64 i,.int .u64 t,.slice (some ⟨M,0,none⟩) n aq] 44);have E:=Zh (am.out.Qc al);have aj:=Zh (aF.out.trans al (fun _ _ f=>f));have ai:=Zh (aC.out.upd al (fun f=>f));have aG:=Zh aP;have bz:Y.heap.size≠p:=by have:=Ql am.out.row;omega
 clear al aP am aF aC;generalize Y.alloc (.cells #[.int .u64 i,.int .u64 t,.slice (some ⟨M,0,none⟩) n aq] 44)=w4 at*
 generalize Y.heap.size=b at*
 obtain⟨ar,ae,a0,aH,aM⟩:=E.out.Qq.slice;subst a0;have bC:IntKind.u64.wrap ((i:Int) - (bi:Int))=((i - bi:Nat):Int):=by rw[IntWalk.u64_in _ (by omega)];omega
 have bu:(0:Int)<=((i - bi:Nat):Int):=by omega
 have bv:((i - bi:Nat):Int)<=(l.length:Int):=by omega
 have bw:(l.length:Int)<=ae:=by omega
 have bx:((i - bi:Nat):Int)<=(ae:Int):=by omega
 have aL:i - bi<=l.length:=by omega
 have aK:bi+(i - bi)=i:=by omega
 have aI:i+(l.drop (i - bi)).length <=100000/\t<=1000000/\1<=i:=by rw[List.length_drop];omega
 have a5:l.length<=100000:=by omega
 generalize i - bi=k at*
 have an:Hid (∀w',Qa Ze w4 w'->(w'.cell? ⟨p,0,none⟩=some (.int .u64 bi)/\w'.cell? ⟨p,3,none⟩=some (.slice ar l.length ae))/\w'.frozen? ⟨p,3,none⟩=false):=Zh (fun w' hu=>⟨⟨(cells5 (E.out.Qc hu).row).1,(cells5 (E.out.Qc hu).row).2.2.2.1⟩,(WX (E.out.Qc hu).row).2.2.2.1⟩);have W:=(Zr Ze w4).drew;obtain⟨⟨aQ,aR⟩,aS⟩:=an.out _ W;by_cases he:ae=k
 ·have Z:Hid (∀w',Qa Ze w4 w'->Calls Tryz.prog 108 #[.slice ar (l.length - k) 0] w' (Wg i (l.drop k) w')):=Zh (fun w' hu=>by
   have:=Qln (E.out.Qc hu).Qq aL aH aM he
   rwa [aK] at this)
  go_region_with (go_at_call 108;refine (Z.out _ W).mono ?_;rintro e w5 ⟨D,rfl,au,ax,U⟩;obtain⟨⟨y1,y2⟩,y3⟩:=an.out _ (W.trans U (fun _ _ f=>f)))
  all_goals
   have I:=W.trans U (fun _ _ f=>f);have N:=E.out.Qc I;have a7:=Ql E.out.row;have a3:w4.heap.size<=D:=au;have a8:=aj.out.size;have a2:M<w4.heap.size:=by
    obtain⟨_,_,_,_,_,_,aw⟩:=ai.out;have:=World.block_lt_of_cell? _ _ (aw 0 (by omega))
    simpa using this
   have aa:w5.ownsRow 0 116 24 (.slice (some ⟨D,0,none⟩) (l.length - k) (l.length - k)) (l.drop k).length (Qs i (l.drop k)):=⟨by rw[Q5],.inr ⟨D,l.length - k,_,by rw[List.length_drop],Zz _,ax,by rw[List.length_drop];exact Zf _,by unfold maxLen;omega,by simp[Q5],by rw[List.take_of_length_le (by simp[Q5])]⟩⟩
   have af:=Qf9 (w:=w) E.out N.row (ai.out.upd I (fun f=>f)) aa (fun q O=>by
     simp only[Value.ownBlock,Option.some.injEq] at O;omega) (by omega) aJ (fun q O=>by
     simp only[Value.ownBlock,Option.some.injEq] at O;exact⟨by omega,by omega⟩) (aj.out.trans I (fun _ _ f=>f)) aI
   have ao:=Zh af;obtain⟨ab,ac,ad,_,_,_⟩:=cells3 (I.keep aG.out (fun f=>f));have Q:=Qi (o:=3) N.row (.slice (some ⟨D,0,none⟩) (l.length - k) (l.length - k));simp only[List.setIfInBounds_toArray,List.set_cons_succ,List.set_cons_zero] at Q;obtain⟨bg,bh,bj,bk,bm⟩:=cells5 Q;obtain⟨ba,bb,bc,bd,be⟩:=WX Q;have J: ∀o v,(w5.setCell ⟨p,3,none⟩ v).cell? ⟨b,o,none⟩=w5.cell? ⟨b,o,none⟩:=fun o v=>World.cell?_setCell_other _ _ _ _ (by simp)
   have aU:=(J 0 (.slice (some ⟨D,0,none⟩) (l.length - k) (l.length - k))).trans ab;have aV:=(J 1 (.slice (some ⟨D,0,none⟩) (l.length - k) (l.length - k))).trans ac;have aW:=(J 2 (.slice (some ⟨D,0,none⟩) (l.length - k) (l.length - k))).trans ad;clear af N aa I U J ab ac ad y1 y2 y3 aQ aR aS Z;generalize w5.setCell ⟨p,3,none⟩ (.slice (some ⟨D,0,none⟩) (l.length - k) (l.length - k))=w6 at*
   go_upto_region 9 with fail
   go_wp2_with fail;go_ret;exact⟨rfl,ao.out⟩
 ·have Z:Hid (∀w',Qa Ze w4 w'->Calls Tryz.prog 108 #[.slice (Option.map (fun x=>x.add (k*24)) ar) (l.length - k) (ae - k)] w' (Wg i (l.drop k) w')):=Zh (fun w' hu=>by
   have:=Qlo (E.out.Qc hu).Qq aL aH aM a5 he
   rwa [aK] at this)
  go_region_with (go_at_call 108;refine (Z.out _ W).mono ?_;rintro e w5 ⟨D,rfl,au,ax,U⟩;obtain⟨⟨y1,y2⟩,y3⟩:=an.out _ (W.trans U (fun _ _ f=>f)))
  all_goals
   have I:=W.trans U (fun _ _ f=>f);have N:=E.out.Qc I;have a7:=Ql E.out.row;have a3:w4.heap.size<=D:=au;have a8:=aj.out.size;have a2:M<w4.heap.size:=by
    obtain⟨_,_,_,_,_,_,aw⟩:=ai.out;have:=World.block_lt_of_cell? _ _ (aw 0 (by omega))
    simpa using this
   have aa:w5.ownsRow 0 116 24 (.slice (some ⟨D,0,none⟩) (l.length - k) (l.length - k)) (l.drop k).length (Qs i (l.drop k)):=⟨by rw[Q5],.inr ⟨D,l.length - k,_,by rw[List.length_drop],Zz _,ax,by rw[List.length_drop];exact Zf _,by unfold maxLen;omega,by simp[Q5],by rw[List.take_of_length_le (by simp[Q5])]⟩⟩
   have af:=Qf9 (w:=w) E.out N.row (ai.out.upd I (fun f=>f)) aa (fun q O=>by
     simp only[Value.ownBlock,Option.some.injEq] at O;omega) (by omega) aJ (fun q O=>by
     simp only[Value.ownBlock,Option.some.injEq] at O;exact⟨by omega,by omega⟩) (aj.out.trans I (fun _ _ f=>f)) aI
   have ao:=Zh af;obtain⟨ab,ac,ad,_,_,_⟩:=cells3 (I.keep aG.out (fun f=>f));have Q:=Qi (o:=3) N.row (.slice (some ⟨D,0,none⟩) (l.length - k) (l.length - k));simp only[List.setIfInBounds_toArray,List.set_cons_succ,List.set_cons_zero] at Q;obtain⟨bg,bh,bj,bk,bm⟩:=cells5 Q;obtain⟨ba,bb,bc,bd,be⟩:=WX Q;have J: ∀o v,(w5.setCell ⟨p,3,none⟩ v).cell? ⟨b,o,none⟩=w5.cell? ⟨b,o,none⟩:=fun o v=>World.cell?_setCell_other _ _ _ _ (by simp)
   have aU:=(J 0 (.slice (some ⟨D,0,none⟩) (l.length - k) (l.length - k))).trans ab;have aV:=(J 1 (.slice (some ⟨D,0,none⟩) (l.length - k) (l.length - k))).trans ac;have aW:=(J 2 (.slice (some ⟨D,0,none⟩) (l.length - k) (l.length - k))).trans ad;clear af N aa I U J ab ac ad y1 y2 y3 aQ aR aS Z;generalize w5.setCell ⟨p,3,none⟩ (.slice (some ⟨D,0,none⟩) (l.length - k) (l.length - k))=w6 at*
   go_upto_region 9 with fail
   go_wp2_with fail;go_ret;exact⟨rfl,ao.out⟩
end
end
section
open Go.RowKit Go.Acre
theorem Qmu{a:Option Addr}(h:QN .i64 w (.slice a n cap) zs)(x:Int)(aa:zs.length<=100000):Calls Tryz.prog 208 #[.slice a n cap,.int .i64 x] w (fun e w'=> ∃r:Int,e= .returned (.int .i64 r)/\w=w'/\(0<=r↔x∈zs)):=by
 have Y:n=zs.length:=by
  obtain⟨_,_,_,N,_⟩:=h;simp only[Value.slice.injEq] at N;exact N.2.1
 subst Y;have H:=Zh h;clear h;go_enter Tryz.func208,Tryz.ntmps208;go_wp2_with fail;go_loopw [8] (fun y wr=> ∃k:Nat,y= .int .i64 k/\k<=zs.length/\(∀j (D:j<zs.length),j<k->zs[j]≠x)/\wr=w) (fun y _=>zs.length - (intOf y).toNat)
 case atStart=>exact⟨0,rfl,by omega,fun j _ D=>by omega,rfl⟩
 case round=>
  obtain⟨k,rfl,Z,M,rfl⟩:=hrel;have E:=Zh M;clear M;by_cases hlt:k<zs.length
  ·have W:(k:Int)< (zs.length:Int):=by omega
   have U:(0:Int)<=k:=by omega
   obtain⟨g,o,rfl,J⟩:=H.out.cell hlt;by_cases he:x=zs[k]
   ·have O:x∈zs:=by rw[he];exact List.getElem_mem hlt
    have I:=Zh he;rw[<-he] at J;clear he;go_wp2_with fail;go_ret;exact⟨k,rfl,rfl,fun _=>O,fun _=>U⟩
   ·have I:Hid (zs[k]≠x):=Zh (fun e=>he e.symm)
    generalize hzk:zs[k]=y at J he;clear hzk;go_wp2_with fail;exact⟨⟨k+1,by go_num,by omega,fun j D Q=>by
     rcases Nat.lt_or_eq_of_le (Nat.le_of_lt_succ Q) with h|rfl
     ·exact E.out j D h
     ·exact I.out,by trivial⟩,by simp[intOf];omega⟩
  ·have W: ¬(k:Int)< (zs.length:Int):=by omega
   obtain rfl:k=zs.length:=by omega
   go_wp2_with fail;go_ret;refine⟨-1,rfl,rfl,fun h=>by omega,fun h=> ?_⟩;obtain⟨j,D,e⟩:=List.mem_iff_getElem.1 h;exact absurd e (E.out j D D)
theorem Qk5{a:Option Addr}(h:QN .i64 w (.slice a n cap) zs)(x:Int)(M:zs.length<=100000):Calls Tryz.prog 150 #[.slice a n cap,.int .i64 x] w (Is (.bool (decide (x∈zs))) w):=by
 have I:=Zh (Qmu h x M);clear h;go_enter Tryz.func150,Tryz.ntmps150;go_wp2_with fail;refine I.out.mono ?_
 rintro e w' ⟨r,rfl,rfl,D⟩;by_cases hx:x∈zs
 ·have J:(0:Int)<=r:=D.2 hx
  have E:=Zh hx;clear D hx;go_wp2_with fail;go_ret;exact⟨by rw[decide_eq_true E.out];rfl,rfl⟩
 ·have J: ¬(0:Int)<=r:=fun h=>hx (D.1 h)
  have E:=Zh hx;clear D hx;go_wp2_with fail;go_ret;exact⟨by rw[decide_eq_false E.out];show Ending.returned (.bool (decide (0<=r)))=_;rw[decide_eq_false (by omega)],rfl⟩
theorem Qam{a:Option Addr}(h:QN .i64 w (.slice a n cap) zs)(x:Int)(E:zs.length<=100000):Calls Tryz.prog 91 #[.slice a n cap,.int .i64 x] w (Is (.bool (decide (x∈zs))) w):=by
 have D:=Zh (Qk5 h x E);clear h;go_enter Tryz.func91,Tryz.ntmps91;go_wp2_with fail;refine D.out.mono ?_
 rintro e w' ⟨rfl,rfl⟩;go_wp2_with fail;go_ret;exact⟨rfl,rfl⟩
end
section
open Go.RowKit Go.Acre
attribute [local go_sem ↓] LcG ScG
attribute [local go_sem] Sc1 Sc2 Sc3 Lc2 Lc3
def Xi(k:Nat):Array Value:= #[.bool (decide (0<k)),.bool (decide (1<k)),.bool (decide (2<k)),.bool (decide (3<k)),.bool (decide (4<k))]
theorem Qqa(h:k<5):(Xi k).setIfInBounds k (.bool true)=Xi (k+1):=by
 rcases (show k=0\/k=1\/k=2\/k=3\/k=4 by omega) with rfl|rfl|rfl|rfl|rfl<;>rfl
theorem Qdh(k:Nat):(Xi k).size =5:=rfl
theorem QiE(k:Nat):(Xi k).all (·.oneCell')=true:=by simp[Xi,Value.oneCell']
theorem Qmx(h:A.size=5):(Tryz.prog.info? 235).map (·.size)=some A.size:=by rw[h];kernel_rfl
theorem Qob(h:QD w v n g):Calls Tryz.prog 145 #[v] w (Qk (.tuple #[.agg (Xi n),.bool true]) w):=by
 obtain⟨cap,rfl,ap,aq,ar,aA,Q⟩:=h;have Y:=Zh Q;clear Q;go_enter Tryz.func145,Tryz.ntmps145;go_upto_region 2 with fail
 have hx1:=heap_alloc2_old w (.cells (Xi 0) 235) (.cells (Xi 0) 235);have W:=heap_alloc2_new w (.cells (Xi 0) 235) (.cells (Xi 0) 235);have D:Qa Ze w ((w.alloc (.cells (Xi 0) 235)).alloc (.cells (Xi 0) 235)):=((Zr _ w).alloc _).alloc _;have O:(#[.bool false,.bool false,.bool false,.bool false,.bool false]:Array Value)=Xi 0:=rfl;rw[O];have aB:w.heap.size≠w.heap.size+1:=by omega
 have ag:=Zh hx1;have ah:=Zh W;have ad:=Zh D;clear O hx1 W D;generalize (w.alloc (.cells (Xi 0) 235)).alloc (.cells (Xi 0) 235)=w1 at*
 have al:Hid (w.heap.size=w.heap.size):=Zh rfl;generalize hb:w.heap.size=b at*
 have N:=Zh hb;clear hb;go_wp2_with fail;go_loopw [9] (fun x wr=> ∃k:Nat,x= .int .i64 k/\k<=n/\wr.heap[b]? =some (.cells (Xi 0) 235 (0,0))/\wr.heap[b+1]? =some (.cells (Xi k) 235 (0,0))/\Qa Ze w wr) (fun x _=>n - (intOf x).toNat)
 case atStart=>exact⟨0,rfl,by omega,ag.out,ah.out,ad.out⟩
 case round=>
  obtain⟨k,rfl,au,I,E,D⟩:=hrel;by_cases hlt:k<n
  ·have ak:(k:Int)< (n:Int):=by omega
   have av:(0:Int)<=k:=by omega
   have aw: ¬(k:Int)<0:=by omega
   have ax:(k:Int)<5:=by omega
   have ay: ¬(5:Int)<=k:=by omega
   have an:=Qe D (Y.out k hlt) (fun f=>f);have ai:=Qb E k;have ao:=Qg E k none;rw[Array.getElem?_eq_getElem (by rw[Qdh];omega)] at ai;have J:=Qi (o:=k) E (.bool true);rw[Qqa (by omega)] at J;have ab:=Zh J;have am:=Zh ((heap_setCell_other w1 ⟨b+1,k,none⟩ b (.bool true) (by simp)));have Z:=Zh I;have ae:=Zh D;clear J I E D;go_wp2_with fail;exact⟨⟨k+1,by go_num,by omega,by rw[heap_setCell_other _ _ _ _ (by simp)];exact Z.out,ab.out,XG ae.out (b+1) k _ (fun h=>by have:=N.out;omega)⟩,by simp[intOf];omega⟩
  ·have ak: ¬(k:Int)< (n:Int):=by omega
   obtain rfl:k=n:=by omega
   have M:=Qdh k;have az:=Xc E M;have aC:=Qa3 I (A:=Xi k) (by rw[M];rfl) (QiE k);have U:=Xr wr b (Xi k) I;have aa:=Zh U;have af:=Zh (QL D (g:=b) (fun h=>by have:=N.out;omega) (Xi k));have ac:=Zh M;clear I E D U;generalize Xi k=A at*
   go_wp2_with fail;have aj:=run_loadVar_row (P:=Tryz.prog) (wr.setRow b A) b 235 235 A (0,0) _ aa.out Tryz.underlying235 rfl (Qmx ac.out);refine bodyPost_ret (v:=.tuple #[.agg A,.bool true]) ?_ rfl ⟨rfl,af.out⟩
   simp[results,Tryz.results145,asAddr,aj]
theorem Qp9(n:Nat)(h:k<5):(Xi n)[k]? =some (.bool (decide (k<n))):=by
 rcases (show k=0\/k=1\/k=2\/k=3\/k=4 by omega) with rfl|rfl|rfl|rfl|rfl<;>rfl
theorem Qii(n:Nat):Za (n+1)=Za n++[.int .i64 (n:Int)]:=by simp[Za,List.range_succ]
theorem Qmt(w:World){b:Bool}(J:k<5)(I:A[k]? =some (.bool b)):(Instr.index 235 (.agg A) (.int .i64 (k:Int))).run Tryz.prog w= .ok (.bool b) w:=by
 have D:(0:Int)<=k:=by omega
 have E:(k:Int)<5:=by omega
 simp[Instr.index,asIntOf,run_underlying Tryz.underlying235,D,E,part,I];intro h;omega
theorem Qny(ao:1<=n)(aq:n<=5):Calls Tryz.prog 147 #[.agg (Xi n)] w (Qaf n w):=by
 obtain⟨ay,ar,av,aw,ax⟩:=info_parts info3;have ad:=Qdh n;have ah:Hid (∀k,k<5->(Xi n)[k]? =some (.bool (decide (k<n)))):=Zh (fun k ab=>Qp9 n ab);have ak:=Zh ad;clear ad;generalize Xi n=A at*
 go_enter Tryz.func147,Tryz.ntmps147;go_upto_region 1 with fail
 have I:=(Zr Ze w).alloc (.cells A 235);have ae:=Qf (w:=w) (.cells A 235);have au:=Xc ae ak.out;have al:=Zh I;clear I ae;generalize hw1:w.alloc (.cells A 235)=w1 at*
 have hsz:w1.heap.size=w.heap.size+1:=by rw[<-hw1];simp
 clear hw1;generalize hb:w.heap.size=b at*
 go_wp2_with fail;go_loopw [3,7] (fun az x wr=> ∃k:Nat,x= .int .i64 k/\k<=5/\wr.ownsRow w1.heap.size 3 1 az (min k n) (Za (min k n))/\Qa Ze w1 wr) (fun _ x _=>5 - (intOf x).toNat)
 case atStart=>exact⟨0,rfl,by omega,by simpa [Za] using World.ownsRow_nil _ _ _ _,Zr _ _⟩
 case round=>
  obtain⟨k,rfl,ab,M,I⟩:=hrel;by_cases hlt:k<5
  ·have aE:(k:Int)<5:=by omega
   have aD:(0:Int)<=k:=by omega
   have E:=ah.out k hlt;have N:=fun b (h:A[k]? =some (.bool b))=>Qmt wr hlt h
   have D:=Zh M;have O:=Zh I;clear M I;by_cases hkn:k<n
   ·rw[decide_eq_true hkn] at E
    have Z:=N _ E;clear N;have J:min k n=k:=by omega
    have Q:min (k+1) n=k+1:=by omega
    rw[J] at D;have aA:=Zh E;clear au;go_upto_region 6 with fail
    have U:Qa Ze wr (wr.alloc (.cells #[.int .i64 (k:Int)] 3)):=(Zr _ wr).alloc _;have af:=Qf (w:=wr) (.cells #[.int .i64 (k:Int)] 3);have W:=Zh (Q3 D.out U (fun _ _ f=>f));have aj:Hid (Qr (wr.alloc (.cells #[.int .i64 (k:Int)] 3)) 1 (.slice (some ⟨wr.heap.size,0,none⟩) 1 1) 1 [.int .i64 (k:Int)]):=Zh ⟨rfl,_,1,rfl,Zf _,by unfold maxLen;omega,(fun e=>by cases e),fun _=>⟨_,0,rfl,fun j aa=>by
     rw[Nat.zero_add,Qb af j];simp⟩⟩
    have am:=Zh (O.out.trans U (fun _ _ f=>f));have aF:=O.out.size;clear U af Z E;go_wp2_with (at_builtin;refine QbM rfl _ _ 37 rfl w1.heap.size 3 ay (.int .i64 0) 1 8 Tryz.underlying37 ar av aw ax rfl (by decide) _ _ _ rfl W.out _ 1 [.int .i64 (k:Int)] rfl aj.out ?c2 ?c3 ?c4 ?c5 ?_)
    case c2=>first|rfl|(intro z ag;simp at ag;subst ag;rfl)
    case c3=>unfold maxLen;omega
    case c4=>omega
    case c5=>first|omega|(simp;omega)
    intro v2 aG ac Y;have an:=Zh (am.out.X8 Y (fun j aa aC=>by have:=(W.out.lt j aa).1;omega));have ai:=Zh ac;clear ac Y;go_wp2_with fail;exact⟨⟨k+1,by go_num,by omega,by rw[Q,Qii,hsz];exact ai.out,an.out⟩,by simp[intOf];omega⟩
   ·rw[decide_eq_false hkn] at E
    have Z:=N _ E;clear N;have J:min k n=n:=by omega
    have Q:min (k+1) n=n:=by omega
    rw[J] at D;go_wp2_with fail;exact⟨⟨k+1,by go_num,by omega,by rw[Q];exact D.out,O.out⟩,by simp[intOf];omega⟩
  ·obtain rfl:k=5:=by omega
   have J:min 5 n=n:=by omega
   rw[J] at M;have D:=Zh M;clear M;go_wp2_with fail;go_ret;obtain⟨g,ap,aB,_⟩:=QD.Q7 D.out ao aq;exact⟨_,g,rfl,ap,by omega,al.out.trans I (fun _ _ f=>f)⟩
theorem QlK{u:Value}{g':Nat}(h:QD w v n g)(N:QD w u n g'):Calls Tryz.prog 146 #[v,u] w (Qk (.bool true) w):=by
 obtain⟨cap,rfl,Y,Z,aa,ae,E⟩:=h;obtain⟨W,rfl,_,_,ab,af,I⟩:=N;have J:=Zh E;have M:=Zh I;clear E I;go_enter Tryz.func146,Tryz.ntmps146;go_wp2_with fail;go_loopw [13] (fun x wr=> ∃k:Nat,x= .int .i64 k/\k<=n/\Qa Ze w wr) (fun x _=>n - (intOf x).toNat)
 case atStart=>exact⟨0,rfl,by omega,Zr _ _⟩
 case round=>
  obtain⟨k,rfl,ac,D⟩:=hrel;by_cases hlt:k<n
  ·have O:(k:Int)< (n:Int):=by omega
   have ad:(0:Int)<=k:=by omega
   have Q:=Qe D (J.out k hlt) (fun f=>f);have U:=Qe D (M.out k hlt) (fun f=>f);go_upto_region 6 with fail
   go_quiet (fail);go_wp2_with fail;exact⟨⟨k+1,by go_num,by omega,D.drewN _⟩,by simp[intOf];omega⟩
  ·have O: ¬(k:Int)< (n:Int):=by omega
   go_wp2_with fail;go_ret;exact⟨rfl,D⟩
theorem check_any(h:QD w v n g):Calls Tryz.prog 81 #[v] w (Qk (.int .i64 0) w):=by
 have N:=Zh (Qob h);have ab:=Zh h;have ae:1<=n:=h.choose_spec.2.1;have af:n<=5:=h.choose_spec.2.2.1;obtain⟨cap,al⟩: ∃cap,v= .slice (some ⟨g,0,none⟩) n cap:=⟨h.choose,h.choose_spec.1⟩
 subst al;clear h;go_enter Tryz.func81,Tryz.ntmps81;go_wp2_with fail;refine N.out.mono ?_
 rintro e D ⟨rfl,Y⟩;have O:=Zh Y;clear Y N;have ai:=Qdh n;have aj:=QiE n;have ah: ∀w',(binOp .eql 235 (.agg (Xi n)) (.agg #[.bool false,.bool false,.bool false,.bool false,.bool false])).run Tryz.prog w'= .ok (.bool false) w':=fun w'=>by
  rcases (show n=1\/n=2\/n=3\/n=4\/n=5 by omega) with rfl|rfl|rfl|rfl|rfl<;>kernel_rfl
 have W:=Qa3 (Qf (w:=D) (.cells (Xi 0) 235)) (A:=Xi n) rfl aj;have J:=Xr _ _ (Xi n) (Qf (w:=D) (.cells (Xi 0) 235));have I:=Zh (QL ((Zr Ze D).alloc (.cells (Xi 0) 235)) (g:=D.heap.size) (fun h=>absurd h (Nat.lt_irrefl _)) (Xi n));have U:Xi 0= #[.bool false,.bool false,.bool false,.bool false,.bool false]:=rfl;rw[U] at W J I;clear U;have aa:Hid (∀w',Calls Tryz.prog 147 #[.agg (Xi n)] w' (Qaf n w')):=Zh (fun w'=>Qny ae af);generalize Xi n=A at*
 go_upto_region 2 with fail
 have ag:=Xc J ai;have Q:=Zh (O.out.trans I.out (fun _ _ f=>f));clear W O I;generalize World.setRow _ D.heap.size A=w2 at*
 generalize D.heap.size=b at*
 go_wp2_with fail;refine (aa.out _).mono ?_
 rintro e ap ⟨an,ad,rfl,E,_,M⟩;obtain⟨ao,am⟩: ∃cap,an= .slice (some ⟨ad,0,none⟩) n cap:=⟨E.choose,E.choose_spec.1⟩
 subst am;have Z:=Zh (QlK E (ab.out.upd (Q.out.trans M (fun _ _ f=>f)) (fun f=>f)));have ac:=Zh (Q.out.trans M (fun _ _ f=>f));clear ag J ah M E;go_wp2_with fail;refine Z.out.mono ?_
 rintro e aq ⟨rfl,ak⟩;go_wp2_with fail;go_ret;exact⟨rfl,ac.out.trans ak (fun _ _ f=>f)⟩
theorem QhQ(h:QD w v n g):Calls Tryz.prog 209 #[v] w (Is (.int .i64 ((n/2+1:Nat):Int)) w):=by
 obtain⟨cap,rfl,D,E,_⟩:=h;have I:(n:Int).tdiv 2=((n/2:Nat):Int):=by rw[Int.tdiv_eq_ediv_of_nonneg (by omega)];omega
 go_enter Tryz.func209,Tryz.ntmps209;go_wp2_with fail;go_ret;exact⟨rfl,rfl⟩
end
section
open Go.RowKit Go.Acre
def ZS(ys:List Int)(k:Nat):Nat:=((List.range k).filter fun (j:Nat)=>decide ((j:Int)∈ys)).length
theorem QkS(D:List Int)(k:Nat):ZS D (k+1)=ZS D k+(if (k:Int)∈D then 1 else 0):=by
 unfold ZS;rw[List.range_succ,List.filter_append,List.length_append];by_cases h:(k:Int)∈D<;>simp[h]
theorem QkR(D:List Int)(k:Nat):ZS D k<=k:=by
 unfold ZS;have:=List.length_filter_le (fun (j:Nat)=>decide ((j:Int)∈D)) (List.range k);rw[List.length_range] at this;exact this
theorem QrV(h:QD w v n g){a:Option Addr}(J:QN .i64 w (.slice a m cap) zt)(Z:zt.length<=100000):
  Calls Tryz.prog 151 #[v,.slice a m cap] w (Qk (.bool (decide (n/2+1<=ZS zt n))) w):=by
 have N:=Zh (check_any h);have U:=Zh h;have O:Hid (∀x w',Qa Ze w w'->Calls Tryz.prog 91 #[.slice a m cap,.int .i64 x] w' (Is (.bool (decide (x∈zt))) w')):=Zh (fun x w' hu=>Qam (J.Qc hu) x Z);have af:1<=n:=h.choose_spec.2.1;have ag:n<=5:=h.choose_spec.2.2.1;have M:Hid (∀k,k<n->w.cell? ⟨g,k,none⟩=some (.int .i64 (k:Int))):=Zh h.choose_spec.2.2.2.2.2;obtain⟨ae,ab⟩: ∃cap,v= .slice (some ⟨g,0,none⟩) n cap:=⟨h.choose,h.choose_spec.1⟩
 subst ab;clear h J;go_enter Tryz.func151,Tryz.ntmps151;go_wp2_with fail;go_loopw [5,10] (fun ac x wr=> ∃k:Nat,ac= .int .i64 ((ZS zt k:Nat):Int)/\x= .int .i64 k/\k<=n/\wr=w) (fun _ x _=>n - (intOf x).toNat)
 case atStart=>exact⟨0,rfl,rfl,by omega,rfl⟩
 case round=>
  obtain⟨k,rfl,rfl,ai,rfl⟩:=hrel;have ah:=QkR zt k;by_cases hlt:k<n
  ·have aa:(k:Int)< (n:Int):=by omega
   have aj:(0:Int)<=k:=by omega
   have ad:=M.out k hlt;have I:=QkS zt k;have Q:=Zh (O.out (k:Int) wr (Zr _ _));have E:=Zh I;clear I;generalize ZS zt k=c at*
   go_wp2_with fail;refine Q.out.mono ?_
   rintro e w' ⟨rfl,rfl⟩;by_cases hin:(k:Int)∈zt
   ·rw[decide_eq_true hin]
    go_wp2_with fail;exact⟨⟨k+1,by rw[E.out,if_pos hin];go_num,by go_num,by omega,by trivial⟩,by simp[intOf];omega⟩
   ·rw[decide_eq_false hin]
    go_wp2_with fail;exact⟨⟨k+1,by rw[E.out,if_neg hin];go_num,by go_num,by omega,by trivial⟩,by simp[intOf];omega⟩
  ·have aa: ¬(k:Int)< (n:Int):=by omega
   obtain rfl:k=n:=by omega
   generalize ZS zt k=c at*
   go_wp2_with fail;refine N.out.mono ?_
   rintro e w2 ⟨rfl,D⟩;have Y:=Zh D;have W:=Zh (QhQ (U.out.upd D (fun f=>f)));clear D;go_wp2_with fail;refine W.out.mono ?_
   rintro e ak ⟨rfl,rfl⟩;go_wp2_with fail;go_ret;refine⟨?_,Y.out⟩;have e:decide ((k:Int)/2+1<=(c:Int))=decide (k/2+1<=c):=by rw[decide_eq_decide];omega
   show Ending.returned (.bool (decide ((k:Int)/2+1<=(c:Int))))=_;rw[e]
end
end Go.Proofs.YtbleblbfadeciaaGreatDoor
