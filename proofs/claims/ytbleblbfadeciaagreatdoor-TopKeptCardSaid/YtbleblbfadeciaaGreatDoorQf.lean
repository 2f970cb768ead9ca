/- For TopKept. -/
import Derived.Test.YtbleblbfadeciaaGreatDoorQe
import Derived.Test.YtbleblbfadeciaaGreatDoorIta
import Derived.Test.YtbleblbfadeciaaGreatDoorT2
import Derived.Test.YtbleblbfadeciaaGreatDoorPa
set_option linter.all false
set_option maxHeartbeats 16000000
set_option maxRecDepth 10000
namespace Go.Proofs.YtbleblbfadeciaaGreatDoor
variable{la:List Nat}{a b bl bt cap d frm g i j k m n na nb s t x:Nat}{fa:Nat->Nat}{v:Value}{w:World}
section
open Go.RowKit Go.Acre
def QdK(w:World)(g t:Nat)(xs:List Nat)(e:Ending)(w':World):Prop:=e= .returned (.tuple #[])/\ ∃ys,QQ w g t xs w' ys/\ ∀p q,p<q->q<xs.length->gd ys q<=gd ys p
theorem Qow(J:w.heap[g]? =some (.cells (ZQ la) t (0,0)))(U:la.length<=5)(Q:1<=la.length)(E: ∀x∈la,x<=1000000)(k:Nat)(aa:k<=1000):
  Calls Tryz.prog 252 #[.slice (some ⟨g,0,none⟩) la.length la.length,.int .i64 0,.int .i64 la.length,.int .i64 k,.func (.func 213) #[] #[]] w (QdK w g t la):=by
 have N:=Zh (QmF J U Q E);have ab:(la.length:Int)<=12:=by omega
 have ac:la.length<=12:=by omega
 clear J E;go_enter Tryz.func252,Tryz.ntmps252;go_wp2_with fail;go_loopw [1,2] (fun W Y wr=>W= .int .i64 0/\Y= .int .i64 la.length/\wr=w) (fun _ _ _=>0)
 case atStart=>exact⟨rfl,rfl,rfl⟩
 case round=>
  obtain⟨rfl,rfl,rfl⟩:=hrel;go_wp2_with fail;refine N.out.mono ?_
  rintro e w' ⟨rfl,Z,D,I⟩;have O:=Zh D;have M:=Zh I;clear D I;go_wp2_with fail;go_end0;exact⟨rfl,Z,O.out,M.out⟩
theorem Qqt(J:w.heap[g]? =some (.cells (ZQ la) t (0,0)))(Q:la.length<=5)(O:1<=la.length)(I: ∀x∈la,x<=1000000):
  Calls Tryz.prog 212 #[.slice (some ⟨g,0,none⟩) la.length la.length,.func (.func 213) #[] #[]] w (QdK w g t la):=by
 have U:(IntKind.u64.wrap (la.length:Int))=(la.length:Int):=by rw[IntWalk.u64_in _ (by omega)]
 have M:=Zh (Tryz.bits_Len (la.length:Int) w (by omega) (by omega));have D:Lib.bitLen la.length<=1000:=Zt (Lib.bitLen_le la.length 64 (by omega) (by omega)) (by omega);have HP:=Zh (Qow J Q O I (Lib.bitLen la.length) D);clear J I D;go_enter Tryz.func212,Tryz.ntmps212;go_wp2_with fail;refine M.out.mono ?_
 rintro e w' ⟨rfl,rfl⟩;go_wp2_with fail;refine HP.out.mono ?_
 rintro e w' ⟨rfl,E⟩;have N:=Zh E;clear E;go_wp2_with fail;go_end0;exact⟨rfl,N.out⟩
theorem Qmz:(Tryz.prog.info? 30).map (fun i=>(i.zero,i.size,i.bytes))=some (some (.int .u64 0),1,8):=by kernel_rfl
theorem QhI(n m:Nat)(O:n<=m)(N:m<=100000)(u:World):(Instr.makeSlice 141 (.int .i64 (n:Int)) (.int .i64 (m:Int))).run Tryz.prog u= .ok (.slice (some ⟨u.heap.size,0,none⟩) n m) (u.alloc (.cells (madeCells #[.int .u64 0] m) 30)):=by
 obtain⟨M,D,E,I,J⟩:=info_parts Qmz;have h:=run_make u (P:=Tryz.prog) 141 30 M (.int .u64 0) Tryz.underlying141 D E .i64 .i64 (n:Int) (m:Int) (by omega) (by omega) (by rw[J];omega) (by omega);rw[h,I];simp[Value.cells]
def KX(xs:List Nat)(v:Nat):Prop:= ∃ys,ys.Perm xs/\(∀p q,p<q->q<xs.length->gd ys q<=gd ys p)/\v=gd ys (xs.length/2)
theorem QkZ(h:QD w v n g){a:Option Addr}(U:QN .u64 w (.slice a m cap) (la.map Nat.cast))(O:la.length=n)(aa: ∀x∈la,x<=1000000):
  Calls Tryz.prog 154 #[v,.slice a m cap] w (fun e w'=>(∃c:Nat,KX la c/\e= .returned (.int .u64 (c:Int)))/\Qa Ze w w'):=by
 have aj:=Zh (check_any h);have al:=Zh h;have aE:1<=n:=h.choose_spec.2.1;have aI:n<=5:=h.choose_spec.2.2.1;obtain⟨aD,E⟩: ∃cap,v= .slice (some ⟨g,0,none⟩) n cap:=⟨h.choose,h.choose_spec.1⟩
 subst E;have ax:m=n:=by
  obtain⟨_,_,E⟩:=U.slice;simp only[Value.slice.injEq] at E;rw[E.2.1,List.length_map,O]
 subst ax;have aq:=Zh U;have ai:=Zh aa;have J:=Zh O;clear h U aa;go_enter Tryz.func154,Tryz.ntmps154;go_wp2_with fail;refine aj.out.mono ?_
 rintro e D ⟨rfl,ae⟩;have N:=Zh ae;have aN:=QhI m m (Zf _) (by omega) D;clear ae;have av: ∃wc,(Builtin.copy_ #[141,141] 3 #[.slice (some ⟨D.heap.size,0,none⟩) m m,.slice a m cap]).run Tryz.prog (D.alloc (.cells (madeCells #[.int .u64 0] m) 30))= .ok (goInt m) wc/\wc.heap[D.heap.size]? =some (.cells (ZQ la) 30 (0,0))/\Qa Ze D wc:=by
  have ah:=Qf (w:=D) (.cells (madeCells #[.int .u64 0] m) 30);have af:Qa Ze D (D.alloc (.cells (madeCells #[.int .u64 0] m) 30)):=(Zr _ D).alloc _;obtain⟨hlen,aC,c',E,aF,aG,aH,ab⟩:=aq.out;simp only[Value.slice.injEq,true_and] at E;obtain⟨rfl,aM,rfl⟩:=E;have ay:(List.map (Value.int .u64) (List.map Nat.cast la))≠[]:=by
   intro e;have:la.length=0:=by simpa using congrArg List.length e
   have:=J.out;omega
  obtain⟨b,o,ar,au⟩:=ab ay;subst ar;have M:List.map (Value.int .u64) (List.map Nat.cast la)=(ZQ la).toList :=by
   unfold ZQ;simp[Qcq]
  have hsz:(ZQ la).toList.length =m:=by rw[<-M];simp[J.out]
  have az: ∀j v,(ZQ la).toList[j]? =some v->(D.alloc (.cells (madeCells #[.int .u64 0] m) 30)).cell? (Addr.add ⟨b,o,none⟩ j)=some v:=by
   intro j v E;have aw:=(List.getElem?_eq_some_iff.1 E).1;rw[Addr.add_mid];refine Qe af ?_ (fun f=>f)
   refine Qe N.out ?_ (fun f=>f)
   rw[au j (by rw[M];exact aw),M];exact E
  have ac:Nat.min m m=m:=Nat.min_self _;have ad:=Qix (P:=Tryz.prog) (D.alloc (.cells (madeCells #[.int .u64 0] m) 30)) 141 141 3 30 D.heap.size 0 m m ⟨b,o,none⟩ m cap 1 _ 30 (ZQ la).toList Tryz.underlying141 (by kernel_rfl) ah (by rw[hsz,ac];omega) az (by rw[hsz,size_madeCells];simp) (by
   intro v E;rw[<-M] at E;simp only[List.mem_map] at E;obtain⟨z,_,rfl⟩:=E;rfl)
  refine⟨_,ad.trans (by rw[ac]),?_,?_⟩
  ·rw[Xr _ _ _ ah]
   congr 2
   apply Array.ext';simp[hsz,size_madeCells]
  ·exact QL af (fun h=>absurd h (Nat.lt_irrefl _)) _
 obtain⟨wc,ad,W,ag⟩:=av;have aB:=Zh W;have ap:=Zh ag;have an:Hid (Calls Tryz.prog 212 #[.slice (some ⟨D.heap.size,0,none⟩) m m,.func (.func 213) #[] #[]] wc (QdK wc D.heap.size 30 la)):=by
  have:=Qqt W (by omega) (by omega) ai.out;rw[O] at this;exact Zh this
 clear W ag;go_wp2_with fail;refine an.out.mono ?_
 rintro e aA ⟨rfl,Y,I,Z⟩;have hlen:=I.len;have ak:Hid (KX la (gd Y (m/2))):=Zh ⟨Y,I.perm,Z,by rw[J.out]⟩;have ab:=I.cell (k:=m/2) (by have:=J.out;omega);have Q:Qa Ze w aA:=(N.out.trans ap.out (fun _ _ f=>f)).trans I.upd (fun i hi e=>by
  have:=N.out.size;omega)
 have ao:=Zh Q;have am:=Zh (QhQ (al.out.upd Q (fun f=>f)));have aJ:IntKind.i64.wrap ((m:Int)/2+1 - 1)=((m/2:Nat):Int):=by rw[IntWalk.i64_in _ (by omega)];omega
 have aK:(0:Int)<=((m/2:Nat):Int):=by omega
 have aL:((m/2:Nat):Int)< (m:Int):=by omega
 clear I Z hlen Q;generalize gd Y (m/2)=c at*
 generalize hq:m/2=q at*
 generalize D.heap.size=b at*
 go_wp2_with fail;refine am.out.mono ?_
 rintro e aO ⟨rfl,rfl⟩;go_wp2_with fail;go_ret;exact⟨⟨c,ak.out,rfl⟩,ao.out⟩
end
section
structure Core where
 id:Nat
 elect:Nat
 beat:Nat
 term:Nat
 vote:Option Nat
 n:Nat
 bi:Nat
 bt:Nat
 l:List En
 commit:Nat
 role:Nat
 known:Int
 waits:Nat
 beats:Nat
 yes:List Nat
 next:List Nat
 mtch:List Nat
structure Mg where
 kind:Nat
 term:Nat
 idx:Nat
 lt:Nat
 com:Nat
 ok:Bool
 es:List En
 bi:Nat
 bt:Nat
structure Ou where
 frm:Nat
 rest:Option (Nat×Nat)
 sends:List (Nat×Mg)
def Core.last(c:Core):Nat:=lastOf c.bi c.l
def Core.lastT(c:Core):Nat:=YtbleblbfadeciaaGreatDoor.lastT c.bt c.l
def Core.own(c:Core)(k:Nat):Mg:=⟨k,c.term,0,0,0,false,[],0,0⟩
def Xs(bi:Nat)(l:List En)(x most:Nat):List En:=if x<=bi\/bi+l.length<x then [] else (l.drop (x - bi - 1)).take most
def Core.lacks(c:Core)(d:Nat):Mg:=
 match Qu c.bi c.bt c.l (gd c.next d - 1) with
 |none=>c.own 5
 |some t=>⟨3,c.term,gd c.next d - 1,t,c.commit,false,Xs c.bi c.l (gd c.next d) 8,0,0⟩
def Ou.send(o:Ou)(d:Nat)(m:Mg):Ou:={o with sends:=o.sends++[(d,m)]}
def Q8(id:Nat)(f:Nat->Mg):Nat->Nat->Ou->Ou
 |0,_,o=>o
 |r+1,k,o=>Q8 id f r (k+1) (if k=id then o else o.send k (f k))
def Core.others(c:Core)(f:Nat->Mg)(o:Ou):Ou:=Q8 c.id f c.n 0 o
def Core.tell(c:Core)(o:Ou):Core×Ou:=({c with beats:=0},c.others c.lacks o)
def Qao(a b:Nat):Bool:=decide (b<=a)
def KI(xs:List Nat):Nat:=gd (xs.mergeSort Qao) (xs.length/2)
def Core.reached(c:Core):List Nat:=(List.range c.n).map (gd (c.mtch.set c.id c.last))
def Core.settle(c:Core):Core:=
 {c with mtch:=c.mtch.set c.id c.last,commit:=if c.commit<KI c.reached/\(Qu c.bi c.bt c.l (KI c.reached)).getD 0=c.term then KI c.reached else c.commit}
def Core.put(c:Core)(s:Nat)(o:Ou):Core×Ou:=({c with l:=c.l++[(c.term,s)]}:Core).settle.tell o
def Core.lead(c:Core)(o:Ou):Core×Ou:=
 ({c with role:=2,known:=c.id,next:=List.replicate 5 (c.last+1),mtch:=List.replicate 5 0}:Core).put 0 o
def Core.Kz(c:Core):Bool:=decide (c.n/2+1<=ZS (c.yes.map Nat.cast) c.n)
def Core.stood(c:Core):Core:={c with term:=c.term+1,vote:=some c.id,role:=1,known:= -1,waits:=0,yes:=[c.id]}
def Core.stand(c:Core)(o:Ou):Core×Ou:=
 if c.stood.Kz then ((c.stood.lead o).1,{(c.stood.lead o).2 with frm:=c.last+1})
 else (c.stood,c.stood.others (fun _=>⟨1,c.term+1,c.last,c.lastT,0,false,[],0,0⟩) {o with frm:=0})
def Core.tick(c:Core)(draw:Nat)(o:Ou):Core×Ou:=
 if c.role=2 then
  if c.beat<=c.beats+1 then ({c with beats:=c.beats+1}:Core).tell o else ({c with beats:=c.beats+1},o)
 else if c.elect+draw%c.elect<=c.waits+1 then ({c with waits:=c.waits+1}:Core).stand o
 else ({c with waits:=c.waits+1},o)
def Core.Zk(c:Core)(d kind:Nat)(ok:Bool)(i:Nat)(o:Ou):Ou:=o.send d ⟨kind,c.term,i,0,0,ok,[],0,0⟩
def Core.grants(c:Core)(frm:Nat)(m:Mg):Bool:=decide (m.term=c.term/\(c.vote=none\/c.vote=some frm)/\(c.lastT<m.lt\/m.lt=c.lastT/\c.last<=m.idx))
def Core.asked(c:Core)(frm:Nat)(m:Mg)(o:Ou):Core×Ou:=
 (if c.grants frm m then {c with vote:=some frm,waits:=0} else c,c.Zk frm 2 (c.grants frm m) 0 o)
def Core.Zb(c:Core)(frm:Nat)(m:Mg)(o:Ou):Core×Ou:=
 if m.term=c.term/\c.role=1/\m.ok=true then
  if ({c with yes:=frm::c.yes}:Core).Kz then
   ((({c with yes:=frm::c.yes}:Core).lead o).1,{(({c with yes:=frm::c.yes}:Core).lead o).2 with frm:=c.last+1})
  else ({c with yes:=frm::c.yes},o)
 else (c,o)
def Core.clash(c:Core)(m:Mg):Bool:=(List.range m.es.length).any fun k=>decide (c.bi<m.idx+k+1/\m.idx+k+1<=c.commit/\(Qu c.bi c.bt c.l (m.idx+k+1)).getD 0≠(m.es.getD k (0,0)).1)
def Xa(bi bt:Nat)(l:List En)(idx:Nat):List En->Nat->Nat
 |[],_=>0
 |e::r,k=>if bi<idx+k+1/\Qu bi bt l (idx+k+1)≠some e.1 then idx+k+1 else Xa bi bt l idx r (k+1)
def Core.led(c:Core)(frm:Nat)(m:Mg)(o:Ou):Core×Ou:=
 if m.term<c.term then (c,c.Zk frm 4 false 0 o)
 else if c.role=2 then (c,o)
 else if m.kind=5 then
  if c.commit<m.bi then
   let c':Core:={c with role:=0,known:=frm,waits:=0,bi:=m.bi,bt:=m.bt,l:=Q1 c.bi c.bt c.l m.bi m.bt,commit:=m.bi}
   (c',c'.Zk frm 4 true m.bi {o with rest:=some (m.bi,m.bt)})
  else
   let c':Core:={c with role:=0,known:=frm,waits:=0}
   (c',c'.Zk frm 4 true c.commit o)
 else
  let c':Core:={c with role:=0,known:=frm,waits:=0}
  if c.clash m then (c',o)
  else if ZH c.bi c.bt c.l m.idx m.lt=true then
   let f:=Xa c.bi c.bt c.l m.idx m.es 0
   let c'':Core:={c' with l:=if f=0 then c.l else c.l.take (f - c.bi - 1)++m.es.drop (f - m.idx - 1),commit:=max c.commit (min m.com (m.idx+m.es.length))}
   (c'',c''.Zk frm 4 true (m.idx+m.es.length) {o with frm:=f})
  else (c',c'.Zk frm 4 false (KE c.bi c.l m.idx) {o with frm:=0})
def Core.appended(c:Core)(frm:Nat)(m:Mg)(o:Ou):Core×Ou:=
 if m.term≠c.term\/c.role≠2\/(m.ok=true/\c.last<m.idx) then (c,o)
 else
  let c':Core:=if m.ok=false then {c with next:=c.next.set frm (max (min (gd c.next frm - 1) (m.idx+1)) (gd c.mtch frm+1))}
   else if gd c.mtch frm<m.idx then ({c with mtch:=c.mtch.set frm m.idx,next:=c.next.set frm (max (gd c.next frm) (m.idx+1))}:Core).settle
   else c
  (c',if m.ok=false\/gd c'.next frm<=c.last then o.send frm (c'.lacks frm) else o)
def Core.bump(c:Core)(t:Nat):Core:=if c.term<t then {c with term:=t,vote:=none,role:=0,known:= -1} else c
def Core.step(c:Core)(frm:Nat)(m:Mg)(o:Ou):Core×Ou:=
 if m.kind=1 then (c.bump m.term).asked frm m o
 else if m.kind=2 then (c.bump m.term).Zb frm m o
 else if m.kind=4 then (c.bump m.term).appended frm m o
 else (c.bump m.term).led frm m o
def Ou.none:Ou:=⟨0,Option.none,[]⟩
end
section
open Raft
structure Qci(g:G)(bt bl:Nat):Prop where
 term: ∀i,i<g.n->g.term i<=bt
 full: ∀i,i<g.n->(g.full i).length <=bl
 T: ∀t w L,g.T t=some (w,L)->t<=bt/\L.length<=bl
 CL: ∀c t l,g.CL c t=some l->t<=bt/\l.length<=bl
structure Nx(c:Core):Prop where
 nl:c.next.length=5
 ml:c.mtch.length=5
 lead:c.role=2-> ∀j,j<5->1<=gd c.next j/\gd c.next j<=c.last+1/\gd c.mtch j<=c.last
 role:c.role<=2
structure WP(g:G)(i:Nat)(c:Core):Prop where
 id:c.id=i
 n:c.n=g.n
 n5:g.n<=5
 term:g.term i=c.term
 vote:g.vote i=c.vote
 len:(g.full i).length =c.bi+c.l.length
 drop:(g.full i).drop c.bi=c.l
 bt:tm (g.full i) (c.bi - 1)=c.bt
 bi:g.bi i=c.bi
 commit:g.commit i=c.commit
 role:g.role i=c.role
 yes: ∀j,j<g.n->j∈c.yes->g.yes i j
 mtch: ∀j,j<g.n->g.mtch i j=gd c.mtch j
structure Qm(g:G)(i:Nat)(c:Core)(bt bl:Nat):Prop where
 inv:Inv g
 bnd:Qci g bt bl
 rel:WP g i c
 nx:Nx c
 hi:i<g.n
structure Mv(g g':G)(i:Nat):Prop where
 le:Le g g'
 off: ∀j,j≠i->g'.term j=g.term j/\g'.vote j=g.vote j/\g'.full j=g.full j/\g'.bi j=g.bi j/\g'.commit j=g.commit j/\g'.role j=g.role j/\g'.yes j=g.yes j/\g'.mtch j=g.mtch j
theorem Mv.refl(g:G)(i:Nat):Mv g g i:=⟨Le.refl g,fun _ _=>⟨rfl,rfl,rfl,rfl,rfl,rfl,rfl,rfl⟩⟩
theorem Mv.trans{a b c:G}(h:Mv a b i)(k:Mv b c i):Mv a c i:=by
 refine⟨h.le.trans k.le,fun j D=> ?_⟩;obtain⟨E,I,J,M,N,O,Q,U⟩:=h.off j D;obtain⟨W,Y,Z,aa,ab,ac,ad,ae⟩:=k.off j D;exact⟨W.trans E,Y.trans I,Z.trans J,aa.trans M,ab.trans N,ac.trans O,ad.trans Q,ae.trans U⟩
theorem WP.other{g g':G}{c:Core}(h:WP g j c)(J:Mv g g' i)(M:j≠i):WP g' j c:=by
 obtain⟨O,Q,I,U,W,Y,Z,aa⟩:=J.off j M;have D:=J.le.n;exact⟨h.id,by rw[D];exact h.n,by rw[D];exact h.n5,O.trans h.term,Q.trans h.vote,by rw[I];exact h.len,by rw[I];exact h.drop,by rw[I];exact h.bt,U.trans h.bi,W.trans h.commit,Y.trans h.role,
  fun x E N=>by rw[Z];exact h.yes x (by rw[<-D];exact E) N,fun x E=>by rw[aa];exact h.mtch x (by rw[<-D];exact E)⟩
def Zn(g:G)(frm dest:Nat)(m:Mg):Prop:=
 1<=m.term/\1<=m.kind/\m.kind<=5/\frm<g.n/\dest<g.n/\dest≠frm/\
 (m.kind=1-> ∃l,g.CL frm m.term=some l/\m.idx=l.length/\m.lt=Raft.lastT l)/\
 (m.kind=2->m.ok=true-> ∃l b,g.VR frm m.term=some (dest,l,b))/\
 (m.kind=3-> ∃w L,g.T m.term=some (w,L)/\1<=m.idx/\m.idx+m.es.length<=L.length/\m.es=(L.drop m.idx).take m.es.length/\m.lt=tm L (m.idx - 1)/\Com g m.term (L.take (min m.com (m.idx+m.es.length)))/\m.com<=L.length)/\
 (m.kind=4->m.ok=true->m.idx<=g.A frm m.term)/\
 (m.kind=5-> ∃w L,g.T m.term=some (w,L)/\1<=m.bi/\m.bi<=L.length/\m.bt=tm L (m.bi - 1)/\Com g m.term (L.take m.bi))
theorem Qrj{L D:Log}(h:L <+: D)(E:a+k<=L.length):(D.drop a).take k=(L.drop a).take k:=by
 obtain⟨s,rfl⟩:=h;rw[List.drop_append_of_le_length (by omega),List.take_append_of_le_length (by rw[List.length_drop];omega)]
theorem Zn.mono{g g':G}(E:Le g g'){m:Mg}(h:Zn g frm na m):Zn g' frm na m:=by
 obtain⟨Z,aa,ab,ac,ad,ae,af,ag,ah,ai,aj⟩:=h;refine⟨Z,aa,ab,by rw[E.n];exact ac,by rw[E.n];exact ad,ae,fun e=> ?_,fun e e2=> ?_,fun e=> ?_,fun e e2=>Zt (ai e e2) (E.A _ _),fun e=> ?_⟩
 ·obtain⟨l,I,M,J⟩:=af e
  exact⟨l,E.CL _ _ _ I,M,J⟩
 ·obtain⟨l,b,I⟩:=ag e e2
  exact⟨l,b,E.VR _ _ _ I⟩
 ·obtain⟨w,L,I,M,J,O,Q,W,Y⟩:=ah e
  obtain⟨N,U,D⟩:=E.T _ _ _ I;refine⟨w,N,U,M,Zt J D.length_le,?_,?_,?_,Zt Y D.length_le⟩
  ·rw[Qrj D J];exact O
  ·rw[Q];exact Z7 D (by omega)
  ·rw[<-Qat D (by omega)];exact W.mono E (Zf _)
 ·obtain⟨w,L,I,M,J,O,Q⟩:=aj e
  obtain⟨N,U,D⟩:=E.T _ _ _ I;refine⟨w,N,U,M,Zt J D.length_le,?_,?_⟩
  ·rw[O];exact Z7 D (by omega)
  ·rw[<-Qat D J];exact Q.mono E (Zf _)
def Core.fix(c:Core)(m:Mg):Mg:=if m.kind=5 then {m with bi:=c.bi,bt:=c.bt} else m
def QO(g:G)(i:Nat)(c:Core)(o:Ou):Prop:= ∀x∈o.sends,Zn g i x.1 (c.fix x.2)
theorem Qcd{g:G}{c:Core}(h:WP g i c)(E:1<=c.bi)(D:Qu c.bi c.bt c.l x=some t):1<=x/\x<=(g.full i).length /\tm (g.full i) (x - 1)=t:=by
 unfold Qu at D;split at D
 ·rename_i e
  subst e;simp only[Option.some.injEq] at D;subst D;exact⟨E,by have:=h.len;omega,h.bt⟩
 ·split at D
  ·rename_i h1 h2
   cases e:c.l[x - c.bi - 1]? with
   |none=>rw[e] at D;cases D
   |
    some y=>
    rw[e] at D;simp only[Option.map_some,Option.some.injEq] at D;obtain⟨J,I⟩:=List.getElem?_eq_some_iff.1 e
    have hlen:=h.len;refine⟨by omega,by omega,?_⟩;unfold tm;rw[List.getD_eq_getElem?_getD];have:(g.full i)[x - 1]? =c.l[x - c.bi - 1]? :=by
     rw[<-h.drop,List.getElem?_drop]
     congr 1
     omega
    rw[this,e];exact D
  ·cases D
theorem Qdn{g:G}{c:Core}(h:WP g i c)(D:c.bi<=x)(E:x<=(g.full i).length):Qu c.bi c.bt c.l x=some (tm (g.full i) (x - 1)):=by
 unfold Qu;split
 ·rename_i e
  subst e;rw[h.bt]
 ·rw[if_pos (by omega)]
  have:c.l[x - c.bi - 1]? =(g.full i)[x - 1]? :=by
   rw[<-h.drop,List.getElem?_drop]
   congr 1
   omega
  rw[this,List.getElem?_eq_getElem (by omega),Option.map_some,ZU (by omega)]
theorem QcT{g:G}{c:Core}(h:WP g i c):Raft.lastT (g.full i)=c.lastT:=by
 unfold Raft.lastT Core.lastT lastT;have hlen:=h.len
 cases e:c.l.getLast? with
 |
  none=>
  have:c.l=[]:=by simpa using e
  rw[this] at hlen;rw[hlen];exact h.bt
 |
  some y=>
  have E:c.l≠[]:=by
   intro D;rw[D] at e
   cases e
  have I:=List.length_pos_iff.2 E;rw[List.getLast?_eq_getElem?] at e;unfold tm;rw[List.getD_eq_getElem?_getD];have:(g.full i)[(g.full i).length - 1]? =c.l[c.l.length - 1]? :=by
   rw[<-h.drop,List.getElem?_drop]
   congr 1
   rw[List.length_drop];omega
  rw[this,e];rfl
theorem Qm.ZI{g:G}{c:Core}(h:Qm g i c bt bl):1<=c.bi/\c.bi<=c.commit/\c.commit<=c.last/\Com g c.term ((g.full i).take c.commit):=by
 obtain⟨E,I,J,D⟩:=h.inv.com i h.hi;rw[h.rel.bi,h.rel.commit] at*
 rw[h.rel.term] at D;exact⟨E,I,by unfold Core.last lastOf;rw[<-h.rel.len];exact J,D⟩
theorem Qm.bump{g:G}{c:Core}(h:Qm g i c bt bl)(t:Nat)(J:t<=bt): ∃g',Mv g g' i/\Qm g' i (c.bump t) bt bl:=by
 unfold Core.bump;split
 ·rename_i hlt
  obtain⟨E,I⟩:=h.inv.bump (i:=i) (t:=t) h.hi (by rw[h.rel.term];exact hlt);refine⟨g.bump i t,⟨I,fun j D=>⟨upd_ne _ _ D,upd_ne _ _ D,rfl,rfl,rfl,upd_ne _ _ D,rfl,rfl⟩⟩,E,⟨fun j D=> ?_,h.bnd.full,h.bnd.T,h.bnd.CL⟩,
   ⟨h.rel.id,h.rel.n,h.rel.n5,upd_same _ _ _,upd_same _ _ _,h.rel.len,h.rel.drop,h.rel.bt,h.rel.bi,h.rel.commit,upd_same _ _ _,h.rel.yes,h.rel.mtch⟩,⟨h.nx.nl,h.nx.ml,fun e=>(by cases e),Zz _⟩,h.hi⟩
  show upd g.term i t j<=bt;unfold upd;split
  ·exact J
  ·exact h.bnd.term j D
 ·exact⟨g,Mv.refl g i,h⟩
theorem Qm.soft{g:G}{c c':Core}(h:Qm g i c bt bl)(e1:c'.id=c.id)(J:c'.n=c.n)(M:c'.term=c.term)(N:c'.vote=c.vote)(D:c'.bi=c.bi)(O:c'.bt=c.bt)(E:c'.l=c.l)(Q:c'.commit=c.commit)(I:c'.role=c.role)(e10:c'.yes=c.yes)(e11:c'.mtch=c.mtch)(e12:c'.next=c.next):Qm g i c' bt bl:=by
 obtain⟨a,b,r,x,k⟩:=h;refine⟨a,b,⟨e1.trans r.id,J.trans r.n,r.n5,by rw[M];exact r.term,by rw[N];exact r.vote,by rw[D,E];exact r.len,by rw[D,E];exact r.drop,by rw[D,O];exact r.bt,by rw[D];exact r.bi,by rw[Q];exact r.commit,by rw[I];exact r.role,by rw[e10];exact r.yes,by rw[e11];exact r.mtch⟩,
  ⟨by rw[e12];exact x.nl,by rw[e11];exact x.ml,fun e j U=> ?_,by rw[I];exact x.role⟩,k⟩
 rw[I] at e;have:=x.lead e j U;unfold Core.last at*
 rw[e12,e11,D,E];exact this
theorem Qm.follow{g:G}{c c':Core}(h:Qm g i c bt bl)(e1:c'.id=c.id)(J:c'.n=c.n)(M:c'.term=c.term)(N:c'.vote=c.vote)(D:c'.bi=c.bi)(O:c'.bt=c.bt)(I:c'.l=c.l)(Q:c'.commit=c.commit)(E:c'.role=0)(e10:c'.yes=c.yes)(e11:c'.mtch=c.mtch)(e12:c'.next=c.next): ∃g',Mv g g' i/\Qm g' i c' bt bl:=by
 obtain⟨U,W⟩:=h.inv.follow i;obtain⟨a,b,r,x,k⟩:=h;refine⟨g.follow i,⟨W,fun j Y=>⟨rfl,rfl,rfl,rfl,rfl,upd_ne _ _ Y,rfl,rfl⟩⟩,U,⟨b.term,b.full,b.T,b.CL⟩,
  ⟨e1.trans r.id,J.trans r.n,r.n5,by rw[M];exact r.term,by rw[N];exact r.vote,by rw[D,I];exact r.len,by rw[D,I];exact r.drop,by rw[D,O];exact r.bt,by rw[D];exact r.bi,by rw[Q];exact r.commit,by rw[E];exact upd_same _ _ _,by rw[e10];exact r.yes,by rw[e11];exact r.mtch⟩,
  ⟨by rw[e12];exact x.nl,by rw[e11];exact x.ml,fun e=>(by rw[E] at e;cases e),by rw[E];exact Zz _⟩,k⟩
theorem Ks(l:List Nat)(k v x:Nat)(D:k<l.length):gd (l.set k v) x=if x=k then v else gd l x:=by
 unfold gd;rw[List.getD_eq_getElem?_getD,List.getElem?_set,List.getD_eq_getElem?_getD];by_cases h:k=x
 ·subst h
  simp[D]
 ·rw[if_neg h,if_neg (fun e=>h e.symm)]
theorem Qqn{g:G}{c:Core}(h:WP g i c)(D:Nat)(E:c.bi<x):x - 1+(Xs c.bi c.l x D).length <=max (g.full i).length (x - 1)/\Xs c.bi c.l x D=((g.full i).drop (x - 1)).take (Xs c.bi c.l x D).length :=by
 have hlen:=h.len;unfold Xs;split
 ·simp only[List.length_nil,List.take_zero,and_true]
  omega
 ·have e:c.l.drop (x - c.bi - 1)=(g.full i).drop (x - 1):=by
   rw[<-h.drop,List.drop_drop]
   congr 1
   omega
  rw[e];refine⟨?_,?_⟩
  ·rw[List.length_take,List.length_drop]
   omega
  ·rw[List.length_take,List.take_eq_take_iff]
   omega
theorem Qm.lead{g:G}{c:Core}(h:Qm g i c bt bl)(I:c.role=2):g.T c.term=some (i,g.full i)/\(g.full i).length <=g.A i c.term:=by
 obtain⟨D,_,E⟩:=h.inv.lead i h.hi (by rw[h.rel.role];exact I);rw[h.rel.term] at D E;exact⟨D,E⟩
theorem Qm.ZG{g:G}{c:Core}(h:Qm g i c bt bl):1<=c.term:=by
 have:=h.inv.Qfb h.hi
 rwa [h.rel.term] at this
theorem Qm.Qhr{g:G}{c:Core}(h:Qm g i c bt bl)(N:c.role=2)(J:d<g.n)(M:d≠i):Zn g i d (c.fix (c.lacks d)):=by
 obtain⟨I,_⟩:=h.lead N;obtain⟨D,U,aa,E⟩:=h.ZI;have hlen:=h.rel.len;have ad:=h.rel.n5;obtain⟨af,n2,_⟩:=h.nx.lead N d (by omega);have ac:c.last=(g.full i).length :=by rw[hlen];rfl
 have O:=h.ZG;unfold Core.lacks
 cases e:Qu c.bi c.bt c.l (gd c.next d - 1) with
 |
  none=>
  refine⟨O,by show 1<=5;omega,by show 5<=5;omega,h.hi,J,M,fun e=>(by cases e),fun e=>(by cases e),fun e=>(by cases e),fun e=>(by cases e),fun _=> ?_⟩;refine⟨i,g.full i,I,D,?_,h.rel.bt.symm,?_⟩
  ·show c.bi<=_
   omega
  ·exact E.sub (Raft.Qcc _ U)
 |
  some t=>
  obtain⟨W,ab,Y⟩:=Qcd h.rel D e;have ae:=(termAt_ge e)
  obtain⟨Q,Z⟩:=Qqn h.rel (x:=gd c.next d) 8 (by omega);refine⟨O,by show 1<=3;omega,by show 3<=5;omega,h.hi,J,M,fun e=>(by cases e),fun e=>(by cases e),fun _=> ?_,fun e=>(by cases e),fun e=>(by cases e)⟩;refine⟨i,g.full i,I,W,?_,Z,Y.symm,?_,?_⟩
  ·show gd c.next d - 1+_<=_
   have:max (g.full i).length (gd c.next d - 1)=(g.full i).length :=by omega
   rw[this] at Q;exact Q
  ·exact E.sub (Raft.Qcc _ (Nat.min_le_left _ _))
  ·show c.commit<=_
   omega
where
 termAt_ge {bi bt:Nat} {l:List En} {x t:Nat} (h:Qu bi bt l x=some t):bi<=x:=by
  unfold Qu at h;split at h
  ·omega
  ·split at h
   ·omega
   ·cases h
theorem Qh1{g:G}{i:Nat}{c:Core}{f:Nat->Mg}: ∀(r k:Nat) (o:Ou),QO g i c o->(∀d,d<k+r->d≠i->Zn g i d (c.fix (f d)))->QO g i c (Q8 i f r k o)
 |0,_,_,h,_=>h
 |
  r+1,k,o,h,hf=>by
  rw[Q8]
  refine Qh1 r (k+1) _ ?_ (fun d J=>hf d (by omega))
  split
  ·exact h
  ·rename_i hk
   intro x E
   have I:x∈o.sends++[(k,f k)]:=E
   rcases List.mem_append.1 I with D|D
   ·exact h x D
   ·rw[List.mem_singleton] at D
    subst D
    exact hf k (by omega) hk
theorem KQ(id:Nat)(f:Nat->Mg): ∀(r k:Nat) (o:Ou),(Q8 id f r k o).frm =o.frm/\(Q8 id f r k o).rest =o.rest
 |0,_,_=>⟨rfl,rfl⟩
 |
  r+1,k,o=>by
  rw[Q8]
  obtain⟨D,E⟩:=KQ id f r (k+1) (if k=id then o else o.send k (f k))
  rw[D,E]
  split<;>exact⟨rfl,rfl⟩
theorem Qm.Qh2{g:G}{c:Core}(h:Qm g i c bt bl){f:Nat->Mg}{o:Ou}(I:QO g i c o)(E: ∀d,d<g.n->d≠i->Zn g i d (c.fix (f d))):QO g i c (c.others f o):=by
 unfold Core.others;rw[h.rel.id];exact Qh1 _ _ _ I (fun d J D=>E d (by rw[<-h.rel.n];omega) D)
theorem Qm.Qfa{g:G}{c:Core}(h:Qm g i c bt bl)(J:c.role=2){o:Ou}(I:QO g i c o):Qm g i (c.tell o).1 bt bl/\QO g i (c.tell o).1 (c.tell o).2/\(c.tell o).2.frm =o.frm/\(c.tell o).2.rest =o.rest:=by
 refine⟨h.soft rfl rfl rfl rfl rfl rfl rfl rfl rfl rfl rfl rfl,?_,(KQ _ _ _ _ _).1,(KQ _ _ _ _ _).2⟩;exact h.Qh2 I (fun d D E=>h.Qhr J D E)
theorem Qf7{v:Nat}(h:KX la v)(Q:0<la.length):la.length/2+1<=la.countP (fun x=>decide (v<=x)):=by
 obtain⟨D,I,N,rfl⟩:=h;have hlen:=I.length_eq;rw[<-I.countP_eq];have e:D=D.take (la.length/2+1)++D.drop (la.length/2+1):=(List.take_append_drop _ _).symm;have E:(D.take (la.length/2+1)).countP (fun x=>decide (gd D (la.length/2)<=x))=la.length/2+1:=by
  have:(D.take (la.length/2+1)).countP (fun x=>decide (gd D (la.length/2)<=x))=(D.take (la.length/2+1)).length :=by
   rw[List.countP_eq_length];intro x O;obtain⟨k,M,rfl⟩:=List.mem_iff_getElem.1 O;rw[List.length_take] at M;rw[List.getElem_take];simp only[decide_eq_true_eq];have J:D[k]=gd D k:=by simp[gd,List.getD_eq_getElem?_getD,List.getElem?_eq_getElem (show k<D.length by omega)]
   rw[J];rcases Nat.lt_or_eq_of_le (show k<=la.length/2 by omega) with E|rfl
   ·exact N k (la.length/2) E (by omega)
   ·exact Zf _
  rw[this,List.length_take];omega
 calc la.length/2+1=(D.take (la.length/2+1)).countP (fun x=>decide (gd D (la.length/2)<=x)):=E.symm
  _<=D.countP (fun x=>decide (gd D (la.length/2)<=x)):=List.Sublist.countP_le (List.take_sublist _ _)
theorem Qcx(D:List Nat):KX D (KI D):=by
 refine⟨D.mergeSort Qao,List.mergeSort_perm _ _,fun p q E N=> ?_,rfl⟩;have hlen:(D.mergeSort Qao).length =D.length:=(List.mergeSort_perm D Qao).length_eq;have I:=List.pairwise_mergeSort (le:=Qao) (fun a b c J M=>by unfold Qao at*;simp only[decide_eq_true_eq] at*;omega) (fun a b=>by unfold Qao;simp only[Bool.or_eq_true,decide_eq_true_eq];omega) D;have:=List.pairwise_iff_getElem.1 I p q (by omega) (by omega) E;unfold Qao at this;simp only[decide_eq_true_eq] at this;unfold gd;rw[List.getD_eq_getElem?_getD,List.getD_eq_getElem?_getD,List.getElem?_eq_getElem (by omega),List.getElem?_eq_getElem (by omega)];exact this
theorem QnC(n:Nat)(f:Nat->Nat)(v:Nat)(h:n/2+1<=((List.range n).map f).countP (fun x=>decide (v<=x))):Z9 n (fun j=>v<=f j):=by
 refine⟨(List.range n).filter (fun j=>decide (v<=f j)),List.nodup_range.filter _,fun j hj=> ?_,?_⟩
 ·rw[List.mem_filter,List.mem_range,decide_eq_true_eq] at hj
  exact hj
 ·rw[List.countP_map,List.countP_eq_length_filter] at h
  exact h
theorem QkX(n:Nat)(D:0<n)(f:Nat->Nat):Z9 n (fun j=>KI ((List.range n).map f)<=f j):=by
 refine QnC n f _ ?_
 have:=Qf7 (Qcx ((List.range n).map f)) (by simpa using D)
 rwa [List.length_map,List.length_range] at this
theorem QdX{v:Nat}(h:KX la v)(J:0<la.length):v∈la:=by
 obtain⟨D,I,_,rfl⟩:=h;have hlen:=I.length_eq;rw[<-I.mem_iff];have E:la.length/2<D.length:=by omega
 have:gd D (la.length/2)=D[la.length/2]:=by simp[gd,List.getD_eq_getElem?_getD,List.getElem?_eq_getElem E]
 rw[this];exact List.getElem_mem E
theorem Qm.Qe4{g:G}{c:Core}(h:Qm g i c bt bl)(I:c.role=2): ∃g',Mv g g' i/\Qm g' i c.settle bt bl/\g'.T=g.T:=by
 obtain⟨ap,ab⟩:=h.lead I;have ae:c.last=(g.full i).length :=by rw[h.rel.len];rfl
 have ac:g.role i=2:=by rw[h.rel.role];exact I
 obtain⟨U,l1⟩:=h.inv.KO (i:=i) (j:=i) (k:=c.last) (fun _=>by rw[h.rel.term,ae];exact ab);have ar:i<5:=by have:=h.rel.n5;have:=h.hi;omega
 have ag:=h.nx.ml;have af: ∀x,(g.KO i i c.last).mtch i x=if x=i then c.last else g.mtch i x:=fun x=>by
  show upd g.mtch i (upd (g.mtch i) i c.last) i x=_;rw[upd_same];unfold upd;rfl
 have M: ∀x,x<g.n->(g.KO i i c.last).mtch i x=gd (c.mtch.set c.id c.last) x:=fun x ai=>by
  rw[af,h.rel.id,Ks _ _ _ _ (by omega),h.rel.mtch x ai]
 have W:Mv g (g.KO i i c.last) i:=⟨l1,fun j D=>⟨rfl,rfl,rfl,rfl,rfl,rfl,rfl,upd_ne _ _ D⟩⟩
 have E:Nx {c with mtch:=c.mtch.set c.id c.last}:=by
  refine⟨h.nx.nl,by simpa using ag,fun e j D=> ?_,h.nx.role⟩;obtain⟨Y,Z,aa⟩:=h.nx.lead I j D;refine⟨Y,Z,?_⟩;show gd (c.mtch.set c.id c.last) j<=c.last;rw[h.rel.id,Ks _ _ _ _ (by omega)];split
  ·exact Zf _
  ·exact aa
 have ak:Qm (g.KO i i c.last) i {c with mtch:=c.mtch.set c.id c.last} bt bl:=
  ⟨U,⟨h.bnd.term,h.bnd.full,h.bnd.T,h.bnd.CL⟩,⟨h.rel.id,h.rel.n,h.rel.n5,h.rel.term,h.rel.vote,h.rel.len,h.rel.drop,h.rel.bt,h.rel.bi,h.rel.commit,h.rel.role,h.rel.yes,M⟩,E,h.hi⟩
 unfold Core.settle;split
 ·rename_i hc
  obtain⟨aq,N⟩:=hc;obtain⟨al,am,an,ao⟩:=h.ZI;have Q:0<g.n:=by have:=h.hi;omega
  have O:=QkX g.n Q (gd (c.mtch.set c.id c.last));have J:c.reached=(List.range g.n).map (gd (c.mtch.set c.id c.last)):=by unfold Core.reached;rw[h.rel.n]
  rw[<-J] at O;have au:KI c.reached<=c.last:=by
   have:=QdX (Qcx c.reached) (by rw[J];simpa using Q);rw[J,List.mem_map] at this;obtain⟨j,D,e⟩:=this;rw[List.mem_range] at D;have ad:j<5:=by have:=h.rel.n5;omega
   have:=(E.lead I j ad).2.2;rw[J,<-e];exact this
  have ah:Qu c.bi c.bt c.l (KI c.reached)=some (tm (g.full i) (KI c.reached - 1)):=Qdn h.rel (by omega) (by omega);rw[ah,Option.getD_some] at N;obtain⟨aj,l2⟩:=U.settle (i:=i) (k:=KI c.reached) h.hi ac (by show g.commit i<=_;rw[h.rel.commit];omega) (by show _<=(g.full i).length;omega) (by show tm (g.full i) _=g.term i;rw[h.rel.term];exact N) (O.mono (fun j D hjk=>by rw[M j D];exact hjk));refine⟨(g.KO i i c.last).settle i (KI c.reached),W.trans ⟨l2,fun j D=>⟨rfl,rfl,rfl,rfl,upd_ne _ _ D,rfl,rfl,rfl⟩⟩,⟨aj,⟨h.bnd.term,h.bnd.full,h.bnd.T,h.bnd.CL⟩,⟨h.rel.id,h.rel.n,h.rel.n5,h.rel.term,h.rel.vote,h.rel.len,h.rel.drop,h.rel.bt,h.rel.bi,upd_same _ _ _,h.rel.role,h.rel.yes,M⟩,⟨E.nl,E.ml,E.lead,E.role⟩,h.hi⟩,rfl⟩
 ·exact⟨_,W,ak,rfl⟩
theorem Qlq{l:Log}{r:List En}{x:En}(h:l.drop b=r)(D:b<=l.length):(l++[x]).drop b=r++[x]:=by
 rw[List.drop_append_of_le_length D,h]
theorem Qm.grown{g:G}{c:Core}(h:Qm g i c bt bl)(s:Nat){m:Nat->Nat}{c':Core}(Z:Inv (g.grow i s m)/\Le g (g.grow i s m))
  (e1:c'.id=c.id) (M:c'.n=c.n) (N:c'.term=c.term) (O:c'.vote=c.vote) (E:c'.bi=c.bi) (Q:c'.bt=c.bt) (J:c'.l=c.l++[(c.term,s)]) (U:c'.commit=c.commit) (W:c'.role=2) (e10:c'.yes=c.yes)
  (ac: ∀j,j<g.n->m j=gd c'.mtch j) (ad:Nx c'):Mv g (g.grow i s m) i/\Qm (g.grow i s m) i c' bt (bl+1):=by
 obtain⟨aa,ab⟩:=Z;have r:=h.rel;have I:(g.grow i s m).full i=g.full i++[(c.term,s)]:=by
  show upd g.full i _ i=_;rw[upd_same,r.term]
 have Y:c.bi<=(g.full i).length :=by rw[r.len];omega
 have af:1<=c.bi:=h.ZI.1;refine⟨⟨ab,fun j D=>⟨rfl,rfl,upd_ne _ _ D,rfl,rfl,upd_ne _ _ D,rfl,upd_ne _ _ D⟩⟩,aa,⟨h.bnd.term,fun j D=> ?_,fun t w L hT=> ?_,fun c t l hc=>⟨(h.bnd.CL c t l hc).1,Nat.le_succ_of_le (h.bnd.CL c t l hc).2⟩⟩,?_,ad,h.hi⟩
 ·by_cases hji:j=i
  ·subst hji
   rw[I,List.length_append,List.length_singleton];have:=h.bnd.full j D;omega
  ·have:(g.grow i s m).full j=g.full j:=upd_ne _ _ hji
   rw[this];have:=h.bnd.full j D;omega
 ·by_cases ht:t=g.term i
  ·subst ht
   have:(g.grow i s m).T (g.term i)=some (i,g.full i++[(g.term i,s)]):=upd_same _ _ _;rw[this] at hT
   cases hT
   rw[List.length_append,List.length_singleton];have:=h.bnd.full i h.hi;exact⟨h.bnd.term i h.hi,by omega⟩
  ·have:(g.grow i s m).T t=g.T t:=upd_ne _ _ ht
   rw[this] at hT;have:=h.bnd.T t w L hT;omega
 ·refine⟨e1.trans r.id,M.trans r.n,r.n5,by rw[N];exact r.term,by rw[O];exact r.vote,?_,?_,?_,by rw[E];exact r.bi,by rw[U];exact r.commit,by rw[W];exact upd_same _ _ _,by rw[e10];exact r.yes,fun x ae=> ?_⟩
  ·rw[I,E,J,List.length_append,List.length_append,r.len]
   simp only[List.length_singleton];omega
  ·rw[I,E,J]
   exact Qlq r.drop Y
  ·rw[I,E,Q,<-r.bt]
   exact (Z7 (List.prefix_append _ _) (by omega)).symm
  ·show upd g.mtch i m i x=_
   rw[upd_same];exact ac x ae
theorem Qm.QpC{g:G}{c:Core}(h:Qm g i c bt bl)(D:c.role=2)(s:Nat){o:Ou}(Q:o.sends=[]): ∃g',Mv g g' i/\Qm g' i (c.put s o).1 bt (bl+1)/\QO g' i (c.put s o).1 (c.put s o).2/\(c.put s o).2.frm =o.frm/\(c.put s o).2.rest =o.rest:=by
 have O:=h.inv.QeU s h.hi (by rw[h.rel.role];exact D);obtain⟨W,Z⟩:=h.grown s O (c':={c with l:=c.l++[(c.term,s)]}) rfl rfl rfl rfl rfl rfl rfl rfl D rfl h.rel.mtch ⟨h.nx.nl,h.nx.ml,fun e j hj=>by
  have:=h.nx.lead D j hj;unfold Core.last lastOf at*
  simp only[List.length_append,List.length_singleton];omega,h.nx.role⟩
 obtain⟨E,Y,aa,_⟩:=Z.Qe4 D;have U: ∀(cc:Core),QO E i cc o:=fun cc x I=>by rw[Q] at I;cases I
 obtain⟨ab,J,M,N⟩:=aa.Qfa (o:=o) D (U _);exact⟨E,W.trans Y,ab,J,M,N⟩
theorem QrZ{g:G}{c:Core}(h:WP g i c)(E:c.Kz=true):Z9 g.n (g.yes i):=by
 unfold Core.Kz ZS at E;rw[decide_eq_true_eq,h.n] at E;refine⟨_,List.nodup_range.filter _,fun j D=> ?_,E⟩;rw[List.mem_filter,List.mem_range,decide_eq_true_eq,List.mem_map] at D;obtain⟨D,y,I,e⟩:=D;have:y=j:=by have e:(y:Int)=j:=e;omega
 subst this;exact⟨D,h.yes y D I⟩
theorem WY(v x:Nat)(D:x<5):gd (List.replicate 5 v) x=v:=by
 rcases (show x=0\/x=1\/x=2\/x=3\/x=4 by omega) with rfl|rfl|rfl|rfl|rfl<;>rfl
theorem Qm.QcV{g:G}{c:Core}(h:Qm g i c bt bl)(W:c.role=1)(Y:c.Kz=true){o:Ou}(Q:o.sends=[]): ∃g',Mv g g' i/\Qm g' i (c.lead o).1 bt (bl+1)/\QO g' i (c.lead o).1 (c.lead o).2/\(c.lead o).2.frm =o.frm/\(c.lead o).2.rest =o.rest:=by
 obtain⟨_,O⟩:=h.inv.QcV 0 h.hi (by rw[h.rel.role];exact W) (QrZ h.rel Y);obtain⟨Z,ab⟩:=h.grown 0 O (c':={c with role:=2,known:=c.id,next:=List.replicate 5 (c.last+1),mtch:=List.replicate 5 0,l:=c.l++[(c.term,0)]}) rfl rfl rfl rfl rfl rfl rfl rfl rfl rfl (fun j D=>by
   have:=h.rel.n5;exact (WY 0 j (by omega)).symm) ⟨rfl,rfl,fun e j D=>by
  show 1<=gd (List.replicate 5 (c.last+1)) j/\gd (List.replicate 5 (c.last+1)) j<=_/\gd (List.replicate 5 0) j<=_;rw[WY _ _ D,WY _ _ D];unfold Core.last lastOf at*
  simp only[List.length_append,List.length_singleton];omega,Zf _⟩
 obtain⟨E,aa,ac,_⟩:=ab.Qe4 rfl;have U: ∀(cc:Core),QO E i cc o:=fun cc x I=>by rw[Q] at I;cases I
 obtain⟨ad,J,M,N⟩:=ac.Qfa (o:=o) rfl (U _);exact⟨E,Z.trans aa,ad,J,M,N⟩
theorem Qm.Qq1{g:G}{c:Core}(h:Qm g i c bt bl): ∃g',Mv g g' i/\Qm g' i c.stood (bt+1) bl/\g'.CL i (c.term+1)=some (g.full i)/\g'.full i=g.full i:=by
 have U:=h.inv.fresh (i:=i) (t:=g.term i+1) h.hi (by omega);obtain⟨Y,l1⟩:=h.inv.stand h.hi;obtain⟨I,N,ac,O,Q⟩:=QqI g i;have J:(g.stand i).CL i ((g.stand i).term i)=some ((g.stand i).full i):=by rw[I,Q];exact O
 obtain⟨Z,l2⟩:=Y.cast (i:=i) (c:=i) h.hi N J (.inr ⟨rfl,Zf _⟩);have W:((g.stand i).cast i i).vote i=some i:=upd_same _ _ _;obtain⟨aa,ab⟩:=Z.candidate (i:=i) h.hi J W (fun L=>by
  show g.T ((g.stand i).term i)≠_;rw[I];exact U L)
 have r:=h.rel;refine⟨_,⟨l1.trans (l2.trans ab),fun j E=>⟨upd_ne _ _ E,?_,rfl,rfl,rfl,?_,upd_ne _ _ E,rfl⟩⟩,⟨aa,⟨fun j E=> ?_,h.bnd.full,fun t w L hT=> ?_,fun c' t l D=> ?_⟩,⟨r.id,r.n,r.n5,?_,?_,r.len,r.drop,r.bt,r.bi,r.commit,upd_same _ _ _,fun j E hy=> ?_,r.mtch⟩,⟨h.nx.nl,h.nx.ml,fun e=>(by cases e),by show 1<=2;omega⟩,h.hi⟩,?_,rfl⟩
 ·show upd (upd g.vote i none) i (some i) j=_
  rw[upd_ne _ _ E,upd_ne _ _ E]
 ·show upd (upd g.role i 0) i 1 j=_
  rw[upd_ne _ _ E,upd_ne _ _ E]
 ·show upd g.term i (g.term i+1) j<=_
  unfold upd;split
  ·have:=h.bnd.term i h.hi
   omega
  ·have:=h.bnd.term j E
   omega
 ·have:=h.bnd.T t w L hT
  omega
 ·have D:upd g.CL i (upd (g.CL i) (g.term i+1) (some (g.full i))) c' t=some l:=D
  have hold:g.CL c' t=some l->t<=bt+1/\l.length<=bl:=fun e=>by
   have:=h.bnd.CL c' t l e;omega
  by_cases hci:c'=i
  ·subst hci
   rw[upd_same] at D;by_cases ht:t=g.term c'+1
   ·subst ht
    rw[upd_same] at D
    cases D
    have:=h.bnd.term c' h.hi;have:=h.bnd.full c' h.hi;omega
   ·rw[upd_ne _ _ ht] at D
    exact hold D
  ·rw[upd_ne _ _ hci] at D
   exact hold D
 ·show upd g.term i (g.term i+1) i=c.term+1
  rw[upd_same,r.term]
 ·show upd (upd g.vote i none) i (some i) i=some c.id
  rw[upd_same,r.id]
 ·have M:j∈[c.id]:=hy
  rw[List.mem_singleton,r.id] at M;show upd g.yes i (fun j=>j=i) i j;rw[upd_same];exact M
 ·show upd g.CL i (upd (g.CL i) (g.term i+1) (some (g.full i))) i (c.term+1)=_
  rw[upd_same,<-r.term,upd_same]
theorem Qm.QqJ{g:G}{c:Core}(h:Qm g i c bt bl){o:Ou}(E:o.sends=[]): ∃g',Mv g g' i/\Qm g' i (c.stand o).1 (bt+1) (bl+1)/\QO g' i (c.stand o).1 (c.stand o).2:=by
 obtain⟨M,J,D,Q,aa⟩:=h.Qq1;unfold Core.stand;split
 ·rename_i hw
  obtain⟨N,Y,Z,O,_⟩:=D.QcV rfl hw E;exact⟨N,J.trans Y,Z,O⟩
 ·refine⟨M,J,⟨D.inv,⟨D.bnd.term,fun j U=>Nat.le_succ_of_le (D.bnd.full j U),fun t w L hT=>⟨(D.bnd.T t w L hT).1,Nat.le_succ_of_le (D.bnd.T t w L hT).2⟩,fun c t l hc=>⟨(D.bnd.CL c t l hc).1,Nat.le_succ_of_le (D.bnd.CL c t l hc).2⟩⟩,D.rel,D.nx,D.hi⟩,?_⟩
  refine D.Qh2 (fun x W=> ?_) (fun d hd hdi=> ?_)
  ·have I:x∈o.sends:=W
   rw[E] at I
   cases I
  ·refine⟨?_,by show 1<=1;omega,by show 1<=5;omega,D.hi,hd,hdi,fun _=>⟨_,Q,?_,?_⟩,fun e=>(by cases e),fun e=>(by cases e),fun e=>(by cases e),fun e=>(by cases e)⟩
   ·show 1<=c.term+1
    omega
   ·show c.last=_
    rw[h.rel.len];rfl
   ·show c.lastT=_
    exact (QcT h.rel).symm
theorem Qci.mono{g:G}(h:Qci g a b)(D:a<=na)(E:b<=nb):Qci g na nb:=
 ⟨fun i I=>Zt (h.term i I) D,fun i I=>Zt (h.full i I) E,fun t w L hT=>⟨Zt (h.T t w L hT).1 D,Zt (h.T t w L hT).2 E⟩,fun c t l hc=>⟨Zt (h.CL c t l hc).1 D,Zt (h.CL c t l hc).2 E⟩⟩
theorem Qm.mono{g:G}{c:Core}(h:Qm g i c a b)(D:a<=na)(E:b<=nb):Qm g i c na nb:=⟨h.inv,h.bnd.mono D E,h.rel,h.nx,h.hi⟩
theorem QO.nil{g:G}{c:Core}{o:Ou}(E:o.sends=[]):QO g i c o:=fun x D=>by rw[E] at D;cases D
theorem Qm.Qrs{g:G}{c:Core}(h:Qm g i c bt bl)(draw:Nat){o:Ou}(D:o.sends=[]): ∃g',Mv g g' i/\Qm g' i (c.tick draw o).1 (bt+1) (bl+1)/\QO g' i (c.tick draw o).1 (c.tick draw o).2:=by
 have E:=h.mono (Nat.le_succ bt) (Nat.le_succ bl);unfold Core.tick;split
 ·rename_i hr
  split
  ·have I:Qm g i {c with beats:=c.beats+1} (bt+1) (bl+1):=E.soft rfl rfl rfl rfl rfl rfl rfl rfl rfl rfl rfl rfl
   obtain⟨a,b,_⟩:=I.Qfa (o:=o) hr (QO.nil D);exact⟨g,Mv.refl g i,a,b⟩
  ·exact⟨g,Mv.refl g i,E.soft rfl rfl rfl rfl rfl rfl rfl rfl rfl rfl rfl rfl,QO.nil D⟩
 ·split
  ·have I:Qm g i {c with waits:=c.waits+1} bt bl:=h.soft rfl rfl rfl rfl rfl rfl rfl rfl rfl rfl rfl rfl
   exact I.QqJ D
  ·exact⟨g,Mv.refl g i,E.soft rfl rfl rfl rfl rfl rfl rfl rfl rfl rfl rfl rfl,QO.nil D⟩
theorem QO.send{g:G}{i:Nat}{c:Core}{o:Ou}(h:QO g i c o){d:Nat}{m:Mg}(E:Zn g i d (c.fix m)):QO g i c (o.send d m):=by
 intro x I;have J:x∈o.sends++[(d,m)]:=I;rcases List.mem_append.1 J with D|D
 ·exact h x D
 ·rw[List.mem_singleton] at D
  subst D;exact E
theorem QeX{g:G}{i d k x:Nat}{c:Core}{bt bl:Nat}(h:Qm g i c bt bl)(D:d<g.n)(E:d≠i)(I:k=2\/k=4):Zn g i d (c.fix ⟨k,c.term,x,0,0,false,[],0,0⟩):=by
 rcases I with rfl|rfl
 ·exact⟨h.ZG,by show 1<=2;omega,by show 2<=5;omega,h.hi,D,E,fun e=>(by cases e),fun _ e=>(by cases e),fun e=>(by cases e),fun e=>(by cases e),fun e=>(by cases e)⟩
 ·exact⟨h.ZG,by show 1<=4;omega,by show 4<=5;omega,h.hi,D,E,fun e=>(by cases e),fun e=>(by cases e),fun e=>(by cases e),fun _ e=>(by cases e),fun e=>(by cases e)⟩
theorem Qiq{g:G}{i d:Nat}{c:Core}{bt bl:Nat}(h:Qm g i c bt bl)(D:d<g.n)(E:d≠i){l:Log}{b:Bool}(I:g.VR i c.term=some (d,l,b)):Zn g i d (c.fix ⟨2,c.term,0,0,0,true,[],0,0⟩):=
 ⟨h.ZG,by show 1<=2;omega,by show 2<=5;omega,h.hi,D,E,fun e=>(by cases e),fun _ _=>⟨l,b,I⟩,fun e=>(by cases e),fun e=>(by cases e),fun e=>(by cases e)⟩
theorem Qdc{g:G}{i d x:Nat}{c:Core}{bt bl:Nat}(h:Qm g i c bt bl)(D:d<g.n)(E:d≠i)(I:x<=g.A i c.term):Zn g i d (c.fix ⟨4,c.term,x,0,0,true,[],0,0⟩):=
 ⟨h.ZG,by show 1<=4;omega,by show 4<=5;omega,h.hi,D,E,fun e=>(by cases e),fun e=>(by cases e),fun e=>(by cases e),fun _ _=>I,fun e=>(by cases e)⟩
theorem Qm.Qkm{g:G}{i:Nat}{c:Core}{bt bl:Nat}(h:Qm g i c bt bl){frm:Nat}{m:Mg}(Y:Zn g frm i m)(W:m.kind=1){o:Ou}(N:o.sends=[]):
  ∃g',Mv g g' i/\Qm g' i (c.asked frm m o).1 bt bl/\QO g' i (c.asked frm m o).1 (c.asked frm m o).2:=by
 obtain⟨_,_,_,J,_,M,aa,_⟩:=Y;obtain⟨l,ab,ac,ad⟩:=aa W;unfold Core.asked Core.Zk
 cases hg:c.grants frm m with
 |
  false=>
  exact⟨g,Mv.refl g i,h,(QO.nil N).send (QeX h J (fun e=>M e.symm) (.inl rfl))⟩
 |
  true=>
  unfold Core.grants at hg;rw[decide_eq_true_eq] at hg;obtain⟨Q,D,E⟩:=hg;rw[if_pos rfl];rcases D with D|D
  ·obtain⟨Z,l1⟩:=h.inv.cast (i:=i) (c:=frm) (l:=l) h.hi (by rw[h.rel.vote];exact D) (by rw[h.rel.term,<-Q];exact ab) (by
    unfold QdP;rw[QcT h.rel,<-ad,<-ac,h.rel.len];rcases E with E|E
    ·exact .inl E
    ·exact .inr ⟨E.1.symm,E.2⟩)
   have r:=h.rel;have I:Qm (g.cast i frm) i {c with vote:=some frm,waits:=0} bt bl:=⟨Z,⟨h.bnd.term,h.bnd.full,h.bnd.T,h.bnd.CL⟩,⟨r.id,r.n,r.n5,r.term,upd_same _ _ _,r.len,r.drop,r.bt,r.bi,r.commit,r.role,r.yes,r.mtch⟩,⟨h.nx.nl,h.nx.ml,h.nx.lead,h.nx.role⟩,h.hi⟩
   refine⟨g.cast i frm,⟨l1,fun j U=>⟨rfl,upd_ne _ _ U,rfl,rfl,rfl,rfl,rfl,rfl⟩⟩,I,(QO.nil N).send (Qiq I J (fun e=>M e.symm) (l:=g.full i) (b:=late g (g.term i)) ?_)⟩;show upd g.VR i _ i c.term=_;rw[upd_same,<-r.term,upd_same]
  ·obtain⟨l2,b,O⟩:=h.inv.vote i frm h.hi (by rw[h.rel.vote];exact D)
   rw[h.rel.term] at O;have r:=h.rel;have I:Qm g i {c with vote:=some frm,waits:=0} bt bl:=h.soft rfl rfl rfl D.symm rfl rfl rfl rfl rfl rfl rfl rfl;exact⟨g,Mv.refl g i,I,(QO.nil N).send (Qiq I J (fun e=>M e.symm) O)⟩
theorem Qm.QrO{g:G}{i:Nat}{c:Core}{bt bl:Nat}(h:Qm g i c bt bl){frm:Nat}{m:Mg}(ab:Zn g frm i m)(aa:m.kind=2){o:Ou}(I:o.sends=[]):
  ∃g',Mv g g' i/\Qm g' i (c.Zb frm m o).1 bt (bl+1)/\QO g' i (c.Zb frm m o).1 (c.Zb frm m o).2:=by
 obtain⟨_,_,_,ai,_,aj,_,af,_⟩:=ab;have Y:=h.mono (Zf bt) (Nat.le_succ bl);unfold Core.Zb;split
 ·rename_i hc
  obtain⟨O,Q,U⟩:=hc;obtain⟨l,b,J⟩:=af aa U;rw[O,<-h.rel.term] at J;obtain⟨ae,l1⟩:=h.inv.heard J;have r:=h.rel;have N:Qm (g.heard i frm) i {c with yes:=frm::c.yes} bt bl:=by
   refine⟨ae,⟨h.bnd.term,h.bnd.full,h.bnd.T,h.bnd.CL⟩,⟨r.id,r.n,r.n5,r.term,r.vote,r.len,r.drop,r.bt,r.bi,r.commit,r.role,fun j E ac=> ?_,r.mtch⟩,⟨h.nx.nl,h.nx.ml,h.nx.lead,h.nx.role⟩,h.hi⟩;show upd g.yes i (fun j=>g.yes i j\/j=frm) i j;rw[upd_same];have ad:j∈frm::c.yes:=ac;rcases List.mem_cons.1 ad with D|D
   ·exact .inr D
   ·exact .inl (r.yes j E D)
  have M:Mv g (g.heard i frm) i:=⟨l1,fun j E=>⟨rfl,rfl,rfl,rfl,rfl,rfl,upd_ne _ _ E,rfl⟩⟩
  split
  ·rename_i hw
   obtain⟨W,ag,ah,Z,_⟩:=N.QcV Q hw I;exact⟨W,M.trans ag,ah,Z⟩
  ·exact⟨_,M,N.mono (Zf bt) (Nat.le_succ bl),QO.nil I⟩
 ·exact⟨g,Mv.refl g i,Y,QO.nil I⟩
theorem Qm.Qki{g:G}{i:Nat}{c:Core}{bt bl:Nat}(h:Qm g i c bt bl){frm:Nat}{m:Mg}(ai:Zn g frm i m)(ah:m.kind=4){o:Ou}(U:o.sends=[]):
  ∃g',Mv g g' i/\Qm g' i (c.appended frm m o).1 bt bl/\QO g' i (c.appended frm m o).1 (c.appended frm m o).2:=by
 obtain⟨_,_,_,ae,_,ag,_,_,_,ak,_⟩:=ai;have af:frm<5:=by have:=h.rel.n5;omega
 have Z:=h.nx.nl;have Y:=h.nx.ml;unfold Core.appended;split
 ·exact⟨g,Mv.refl g i,h,QO.nil U⟩
 ·rename_i hc
  have ab:m.term=c.term:=by
   rcases Nat.decEq m.term c.term with D|D
   ·exact absurd (.inl D) hc
   ·exact D
  have E:c.role=2:=by
   rcases Nat.decEq c.role 2 with D|D
   ·exact absurd (.inr (.inl D)) hc
   ·exact D
  have ac:m.ok=true->m.idx<=c.last:=fun e=>by
   rcases Nat.lt_or_ge c.last m.idx with D|D
   ·exact absurd (.inr (.inr ⟨e,D⟩)) hc
   ·exact D
  obtain⟨ap,n2,aq⟩:=h.nx.lead E frm af;have key: ∃g',Mv g g' i/\Qm g' i (if m.ok=false then {c with next:=c.next.set frm (max (min (gd c.next frm - 1) (m.idx+1)) (gd c.mtch frm+1))}
   else if gd c.mtch frm<m.idx then ({c with mtch:=c.mtch.set frm m.idx,next:=c.next.set frm (max (gd c.next frm) (m.idx+1))}:Core).settle
   else c) bt bl/\(if m.ok=false then {c with next:=c.next.set frm (max (min (gd c.next frm - 1) (m.idx+1)) (gd c.mtch frm+1))}
   else if gd c.mtch frm<m.idx then ({c with mtch:=c.mtch.set frm m.idx,next:=c.next.set frm (max (gd c.next frm) (m.idx+1))}:Core).settle
   else c).role =2:=by
   split
   ·refine⟨g,Mv.refl g i,⟨h.inv,h.bnd,⟨h.rel.id,h.rel.n,h.rel.n5,h.rel.term,h.rel.vote,h.rel.len,h.rel.drop,h.rel.bt,h.rel.bi,h.rel.commit,h.rel.role,h.rel.yes,h.rel.mtch⟩,⟨by simpa using Z,Y,fun e j I=> ?_,h.nx.role⟩,h.hi⟩,E⟩
    obtain⟨N,O,Q⟩:=h.nx.lead E j I;show 1<=gd (c.next.set frm _) j/\gd (c.next.set frm _) j<=c.last+1/\gd c.mtch j<=c.last;rw[Ks _ _ _ _ (by omega)];split
    ·omega
    ·exact⟨N,O,Q⟩
   ·rename_i J
    have J:m.ok=true:=by simpa using J
    split
    ·obtain⟨aj,l1⟩:=h.inv.KO (i:=i) (j:=frm) (k:=m.idx) (fun _=>by rw[h.rel.term,<-ab];exact ak ah J)
     have al:Mv g (g.KO i frm m.idx) i:=⟨l1,fun j I=>⟨rfl,rfl,rfl,rfl,rfl,rfl,rfl,upd_ne _ _ I⟩⟩
     have an:Qm (g.KO i frm m.idx) i {c with mtch:=c.mtch.set frm m.idx,next:=c.next.set frm (max (gd c.next frm) (m.idx+1))} bt bl:=by
      refine⟨aj,⟨h.bnd.term,h.bnd.full,h.bnd.T,h.bnd.CL⟩,⟨h.rel.id,h.rel.n,h.rel.n5,h.rel.term,h.rel.vote,h.rel.len,h.rel.drop,h.rel.bt,h.rel.bi,h.rel.commit,h.rel.role,h.rel.yes,fun j I=> ?_⟩,⟨by simpa using Z,by simpa using Y,fun e j I=> ?_,h.nx.role⟩,h.hi⟩
      ·show upd g.mtch i (upd (g.mtch i) frm m.idx) i j=gd (c.mtch.set frm m.idx) j
       rw[upd_same,Ks _ _ _ _ (by omega)];unfold upd;split
       ·rfl
       ·exact h.rel.mtch j I
      ·obtain⟨N,O,Q⟩:=h.nx.lead E j I
       have:=ac J;show 1<=gd (c.next.set frm _) j/\gd (c.next.set frm _) j<=c.last+1/\gd (c.mtch.set frm _) j<=c.last;rw[Ks _ _ _ _ (by omega),Ks _ _ _ _ (by omega)];split
       ·omega
       ·exact⟨N,O,Q⟩
     obtain⟨ad,am,ao,_⟩:=an.Qe4 E;exact⟨ad,al.trans am,ao,E⟩
    ·exact⟨g,Mv.refl g i,h,E⟩
  obtain⟨g',aa,M,W⟩:=key;have fin: ∀c':Core,Qm g' i c' bt bl->c'.role=2->QO g' i c' (if m.ok=false\/gd c'.next frm<=c.last then o.send frm (c'.lacks frm) else o):=by
   intro c' M W;split
   ·exact QO.send (QO.nil U) (M.Qhr W (d:=frm) (by rw[aa.le.n];exact ae) (fun e=>ag e.symm))
   ·exact QO.nil U
  exact⟨g',aa,M,fin _ M W⟩
def Qay(c:Core)(m:Mg)(k:Nat):Prop:= ∃h:k<m.es.length,c.bi<m.idx+k+1/\Qu c.bi c.bt c.l (m.idx+k+1)≠some (m.es[k]).1
theorem QgG(bi bt:Nat)(l:List En)(E:Nat): ∀(I:List En) (D:Nat),
  (Xa bi bt l E I D=0/\ ∀k (h:k<I.length),¬(bi<E+(D+k)+1/\Qu bi bt l (E+(D+k)+1)≠some (I[k]).1))\/
  (∃k,∃h:k<I.length,Xa bi bt l E I D=E+(D+k)+1/\bi<E+(D+k)+1/\Qu bi bt l (E+(D+k)+1)≠some (I[k]).1/\ ∀j (N:j<k),¬(bi<E+(D+j)+1/\Qu bi bt l (E+(D+j)+1)≠some (I[j]).1))
 |[],D=>.inl ⟨rfl,fun k h=>by simp at h⟩
 |
  e::r,D=>by
  rw[Xa]
  by_cases hc:bi<E+D+1/\Qu bi bt l (E+D+1)≠some e.1
  ·rw[if_pos hc]
   exact .inr ⟨0,by simp,by rfl,hc.1,hc.2,fun j N=>by omega⟩
  ·rw[if_neg hc]
   rcases QgG bi bt l E r (D+1) with ⟨J,M⟩|⟨k,h,J,M,O,Q⟩
   ·refine .inl ⟨J,fun k U=> ?_⟩
    cases k with
    |zero=>exact hc
    |
     succ k=>
     have:=M k (by simpa using U)
     rw[show D+(k+1)=D+1+k by omega]
     exact this
   ·refine .inr ⟨k+1,by simpa using h,?_,?_,?_,fun j N=> ?_⟩
    ·rw[J];omega
    ·omega
    ·rw[show D+(k+1)=D+1+k by omega]
     exact O
    ·cases j with
     |zero=>exact hc
     |
      succ j=>
      have:=Q j (by omega)
      rw[show D+(j+1)=D+1+j by omega]
      exact this
theorem Qd9(c:Core)(m:Mg):(Xa c.bi c.bt c.l m.idx m.es 0=0/\ ∀k,¬Qay c m k)\/(∃k,Xa c.bi c.bt c.l m.idx m.es 0=m.idx+k+1/\Qay c m k/\ ∀j,j<k-> ¬Qay c m j):=by
 rcases QgG c.bi c.bt c.l m.idx m.es 0 with ⟨D,E⟩|⟨k,h,D,E,I,J⟩
 ·refine .inl ⟨D,fun k ⟨h,I⟩=> ?_⟩
  have:=E k h;rw[Nat.zero_add] at this;exact this I
 ·rw[Nat.zero_add] at D E I
  refine .inr ⟨k,D,⟨h,E,I⟩,fun j N ⟨O,M⟩=> ?_⟩;have:=J j N;rw[Nat.zero_add] at this;exact this M
section
variable {g:G} {i:Nat} {c:Core} {bt bl:Nat} {w:Nat} {L:Log} {m:Mg}
theorem Qgx(I:m.es=(L.drop m.idx).take m.es.length)(J:m.idx+m.es.length<=L.length){k:Nat}(E:k<m.es.length):(m.es[k]).1=tm L (m.idx+k):=by
 have D:m.es[k]? =L[m.idx+k]? :=by
  rw[I,List.getElem?_take,if_pos E,List.getElem?_drop]
 rw[List.getElem?_eq_getElem E,List.getElem?_eq_getElem (by omega)] at D;simp only[Option.some.injEq] at D;rw[D,ZU (by omega)]
theorem Qp1(h:Qm g i c bt bl)(E:g.T c.term=some (w,L))(ac:1<=m.idx)(ae:m.idx+m.es.length<=L.length)(Y:m.lt=tm L (m.idx - 1))(D:ZH c.bi c.bt c.l m.idx m.lt=true):
  (g.full i).take (max m.idx c.bi)=L.take (max m.idx c.bi)/\max m.idx c.bi<=(g.full i).length /\max m.idx c.bi<=L.length:=by
 obtain⟨J,M,N,O⟩:=h.ZI;have Q:=(h.inv.tlog _ _ _ E).1;have W:=(h.inv.full i h.hi).1;have hlen:=h.rel.len;unfold ZH at D;split at D
 ·rename_i hbi
  rw[Nat.max_eq_left hbi];have U:Qu c.bi c.bt c.l m.idx=some m.lt:=by simpa using D
  obtain⟨af,aa,ab⟩:=Qcd h.rel J U;have:=Qe1 W Q (k:=m.idx - 1) (by omega) (by omega) (by rw[ab,Y]);rw[show m.idx - 1+1=m.idx by omega] at this;exact⟨this,aa,by omega⟩
 ·rename_i hbi
  rw[Nat.max_eq_right (by omega)];have I:=h.inv.QbV O E (Zf _);have Z:=I.length_le;rw[List.length_take] at Z;have ad:c.commit<=(g.full i).length :=by rw[hlen];exact N
  have:=Qat I (k:=c.bi) (by rw[List.length_take];omega);rw[List.take_take,Nat.min_eq_left M] at this;exact⟨this,by omega,by omega⟩
theorem QiA(h:Qm g i c bt bl)(D:g.T c.term=some (w,L))(O:1<=m.idx)(I:m.idx+m.es.length<=L.length)(W:m.es=(L.drop m.idx).take m.es.length)(Z:m.lt=tm L (m.idx - 1))(Q:ZH c.bi c.bt c.l m.idx m.lt=true){K:Nat}(ag:K<=m.es.length)(aa: ∀k,k<K-> ¬Qay c m k):
  (g.full i).take (max (max m.idx c.bi) (m.idx+K))=L.take (max (max m.idx c.bi) (m.idx+K))/\max (max m.idx c.bi) (m.idx+K)<=(g.full i).length /\max (max m.idx c.bi) (m.idx+K)<=L.length:=by
 have U:=Qp1 h D O I Z Q;obtain⟨N,ad,ae,af⟩:=h.ZI;by_cases hx:m.idx+K<=max m.idx c.bi
 ·rw[Nat.max_eq_left hx]
  exact U
 ·rw[Nat.max_eq_right (by omega)]
  have Y:=aa (K - 1) (by omega);have E:K - 1<m.es.length:=by omega
  have ac:Qu c.bi c.bt c.l (m.idx+(K - 1)+1)=some (m.es[K - 1]).1:=by
   apply Classical.byContradiction;intro ab;exact Y ⟨E,by omega,ab⟩
  obtain⟨ah,ai,M⟩:=Qcd h.rel N ac;rw[Qgx W I E] at M;have J:=Qe1 (h.inv.full i h.hi).1 (h.inv.tlog _ _ _ D).1 (k:=m.idx+(K - 1)) (by omega) (by omega) (by rw[<-M];congr 1);rw[show m.idx+(K - 1)+1=m.idx+K by omega] at J;exact⟨J,by omega,by omega⟩
end
def XO(c c':Core)(o:Ou):Prop:=c'.id=c.id/\c'.n=c.n/\c'.elect=c.elect/\c'.beat=c.beat/\
 (
  (o.rest=none/\c'.bi=c.bi/\c'.bt=c.bt/\((o.frm=0/\c'.l=c.l)\/(c.bi<o.frm/\o.frm<=c.last+1/\o.frm<=c'.last/\c'.l.take (o.frm - c.bi - 1)=c.l.take (o.frm - c.bi - 1))))\/
  (o.frm=0/\ ∃b t,o.rest=some (b,t)/\c.commit<b/\c'.bi=b/\c'.bt=t/\c'.l=Q1 c.bi c.bt c.l b t))
theorem XO.same{c c':Core}{o:Ou}(O:o.rest=none)(Q:o.frm=0)(e1:c'.id=c.id)(D:c'.n=c.n)(E:c'.elect=c.elect)(I:c'.beat=c.beat)(J:c'.bi=c.bi)(M:c'.bt=c.bt)(N:c'.l=c.l):XO c c' o:=
 ⟨e1,D,E,I,.inl ⟨O,J,M,.inl ⟨Q,N⟩⟩⟩
theorem Qm.Qcv{g:G}{i:Nat}{c c':Core}{bt bl:Nat}(h:Qm g i c bt bl){w:Nat}{L F:Log}{e cc:Nat}(Q:g.T c.term=some (w,L))(ad:1<=e)(ae:e<=L.length)(ac:cc<=e)(ab:Com g c.term (L.take cc))
  (O:(F=g.full i/\L.take e <+: g.full i)\/(F=L.take e/\ ¬L.take e <+: g.full i))
  (e1:c'.id=c.id) (W:c'.n=c.n) (M:c'.term=c.term) (Y:c'.vote=c.vote) (E:c'.bi=c.bi) (Z:c'.bt=c.bt) (N:c'.l=F.drop c.bi) (ag:c.bi<=F.length) (aa:c'.commit=max c.commit cc) (J:c'.role=0) (e10:c'.yes=c.yes) (e11:c'.mtch=c.mtch) (e12:c'.next=c.next) (U:tm F (c.bi - 1)=c.bt):
  ∃g',Mv g g' i/\Qm g' i c' bt bl/\e<=g'.A i c'.term:=by
 have r:=h.rel;obtain⟨af,l1⟩:=h.inv.append (i:=i) (w:=w) (L:=L) (F:=F) (e:=e) (c:=cc) h.hi (by rw[r.term];exact Q) ad ae ac (by rw[r.term];exact ab) O;have I:(g.append i F e cc).full i=F:=upd_same _ _ _;refine⟨g.append i F e cc,⟨l1,fun j D=>⟨rfl,rfl,upd_ne _ _ D,rfl,upd_ne _ _ D,upd_ne _ _ D,rfl,rfl⟩⟩,⟨af,⟨h.bnd.term,fun j D=> ?_,h.bnd.T,h.bnd.CL⟩,⟨e1.trans r.id,W.trans r.n,r.n5,by rw[M];exact r.term,by rw[Y];exact r.vote,?_,?_,?_,by rw[E];exact r.bi,?_,by rw[J];exact upd_same _ _ _,by rw[e10];exact r.yes,by rw[e11];exact r.mtch⟩,
  ⟨by rw[e12];exact h.nx.nl,by rw[e11];exact h.nx.ml,fun e=>(by rw[J] at e;cases e),by rw[J];exact Zz _⟩,h.hi⟩,?_⟩
 ·by_cases hji:j=i
  ·subst hji
   rw[I];rcases O with ⟨rfl,_⟩|⟨rfl,_⟩
   ·exact h.bnd.full j D
   ·have:=(h.bnd.T _ _ _ Q).2
    rw[List.length_take];omega
  ·have:(g.append i F e cc).full j=g.full j:=upd_ne _ _ hji
   rw[this];exact h.bnd.full j D
 ·rw[I,E,N,List.length_drop]
  omega
 ·rw[I,E,N]
 ·rw[I,E,Z]
  exact U
 ·show upd g.commit i (max (g.commit i) cc) i=_
  rw[upd_same,aa,r.commit]
 ·show _<=upd g.A i (upd (g.A i) (g.term i) (max (g.A i (g.term i)) e)) i c'.term
  rw[M,<-r.term,upd_same,upd_same];exact Nat.le_max_right _ _
theorem Qm.Qf8{g:G}{i:Nat}{c c':Core}{bt bl:Nat}(h:Qm g i c bt bl){b:Nat}(W:c.bi<=b)(Y:b<=c.commit)(e1:c'.id=c.id)(M:c'.n=c.n)(N:c'.term=c.term)(O:c'.vote=c.vote)(D:c'.bi=b)(Q:c'.bt=tm (g.full i) (b - 1))(E:c'.l=c.l.drop (b - c.bi))(U:c'.commit=c.commit)(I:c'.role=c.role)(e10:c'.yes=c.yes)(e11:c'.mtch=c.mtch)(e12:c'.next=c.next):
  ∃g',Mv g g' i/\Qm g' i c' bt bl/\g'.A=g.A:=by
 have r:=h.rel;obtain⟨aa,l1⟩:=h.inv.compact (i:=i) (b:=b) h.hi (by rw[r.bi];exact W) (by rw[r.commit];exact Y);have ab:=h.ZI.2.2.1;have hlen:c.bi+c.l.length=c.last:=rfl;have Z:c'.last=c.last:=by
  unfold Core.last lastOf at*
  rw[D,E,List.length_drop];omega
 refine⟨g.compact i b,⟨l1,fun j J=>⟨rfl,rfl,rfl,upd_ne _ _ J,rfl,rfl,rfl,rfl⟩⟩,⟨aa,⟨h.bnd.term,h.bnd.full,h.bnd.T,h.bnd.CL⟩,⟨e1.trans r.id,M.trans r.n,r.n5,by rw[N];exact r.term,by rw[O];exact r.vote,?_,?_,?_,by rw[D];exact upd_same _ _ _,by rw[U];exact r.commit,by rw[I];exact r.role,by rw[e10];exact r.yes,by rw[e11];exact r.mtch⟩,
  ⟨by rw[e12];exact h.nx.nl,by rw[e11];exact h.nx.ml,fun e j J=>(by rw[I] at e;rw[e12,e11,Z];exact h.nx.lead e j J),by rw[I];exact h.nx.role⟩,h.hi⟩,rfl⟩
 ·show (g.full i).length =_
  rw[r.len,D,E,List.length_drop];omega
 ·show (g.full i).drop _=_
  rw[D,E,<-r.drop,List.drop_drop]
  congr 1
  omega
 ·show tm (g.full i) _=_
  rw[D,Q]
theorem Qri(L:Log)(a b c:Nat)(D:a<=b)(E:b<=L.length)(I:c<=a):(L.take b).drop c=(L.take a).drop c++(L.drop a).take (b - a):=by
 have e:L.take b=L.take a++(L.drop a).take (b - a):=by
  rw[<-List.take_add]
  congr 1
  omega
 rw[e,List.drop_append_of_le_length (by rw[List.length_take];omega)]
theorem QnZ{g:G}{c:Core}(h:Qm g i c bt bl){L:Log}{m:Mg}(I:m.es=(L.drop m.idx).take m.es.length)(M:m.idx+m.es.length<=L.length)(N:Qay c m k): ¬L.take (m.idx+m.es.length) <+: g.full i:=by
 obtain⟨J,U,E⟩:=N;intro D;have O:=D.length_le;rw[List.length_take] at O;have Q:=Qdn h.rel (x:=m.idx+k+1) (by omega) (by omega);apply E;rw[Q,Qgx I M J]
 congr 1
 rw[<-Z7 D (by rw[List.length_take];omega),Z8 (by omega)]
 congr 1
theorem Qm.Qev{g:G}{c:Core}(h:Qm g i c bt bl){m:Mg}(aP:Zn g frm i m)(aL:m.kind=3\/m.kind=5)(a2:m.term<=c.term){o:Ou}(N:o.sends=[])(aa:o.frm=0)(W:o.rest=none):
  ∃g',Mv g g' i/\Qm g' i (c.led frm m o).1 bt bl/\QO g' i (c.led frm m o).1 (c.led frm m o).2/\XO c (c.led frm m o).1 (c.led frm m o).2:=by
 obtain⟨_,_,_,Y,_,M,_,_,aU,_,aV⟩:=aP;have M:frm≠i:=fun e=>M e.symm
 obtain⟨aB,aX,aY,ah⟩:=h.ZI;have hlen:=h.rel.len;have a1:c.last=(g.full i).length :=by rw[hlen];rfl
 unfold Core.led Core.Zk;split
 ·exact⟨g,Mv.refl g i,h,(QO.nil N).send (QeX h Y M (.inr rfl)),.same W aa rfl rfl rfl rfl rfl rfl rfl⟩
 rename_i hmt2
 have ax:m.term=c.term:=by omega
 split
 ·exact⟨g,Mv.refl g i,h,QO.nil N,.same W aa rfl rfl rfl rfl rfl rfl rfl⟩
 split
 ·rename_i Z
  obtain⟨w,L,J,ag,O,Q,ac⟩:=aV Z;rw[ax] at J ac;split
  ·rename_i hcb
   have aE: ∃F:Log,((F=g.full i/\L.take m.bi <+: g.full i)\/(F=L.take m.bi/\ ¬L.take m.bi <+: g.full i))/\F.drop m.bi=Q1 c.bi c.bt c.l m.bi m.bt/\m.bi<=F.length/\tm F (m.bi - 1)=m.bt/\tm F (c.bi - 1)=c.bt:=by
    have aH:=h.inv.QbV ah J (Zf _);have aT:tm (L.take m.bi) (c.bi - 1)=c.bt:=by
     rw[Z8 (by omega),<-h.rel.bt];have:=Z7 aH (k:=c.bi - 1) (by rw[List.length_take];omega);rw[<-this,Z8 (by omega)]
    unfold Q1;split
    ·rename_i ht
     obtain⟨a4,aW,aA⟩:=Qcd h.rel aB ht;have aw:=Qe1 (h.inv.full i h.hi).1 (h.inv.tlog _ _ _ J).1 (k:=m.bi - 1) (by omega) (by omega) (by rw[aA,Q]);rw[show m.bi - 1+1=m.bi by omega] at aw;refine⟨g.full i,.inl ⟨rfl,?_⟩,?_,aW,aA,h.rel.bt⟩
     ·rw[<-aw];exact List.take_prefix _ _
     ·rw[<-h.rel.drop,List.drop_drop]
      congr 1
      omega
    ·rename_i ht
     refine⟨L.take m.bi,.inr ⟨rfl,fun av=>ht ?_⟩,?_,by rw[List.length_take];omega,by rw[Z8 (by omega)];exact Q.symm,aT⟩
     ·have ab:=av.length_le
      rw[List.length_take] at ab;rw[Qdn h.rel (by omega) (by omega),Q]
      congr 1
      rw[<-Z7 av (by rw[List.length_take];omega),Z8 (by omega)]
     ·rw[List.drop_eq_nil_iff,List.length_take]
      omega
   obtain⟨F,aD,aI,aZ,aR,aS⟩:=aE;obtain⟨I,E,D,U⟩:=h.Qcv (c':={c with role:=0,known:=frm,waits:=0,l:=F.drop c.bi,commit:=max c.commit m.bi}) J ag O (Zf _) ac aD rfl rfl rfl rfl rfl rfl rfl (by omega) rfl rfl rfl rfl rfl aS;have aK:tm (I.full i) (m.bi - 1)=m.bt:=by
    rw[<-aR];have ak:=D.rel.drop;have a0:=D.rel.len;by_cases hx:c.bi<=m.bi - 1
    ·have e1:tm (I.full i) (m.bi - 1)=tm ((I.full i).drop c.bi) (m.bi - 1 - c.bi):=by
      unfold tm;rw[List.getD_eq_getElem?_getD,List.getD_eq_getElem?_getD,List.getElem?_drop]
      congr 3
      omega
     have ak:(I.full i).drop c.bi=F.drop c.bi:=ak;rw[e1,ak];unfold tm;rw[List.getD_eq_getElem?_getD,List.getD_eq_getElem?_getD,List.getElem?_drop]
     congr 3
     omega
    ·omega
   obtain⟨aC,ay,ae,aF⟩:=D.Qf8 (c':={c with role:=0,known:=frm,waits:=0,bi:=m.bi,bt:=m.bt,l:=Q1 c.bi c.bt c.l m.bi m.bt,commit:=m.bi}) (b:=m.bi) (by show c.bi<=m.bi;omega) (by show m.bi<=max c.commit m.bi;omega) rfl rfl rfl rfl rfl aK.symm (by
     show Q1 c.bi c.bt c.l m.bi m.bt=(F.drop c.bi).drop (m.bi - c.bi);rw[<-aI,List.drop_drop]
     congr 1
     omega) (by show m.bi=max c.commit m.bi;omega) rfl rfl rfl rfl
   refine⟨aC,E.trans ay,ae,?_,rfl,rfl,rfl,rfl,.inr ⟨aa,m.bi,m.bt,rfl,hcb,rfl,rfl,rfl⟩⟩;refine QO.send (QO.nil N) ?_
   have aO:=E.trans ay;refine Qdc ae (by rw[aO.le.n];exact Y) M ?_
   rw[aF];exact U
  ·rename_i hcb
   have aj:=h.inv.QbV ah J (Zf _);have ap:(g.full i).take c.commit=L.take c.commit:=by
    have ab:=aj.length_le;rw[List.length_take] at ab;have:=Qat aj (k:=c.commit) (by rw[List.length_take];omega)
    rwa [List.take_take,Nat.min_self] at this
   have aG:c.commit<=L.length:=by
    have ab:=aj.length_le;rw[List.length_take] at ab;omega
   obtain⟨I,E,D,U⟩:=h.Qcv (F:=g.full i) (e:=c.commit) (cc:=c.commit) (c':={c with role:=0,known:=frm,waits:=0}) J (by omega) aG (Zf _) (by rw[<-ap];exact ah) (.inl ⟨rfl,by rw[<-ap];exact List.take_prefix _ _⟩) rfl rfl rfl rfl rfl rfl h.rel.drop.symm (by omega) (by show c.commit=max c.commit c.commit;omega) rfl rfl rfl rfl h.rel.bt;exact⟨I,E,D,(QO.nil N).send (Qdc D (by rw[E.le.n];exact Y) M U),.same W aa rfl rfl rfl rfl rfl rfl rfl⟩
 ·rename_i Z
  have Z:m.kind=3:=aL.resolve_right Z;obtain⟨w,L,J,ag,O,Q,ac,am,a3⟩:=aU Z;rw[ax] at J am;split
  ·obtain⟨I,E,D⟩:=h.follow (c':={c with role:=0,known:=frm,waits:=0}) rfl rfl rfl rfl rfl rfl rfl rfl rfl rfl rfl rfl
   exact⟨I,E,D,QO.nil N,.same W aa rfl rfl rfl rfl rfl rfl rfl⟩
  split
  ·rename_i af
   have af:ZH c.bi c.bt c.l m.idx m.lt=true:=af;rcases Qd9 c m with ⟨ai,al⟩|⟨k,an,au,al⟩
   ·
    obtain⟨D,ae,az⟩:=QiA h J ag O Q ac af (K:=m.es.length) (Zf _) (fun k _=>al k);have aJ:L.take (m.idx+m.es.length) <+: g.full i:=by
     refine List.IsPrefix.trans ?_ (List.take_prefix (max (max m.idx c.bi) (m.idx+m.es.length)) _)
     rw[D];exact Raft.Qcc _ (Nat.le_max_right _ _)
    obtain⟨I,E,ad,U⟩:=h.Qcv (F:=g.full i) (e:=m.idx+m.es.length) (cc:=min m.com (m.idx+m.es.length)) (c':={c with role:=0,known:=frm,waits:=0,l:=if Xa c.bi c.bt c.l m.idx m.es 0=0 then c.l else c.l.take (Xa c.bi c.bt c.l m.idx m.es 0 - c.bi - 1)++m.es.drop (Xa c.bi c.bt c.l m.idx m.es 0 - m.idx - 1),commit:=max c.commit (min m.com (m.idx+m.es.length))}) J (by omega) O (Nat.min_le_right _ _) am (.inl ⟨rfl,aJ⟩) rfl rfl rfl rfl rfl rfl (by rw[if_pos ai];exact h.rel.drop.symm) (by omega) rfl rfl rfl rfl rfl h.rel.bt;refine⟨I,E,ad,?_,?_⟩
    ·refine QO.send (o:={o with frm:=Xa c.bi c.bt c.l m.idx m.es 0}) (QO.nil N) ?_
     exact Qdc ad (by rw[E.le.n];exact Y) M U
    ·exact .same W ai rfl rfl rfl rfl rfl rfl (if_pos ai)
   ·obtain⟨D,ae,az⟩:=QiA h J ag O Q ac af (K:=k) (by obtain⟨h1,_⟩:=au;omega) al
    obtain⟨aM,ar,aN⟩:=au;have aQ:max (max m.idx c.bi) (m.idx+k)=m.idx+k:=by omega
    rw[aQ] at D ae az;have ao: ¬Xa c.bi c.bt c.l m.idx m.es 0=0:=by omega
    have aq:c.l.take (m.idx+k+1 - c.bi - 1)++m.es.drop (m.idx+k+1 - m.idx - 1)=(L.take (m.idx+m.es.length)).drop c.bi:=by
     rw[Qri L (m.idx+k) (m.idx+m.es.length) c.bi (by omega) O (by omega),<-D,<-h.rel.drop,List.drop_take]
     congr 1
     ·congr 1
      omega
     ·rw[Q]
      simp only[List.length_take,List.length_drop];rw[List.drop_take,List.drop_drop]
      congr 1
      ·omega
      ·congr 1
       omega
    obtain⟨I,E,ad,U⟩:=h.Qcv (F:=L.take (m.idx+m.es.length)) (e:=m.idx+m.es.length) (cc:=min m.com (m.idx+m.es.length)) (c':={c with role:=0,known:=frm,waits:=0,l:=if Xa c.bi c.bt c.l m.idx m.es 0=0 then c.l else c.l.take (Xa c.bi c.bt c.l m.idx m.es 0 - c.bi - 1)++m.es.drop (Xa c.bi c.bt c.l m.idx m.es 0 - m.idx - 1),commit:=max c.commit (min m.com (m.idx+m.es.length))}) J (by omega) O (Nat.min_le_right _ _) am (.inr ⟨rfl,QnZ h Q O ⟨aM,ar,aN⟩⟩) rfl rfl rfl rfl rfl rfl (by rw[if_neg ao,an];exact aq) (by rw[List.length_take];omega) rfl rfl rfl rfl rfl (by
      rw[Z8 (by omega),<-h.rel.bt,<-Z8 (l:=L) (m:=m.idx+k) (by omega),<-D,Z8 (by omega)])
    refine⟨I,E,ad,?_,?_⟩
    ·refine QO.send (o:={o with frm:=Xa c.bi c.bt c.l m.idx m.es 0}) (QO.nil N) ?_
     exact Qdc ad (by rw[E.le.n];exact Y) M U
    ·refine⟨rfl,rfl,rfl,rfl,.inl ⟨W,rfl,rfl,.inr ?_⟩⟩
     show c.bi<Xa c.bi c.bt c.l m.idx m.es 0/\Xa c.bi c.bt c.l m.idx m.es 0<=c.last+1/\Xa c.bi c.bt c.l m.idx m.es 0<=lastOf c.bi (if Xa c.bi c.bt c.l m.idx m.es 0=0 then c.l else c.l.take (Xa c.bi c.bt c.l m.idx m.es 0 - c.bi - 1)++m.es.drop (Xa c.bi c.bt c.l m.idx m.es 0 - m.idx - 1))/\List.take (Xa c.bi c.bt c.l m.idx m.es 0 - c.bi - 1) (if Xa c.bi c.bt c.l m.idx m.es 0=0 then c.l else c.l.take (Xa c.bi c.bt c.l m.idx m.es 0 - c.bi - 1)++m.es.drop (Xa c.bi c.bt c.l m.idx m.es 0 - m.idx - 1))=c.l.take (Xa c.bi c.bt c.l m.idx m.es 0 - c.bi - 1);rw[if_neg ao,an];refine⟨ar,by omega,?_,?_⟩
     ·unfold lastOf
      rw[aq,List.length_drop,List.length_take];omega
     ·rw[List.take_append_of_le_length (by rw[List.length_take];unfold Core.last lastOf at*;omega),List.take_take,Nat.min_self]
  ·obtain⟨I,E,D⟩:=h.follow (c':={c with role:=0,known:=frm,waits:=0}) rfl rfl rfl rfl rfl rfl rfl rfl rfl rfl rfl rfl
   refine⟨I,E,D,?_,.same W rfl rfl rfl rfl rfl rfl rfl rfl⟩;refine QO.send (o:={o with frm:=0}) (QO.nil N) ?_
   exact QeX D (by rw[E.le.n];exact Y) M (.inr rfl)
theorem XO.put{c D:Core}{o:Ou}(Q:o.rest=none)(e1:c.id=D.id)(J:c.n=D.n)(M:c.elect=D.elect)(N:c.beat=D.beat)(E:c.bi=D.bi)(O:c.bt=D.bt)(I:c.l=D.l):XO D (c.put s o).1 {(c.put s o).2 with frm:=D.last+1}:=by
 refine⟨e1,J,M,N,.inl ⟨(KQ _ _ _ _ _).2.trans Q,E,O,.inr ?_⟩⟩;show D.bi<D.last+1/\D.last+1<=D.last+1/\D.last+1<=lastOf c.bi (c.l++[(c.term,s)])/\(c.l++[(c.term,s)]).take (D.last+1 - D.bi - 1)=D.l.take (D.last+1 - D.bi - 1);have:D.last=D.bi+D.l.length:=rfl;refine⟨by omega,Zf _,?_,?_⟩
 ·unfold lastOf
  rw[E,I,List.length_append,List.length_singleton];omega
 ·rw[I,List.take_append_of_le_length (by omega)]
theorem Qrt{c:Core}{draw:Nat}{o:Ou}(D:o.rest=none)(E:o.frm=0):XO c (c.tick draw o).1 (c.tick draw o).2:=by
 unfold Core.tick;split
 ·split
  ·refine .same ?_ ?_ rfl rfl rfl rfl rfl rfl rfl
   ·exact (KQ _ _ _ _ _).2.trans D
   ·exact (KQ _ _ _ _ _).1.trans E
  ·exact .same D E rfl rfl rfl rfl rfl rfl rfl
 ·split
  ·unfold Core.stand
   split
   ·exact XO.put (o:=o) D rfl rfl rfl rfl rfl rfl rfl
   ·refine .same ?_ ?_ rfl rfl rfl rfl rfl rfl rfl
    ·exact (KQ _ _ _ _ _).2.trans D
    ·exact (KQ _ _ _ _ _).1
  ·exact .same D E rfl rfl rfl rfl rfl rfl rfl
theorem XO.bump{c:Core}{c':Core}{o:Ou}(h:XO (c.bump t) c' o):XO c c' o:=by
 unfold Core.bump at h;split at h
 ·exact h
 ·exact h
theorem Qm.step_ok{g:G}{c:Core}(h:Qm g i c bt bl){m:Mg}(Y:Zn g frm i m)(ah:m.term<=bt){o:Ou}(U:o.sends=[])(N:o.frm=0)(I:o.rest=none):
  ∃g',Mv g g' i/\Qm g' i (c.step frm m o).1 bt (bl+1)/\QO g' i (c.step frm m o).1 (c.step frm m o).2/\XO c (c.step frm m o).1 (c.step frm m o).2:=by
 obtain⟨ai,O,W⟩:=h.bump m.term ah;have Q:=Y.mono O.le;have ag:m.term<=(c.bump m.term).term :=by
  unfold Core.bump;split
  ·exact Zf _
  ·omega
 unfold Core.step;split
 ·rename_i hk
  obtain⟨D,J,M,E⟩:=W.Qkm Q hk U;refine⟨D,O.trans J,M.mono (Zf _) (Nat.le_succ _),E,XO.bump (t:=m.term) ?_⟩;unfold Core.asked;split<;>exact .same I N rfl rfl rfl rfl rfl rfl rfl
 split
 ·rename_i hk
  obtain⟨D,J,M,E⟩:=W.QrO Q hk U;refine⟨D,O.trans J,M,E,XO.bump (t:=m.term) ?_⟩;unfold Core.Zb;split
  ·split
   ·exact XO.put (o:=o) I rfl rfl rfl rfl rfl rfl rfl
   ·exact .same I N rfl rfl rfl rfl rfl rfl rfl
  ·exact .same I N rfl rfl rfl rfl rfl rfl rfl
 split
 ·rename_i hk
  obtain⟨D,J,M,E⟩:=W.Qki Q hk U;refine⟨D,O.trans J,M.mono (Zf _) (Nat.le_succ _),E,XO.bump (t:=m.term) ?_⟩;generalize c.bump m.term=c at*
  unfold Core.appended;split
  ·exact .same I N rfl rfl rfl rfl rfl rfl rfl
  ·have fin: ∀c':Core,c'.id=c.id->c'.n=c.n->c'.elect=c.elect->c'.beat=c.beat->c'.bi=c.bi->c'.bt=c.bt->c'.l=c.l->XO c c' (if m.ok=false\/gd c'.next frm<=c.last then o.send frm (c'.lacks frm) else o):=by
    intro c' e1 Z aa ab ac ad ae;refine .same ?_ ?_ e1 Z aa ab ac ad ae
    ·split<;>exact I
    ·split<;>exact N
   apply fin
   all_goals (split;rfl;split<;>rfl)
 ·rename_i k1 k2 k4
  obtain⟨D,J,M,E,af⟩:=W.Qev Q (by have:=Y.2.1;have:=Y.2.2.1;omega) ag U N I;exact⟨D,O.trans J,M.mono (Zf _) (Nat.le_succ _),E,XO.bump (t:=m.term) af⟩
theorem Qm.QeU{g:G}{c:Core}(h:Qm g i c bt bl)(M:c.role=2)(s:Nat){o:Ou}(I:o.sends=[])(J:o.rest=none):
  ∃g',Mv g g' i/\Qm g' i (c.put s o).1 bt (bl+1)/\QO g' i (c.put s o).1 (c.put s o).2/\XO c (c.put s o).1 {(c.put s o).2 with frm:=c.last+1}:=by
 obtain⟨D,N,O,E,_⟩:=h.QpC M s I;exact⟨D,N,O,E,XO.put (o:=o) J rfl rfl rfl rfl rfl rfl rfl⟩
def Core.anew(c:Core):Core:=⟨c.id,c.elect,c.beat,c.term,c.vote,c.n,c.bi,c.bt,c.l,c.bi,0,-1,0,0,[],List.replicate 5 0,List.replicate 5 0⟩
theorem Qm.QpP{g:G}{c:Core}(h:Qm g i c bt bl): ∃g',Mv g g' i/\Qm g' i c.anew bt bl:=by
 obtain⟨J,l1⟩:=h.inv.Qa2 h.hi;have r:=h.rel;obtain⟨Q,l2⟩:=J.soft (g':={g.Qa2 i with yes:=upd g.yes i (fun _=>False),mtch:=upd g.mtch i (fun _=>0)}) rfl rfl rfl rfl rfl rfl rfl rfl (fun j D E=>by
   have I:upd g.role i 0 j=1:=E;by_cases hji:j=i
   ·subst hji;rw[upd_same] at I;cases I
   ·have:=J.cand j D E
    refine⟨this.1,fun k M N=>this.2.1 k M ?_,this.2.2⟩;have O:upd g.yes i (fun _=>False) j k:=N
    rwa [upd_ne _ _ hji] at O) (fun j D E=>by
   have I:upd g.role i 0 j=2:=E;by_cases hji:j=i
   ·subst hji;rw[upd_same] at I;cases I
   ·have:=J.lead j D E
    refine⟨this.1,fun k M=> ?_,this.2.2⟩;show upd g.mtch i (fun _=>0) j k<=_;rw[upd_ne _ _ hji];exact this.2.1 k M) J.com
 refine⟨_,⟨l1.trans l2,fun j D=>⟨rfl,rfl,rfl,rfl,upd_ne _ _ D,upd_ne _ _ D,upd_ne _ _ D,upd_ne _ _ D⟩⟩,⟨Q,⟨h.bnd.term,h.bnd.full,h.bnd.T,h.bnd.CL⟩,⟨r.id,r.n,r.n5,r.term,r.vote,r.len,r.drop,r.bt,r.bi,?_,upd_same _ _ _,fun j D N=>(by cases N),fun j D=> ?_⟩,⟨rfl,rfl,fun e=>(by cases e),Zz _⟩,h.hi⟩⟩
 ·show upd g.commit i (g.bi i) i=c.bi
  rw[upd_same,r.bi]
 ·show upd g.mtch i (fun _=>0) i j=gd (List.replicate 5 0) j
  rw[upd_same,WY _ _ (by have:=r.n5;have:j<g.n:=D;omega)]
def Core.compacted(c:Core)(b:Nat):Core:={c with bi:=b,bt:=(Qu c.bi c.bt c.l b).getD 0,l:=c.l.drop (b - c.bi)}
theorem Qm.Qk2{g:G}{c:Core}(h:Qm g i c bt bl)(D:c.bi<=b)(I:b<=c.commit): ∃g',Mv g g' i/\Qm g' i (c.compacted b) bt bl:=by
 have N:=h.ZI.2.2.1;have O:c.last=(g.full i).length :=by rw[h.rel.len];rfl
 obtain⟨E,J,M,_⟩:=h.Qf8 (c':=c.compacted b) D I rfl rfl rfl rfl rfl (by
  show (Qu c.bi c.bt c.l b).getD 0=_;rw[Qdn h.rel D (by omega)];rfl) rfl rfl rfl rfl rfl rfl
 exact⟨E,J,M⟩
def Qdr(e:En):Nat:=1+e.1*1048576+e.2*2
def Wm(g:G)(ld:Nat->Nat):Prop:= ∀t,ld t≠0-> ∃w L,g.T t=some (w,L)/\ld t=w+1
def Wi(g:G)(dn:Nat->Nat):Prop:= ∀x,dn x≠0-> ∃t p e,Com g t p/\1<=x/\p[x - 1]? =some e/\dn x=Qdr e
theorem Wm.mono{g g':G}(h:Wm g fa)(M:Le g g'):Wm g' fa:=fun t N=>by
 obtain⟨w,L,E,I⟩:=h t N
 obtain⟨D,J,_⟩:=M.T _ _ _ E
 exact⟨w,D,J,I⟩
theorem Wi.mono{g g':G}(h:Wi g fa)(M:Le g g'):Wi g' fa:=fun x N=>by
 obtain⟨t,p,e,D,E,I,J⟩:=h x N
 exact⟨t,p,e,D.mono M (Zf _),E,I,J⟩
theorem Wm.same{g:G}{c:Core}(h:Wm g fa)(N:Qm g i c bt bl)(M:c.role=2):(fa c.term≠0->fa c.term=i+1)/\Wm g (upd fa c.term (i+1)):=by
 obtain⟨E,_⟩:=N.lead M;refine⟨fun J=> ?_,fun t ht=> ?_⟩
 ·obtain⟨w,L,D,I⟩:=h _ J
  rw[E] at D
  cases D
  exact I
 ·by_cases he:t=c.term
  ·subst he
   exact⟨i,_,E,upd_same _ _ _⟩
  ·rw[upd_ne _ _ he] at ht ⊢
   exact h t ht
theorem QoH{p q:Log}(h:p <+: q\/q <+: p){a b:Nat×Nat}(D:p[k]? =some a)(E:q[k]? =some b):a=b:=by
 rcases h with ⟨s,rfl⟩|⟨s,rfl⟩
 ·rw[List.getElem?_append_left (List.getElem?_eq_some_iff.1 D).1,D] at E
  cases E;rfl
 ·rw[List.getElem?_append_left (List.getElem?_eq_some_iff.1 E).1,E] at D
  cases D;rfl
theorem Wi.same{g:G}{c:Core}(h:Wi g fa)(D:Qm g i c bt bl){e:En}(O:c.l[k]? =some e)(ab:c.bi+k+1<=c.commit):(fa (c.bi+k+1)≠0->fa (c.bi+k+1)=Qdr e)/\Wi g (upd fa (c.bi+k+1) (Qdr e)):=by
 obtain⟨U,W,Y,E⟩:=D.ZI;have I:((g.full i).take c.commit)[c.bi+k]? =some e:=by
  rw[List.getElem?_take,if_pos (by omega),<-List.getElem?_drop,D.rel.drop];exact O
 refine⟨fun Q=> ?_,fun x hx=> ?_⟩
 ·obtain⟨t,p,Z,J,aa,M,N⟩:=h _ Q
  have:=QoH (D.inv.agree J E) M I;rw[N,this]
 ·by_cases hxe:x=c.bi+k+1
  ·subst hxe
   exact⟨_,_,e,E,by omega,I,upd_same _ _ _⟩
  ·rw[upd_ne _ _ hxe] at hx ⊢
   exact h x hx
def G0(n:Nat):G:={n:=n,term:=fun _=>1,vote:=fun _=>none,full:=fun _=>[(1,0)],bi:=fun _=>1,commit:=fun _=>1,role:=fun _=>0,yes:=fun _ _=>False,mtch:=fun _ _=>0,T:=fun t=>if t=1 then some (n,[(1,0)]) else none,A:=fun _ t=>if t=1 then 1 else 0,VR:=fun _ _=>none,CL:=fun _ _=>none}
theorem QbO{w:Nat}{L:Log}(h:(G0 n).T t=some (w,L)):t=1/\w=n/\L=[(1,0)]:=by
 have h:(if t=1 then some (n,[(1,0)]) else none)=some (w,L):=h;split at h
 ·rename_i e
  simp only[Option.some.injEq,Prod.mk.injEq] at h;exact⟨e,h.1.symm,h.2.symm⟩
 ·cases h
theorem Qfw(n:Nat):ZO (G0 n) [(1,0)]:=by
 refine⟨by simp,by simp,fun k D=> ?_⟩;have:k=0:=by simpa using D
 subst this;exact⟨n,[(1,0)],rfl,rfl⟩
theorem Qjt(n:Nat):Inv (G0 n):=by
 have E:(G0 n).T 1=some (n,[(1,0)]):=rfl;refine⟨E,fun t w L h=> ?_,fun t w L h=> ?_,fun t w L h=>.inl (QbO h).1,fun i _=>⟨Qfw n,fun e D=> ?_⟩,fun i t c l b h=>(by cases h),fun i c _ h=>(by cases h),fun c t l h=>(by cases h),fun i _ h=>(by cases h),fun i _ h=>(by cases h),fun j t _ h=> ?_,fun j t k w L _ hT h1 h2 h3=> ?_,fun j t k w L t' c l b _ _ _ _ _ _ h=>(by cases h),fun i _=>⟨Zf _,Zf _,Zf _,?_⟩⟩
 ·rw[(QbO h).1];exact Zf _
 ·obtain⟨rfl,rfl,rfl⟩:=QbO h
  exact⟨Qfw _,fun e D=>by rw[List.mem_singleton] at D;rw[D];exact Zf _⟩
 ·have D:e∈[(1,0)]:=D
  rw[List.mem_singleton] at D;rw[D];exact Zf _
 ·have h:1<=(if t=1 then 1 else 0):=h
  split at h
  ·rename_i e
   subst e;exact⟨Zf _,n,_,E,Zf _⟩
  ·omega
 ·obtain⟨rfl,rfl,rfl⟩:=QbO hT
  exact .inl (List.take_prefix _ _)
 ·refine⟨1,1,[(1,0)],Zf _,⟨n,E,Zf _,Zf _,rfl,⟨List.range n,List.nodup_range,fun j I=>⟨List.mem_range.1 I,Zf _⟩,?_⟩⟩,List.prefix_refl _⟩
  rw[List.length_range];show n/2+1<=n;have:i<n:=by assumption
  omega
def Core.first(n i:Nat):Core:=⟨i,4,1,1,none,n,1,1,[],1,0,-1,0,0,[],List.replicate 5 0,List.replicate 5 0⟩
theorem Qju(D:i<n)(E:n<=5):Qm (G0 n) i (Core.first n i) 1 1:=by
 refine⟨Qjt n,⟨fun _ _=>Zf _,fun _ _=>Zf _,fun t w L h=> ?_,fun c t l h=>(by cases h)⟩,⟨rfl,rfl,E,rfl,rfl,rfl,rfl,rfl,rfl,rfl,rfl,fun j _ h=>(by cases h),fun j hj=> ?_⟩,⟨rfl,rfl,fun h=>(by cases h),Zz _⟩,D⟩
 ·obtain⟨rfl,rfl,rfl⟩:=QbO h
  exact⟨Zf _,Zf _⟩
 ·show 0=gd (List.replicate 5 0) j
  have:j<n:=hj;rw[WY _ _ (by omega)]
end
end Go.Proofs.YtbleblbfadeciaaGreatDoor
