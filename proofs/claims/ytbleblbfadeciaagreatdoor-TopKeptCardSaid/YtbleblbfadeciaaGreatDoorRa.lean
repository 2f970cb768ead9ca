/- For TopKept. -/
import Derived.Test.YtbleblbfadeciaaGreatDoorLc
import Derived.Test.YtbleblbfadeciaaGreatDoorL
import Derived.Test.YtbleblbfadeciaaGreatDoorChecked
import Derived.Test.YtbleblbfadeciaaGreatDoorT1
import Derived.Lib.SliceRun
import Derived.Laws.MakeOwn
import Derived.IntWalk
import Derived.Deep.CutBlock
import Derived.Deep.AppendLies
set_option linter.all false
set_option maxHeartbeats 16000000
set_option maxRecDepth 10000
namespace Go.Proofs.YtbleblbfadeciaaGreatDoor
variable{A:Array Value}{b bi bt cap g i k n na nb p s t:Nat}{S:Nat->Prop}{O:Option Addr}{Y Z mv v va vb:Value}{w w' w0 w6:World}
section
open Go.RowKit Go.Acre
def Qk(v:Value)(w:World)(e:Ending)(w':World):Prop:=e= .returned v/\Qa Ze w w'
abbrev En:=Nat×Nat
def kI(s:Nat):Int:=if s=0 then 0 else 1
def oI(s:Nat):Int:=if s=0 then 0 else 2
def rS(s:Nat):ByteArray:=if s=0 then ⟨#[]⟩ else ⟨#[114]⟩
def cS(s:Nat):ByteArray:=if s=0 then ⟨#[]⟩ else ⟨#[120]⟩
def Qh(i t s:Nat):Array Value:= #[.int .u64 i,.int .u64 t,.int .i64 1,.int .i64 (kI s),.int .i64 0,.int .u64 s,.int .u64 0,.int .i64 (oI s),.string (rS s),.string (cS s),.string ⟨#[]⟩,.bool false,.string ⟨#[]⟩,.int .u64 0,.int .i64 0,.string ⟨#[]⟩,.string ⟨#[]⟩,.int .i64 0,.bool false,.int .i64 0,.string ⟨#[]⟩,.int .i64 0,.int .i64 0,.slice none 0 0]
def QS(i t s:Nat):Value:=.agg (Qh i t s)
theorem ZJ(i t s:Nat):(Qh i t s).size =24:=rfl
theorem Z3(i t s:Nat):(Qh i t s).all (·.oneCell')=true:=by simp[Qh,Value.oneCell']
theorem Qgq(i t s:Nat):(Qh i t s)[23]? =some (.slice none 0 0):=rfl
theorem Wt(i t s:Nat):(Qh i t s)[0]? =some (.int .u64 i):=rfl
theorem Qbm(i t s:Nat):(Qh i t s)[1]? =some (.int .u64 t):=rfl
theorem QcD(i t s:Nat):(Qh i t s)[2]? =some (.int .i64 1):=rfl
theorem Z4(h:A.size=24):(Tryz.prog.info? 116).map (·.size)=some A.size:=by rw[h];kernel_rfl
theorem QaJ{l:List Value}(h:l.length=24):(Tryz.prog.info? 116).map (·.size)=some l.length:=by rw[h];kernel_rfl
theorem QH(w:World)(a:Option Addr)(n c:Nat):(binOp .eql 37 (.slice a n c) (.slice none 0 0)).run Tryz.prog w= .ok (.bool a.isNone) w:=Lib.run_eql_slice_nil w 37 3 a n c 0 0 Tryz.underlying37
attribute [local simp] QH
theorem clone_nil(w:World):Calls Tryz.prog 70 #[.slice none 0 0] w (fun e w'=>e= .returned (.slice none 0 0)/\w=w'):=by
 go_enter Tryz.func70,Tryz.ntmps70;go_wp2_with fail;go_ret;exact⟨rfl,rfl⟩
theorem Qh3(i t s:Nat)(w:World):Calls Tryz.prog 159 #[QS i t s] w (Qk (QS i t s) w):=by
 unfold QS;have I:=Qgq i t s;have J:=ZJ i t s;have M:=Z3 i t s;generalize Qh i t s=A at*
 have D:=Zh J;have Y:Hid (A.all (·.oneCell')=true):=Zh M;clear M J;go_enter Tryz.func159,Tryz.ntmps159;go_wp2_with fail;generalize hZ:(#[.int .u64 0,.int .u64 0,.int .i64 0,.int .i64 0,.int .i64 0,.int .u64 0,.int .u64 0,.int .i64 0,.string ⟨#[]⟩,.string ⟨#[]⟩,.string ⟨#[]⟩,.bool false,.string ⟨#[]⟩,.int .u64 0,.int .i64 0,.string ⟨#[]⟩,.string ⟨#[]⟩,.int .i64 0,.bool false,.int .i64 0,.string ⟨#[]⟩,.int .i64 0,.int .i64 0,.slice none 0 0]:Array Value)=Z;have ab:Hid (Z.size=24):=Zh (by rw[<-hZ];rfl);clear hZ;have hx1:=heap_alloc2_old w (.cells A 116) (.cells Z 116);have Q:=heap_alloc2_new w (.cells A 116) (.cells Z 116);have N:Qa Ze w ((w.alloc (.cells A 116)).alloc (.cells Z 116)):=((Zr _ w).alloc _).alloc _;refine (clone_nil _).mono ?_
 rintro e w' ⟨rfl,rfl⟩;have ad:w.heap.size+1≠w.heap.size:=by omega
 have af:w.heap.size<w.heap.size+1:=by omega
 generalize (w.alloc (.cells A 116)).alloc (.cells Z 116)=w1 at*
 have E:=Qb hx1 23;have ac:=Qg hx1 23 none;rw[I] at E;go_upto_region 2 with fail
 have U:=Qi (o:=23) hx1 (.slice none 0 0);rw[set_self I] at U;have W:(w1.setCell ⟨w.heap.size,23,none⟩ (.slice none 0 0)).heap[w.heap.size+1]? =some (.cells Z 116):=by rw[heap_setCell_other _ _ _ _ ad];exact Q
 have O:=N.setCell (p:=⟨w.heap.size,23,none⟩) (fun h=>absurd h (Nat.lt_irrefl _)) (.slice none 0 0);have aa:=Zh O;clear O N hx1 Q E ac;generalize w1.setCell ⟨w.heap.size,23,none⟩ (.slice none 0 0)=w2 at*
 go_wp2_with (first|refine wpList_load_row rfl 116 _ rfl _ rfl _ _ _ _ U Tryz.underlying116 rfl (Z4 D.out) ?_|refine wpList_store_row rfl 116 _ _ rfl _ _ rfl rfl _ _ W (Z4 D.out) (by rw[D.out,ab.out]) Y.out ?_);have ae:=Xr w2 _ A W;refine bodyPost_ret (v:=.agg A) ?_ rfl ⟨rfl,?_⟩
 ·exact results_cell_row rfl _ _ _ _ _ _ _ rfl ae Tryz.underlying116 rfl (Z4 D.out)
 ·exact QL aa.out (fun h=>absurd h (by omega)) A
def Qs:Nat->List En->List Value
 |_,[]=>[]
 |i,(t,s)::r=>(Qh (i+1) t s).toList ++Qs (i+1) r
theorem Q5: ∀(l:List En) (i:Nat),(Qs i l).length =l.length*24
 |[],_=>rfl
 |
  (t,s)::r,i=>by
  rw[Qs,List.length_append,Q5 r (i+1),Array.length_toList,ZJ,List.length_cons]
  omega
theorem QbX: ∀(l m:List En) (i:Nat),Qs i (l++m)=Qs i l++Qs (i+l.length) m
 |[],_,_=>rfl
 |
  (t,s)::r,m,i=>by
  rw[List.cons_append,Qs,Qs,QbX r m (i+1),List.append_assoc,List.length_cons,show i+1+r.length=i+(r.length+1) by omega]
theorem QgJ(l:List En)(i k:Nat)(E:k<=l.length):(Qs i l).take (k*24)=Qs i (l.take k):=by
 have e:Qs i l=Qs i (l.take k)++Qs (i+(l.take k).length) (l.drop k):=by rw[<-QbX,List.take_append_drop]
 have D:(Qs i (l.take k)).length =k*24:=by rw[Q5,List.length_take];congr 1;omega
 rw[e,<-D,List.take_left'];rfl
theorem QgI(l:List En)(i k:Nat)(I:k<=l.length):(Qs i l).drop (k*24)=Qs (i+k) (l.drop k):=by
 have e:Qs i l=Qs i (l.take k)++Qs (i+(l.take k).length) (l.drop k):=by rw[<-QbX,List.take_append_drop]
 have D:(l.take k).length =k:=by rw[List.length_take];omega
 have E:(Qs i (l.take k)).length =k*24:=by rw[Q5,D]
 rw[e,<-E,List.drop_left',D];rfl
theorem Qea(l:List En)(i k:Nat)(E:k<l.length)(j:Nat)(v:Value)(h:(Qh (i+k+1) l[k].1 l[k].2).toList[j]? =some v):(Qs i l)[k*24+j]? =some v:=by
 rw[<-List.getElem?_drop,QgI l i k (by omega),List.drop_eq_getElem_cons E,Qs];have D:j< (Qh (i+k+1) l[k].1 l[k].2).toList.length :=(List.getElem?_eq_some_iff.1 h).1;rw[List.getElem?_append_left D];exact h
theorem Qeb(l:List En)(i:Nat): ∀v∈Qs i l,v.oneCell'=true:=by
 induction l generalizing i with
 |nil=>intro v D;cases D
 |
  cons x r ih=>
  obtain⟨t,s⟩:=x;intro v D;rw[Qs,List.mem_append] at D;rcases D with h|h
  ·exact Array.all_eq_true_iff_forall_mem.1 (Z3 (i+1) t s) v (by simpa using h)
  ·exact ih _ v h
def QA(w:World)(v:Value)(i:Nat)(l:List En):Prop:=Qr w 24 v l.length (Qs i l)
theorem QA.Qc{l:List En}(h:QA w v i l)(D:Qa Ze w w'):QA w' v i l:=Qr.Qc h D
theorem QA.Q7{base:Nat}{l:List En}(h:w.ownsRow base 116 24 v l.length (Qs i l)):QA w v i l:=Qr.Q7 h
theorem QA.slice{l:List En}(h:QA w v i l): ∃a cap,v= .slice a l.length cap/\l.length<=cap/\cap<=maxLen:=by
 obtain⟨_,a,cap,rfl,D,E,_⟩:=h;exact⟨a,cap,rfl,D,E⟩
theorem QA.range{a:Option Addr}{l:List En}(h:QA w (.slice a n cap) i l)(M:k<l.length):
  ∃g o,a=some ⟨g,o,none⟩/\w.rangeAt g (o+k*24) (Qh (i+k+1) l[k].1 l[k].2).toList :=by
 obtain⟨O,N,c',D,_,_,_,E⟩:=h;simp only[Value.slice.injEq] at D;obtain⟨rfl,rfl,rfl⟩:=D;obtain⟨g,o,J,I⟩:=E (by
  intro e;have:=congrArg List.length e;rw[Q5,List.length_nil] at this;omega)
 refine⟨g,o,J,fun j v D=> ?_⟩;have:=Qea l i k M j v D;rw[Nat.add_assoc,I _ (List.getElem?_eq_some_iff.1 this).1];exact this
theorem QA.cells{a:Option Addr}{l:List En}(h:QA w (.slice a n cap) i l)(I:k<l.length):
  ∃g o,a=some ⟨g,o,none⟩/\w.cell? ⟨g,o+k*24,none⟩=some (.int .u64 ((i+k+1:Nat):Int))/\w.cell? ⟨g,o+k*24+1,none⟩=some (.int .u64 (l[k].1:Nat))/\w.cell? ⟨g,o+k*24+2,none⟩=some (.int .i64 1)/\w.cell? ⟨g,o+k*24+5,none⟩=some (.int .u64 (l[k].2:Nat))/\w.cell? ⟨g,o+k*24+23,none⟩=some (.slice none 0 0):=by
 obtain⟨g,o,E,D⟩:=h.range I;exact⟨g,o,E,D 0 _ rfl,D 1 _ rfl,D 2 _ rfl,D 5 _ rfl,D 23 _ rfl⟩
end
section
open Go.RowKit Go.Acre
attribute [local simp] QH
def QG:Array Value:= #[.int .u64 0,.int .u64 0,.int .i64 0,.int .i64 0,.int .i64 0,.int .u64 0,.int .u64 0,.int .i64 0,.string ⟨#[]⟩,.string ⟨#[]⟩,.string ⟨#[]⟩,.bool false,.string ⟨#[]⟩,.int .u64 0,.int .i64 0,.string ⟨#[]⟩,.string ⟨#[]⟩,.int .i64 0,.bool false,.int .i64 0,.string ⟨#[]⟩,.int .i64 0,.int .i64 0,.slice none 0 0]
theorem QcL:(Tryz.prog.info? 116).map (fun i=>(i.zero,i.size,i.bytes))=some (some (.agg QG),24,264):=by kernel_rfl
theorem QnB(n:Nat)(N:n<=100000)(u:World):(Instr.makeSlice 45 (.int .i64 (n:Int)) (.int .i64 (n:Int))).run Tryz.prog u= .ok (.slice (some ⟨u.heap.size,0,none⟩) n n) (u.alloc (.cells (madeCells QG (n*24)) 116)):=by
 obtain⟨M,D,E,I,J⟩:=info_parts QcL;have h:=run_make u (P:=Tryz.prog) 45 116 M (.agg QG) Tryz.underlying45 D E .i64 .i64 (n:Int) (n:Int) (by omega) (by omega) (by rw[J];omega) (by omega);rw[h,I];simp[Value.cells]
def Wg(i:Nat)(l:List En)(w:World)(e:Ending)(w':World):Prop:=
 ∃g,e= .returned (.slice (some ⟨g,0,none⟩) l.length l.length)/\w.heap.size<=g/\w'.heap[g]? =some (.cells (Qs i l).toArray 116 (0,0))/\Qa Ze w w'
theorem WR{a:Option Addr}{l:List En}(h:QA w (.slice a n cap) i l)(az:l.length<=100000):Calls Tryz.prog 108 #[.slice a n cap] w (Wg i l w):=by
 have aE:n=l.length:=by
  obtain⟨_,_,D,_⟩:=h.slice;simp only[Value.slice.injEq] at D;exact D.2.1
 subst aE;have aD:=QnB l.length az w;have J:Qa Ze w (w.alloc (.cells (madeCells QG (l.length*24)) 116)):=(Zr _ w).alloc _;have I:=Qf (w:=w) (.cells (madeCells QG (l.length*24)) 116);have hsz:(madeCells QG (l.length*24)).size =l.length*24:=size_madeCells _ _;have Z:Hid (∀k (Q:k<l.length),∀j v,(Qh (i+k+1) l[k].1 l[k].2).toList[j]? =some v->(Qs i l).toArray[k*24+j]? =some v):=Zh (fun k Q j v D=>by
  simpa using Qea l i k Q j v D)
 have ag:Hid ((Qs i l).toArray.size =l.length*24):=Zh (by simp[Q5]);have ay: ∃wc,(Builtin.copy_ #[45,45] 3 #[.slice (some ⟨w.heap.size,0,none⟩) l.length l.length,.slice a l.length cap]).run Tryz.prog (w.alloc (.cells (madeCells QG (l.length*24)) 116))= .ok (goInt l.length) wc/\wc.heap[w.heap.size]? =some (.cells (Qs i l).toArray 116 (0,0))/\Qa Ze w wc:=by
  obtain⟨hlen,aG,c',D,aH,aI,av,aw⟩:=h;simp only[Value.slice.injEq,true_and] at D;obtain⟨rfl,rfl⟩:=D
  cases a with
  |
   none=>
   have au:=av rfl;subst au;have aA:l.length=0:=by omega
   have aB:l=[]:=List.eq_nil_of_length_eq_zero aA;subst aB;exact⟨_,_root_.Go.run_copy_nil (P:=Tryz.prog) _ 45 45 3 116 _ 0 0 Tryz.underlying45 (by kernel_rfl),by rw[show madeCells QG (([]:List En).length *24)= #[] from Array.eq_empty_of_size_eq_zero (by rw[size_madeCells];rfl)] at I ⊢;exact I,J⟩
  |
   some ad=>
   have aF: ∀j v,(Qs i l)[j]? =some v->(w.alloc (.cells (madeCells QG (l.length*24)) 116)).cell? (ad.add j)=some v:=by
    intro j v D;have O:=(List.getElem?_eq_some_iff.1 D).1;obtain⟨g,o,E,ax⟩:=aw (by intro e;rw[e] at O;simp at O);simp only[Option.some.injEq] at E;subst E;rw[Addr.add_mid];refine Qe J ?_ (fun f=>f)
    rw[ax j O];exact D
   have U:=Qix (P:=Tryz.prog) (w.alloc (.cells (madeCells QG (l.length*24)) 116)) 45 45 3 116 w.heap.size 0 l.length l.length ad l.length cap 24 _ 116 (Qs i l) Tryz.underlying45 (by kernel_rfl) I (by rw[Q5];simp) aF (by rw[hsz,Q5];omega) (Qeb l i);refine⟨_,U.trans (by rw[show l.length.min l.length=l.length from Nat.min_self _]),?_,?_⟩
   ·rw[Xr _ _ _ I]
    congr 2
    apply Array.ext';simp[Q5,hsz]
   ·exact QL J (fun h=>absurd h (Nat.lt_irrefl _)) _
 obtain⟨wc,U,ae,ac⟩:=ay;have ar:=Zh ae;have aq:=Zh ac;clear h J I ae ac hsz;go_enter Tryz.func108,Tryz.ntmps108;go_upto_region 3 with fail
 generalize hgb:w.heap.size=gb at*
 have ai:Hid (w.heap.size<=gb):=Zh (by omega);have aj:=Zh hgb;clear hgb;clear aD U;go_wp2_with fail;go_loopw [13] (fun x wr=> ∃k:Nat,x= .int .i64 k/\k<=l.length/\wr.heap[gb]? =some (.cells (Qs i l).toArray 116 (0,0))/\Qa Ze w wr) (fun x _=>l.length - (intOf x).toNat)
 case atStart=>exact⟨0,rfl,by omega,ar.out,aq.out⟩
 case round=>
  obtain⟨k,rfl,Q,E,W⟩:=hrel;by_cases hlt:k<l.length
  ·have aC:(k:Int)< (l.length:Int):=by omega
   have aJ:(0:Int)<=k:=by omega
   have am:=Zh (QpI E (Z.out k hlt));have M:=Zh E;have ao:=Zh W;have ak:Hid ((Qh (i+k+1) l[k].1 l[k].2).toList.length =24):=Zh rfl;have ab:=Zh (Qh3 (i+k+1) l[k].1 l[k].2);clear E W;have aa:Hid ((Qh (i+k+1) l[k].1 l[k].2).size =24):=Zh rfl;have af:=Zh (Z.out k hlt);have al:=Zh (Z3 (i+k+1) l[k].1 l[k].2);unfold QS at ab;generalize Qh (i+k+1) l[k].1 l[k].2=A at*
   go_wp2_with (refine wpList_load_mid rfl 116 _ rfl _ _ rfl _ _ am.out Tryz.underlying116 rfl (QaJ ak.out) ?_);refine (ab.out _).mono ?_
   rintro e w2 ⟨rfl,Y⟩;have N:=Y.keep M.out (fun f=>f);have an:=Zh (Qrn N (o:=k*24) (n:=A.size) (by rw[aa.out,ag.out];omega));have ah:=Zh (QgZ A.toList (k*24) N af.out);have ap:=Zh (ao.out.trans Y (fun _ _ f=>f));clear N Y;go_wp2_with (refine wpList_store_mid rfl 116 _ _ rfl _ _ _ rfl rfl an.out (Z4 aa.out) al.out ?_);exact⟨⟨k+1,by go_num,by omega,ah.out,Qje (fun h=>by have:=aj.out;omega) _ _ ap.out⟩,by simp[intOf];omega⟩
  ·have aC: ¬(k:Int)< (l.length:Int):=by omega
   have M:=Zh E;clear E;go_wp2_with fail;go_ret;exact⟨gb,rfl,ai.out,M.out,W⟩
def QD(w:World)(v:Value)(n g:Nat):Prop:= ∃cap,v= .slice (some ⟨g,0,none⟩) n cap/\1<=n/\n<=5/\n<=cap/\cap<=maxLen/\ ∀k,k<n->w.cell? ⟨g,k,none⟩=some (.int .i64 (k:Int))
theorem QD.upd{w w':World}{v:Value}{n g:Nat}(h:QD w v n g){S:Nat->Prop}(U:Qa S w w')(O: ¬S g):QD w' v n g:=by
 obtain⟨cap,D,E,I,J,M,N⟩:=h;exact⟨cap,D,E,I,J,M,fun k Q=>Qe U (N k Q) O⟩
structure Q4(w:World)(S:Nat->Prop)(p n bi bt:Nat)(l:List En)(mv ev:Value)(mg:Nat):Prop where
 row:w.heap[p]? =some (.cells #[.int .u64 bi,.int .u64 bt,mv,ev,.bool true] 189 (0,0))
 mem:QD w mv n mg
 own:w.ownsRow 0 116 24 ev l.length (Qs bi l)
 sp:S p
 sm:S mg
 pm:mg≠p
 se: ∀g,ev.ownBlock=some g->S g/\g≠p/\g≠mg
 fit:bi+l.length<=100000/\bt<=1000000/\1<=bi
theorem Q3{w w':World}{S:Nat->Prop}{base:Nat}{e:TypeId}{size:Nat}{v:Value}{n:Nat}{D:List Value}(h:w.ownsRow base e size v n D)(N:Qa S w w')(E: ∀g,v.ownBlock=some g-> ¬S g):w'.ownsRow base e size v n D:=by
 refine⟨h.1,?_⟩;rcases h.2 with M|⟨g,cap,cur,rfl,I,J,rest⟩
 ·exact .inl M
 ·exact .inr ⟨g,cap,cur,rfl,I,N.keep J (E g rfl),rest⟩
theorem Q4.upd{w w':World}{S T:Nat->Prop}{p n bi bt:Nat}{l:List En}{mv ev:Value}{mg:Nat}(h:Q4 w S p n bi bt l mv ev mg)(E:Qa T w w')(D: ∀i,S i-> ¬T i):Q4 w' S p n bi bt l mv ev mg:=
 ⟨E.keep h.row (D p h.sp),h.mem.upd E (D mg h.sm),Q3 h.own E (fun g I=>D g (h.se g I).1),h.sp,h.sm,h.pm,h.se,h.fit⟩
theorem Q4.Qc{w w':World}{S:Nat->Prop}{p n bi bt:Nat}{l:List En}{mv ev:Value}{mg:Nat}(h:Q4 w S p n bi bt l mv ev mg)(D:Qa Ze w w'):Q4 w' S p n bi bt l mv ev mg:=h.upd D (fun _ _ f=>f)
theorem Q4.Qq{w:World}{S:Nat->Prop}{p n bi bt:Nat}{l:List En}{mv ev:Value}{mg:Nat}(h:Q4 w S p n bi bt l mv ev mg):QA w ev bi l:=Qr.Q7 h.own
theorem cells5{w:World}{p t:Nat}{a b c d e:Value}(h:w.heap[p]? =some (.cells #[a,b,c,d,e] t (0,0))):w.cell? ⟨p,0,none⟩=some a/\w.cell? ⟨p,1,none⟩=some b/\w.cell? ⟨p,2,none⟩=some c/\w.cell? ⟨p,3,none⟩=some d/\w.cell? ⟨p,4,none⟩=some e:=
 ⟨Qb h 0,Qb h 1,Qb h 2,Qb h 3,Qb h 4⟩
theorem WX{w:World}{p t:Nat}{A:Array Value}(h:w.heap[p]? =some (.cells A t (0,0))):w.frozen? ⟨p,0,none⟩=false/\w.frozen? ⟨p,1,none⟩=false/\w.frozen? ⟨p,2,none⟩=false/\w.frozen? ⟨p,3,none⟩=false/\w.frozen? ⟨p,4,none⟩=false:=
 ⟨Qg h 0 none,Qg h 1 none,Qg h 2 none,Qg h 3 none,Qg h 4 none⟩
def Is(v:Value)(w:World)(e:Ending)(w':World):Prop:=e= .returned v/\w=w'
section
variable {w:World} {S:Nat->Prop} {p n bi bt:Nat} {l:List En} {mv ev:Value} {mg:Nat}
theorem K8(h:Q4 w S p n bi bt l mv ev mg):Calls Tryz.prog 105 #[.pointer (some ⟨p,0,none⟩)] w (Is (.bool false) w):=by
 obtain⟨D,E,I,J,M⟩:=cells5 h.row;have H:=Zh h;clear h;go_enter Tryz.func105,Tryz.ntmps105;go_wp2_with fail;go_ret;exact⟨rfl,rfl⟩
def lastOf(bi:Nat)(l:List En):Nat:=bi+l.length
def lastT(bt:Nat)(l:List En):Nat:=match l.getLast? with|none=>bt|some e=>e.1
theorem Qhs(bt:Nat)(l:List En):(l=[]/\lastT bt l=bt)\/(∃h:0<l.length,lastT bt l=(l[l.length - 1]'(by omega)).1):=by
 unfold lastT
 cases l with
 |nil=>exact .inl ⟨rfl,rfl⟩
 |
  cons x r=>
  refine .inr ⟨by simp,?_⟩;rw[List.getLast?_eq_getElem?,List.getElem?_eq_getElem (by simp)]
theorem last_any(h:Q4 w S p n bi bt l mv ev mg):Calls Tryz.prog 82 #[.pointer (some ⟨p,0,none⟩)] w (Qk (.tuple #[.int .u64 (lastOf bi l:Nat),.int .u64 (lastT bt l:Nat)]) w):=by
 have I:=Zh (K8 h);obtain⟨Y,Z,aa,ab,ac⟩:=cells5 h.row;have O:=h.fit;obtain⟨ad,ae,U,Q,ai⟩:=h.Qq.slice;have J:=Zh h.Qq;have H:=Zh h;clear h;subst U;rcases Qhs bt l with ⟨rfl,D⟩|⟨ak,D⟩
 ·rw[D]
  go_enter Tryz.func82,Tryz.ntmps82;go_wp2_with fail;refine I.out.mono ?_
  rintro e w' ⟨rfl,rfl⟩;go_upto_region 6 with fail
  go_quiet (fail);go_wp2_with fail;go_ret2;exact⟨rfl,(Zr _ w).drewN _⟩
 ·rw[D]
  obtain⟨g,o,rfl,E,N,_,_,_⟩:=J.out.cells (k:=l.length - 1) (by omega);have e1:bi+(l.length - 1)+1=lastOf bi l:=by unfold lastOf;omega
  rw[e1] at E;generalize (l[l.length - 1]'(by omega)).1=t at*
  have M:Hid (lastOf bi l=lastOf bi l):=Zh rfl;generalize hx:lastOf bi l=x at E ⊢;clear hx;obtain⟨m,W⟩: ∃m,l.length=m+1:=⟨l.length - 1,by omega⟩
  rw[show l.length - 1=m by omega] at E N;have aj:(0:Int)< (l.length:Int):=by omega
  have af:(0:Int)<=m:=by omega
  have ag:(m:Int)< (l.length:Int):=by omega
  have ah:m<l.length:=by omega
  have al:IntKind.i64.wrap ((l.length:Int) - 1)=(m:Int):=by rw[IntWalk.i64_in _ (by omega)];omega
  clear O e1 Q W D M;go_enter Tryz.func82,Tryz.ntmps82;go_wp2_with fail;refine I.out.mono ?_
  rintro e w' ⟨rfl,rfl⟩;go_upto_region 5 with fail
  go_quiet (fail);go_wp2_with fail;go_ret2;exact⟨rfl,(Zr _ w).drewN _⟩
end
section
variable {w:World} {S:Nat->Prop} {p n bi bt:Nat} {l:List En} {mv ev:Value} {mg:Nat}
theorem QfR(h:Q4 w S p n bi bt l mv ev mg)(x:Nat)(N:x<=bi):Calls Tryz.prog 149 #[.pointer (some ⟨p,0,none⟩),.int .u64 x] w (Qk (.tuple #[.int .i64 0,.bool false]) w):=by
 obtain⟨D,E,I,J,M⟩:=cells5 h.row;have O:(x:Int)<=bi:=by omega
 clear h;go_enter Tryz.func149,Tryz.ntmps149;go_upto_region 1 with fail
 go_quiet (fail);go_wp2_with fail;go_ret2;exact⟨rfl,(Zr _ w).drewN _⟩
theorem QfQ(h:Q4 w S p n bi bt l mv ev mg)(x:Nat)(J:bi+l.length<x)(I:x<=1000000):Calls Tryz.prog 149 #[.pointer (some ⟨p,0,none⟩),.int .u64 x] w (Qk (.tuple #[.int .i64 0,.bool false]) w):=by
 obtain⟨M,N,O,Q,U⟩:=cells5 h.row;have E:=h.fit;obtain⟨W,Y,D,_,_⟩:=h.Qq.slice;subst D;have ad: ¬(x:Int)<=bi:=by omega
 have Z:(l.length:Int)< (x:Int) - (bi:Int):=by omega
 have aa:IntKind.u64.wrap ((x:Int) - (bi:Int))=(x:Int) - (bi:Int):=IntWalk.u64_in _ (by omega);have ab:IntKind.u64.wrap (l.length:Int)=l.length:=IntWalk.u64_in _ (by omega);have ac:IntKind.i64.wrap (l.length:Int)=l.length:=IntWalk.i64_in _ (by omega);clear h E J I;go_enter Tryz.func149,Tryz.ntmps149;go_upto_region 1 with fail
 go_quiet (fail);go_wp2_with fail;go_ret2;exact⟨rfl,(Zr _ w).drewN _⟩
theorem QfS(h:Q4 w S p n bi bt l mv ev mg)(x:Nat)(I:bi<x)(J:x<=bi+l.length):Calls Tryz.prog 149 #[.pointer (some ⟨p,0,none⟩),.int .u64 x] w (Qk (.tuple #[.int .i64 ((x - bi - 1:Nat):Int),.bool true]) w):=by
 obtain⟨M,N,O,Q,U⟩:=cells5 h.row;have E:=h.fit;obtain⟨W,Y,D,_,_⟩:=h.Qq.slice;subst D;have af: ¬(x:Int)<=bi:=by omega
 have Z: ¬(l.length:Int)< (x:Int) - (bi:Int):=by omega
 have aa:IntKind.u64.wrap ((x:Int) - (bi:Int))=(x:Int) - (bi:Int):=IntWalk.u64_in _ (by omega);have ab:IntKind.u64.wrap (l.length:Int)=l.length:=IntWalk.u64_in _ (by omega);have ac:IntKind.i64.wrap (l.length:Int)=l.length:=IntWalk.i64_in _ (by omega);have ad:IntKind.u64.wrap ((x:Int) - (bi:Int) - 1)=((x - bi - 1:Nat):Int):=by rw[IntWalk.u64_in _ (by omega)];omega
 have ae:IntKind.i64.wrap ((x - bi - 1:Nat):Int)=((x - bi - 1:Nat):Int):=IntWalk.i64_in _ (by omega);generalize x - bi - 1=k at*
 clear h E J I;go_enter Tryz.func149,Tryz.ntmps149;go_upto_region 1 with fail
 go_quiet (fail);go_wp2_with fail;go_ret2;exact⟨rfl,(Zr _ w).drewN _⟩
def Qu(bi bt:Nat)(l:List En)(x:Nat):Option Nat:=if x=bi then some bt else if bi<x then (l[x - bi - 1]?).map (·.1) else none
def XT(o:Option Nat):Value:=.tuple #[.int .u64 (o.getD 0:Nat),.bool o.isSome]
theorem Qa7(h:Q4 w S p n bi bt l mv ev mg)(x:Nat)(ac:x<=1000000):Calls Tryz.prog 101 #[.pointer (some ⟨p,0,none⟩),.int .u64 x] w (Qk (XT (Qu bi bt l x)) w):=by
 have J:=Zh (K8 h);obtain⟨Q,U,W,Y,Z⟩:=cells5 h.row;obtain⟨ad,ae,ab,_,_⟩:=h.Qq.slice;have O:=Zh h.Qq;have H:=Zh h;have ag:=Zh h.fit;clear h;subst ab;by_cases hb:x=bi
 ·subst hb
  have e:Qu x bt l x=some bt:=by unfold Qu;rw[if_pos rfl]
  rw[e];unfold XT;simp only[Option.getD_some,Option.isSome_some];go_enter Tryz.func101,Tryz.ntmps101;go_wp2_with fail;refine J.out.mono ?_
  rintro e w' ⟨rfl,rfl⟩;go_wp2_with fail;go_ret2;exact⟨rfl,Zr _ w⟩
 ·have af: ¬(x:Int)=bi:=by omega
  by_cases hr:bi<x/\x<=bi+l.length
  ·have M:x - bi - 1<l.length:=by omega
   have e:Qu bi bt l x=some l[x - bi - 1].1:=by
    unfold Qu;rw[if_neg hb,if_pos hr.1,List.getElem?_eq_getElem M];rfl
   rw[e];have E:=Zh (QfS H.out x hr.1 hr.2);obtain⟨g,o,rfl,aa,I,_,_,_⟩:=O.out.cells M;have ah:(0:Int)<=((x - bi - 1:Nat):Int):=by omega
   have ai:((x - bi - 1:Nat):Int)< (l.length:Int):=by omega
   generalize l[x - bi - 1].1=t at*
   generalize x - bi - 1=k at*
   unfold XT;simp only[Option.getD_some,Option.isSome_some];have N:=Zh I;clear hr aa I;go_enter Tryz.func101,Tryz.ntmps101;go_wp2_with fail;refine J.out.mono ?_
   rintro e w' ⟨rfl,rfl⟩;go_wp2_with fail;refine E.out.mono ?_
   rintro e w' ⟨rfl,D⟩;obtain⟨Q,U,W,Y,Z⟩:=cells5 (H.out.Qc D).row;have I:=Qe D N.out (fun f=>f);go_wp2_with fail;go_ret2;exact⟨rfl,D⟩
  ·have e:Qu bi bt l x=none:=by
    unfold Qu;rw[if_neg hb];by_cases h2:bi<x
    ·rw[if_pos h2,List.getElem?_eq_none (by omega)]
     rfl
    ·rw[if_neg h2]
   rw[e];have E:Hid (Calls Tryz.prog 149 #[.pointer (some ⟨p,0,none⟩),.int .u64 x] w (Qk (.tuple #[.int .i64 0,.bool false]) w)):=by
    by_cases h2:bi<x
    ·exact Zh (QfQ H.out x (by omega) ac)
    ·exact Zh (QfR H.out x (by omega))
   unfold XT;simp only[Option.getD_none,Option.isSome_none];clear hr;go_enter Tryz.func101,Tryz.ntmps101;go_wp2_with fail;refine J.out.mono ?_
   rintro e w' ⟨rfl,rfl⟩;go_wp2_with fail;refine E.out.mono ?_
   rintro e w' ⟨rfl,D⟩;go_wp2_with fail;go_ret2;exact⟨rfl,D⟩
end
def Za(n:Nat):List Value:=(List.range n).map fun (k:Nat)=>.int .i64 (k:Int)
theorem QD.row(h:QD w v n g):Qr w 1 v n (Za n):=by
 obtain⟨cap,rfl,J,M,D,E,I⟩:=h;refine⟨by simp[Za],some ⟨g,0,none⟩,cap,rfl,D,E,(fun e=>by cases e),fun _=>⟨g,0,rfl,fun i hi=> ?_⟩⟩;simp only[Za,List.length_map,List.length_range] at hi;rw[Nat.zero_add,I i hi];simp[Za,hi]
theorem info3:(Tryz.prog.info? 3).map (fun i=>(i.zero,i.size,i.bytes))=some (some (.int .i64 0),1,8):=by kernel_rfl
theorem QD.Q7{base:Nat}(h:w.ownsRow base 3 1 v n (Za n))(E:1<=n)(I:n<=5): ∃g,QD w v n g/\base<=g/\v.ownBlock=some g:=by
 rcases h.2 with ⟨rfl,U⟩|⟨g,cap,cur,rfl,J,N,M,O,W,Q⟩
 ·omega
 ·refine⟨g,⟨cap,rfl,E,I,M,O,fun k D=> ?_⟩,J,rfl⟩
  rw[Qb N k];have:=congrArg (fun l=>l[k]?) Q;simp only[Nat.mul_one] at this;rw[List.getElem?_take,if_pos D] at this
  simpa [Za,D] using this
def Qaf(n:Nat)(w:World)(e:Ending)(w':World):Prop:= ∃v g,e= .returned v/\QD w' v n g/\w.heap.size<=g/\Qa Ze w w'
theorem QdW(h:QD w v n g):Calls Tryz.prog 70 #[v] w (Qaf n w):=by
 obtain⟨al,af,ai,aj,ak⟩:=info_parts info3;have Q:=Zh h.row;obtain⟨cap,rfl,ab,ac,am,an,ad⟩:=h;have M:=Zh ab;have N:=Zh ac;clear ad;go_enter Tryz.func70,Tryz.ntmps70;have D:Qa Ze w (w.alloc (.cells #[] 3)):=(Zr _ w).alloc _;have O:=Zh (World.ownsRow_made (base:=w.heap.size) (e:=3) (size:=1) w #[] 0 (Zf _) (Zz _) rfl);have U:=Zh (Q.out.Qc D);have W:=Zh D;clear D;go_wp2_with (at_builtin;refine QbM rfl _ _ 37 rfl w.heap.size 3 al (.int .i64 0) 1 8 Tryz.underlying37 af ai aj ak rfl (by decide) _ _ _ rfl O.out _ n (Za n) rfl U.out ?c2 ?c3 ?c4 ?c5 ?_)
 case c2=>intro z J;unfold Za at J;obtain⟨k,_,rfl⟩:=List.mem_map.1 J;rfl
 case c3=>unfold maxLen;omega
 case c4=>omega
 case c5=>first|omega|(simp;done)
 intro v2 w2 I E;have Y:=Zh (W.out.X8 E (fun j ag ao=>by simp[Value.ownBlock] at ag;omega));have Z:=Zh I;clear I E;go_wp2_with fail;go_ret;obtain⟨aa,ah,ae,ap⟩:=QD.Q7 (by simpa using Z.out) M.out N.out;exact⟨v2,aa,rfl,ah,ae,Y.out⟩
theorem QhP{l:List En}(h:Q4 w S p n bi bt l mv Y na)(x:Nat)(aA:x<=1000000):Calls Tryz.prog 107 #[.pointer (some ⟨p,0,none⟩),.int .u64 x] w (Qaf n w):=by
 have am:=Zh (K8 h);obtain⟨ao,ap,aq,ar,au⟩:=cells5 h.row;obtain⟨av,aw,ak,_,_⟩:=h.Qq.slice;have O:=Zh h.Qq;have ad:=Zh h.mem;have ax:=h.fit;clear h;subst ak;go_enter Tryz.func107,Tryz.ntmps107;go_wp2_with fail;refine am.out.mono ?_
 rintro e w' ⟨rfl,rfl⟩;go_upto_block 0 with fail
 go_cut [5] (fun N an=>N=mv/\Qa Ze w an)
 case first=>
  go_wp2_with fail;go_loopw [5,20] (fun N x wr=> ∃k:Nat,N=mv/\x= .int .i64 k/\k<=l.length/\Qa Ze w wr) (fun _ x _=>l.length - (intOf x).toNat)
  case atStart=>exact⟨0,rfl,rfl,by omega,Zr _ _⟩
  case round=>
   obtain⟨k,rfl,rfl,ay,D⟩:=hrel;by_cases hlt:k<l.length
   ·have al:(k:Int)< (l.length:Int):=by omega
    have az:(0:Int)<=k:=by omega
    obtain⟨g,o,rfl,aa⟩:=(O.out.Qc D).range hlt;have U:=Zh aa;have I:=Zh D;have W:=Wt (bi+k+1) l[k].1 l[k].2;have Z:=QcD (bi+k+1) l[k].1 l[k].2;have ac:Hid ((Qh (bi+k+1) l[k].1 l[k].2).toList.length =24):=Zh rfl;have Q:Hid ((Qh (bi+k+1) l[k].1 l[k].2).size =24):=Zh rfl;have ae:=Zh (Z3 (bi+k+1) l[k].1 l[k].2);clear aa D;generalize Qh (bi+k+1) l[k].1 l[k].2=A at*
    have M:=Qf (w:=wr) (.cells QG 116);go_upto_region 7 with (first|refine wpList_load_mid rfl 116 _ rfl _ _ rfl _ _ U.out Tryz.underlying116 rfl (QaJ ac.out) ?_|refine wpList_store_row rfl 116 _ _ rfl _ _ rfl rfl _ _ M (Z4 Q.out) (by rw[Q.out];rfl) ae.out ?_)
    have E:=Xr _ _ A M;have J:=Zh (QL (I.out.alloc (.cells QG 116)) (g:=wr.heap.size) (fun h=>by have:=I.out.size;omega) A);have ab:QG= #[.int .u64 0,.int .u64 0,.int .i64 0,.int .i64 0,.int .i64 0,.int .u64 0,.int .u64 0,.int .i64 0,.string ⟨#[]⟩,.string ⟨#[]⟩,.string ⟨#[]⟩,.bool false,.string ⟨#[]⟩,.int .u64 0,.int .i64 0,.string ⟨#[]⟩,.string ⟨#[]⟩,.int .i64 0,.bool false,.int .i64 0,.string ⟨#[]⟩,.int .i64 0,.int .i64 0,.slice none 0 0]:=rfl;rw[ab] at E J;clear ab M U O I;generalize World.setRow _ wr.heap.size A=w3 at*
    generalize wr.heap.size=eb at*
    have af:=Qb E 0;have ag:=Qb E 2;rw[W] at af;rw[Z] at ag;clear E W Z;by_cases hgt:(x:Int)< ((bi+k+1:Nat):Int)
    ·go_wp2_with fail
     go_meet
     case rel=>exact⟨rfl,J.out⟩
    ·go_wp2_with fail
     exact⟨⟨k+1,rfl,by go_num,by omega,J.out⟩,by simp[intOf];omega⟩
   ·have al: ¬(k:Int)< (l.length:Int):=by omega
    go_wp2_with fail;go_meet
    case rel=>exact⟨rfl,D⟩
 case rest=>
  obtain⟨rfl,D⟩:=hcut;go_wp2_with fail;refine (QdW (ad.out.upd D (fun f=>f))).mono ?_
  rintro e w' ⟨v,g,rfl,ah,ai,aj⟩;go_wp2_with fail;go_ret;exact⟨v,g,rfl,ah,Zt D.size ai,D.trans aj (fun _ _ f=>f)⟩
theorem QA.sub{w:World}{a:Option Addr}{n cap i:Nat}{l:List En}(h:QA w (.slice a n cap) i l){k m:Nat}(W:k<l.length)(Z:m<=l.length - k):
  ∃g o,a=some ⟨g,o,none⟩/\QA w (.slice (some ⟨g,o+k*24,none⟩) m (cap - k)) (i+k) ((l.drop k).take m):=by
 obtain⟨Y,N,c',E,O,Q,U,I⟩:=h;simp only[Value.slice.injEq] at E;obtain⟨rfl,rfl,rfl⟩:=E;have D:=Q5 l i;obtain⟨g,o,M,J⟩:=I (by intro e;rw[e] at D;simp at D;omega);have hlen:((l.drop k).take m).length =m:=by rw[List.length_take,List.length_drop];omega
 refine⟨g,o,M,by rw[Q5],some ⟨g,o+k*24,none⟩,cap - k,by rw[hlen],by rw[hlen];omega,by omega,(fun e=>by cases e),fun _=>⟨g,o+k*24,rfl,fun j hj=> ?_⟩⟩;rw[Q5,hlen] at hj;rw[<-QgJ _ _ _ (by rw[List.length_drop];omega),<-QgI l i k (by omega),List.getElem?_take,if_pos (by omega),List.getElem?_drop,Nat.add_assoc,J _ (by omega)]
section
variable {w:World} {S:Nat->Prop} {p n bi bt:Nat} {l:List En} {mv ev:Value} {mg:Nat}
theorem Qqp(h:Q4 w S p n bi bt l mv ev mg)(x:Nat)(E:Int)(J:x<=1000000)(N:1<=E)(I:x<=bi\/bi+l.length<x):Calls Tryz.prog 87 #[.pointer (some ⟨p,0,none⟩),.int .u64 x,.int .i64 E] w (Qk (.slice none 0 0) w):=by
 have O:=Zh (K8 h);have M:Hid (Calls Tryz.prog 149 #[.pointer (some ⟨p,0,none⟩),.int .u64 x] w (Qk (.tuple #[.int .i64 0,.bool false]) w)):=by
  rcases I with D|D
  ·exact Zh (QfR h x D)
  ·exact Zh (QfQ h x D J)
 have U: ¬E<1:=by omega
 clear h I J N;go_enter Tryz.func87,Tryz.ntmps87;go_wp2_with fail;refine O.out.mono ?_
 rintro e w' ⟨rfl,rfl⟩;go_wp2_with fail;refine M.out.mono ?_
 rintro e w' ⟨rfl,Q⟩;go_wp2_with fail;go_ret;exact⟨rfl,Q⟩
theorem Qqq(h:Q4 w S p n bi bt l mv ev mg)(x:Nat)(D:Int)(aA:1<=D/\D<=4611686018427387904)(al:bi<x)(aj:x<=bi+l.length):Calls Tryz.prog 87 #[.pointer (some ⟨p,0,none⟩),.int .u64 x,.int .i64 D] w (Wg (x - 1) ((l.drop (x - bi - 1)).take D.toNat) w):=by
 have am:=Zh (K8 h);have Y:=Zh (QfS h x al aj);have ag:=h.fit;have H:=Zh h;obtain⟨au,E,af,av,aG⟩:=h.Qq.slice;subst af;obtain⟨m,aF⟩: ∃m:Nat,min D (((l.length - (x - bi - 1):Nat):Int))=(m:Int):=⟨(min D (((l.length - (x - bi - 1):Nat):Int))).toNat,by omega⟩
 have Q:x - bi - 1<l.length:=by omega
 have U:m<=l.length - (x - bi - 1):=by omega
 obtain⟨g,o,rfl,M⟩:=h.Qq.sub Q U;have e1:(l.drop (x - bi - 1)).take m=(l.drop (x - bi - 1)).take D.toNat:=by
  rcases Nat.le_total D.toNat (l.length - (x - bi - 1)) with ae|ae
  ·rw[show m=D.toNat by omega]
  ·rw[List.take_of_length_le (by rw[List.length_drop];omega),List.take_of_length_le (by rw[List.length_drop];omega)]
 rw[e1,show bi+(x - bi - 1)=x - 1 by omega] at M;have aa:=Zh M;have aw:(0:Int)<=((x - bi - 1:Nat):Int):=by omega
 have ax:((x - bi - 1:Nat):Int)<=(l.length:Int):=by omega
 have ay:(l.length:Int)<=E:=by omega
 have az:((x - bi - 1:Nat):Int)<=(E:Int):=by omega
 have aH: ¬E=x - bi - 1:=by omega
 have aI:IntKind.i64.wrap ((l.length:Int) - ((x - bi - 1:Nat):Int))=((l.length - (x - bi - 1):Nat):Int):=by rw[IntWalk.i64_in _ (by omega)];omega
 have aE:(if ((l.length - (x - bi - 1):Nat):Int)<D then ((l.length - (x - bi - 1):Nat):Int) else D)=(m:Int):=by split<;>omega
 have aB:(0:Int)<=m:=by omega
 have aD:(m:Int)<=((E - (x - bi - 1):Nat):Int):=by omega
 have aC: ¬D<1:=by omega
 have hlen:((l.drop (x - bi - 1)).take D.toNat).length <=100000:=by
  rw[List.length_take,List.length_drop];omega
 have Z:=Zh hlen;generalize (l.drop (x - bi - 1)).take D.toNat=L at*
 generalize hK:x - bi - 1=k at*
 clear h ag e1 hlen M U Q;go_enter Tryz.func87,Tryz.ntmps87;go_wp2_with fail;refine am.out.mono ?_
 rintro e w' ⟨rfl,rfl⟩;go_wp2_with fail;refine Y.out.mono ?_
 rintro e J ⟨rfl,I⟩;obtain⟨an,ao,ap,aq,ar⟩:=cells5 (H.out.Qc I).row;have O:=Zh I;have ab:=Zh (aa.out.Qc I);clear I;go_upto_region 6 with fail
 go_still_tail 16,(by kernel_rfl)
 go_wp2_with fail;have N:Qa Ze J J.drew:=(Zr _ J).drew;refine Calls.mono (WR (w:=J.drew) (ab.out.Qc N) Z.out) ?_
 rintro e w2 ⟨ad,rfl,ah,ai,W⟩;have ac:=Zh ((O.out.trans N (fun _ _ f=>f)).trans W (fun _ _ f=>f));have ak:=(O.out.trans N (fun _ _ f=>f)).size;clear W;go_wp2_with fail;go_ret;exact⟨ad,rfl,Zt ak ah,ai,ac.out⟩
end
def XP:Nat->List En->Prop
 |_,[]=>True
 |t,e::r=>t<=e.1/\XP e.1 r
theorem Qef{a:Option Addr}{l:List En}(h:QA w (.slice a n cap) i l)(ar:1<=t)(E:XP t l)(aA:i+l.length<=1000000)(M:t<=1000000/\ ∀e∈l,e.1<=1000000):
  Calls Tryz.prog 144 #[.int .u64 i,.int .u64 t,.slice a n cap] w (Qk (.bool true) w):=by
 have aq:n=l.length:=by
  obtain⟨_,_,ad,_⟩:=h.slice;simp only[Value.slice.injEq] at ad;exact ad.2.1
 subst aq;have O:=Zh h;have ak:=Zh M.2;have aj:=Zh E;have au:=M.1;clear h M E;go_enter Tryz.func144,Tryz.ntmps144;go_wp2_with fail;go_loopw [0,1,11] (fun av aw x wr=> ∃k t':Nat,av= .int .u64 ((i+k:Nat):Int)/\aw= .int .u64 (t':Int)/\x= .int .i64 k/\k<=l.length/\1<=t'/\t'<=1000000/\XP t' (l.drop k)/\Qa Ze w wr) (fun _ _ x _=>l.length - (intOf x).toNat)
 case atStart=>exact⟨0,t,rfl,rfl,rfl,by omega,ar,au,aj.out,Zr _ _⟩
 case round=>
  obtain⟨k,t',rfl,rfl,rfl,aB,aE,aF,E,I⟩:=hrel;by_cases hlt:k<l.length
  ·have ap:(k:Int)< (l.length:Int):=by omega
   have aC:(0:Int)<=k:=by omega
   obtain⟨g,o,rfl,ac⟩:=(O.out.Qc I).range hlt;have ao:=ak.out l[k] (List.getElem_mem hlt);rw[List.drop_eq_getElem_cons hlt] at E;obtain⟨aD,ab⟩:=E;have U:=Zh ac;have J:=Zh I;have ai:=Zh ab;have Y:=Wt (i+k+1) l[k].1 l[k].2;have Z:=Qbm (i+k+1) l[k].1 l[k].2;have aa:=QcD (i+k+1) l[k].1 l[k].2;have ag:Hid ((Qh (i+k+1) l[k].1 l[k].2).toList.length =24):=Zh rfl;have Q:Hid ((Qh (i+k+1) l[k].1 l[k].2).size =24):=Zh rfl;have ah:=Zh (Z3 (i+k+1) l[k].1 l[k].2);clear ac I ab;generalize Qh (i+k+1) l[k].1 l[k].2=A at*
   generalize l[k].1=af at*
   have N:=Qf (w:=wr) (.cells QG 116);go_upto_region 4 with (first|refine wpList_load_mid rfl 116 _ rfl _ _ rfl _ _ U.out Tryz.underlying116 rfl (QaJ ag.out) ?_|refine wpList_store_row rfl 116 _ _ rfl _ _ rfl rfl _ _ N (Z4 Q.out) (by rw[Q.out];rfl) ah.out ?_)
   have D:=Xr _ _ A N;have W:=Zh (QL (J.out.alloc (.cells QG 116)) (g:=wr.heap.size) (fun h=>by have:=J.out.size;omega) A);have ae:QG= #[.int .u64 0,.int .u64 0,.int .i64 0,.int .i64 0,.int .i64 0,.int .u64 0,.int .u64 0,.int .i64 0,.string ⟨#[]⟩,.string ⟨#[]⟩,.string ⟨#[]⟩,.bool false,.string ⟨#[]⟩,.int .u64 0,.int .i64 0,.string ⟨#[]⟩,.string ⟨#[]⟩,.int .i64 0,.bool false,.int .i64 0,.string ⟨#[]⟩,.int .i64 0,.int .i64 0,.slice none 0 0]:=rfl;rw[ae] at D W;clear ae N U O J;generalize World.setRow _ wr.heap.size A=w3 at*
   generalize wr.heap.size=eb at*
   have al:=Qb D 0;have am:=Qb D 1;have an:=Qb D 2;rw[Y] at al;rw[Z] at am;rw[aa] at an;clear D Y Z aa;have e1:((i+k:Nat):Int)+1=((i+k+1:Nat):Int):=by omega
   have ax: ¬((i+k+1:Nat):Int)=0:=by omega
   have ay: ¬(af:Int)< (t':Int):=by omega
   have az: ¬(t':Int)<1:=by omega
   go_upto_region 6 with fail
   go_quiet (fail);go_wp2_with fail;exact⟨⟨k+1,af,by go_num,rfl,by go_num,by omega,by omega,ao,ai.out,W.out.drewN _⟩,by simp[intOf];omega⟩
  ·have ap: ¬(k:Int)< (l.length:Int):=by omega
   go_wp2_with fail;go_ret;exact⟨rfl,I⟩
def QC(bi bt:Nat)(mv:Value):Value:=.agg #[.int .u64 bi,.int .u64 bt,mv]
def KV(bi bt n:Nat)(w:World)(e:Ending)(w':World):Prop:= ∃v g,e= .returned (QC bi bt v)/\QD w' v n g/\w.heap.size<=g/\Qa Ze w w'
theorem cells3{a b c:Value}(h:w.heap[p]? =some (.cells #[a,b,c] t (0,0))):w.cell? ⟨p,0,none⟩=some a/\w.cell? ⟨p,1,none⟩=some b/\w.cell? ⟨p,2,none⟩=some c/\w.frozen? ⟨p,0,none⟩=false/\w.frozen? ⟨p,1,none⟩=false/\w.frozen? ⟨p,2,none⟩=false:=
 ⟨Qb h 0,Qb h 1,Qb h 2,Qg h 0 none,Qg h 1 none,Qg h 2 none⟩
theorem Qdg{v0 v1 v2:Value}(h:w.heap[b]? =some (.cells #[Y,Z,va] t (0,0))):(((w.setCell ⟨b,0,none⟩ v0).setCell ⟨b,1,none⟩ v1).setCell ⟨b,2,none⟩ v2).heap[b]? =some (.cells #[v0,v1,v2] t (0,0)):=by
 have:=Qi (o:=2) (Qi (o:=1) (Qi (o:=0) h v0) v1) v2
 simpa using this
theorem XG{a:World}(h:Qa S a w)(b o:Nat)(v:Value)(D:b<a.heap.size->S b):Qa S a (w.setCell ⟨b,o,none⟩ v):=h.setCell (p:=⟨b,o,none⟩) D v
theorem QcM(a b c:Value):(Tryz.prog.info? 44).map (·.size)=some (#[a,b,c]:Array Value).size :=by kernel_rfl
theorem QeP(bi bt:Nat)(h:QD w v n g):Calls Tryz.prog 106 #[QC bi bt v] w (KV bi bt n w):=by
 have Y:=Zh h;have ad: ∃cap,v= .slice (some ⟨g,0,none⟩) n cap:=⟨h.choose,h.choose_spec.1⟩
 obtain⟨cap,rfl⟩:=ad;clear h;unfold QC;go_enter Tryz.func106,Tryz.ntmps106;go_wp2_with fail;have I:Qa Ze w ((w.alloc (.cells #[.int .u64 bi,.int .u64 bt,.slice (some ⟨g,0,none⟩) n cap] 44)).alloc (.cells #[.int .u64 0,.int .u64 0,.slice none 0 0] 44)):=((Zr _ w).alloc _).alloc _;have hx1:=heap_alloc2_old w (.cells #[.int .u64 bi,.int .u64 bt,.slice (some ⟨g,0,none⟩) n cap] 44) (.cells #[.int .u64 0,.int .u64 0,.slice none 0 0] 44);have U:=heap_alloc2_new w (.cells #[.int .u64 bi,.int .u64 bt,.slice (some ⟨g,0,none⟩) n cap] 44) (.cells #[.int .u64 0,.int .u64 0,.slice none 0 0] 44);refine (QdW (Y.out.upd I (fun f=>f))).mono ?_
 rintro e w2 ⟨v2,D,rfl,E,N,J⟩;have W:=J.keep hx1 (fun f=>f);have M:=J.keep U (fun f=>f);have O:=I.trans J (fun _ _ f=>f);have hsz:=I.size;have aq:w.heap.size+2<=D:=by simpa using N
 clear hx1 U I J N;obtain⟨ah,ai,aj,an,ao,ap⟩:=cells3 W;obtain⟨ak,al,am,au,av,aw⟩:=cells3 M;have Z:=Zh E;have aa:=Zh O;have ab:=Zh M;obtain⟨cap2,ae⟩: ∃cap,v2= .slice (some ⟨D,0,none⟩) n cap:=⟨E.choose,E.choose_spec.1⟩
 subst ae;clear E O W M;generalize hb:w.heap.size=b at*
 have ac:b+1≠b:=by omega
 go_wp2_with fail;have ag:(w2.setCell ⟨b,2,none⟩ (.slice (some ⟨D,0,none⟩) n cap2)).heap[b+1]? =_:=(heap_setCell_other _ _ _ _ ac).trans ab.out;have af:=Qdg (v0:=.int .u64 bi) (v1:=.int .u64 bt) (v2:=.slice (some ⟨D,0,none⟩) n cap2) ag;have Q:Qa (fun i=>i=b\/i=b+1) w2 _:=XG (XG (XG (XG (Zr (fun i=>i=b\/i=b+1) w2) b 2 (.slice (some ⟨D,0,none⟩) n cap2) (fun _=>.inl rfl)) (b+1) 0 (.int .u64 bi) (fun _=>.inr rfl)) (b+1) 1 (.int .u64 bt) (fun _=>.inr rfl)) (b+1) 2 (.slice (some ⟨D,0,none⟩) n cap2) (fun _=>.inr rfl);refine bodyPost_ret (v:=QC bi bt (.slice (some ⟨D,0,none⟩) n cap2)) ?_ rfl ⟨_,D,rfl,Z.out.upd Q (by omega),by omega,aa.out.trans Q (fun i ar e=>by omega)⟩
 exact results_cell_row rfl _ _ _ _ _ _ _ rfl af Tryz.underlying44 rfl (QcM _ _ _)
theorem QdT{l:List En}(h:Q4 w S p n bi bt l mv Y na):Calls Tryz.prog 52 #[.pointer (some ⟨p,0,none⟩)] w (KV bi bt n w):=by
 have H:=Zh h;clear h;go_enter Tryz.func52,Tryz.ntmps52;go_upto_region 1 with fail
 have E:Qa Ze w (w.alloc (.cells #[.int .u64 0,.int .u64 0,.slice none 0 0] 44)):=(Zr _ w).alloc _;have U:=Qf (w:=w) (.cells #[.int .u64 0,.int .u64 0,.slice none 0 0] 44);have I:=Zh (H.out.Qc E);have ah:=Zh (K8 I.out);obtain⟨ac,ad,ae,af,ag⟩:=cells5 I.out.row;have N:=Zh (QeP bi bt I.out.mem);have O:=Zh U;have Z:=Zh E;have hsz:=E.size;clear E U;unfold QC at N;generalize w.alloc (.cells #[.int .u64 0,.int .u64 0,.slice none 0 0] 44)=w1 at*
 generalize hb:w.heap.size=b at*
 go_wp2_with fail;refine ah.out.mono ?_
 rintro e w' ⟨rfl,rfl⟩;go_wp2_with fail;refine N.out.mono ?_
 rintro e w2 ⟨v,g,rfl,D,an,J⟩;obtain⟨cap,ai⟩: ∃cap,v= .slice (some ⟨g,0,none⟩) n cap:=⟨D.choose,D.choose_spec.1⟩
 subst ai;have M:=J.keep O.out (fun f=>f);have ap:=Ql O.out;obtain⟨ak,al,am,aq,ar,au⟩:=cells3 M;have ab:=Zh M;have W:=Zh D;have aa:=Zh (Z.out.trans J (fun _ _ f=>f));clear M D J ac ad ae af ag;unfold QC;go_wp2_with fail;have aj:=Qdg (v0:=.int .u64 bi) (v1:=.int .u64 bt) (v2:=.slice (some ⟨g,0,none⟩) n cap) ab.out;have Q:Qa (fun i=>i=b) w2 _:=XG (XG (XG (Zr (fun i=>i=b) w2) b 0 (.int .u64 bi) (fun _=>rfl)) b 1 (.int .u64 bt) (fun _=>rfl)) b 2 (.slice (some ⟨g,0,none⟩) n cap) (fun _=>rfl);refine bodyPost_ret (v:=QC bi bt (.slice (some ⟨g,0,none⟩) n cap)) ?_ rfl ⟨_,g,rfl,W.out.upd Q (by omega),by omega,aa.out.trans Q (fun i ao e=>by omega)⟩
 exact results_cell_row rfl _ _ _ _ _ _ _ rfl aj Tryz.underlying44 rfl (QcM _ _ _)
end
section
open Go.RowKit Go.Acre
attribute [local go_sem ↓] LcG ScG
attribute [local simp] QH
theorem QgR(h:A.size=24):Array.foldl (fun D x=>D.setIfInBounds x.snd x.fst) #[Value.int .u64 0,.int .u64 0,.int .i64 0,.int .i64 0,.int .i64 0,.int .u64 0,.int .u64 0,.int .i64 0,.string ⟨#[]⟩,.string ⟨#[]⟩,.string ⟨#[]⟩,.bool false,.string ⟨#[]⟩,.int .u64 0,.int .i64 0,.string ⟨#[]⟩,.string ⟨#[]⟩,.int .i64 0,.bool false,.int .i64 0,.string ⟨#[]⟩,.int .i64 0,.int .i64 0,.slice none 0 0] A.zipIdx 0 24=A:=by
 have:=QgS A QG (by rw[h];rfl)
 rwa [h] at this
attribute [local go_sem] Sc1 Sc2 Sc3 Lc2 Lc3
theorem Xc{t:TypeId}(h:w.heap[b]? =some (.cells A t (0,0)))(D:A.size=n):(LdC ⟨b,0,none⟩ n).run Tryz.prog w= .ok A w:=by
 have:=run_loadCells_list (P:=Tryz.prog) w ⟨b,0,none⟩ A.toList (fun j v E=>by
  rw[Addr.add_mid,Qb h,Nat.zero_add]
  simpa using E)
 rw[Array.length_toList,D,LcG] at this
 simpa using this
def Qae(v:Value)(S:Nat->Prop)(p n bi bt:Nat)(l:List En)(w:World)(e:Ending)(w':World):Prop:=
 e= .returned v/\ ∃S' mv ev mg,Q4 w' S' p n bi bt l mv ev mg/\(∀i,S' i->S i\/w.heap.size<=i)/\Qa S w w'
theorem Qgv(h:w.heap[g]? =some (.cells (Qh (i+1) t s) 116 (0,0))):QA w (.slice (some ⟨g,0,none⟩) 1 1) i [(t,s)]:=by
 refine⟨by rw[Q5],some ⟨g,0,none⟩,1,rfl,Zf _,by unfold maxLen;omega,(fun e=>by cases e),fun _=>⟨g,0,rfl,fun j hj=> ?_⟩⟩;rw[Nat.zero_add,Qb h j];simp[Qs]
theorem QfH{x0:Value}(J:A.size=24)(I:Qa Ze w.drew w')(N:w.heap[b]? =some (.cells A 116 (0,0)))(M:w.heap[p]? =some (.cells #[x0,Y,Z,va,vb] 189 (0,0))):
  w'.heap[b]? =some (.cells A 116 (0,0))/\(LdC ⟨b,0,none⟩ 24).run Tryz.prog w'= .ok A w'/\w'.cell? ⟨p,3,none⟩=some va/\w'.frozen? ⟨p,3,none⟩=false:=by
 have D:=I.keep (show w.drew.heap[b]? =_ from N) (fun f=>f);have E:=I.keep (show w.drew.heap[p]? =_ from M) (fun f=>f);exact⟨D,Xc D J,Qb E 3,Qg E 3 none⟩
theorem QjV{x0:Value}{row:Option Nat}(J:A.size=24)(U:Qa Ze w.drew w')(N:w'.grownBy w6 row)(W:w.heap[b]? =some (.cells A 116 (0,0)))(Q:w.heap[p]? =some (.cells #[x0,Y,Z,va,vb] 189 (0,0)))(M:row≠some b)(O:row≠some p):
  w6.heap[b]? =some (.cells A 116 (0,0))/\(LdC ⟨b,0,none⟩ 24).run Tryz.prog w6= .ok A w6/\w6.cell? ⟨p,3,none⟩=some va/\w6.frozen? ⟨p,3,none⟩=false:=by
 have I:Qa (fun i=>row=some i) w.drew w6:=(U.mono (fun _ _ f=>f.elim)).X8 N (fun k hk _=>hk);have D:=I.keep (show w.drew.heap[b]? =_ from W) M;have E:=I.keep (show w.drew.heap[p]? =_ from Q) O;exact⟨D,Xc D J,Qb E 3,Qg E 3 none⟩
theorem Qkc{w5:World}{l:List En}{X:Obj}(D:Q4 w0 S p n bi bt l mv (.slice O l.length na) nb)(N:Qa Ze w w0)(Q:Qa Ze w0.drew w5)(ai:bi+l.length+1<=100000)
  (ab:(w5.alloc X).grownBy w6 (Value.slice O l.length na).ownBlock) (M:w6.ownsRow 0 116 24 (.slice (some ⟨g,0,none⟩) (l.length+1) cap) (l.length+1) (Qs bi l++Qs (bi+l.length) [(t,s)])) (Y:(Value.slice O l.length na).ownBlock =some g\/g=w5.heap.size+1):
  ∃S' mv ev nb,Q4 (w6.setCell ⟨p,3,none⟩ (.slice (some ⟨g,0,none⟩) (l.length+1) cap)) S' p n bi bt (l++[(t,s)]) mv ev nb/\(∀i,S' i->S i\/w.heap.size<=i)/\Qa S w (w6.setCell ⟨p,3,none⟩ (.slice (some ⟨g,0,none⟩) (l.length+1) cap)):=by
 have Z:Qa Ze w0 (w5.alloc X):=((Zr Ze w0).drew.trans Q (fun _ _ f=>f)).alloc _;have hlen:(l++[(t,s)]).length =l.length+1:=by simp
 have aa:Qs bi l++Qs (bi+l.length) [(t,s)]=Qs bi (l++[(t,s)]):=(QbX _ _ _).symm;rw[aa] at M;have J:Qa (fun i=>(Value.slice O l.length na).ownBlock =some i) w0 w6:=(Z.mono (fun _ _ f=>f.elim)).X8 ab (fun k E _=>E);have ad:=J.keep D.row (fun e=>(D.se _ e).2.1 rfl);have ae:=Qi (o:=3) ad (.slice (some ⟨g,0,none⟩) (l.length+1) cap);have I:g≠p/\g≠nb/\(S g\/w.heap.size<=g):=by
  rcases Y with h|h
  ·exact⟨(D.se _ h).2.1,(D.se _ h).2.2,.inl (D.se _ h).1⟩
  ·have af:=Ql D.row
   obtain⟨_,_,_,_,_,_,ac⟩:=D.mem;have U:=World.block_lt_of_cell? _ _ (ac 0 (by omega));have W:=(Zr Ze w0).drew.trans Q (fun _ _ f=>f);have ag:=W.size;have ah:=N.size;simp only at U;exact⟨by omega,by omega,.inr (by omega)⟩
 refine⟨fun i=>S i\/i=g,mv,_,nb,⟨by simpa using ae,?_,?_,.inl D.sp,.inl D.sm,D.pm,?_,by have:=D.fit;rw[hlen];omega⟩,?_,?_⟩
 ·exact (D.mem.upd J (fun e=>(D.se _ e).2.2 rfl)).upd (XG (Zr (fun i=>i=p) w6) p 3 _ (fun _=>rfl)) D.pm
 ·rw[hlen]
  refine Q3 M (XG (Zr (fun i=>i=p) w6) p 3 _ (fun _=>rfl)) (fun k E=> ?_);simp only[Value.ownBlock,Option.some.injEq] at E;rw[<-E];exact I.1
 ·intro k E
  simp only[Value.ownBlock,Option.some.injEq] at E;subst E;exact⟨.inr rfl,I.1,I.2.1⟩
 ·rintro i (h|rfl)
  ·exact .inl h
  ·exact I.2.2
 ·refine XG ((N.mono (fun _ _ f=>f.elim)).trans J (fun i _ e=>(D.se _ e).1)) p 3 _ (fun _=>D.sp)
theorem Qka{l:List En}(h:Q4 w S p n bi bt l mv Y na)(t s:Nat)(aN:lastT bt l<=t)(aO:1<=lastT bt l)(aP:t<=1000000)(aM:lastT bt l<=1000000)(aJ:bi+l.length+1<=100000):
  Calls Tryz.prog 158 #[.pointer (some ⟨p,0,none⟩),QS (lastOf bi l+1) t s] w (Qae (.int .i64 0) S p n bi bt (l++[(t,s)]) w):=by
 have H:=Zh h;have a2:lastOf bi l=bi+l.length:=rfl;have J:=ZJ (lastOf bi l+1) t s;have an:=Z3 (lastOf bi l+1) t s;have I:=Zh J;have aU:=Zh an;clear h J an;unfold QS;generalize hAA:Qh (lastOf bi l+1) t s=A at*
 have ab:=Zh hAA;clear hAA;have av:Hid (∀k,Y.ownBlock=some k->k<w.heap.size):=Zh (fun k aI=>(H.out.own.lt k aI).2);have aV:Hid (p<w.heap.size):=Zh (Ql H.out.row);go_enter Tryz.func158,Tryz.ntmps158;go_upto_region 1 with fail
 have E:Qa Ze w (w.alloc (.cells A 116)):=(Zr _ w).alloc _;have ar:=Qf (w:=w) (.cells A 116);have O:=Zh (H.out.Qc E);have aq:=Zh (K8 O.out);have ap:=Zh (last_any O.out);have al:=Zh ar;have ai:=Zh E;clear E ar;generalize w.alloc (.cells A 116)=w1 at*
 generalize hwb:w.heap.size=b at*
 have aA:=Zh hwb;clear hwb;go_wp2_with fail;refine aq.out.mono ?_
 rintro e w' ⟨rfl,rfl⟩;go_wp2_with fail;refine ap.out.mono ?_
 rintro e w2 ⟨rfl,U⟩;have ag:=Zh (O.out.Qc U);have af:=Zh (U.keep al.out (fun f=>f));have aj:=Zh (ai.out.trans U (fun _ _ f=>f));clear U O al ai aq ap;have J:=I.out;have aG:=QgR J;have aK:=Xc af.out J;go_wp2_with fail;have W:Qa Ze w2 (w2.alloc (.cells A 116)):=(Zr _ w2).alloc _;have au:=Qf (w:=w2) (.cells A 116);have ac:=Zh (Qef (i:=bi+l.length) (t:=lastT bt l) (Qgv (i:=bi+l.length) (t:=t) (s:=s) (by rw[show Qh (bi+l.length+1) t s=A from ab.out];exact au)) aO ⟨aN,trivial⟩ (by simp;omega) ⟨aM,fun e ao=>by simp at ao;subst ao;exact aP⟩);have ah:=Zh (ag.out.Qc W);have am:=Zh (W.keep af.out (fun f=>f));have ak:=Zh (aj.out.trans W (fun _ _ f=>f));have e1:((bi+l.length:Nat):Int)=(bi:Int)+(l.length:Int):=by omega
 rw[e1] at ac;clear W au ag af aj;generalize w2.alloc (.cells A 116)=w3 at*
 generalize w2.heap.size=b2 at*
 refine Calls.mono ac.out ?_
 rintro e N ⟨rfl,Z⟩;have D:=Zh (ah.out.Qc Z);have Q:=Zh (Z.keep am.out (fun f=>f));have az:=Zh (ak.out.trans Z (fun _ _ f=>f));clear Z ah am ak ac;go_upto_region 6 with fail
 obtain⟨aB,aC,aF,_,_⟩:=D.out.Qq.slice;subst aF;obtain⟨aW,aX,aY,aZ,a0⟩:=cells5 D.out.row;have ad:=Zh (Qh3 (lastOf bi l+1) t s);unfold QS at ad;rw[ab.out] at ad;obtain⟨aT,aH,aQ,aR,aS⟩:=info_parts QcL;have ay:=Zh D.out.se;have aw:Hid (∀aa:World,∀j u,(Qs (bi+l.length) [(t,s)])[j]? =some u->(aa.alloc (.cells A 116)).cell? ((⟨aa.heap.size,0,none⟩:Addr).add j)=some u):=Zh (fun aa j u E=>by
  rw[Addr.add_mid,Qb (Qf (w:=aa) _),Nat.zero_add];have e:Qs (bi+l.length) [(t,s)]=A.toList:=by
   rw[Qs,Qs,List.append_nil,show Qh (bi+l.length+1) t s=A from ab.out]
  rw[e] at E
  simpa using E)
 have ax:Hid (N.ownsRow 0 116 24 (.slice aB l.length aC) l.length (Qs bi l)):=Zh D.out.own;have aD:l.length+1<=maxLen:=by unfold maxLen;omega
 have aE:(l.length+1)*264<=140737488355328:=by omega
 have a1:=(WX D.out.row).2.2.2.1;have aL:(LdC ⟨b,0,none⟩ 24).run Tryz.prog N.drew= .ok A N.drew:=Xc (show N.drew.heap[b]? =_ from Q.out) I.out;have ae:=Zh D.out.row;go_region_law (first
  |(refine step_append_lies _ (by rfl) _ _ _ (by rfl) 0 116 aT (.agg QG) 24 264 Tryz.underlying45 aH aQ aR aS (by rfl) (by omega) _ _ _ (by rfl) (Q3 ax.out (((Zr Ze N).drew.trans M (fun _ _ f=>f)).alloc _) (fun _ _ f=>f)) ⟨w5.heap.size,0,none⟩ 1 1 (Qs (bi+l.length) [(t,s)]) (by rfl) (by rw[Q5];rfl) (aw.out w5) (Qeb _ _) (by omega) aD aE (Zz _) (w5.heap.size+1) (by simp) ?_;intro g cap w6 hown6 hgrow hat hlt;obtain⟨_,_,q3,q4⟩:=QjV I.out (M.alloc _) hgrow Q.out ae.out (fun e=>absurd (av.out _ e) (by have:=aA.out;omega)) (fun e=>(ay.out _ e).2.1 rfl))
  |(go_simp;go_at_call 159;refine (ad.out _).mono ?_;rintro e w5 ⟨rfl,M⟩;obtain⟨_,_,q1,q2⟩:=QfH I.out M Q.out ae.out;obtain⟨_,_,q5,q6⟩:=QfH I.out (M.alloc (.cells A 116)) Q.out ae.out))
 all_goals
  clear aK aL aG;go_wp2_with fail;go_ret;exact⟨rfl,Qkc D.out az.out M aJ hgrow hown6 hat⟩
end
section
open Go.RowKit Go.Acre
attribute [local go_sem ↓] LcG ScG
attribute [local go_sem] Sc1 Sc2 Sc3 Lc2 Lc3
attribute [local simp] QH
theorem W3{o:Nat}(h:w.rangeAt b o A.toList)(D:A.size=n):(LdC ⟨b,o,none⟩ n).run Tryz.prog w= .ok A w:=by
 have:=run_loadCells_list (P:=Tryz.prog) w ⟨b,o,none⟩ A.toList (fun j v E=>by
  rw[Addr.add_mid];exact h j v E)
 rw[Array.length_toList,D,LcG] at this
 simpa using this
theorem Qms{a:Option Addr}{l:List En}(h:QA w (.slice a n cap) i l)(q:Value)(ad:l.length<=100000)
  (I: ∀k (Y:k<l.length),∀w',Qa Ze w w'->Calls Tryz.prog 215 #[QS (i+k+1) l[k].1 l[k].2,q] w' (Qk (.bool false) w')):
  Calls Tryz.prog 148 #[.slice a n cap,.func (.func 215) #[] #[q]] w (Qk (.int .i64 (-1)) w):=by
 have ab:n=l.length:=by
  obtain⟨_,_,N,_⟩:=h.slice;simp only[Value.slice.injEq] at N;exact N.2.1
 subst ab;have Q:=Zh h;have O:=Zh I;clear h I;go_enter Tryz.func148,Tryz.ntmps148;go_wp2_with fail;go_loopw [8] (fun x wr=> ∃k:Nat,x= .int .i64 k/\k<=l.length/\Qa Ze w wr) (fun x _=>l.length - (intOf x).toNat)
 case atStart=>exact⟨0,rfl,by omega,Zr _ _⟩
 case round=>
  obtain⟨k,rfl,Y,D⟩:=hrel;by_cases hlt:k<l.length
  ·have aa:(k:Int)< (l.length:Int):=by omega
   have ac:(0:Int)<=k:=by omega
   obtain⟨g,o,rfl,J⟩:=(Q.out.Qc D).range hlt;have E:=Zh (O.out k hlt wr D);have Z:=W3 J (ZJ (i+k+1) l[k].1 l[k].2);have U:=Zh D;clear D J;unfold QS at E;generalize Qh (i+k+1) l[k].1 l[k].2=A at*
   go_wp2_with fail;refine E.out.mono ?_
   rintro e w2 ⟨rfl,M⟩;have W:=Zh (U.out.trans M (fun _ _ f=>f));clear M Z;go_wp2_with fail;exact⟨⟨k+1,by go_num,by omega,W.out⟩,by simp[intOf];omega⟩
  ·have aa: ¬(k:Int)< (l.length:Int):=by omega
   go_wp2_with fail;go_ret;exact⟨rfl,D⟩
theorem Qmi{a:Option Addr}{l:List En}(h:QA w (.slice a n cap) i l)(q:Value)(I:l.length<=100000)
  (D: ∀k (M:k<l.length),∀w',Qa Ze w w'->Calls Tryz.prog 215 #[QS (i+k+1) l[k].1 l[k].2,q] w' (Qk (.bool false) w')):
  Calls Tryz.prog 83 #[.slice a n cap,.func (.func 215) #[] #[q]] w (Qk (.bool false) w):=by
 have E:=Zh (Qms h q I D);clear h D;go_enter Tryz.func83,Tryz.ntmps83;go_wp2_with fail;refine E.out.mono ?_
 rintro e w2 ⟨rfl,J⟩;go_wp2_with fail;go_ret;exact⟨rfl,J⟩
theorem Qmr{a:Option Addr}{l:List En}(h:QA w (.slice a n cap) i l)(ad:l.length<=100000)
  (I: ∀k (Y:k<l.length),∀w',Qa Ze w w'->Calls Tryz.prog 84 #[QS (i+k+1) l[k].1 l[k].2] w' (Qk (.bool false) w')):
  Calls Tryz.prog 148 #[.slice a n cap,.func (.func 84) #[] #[]] w (Qk (.int .i64 (-1)) w):=by
 have ab:n=l.length:=by
  obtain⟨_,_,N,_⟩:=h.slice;simp only[Value.slice.injEq] at N;exact N.2.1
 subst ab;have Q:=Zh h;have O:=Zh I;clear h I;go_enter Tryz.func148,Tryz.ntmps148;go_wp2_with fail;go_loopw [8] (fun x wr=> ∃k:Nat,x= .int .i64 k/\k<=l.length/\Qa Ze w wr) (fun x _=>l.length - (intOf x).toNat)
 case atStart=>exact⟨0,rfl,by omega,Zr _ _⟩
 case round=>
  obtain⟨k,rfl,Y,D⟩:=hrel;by_cases hlt:k<l.length
  ·have aa:(k:Int)< (l.length:Int):=by omega
   have ac:(0:Int)<=k:=by omega
   obtain⟨g,o,rfl,J⟩:=(Q.out.Qc D).range hlt;have E:=Zh (O.out k hlt wr D);have Z:=W3 J (ZJ (i+k+1) l[k].1 l[k].2);have U:=Zh D;clear D J;unfold QS at E;generalize Qh (i+k+1) l[k].1 l[k].2=A at*
   go_wp2_with fail;refine E.out.mono ?_
   rintro e w2 ⟨rfl,M⟩;have W:=Zh (U.out.trans M (fun _ _ f=>f));clear M Z;go_wp2_with fail;exact⟨⟨k+1,by go_num,by omega,W.out⟩,by simp[intOf];omega⟩
  ·have aa: ¬(k:Int)< (l.length:Int):=by omega
   go_wp2_with fail;go_ret;exact⟨rfl,D⟩
theorem Qmh{a:Option Addr}{l:List En}(h:QA w (.slice a n cap) i l)(I:l.length<=100000)
  (D: ∀k (M:k<l.length),∀w',Qa Ze w w'->Calls Tryz.prog 84 #[QS (i+k+1) l[k].1 l[k].2] w' (Qk (.bool false) w')):
  Calls Tryz.prog 83 #[.slice a n cap,.func (.func 84) #[] #[]] w (Qk (.bool false) w):=by
 have E:=Zh (Qmr h I D);clear h D;go_enter Tryz.func83,Tryz.ntmps83;go_wp2_with fail;refine E.out.mono ?_
 rintro e w2 ⟨rfl,J⟩;go_wp2_with fail;go_ret;exact⟨rfl,J⟩
section
variable {w:World} {S:Nat->Prop} {p n bi bt:Nat} {l:List En} {mv ev:Value} {mg:Nat}
theorem QkK(h:Q4 w S p n bi bt l mv ev mg)(i t s Q:Nat)(U:w.cell? ⟨Q,0,none⟩=some (.pointer (some ⟨p,0,none⟩)))(J:i=bi->t=bt):
  Calls Tryz.prog 215 #[QS i t s,.pointer (some ⟨Q,0,none⟩)] w (Qk (.bool false) w):=by
 obtain⟨E,I,_,_,_⟩:=cells5 h.row;have Z:=Zh U;have W:=Zh E;have Y:=Zh I;have N:=Wt i t s;have O:=Qbm i t s;have ad:=Zh (ZJ i t s);clear h U E I;unfold QS;generalize Qh i t s=A at*
 go_enter Tryz.func215,Tryz.ntmps215;go_upto_region 1 with fail
 have D:Qa Ze w (w.alloc (.cells A 116)):=(Zr _ w).alloc _;have M:=Qf (w:=w) (.cells A 116);have aa:=Qb M 0;have ab:=Qb M 1;rw[N] at aa;rw[O] at ab;have E:=Qe D W.out (fun f=>f);have I:=Qe D Y.out (fun f=>f);have cc:=Qe D Z.out (fun f=>f);clear N O M;generalize w.alloc (.cells A 116)=w1 at*
 generalize w.heap.size=b at*
 by_cases hib:i=bi
 ·have ac:=J hib
  subst hib;subst ac;clear J;go_quiet (fail);go_wp2_with fail;go_ret;exact⟨rfl,D.drewN _⟩
 ·have ae: ¬(i:Int)=bi:=by omega
  clear J;go_quiet (fail);go_wp2_with fail;go_ret;exact⟨rfl,D.drewN _⟩
def ZH(bi bt:Nat)(l:List En)(idx t:Nat):Bool:=if bi<=idx then Qu bi bt l idx==some t else true
theorem QfK(h:Q4 w S p n bi bt l mv ev mg){a:Option Addr}{m cap D t:Nat}{L:List En}(Q:QA w (.slice a m cap) D L)(an:1<=t)(ae:XP t L)(au:D+L.length<=100000)(W:t<=1000000/\ ∀e∈L,e.1<=1000000)
  (ac:D<bi-> ∀k (ad:k<L.length),D+k+1=bi->L[k].1=bt):
  Calls Tryz.prog 157 #[.pointer (some ⟨p,0,none⟩),.int .u64 D,.int .u64 t,.slice a m cap] w (Qk (.bool (ZH bi bt l D t)) w):=by
 have H:=Zh h;have ah:=Zh Q;have ai:Hid (∀w',Qa Ze w w'->Calls Tryz.prog 144 #[.int .u64 D,.int .u64 t,.slice a m cap] w' (Qk (.bool true) w')):=Zh (fun w' E=>Qef (Q.Qc E) an ae (by omega) W);have ag:=Zh ac;have av:=W.1;clear h Q ae W ac;go_enter Tryz.func157,Tryz.ntmps157;go_upto_region 1 with fail
 have E:Qa Ze w (w.alloc (.cells #[.pointer (some ⟨p,0,none⟩)] 120)):=(Zr _ w).alloc _;have af:=Qf (w:=w) (.cells #[.pointer (some ⟨p,0,none⟩)] 120);have aa:=Zh af;have O:=Zh E;clear E af;generalize w.alloc (.cells #[.pointer (some ⟨p,0,none⟩)] 120)=w1 at*
 generalize w.heap.size=b at*
 go_wp2_with fail;refine (ai.out _ O.out).mono ?_
 rintro e w2 ⟨rfl,U⟩;have M:=Zh (O.out.trans U (fun _ _ f=>f));have aj:=Zh (U.keep aa.out (fun f=>f));have N:=Zh (H.out.Qc M.out);clear U O aa;obtain⟨aq,ar,_,_,_⟩:=cells5 N.out.row;have ab:=Qb aj.out 0;simp only[List.getElem?_toArray,List.getElem?_cons_zero] at ab;by_cases hge:bi<=D
 ·have am:(bi:Int)<=D:=by omega
  have e:ZH bi bt l D t=(Qu bi bt l D==some t):=by unfold ZH;rw[if_pos hge]
  rw[e];have Z:=Zh (Qa7 N.out D (by omega));go_wp2_with fail;refine Z.out.mono ?_
  rintro e ap ⟨rfl,J⟩;have I:=Zh (M.out.trans J (fun _ _ f=>f));clear J Z
  cases hta:Qu bi bt l D with
  |
   none=>
   unfold XT;simp only[Option.getD_none,Option.isSome_none];go_wp2_with fail;go_ret;exact⟨by rw[e,hta];rfl,I.out⟩
  |
   some t'=>
   unfold XT;simp only[Option.getD_some,Option.isSome_some];by_cases htt:t'=t
   ·subst htt
    go_wp2_with fail;go_ret;exact⟨by rw[e,hta];simp,I.out⟩
   ·have ao: ¬(t':Int)=t:=by omega
    go_wp2_with fail;go_ret;have ak:((t':Int)==(t:Int))=false:=by rw[beq_eq_false_iff_ne];exact ao
    have al:(t'==t)=false:=by rw[beq_eq_false_iff_ne];exact htt
    exact⟨by rw[e,hta];simp[ak,al],I.out⟩
 ·have am: ¬(bi:Int)<=D:=by omega
  have e:ZH bi bt l D t=true:=by unfold ZH;rw[if_neg hge]
  rw[e];have Y:=Zh (Qmi (ah.out.Qc M.out) (.pointer (some ⟨b,0,none⟩)) (by omega) (fun k ad w' E=>QkK (N.out.Qc E) _ _ _ b (Qe E ab (fun f=>f)) (fun he=>ag.out (by omega) k ad he)));go_wp2_with fail;refine Y.out.mono ?_
  rintro e ap ⟨rfl,J⟩;have I:=Zh (M.out.trans J (fun _ _ f=>f));clear J Y;go_wp2_with fail;go_ret;exact⟨by rw[e];rfl,I.out⟩
end
end
end Go.Proofs.YtbleblbfadeciaaGreatDoor
