/- For TopKept. -/
import Derived.Maps.OwnSet
set_option linter.all false
set_option maxHeartbeats 16000000
set_option maxRecDepth 10000
namespace Go.Acre.Dk
open Go.WideShapes
structure Xj where
 name:ByteArray
 bytes:ByteArray
 synced:Nat
def key(s:ByteArray):Lit:=.string s.data.toList
theorem key_inj{a b:ByteArray}(h:key a=key b):a=b:=by
 simp only[key,Lit.string.injEq] at h;exact ByteArray.ext (Array.ext' h)
def bf(a b:ByteArray):Bool:=(key a).before (key b)
theorem QfW(a:ByteArray):bf a a=false:=before_irrefl _
theorem QfX{a b c:ByteArray}(h:bf a b=true)(k:bf b c=true):bf a c=true:=before_trans h k
theorem Qkr{a b:ByteArray}(h:a≠b):bf a b=true\/bf b a=true:=
 Go.ChangeMaps.before_total ⟨_,rfl⟩ ⟨_,rfl⟩ (fun e=>h (key_inj e))
theorem Qbg{a b:ByteArray}(h:bf a b=true):a≠b:=fun e=>by rw[e,QfW] at h;cases h
theorem Qkq{a b:ByteArray}(h:bf a b=true):bf b a=false:=by
 cases hb:bf b a with
 |false=>rfl
 |true=>have:=QfX h hb;rw[QfW] at this;cases this
section
variable {α:Type} (nm:α->ByteArray)
def QQ(l:List α):Prop:=l.Pairwise fun x y=>bf (nm x) (nm y)=true
def ins(x:α):List α->List α
 |[]=>[x]
 |y::r=>if bf (nm x) (nm y)=true then x::y::r else y::ins x r
def drop(k:ByteArray)(l:List α):List α:=l.filter fun x=>decide (nm x≠k)
def put(x:α)(l:List α):List α:=ins nm x (drop nm (nm x) l)
def get(l:List α)(k:ByteArray):Option α:=l.find? fun x=>decide (nm x=k)
theorem QhO{x y:α}{l:List α}:y∈ins nm x l↔y=x\/y∈l:=by
 induction l with
 |nil=>simp[ins]
 |
  cons z r ih=>
  unfold ins;split
  ·simp
  ·simp only[List.mem_cons,ih]
   constructor
   ·rintro (h|h|h)
    ·exact .inr (.inl h)
    ·exact .inl h
    ·exact .inr (.inr h)
   ·rintro (h|h|h)
    ·exact .inr (.inl h)
    ·exact .inl h
    ·exact .inr (.inr h)
theorem Qb2{x:α}{k:ByteArray}{l:List α}:x∈drop nm k l↔x∈l/\nm x≠k:=by simp[drop]
theorem QiQ{l:List α}(h:QQ nm l)(k:ByteArray):QQ nm (drop nm k l):=List.Pairwise.filter _ h
theorem QqD{x:α}{l:List α}(h:QQ nm l)(I: ∀y∈l,nm y≠nm x):QQ nm (ins nm x l):=by
 induction l with
 |nil=>simp[ins,QQ]
 |
  cons z r ih=>
  obtain⟨E,J⟩:=List.pairwise_cons.1 h;unfold ins;split
  ·rename_i hb
   refine List.pairwise_cons.2 ⟨fun y D=> ?_,h⟩;rcases List.mem_cons.1 D with rfl|D
   ·exact hb
   ·exact QfX hb (E y D)
  ·rename_i hb
   have M:bf (nm z) (nm x)=true:=by
    rcases Qkr (I z (by simp)) with h|h
    ·exact h
    ·exact absurd h hb
   refine List.pairwise_cons.2 ⟨fun y D=> ?_,ih J (fun y D=>I y (by simp[D]))⟩;rcases (QhO nm).1 D with rfl|D
   ·exact M
   ·exact E y D
theorem QiR{x:α}{l:List α}(h:QQ nm l):QQ nm (put nm x l):=
 QqD nm (QiQ nm h _) (fun y D=>((Qb2 nm).1 D).2)
theorem QcX{x y:α}{l:List α}:y∈put nm x l↔y=x\/(y∈l/\nm y≠nm x):=by
 unfold put;rw[QhO,Qb2]
theorem QqC{x y:α}{l:List α}(h:QQ nm l)(E:x∈l)(M:y∈l)(e:nm x=nm y):x=y:=by
 induction l with
 |nil=>cases E
 |
  cons z r ih=>
  obtain⟨D,J⟩:=List.pairwise_cons.1 h;rcases List.mem_cons.1 E with rfl|I<;>rcases List.mem_cons.1 M with rfl|hy'
  ·rfl
  ·exact absurd e (Qbg (D y hy'))
  ·exact absurd e.symm (Qbg (D x I))
  ·exact ih J I hy'
theorem W0{l:List α}{k:ByteArray}{x:α}(h:get nm l k=some x):x∈l/\nm x=k:=
 ⟨List.mem_of_find?_eq_some h,by simpa using List.find?_some h⟩
theorem QgV{l:List α}{k:ByteArray}(h:get nm l k=none): ∀x∈l,nm x≠k:=by
 intro x D;have:=List.find?_eq_none.1 h x D
 simpa using this
theorem QbY{l:List α}(h:QQ nm l){x:α}(D:x∈l):get nm l (nm x)=some x:=by
 cases hg:get nm l (nm x) with
 |none=>exact absurd rfl (QgV nm hg x D)
 |
  some y=>
  obtain⟨E,e⟩:=W0 nm hg;rw[QqC nm h E D e]
theorem QgW{l:List α}{k:ByteArray}(h: ∀x∈l,nm x≠k):get nm l k=none:=by
 unfold get;rw[List.find?_eq_none];intro x D
 simpa using h x D
theorem QcA{l:List α}{k:ByteArray}(h:get nm l k=none):drop nm k l=l:=by
 unfold drop;rw[List.filter_eq_self];intro x D
 simpa using QgV nm h x D
theorem Qd5{l1 l2:List α}{y:α}(h:QQ nm (l1++y::l2)):drop nm (nm y) (l1++y::l2)=l1++l2:=by
 obtain⟨M,E,I⟩:=List.pairwise_append.1 h;obtain⟨J,N⟩:=List.pairwise_cons.1 E;unfold drop;rw[List.filter_append,List.filter_cons_of_neg (by simp)]
 congr 1
 ·rw[List.filter_eq_self]
  intro x D
  simpa using Qbg (I x D y (by simp))
 ·rw[List.filter_eq_self]
  intro x D
  simpa using (Qbg (J x D)).symm
theorem Qg4{l1 l2:List α}{x:α}(D: ∀z∈l1,bf (nm z) (nm x)=true)(E: ∀z∈l2,bf (nm x) (nm z)=true):ins nm x (l1++l2)=l1++x::l2:=by
 induction l1 with
 |
  nil=>
  cases l2 with
  |nil=>rfl
  |cons z r=>simp[ins,E z (by simp)]
 |
  cons z r ih=>
  simp only[List.cons_append,ins];rw[if_neg (by rw[Qkq (D z (by simp))];simp),ih (fun y I=>D y (by simp[I]))]
theorem Qc8{l1 l2:List α}{x y:α}(h:QQ nm (l1++y::l2))(e:nm x=nm y):put nm x (l1++y::l2)=l1++x::l2:=by
 obtain⟨M,E,I⟩:=List.pairwise_append.1 h;obtain⟨J,N⟩:=List.pairwise_cons.1 E;unfold put;rw[e,Qd5 nm h,Qg4 nm (fun z D=>by rw[e];exact I z D y (by simp)) (fun z D=>by rw[e];exact J z D)]
theorem drop_drop{l:List α}{k:ByteArray}:drop nm k (drop nm k l)=drop nm k l:=by
 unfold drop;rw[List.filter_filter];simp
theorem Qlp{y:α}{l:List α}:drop nm (nm y) (ins nm y l)=drop nm (nm y) l:=by
 induction l with
 |nil=>simp[ins,drop]
 |
  cons z r ih=>
  unfold ins;split
  ·unfold drop
   rw[List.filter_cons_of_neg (by simp)]
  ·unfold drop at ih ⊢
   simp only[List.filter_cons,ih]
theorem QpD{x y:α}{l:List α}(e:nm x=nm y):put nm x (put nm y l)=put nm x l:=by
 unfold put;rw[e,Qlp,drop_drop]
theorem QmE(x:α)(l:List α):(ins nm x l).Perm (x::l):=by
 induction l with
 |nil=>exact List.Perm.refl _
 |
  cons y r ih=>
  unfold ins;split
  ·exact List.Perm.refl _
  ·exact (List.Perm.cons y ih).trans (List.Perm.swap x y r)
theorem get_put{x:α}{l:List α}(h:QQ nm l):get nm (put nm x l) (nm x)=some x:=QbY nm (QiR nm h) ((QcX nm).2 (.inl rfl))
variable {β:Type} (mb:β->ByteArray) (f:α->β)
theorem QnE(D: ∀x,mb (f x)=nm x)(x:α)(l:List α):(ins nm x l).map f=ins mb (f x) (l.map f):=by
 induction l with
 |nil=>rfl
 |
  cons y r ih=>
  simp only[ins,List.map_cons,D];split
  ·rfl
  ·simp[ih]
theorem map_drop(D: ∀x,mb (f x)=nm x)(k:ByteArray)(l:List α):(drop nm k l).map f=drop mb k (l.map f):=by
 unfold drop;rw[List.filter_map]
 congr 1
 apply List.filter_congr;intro x _;simp[Function.comp,D]
theorem QhJ(D: ∀x,mb (f x)=nm x)(x:α)(l:List α):(put nm x l).map f=put mb (f x) (l.map f):=by
 unfold put;rw[QnE nm mb f D,map_drop nm mb f D,D]
theorem QnD(D: ∀x,mb (f x)=nm x)(k:ByteArray)(l:List α):get mb (l.map f) k=(get nm l k).map f:=by
 unfold get;rw[List.find?_map]
 congr 2
 funext x
 simp[Function.comp,D]
theorem QcW(D: ∀x,mb (f x)=nm x){l:List α}:QQ mb (l.map f)↔QQ nm l:=by
 unfold QQ;rw[List.pairwise_map];simp only[D]
end
abbrev QT:=List Xj
abbrev En:=Xj.name
def total(D:QT):Nat:=(D.map fun f=>f.bytes.size).sum
theorem Qjc(x:Xj)(D:QT):total (ins En x D)=x.bytes.size+total D:=by
 induction D with
 |nil=>simp[ins,total]
 |
  cons y r ih=>
  unfold ins;split
  ·simp[total]
  ·simp only[total,List.map_cons,List.sum_cons] at ih ⊢
   omega
theorem Qdp(a b:QT):total (a++b)=total a+total b:=by simp[total]
theorem total_cons(x:Xj)(D:QT):total (x::D)=x.bytes.size+total D:=by simp[total]
theorem QbL{D:QT}(h:QQ En D){k:ByteArray}{f:Xj}(E:get En D k=some f):total (drop En k D)+f.bytes.size=total D:=by
 obtain⟨I,rfl⟩:=W0 En E;obtain⟨l1,l2,rfl⟩:=List.append_of_mem I;rw[Qd5 En h,Qdp,Qdp,total_cons];omega
theorem Qdq{D:QT}(h:QQ En D){x f:Xj}(E:get En D x.name=some f):total (put En x D)+f.bytes.size=total D+x.bytes.size:=by
 unfold put;rw[Qjc];have:total (drop En (En x) D)+f.bytes.size=total D:=QbL h E;omega
theorem Qff{D:QT}{x:Xj}(E:get En D x.name=none):total (put En x D)=total D+x.bytes.size:=by
 unfold put;rw[Qjc,QcA En E];omega
theorem Qa4{D:QT}{f:Xj}(h:f∈D):f.bytes.size<=total D:=by
 obtain⟨l1,l2,rfl⟩:=List.append_of_mem h;rw[Qdp,total_cons];omega
def Zp(s:ByteArray):Bool:=decide (1<=s.size/\s.size<=64)
structure May(room:Nat)(D:QT):Prop where
 srt:QQ En D
 names: ∀f∈D,Zp f.name=true
 syn: ∀f∈D,f.synced<=f.bytes.size
 fits:total D<=room
def WS(room:Nat)(D:QT)(to data:ByteArray):QT×Nat:=
 if Zp to=true then
  if data.size<=room - total D then
   match get En D to with
   |some f=>(put En ⟨to,f.bytes++data,f.synced⟩ D,0)
   |none=>(put En ⟨to,data,0⟩ D,0)
  else (D,7)
 else (D,2)
def Wb(D:QT)(k:ByteArray):QT×Nat:=
 match get En D k with
 |some f=>(put En ⟨k,f.bytes,f.bytes.size⟩ D,0)
 |none=>(D,5)
def KR(D:QT)(k:ByteArray):QT×Nat:=
 match get En D k with
 |some _=>(drop En k D,0)
 |none=>(D,5)
def K6(z:Int)(u:Nat):Nat:=(if z.tmod ((u:Int)+1)<0 then z.tmod ((u:Int)+1)+((u:Int)+1) else z.tmod ((u:Int)+1)).toNat
def QaE(z:Option Int)(f:Xj):Xj:=
 let n:=match z with|some z=>K6 z (f.bytes.size - f.synced)|none=>0
 ⟨f.name,f.bytes.extract 0 (f.synced+n),f.synced+n⟩
def Qal(D:QT)(keep:List Int):QT:=D.mapIdx fun i f=>QaE keep[i]? f
def ZK(D:QT)(p:ByteArray):List ByteArray:=(D.map (·.name)).filter fun s=>p.data.toList.isPrefixOf s.data.toList
theorem Qg6(z:Int)(u:Nat):K6 z u<=u:=by
 unfold K6;have D:=Int.tmod_lt_of_pos z (show (0:Int)< (u:Int)+1 by omega);have E:=Int.lt_tmod_of_pos z (show (0:Int)< (u:Int)+1 by omega);split<;>omega
theorem QnG(room:Nat):May room []:=⟨List.Pairwise.nil,by simp,by simp,by simp[total]⟩
theorem May.put{room:Nat}{E:QT}(h:May room E){x:Xj}(I:Zp x.name=true)(J:x.synced<=x.bytes.size)(D:total (put En x E)<=room):May room (put En x E):=by
 refine⟨QiR En h.srt,fun f D=> ?_,fun f D=> ?_,D⟩
 ·rcases (QcX En).1 D with rfl|⟨D,_⟩
  ·exact I
  ·exact h.names f D
 ·rcases (QcX En).1 D with rfl|⟨D,_⟩
  ·exact J
  ·exact h.syn f D
theorem May.drop{room:Nat}{D:QT}(h:May room D)(k:ByteArray):May room (drop En k D):=by
 refine⟨QiQ En h.srt k,fun f E=>h.names f ((Qb2 En).1 E).1,fun f E=>h.syn f ((Qb2 En).1 E).1,?_⟩
 cases hg:get En D k with
 |none=>rw[QcA En hg];exact h.fits
 |some f=>have:=QbL h.srt hg;have:=h.fits;omega
theorem QnH{room:Nat}{D:QT}(h:May room D)(k:ByteArray):May room (Wb D k).1:=by
 unfold Wb
 cases hg:get En D k with
 |none=>exact h
 |
  some f=>
  obtain⟨E,rfl⟩:=W0 En hg;have I:=Qdq h.srt (x:=⟨f.name,f.bytes,f.bytes.size⟩) hg;have:=h.fits;exact h.put (h.names f E) (Nat.le_refl _) (by show total (put En ⟨f.name,f.bytes,f.bytes.size⟩ D)<=room;simp only at I;omega)
abbrev EB:=Xj×Nat
abbrev Bn(x:EB):ByteArray:=x.1.name
def Qq(E:List EB):List (Lit×DataW Nat):=E.map fun x=>(key x.1.name,.held x.2)
theorem QlF(x:EB)(D:List EB):Qq (ins Bn x D)=DataW.insert (key x.1.name,.held x.2) (Qq D):=by
 induction D with
 |nil=>rfl
 |
  cons y r ih=>
  simp only[ins,Qq,List.map_cons,DataW.insert] at ih ⊢;show _=if bf x.1.name y.1.name=true then _ else _
  split
  ·rfl
  ·rw[List.map_cons,ih]
theorem Qiz(a b:ByteArray):(key a).sameKey (key b)=decide (a=b):=by
 simp only[key,Lit.sameKey];by_cases h:a=b
 ·subst h;simp
 ·have:a.data.toList≠b.data.toList:=fun e=>h (ByteArray.ext (Array.ext' e))
  simp only[h,decide_false,beq_eq_false_iff_ne];exact this
theorem Qgu(k:ByteArray)(D:List EB):Qq (drop Bn k D)=(Qq D).filter fun p=> !p.1.sameKey (key k):=by
 unfold Qq drop;rw[List.filter_map]
 congr 1
 apply List.filter_congr;intro x _;simp[Function.comp,Qiz]
theorem QlG(x:EB)(D:List EB):DataW.map (Qq (put Bn x D))=(DataW.map (Qq D)).put (key x.1.name) (.held x.2):=by
 unfold put;rw[QlF,Qgu];rfl
theorem QlE(k:ByteArray)(D:List EB):DataW.map (Qq (drop Bn k D))=(DataW.map (Qq D)).del (key k):=by
 rw[Qgu];rfl
theorem Qgt(D:List EB)(k:ByteArray):(DataW.map (Qq D)).atKey (key k) .nil =match get Bn D k with|some x=>.held x.2|none=>.nil :=by
 simp only[DataW.atKey,Qq,get];rw[List.find?_map];have:((fun p:Lit×DataW Nat=>p.1.sameKey (key k))∘fun x:EB=>(key x.1.name,DataW.held x.2))=fun x=>decide (Bn x=k):=by
  funext x
  simp[Function.comp,Qiz]
 rw[this]
 cases List.find? (fun x:EB=>decide (Bn x=k)) D<;>rfl
end Go.Acre.Dk
