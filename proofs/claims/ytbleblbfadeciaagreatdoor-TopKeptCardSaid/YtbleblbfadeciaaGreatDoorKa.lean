/- For TopKept. -/
import Derived.Test.YtbleblbfadeciaaGreatDoorVa
import Derived.Test.YtbleblbfadeciaaGreatDoorQf
import Derived.Test.YtbleblbfadeciaaGreatDoorVc
import Derived.Test.YtbleblbfadeciaaGreatDoorTi
import Derived.Test.YtbleblbfadeciaaGreatDoorTk
import Derived.Test.YtbleblbfadeciaaGreatDoorTm
set_option linter.all false
set_option maxHeartbeats 16000000
set_option maxRecDepth 10000
namespace Go.Proofs.YtbleblbfadeciaaGreatDoor
variable{c c':Core}{b bi bt frm i n na s t x:Nat}{fa fb:Nat->Nat}{o:Ou}
section
open Go.RowKit Go.Acre
inductive Tok where
 |n (v:Nat)
 |s (b:ByteArray)
 |f (b:Bool)
def QfY(b:Bool):Nat:=if b then 1 else 0
def QbJ:Tok->ByteArray
 | .n v=>str (num v)
 | .s b=>txt b
 | .f b=>str [QfY b]
def Xw:List Tok->ByteArray
 |[]=>⟨#[]⟩
 |t::r=>QbJ t++Xw r
def Wy(b:ByteArray):List Tok->ByteArray
 |[]=>b
 |t::r=>Wy (b++QbJ t) r
theorem Qhv: ∀(l:List Tok) (b:ByteArray),Wy b l=b++Xw l
 |[],b=>(WJ b).symm
 |t::r,b=>by rw[Wy,Qhv r,Xw,KF]
theorem Qjb: ∀(a b:List Tok),Xw (a++b)=Xw a++Xw b
 |[],b=>(Qas _).symm
 |t::r,b=>by rw[List.cons_append,Xw,Qjb r,Xw,KF]
def kN(s:Nat):Nat:=if s=0 then 0 else 1
def oN(s:Nat):Nat:=if s=0 then 0 else 2
def QaU(s:Nat):List Tok:=[.n (oN s),.s (rS s),.s (cS s),.s ⟨#[]⟩,.f false,.s ⟨#[]⟩]
def QaD(s:Nat):List Tok:=[.n (kN s),.n 0,.n s,.n 0]++QaU s++[.n 0,.n 0,.s ⟨#[]⟩,.s ⟨#[]⟩,.n 0,.f false,.n 0,.s ⟨#[]⟩,.n 0,.n 0]
def Wu(i t s:Nat):List Tok:=[.n i,.n t,.n 1]++QaD s++[.n 0]
def Xy(i t s:Nat):ByteArray:=Xw (Wu i t s)
def Zm:Option Nat->Nat
 |none=>0
 |some v=>v+1
def XJ(t:Nat)(v:Option Nat):ByteArray:=str (num t)++str (num (Zm v))
structure Kp where
 t:Nat
 v:Option Nat
 n:Nat
 bi:Nat
 bt:Nat
 l:List En
def Kp.zero:Kp:=⟨0,none,0,0,0,[]⟩
def memT:Nat->Nat->List Tok
 |_,0=>[]
 |k,r+1=>.n k::memT (k+1) r
def Zw:Nat->List En->List Tok
 |_,[]=>[]
 |i,e::r=>.s (Xy (i+1) e.1 e.2)::Zw (i+1) r
def allT(k:Kp):List Tok:=[.n k.bi,.n k.bt,.n k.n]++memT 0 k.n++[.n k.l.length]++Zw k.bi k.l
def allB(k:Kp):ByteArray:=(str [3]++XJ k.t k.v)++Xw (allT k)
inductive Rc where
 |hard (t:Nat) (v:Option Nat)
 |ent (i t s:Nat)
 |whole (k:Kp)
def QR:Rc->ByteArray
 | .hard t v=>str [1]++XJ t v
 | .ent i t s=>str [2]++Xy i t s
 | .whole k=>allB k
def Qdk(k:Kp):Rc->Option Kp
 | .hard t v=>some {k with t:=t,v:=v}
 | .ent i t s=>if k.bi<i/\i<=k.bi+k.l.length+1 then some {k with l:=k.l.take (i - k.bi - 1)++[(t,s)]} else none
 | .whole k'=>some k'
def QbD:Kp->List Rc->Option Kp
 |k,[]=>some k
 |k,r::rs=>(Qdk k r).bind fun k'=>QbD k' rs
theorem readK_append: ∀(a b:List Rc) (k:Kp),QbD k (a++b)=(QbD k a).bind fun k'=>QbD k' b
 |[],b,k=>rfl
 |
  r::a,b,k=>by
  rw[List.cons_append,QbD,QbD]
  cases Qdk k r with
  |none=>rfl
  |some k'=>exact readK_append a b k'
def XV(acc:List Rc):List Rc->List Rc
 |[]=>acc
 | .whole k::r=>XV [.whole k] r
 | .hard t v::r=>XV (acc++[.hard t v]) r
 | .ent i t s::r=>XV (acc++[.ent i t s]) r
def WE(acc:List Rc):Rc->List Rc
 | .whole k=>[.whole k]
 |r=>acc++[r]
theorem Qar(acc:List Rc)(r:Rc)(D:List Rc):XV acc (r::D)=XV (WE acc r) D:=by
 cases r<;>rfl
theorem QiI: ∀(a:List Rc) (acc:List Rc) (r:Rc),XV acc (a++[r])=WE (XV acc a) r
 |[],acc,r=>by rw[List.nil_append,Qar];rfl
 |x::a,acc,r=>by rw[List.cons_append,Qar,Qar];exact QiI a _ r
structure Qcj(i:Nat)(e:En):Prop where
 i:1<=i/\i<=30000
 t:1<=e.1/\e.1<=30000
 s:e.2<=30000
def Xx:Option Nat->Prop
 |none=>True
 |some v=>v<5
structure ZY(k:Kp):Prop where
 t:k.t<=30000
 v:Xx k.v
 n:1<=k.n/\k.n<=5
 bi:1<=k.bi/\k.bi<=20000
 bt:1<=k.bt/\k.bt<=30000
 len:k.l.length<=10000
 l: ∀e∈k.l,1<=e.1/\e.1<=30000/\e.2<=30000
def Wp:Rc->Prop
 | .hard t v=>t<=30000/\Xx v
 | .ent i t s=>Qcj i (t,s)
 | .whole k=>ZY k
theorem W7{v:Nat}(h:v<=2000000):(num v).length <=3:=by
 have D:128^(2+1)=2097152:=by decide
 exact QhU (k:=2) (by rw[D];omega)
theorem QaP(v:Nat):(str (num v)).size =(num v).length :=by rw[Zq]
theorem Qfh(b:ByteArray):(txt b).size =(num b.size).length +b.size:=by
 unfold txt;rw[ByteArray.size_append,Zq]
theorem W9(s:Nat):(rS s).size <=1:=by unfold rS;split<;>decide
theorem WU(s:Nat):(cS s).size <=1:=by unfold cS;split<;>decide
def Qac:Tok->Nat
 | .n _=>3
 | .s b=>3+b.size
 | .f _=>1
def QbK:Tok->Prop
 | .n v=>v<=2000000
 | .s b=>b.size<=2000000
 | .f _=>True
theorem Qrw{t:Tok}(h:QbK t):(QbJ t).size <=Qac t:=by
 cases t with
 |n v=>show (str (num v)).size <=3;rw[QaP];exact W7 h
 |s b=>show (txt b).size <=3+b.size;rw[Qfh];have:=W7 h;omega
 |f b=>show (str [QfY b]).size <=1;rw[Zq];exact Zf 1
def WM(l:List Tok):Nat:=(l.map Qac).sum
theorem Qfe: ∀{l:List Tok},(∀t∈l,QbK t)->(Xw l).size <=WM l
 |[],_=>Zz _
 |
  t::r,h=>by
  have D:=Qrw (h t List.mem_cons_self)
  have E:=Qfe (l:=r) (fun x I=>h x (List.mem_cons_of_mem _ I))
  rw[Xw,ByteArray.size_append]
  show _<=((t::r).map Qac).sum
  rw[List.map_cons,List.sum_cons]
  exact Nat.add_le_add D E
theorem QlC{e:En}(h:Qcj i e): ∀t∈Wu i e.1 e.2,QbK t:=by
 have I:=h.i;have J:=h.t;have M:=h.s;have N:=W9 e.2;have O:=WU e.2;have Q:kN e.2<=1:=by unfold kN;split<;>omega
 have U:oN e.2<=2:=by unfold oN;split<;>omega
 have E:(⟨#[]⟩:ByteArray).size =0:=rfl;intro t D;simp only[Wu,QaD,QaU,List.cons_append,List.nil_append,List.mem_cons,List.not_mem_nil,or_false] at D;rcases D with rfl|rfl|rfl|rfl|rfl|rfl|rfl|rfl|rfl|rfl|rfl|rfl|rfl|rfl|rfl|rfl|rfl|rfl|rfl|rfl|rfl|rfl|rfl|rfl<;>simp only[QbK]<;>omega
theorem Qbl{e:En}(h:Qcj i e):(Xy i e.1 e.2).size <=80:=by
 have E:=Qfe (QlC h);have J:=W9 e.2;have M:=WU e.2;have D:(⟨#[]⟩:ByteArray).size =0:=rfl;have I:WM (Wu i e.1 e.2)<=80:=by
  simp only[WM,Wu,QaD,QaU,List.cons_append,List.nil_append,List.map_cons,List.map_nil,List.sum_cons,List.sum_nil,Qac,D];generalize (rS e.2).size =x at*
  generalize (cS e.2).size =y at*
  omega
 unfold Xy;exact Zt E I
theorem Qfj{v:Option Nat}(h:Xx v):Zm v<=5:=by
 cases v with
 |none=>exact Zz _
 |some x=>exact h
theorem Qbt{v:Option Nat}(h:t<=30000)(D:Xx v):(XJ t v).size <=6:=by
 unfold XJ;rw[ByteArray.size_append,QaP,QaP];have E:=W7 (v:=t) (by omega);have I:=W7 (v:=Zm v) (by have:=Qfj D;omega);omega
theorem QhM: ∀(r k:Nat),k+r<=5->(∀t∈memT k r,QbK t)/\WM (memT k r)=3*r
 |0,_,_=>⟨fun t h=>(by cases h),rfl⟩
 |
  r+1,k,h=>by
  obtain⟨E,I⟩:=QhM r (k+1) (by omega)
  refine⟨fun t D=> ?_,?_⟩
  ·rw[memT,List.mem_cons] at D
   rcases D with rfl|D
   ·show k<=2000000;omega
   ·exact E t D
  ·rw[memT]
   show (((Tok.n k)::memT (k+1) r).map Qac).sum =_
   rw[List.map_cons,List.sum_cons]
   have:((memT (k+1) r).map Qac).sum =3*r:=I
   rw[this]
   show 3+3*r=_
   omega
theorem Qgr: ∀(l:List En) (i:Nat),i+l.length<=30000->(∀e∈l,1<=e.1/\e.1<=30000/\e.2<=30000)->(∀t∈Zw i l,QbK t)/\WM (Zw i l)<=83*l.length
 |[],_,_,_=>⟨fun t h=>(by cases h),Zf _⟩
 |
  e::r,i,h,hl=>by
  rw[List.length_cons] at h
  obtain⟨N,E⟩:=Qgr r (i+1) (by omega) (fun x hx=>hl x (List.mem_cons_of_mem _ hx))
  obtain⟨I,J,M⟩:=hl e List.mem_cons_self
  have O:=Qbl (i:=i+1) (e:=e) ⟨⟨by omega,by omega⟩,⟨I,J⟩,M⟩
  refine⟨fun t D=> ?_,?_⟩
  ·rw[Zw,List.mem_cons] at D
   rcases D with rfl|D
   ·show (Xy (i+1) e.1 e.2).size <=2000000;omega
   ·exact N t D
  ·rw[Zw]
   show (((Tok.s (Xy (i+1) e.1 e.2))::Zw (i+1) r).map Qac).sum <=_
   rw[List.map_cons,List.sum_cons]
   have E:((Zw (i+1) r).map Qac).sum <=83*r.length:=E
   show 3+(Xy (i+1) e.1 e.2).size +_<=_
   rw[List.length_cons]
   omega
theorem Qct{k:Kp}(h:ZY k):(allB k).size <=100+83*k.l.length:=by
 unfold allB;rw[ByteArray.size_append,ByteArray.size_append,Zq];have O:=Qbt h.t h.v;obtain⟨J,M⟩:=QhM k.n 0 (by have:=h.n;omega);have Q:=h.bi;have U:=h.len;obtain⟨e1,N⟩:=Qgr k.l k.bi (by omega) h.l;have W:=h.n;have Y:=h.bt;have E:(Xw (allT k)).size <=WM (allT k):=Qfe (by
  intro t D;simp only[allT,List.cons_append,List.nil_append,List.append_assoc,List.mem_cons,List.mem_append] at D;rcases D with rfl|rfl|rfl|h|rfl|h
  ·show k.bi<=2000000;omega
  ·show k.bt<=2000000;omega
  ·show k.n<=2000000;omega
  ·exact J t h
  ·show k.l.length<=2000000;omega
  ·exact e1 t h)
 have I:WM (allT k)=12+WM (memT 0 k.n)+WM (Zw k.bi k.l):=by
  simp only[WM,allT,List.map_append,List.sum_append,List.map_cons,List.map_nil,List.sum_cons,List.sum_nil,Qac];omega
 rw[I,M] at E;simp only[List.length_singleton];omega
theorem QaW{r:Rc}(h:Wp r):1<=(QR r).size /\(QR r).size <=1000000:=by
 cases r with
 |
  hard t v=>
  have:=Qbt h.1 h.2;show 1<=(str [1]++XJ t v).size /\(str [1]++XJ t v).size <=1000000;rw[ByteArray.size_append,Zq];simp only[List.length_singleton];omega
 |
  ent i t s=>
  have:=Qbl (i:=i) (e:=(t,s)) h;show 1<=(str [2]++Xy i t s).size /\(str [2]++Xy i t s).size <=1000000;rw[ByteArray.size_append,Zq];simp only[List.length_singleton];have:(Xy i t s).size <=80:=this;omega
 |
  whole k=>
  have D:=Qct h;have E:=h.len;refine⟨?_,by show (allB k).size <=_;omega⟩;show 1<=(allB k).size;unfold allB;rw[ByteArray.size_append,ByteArray.size_append,Zq];simp only[List.length_singleton];omega
end
section
open Go.RowKit Go.Acre Go.Acre.Dk Go.WideShapes
def Fl.Wc(f:Fl):Fl:={f with syn:=f.bytes.size}
def Fl.more(f:Fl)(r:ByteArray):Fl:={f with recs:=f.recs++[r]}
def ZF(fs:List Fl):List Fl:=match fs.getLast? with|none=>[]|some f=>fs.dropLast++[f.Wc]
def Qbr(fs:List Fl):Bool:=match fs.getLast? with|none=>true|some f=>decide (4096<=f.bytes.size)
def XE(x:Nat)(fs:List Fl)(r:ByteArray):List Fl:=
 match fs.getLast? with
 |none=>[⟨x,[r],0⟩]
 |some f=>if 4096<=f.bytes.size then fs.dropLast++[f.Wc]++[⟨f.next,[r],0⟩] else fs.dropLast++[f.more r]
def Z2(z:Nat):List Fl->List Fl
 |f::g::r=>if g.first<=z then Z2 z (g::r) else f::g::r
 |l=>l
theorem Qbs(a:List Fl)(f:Fl):(a++[f]).getLast? =some f:=by simp
theorem WL(a:List Fl)(f:Fl):ZF (a++[f])=a++[f.Wc]:=by unfold ZF;rw[Qbs];simp
theorem QfM(x:Nat)(r:ByteArray):XE x [] r=[⟨x,[r],0⟩]:=rfl
theorem QdQ(x:Nat)(a:List Fl)(f:Fl)(r:ByteArray)(h:4096<=f.bytes.size):XE x (a++[f]) r=a++[f.Wc]++[⟨f.next,[r],0⟩]:=by unfold XE;rw[Qbs];simp[h]
theorem QdR(x:Nat)(a:List Fl)(f:Fl)(r:ByteArray)(h: ¬4096<=f.bytes.size):XE x (a++[f]) r=a++[f.more r]:=by unfold XE;rw[Qbs];simp[h]
theorem WI(D:List Fl):D=[]\/ ∃a f,D=a++[f]:=by
 rcases List.eq_nil_or_concat D with h|⟨a,f,h⟩
 ·exact .inl h
 ·exact .inr ⟨a,f,by rw[h,List.concat_eq_append]⟩
theorem Ws(x:Nat)(a:List Fl)(f:Fl):Qp x (a++[f])=f.next:=by rw[Qd6];rfl
theorem Qbf(a b:List Fl):Zg (a++b)=Zg a++Zg b:=List.flatMap_append
theorem QaB(f:Fl):Zg [f]=f.recs:=by simp[Zg]
def QdL(fs:List Fl):Prop:= ∀f∈fs.dropLast,f.syn=f.bytes.size
theorem WN.but{D:List Fl}(h:WN D):QdL D:=fun f E=>h f ((List.dropLast_sublist D).subset E)
theorem QeD(f:Fl)(r:ByteArray):(f.more r).bytes =f.bytes++XW r:=QgU _ _
theorem Qe7{E:List Fl}(h:KZ x E):KZ x (ZF E)/\Zg (ZF E)=Zg E/\Qp x (ZF E)=Qp x E:=by
 rcases WI E with rfl|⟨a,f,rfl⟩
 ·exact⟨h,rfl,rfl⟩
 ·rw[WL]
  have I:Qp x (a++[f.Wc])=Qp x (a++[f]):=by rw[Ws,Ws];rfl
  refine⟨⟨?_,h.first,fun e=>by simp at e,fun g D=> ?_,fun g D=> ?_,by rw[I];exact h.cap⟩,?_,I⟩
  ·have:=h.chain
   rw[WV] at this ⊢;exact this
  ·rcases List.mem_append.1 D with D|D
   ·exact h.recs g (List.mem_append_left _ D)
   ·rw[List.mem_singleton] at D
    subst D;exact h.recs f (by simp)
  ·rcases List.mem_append.1 D with D|D
   ·exact h.syn g (List.mem_append_left _ D)
   ·rw[List.mem_singleton] at D
    subst D;exact Zf _
  ·rw[Qbf,Qbf,QaB,QaB]
   rfl
theorem Qi1{E:List Fl}(h:QdL E):WN (ZF E):=by
 rcases WI E with rfl|⟨a,f,rfl⟩
 ·intro f I;cases I
 ·rw[WL]
  unfold QdL at h;rw[List.dropLast_concat] at h;intro g D;rcases List.mem_append.1 D with D|D
  ·exact h g D
  ·rw[List.mem_singleton] at D
   subst D;rfl
theorem QbU{I:List Fl}{r:ByteArray}(h:KZ x I)(N:r.size<=1000000)(M:Qp x I+1<=QV):KZ x (XE x I r)/\Zg (XE x I r)=Zg I++[r]/\Qp x (XE x I r)=Qp x I+1/\XE x I r≠[]:=by
 rcases WI I with rfl|⟨a,f,rfl⟩
 ·rw[QfM]
  have J:Qp x [⟨x,[r],0⟩]=Qp x []+1:=rfl;refine⟨⟨⟨rfl,by simp,trivial⟩,h.first,fun e=>by simp at e,fun g D=> ?_,fun g D=> ?_,by rw[J];exact M⟩,rfl,J,by simp⟩
  ·rw[List.mem_singleton] at D
   subst D;intro y E;rw[List.mem_singleton] at E;subst E;exact N
  ·rw[List.mem_singleton] at D
   subst D;exact Zz _
 ·have U:=h.chain
  rw[WV] at U;obtain⟨O,Q,W,_⟩:=U;by_cases hf:4096<=f.bytes.size
  ·rw[QdQ x a f r hf]
   have J:Qp x (a++[f.Wc]++[⟨f.next,[r],0⟩])=Qp x (a++[f])+1:=by rw[Ws,Ws];rfl
   refine⟨⟨?_,h.first,fun e=>by simp at e,fun g D=> ?_,fun g D=> ?_,by rw[J];exact M⟩,?_,J,by simp⟩
   ·rw[WV,WV,Ws]
    exact⟨⟨O,Q,W,trivial⟩,rfl,by simp,trivial⟩
   ·rw[List.mem_append,List.mem_append,List.mem_singleton,List.mem_singleton] at D
    rcases D with (D|rfl)|rfl
    ·exact h.recs g (List.mem_append_left _ D)
    ·exact h.recs f (by simp)
    ·intro y E
     rw[List.mem_singleton] at E;subst E;exact N
   ·rw[List.mem_append,List.mem_append,List.mem_singleton,List.mem_singleton] at D
    rcases D with (D|rfl)|rfl
    ·exact h.syn g (List.mem_append_left _ D)
    ·exact Zf _
    ·exact Zz _
   ·simp only[Qbf,QaB]
    rfl
  ·rw[QdR x a f r hf]
   have J:Qp x (a++[f.more r])=Qp x (a++[f])+1:=by
    rw[Ws,Ws];show f.first+(f.recs++[r]).length =f.first+f.recs.length+1;rw[List.length_append];rfl
   refine⟨⟨?_,h.first,fun e=>by simp at e,fun g D=> ?_,fun g D=> ?_,by rw[J];exact M⟩,?_,J,by simp⟩
   ·rw[WV]
    exact⟨O,Q,by show f.recs++[r]≠[];simp,trivial⟩
   ·rw[List.mem_append,List.mem_singleton] at D
    rcases D with D|rfl
    ·exact h.recs g (List.mem_append_left _ D)
    ·intro y E
     have E:y∈f.recs++[r]:=E;rw[List.mem_append,List.mem_singleton] at E;rcases E with E|rfl
     ·exact h.recs f (by simp) y E
     ·exact N
   ·rw[List.mem_append,List.mem_singleton] at D
    rcases D with D|rfl
    ·exact h.syn g (List.mem_append_left _ D)
    ·rw[QeD,ByteArray.size_append]
     have:=h.syn f (by simp);show f.syn<=_;omega
   ·rw[Qbf,Qbf,QaB,QaB,List.append_assoc]
    rfl
theorem appF_but{I:List Fl}{r:ByteArray}(h:QdL I):QdL (XE x I r):=by
 rcases WI I with rfl|⟨a,f,rfl⟩
 ·intro f D;simp[QfM] at D
 ·unfold QdL at h ⊢
  rw[List.dropLast_concat] at h;by_cases D:4096<=f.bytes.size
  ·rw[QdQ x a f r D,List.dropLast_concat]
   intro g E;rw[List.mem_append,List.mem_singleton] at E;rcases E with E|rfl
   ·exact h g E
   ·rfl
  ·rw[QdR x a f r D,List.dropLast_concat]
   exact h
theorem Qau(pre:ByteArray)(a:List Fl)(f:Fl):total (Qo pre (a++[f]))=total (Qo pre a)+f.bytes.size:=by
 rw[Qbk,Qdp];rfl
theorem Qfg(pre:ByteArray)(D:List Fl):total (Qo pre (ZF D))=total (Qo pre D):=by
 rcases WI D with rfl|⟨a,f,rfl⟩
 ·rfl
 ·rw[WL,Qau,Qau];rfl
theorem QeH(r:ByteArray):(frames [r]).size =r.size+8:=by
 rw[show frames [r]=XW r from WJ _,Ww]
theorem QrA(pre:ByteArray)(x:Nat)(D:List Fl)(r:ByteArray):total (Qo pre (XE x D r))=total (Qo pre D)+(r.size+8):=by
 rcases WI D with rfl|⟨a,f,rfl⟩
 ·rw[QfM]
  show total (Qo pre ([]++[_]))=_;rw[Qau];show _+(frames [r]).size =_;rw[QeH]
 ·by_cases hf:4096<=f.bytes.size
  ·rw[QdQ x a f r hf,Qau,Qau,Qau]
   show _+f.bytes.size+(frames [r]).size =_;rw[QeH]
  ·rw[QdR x a f r hf,Qau,Qau,QeD,ByteArray.size_append,Ww]
   omega
theorem Qgn: ∀(a:List Fl) (f:Fl) (z:Nat),(∀g∈a++[f],g.first<=z)->Z2 z (a++[f])=[f]
 |[],f,z,_=>rfl
 |
  [g],f,z,h=>by
  show (if f.first<=z then Z2 z [f] else _)=_
  rw[if_pos (h f (by simp))]
  rfl
 |
  g::D::a,f,z,h=>by
  show (if D.first<=z then Z2 z (D::(a++[f])) else _)=_
  rw[if_pos (h D (by simp))]
  exact Qgn (D::a) f z (fun y E=>h y (by rw[List.cons_append];exact List.mem_cons_of_mem _ E))
def Core.kp(c:Core):Kp:=⟨c.term,c.vote,c.n,c.bi,c.bt,c.l⟩
def Kp.saved(k:Kp)(t:Nat)(v:Option Nat)(x:Nat)(L:List En):Kp:={k with t:=t,v:=v,l:=if x=0 then k.l else k.l.take (x - k.bi - 1)++L}
def Kp.hrs(k:Kp)(t:Nat)(v:Option Nat):List Rc:=if t=k.t/\v=k.v then [] else [.hard t v]
theorem sinceR_flat: ∀(b a:List Rc),(∀r∈b,∀k,r≠ .whole k)->XV a b=a++b
 |[],a,_=>(List.append_nil a).symm
 |
  r::b,a,h=>by
  rw[Qar,sinceR_flat b _ (fun y D=>h y (List.mem_cons_of_mem _ D))]
  cases r with
  |whole k=>exact absurd rfl (h _ List.mem_cons_self k)
  |hard t v=>show (a++[_])++b=_;rw[List.append_assoc];rfl
  |ent i t s=>show (a++[_])++b=_;rw[List.append_assoc];rfl
theorem sinceR_append: ∀(a acc b:List Rc),XV acc (a++b)=XV (XV acc a) b
 |[],acc,b=>rfl
 |r::a,acc,b=>by rw[List.cons_append,Qar,Qar,sinceR_append a]
def Qcp:Rc->Prop
 | .ent i _ _=>i<=20000
 | .whole k=>k.bi+k.l.length<=20000
 | .hard _ _=>True
structure ZN(x:Nat)(fs:List Fl)(rs:List Rc)(k:Kp):Prop where
 fsok:KZ x fs
 recs:Zg fs=rs.map QR
 ok: ∀r∈rs,Wp r
 small: ∀r∈rs,Qcp r
 says:QbD Kp.zero (XV [] rs)=some k
theorem ZN.more{E:List Fl}{J:List Rc}{k:Kp}(h:ZN x E J k){r:Rc}(I:Wp r)(W:Qcp r)(Q: ∀k',r≠ .whole k')(O:Qp x E+1<=QV){k':Kp}(U:Qdk k r=some k'):ZN x (XE x E (QR r)) (J++[r]) k':=by
 obtain⟨M,N,Y,_⟩:=QbU h.fsok (QaW I).2 O;refine⟨M,by rw[N,h.recs,List.map_append];rfl,fun y D=> ?_,fun y D=> ?_,?_⟩
 ·rw[List.mem_append,List.mem_singleton] at D
  rcases D with D|rfl
  ·exact h.ok y D
  ·exact I
 ·rw[List.mem_append,List.mem_singleton] at D
  rcases D with D|rfl
  ·exact h.small y D
  ·exact W
 ·rw[sinceR_append,sinceR_flat [r] _ (fun y D=>by rw[List.mem_singleton] at D;subst D;exact Q),readK_append,h.says,Option.bind_some,QbD,U]
  rfl
theorem ZN.syn{D:List Fl}{E:List Rc}{k:Kp}(h:ZN x D E k):ZN x (ZF D) E k:=by
 obtain⟨I,J,_⟩:=Qe7 h.fsok;exact⟨I,by rw[J,h.recs],h.ok,h.small,h.says⟩
theorem ZN.whole{I:List Fl}{W:List Rc}{k:Kp}(h:ZN x I W k){k':Kp}(ah:ZY k')(ai:k'.bi+k'.l.length<=20000)(af:Qp x I+1<=QV):
  ∃f rs',Z2 (Qp x I) (ZF (XE x I (QR (.whole k'))))=[f]/\ZN f.first [f] rs' k'/\WN [f]/\Qp f.first [f]=Qp x I+1/\1<=f.first:=by
 have ac:Wp (.whole k'):=ah;obtain⟨J,Q,Z,ae⟩:=QbU h.fsok (QaW ac).2 af;rcases WI (XE x I (QR (.whole k'))) with e|⟨a,f,e⟩
 ·exact absurd e ae
 ·rw[e] at J Q Z
  have aa:=(ZR _ _ J.chain).2.1;have ab: ∀g∈a++[f],g.first<=Qp x I:=by
   intro g D;have:=aa g D;omega
  have ag: ∀g∈a++[f.Wc],g.first<=Qp x I:=by
   intro g D;rw[List.mem_append,List.mem_singleton] at D;rcases D with D|rfl
   ·exact ab g (List.mem_append_left _ D)
   ·exact ab f (by simp)
  have U:=J.chain;rw[WV] at U;have am:=aa f (by simp);have aj:=J.recs f (by simp);refine⟨f.Wc,?_⟩;rw[e,WL,Qgn _ _ _ ag];have ak: ∃u v,W++[Rc.whole k']=u++v/\f.recs=v.map QR:=by
   rw[Qbf,QaB,h.recs] at Q;have ad:(W++[Rc.whole k']).map QR=Zg a++f.recs:=by rw[List.map_append];exact Q.symm
   obtain⟨u,v,e1,O,N⟩:=List.map_eq_append_iff.1 ad;exact⟨u,v,e1,N.symm⟩
  obtain⟨u,v,e1,O⟩:=ak;have al:v≠[]:=by
   rintro rfl;exact U.2.2.1 (by rw[O];rfl)
  obtain⟨M,y,rfl⟩: ∃M y,v=M++[y]:=by
   rcases List.eq_nil_or_concat v with h|⟨M,y,h⟩
   ·exact absurd h al
   ·exact⟨M,y,by rw[h,List.concat_eq_append]⟩
  rw[<-List.append_assoc] at e1;obtain⟨N,Y⟩:=List.append_inj' e1 rfl;simp only[List.cons.injEq,and_true] at Y;subst Y;refine⟨M++[Rc.whole k'],rfl,⟨⟨⟨rfl,U.2.2.1,trivial⟩,?_,fun e=>(by cases e),fun g D=> ?_,fun g D=> ?_,?_⟩,?_,fun y E=> ?_,fun y E=> ?_,?_⟩,fun g D=> ?_,?_,?_⟩
  ·have:=J.first;show 1<=f.first;omega
  ·rw[List.mem_singleton] at D;subst D;exact aj
  ·rw[List.mem_singleton] at D;subst D;exact Zf _
  ·show f.next<=QV;have:=J.cap;omega
  ·rw[QaB];exact O
  ·rw[List.mem_append,List.mem_singleton] at E
   rcases E with E|rfl
   ·exact h.ok y (by rw[N];exact List.mem_append_right _ E)
   ·exact ac
  ·rw[List.mem_append,List.mem_singleton] at E
   rcases E with E|rfl
   ·exact h.small y (by rw[N];exact List.mem_append_right _ E)
   ·exact ai
  ·rw[QiI]
   rfl
  ·rw[List.mem_singleton] at D;subst D;rfl
  ·show f.next=_
   rw[<-Z,Ws]
  ·have:=J.first;show 1<=f.first;omega
theorem QbL(pre:ByteArray)(z:Nat): ∀fs:List Fl,total (Qo pre (Z2 z fs))<=total (Qo pre fs)
 |[]=>Zf _
 |[f]=>Zf _
 |
  f::g::r=>by
  rw[Z2]
  split
  ·have:=QbL pre z (g::r)
   have D:total (Qo pre (f::g::r))=f.bytes.size+total (Qo pre (g::r)):=total_cons _ _
   omega
  ·exact Zf _
theorem XO.saved(h:XO c c' o)(O:o.rest=none):c'.kp=c.kp.saved c'.term c'.vote o.frm (if o.frm=0 then [] else c'.l.drop (o.frm - c.bi - 1)):=by
 obtain⟨_,N,_,_,⟨_,J,D,E⟩|⟨_,b,t,D,_⟩⟩:=h
 ·unfold Core.kp Kp.saved
  rw[N,J,D]
  congr 1
  rcases E with ⟨E,I⟩|⟨E,I,Q,M⟩
  ·rw[if_pos E,I]
  ·have:o.frm≠0:=by omega
   rw[if_neg this,if_neg this];show c'.l=c.l.take _++_;rw[<-M,List.take_append_drop]
 ·rw[O] at D;cases D
theorem XO.restored(h:XO c c' o)(E:o.rest=some (b,t)):c'.kp=⟨c'.term,c'.vote,c.n,b,t,Q1 c.bi c.bt c.l b t⟩/\c.commit<b:=by
 obtain⟨_,O,_,_,⟨D,_⟩|⟨_,Q,t',D,I,J,M,N⟩⟩:=h
 ·rw[E] at D;cases D
 ·rw[E] at D
  cases D
  unfold Core.kp;rw[O,J,M,N];exact⟨rfl,I⟩
end
section
open Raft
theorem Qit: ∀(l:List En) (t:Nat),XP t l-> ∀(k:Nat) (D:k<l.length),XP l[k].1 (l.drop (k+1))
 |e::r,t,h,0,_=>h.2
 |e::r,t,h,k+1,D=>Qit r _ h.2 k (by simpa using D)
theorem QpS{l:List En}(h:XP bt l):XP t (Q1 bi bt l b t):=by
 unfold Q1;split
 ·rename_i ht
  unfold Qu at ht;split at ht
  ·rename_i e
   subst e;rw[Nat.sub_self,List.drop_zero];rw[<-Option.some.inj ht];exact h
  ·split at ht
   ·cases hg:l[b - bi - 1]? with
    |none=>rw[hg] at ht;cases ht
    |
     some x=>
     rw[hg] at ht;have I:x.1=t:=by simpa using ht
     obtain⟨E,D⟩:=List.getElem?_eq_some_iff.1 hg
     have:=Qit l bt h _ E;rw[D,I,show b - bi - 1+1=b - bi by omega] at this;exact this
   ·cases ht
 ·trivial
theorem Qko(D:Fit c)(Q:1<=bi/\bi<=19000)(M:1<=bt/\bt<=c.term)(ac:c.bi<=bi)(N:c.last<=19000):Fit ((c.XR frm).QaC bi bt):=by
 have aa:XP bt (Q1 c.bi c.bt c.l bi bt):=QpS D.rise;have hlen:bi+(Q1 c.bi c.bt c.l bi bt).length <=19000:=by
  unfold Q1;split
  ·rename_i E
   have:=QbI E;rw[List.length_drop];have:c.bi+c.l.length<=19000:=N;omega
  ·show bi+0<=_;omega
 have Y:YtbleblbfadeciaaGreatDoor.lastT bt (Q1 c.bi c.bt c.l bi bt)<=c.term:=by
  unfold Q1;split
  ·rename_i E
   have ad:=QbI E;rcases Qhs bt (c.l.drop (bi - c.bi)) with ⟨_,J⟩|⟨ab,J⟩
   ·rw[J];exact M.2
   ·rw[J]
    have Z:(c.l.drop (bi - c.bi))[(c.l.drop (bi - c.bi)).length - 1]∈c.l:=List.mem_of_mem_drop (List.getElem_mem _);obtain⟨k,U,W⟩:=List.getElem_of_mem Z;rw[<-W];have O: ∀(l:List En) (t:Nat),XP t l-> ∀e∈l,e.1<=YtbleblbfadeciaaGreatDoor.lastT t l:=by
     intro l;induction l with
     |nil=>intro t _ e I;cases I
     |
      cons a r ih=>
      intro t E e I;have N:YtbleblbfadeciaaGreatDoor.lastT t (a::r)=YtbleblbfadeciaaGreatDoor.lastT a.1 r:=by
       unfold YtbleblbfadeciaaGreatDoor.lastT
       cases r with
       |nil=>rfl
       |
        cons b r=>
        rw[List.getLast?_cons_cons]
        cases hz:(b::r).getLast? with
        |none=>simp at hz
        |some z=>rfl
      rw[N];rcases List.mem_cons.1 I with rfl|I
      ·exact Qaa r _ E.2
      ·exact ih _ E.2 e I
    exact Zt (O c.l c.bt D.rise _ (List.getElem_mem U)) D.term.1
  ·exact M.2
 refine⟨D.n,D.nl,D.ml,fun e=>(by cases e),Zz 2,D.elect,⟨Q.1,Zf _,Nat.le_add_right _ _,M.1⟩,aa,⟨Y,D.term.2⟩,⟨D.cap.1,?_,Zz _,D.cap.2.2.2.1,D.cap.2.2.2.2⟩⟩;show bi+(Q1 c.bi c.bt c.l bi bt).length <=20000;omega
theorem Qm.QqW{g:G}{B T:Nat}(h:Qm g i c B B)(ah:c.elect=4/\c.beat=1)(U:Cn T c){m:Mg}(I:Zn g frm i m)(O:Small B B m)(aj:Xt m.es)(aC:B<=1000)(aD:T<=1000):Qbd c frm m Ou.none:=by
 have Y:=I.QlY h.inv O (by omega) (by omega);obtain⟨af,ao,D⟩:=h.bump m.term O.term;have N:=I.mono ao.le;have E:=Qf1 U m.term;have M:(c.bump m.term).elect =4/\(c.bump m.term).beat =1:=by unfold Core.bump;split<;>exact ah
 have aE:=D.Zj;have W:=D.fit M (by omega) (by omega) (by have:=E.w;omega) (by have:=E.b;omega) (by have:=E.y;omega);have aa:m.term<=(c.bump m.term).term :=by
  unfold Core.bump;split
  ·exact Zf _
  ·show m.term<=c.term;omega
 refine⟨Y,⟨by rw[h.rel.n];exact I.2.2.2.1,fun e=>I.2.2.2.2.2.1 (by rw[e,h.rel.id])⟩,by have:=h.Zj;omega,by have:=U.y;omega,fun e al=> ?_,fun e h1 h2 h3=> ?_,fun e h1 h2 h3 ag k hk hke=> ?_⟩
 ·have ab:=Y.snap e
  have ag:=W.bi;exact Qko W ⟨ab.1,by have:=O.bi;omega⟩ ⟨ab.2.2.1,by omega⟩ (by omega) (by omega)
 ·obtain⟨aB,aH,ac,_⟩:=D.Qev N (.inl e) aa (o:=Ou.none) rfl rfl rfl
  have J:=(QhB (frm:=frm) (o:=Ou.none) E aj (QY.nil rfl)).1;have ai:((c.bump m.term).led frm m Ou.none).1.elect =4/\((c.bump m.term).led frm m Ou.none).1.beat =1:=by
   obtain⟨_,_,_,_,aI,aJ,ap,aq,_⟩:=D.Qev N (.inl e) aa (o:=Ou.none) rfl rfl rfl;exact⟨ap.trans M.1,aq.trans M.2⟩
  have aF:=ac.Zj;exact ac.fit ai (by omega) (by omega) (by have:=J.w;omega) (by have:=J.b;omega) (by have:=J.y;omega)
 ·obtain⟨w,L,Q,ar,au,ad,av,aw,ax⟩:=N.2.2.2.2.2.2.2.2.1 e
  obtain⟨ay,az,aA,ae⟩:=D.ZI;have an:m.term=(c.bump m.term).term :=by omega
  rw[an] at Q;have am:=D.inv.QbV ae Q (Zf _);have aG:(c.bump m.term).last =(af.full i).length :=by rw[D.rel.len];rfl
  have e1:=Z7 am (k:=(c.bump m.term).bi - 1) (by rw[List.length_take];omega);rw[Z8 (by omega),D.rel.bt] at e1;have Z:m.es[k]? =L[m.idx+k]? :=by
   rw[ad,List.getElem?_take,if_pos hk,List.getElem?_drop]
  rw[List.getElem?_eq_getElem hk] at Z;obtain⟨al,ak⟩:=List.getElem?_eq_some_iff.1 Z.symm
  rw[<-ak,<-ZU,e1,<-hke];rfl
theorem QqK(o:Ou)(hid:c.id<5):Xx (c.stand o).1.vote :=by
 unfold Core.stand;split
 ·exact hid
 ·exact hid
theorem Qrv(d:Nat)(o:Ou)(D:Xx c.vote)(hid:c.id<5):Xx (c.tick d o).1.vote :=by
 unfold Core.tick;split
 ·split
  ·exact D
  ·exact D
 ·split
  ·exact QqK o hid
  ·exact D
theorem QqU(frm:Nat)(m:Mg)(o:Ou)(I:Xx c.vote)(hid:c.id<5)(E:frm<5):Xx (c.step frm m o).1.vote :=by
 have D:Xx (c.bump m.term).vote :=by
  unfold Core.bump;split
  ·trivial
  ·exact I
 unfold Core.step;split
 ·show Xx (if _ then _ else _:Core).vote
  split
  ·exact E
  ·exact D
 ·split
  ·unfold Core.Zb
   split
   ·split
    ·exact D
    ·exact D
   ·exact D
  ·split
   ·unfold Core.appended
    split
    ·exact D
    ·simp only
     split
     ·exact D
     ·split
      ·exact D
      ·exact D
   ·unfold Core.led
    split
    ·exact D
    ·split
     ·exact D
     ·split
      ·split
       ·exact D
       ·exact D
      ·simp only
       split
       ·exact D
       ·split
        ·exact D
        ·exact D
structure Zd where
 frm:Nat
 dest:Nat
 m:Mg
structure QaA(g:G)(T:Nat)(x:Zd):Prop where
 ok:Zn g x.frm x.dest x.m
 small:Small (T+1) (T+1) x.m
 es:Xt x.m.es
theorem QaA.mono{g g':G}{T:Nat}{x:Zd}(h:QaA g T x)(D:Le g g')(E:T<=na):QaA g' na x:=⟨h.ok.mono D,h.small.mono (by omega) (by omega),h.es⟩
structure HP(g:G)(n:Nat)(cs:Nat->Core)(us:List Zd)(ld dn:Nat->Nat)(T:Nat):Prop where
 gn:g.n=n
 n5:1<=n/\n<=5
 sim: ∀i,i<n->Qm g i (cs i) (T+1) (T+1)
 cn: ∀i,i<n->Cn T (cs i)
 el: ∀i,i<n->((cs i).elect =4/\(cs i).beat =1)/\Xx (cs i).vote
 ldo:Wm g ld
 dno:Wi g dn
 uso: ∀x∈us,QaA g T x
theorem HP.id{g:G}{D:Nat->Core}{us:List Zd}{T:Nat}(h:HP g n D us fa fb T)(E:i<n):(D i).id =i/\(D i).n =n/\i<5:=⟨(h.sim i E).rel.id,by rw[(h.sim i E).rel.n,h.gn],by have:=h.n5;omega⟩
theorem HP.fit{g:G}{I:Nat->Core}{us:List Zd}{T:Nat}(h:HP g n I us fa fb T)(J:T<=900)(E:i<n):Fit (I i):=by
 have D:=h.cn i E;exact (h.sim i E).fit (h.el i E).1 (by omega) (by omega) (by have:=D.w;omega) (by have:=D.b;omega) (by have:=D.y;omega)
theorem HP.move{g g':G}{J:Nat->Core}{us:List Zd}{T:Nat}(h:HP g n J us fa fb T)(M:T<=na)(E:Mv g g' i)(I:Qm g' i c' (na+1) (na+1))(O:Cn na c')(Q:(c'.elect=4/\c'.beat=1)/\Xx c'.vote):HP g' n (upd J i c') us fa fb na:=by
 refine⟨by rw[E.le.n,h.gn],h.n5,fun j D=> ?_,fun j D=> ?_,fun j D=> ?_,h.ldo.mono E.le,h.dno.mono E.le,fun x hx=>(h.uso x hx).mono E.le M⟩
 ·by_cases e:j=i
  ·subst e
   rw[upd_same];exact I
  ·rw[upd_ne _ _ e]
   have N:=h.sim j D;exact⟨I.inv,I.bnd,N.rel.other E e,N.nx,by rw[E.le.n,h.gn];exact D⟩
 ·by_cases e:j=i
  ·subst e;rw[upd_same];exact O
  ·rw[upd_ne _ _ e];exact (h.cn j D).mono M
 ·by_cases e:j=i
  ·subst e;rw[upd_same];exact Q
  ·rw[upd_ne _ _ e];exact h.el j D
structure Wl(g:G)(n:Nat)(cs:Nat->Core)(us:List Zd)(ld dn:Nat->Nat)(T i:Nat)(c0:Core)(o:Ou):Prop where
 hp:HP g n cs us ld dn T
 hi:i<n
 out:XO c0 (cs i) o
 snd: ∀x∈o.sends,QaA g T ⟨i,x.1,(cs i).fix x.2⟩
theorem XO.el(h:XO c c' o)(D:c.elect=4/\c.beat=1):c'.elect=4/\c'.beat=1:=⟨h.2.2.1.trans D.1,h.2.2.2.1.trans D.2⟩
theorem QeC{g g':G}{D:Nat->Core}{us:List Zd}{T:Nat}(h:HP g n D us fa fb T)(I:i<n)(Y:Mv g g' i)(M:Qm g' i c' (T+1+1) (T+1+1))(U:Cn (T+1) c')(Z:Xx c'.vote)(J:XO (D i) c' o)
  (N:QO g' i c' o) (O:Xu (T+1+1) (T+1+1) o) (Q:QY o):Wl g' n (upd D i c') us fa fb (T+1) i (D i) o:=by
 have W:=M.Zj;refine⟨h.move (Nat.le_succ T) Y M U ⟨J.el (h.el i I).1,Z⟩,I,by rw[upd_same];exact J,fun x E=> ?_⟩;rw[upd_same];refine⟨N x E,Ql2 (O x E) W.2.2.2.2,?_⟩;have:(c'.fix x.2).es =x.2.es:=by unfold Core.fix;split<;>rfl
 show Xt (c'.fix x.2).es;rw[this];exact Q x E
theorem HP.tick{g:G}{D:Nat->Core}{us:List Zd}{T:Nat}(h:HP g n D us fa fb T)(E:i<n)(d:Nat): ∃g',Wl g' n (upd D i ((D i).tick d Ou.none).1) us fa fb (T+1) i (D i) ((D i).tick d Ou.none).2:=by
 obtain⟨g',N,J,M⟩:=(h.sim i E).Qrs d (o:=Ou.none) rfl;obtain⟨O,Q,U⟩:=h.id E;have I:=Qrp (d:=d) (o:=Ou.none) (h.cn i E) (QY.nil rfl);exact⟨g',QeC h E N J I.1 (Qrv d _ (h.el i E).2 (by omega)) (Qrt rfl rfl) M (J.Qru rfl) I.2⟩
theorem HP.step{g:G}{D:Nat->Core}{us:List Zd}{T:Nat}(h:HP g n D us fa fb T)(Z:T<=900){x:Zd}(Y:x∈us):x.dest<n/\Qbd (D x.dest) x.frm x.m Ou.none/\ ∃g',Wl g' n (upd D x.dest ((D x.dest).step x.frm x.m Ou.none).1) us fa fb (T+1) x.dest (D x.dest) ((D x.dest).step x.frm x.m Ou.none).2:=by
 have E:=h.uso x Y;have I:x.dest<n:=by rw[<-h.gn];exact E.ok.2.2.2.2.1
 have ab:x.frm<n:=by rw[<-h.gn];exact E.ok.2.2.2.1
 have J:=h.sim x.dest I;have aa:=h.n5;obtain⟨g',U,W,O,Q⟩:=J.step_ok E.ok E.small.term (o:=Ou.none) rfl rfl rfl;obtain⟨ad,ae,af⟩:=h.id I;have M:=QqP (frm:=x.frm) (o:=Ou.none) (h.cn _ I) E.es (QY.nil rfl);have ac:=J.Zj;have N:=W.mono (Nat.le_succ (T+1)) (Zf (T+1+1));refine⟨I,J.QqW (h.el _ I).1 (h.cn _ I) E.ok E.small E.es (by omega) (by omega),g',QeC h I U N M.1 (QqU _ _ _ (h.el _ I).2 (by omega) (by omega)) Q O (N.QqT (E.small.mono (by omega) (by omega)) ?_ rfl) M.2⟩;have:(D x.dest).bi +(D x.dest).l.length =(D x.dest).last :=rfl;omega
theorem HP.QoK{g:G}{D:Nat->Core}{us:List Zd}{T:Nat}(h:HP g n D us fa fb T)(I:i<n)(M:(D i).role =2)(Y:s<=1000): ∃g',Wl g' n (upd D i ((D i).QbA s)) us fa fb (T+1) i (D i) (QbB (D i) s):=by
 obtain⟨g',U,W,O,Q⟩:=(h.sim i I).QeU M s (o:=Ou.none) rfl rfl;have J:=Qie (o:=Ou.none) (h.cn i I) Y (QY.nil rfl);have N:=W.mono (Nat.le_succ (T+1)) (Zf (T+1+1));have Z:=N.QpE M rfl;exact⟨g',QeC h I U N (J.1.mono (Nat.le_succ _)) (h.el i I).2 Q (fun x E=>O x E) (fun x E=>Z x E) (fun x E=>J.2 x E)⟩
theorem HP.Qa2{g:G}{D:Nat->Core}{us:List Zd}{T:Nat}(h:HP g n D us fa fb T)(E:i<n): ∃g',HP g' n (upd D i (D i).anew) us fa fb T:=by
 obtain⟨g',I,J⟩:=(h.sim i E).QpP;exact⟨g',h.move (Zf _) I J (Qj8 (h.cn i E)) (h.el i E)⟩
theorem HP.compact{g:G}{D:Nat->Core}{us:List Zd}{T:Nat}(h:HP g n D us fa fb T)(E:i<n): ∃g',HP g' n (upd D i ((D i).compacted (D i).commit)) us fa fb T:=by
 obtain⟨N,I,O,_⟩:=(h.sim i E).ZI;obtain⟨g',J,M⟩:=(h.sim i E).Qk2 I (Zf _);exact⟨g',h.move (Zf _) J M (Qga (h.cn i E) _) (h.el i E)⟩
theorem HP.mono{g:G}{E:Nat->Core}{us:List Zd}{T:Nat}(h:HP g n E us fa fb T)(I:T<=na):HP g n E us fa fb na:=
 ⟨h.gn,h.n5,fun i D=>(h.sim i D).mono (by omega) (by omega),fun i D=>(h.cn i D).mono I,h.el,h.ldo,h.dno,fun x hx=>(h.uso x hx).mono (Le.refl g) I⟩
theorem HP.begin(D:1<=n/\n<=5):HP (G0 n) n (Core.first n) [] (fun _=>0) (fun _=>0) 0:=
 ⟨rfl,D,fun i E=>Qju E D.2,fun i _=>⟨Zf _,Zf _,Zf _,Xt.nil⟩,fun i _=>⟨⟨rfl,rfl⟩,trivial⟩,fun t ht=>absurd rfl ht,fun t ht=>absurd rfl ht,fun x hx=>by cases hx⟩
end
end Go.Proofs.YtbleblbfadeciaaGreatDoor
