/- For TopKept. -/
import Derived.Test.YtbleblbfadeciaaGreatDoorVa
import Derived.Lib.ParseIntB
import Derived.Lib.ItoaNum
import Derived.Lib.AsciiSet
set_option linter.all false
set_option maxHeartbeats 16000000
set_option maxRecDepth 10000
namespace Go.Proofs.YtbleblbfadeciaaGreatDoor
variable{pre:ByteArray}{x:Nat}
section
open Go.RowKit Go.Acre Go.Acre.Dk Go.WideShapes
structure Fl where
 first:Nat
 recs:List ByteArray
 syn:Nat
def Fl.bytes(f:Fl):ByteArray:=frames f.recs
def Fl.next(f:Fl):Nat:=f.first+f.recs.length
def Zv(pre:ByteArray)(f:Fl):Xj:=⟨QJ pre f.first,f.bytes,f.syn⟩
def Qo(pre:ByteArray)(fs:List Fl):QT:=fs.map (Zv pre)
def XY:Nat->List Fl->Prop
 |_,[]=>True
 |x,f::r=>f.first=x/\f.recs≠[]/\XY f.next r
def Qp:Nat->List Fl->Nat
 |x,[]=>x
 |_,f::r=>Qp f.next r
def Zg(fs:List Fl):List ByteArray:=fs.flatMap (·.recs)
theorem WV: ∀(a b:List Fl) (x:Nat),XY x (a++b)↔XY x a/\XY (Qp x a) b
 |[],b,x=>by simp[XY,Qp]
 |f::a,b,x=>by simp only[List.cons_append,XY,Qp,WV a b,and_assoc]
theorem Qd6: ∀(a b:List Fl) (x:Nat),Qp x (a++b)=Qp (Qp x a) b
 |[],b,x=>rfl
 |f::a,b,x=>by simp only[List.cons_append,Qp,Qd6 a b]
theorem Qgp: ∀(D:List Fl) (x:Nat),XY x D->Qp x D=x+(Zg D).length
 |[],x,_=>rfl
 |
  f::r,x,h=>by
  have e:Zg (f::r)=f.recs++Zg r:=List.flatMap_cons
  rw[Qp,Qgp r _ h.2.2,e,List.length_append,Fl.next,h.1]
  omega
theorem ZR: ∀(D:List Fl) (x:Nat),XY x D->x<=Qp x D/\(∀f∈D,x<=f.first/\f.next<=Qp x D/\f.first<f.next)/\D.Pairwise fun f g=>f.first<g.first
 |[],x,_=>⟨Zf _,fun f h=>(by cases h),List.Pairwise.nil⟩
 |
  f::r,x,h=>by
  obtain⟨Q,M,N⟩:=h
  obtain⟨O,I,J⟩:=ZR r _ N
  have U:0<f.recs.length:=List.length_pos_iff.2 M
  have W:f.next=f.first+f.recs.length:=rfl
  refine⟨by rw[Qp];omega,fun g E=> ?_,List.pairwise_cons.2 ⟨fun g E=> ?_,J⟩⟩
  ·rw[Qp]
   rcases List.mem_cons.1 E with rfl|E
   ·omega
   ·have:=I g E;omega
  ·have:=I g E;omega
def QV:Nat:=500000
structure KZ(x:Nat)(fs:List Fl):Prop where
 chain:XY x fs
 first:1<=x
 bare:fs=[]->x=1
 recs: ∀f∈fs,∀r∈f.recs,r.size<=1000000
 syn: ∀f∈fs,f.syn<=f.bytes.size
 cap:Qp x fs<=QV
theorem QcC{D:List Fl}(h:XY x D)(J:Qp x D<=QV):QQ Dk.En (Qo pre D):=by
 obtain⟨_,E,I⟩:=ZR D x h;unfold QQ Qo;rw[List.pairwise_map];refine I.imp_of_mem ?_
 intro f g O M N;have:=E g M;unfold QV at J;exact Qc1 (by omega) N
theorem Qbk(pre:ByteArray)(a b:List Fl):Qo pre (a++b)=Qo pre a++Qo pre b:=List.map_append
theorem QcB{D:List Fl}(h:XY x D)(E:Qp x D<=QV){f:Fl}(I:f∈D):get Dk.En (Qo pre D) (QJ pre f.first)=some (Zv pre f):=
 QbY Dk.En (QcC (pre:=pre) h E) (x:=Zv pre f) (List.mem_map_of_mem I)
theorem Qlv{D:List Fl}(h:XY x D){y:Nat}(N:Qp x D<=y)(I:y<=QV):get Dk.En (Qo pre D) (QJ pre y)=none:=by
 refine QgW Dk.En fun e J=> ?_
 obtain⟨f,M,rfl⟩:=List.mem_map.1 J;have:=(ZR D x h).2.1 f M;unfold QV at I;intro E;have:=QnQ (by omega) (by omega) E;omega
theorem Qly{a:List Fl}{f:Fl}(h:XY x (a++[f]))(D:Qp x (a++[f])<=QV):Wb (Qo pre (a++[f])) (QJ pre f.first)=(Qo pre (a++[{f with syn:=f.bytes.size}]),0):=by
 have I:=QcB (pre:=pre) h D (f:=f) (by simp);have E:=QcC (pre:=pre) h D;unfold Wb;rw[I];simp only;rw[Qbk] at E ⊢;rw[show (⟨QJ pre f.first,(Zv pre f).bytes,(Zv pre f).bytes.size⟩:Xj)=Zv pre {f with syn:=f.bytes.size} from rfl];have:=Qc8 Dk.En (x:=Zv pre {f with syn:=f.bytes.size}) (l1:=Qo pre a) (l2:=[]) (y:=Zv pre f) E rfl;rw[show Qo pre [f]=Zv pre f::[] from rfl,this,Qbk];rfl
theorem QmD{D:Xj->ByteArray}{x:Xj}{l:QT}(h: ∀z∈l,bf (D z) (D x)=true):ins D x l=l++[x]:=by
 have:=Qg4 D (l1:=l) (l2:=[]) (x:=x) h (fun z E=>by cases E)
 rwa [List.append_nil] at this
theorem Qlw{room:Nat}{a:List Fl}{f:Fl}(h:XY x (a++[f]))(D:Qp x (a++[f])<=QV){r:ByteArray}(J:1<=pre.size/\pre.size<=40)(M:r.size+8+total (Qo pre (a++[f]))<=room):
  WS room (Qo pre (a++[f])) (QJ pre f.first) (XW r)=(Qo pre (a++[{f with recs:=f.recs++[r]}]),0):=by
 have I:=QcB (pre:=pre) h D (f:=f) (by simp);have E:=QcC (pre:=pre) h D;unfold WS;rw[if_pos (by unfold Zp;rw[W6];simp;omega),if_pos (by rw[Ww];omega),I];simp only;rw[Qbk] at E ⊢;rw[show (⟨QJ pre f.first,(Zv pre f).bytes ++XW r,(Zv pre f).synced⟩:Xj)=Zv pre {f with recs:=f.recs++[r]} by
  show _=(⟨QJ pre f.first,frames (f.recs++[r]),f.syn⟩:Xj)
  rw[QgU];rfl]
 have:=Qc8 Dk.En (x:=Zv pre {f with recs:=f.recs++[r]}) (l1:=Qo pre a) (l2:=[]) (y:=Zv pre f) E rfl;rw[show Qo pre [f]=Zv pre f::[] from rfl,this,Qbk];rfl
theorem Qlt{room:Nat}{D:List Fl}(h:XY x D)(E:Qp x D<=QV){r:ByteArray}(O:1<=pre.size/\pre.size<=40)(Q:r.size+8+total (Qo pre D)<=room):
  WS room (Qo pre D) (QJ pre (Qp x D)) (XW r)=(Qo pre (D++[⟨Qp x D,[r],0⟩]),0):=by
 have I:=Qlv (pre:=pre) h (y:=Qp x D) (Zf _) E;unfold WS;rw[if_pos (by unfold Zp;rw[W6];simp;omega),if_pos (by rw[Ww];omega),I];simp only;have J:=(ZR D x h).2.1;unfold put;rw[QcA Dk.En I,QmD (fun z N=>by
  obtain⟨f,M,rfl⟩:=List.mem_map.1 N;have:=J f M;unfold QV at E;exact Qc1 (by omega) (by omega)),Qbk]
 congr 2
 show [_]=[Zv pre _]
 congr 1
 show _=(⟨QJ pre (Qp x D),frames [r],0⟩:Xj)
 rw[show frames [r]=XW r from WJ _]
theorem Qlx{D:List Fl}{f:Fl}(h:XY x (f::D))(E:Qp x (f::D)<=QV):KR (Qo pre (f::D)) (QJ pre f.first)=(Qo pre D,0):=by
 have I:=QcB (pre:=pre) h E (f:=f) (by simp);have J:=QcC (pre:=pre) h E;unfold KR;rw[I];simp only;have:=Qd5 Dk.En (l1:=[]) (l2:=Qo pre D) (y:=Zv pre f) J;rw[List.nil_append,List.nil_append] at this;rw[<-this];rfl
theorem Qlu{k:ByteArray}{I:List Fl}(D:k.size≠pre.size+16):get Dk.En (Qo pre I) k=none:=by
 refine QgW Dk.En fun e J=> ?_
 obtain⟨f,M,rfl⟩:=List.mem_map.1 J;intro E;rw[<-E] at D;exact D (W6 pre f.first)
theorem Qlz{k:ByteArray}{D:List Fl}(E:k.size≠pre.size+16):KR (Qo pre D) k=(Qo pre D,5):=by
 unfold KR;rw[Qlu E]
theorem Qls{D:List Fl}:ZK (Qo pre D) pre=D.map fun f=>QJ pre f.first:=by
 unfold ZK Qo;rw[List.map_map,List.filter_eq_self.2]
 ·rfl
 ·intro s E
  obtain⟨f,_,rfl⟩:=List.mem_map.1 E;exact QnR pre f.first
def WN(fs:List Fl):Prop:= ∀f∈fs,f.syn=f.bytes.size
theorem QmS(z:Int):K6 z 0=0:=by
 have:=Qg6 z 0;omega
theorem Qlr{D:List Fl}(h:WN D)(zs:List Int):Qal (Qo pre D) zs=Qo pre D:=by
 unfold Qal;refine List.ext_getElem? fun i=> ?_
 rw[List.getElem?_mapIdx]
 cases hi:(Qo pre D)[i]? with
 |none=>rfl
 |
  some e=>
  obtain⟨f,I,rfl⟩:=List.mem_map.1 (List.mem_of_getElem? hi);have E:=h f I;rw[Option.map_some]
  congr 1
  unfold QaE Zv;have: ∀n,n=0->(⟨QJ pre f.first,f.bytes.extract 0 (f.syn+n),f.syn+n⟩:Xj)=⟨QJ pre f.first,f.bytes,f.syn⟩:=by
   rintro _ rfl;rw[Nat.add_zero,E,ByteArray.extract_zero_size]
  refine this _ ?_
  split
  ·show K6 _ (f.bytes.size - f.syn)=0
   rw[E,Nat.sub_self];exact QmS _
  ·rfl
end
section
open Go.RowKit Go.Acre Go.Lib
theorem Qgl: ∀k,XF k 0=List.replicate k 48
 |0=>rfl
 |
  k+1=>by
  rw[XF,Nat.zero_div,Qgl k,List.replicate_succ']
  rfl
theorem Qd3: ∀(k x:Nat),x<10^k->0<k->List.replicate (k - nDigits x) 48++decDigits x=XF k x/\nDigits x<=k
 |0,x,_,h=>absurd h (by omega)
 |
  k+1,x,hx,_=>by
  rw[Nat.pow_succ] at hx
  by_cases h:x<10
  ·rw[nDigits_small h,decDigits,dif_pos h,XF,show x/10=0 by omega,Qgl,show x%10=x by omega]
   exact⟨rfl,by omega⟩
  ·have D:0<k:=by
    rcases Nat.eq_zero_or_pos k with rfl|D
    ·simp at hx;omega
    ·exact D
   obtain⟨E,I⟩:=Qd3 k (x/10) (by omega) D;rw[nDigits,dif_neg h,decDigits,dif_neg h,XF,<-E,List.append_assoc];refine⟨?_,by omega⟩;rw[show k+1 - (nDigits (x/10)+1)=k - nDigits (x/10) by omega]
theorem Qh8{D u:Nat}{c:UInt8}(E:48<=c.toNat/\c.toNat<=57)(J:u<1844674407370955162)(I:u*10+(c.toNat - 48)<=D): ∀(l:List UInt8) (acc:Nat),parseUintM D acc l= .ok u->parseUintM D acc (l++[c])= .ok (u*10+(c.toNat - 48))
 |
  [],acc,h=>by
  rw[parseUintM] at h
  cases h
  rw[List.nil_append,parseUintM,if_pos E,if_neg (by omega),if_neg (by omega),parseUintM]
 |
  d::l,acc,h=>by
  rw[parseUintM] at h
  rw[List.cons_append,parseUintM]
  split at h
  ·rename_i h1
   rw[if_pos h1]
   split at h
   ·cases h
   ·rename_i h2
    rw[if_neg h2]
    split at h
    ·cases h
    ·rename_i h3
     rw[if_neg h3]
     exact Qh8 E J I l _ h
  ·cases h
theorem Qh7(D:Nat): ∀(k x:Nat),x<10^k->x<=D->x<=10000000000000000->parseUintM D 0 (XF k x)= .ok x
 |
  0,x,h,_,_=>by
  simp at h
  subst h
  rfl
 |
  k+1,x,h,hM,hb=>by
  rw[Nat.pow_succ] at h
  have ih:=Qh7 D k (x/10) (by omega) (by omega) (by omega)
  have E:(UInt8.ofNat (48+x%10)).toNat =48+x%10:=by rw[UInt8.toNat_ofNat'];omega
  have:=Qh8 (c:=UInt8.ofNat (48+x%10)) (by rw[E];omega) (by omega) (by rw[E];omega) _ _ ih
  rw[E] at this
  rw[XF,this]
  congr 1
  omega
theorem Qot(h:x<=1000000000):parseUintB 64 (XF 16 x)= .ok x:=by
 unfold parseUintB;rw[if_neg (by intro e;have:=Qbj 16 x;rw[e] at this;cases this)];exact Qh7 _ 16 x (by omega) (by omega) (by omega)
def ten:List UInt8:=[48,49,50,51,52,53,54,55,56,57]
theorem Qrl{c:UInt8}(h:48<=c.toNat/\c.toNat<58):ten.contains c=true:=by
 have D:c=UInt8.ofNat c.toNat:=by simp
 rw[D];obtain⟨E,I⟩:=h;generalize c.toNat=n at*
 have:n=48\/n=49\/n=50\/n=51\/n=52\/n=53\/n=54\/n=55\/n=56\/n=57:=by omega
 rcases this with rfl|rfl|rfl|rfl|rfl|rfl|rfl|rfl|rfl|rfl<;>rfl
end
end Go.Proofs.YtbleblbfadeciaaGreatDoor
