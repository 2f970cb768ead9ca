/- For TopKept. -/
import Derived.Test.YtbleblbfadeciaaGreatDoorL
import Derived.Test.YtbleblbfadeciaaGreatDoorT1
import Derived.Test.YtbleblbfadeciaaGreatDoorDa
import Derived.Test.YtbleblbfadeciaaGreatDoorRows
import Derived.Test.YtbleblbfadeciaaGreatDoorPa
set_option linter.all false
set_option maxHeartbeats 16000000
set_option maxRecDepth 10000
namespace Go.Proofs.YtbleblbfadeciaaGreatDoor
variable{pre:ByteArray}{bs:List ByteArray}{vs:List Value}{a b d g i k n x:Nat}{S:Nat->Prop}{P:Program}{v:Value}{w w':World}
section
open Go.RowKit Go.Acre
def Q0(w:World)(e:TypeId)(size:Nat)(v:Value)(n:Nat)(xs:List Value):Prop:=
 xs.length=n*size/\((v= .slice none 0 0/\n=0)\/ ∃g o cap cur,v= .slice (some ⟨g,o,none⟩) n cap/\w.heap[g]? =some (.cells cur e (0,0))/\n<=cap/\cap<=maxLen/\o+cap*size<=cur.size/\(cur.toList.drop o).take (n*size)=xs)
theorem Q0.nil(w:World)(e:TypeId)(size:Nat):Q0 w e size (.slice none 0 0) 0 []:=⟨by simp,.inl ⟨rfl,rfl⟩⟩
theorem Q0.Q7{base:Nat}{e:TypeId}{size:Nat}(h:w.ownsRow base e size v n vs):Q0 w e size v n vs:=by
 refine⟨h.1,?_⟩;rcases h.2 with ⟨D,E⟩|⟨g,cap,cur,D,E,I,J,M,O,N⟩
 ·exact .inl ⟨D,E⟩
 ·exact .inr ⟨g,0,cap,cur,D,I,J,M,by omega,by rw[List.drop_zero];exact N⟩
theorem Q0.upd{e:TypeId}{size:Nat}(h:Q0 w e size v n vs)(N:Qa S w w')(M: ∀g,v.ownBlock=some g-> ¬S g):Q0 w' e size v n vs:=by
 refine⟨h.1,?_⟩;rcases h.2 with ⟨D,E⟩|⟨g,o,cap,cur,D,I,J⟩
 ·exact .inl ⟨D,E⟩
 ·exact .inr ⟨g,o,cap,cur,D,N.keep I (M g (by rw[D];rfl)),J⟩
theorem Q0.slice{e:TypeId}{size:Nat}(h:Q0 w e size v n vs): ∃a cap,v= .slice a n cap:=by
 rcases h.2 with ⟨rfl,rfl⟩|⟨g,o,cap,cur,rfl,_⟩
 ·exact⟨_,_,rfl⟩
 ·exact⟨_,_,rfl⟩
theorem Q0.lt{e:TypeId}{size:Nat}(h:Q0 w e size v n vs)(g:Nat)(D:v.ownBlock=some g):g<w.heap.size:=by
 rcases h.2 with ⟨rfl,rfl⟩|⟨g',o,cap,cur,rfl,E,_⟩
 ·cases D
 ·cases D;exact Ql E
theorem Q0.at{w:World}{e:TypeId}{size:Nat}{v:Value}{n:Nat}{E:List Value}(h:Q0 w e size v n E)(N:n≠0):
  ∃g o cap cur,v= .slice (some ⟨g,o,none⟩) n cap/\v.ownBlock=some g/\w.heap[g]? =some (.cells cur e (0,0))/\n<=cap/\ ∀j u,E[j]? =some u->cur[o+j]? =some u:=by
 rcases h.2 with ⟨rfl,rfl⟩|⟨g,o,cap,cur,rfl,I,J,O,Q,M⟩
 ·exact absurd rfl N
 ·refine⟨g,o,cap,cur,rfl,rfl,I,J,fun j u D=> ?_⟩
  rw[<-M,List.getElem?_take] at D;split at D
  ·rw[List.getElem?_drop] at D
   simpa using D
  ·cases D
theorem Q0.append(t ty e:TypeId)(i:TypeInfo)(z:Value)(size bytes:Nat)(U:P.underlying t=some (.slice e))(O:P.info? e=some i)(aa:i.zero=some z)
  (am:i.size=size) (af:i.bytes=bytes) (ap:z.cells.size=size) (h:Q0 w e size v n vs)
  (a:Addr) (m c:Nat) (news:List Value) (D:news.length=m*size) (Q: ∀j u,news[j]? =some u->w.cell? (a.add j)=some u) (ab: ∀u∈news,u.oneCell'=true) (au:0<m) (ax:0<size)
  (ae:n+m<=1000000) (W:bytes<=1000):
  ∃v' w',(Builtin.append_ #[t,t] ty #[v,.slice (some a) m c]).run P w= .ok v' w'/\Q0 w' e size v' (n+m) (vs++news)/\Qa (fun j=>v.ownBlock=some j) w w'/\
   (v'.ownBlock=v.ownBlock\/v'.ownBlock=some w.heap.size)/\(∃g o cap,v'= .slice (some ⟨g,o,none⟩) (n+m) cap):=by
 subst am;subst af;have ak:n+m<=maxLen:=by unfold maxLen;omega
 have hlen:(vs++news).length =(n+m)*i.size:=by rw[List.length_append,h.1,D,Nat.add_mul]
 have grown: ∀(old:Nat),(Q0 (w.drew.alloc (.cells (vs.toArray++news.toArray++Builtin.zeroCells z.cells (grownCap w (n+m) old e - (n+m))) e)) e i.size (.slice (some ⟨w.heap.size,0,none⟩) (n+m) (grownCap w (n+m) old e)) (n+m) (vs++news))/\
   Qa (fun j=>v.ownBlock=some j) w (w.drew.alloc (.cells (vs.toArray++news.toArray++Builtin.zeroCells z.cells (grownCap w (n+m) old e - (n+m))) e)):=by
  intro old;have aj:=grownCap_ge w (n+m) old e;have J:=grownCap_le_maxLen w (n+m) old e ak;refine⟨⟨hlen,.inr ⟨w.heap.size,0,_,_,rfl,heap_alloc_new w.drew _,aj,J,?_,?_⟩⟩,((Zr _ w).drew).alloc _⟩
  ·simp only[Array.size_append,List.size_toArray,size_zeroCells,ap,h.1,D,<-Nat.add_mul,Nat.zero_add]
   exact Nat.le_of_eq (by congr 1;omega)
  ·simp only[Array.toList_append,List.append_assoc,List.drop_zero]
   rw[<-List.append_assoc,<-hlen];exact List.take_left
 rcases h.2 with ⟨rfl,rfl⟩|⟨g,o,cap,cur,rfl,M,av,J,ar,Z⟩
 ·have ao:vs=[]:=List.eq_nil_of_length_eq_zero (by simpa using h.1)
  subst ao;have E:=run_append_nil (P:=P) w t ty e i z U O aa a m c news D Q (by omega) (by omega) (by have:m*i.bytes<=1000000*1000:=Nat.mul_le_mul (by omega) W;omega);have N:=grown 0;simp only[Nat.zero_add,List.nil_append,Array.empty_append] at N ⊢;exact⟨_,_,E,N.1,N.2,.inr rfl,_,_,_,rfl⟩
 ·by_cases hroom:n+m<=cap
  ·have ai:=run_firstCells_some (P:=P) w i.size m a m c news D Q
   have ag:(n+m)*i.size<=cap*i.size:=Nat.mul_le_mul_right _ hroom;rw[Nat.add_mul] at ag;have Y:=run_storeCells_at P g (o+n*i.size) e news 0 cur w M (by rw[D];omega) ab;simp only[Nat.add_zero] at Y;have E:(Builtin.append_ #[t,t] ty #[.slice (some ⟨g,o,none⟩) n cap,.slice (some a) m c]).run P w= .ok (.slice (some ⟨g,o,none⟩) (n+m) cap) (w.setRow g (cur.toList.take (o+n*i.size)++news++cur.toList.drop (o+n*i.size+news.length)).toArray):=by
    have ad:(⟨g,o,none⟩:Addr).add (n*i.size)=⟨g,o+n*i.size,none⟩:=Addr.add_mid ..;simp[Builtin.append_,run_underlying U,sizeOf,typeInfo,O,Builtin.lenOf,hroom,ai,ad,Y]
   refine⟨_,_,E,⟨hlen,.inr ⟨g,o,cap,_,rfl,setRow_heap w g cur _ e _ M,hroom,J,?_,?_⟩⟩,QL (Zr (fun j=>(Value.slice (some ⟨g,o,none⟩) n cap).ownBlock =some j) w) (g:=g) (fun _=>rfl) _,.inl rfl,_,_,_,rfl⟩
   ·simp only[List.size_toArray,List.length_append,List.length_take,List.length_drop,Array.length_toList]
    omega
   ·have aq:cur.toList.length=cur.size:=Array.length_toList
    have aw:(cur.toList.take (o+n*i.size)).length =o+n*i.size:=by rw[List.length_take];omega
    have al:cur.toList.take (o+n*i.size)=cur.toList.take o++vs:=by
     rw[List.take_add,Z]
    have an:(cur.toList.take o).length =o:=by rw[List.length_take];omega
    rw[al,List.append_assoc,List.append_assoc];have ah: ∀(A B:List Value),A.length=o->(A++B).drop o=B:=fun A B ac=>by rw[<-ac];exact List.drop_left
    rw[ah _ _ an,<-List.append_assoc,<-hlen];exact List.take_left
  ·have holds: ∀j u,vs[j]? =some u->w.cell? ((⟨g,o,none⟩:Addr).add j)=some u:=by
    intro j u I;rw[Addr.add_mid,Qb M];rw[<-Z,List.getElem?_take] at I;split at I
    ·rw[List.getElem?_drop] at I
     simpa using I
    ·cases I
   have E:=run_append_grow (P:=P) w t ty e i z U O aa ⟨g,o,none⟩ n cap vs h.1 holds a m c news D Q (by omega) (by omega) (growslice_fits (by omega) (by
    have:(n+m)*i.bytes<=1000000*1000:=Nat.mul_le_mul ae W;omega))
   exact⟨_,_,E,(grown cap).1,(grown cap).2,.inr rfl,_,_,_,rfl⟩
end
section
open Go.RowKit Go.Acre Go.Acre.Dk Go.WideShapes
def XF:Nat->Nat->List UInt8
 |0,_=>[]
 |k+1,n=>XF k (n/10)++[UInt8.ofNat (48+n%10)]
theorem Qbj: ∀(k n:Nat),(XF k n).length =k
 |0,_=>rfl
 |k+1,n=>by rw[XF,List.length_append,Qbj k];rfl
theorem Qgj: ∀(k n:Nat),∀b∈XF k n,48<=b.toNat/\b.toNat<58
 |0,_,b,h=>by cases h
 |
  k+1,n,b,h=>by
  rw[XF,List.mem_append,List.mem_singleton] at h
  rcases h with h|rfl
  ·exact Qgj k _ b h
  ·rw[UInt8.toNat_ofNat']
   omega
theorem QdU(x:UInt8)(a b:List UInt8):bytesBefore (x::a) (x::b)=bytesBefore a b:=by simp[bytesBefore]
theorem QdV: ∀(p a b:List UInt8),bytesBefore (p++a) (p++b)=bytesBefore a b
 |[],_,_=>rfl
 |x::p,a,b=>by rw[List.cons_append,List.cons_append,QdU,QdV p]
theorem QfT: ∀(a b x y:List UInt8),a.length=b.length->bytesBefore a b=true->bytesBefore (a++x) (b++y)=true
 |[],[],_,_,_,h=>by simp[bytesBefore] at h
 |[],_::_,_,_,h,_=>by simp at h
 |_::_,[],_,_,h,_=>by simp at h
 |
  u::a,v::b,x,y,hl,h=>by
  by_cases e:u=v
  ·subst e
   rw[QdU] at h
   rw[List.cons_append,List.cons_append,QdU]
   exact QfT a b x y (by simpa using hl) h
  ·rw[List.cons_append,List.cons_append]
   simp[bytesBefore] at h ⊢
   simp_all
theorem Qgk: ∀(k a b:Nat),b<10^k->a<b->bytesBefore (XF k a) (XF k b)=true
 |0,a,b,hb,h=>by simp at hb;omega
 |
  k+1,a,b,hb,h=>by
  rw[XF,XF]
  rw[Nat.pow_succ] at hb
  rcases Nat.lt_or_ge (a/10) (b/10) with D|D
  ·exact QfT _ _ _ _ (by rw[Qbj,Qbj]) (Qgk k (a/10) (b/10) (by omega) (by omega))
  ·have E:a/10=b/10:=by omega
   rw[E,QdV]
   have I:UInt8.ofNat (48+a%10)<UInt8.ofNat (48+b%10):=by
    rw[UInt8.lt_iff_toNat_lt,UInt8.toNat_ofNat',UInt8.toNat_ofNat'];omega
   generalize UInt8.ofNat (48+a%10)=x at*
   generalize UInt8.ofNat (48+b%10)=y at*
   simp[bytesBefore,I]
def QJ(pre:ByteArray)(x:Nat):ByteArray:=pre++⟨(XF 16 x).toArray⟩
theorem W6(pre:ByteArray)(x:Nat):(QJ pre x).size =pre.size+16:=by
 unfold QJ;rw[ByteArray.size_append]
 congr 1
theorem Qc0(pre:ByteArray)(x:Nat):(QJ pre x).data.toList =pre.data.toList++XF 16 x:=by
 unfold QJ;simp[ByteArray.data_append]
theorem Qc1(D:b<10^16)(h:a<b):bf (QJ pre a) (QJ pre b)=true:=by
 unfold bf key;show bytesBefore _ _=true;rw[Qc0,Qc0,QdV];exact Qgk 16 a b D h
theorem QnR(pre:ByteArray)(x:Nat):pre.data.toList.isPrefixOf (QJ pre x).data.toList =true:=by
 rw[Qc0,List.isPrefixOf_iff_prefix];exact List.prefix_append _ _
theorem QnQ(E:a<10^16)(I:b<10^16)(h:QJ pre a=QJ pre b):a=b:=by
 rcases Nat.lt_trichotomy a b with D|D|D
 ·exact absurd h (Qbg (Qc1 I D))
 ·exact D
 ·exact absurd h.symm (Qbg (Qc1 E D))
end
section
open Go.RowKit Go.Acre
theorem QqS(y:Nat)(D:y<4294967296):bits .xor .u32 ((y:Int)/2) 3988292384=((y/2 ^^^ Crc.poly:Nat):Int):=by
 rw[show (y:Int)/2=((y/2:Nat):Int) from by omega,show (3988292384:Int)=Crc.poly from rfl,u32_xor_nat _ _ (by omega) (by decide)]
def nums(s:ByteArray):List Nat:=s.data.toList.map (·.toNat)
theorem QaR(s:ByteArray): ∀b∈nums s,b<256:=by
 intro b D;obtain⟨x,_,rfl⟩:=List.mem_map.1 D;exact x.toNat_lt
theorem nums_length(s:ByteArray):(nums s).length =s.size:=by unfold nums;rw[List.length_map];rfl
theorem QeF(s:ByteArray)(k:Nat)(h:k<s.size)(D:k< (nums s).length):(nums s)[k]=s[k].toNat :=by
 simp only[nums,List.getElem_map];rfl
theorem Qn8{s:ByteArray}(h:k<s.size):(nums s).take (k+1)=(nums s).take k++[s[k].toNat]:=by
 have D:k< (nums s).length :=Nat.lt_of_lt_of_eq h (nums_length s).symm;rw[List.take_succ_eq_append_getElem D,QeF s k h D]
theorem Qn0(x:Nat)(D:x<4294967296):bits .xor .u32 IntKind.u32.max (x:Int)=((x ^^^ 4294967295:Nat):Int):=by
 rw[show IntKind.u32.max=((4294967295:Nat):Int) from by decide,u32_xor_nat _ x (by decide) D,Nat.xor_comm]
theorem QpV{k:IntKind}{a b:Int}(h:a=b):Ending.returned (.int k a)= .returned (.int k b):=by rw[h]
def ZZ(n B:Nat)(w:World):Prop:= ∃cur:Array Value,∃T,w.heap[B]? =some (.cells cur T (0,0))/\cur.size=256/\(∀i,i<256-> ∃x:Int,cur[i]? =some (.int .u32 x))/\ ∀i,i<n->cur[i]? =some (.int .u32 (Crc.Lk 8 i:Nat))
theorem ZZ.upd{B:Nat}(h:ZZ n B w)(J:Qa S w w')(I: ¬S B):ZZ n B w':=by
 obtain⟨cur,T,D,E⟩:=h;exact⟨cur,T,J.keep D I,E⟩
theorem ZZ.cell{B:Nat}(h:ZZ 256 B w)(I:i<256):w.cell? ⟨B,i,none⟩=some (.int .u32 (Crc.Lk 8 i:Nat)):=by
 obtain⟨cur,T,D,_,_,E⟩:=h;rw[Qb D,E i I]
theorem ZZ.any{B:Nat}(h:ZZ n B w)(I:i<256):(∃x:Int,w.cell? ⟨B,i,none⟩=some (.int .u32 x))/\w.frozen? ⟨B,i,none⟩=false:=by
 obtain⟨cur,T,D,_,E,_⟩:=h;obtain⟨x,J⟩:=E i I;exact⟨⟨x,by rw[Qb D,J]⟩,Qg D i none⟩
theorem ZZ.next{B:Nat}(h:ZZ n B w)(I:n<256){x:Int}(O:x=(Crc.Lk 8 n:Nat)):ZZ (n+1) B (w.setCell ⟨B,n,none⟩ (.int .u32 x)):=by
 obtain⟨cur,T,J,D,M,N⟩:=h;refine⟨_,T,Qi J _,by simpa using D,fun i E=> ?_,fun i E=> ?_⟩
 ·by_cases e:n=i
  ·subst e;exact⟨x,by simp[D,I]⟩
  ·obtain⟨y,Q⟩:=M i E
   exact⟨y,by simp[Array.getElem?_setIfInBounds,e,Q]⟩
 ·by_cases e:n=i
  ·subst e;simp[D,I,O]
  ·simp only[Array.getElem?_setIfInBounds,e,if_false]
   exact N i (by omega)
theorem Qrc(y:Nat)(D:y<4294967296):bits .and .u32 (y:Int) 1=((y%2:Nat):Int):=by
 rw[show (1:Int)=((1:Nat):Int) from rfl,u32_and_nat y 1 D (by omega),Nat.and_one_is_mod]
theorem QjB{y:Nat}(h:y%2=1):Crc.L y=y/2 ^^^ Crc.poly:=by unfold Crc.L;rw[if_pos h]
theorem Qjz{y:Nat}(h: ¬y%2=1):Crc.L y=y/2:=by unfold Crc.L;rw[if_neg h]
theorem QfA{y z:Nat}(E:k<8)(h:Crc.Lk (8 - k) y=Crc.Lk 8 n)(D:Crc.L y=z):Crc.Lk (8 - (k+1)) z=Crc.Lk 8 n:=by
 rw[<-h,show 8 - k=(8 - (k+1))+1 from by omega,<-D];rfl
set_option maxRecDepth 100000 in
theorem table_any(w:World):Calls Tryz.prog 242 #[] w fun e w'=> ∃B,e= .returned (.pointer (some ⟨B,0,none⟩))/\w.heap.size<=B/\ZZ 256 B w'/\Qa Ze w w':=by
 have J:Tryz.zeroCells349=Array.replicate 256 (.int .u32 0):=by kernel_rfl
 have O:ZZ 0 w.heap.size (w.alloc (.cells Tryz.zeroCells349 349)):=by
  refine⟨_,_,Qf _,?_,fun i Q=>⟨0,?_⟩,fun i Q=>by omega⟩
  ·rw[J];simp
  ·rw[J];simp[Q]
 have W:Qa Ze w (w.alloc (.cells Tryz.zeroCells349 349)):=(Zr _ w).alloc _;have ae:=Zh J;have af:w.heap.size<=w.heap.size:=Zf _;clear J;go_enter Tryz.func242,Tryz.ntmps242;go_wp2_with fail;generalize hBe:w.heap.size=B at*
 have N:=Zh hBe;clear hBe;go_loopw [4] (fun i wr=> ∃(n:Nat),i= .int .i64 n/\n<=256/\ZZ n B wr/\Qa Ze w wr) (fun i _=>256 - (intOf i).toNat)
 case atStart=>exact⟨0,rfl,by omega,O,W⟩
 case round=>
  obtain⟨n,rfl,ai,I,U⟩:=hrel;clear O W;by_cases hlt:n<256
  ·go_wp2_with fail
   go_loop [3,9] (fun v i=> ∃(k y:Nat),i= .int .i64 k/\k<=8/\v= .int .u32 y/\y<4294967296/\Hid (Crc.Lk (8 - k) y=Crc.Lk 8 n)) (fun _ i=>8 - (intOf i).toNat)
   case atStart=>exact⟨0,n,rfl,by omega,by go_num,by omega,rfl⟩
   case round=>
    obtain⟨k,y,rfl,ah,rfl,Y,D⟩:=hrel;by_cases hk8:k<8
    ·have E:=Qrc y Y
     by_cases hodd:y%2=1
     ·have ad:(bits .and .u32 (y:Int) 1==1)=true:=by rw[E,hodd];rfl
      have aa:=Zh (QqS y Y);have M:=Zh (QfA hk8 D.out (QjB hodd));clear E hodd D;go_wp2_with fail;exact⟨⟨k+1,y/2 ^^^ Crc.poly,by go_num,by omega,by rw[aa.out],Nat.xor_lt_two_pow (n:=32) (by omega) (by decide),M⟩,by simp[intOf];omega⟩
     ·have ad:(bits .and .u32 (y:Int) 1==1)=false:=by rw[E,show y%2=0 from by omega];rfl
      have M:=Zh (QfA hk8 D.out (Qjz hodd));clear E hodd D;go_wp2_with fail;exact⟨⟨k+1,y/2,by go_num,by omega,by go_num,by omega,M⟩,by simp[intOf];omega⟩
    ·have Z:(y:Int)=(Crc.Lk 8 n:Nat):=by
      have:=D.out;rw[show 8 - k=0 from by omega] at this;exact congrArg _ this
     obtain⟨⟨x0,aj⟩,ag⟩:=I.any hlt;have ab:=Zh I;have ac:=Zh Z;clear I Z D;go_wp2_with fail;go_roundw
     case rel=>exact⟨n+1,by go_num,by omega,ab.out.next hlt ac.out,U.setCell (p:=⟨B,n,none⟩) (fun h=>by have:=N.out;simp at h;omega) _⟩
     case measure=>simp[intOf];omega
  ·have e:n=256:=by omega
   subst e;go_wp2_with fail;go_ret;exact⟨B,rfl,by rw[N.out];exact Zf _,I,U⟩
def cat(ps:List ByteArray):List Nat:=ps.flatMap nums
theorem Qf5(E:List ByteArray): ∀b∈cat E,b<256:=by
 intro b D;obtain⟨s,_,h⟩:=List.mem_flatMap.1 D;exact QaR s b h
theorem QkE(h:k<bs.length):cat (bs.take (k+1))=cat (bs.take k)++nums bs[k]:=by
 rw[List.take_succ_eq_append_getElem h];simp only[cat,List.flatMap_append,List.flatMap_cons,List.flatMap_nil,List.append_nil]
def QjY(n:Nat)(w:World)(e:Ending)(w':World):Prop:=e= .returned (.int .u32 n)/\Qa Ze w w'
theorem Qq6(y b:Nat)(D:b<256):bits .xor .u8 ((y:Int)%256) (b:Int)=((y%256 ^^^ b:Nat):Int):=by
 rw[show (y:Int)%256=((y%256:Nat):Int) from by omega,u8_xor_nat _ _ (by omega) D]
theorem Qq8(y b:Nat)(I:y<4294967296)(D:b<256):bits .xor .u32 ((y:Int)/256) ((Crc.Lk 8 (y%256 ^^^ b):Nat):Int)=((Crc.T y b:Nat):Int):=by
 have E:y%256 ^^^ b<256:=Nat.xor_lt_two_pow (n:=8) (by omega) D;rw[show (y:Int)/256=((y/256:Nat):Int) from by omega,u32_xor_nat _ _ (by omega) (Crc.Qfz 8 (by omega))];rfl
set_option maxRecDepth 100000 in
theorem sum_any(v:Value)(D:List ByteArray)(w:World)(O:Xe w v D)(ae: ∀s∈D,s.size<=9223372036854775807):
  Calls Tryz.prog 191 #[v] w (QjY (Crc.sum (cat D)) w):=by
 obtain⟨a,cap,rfl⟩:=O.slice;have aa:=O.bound;unfold maxLen at aa;obtain⟨n,N⟩: ∃n,n=D.length:=⟨_,rfl⟩
 have aj:=Zh O;have ah:=Zh ae;rw[<-N] at aa;have W:=Zh N;rw[<-N];clear O ae N;go_enter Tryz.func191,Tryz.ntmps191;go_wp2_with fail;refine (table_any _).mono ?_
 rintro e au ⟨B,rfl,Y,E,I⟩;have am:=Zh Y;clear Y;go_wp2_with fail;go_loopw [4,11] (fun x i wr=> ∃(k:Nat),i= .int .i64 k/\k<=n/\x= .int .u32 (Crc.crc 4294967295 (cat (D.take k)):Nat)/\ZZ 256 B wr/\Qa Ze w wr) (fun _ i _=>n - (intOf i).toNat)
 case atStart=>exact⟨0,rfl,by omega,by simp[cat,Crc.crc],E,I⟩
 case round=>
  obtain⟨k,rfl,ar,rfl,E,I⟩:=hrel;by_cases hlt:k<n
  ·have M:k<D.length:=by rw[<-W.out];exact hlt
   obtain⟨g,o,rfl,Z⟩:=aj.out.cell M;have hsz:=ah.out D[k] (List.getElem_mem M);have ao:=Qe I Z (fun f=>f);have ak:Crc.crc 4294967295 (cat (D.take k))<4294967296:=Crc.Qcy (fun b J=>Qf5 _ b J) (by omega);have ac:Crc.crc 4294967295 (cat (D.take (k+1)))=Crc.crc (Crc.crc 4294967295 (cat (D.take k))) (nums D[k]):=by rw[QkE M,Crc.Qge]
   generalize Crc.crc 4294967295 (cat (D.take k))=y0 at*
   generalize D[k]=s at*
   have Q:=Zh ac;clear Z ac M;go_wp2_with fail;go_loopw [4,17] (fun x i wr=> ∃(j:Nat),i= .int .i64 j/\j<=s.size/\x= .int .u32 (Crc.crc y0 ((nums s).take j):Nat)/\ZZ 256 B wr/\Qa Ze w wr) (fun _ i _=>s.size - (intOf i).toNat)
   case atStart=>exact⟨0,rfl,by omega,by simp[Crc.crc],E,I⟩
   case round=>
    obtain⟨j,rfl,aq,rfl,E,I⟩:=hrel;by_cases hjs:j<s.size
    ·have al:Crc.crc y0 ((nums s).take j)<4294967296:=Crc.Qcy (fun b J=>QaR s b (List.mem_of_mem_take J)) ak
     have ab:Crc.T (Crc.crc y0 ((nums s).take j)) s[j].toNat =Crc.crc y0 ((nums s).take (j+1)):=by
      rw[Qn8 hjs,Crc.Qge];rfl
     generalize Crc.crc y0 ((nums s).take j)=y at*
     have J:s[j].toNat <256:=s[j].toNat_lt;have U:y%256 ^^^ s[j].toNat <256:=Nat.xor_lt_two_pow (n:=8) (by omega) J;have ap:=Qq6 y s[j].toNat J;have an:=E.cell U;have ad:=Qq8 y s[j].toNat al J;have ai:=Zh E;have af:=Zh ab;have ag:=Zh ad;clear E ab ad;go_wp2_with fail;go_quiet (fail);go_wp2_with fail;go_roundw
     case rel=>exact⟨j+1,by go_num,by omega,by rw[ag.out,af.out],ai.out,I.drewN _⟩
     case measure=>simp[intOf];omega
    ·have e:(nums s).take j=nums s:=List.take_of_length_le (by rw[nums_length];omega)
     rw[e];clear e;go_wp2_with fail;go_roundw
     case rel=>exact⟨k+1,by go_num,by omega,by rw[Q.out],E,I⟩
     case measure=>simp[intOf];omega
  ·have e:cat (D.take k)=cat D:=by rw[List.take_of_length_le (by rw[<-W.out];omega)]
   rw[e];have U:Crc.crc 4294967295 (cat D)<4294967296:=Crc.Qcy (Qf5 D) (by omega);have Q:=Zh (Qn0 _ U);clear e;go_wp2_with fail;go_ret;exact⟨QpV Q.out,I⟩
def str(l:List Nat):ByteArray:=strOfNums (l.map Int.ofNat)
theorem QaS{l:List Nat}(h: ∀b∈l,b<256):nums (str l)=l:=by
 simp only[nums,str,strOfNums_data,List.map_map]
 conv=>rhs;rw[<-List.map_id l]
 apply List.map_congr_left;intro b D;have:=h b D;simp;omega
theorem nums_append(a b:ByteArray):nums (a++b)=nums a++nums b:=by
 simp[nums,ByteArray.data_append]
def head(n:Nat):List Nat:=[n/16777216%256,n/65536%256,n/256%256,n%256]
def le4(n:Nat):List Nat:=[n%256,n/256%256,n/65536%256,n/16777216%256]
theorem QcK(n:Nat): ∀b∈head n,b<256:=by simp[head];omega
theorem Qno(n:Nat): ∀b∈le4 n,b<256:=by simp[le4];omega
theorem QiW{a b c d:Int}{y z u:Nat}(D:a=x)(E:b=y)(I:c=z)(J:d=u):strOfNums [a,b,c,d]=str [x,y,z,u]:=by
 subst D;subst E;subst I;subst J;rfl
def XW(body:ByteArray):ByteArray:=(str (head body.size)++str (le4 (Crc.sum (head body.size++nums body))))++body
theorem Qgb(w:World)(a b c d:Int):
  (convert 22 9 (.slice (some ⟨w.heap.size,0,none⟩) 4 4)).run Tryz.prog (w.alloc (.cells #[.int .u8 a,.int .u8 b,.int .u8 c,.int .u8 d] 5))=
   .ok (.string (strOfNums [a,b,c,d])) (w.alloc (.cells #[.int .u8 a,.int .u8 b,.int .u8 c,.int .u8 d] 5)):=
 QdY (QmI [a,b,c,d] (by simp)) 22 9 5 Tryz.underlying22 Tryz.underlying5 Tryz.underlying9
def QjX(s:ByteArray)(w:World)(e:Ending)(w':World):Prop:=e= .returned (.string s)/\Qa Ze w w'
theorem Qm3(n:Nat)(w:World)(E:n<=4294967295):Calls Tryz.prog 207 #[.int .i64 n] w (QjX (str (head n)) w):=by
 have D:=Qgb;go_enter Tryz.func207,Tryz.ntmps207;go_wp2_with fail;go_ret;exact⟨congrArg (fun s=>Ending.returned (.string s)) (QiW (by omega) (by omega) (by omega) (by omega)),(Zr _ w).alloc _⟩
def QdD(body:ByteArray)(w:World)(e:Ending)(w':World):Prop:=e= .returned (.tuple #[.string (XW body),.int .i64 0])/\Qa Ze w w'
theorem Qn5(a b c d:Int):(strOfNums [a,b,c,d]).size =4:=by simp[strOfNums_size]
theorem Zq(l:List Nat):(str l).size =l.length:=by simp[str,strOfNums_size]
theorem QgT(body:ByteArray)(w:World)(h:body.size<=1048576):Calls Tryz.prog 142 #[.string body] w (QdD body w):=by
 have Q:=Qgb;go_enter Tryz.func142,Tryz.ntmps142;go_wp2_with fail;refine (Qm3 body.size _ (by omega)).mono ?_
 rintro e Y ⟨rfl,I⟩;go_wp2_with fail;refine (sum_any _ [str (head body.size),body] _ (Qe6 _ (by simp)) (by simp[Zq,head];omega)).mono ?_
 rintro e w2 ⟨rfl,J⟩;have O:=(I.alloc (.cells ([str (head body.size),body].map .string).toArray 9)).trans J (fun _ _ h=>h);have D:cat [str (head body.size),body]=head body.size++nums body:=by simp[cat,QaS (QcK _)]
 have U:Crc.sum (head body.size++nums body)<4294967296:=Crc.sum_lt (fun b N=>by
  rcases List.mem_append.1 N with h|h
  ·exact QcK _ b h
  ·exact QaR _ b h)
 rw[D];have E:XW body=(str (head body.size)++str (le4 (Crc.sum (head body.size++nums body))))++body:=rfl;have M:=Zh E;generalize Crc.sum (head body.size++nums body)=x at*
 have hsz:(str (head body.size)).size =4:=by simp[Zq,head]
 generalize str (head body.size)=hd at*
 clear I J D E;have W:=Qn5;go_wp2_with fail;go_ret2;rw[QiW (show (x:Int)%256=((x%256:Nat):Int) from by omega) (show (x:Int)/256%256=((x/256%256:Nat):Int) from by omega) (show (x:Int)/65536%256=((x/65536%256:Nat):Int) from by omega) (show (x:Int)/16777216=((x/16777216%256:Nat):Int) from by omega)];exact⟨by rw[M.out];rfl,O.alloc _⟩
theorem Qei(a b:Nat)(D:a<9223372036854775808)(E:b<9223372036854775808):bits .or .i64 (a:Int) (b:Int)=((a ||| b:Nat):Int):=by
 have key:(BitVec.ofInt 64 (a:Int) ||| BitVec.ofInt 64 (b:Int)).toNat =a ||| b:=by
  rw[BitVec.toNat_or,BitVec.toNat_ofInt,BitVec.toNat_ofInt]
  congr 1<;>omega
 have h:a ||| b<9223372036854775808:=Nat.or_lt_two_pow (n:=63) D E
 show IntKind.i64.wrap ((BitVec.ofInt 64 (a:Int) ||| BitVec.ofInt 64 (b:Int)).toNat :Nat)=_;rw[key,IntKind.wrap_i64];omega
theorem QaV(i a b:Nat)(D:b<2^i):2^i*a ||| b=2^i*a+b:=(Nat.two_pow_add_eq_or_of_lt D a).symm
def be4(a b c d:Nat):Nat:=a*16777216+b*65536+c*256+d
theorem Qkp(a b c d:Nat)(I:a<256)(J:b<256)(M:c<256)(N:d<256):
  bits .or .i64 (bits .or .i64 (bits .or .i64 ((a:Int)*16777216) ((b:Int)*65536)) ((c:Int)*256)) (d:Int)=((be4 a b c d:Nat):Int):=by
 have e1:(a:Int)*16777216=((2^24*a:Nat):Int):=by omega
 have D:(b:Int)*65536=((2^16*b:Nat):Int):=by omega
 have E:(c:Int)*256=((2^8*c:Nat):Int):=by omega
 rw[e1,D,E,Qei _ _ (by omega) (by omega),QaV 24 a _ (by omega)];rw[Qei _ _ (by omega) (by omega),show 2^24*a+2^16*b=2^16*(2^8*a+b) from by omega,QaV 16 _ _ (by omega)];rw[Qei _ _ (by omega) (by omega),show 2^16*(2^8*a+b)+2^8*c=2^8*(2^16*a+2^8*b+c) from by omega,QaV 8 _ _ (by omega)];unfold be4;omega
theorem Qnq(a b c d:Nat)(I:a<256)(J:b<256)(M:c<256)(N:d<256):
  bits .or .u32 (bits .or .u32 (bits .or .u32 (a:Int) ((b:Int)*256)) ((c:Int)*65536)) ((d:Int)*16777216)=((be4 d c b a:Nat):Int):=by
 have e1:(d:Int)*16777216=((2^24*d:Nat):Int):=by omega
 have D:(c:Int)*65536=((2^16*c:Nat):Int):=by omega
 have E:(b:Int)*256=((2^8*b:Nat):Int):=by omega
 rw[e1,D,E,u32_or_nat _ _ (by omega) (by omega),Nat.or_comm a,QaV 8 b _ (by omega)];rw[u32_or_nat _ _ (by omega) (by omega),Nat.or_comm _ (2^16*c),QaV 16 c _ (by omega)];rw[u32_or_nat _ _ (by omega) (by omega),Nat.or_comm _ (2^24*d),QaV 24 d _ (by omega)];unfold be4;omega
def lenOf(s:ByteArray)(h:8<=s.size):Nat:=be4 s[0].toNat s[1].toNat s[2].toNat s[3].toNat
def sumOf(s:ByteArray)(h:8<=s.size):Nat:=be4 s[7].toNat s[6].toNat s[5].toNat s[4].toNat
theorem QhD(s:ByteArray)(h:8<=s.size):
  bits .or .i64 (bits .or .i64 (bits .or .i64 ((s[0].toNat :Int)*16777216) ((s[1].toNat :Int)*65536)) ((s[2].toNat :Int)*256)) (s[3].toNat :Int)=((lenOf s h:Nat):Int):=
 Qkp _ _ _ _ s[0].toNat_lt s[1].toNat_lt s[2].toNat_lt s[3].toNat_lt
theorem Qq7(s:ByteArray)(h:8<=s.size):
  bits .or .u32 (bits .or .u32 (bits .or .u32 (s[4].toNat :Int) ((s[5].toNat :Int)*256)) ((s[6].toNat :Int)*65536)) ((s[7].toNat :Int)*16777216)=((sumOf s h:Nat):Int):=
 Qnq _ _ _ _ s[4].toNat_lt s[5].toNat_lt s[6].toNat_lt s[7].toNat_lt
theorem QfU{c:Nat}(D:a<256)(E:b<256)(I:c<256)(J:d<256):be4 a b c d<4294967296:=by unfold be4;omega
theorem QhC(s:ByteArray)(h:8<=s.size):lenOf s h<4294967296:=QfU s[0].toNat_lt s[1].toNat_lt s[2].toNat_lt s[3].toNat_lt
theorem Qi0(s:ByteArray)(h:8<=s.size):sumOf s h<4294967296:=QfU s[7].toNat_lt s[6].toNat_lt s[5].toNat_lt s[4].toNat_lt
theorem Zo(b:UInt8):b.toNat<256:=b.toNat_lt
def X9(s:ByteArray):Option (ByteArray×Nat):=
 if h:8<=s.size then
  if lenOf s h<=1048576/\lenOf s h<=s.size - 8 then
   if Crc.sum (nums (s.extract 0 4)++nums (s.extract 8 (8+lenOf s h)))=sumOf s h then some (s.extract 8 (8+lenOf s h),8+lenOf s h) else none
  else none
 else none
def QfD(r:Option (ByteArray×Nat))(w:World)(e:Ending)(w':World):Prop:=
 e= .returned (match r with|none=>.tuple #[.string ⟨#[]⟩,.int .i64 0,.int .i64 4]|some (b,n)=>.tuple #[.string b,.int .i64 n,.int .i64 0])/\Qa Ze w w'
theorem QhY(s:ByteArray)(h:8<=s.size)(D:lenOf s h<=1048576)(E:lenOf s h<=s.size - 8):
  X9 s=if Crc.sum (nums (s.extract 0 4)++nums (s.extract 8 (8+lenOf s h)))=sumOf s h then some (s.extract 8 (8+lenOf s h),8+lenOf s h) else none:=by
 unfold X9;simp only[dif_pos h,D,E,and_self,if_true]
theorem Qoi(s:ByteArray)(w:World)(h:s.size<8):Calls Tryz.prog 122 #[.string s] w fun e w'=>e= .returned (.tuple #[.string ⟨#[]⟩,.int .i64 0,.int .i64 4])/\w=w':=by
 go_enter Tryz.func122,Tryz.ntmps122;go_wp2_with fail;go_ret3;exact⟨rfl,rfl⟩
def Qfv(w:World)(e:Ending)(w':World):Prop:=e= .returned (.tuple #[.string ⟨#[]⟩,.int .i64 0,.int .i64 4])/\Qa Ze w w'
set_option maxRecDepth 100000 in
theorem Qog(s:ByteArray)(w:World)(h:8<=s.size)(Y:s.size<=9223372036854775807)(D: ¬(lenOf s h<=1048576/\lenOf s h<=s.size - 8)):Calls Tryz.prog 122 #[.string s] w (Qfv w):=by
 have Z:0<s.size:=by omega
 have aa:(0:Int)< (s.size:Int):=by omega
 have ab:(1:Int)< (s.size:Int):=by omega
 have ac:(2:Int)< (s.size:Int):=by omega
 have ad:(3:Int)< (s.size:Int):=by omega
 have I:=Zo s[0];have J:=Zo s[1];have M:=Zo s[2];have N:=Zo s[3];have W:=QhD s h;have U:=QhC s h;generalize lenOf s h=n at*
 by_cases h1:n<=1048576
 ·have Q:((s.size:Int) - 8< (n:Int)):=by omega
  have E:decide ((1048576:Int)< (n:Int))=false:=by simp;omega
  have O:decide ((s.size:Int) - 8< (n:Int))=true:=by simp;omega
  clear D;go_enter Tryz.func122,Tryz.ntmps122;go_wp2_with fail;go_quiet (fail);go_wp2_with fail;go_ret3;exact⟨rfl,(Zr _ w).drewN _⟩
 ·have E:decide ((1048576:Int)< (n:Int))=true:=by simp;omega
  clear D;go_enter Tryz.func122,Tryz.ntmps122;go_wp2_with fail;go_quiet (fail);go_wp2_with fail;go_ret3;exact⟨rfl,(Zr _ w).drewN _⟩
set_option maxRecDepth 100000 in
theorem Qok(s:ByteArray)(w:World)(h:8<=s.size)(ap:s.size<=9223372036854775807)(U:lenOf s h<=1048576)(W:lenOf s h<=s.size - 8):
  Calls Tryz.prog 122 #[.string s] w (QfD (X9 s) w):=by
 have D:=Zh (QhY s h U W);have aq:0<s.size:=by omega
 have ar:(0:Int)< (s.size:Int):=by omega
 have au:(1:Int)< (s.size:Int):=by omega
 have av:(2:Int)< (s.size:Int):=by omega
 have aw:(3:Int)< (s.size:Int):=by omega
 have ax:(4:Int)< (s.size:Int):=by omega
 have ay:(5:Int)< (s.size:Int):=by omega
 have az:(6:Int)< (s.size:Int):=by omega
 have aA:(7:Int)< (s.size:Int):=by omega
 have ac:=Zo s[0];have ad:=Zo s[1];have ae:=Zo s[2];have af:=Zo s[3];have ag:=Zo s[4];have ah:=Zo s[5];have ai:=Zo s[6];have aj:=Zo s[7];have I:=Zh (QhD s h);have J:=Zh (Qq7 s h);have an:=Qi0 s h;generalize lenOf s h=n at*
 generalize sumOf s h=m at*
 have ak:decide ((1048576:Int)< (n:Int))=false:=by simp;omega
 have al:decide ((s.size:Int) - 8< (n:Int))=false:=by simp;omega
 have e1:(8:Int)+(n:Int)<=s.size:=by omega
 have am:(8:Int)<=8+(n:Int):=by omega
 have Z:=I.out;go_enter Tryz.func122,Tryz.ntmps122;go_wp2_with fail;go_quiet (fail);clear Z I;go_wp2_with fail;have aa:=J.out;go_quiet (fail);clear aa J;go_wp2_with fail;refine (sum_any _ [s.extract 0 4,s.extract 8 (8+n)] _ (Qe6 _ (by simp)) ?_).mono ?_
 ·intro t N
  simp only[List.mem_cons,List.not_mem_nil,or_false] at N;rcases N with rfl|rfl<;>rw[ByteArray.size_extract]<;>omega
 rintro e w2 ⟨rfl,O⟩;have M:cat [s.extract 0 4,s.extract 8 (8+n)]=nums (s.extract 0 4)++nums (s.extract 8 (8+n)):=by simp[cat]
 rw[M];have Q:Qa Ze w w2:=(((Zr Ze w).drewN _).alloc _).trans O (fun _ _ h=>h);clear O M;have ab:Crc.sum (nums (s.extract 0 4)++nums (s.extract 8 (8+n)))<4294967296:=Crc.sum_lt (fun b Y=>by
  rcases List.mem_append.1 Y with h|h<;>exact QaR _ b h)
 by_cases hx:Crc.sum (nums (s.extract 0 4)++nums (s.extract 8 (8+n)))=m
 ·have E:=Zh (D.out.trans (if_pos hx))
  rw[hx];clear D hx ab;go_wp2_with fail;go_ret3;rw[E.out];exact⟨rfl,Q⟩
 ·have E:=Zh (D.out.trans (if_neg hx))
  generalize Crc.sum (nums (s.extract 0 4)++nums (s.extract 8 (8+n)))=x at*
  have ao:((x:Int) != (m:Int))=true:=by simp;omega
  clear D hx;go_wp2_with fail;go_ret3;rw[E.out];exact⟨rfl,Q⟩
theorem QhZ{s:ByteArray}(h: ¬8<=s.size):X9 s=none:=by unfold X9;rw[dif_neg h]
theorem Qoc{s:ByteArray}(h:8<=s.size)(D: ¬(lenOf s h<=1048576/\lenOf s h<=s.size - 8)):X9 s=none:=by unfold X9;rw[dif_pos h,if_neg D]
theorem open_any(s:ByteArray)(w:World)(D:s.size<=9223372036854775807):Calls Tryz.prog 122 #[.string s] w (QfD (X9 s) w):=by
 by_cases h:8<=s.size
 ·by_cases hn:lenOf s h<=1048576/\lenOf s h<=s.size - 8
  ·exact Qok s w h D hn.1 hn.2
  ·refine (Qog s w h D hn).mono ?_
   rintro e w' ⟨rfl,E⟩;rw[Qoc h hn];exact⟨rfl,E⟩
 ·refine (Qoi s w (by omega)).mono ?_
  rintro e w' ⟨rfl,rfl⟩;rw[QhZ h];exact⟨rfl,Zr _ _⟩
theorem Z5{a b:ByteArray}(h:nums a=nums b):a=b:=by
 apply ByteArray.ext;apply Array.ext';have E:Function.Injective UInt8.toNat:=fun x y D=>UInt8.toNat_inj.1 D
 exact (List.map_inj_right (fun x y D=>UInt8.toNat_inj.1 D)).1 h
theorem ZL(s:ByteArray)(a b:Nat):nums (s.extract a b)=((nums s).take b).drop a:=by
 simp only[nums,ByteArray.data_extract,Array.toList_extract,List.extract_eq_take_drop,List.map_take,List.map_drop];rw[List.drop_take]
theorem Qn7{s:ByteArray}(h:8<=s.size): ∃rest,nums s=s[0].toNat ::s[1].toNat ::s[2].toNat ::s[3].toNat ::s[4].toNat ::s[5].toNat ::s[6].toNat ::s[7].toNat ::rest:=by
 have I:8<=(nums s).length :=by rw[nums_length];exact h
 refine⟨(nums s).drop 8,?_⟩;have e: ∀k (E:k<s.size) (D:k< (nums s).length),(nums s).drop k=s[k].toNat ::(nums s).drop (k+1):=fun k E D=>by
  rw[List.drop_eq_getElem_cons D,QeF s k E D]
 have:=e 0 (by omega) (by omega);rw[List.drop_zero] at this
 conv=>lhs;rw[this,e 1 (by omega) (by omega),e 2 (by omega) (by omega),e 3 (by omega) (by omega),e 4 (by omega) (by omega),e 5 (by omega) (by omega),e 6 (by omega) (by omega),e 7 (by omega) (by omega)]
theorem Qmj{c:Nat}(D:a<256)(E:b<256)(I:c<256)(J:d<256):head (be4 a b c d)=[a,b,c,d]:=by
 unfold head be4;simp only[List.cons.injEq,and_true];omega
theorem Qnn{c:Nat}(D:a<256)(E:b<256)(I:c<256)(J:d<256):le4 (be4 a b c d)=[d,c,b,a]:=by
 unfold le4 be4;simp only[List.cons.injEq,and_true];omega
theorem Qnp{y:Nat}(D:x<4294967296)(E:y<4294967296)(h:le4 x=le4 y):x=y:=by
 unfold le4 at h;simp only[List.cons.injEq,and_true] at h;omega
theorem Qq2(a b:ByteArray):(a.toList==b.toList)=decide (a=b):=by
 rw[ByteArray.toList_eq,ByteArray.toList_eq];by_cases h:a=b
 ·subst h;simp
 ·simp only[h,decide_false,beq_eq_false_iff_ne]
  intro e;exact h (ByteArray.ext (Array.ext' e))
theorem QeI{t b:ByteArray}(h:X9 t=some (b,n)):n=8+b.size/\n<=t.size/\b.size<=1048576/\b=t.extract 8 n:=by
 unfold X9 at h;split at h
 ·rename_i h8
  split at h
  ·rename_i hn
   split at h
   ·simp only[Option.some.injEq,Prod.mk.injEq] at h
    obtain⟨rfl,rfl⟩:=h;have:(t.extract 8 (8+lenOf t h8)).size =lenOf t h8:=by rw[ByteArray.size_extract];omega
    exact⟨by omega,by omega,by omega,rfl⟩
   ·cases h
  ·cases h
 ·cases h
def ZE(t:ByteArray):List ByteArray×Nat:=
 match h:X9 t with
 |none=>([],0)
 |some (b,n)=>(b::(ZE (t.extract n t.size)).1,n+(ZE (t.extract n t.size)).2)
termination_by t.size
decreasing_by
 all_goals
  have:=QeI h
  rw[ByteArray.size_extract]
  omega
theorem QiB{t:ByteArray}(h:X9 t=none):ZE t=([],0):=by
 rw[ZE];split
 ·rfl
 ·rename_i h2;rw[h] at h2;cases h2
theorem QiC{t b:ByteArray}(h:X9 t=some (b,n)):ZE t=(b::(ZE (t.extract n t.size)).1,n+(ZE (t.extract n t.size)).2):=by
 rw[ZE];split
 ·rename_i h2;rw[h] at h2;cases h2
 ·rename_i b2 n2 h2
  rw[h] at h2;simp only[Option.some.injEq,Prod.mk.injEq] at h2;obtain⟨rfl,rfl⟩:=h2;rfl
theorem extract_drop{s:ByteArray}:(s.extract g s.size).extract n (s.extract g s.size).size =s.extract (g+n) s.size:=by
 apply Z5;rw[ZL,ZL,ZL,<-nums_length (s.extract g s.size),ZL];simp only[List.take_length,List.drop_drop]
theorem Qof{body behind:ByteArray}(Y:n=body.size)(aa:body.size<=1048576)(Z:x<4294967296):
  X9 (((str (head n)++str (le4 x))++body)++behind)=if Crc.sum (head n++nums body)=x then some (body,8+n) else none:=by
 subst Y;generalize hs:((str (head body.size)++str (le4 x))++body)++behind=s;have D:nums s=head body.size++le4 x++nums body++nums behind:=by
  rw[<-hs,nums_append,nums_append,nums_append,QaS (QcK _),QaS (Qno _)]
 have hsz:s.size=8+body.size+behind.size:=by
  rw[<-hs];simp[ByteArray.size_append,Zq,head,le4]
 have E:8<=s.size:=by omega
 obtain⟨rest,I⟩:=Qn7 E;have U:head (lenOf s E)=[s[0].toNat,s[1].toNat,s[2].toNat,s[3].toNat]:=Qmj (Zo _) (Zo _) (Zo _) (Zo _);have W:le4 (sumOf s E)=[s[4].toNat,s[5].toNat,s[6].toNat,s[7].toNat]:=Qnn (Zo _) (Zo _) (Zo _) (Zo _);have e1:head (lenOf s E)=head body.size:=by
  rw[U];rw[I] at D;simp only[head,le4,List.cons_append,List.nil_append,List.cons.injEq] at D ⊢;exact⟨D.1,D.2.1,D.2.2.1,D.2.2.2.1,trivial⟩
 have J:le4 (sumOf s E)=le4 x:=by
  rw[W];rw[I] at D;simp only[head,le4,List.cons_append,List.nil_append,List.cons.injEq] at D ⊢;exact⟨D.2.2.2.2.1,D.2.2.2.2.2.1,D.2.2.2.2.2.2.1,D.2.2.2.2.2.2.2.1,trivial⟩
 have M:lenOf s E=body.size:=by
  have:=QhC s E;unfold head at e1;simp only[List.cons.injEq,and_true] at e1;omega
 have N:sumOf s E=x:=Qnp (Qi0 s E) Z J;rw[QhY s E (by omega) (by omega),M,N];have O:nums (s.extract 0 4)=head body.size:=by
  rw[ZL,D];simp[head]
 have Q:s.extract 8 (8+body.size)=body:=by
  apply Z5;rw[ZL,D,Nat.add_comm 8];simp[head,le4,List.take_succ_cons,<-nums_length body]
 rw[O,Q]
theorem Ww(body:ByteArray):(XW body).size =body.size+8:=by
 simp[XW,ByteArray.size_append,Zq,head,le4];omega
theorem Qmk(body:ByteArray):Crc.sum (head body.size++nums body)<4294967296:=Crc.sum_lt (fun b D=>by
 rcases List.mem_append.1 D with h|h
 ·exact QcK _ b h
 ·exact QaR _ b h)
theorem Qod{body behind:ByteArray}(h:body.size<=1048576):X9 (XW body++behind)=some (body,8+body.size):=by
 unfold XW;rw[Qof rfl h (Qmk body),if_pos rfl]
theorem QlL{a b:ByteArray}:(a++b).extract a.size (a++b).size =b:=by
 apply Z5;rw[ZL,nums_append,<-nums_length (a++b),nums_append,List.take_length,<-nums_length a,List.drop_left]
theorem Qp6{body behind:ByteArray}(h:body.size<=1048576):ZE (XW body++behind)=(body::(ZE behind).1,8+body.size+(ZE behind).2):=by
 rw[QiC (Qod h)];have:(XW body++behind).extract (8+body.size) (XW body++behind).size =behind:=by
  rw[show 8+body.size=(XW body).size from by rw[Ww];omega];exact QlL
 rw[this]
theorem WJ(a:ByteArray):a++(⟨#[]⟩:ByteArray)=a:=by
 apply Z5;rw[nums_append];simp[nums]
def frames:List ByteArray->ByteArray
 |[]=>⟨#[]⟩
 |b::l=>XW b++frames l
theorem Qas(a:ByteArray):(⟨#[]⟩:ByteArray)++a=a:=by
 apply Z5;rw[nums_append];simp[nums]
theorem KF(a b c:ByteArray):(a++b)++c=a++(b++c):=by
 apply Z5;simp only[nums_append,List.append_assoc]
theorem QgU(l:List ByteArray)(b:ByteArray):frames (l++[b])=frames l++XW b:=by
 induction l with
 |nil=>simp only[List.nil_append,frames];rw[WJ,Qas]
 |cons c l ih=>simp only[List.cons_append,frames];rw[ih,KF]
theorem QlM{a b:ByteArray}(h:n<=a.size):(a++b).extract 0 n=a.extract 0 n:=by
 apply Z5;rw[ZL,ZL,nums_append,List.take_append_of_le_length (by rw[nums_length];exact h)]
theorem Qoe:X9 ⟨#[]⟩=none:=QhZ (by decide)
theorem QpX(D:List ByteArray)(E: ∀b∈D,b.size<=1048576)(z:ByteArray)(J:X9 z=none):ZE (frames D++z)=(D,(frames D).size):=by
 induction D with
 |nil=>simp only[frames];rw[Qas,QiB J];rfl
 |
  cons b l ih=>
  simp only[frames];rw[KF,Qp6 (E b (by simp)),ih (fun c I=>E c (by simp[I]))];simp only[Prod.mk.injEq,true_and];simp only[ByteArray.size_append,Ww];omega
end
end Go.Proofs.YtbleblbfadeciaaGreatDoor
namespace Go.Proofs.YtbleblbfadeciaaGreatDoor
open Go.RowKit Go.Acre
def num(v:Nat):List Nat:=if h:v<128 then [v] else (v%128+128)::num (v/128)
termination_by v
decreasing_by omega
theorem QaQ{v:Nat}(h:v<128):num v=[v]:=by rw[num,dif_pos h]
theorem Qbx{v:Nat}(h:128<=v):num v=(v%128+128)::num (v/128):=by rw[num,dif_neg (by omega)]
theorem QeE(v:Nat): ∀b∈num v,b<256:=by
 induction v using Nat.strongRecOn with
 |
  _ v ih=>
  by_cases h:v<128
  ·rw[QaQ h];intro b D;simp at D;omega
  ·rw[Qbx (by omega)]
   intro b D;rcases List.mem_cons.1 D with rfl|D
   ·omega
   ·exact ih (v/128) (by omega) b D
theorem Qn3(v:Nat):num v≠[]:=by
 by_cases h:v<128
 ·rw[QaQ h];simp
 ·rw[Qbx (by omega)];simp
theorem QhU{k:Nat}: ∀{v:Nat},v<128^(k+1)->(num v).length <=k+1:=by
 induction k with
 |zero=>intro v h;rw[QaQ (by simpa using h)];simp
 |
  succ k ih=>
  intro v h;by_cases hv:v<128
  ·rw[QaQ hv];simp
  ·rw[Qbx (by omega),List.length_cons]
   have:=ih (v:=v/128) (by rw[Nat.div_lt_iff_lt_mul (by omega)];rw[Nat.pow_succ] at h;exact h);omega
def X1(i:Nat):List Nat->Option (Nat×Nat)
 |[]=>none
 |c::r=>if i=9/\1<c then none else if 128<=c then (match X1 (i+1) r with|some (v,n)=>some (c - 128+128*v,n+1)|none=>none) else if c=0/\0<i then none else some (c,1)
theorem Qgh: ∀{l:List Nat} {i v n:Nat},i<=9->(∀b∈l,b<256)->X1 i l=some (v,n)->l.take n=num v/\n=(num v).length /\v<2*128^(9 - i)/\(0<i->0<v)/\n<=l.length
 |[],i,v,n,_,_,h=>by simp[X1] at h
 |
  c::r,i,v,n,hi,hb,h=>by
  unfold X1 at h
  split at h
  ·cases h
  ·rename_i h9
   split at h
   ·rename_i hc
    split at h
    ·rename_i v' n' h'
     simp only[Option.some.injEq,Prod.mk.injEq] at h
     obtain⟨rfl,rfl⟩:=h
     have W:i≠9:=fun e=>h9 ⟨e,by omega⟩
     obtain⟨I,J,N,M,O⟩:=Qgh (l:=r) (i:=i+1) (by omega) (fun b hb'=>hb b (by simp[hb'])) h'
     have Q:=hb c (by simp)
     have Y:=M (by omega)
     have e:num (c - 128+128*v')=c::num v':=by
      rw[Qbx (by omega)];have e1:(c - 128+128*v')%128+128=c:=by omega
      have D:(c - 128+128*v')/128=v':=by omega
      rw[e1,D]
     rw[e];refine⟨by rw[List.take_succ_cons,I],by simp[J],?_,fun _=>by omega,by simp;omega⟩;have E:9 - i=9 - (i+1)+1:=by omega
     rw[E,Nat.pow_succ];omega
    ·cases h
   ·split at h
    ·cases h
    ·rename_i hc h0
     simp only[Option.some.injEq,Prod.mk.injEq] at h;obtain⟨rfl,rfl⟩:=h;rw[QaQ (by omega)];refine⟨by simp,by simp,?_,fun U=>by omega,by simp⟩;by_cases h9':i=9
     ·subst h9';simp;omega
     ·have:128<=128^(9 - i):=by
       calc 128=128^1:=rfl
        _<=128^(9 - i):=Nat.pow_le_pow_right (by omega) (by omega)
      omega
theorem Qlf: ∀{v i:Nat} {r:List Nat},i<=9->v<2*128^(9 - i)->(0<i->0<v)->X1 i (num v++r)=some (v,(num v).length):=by
 intro v;induction v using Nat.strongRecOn with
 |
  _ v ih=>
  intro i r N D J;by_cases h:v<128
  ·rw[QaQ h]
   simp only[List.cons_append,List.nil_append,X1];rw[if_neg,if_neg (by omega),if_neg (by omega)]
   ·rfl
   ·rintro⟨rfl,M⟩
    simp at D;omega
  ·have I:i≠9:=by rintro rfl;simp at D;omega
   rw[Qbx (by omega)];simp only[List.cons_append,X1];rw[if_neg (fun e=>I e.1),if_pos (by omega),ih (v/128) (by omega) (by omega) ?_ (fun _=>by omega)]
   ·simp only[Option.some.injEq,Prod.mk.injEq,List.length_cons,and_true]
    omega
   ·have E:9 - i=9 - (i+1)+1:=by omega
    rw[E,Nat.pow_succ] at D;rw[Nat.div_lt_iff_lt_mul (by omega)];omega
def numAt(l:List Nat):Option (Nat×Nat):=X1 0 l
theorem Qia:2*128^(9 - 0)=18446744073709551616:=by decide
theorem Qn2{l:List Nat}{v n:Nat}(M: ∀b∈l,b<256)(h:numAt l=some (v,n)):l=num v++l.drop n/\n=(num v).length /\v<18446744073709551616/\n<=l.length/\0<n:=by
 obtain⟨I,D,E,_,J⟩:=Qgh (by omega) M h;rw[Qia] at E;refine⟨by rw[<-I,List.take_append_drop],D,E,J,?_⟩;rw[D];exact List.length_pos_iff.2 (Qn3 v)
theorem Qn1{v:Nat}(r:List Nat)(h:v<18446744073709551616):numAt (num v++r)=some (v,(num v).length):=Qlf (by omega) (by rw[Qia];exact h) (by omega)
theorem QhV{v:Nat}(h:v<18446744073709551616):(num v).length <=10:=by
 have D:128^(9+1)=1180591620717411303424:=by decide
 exact QhU (k:=9) (by rw[D];omega)
def X7(s:ByteArray):Option (Nat×Nat):=numAt (nums s)
def Qa8(s:ByteArray)(most:Nat):Option (ByteArray×Nat):=
 match X7 s with
 |some (v,n)=>if v<=most/\v<=s.size - n then some (s.extract n (n+v),n+v) else none
 |none=>none
theorem Qb3{s:ByteArray}{v n:Nat}(h:X7 s=some (v,n)):s=str (num v)++s.extract n s.size/\n=(num v).length /\v<18446744073709551616/\n<=s.size/\0<n:=by
 obtain⟨E,I,J,D,M⟩:=Qn2 (QaR s) h;rw[nums_length] at D;refine⟨?_,I,J,D,M⟩;apply Z5;rw[nums_append,QaS (QeE v),ZL,<-nums_length,List.take_length];exact E
theorem QhT{v:Nat}(r:ByteArray)(h:v<18446744073709551616):X7 (str (num v)++r)=some (v,(num v).length):=by
 unfold X7;rw[nums_append,QaS (QeE v)];exact Qn1 _ h
theorem Qd1(a b:ByteArray):(a++b).extract a.size (a++b).size =b:=by
 apply Z5;rw[ZL,nums_append,<-nums_length,<-nums_length,nums_append,List.take_length,List.drop_left]
def txt(s:ByteArray):ByteArray:=str (num s.size)++s
theorem QfN(a b c:ByteArray):a++b++c=a++(b++c):=by
 apply Z5;simp only[nums_append,List.append_assoc]
theorem Qrm{t:ByteArray}{D:Nat}(r:ByteArray)(h:t.size<=D)(I:t.size<18446744073709551616):Qa8 (txt t++r) D=some (t,(txt t).size):=by
 have E:=QhT (t++r) I;unfold Qa8 txt;rw[QfN,E];simp only;rw[if_pos]
 ·simp only[Option.some.injEq,Prod.mk.injEq]
  constructor
  ·apply Z5
   rw[ZL,nums_append,nums_append,QaS (QeE _),List.take_append,List.take_of_length_le (by omega),Nat.add_sub_cancel_left,<-nums_length t,List.take_left,nums_length t,List.drop_left]
  ·rw[ByteArray.size_append,Zq]
 ·refine⟨h,?_⟩
  rw[ByteArray.size_append,Zq,ByteArray.size_append];omega
end Go.Proofs.YtbleblbfadeciaaGreatDoor
namespace Go.Proofs.YtbleblbfadeciaaGreatDoor
open Go.RowKit Go.Acre Go.Acre.Dk
end Go.Proofs.YtbleblbfadeciaaGreatDoor
namespace Go.Proofs.YtbleblbfadeciaaGreatDoor
variable{pre:ByteArray}{bs:List ByteArray}{vs:List Value}{a b d g i k n x:Nat}{S:Nat->Prop}{P:Program}{v:Value}{w w':World}
section
open Go.RowKit Go.Acre
theorem Qr6{a:Act}{E:Exit->Act->World->Prop}{R:Code}(l:Nat)(D:Act->World->Prop)(μ:Act->World->Nat)(first:D a w)
  (pass: ∀a w,D a w->R.wp P (Exit.jump l (fun I w'=>D I w'/\μ I w'<μ a w) E) a w):(Code.scope ((Code.label l).seq R)).wp P E a w:=by
 refine wp_scope_jumps l D μ (rest:=Code.skip.seq R) (by simp[findLabel]) ?_ ?_
 ·refine wp_seq (wp_label ?_)
  exact Code.wp_mono (fun e a w q=>by
   cases e<;>first|exact q|exact⟨q.1,q.2.1⟩) (pass a w first)
 ·intro a w J
  exact wp_seq (wp_skip (pass a w J))
theorem info9:(Tryz.prog.info? 9).map (fun i=>(i.zero,i.size,i.bytes))=some (some (.string ⟨#[]⟩),1,16):=by kernel_rfl
theorem XU{base:Nat}{e:TypeId}{size:Nat}(h:w.ownsRow base e size v n vs)(M:Qa S w w')(D: ∀g,v.ownBlock=some g-> ¬S g):w'.ownsRow base e size v n vs:=by
 refine⟨h.1,?_⟩;rcases h.2 with J|⟨g,cap,cur,rfl,E,I,rest⟩
 ·exact .inl J
 ·exact .inr ⟨g,cap,cur,rfl,E,M.keep I (D g rfl),rest⟩
theorem Qq5(E:List ByteArray): ∀u∈E.map Value.string,u.oneCell'=true:=by
 intro u D;obtain⟨s,_,rfl⟩:=List.mem_map.1 D;rfl
def X4(w:World)(base:Nat)(v:Value)(ss:List ByteArray):Prop:=w.ownsRow base 9 1 v ss.length (ss.map .string)
theorem X4.Qc{base:Nat}(h:X4 w base v bs)(D:Qa Ze w w'):X4 w' base v bs:=XU h D (fun _ _ f=>f)
def QjW(r:List ByteArray×Nat)(w:World)(e:Ending)(w':World):Prop:=
 ∃v,e= .returned (.tuple #[v,.int .i64 r.2])/\X4 w' w.heap.size v r.1/\Qa Ze w w'
def Left(s:ByteArray)(k:Nat)(acc:List ByteArray):Prop:=k<=s.size/\8*acc.length<=k/\ZE s=(acc++(ZE (s.extract k s.size)).1,k+(ZE (s.extract k s.size)).2)
theorem Left.start(s:ByteArray):Left s 0 []:=by
 refine⟨Zz _,by simp,?_⟩;have:s.extract 0 s.size=s:=by apply Z5;rw[ZL,List.take_of_length_le (by rw[nums_length];exact Zf _)];rfl
 rw[this];simp
theorem Left.next{s b:ByteArray}{acc:List ByteArray}(h:Left s k acc)(D:X9 (s.extract k s.size)=some (b,n)):Left s (k+n) (acc++[b])/\8<=n:=by
 obtain⟨J,M,E⟩:=h;obtain⟨N,I,_,_⟩:=QeI D;rw[ByteArray.size_extract] at I;refine⟨⟨by omega,by simp;omega,?_⟩,by omega⟩;rw[E,QiC D,extract_drop];simp[Nat.add_assoc]
theorem Left.last{s:ByteArray}{acc:List ByteArray}(h:Left s k acc)(D:X9 (s.extract k s.size)=none):ZE s=(acc,k):=by
 rw[h.2.2,QiB D];simp
def QjN(b:ByteArray)(n:Nat)(w:World)(e:Ending)(w':World):Prop:=e= .returned (.tuple #[.string b,.int .i64 n,.int .i64 0])/\Qa Ze w w'
theorem Qoj{s b:ByteArray}(w:World)(D:s.size<=9223372036854775807)(h:X9 s=some (b,n)):Calls Tryz.prog 122 #[.string s] w (QjN b n w):=by
 have:=open_any s w D;rw[h] at this;exact this
theorem Qoh{s:ByteArray}(w:World)(D:s.size<=9223372036854775807)(h:X9 s=none):Calls Tryz.prog 122 #[.string s] w (Qfv w):=by
 have:=open_any s w D;rw[h] at this;exact this
set_option maxRecDepth 100000 in
theorem Qp7(s:ByteArray)(w:World)(aP:s.size<=1099511627776):Calls Tryz.prog 60 #[.string s] w (QjW (ZE s) w):=by
 obtain⟨aG,az,aD,aE,aF⟩:=info_parts info9;go_enter Tryz.func60,Tryz.ntmps60;refine wp_seq_k fun K U=> ?_
 have O:=Zh U;clear U;go_wp2_with fail;refine O.out _ _ ?_
 clear O K;refine Qr6 0 (fun a wr=> ∃(n:Nat) (acc:List ByteArray) (v ap aq ar au av aw aa ab ac ad ae af ag ah ai aj ak al am u23 an ao:Value),Hid (Left s n acc)/\X4 wr w.heap.size v acc/\Qa Ze w wr/\a=⟨#[.string s,undef,v,.int .i64 n,ap,aq,ar,au,av,aw,aa,ab,ac,ad,ae,af,ag,ah,ai,aj,ak,al,am,u23,an,ao],[]⟩)
  (fun a _=>s.size - (intOf (a.tmps.getD 3 undef)).toNat) ?first ?pass
 case first=>
  exact⟨0,[],.slice none 0 0,undef,undef,undef,undef,undef,undef,undef,undef,undef,undef,undef,undef,undef,undef,undef,undef,undef,undef,undef,undef,undef,undef,Left.start s,World.ownsRow_nil _ _ _ _,Zr _ _,rfl⟩
 case pass=>
  rintro _ wr ⟨n,acc,v,ap,aq,ar,au,av,aw,aa,ab,ac,ad,ae,af,ag,ah,ai,aj,ak,al,am,u23,an,ao,E,M,N,rfl⟩;have J:=E.out;have aK:=J.1;have aM:(n:Int)<=s.size:=by omega
  have aN:=J.2.1;have aL:(0:Int)<=n:=by omega
  clear J
  cases hop:X9 (s.extract n s.size) with
  |
   none=>
   have ax:=Zh (E.out.last hop);have I:=Zh hop;clear hop E;go_wp2_with go_step3;refine (Qoh _ (by rw[ByteArray.size_extract];omega) I.out).mono ?_
   rintro e aI ⟨rfl,D⟩;clear I;go_wp2_with go_step3;rw[Exit.Qan];go_ret2;rw[ax.out];exact⟨_,rfl,X4.Qc M D,N.trans D (fun _ _ h=>h)⟩
  |
   some r=>
   obtain⟨b,m⟩:=r;have Q:=Zh (E.out.next hop);have W:=QeI hop;rw[ByteArray.size_extract] at W;have aO:n+m<=s.size:=by omega
   clear W;have I:=Zh hop;clear hop E;go_wp2_with go_step3;refine (Qoj _ (by rw[ByteArray.size_extract];omega) I.out).mono ?_
   rintro e aI ⟨rfl,D⟩;clear I;have Y:=X4.Qc M D;have Z:=N.trans D (fun _ _ h=>h);clear M N D;go_wp2_with (first|(at_builtin;refine QbM rfl _ _ 93 rfl w.heap.size 9 aG (.string ⟨#[]⟩) 1 16 Tryz.underlying93 az aD aE aF rfl (by decide) _ _ _ rfl (Y.alloc _) _ _ _ rfl (Qe6 [b] (by simp)) ?c2 ?c3 ?c4 ?c5 ?_)|go_step3)
   case c2=>exact Qq5 [b]
   case c3=>unfold maxLen;simp;omega
   case c4=>simp;omega
   case c5=>have:=Z.size;simp;omega
   intro aH w2 aB ay;have aC:=(Z.alloc (.cells #[.string b] 9)).X8 ay (by intro j aA aJ;have:=(Y.lt j aA).1;omega);go_wp2_with go_step3;rw[Exit.QmM];exact⟨⟨n+m,acc++[b],Q.out.1,aH,by unfold X4;simpa using aB,aC,_,_,_,_,_,_,_,_,_,_,_,_,_,_,_,_,_,_,_,_,_,_,rfl⟩,by have:=Q.out.2;simp[intOf];omega⟩
end
end Go.Proofs.YtbleblbfadeciaaGreatDoor
