/- For TopKept. -/
import Derived.Test.YtbleblbfadeciaaGreatDoorVa
import Derived.Laws.IdiomStrings
import Derived.Lib.FrozenHead2
import Derived.Outline
import Derived.Deep.CutBlock
import Derived.Test.YtbleblbfadeciaaGreatDoorDa
set_option linter.all false
set_option maxHeartbeats 16000000
set_option maxRecDepth 10000
namespace Go.Proofs.YtbleblbfadeciaaGreatDoor
open Go.RowKit Go.Acre
def ZC(w:World)(base:Nat)(e:TypeId)(v:Value)(n:Nat)(xs:List Value):Prop:=
 xs.length=n/\ ∃g cap cur fz,v= .slice (some ⟨g,0,none⟩) n cap/\base<=g/\w.heap[g]? =some (.cells cur e fz)/\(fz.2<=n\/cap<=fz.1)/\n<=cap/\cap<=maxLen/\cur.size=cap/\cur.toList.take n=xs
theorem ZC.cells{w:World}{base:Nat}{e:TypeId}{v:Value}{n:Nat}{I:List Value}(h:ZC w base e v n I): ∃g cap,v= .slice (some ⟨g,0,none⟩) n cap/\base<=g/\g<w.heap.size/\n<=cap/\cap<=maxLen/\ ∀j u,I[j]? =some u->w.cell? ⟨g,j,none⟩=some u:=by
 obtain⟨U,g,cap,cur,Q,rfl,J,E,W,M,N,Y,O⟩:=h;refine⟨g,cap,rfl,J,Ql E,M,N,fun j u D=> ?_⟩;rw[Qb E];rw[<-O,List.getElem?_take] at D;split at D
 ·simpa using D
 ·cases D
theorem ZC.upd{w w':World}{base:Nat}{e:TypeId}{v:Value}{n:Nat}{D:List Value}(h:ZC w base e v n D)(N:Qa Ze w w'):ZC w' base e v n D:=by
 obtain⟨I,g,cap,cur,E,rfl,J,M,r⟩:=h;exact⟨I,g,cap,cur,E,rfl,J,N.keep M (fun f=>f),r⟩
theorem ZC.row{w:World}{base:Nat}{e:TypeId}{v:Value}{n:Nat}{D:List Value}(h:ZC w base e v n D):Qr w 1 v n D:=by
 have O:=h.1;obtain⟨g,cap,rfl,M,N,E,I,J⟩:=h.cells;refine⟨by omega,_,cap,rfl,E,I,(fun e=>by cases e),fun _=>⟨g,0,rfl,fun i hi=> ?_⟩⟩;rw[Nat.zero_add,J i D[i] (List.getElem?_eq_getElem hi),List.getElem?_eq_getElem hi]
theorem ZC.lt{w:World}{base:Nat}{e:TypeId}{v:Value}{n:Nat}{E:List Value}(h:ZC w base e v n E): ∀k,v.ownBlock=some k->base<=k/\k<w.heap.size:=by
 obtain⟨g,cap,rfl,I,J,_⟩:=h.cells;intro k D;simp[Value.ownBlock] at D;omega
section
variable {P:Program}
theorem QpY(w:World)(base:Nat)(t ty e:TypeId)(i:TypeInfo)(z:Value)(bytes:Nat)(ab:P.underlying t=some (.slice e))(Y:P.info? e=some i)(aB:i.zero=some z)(Q:i.size=1)(am:i.bytes=bytes)(aC:z.cells.size=1)
  (v:Value) (n:Nat) (I:List Value) (aa:ZC w base e v n I) (a:Addr) (c:Nat) (x:Value) (aA:w.cell? a=some x) (ai:a.add 0=a) (ad:x.oneCell'=true)
  (W:n+1<=maxLen) (an:(n+1)*bytes<=140737488355328) (al:base<=w.heap.size):
  ∃v' w',(Builtin.append_ #[t,t] ty #[v,.slice (some a) 1 c]).run P w= .ok v' w'/\ZC w' base e v' (n+1) (I++[x])/\w.grownBy w' v.ownBlock:=by
 have aq:=aa.cells;obtain⟨D,g,cap,cur,U,rfl,ae,M,af,aE,ag,ah,J⟩:=aa;have Z: ∀j u,[x][j]? =some u->w.cell? (a.add j)=some u:=by
  intro j u E
  cases j with
  |zero=>rw[ai];simp at E;rw[aA,E]
  |succ j=>simp at E
 have ak: ∀j,(⟨g,0,none⟩:Addr).add j=⟨g,j,none⟩:=fun j=>by unfold Addr.add;split<;>simp_all
 by_cases hroom:n+1<=cap
 ·have av:=run_firstCells_some (P:=P) w 1 1 a 1 c [x] rfl Z
  have ax:w.frozen? ⟨g,n,none⟩=false:=by
   obtain⟨aH,aF⟩:=U;simp only[World.frozen?,M,Bool.and_eq_false_iff,decide_eq_false_iff_not];simp only at af;omega
  have ap:w.cell? ⟨g,n,none⟩=some cur[n]:=by rw[Qb M];exact Array.getElem?_eq_getElem (by omega)
  have az:(storeCells ⟨g,n,none⟩ [x]).run P w= .ok () (w.setCell ⟨g,n,none⟩ x):=by
   have aj:(⟨g,n,none⟩:Addr).add 0=⟨g,n,none⟩:=by unfold Addr.add;split<;>simp_all
   simp only[storeCells,Sem.run_bind,aj];rw[run_store P w _ x _ ad,ap];simp[ax]
  have O:(Builtin.append_ #[t,t] ty #[.slice (some ⟨g,0,none⟩) n cap,.slice (some a) 1 c]).run P w= .ok (.slice (some ⟨g,0,none⟩) (n+1) cap) (w.setCell ⟨g,n,none⟩ x):=by
   have aw:(Builtin.firstCells 1 1 (.slice (some a) 1 c)).run P w= .ok #[x] w:=av;simp[Builtin.append_,run_underlying ab,sizeOf,typeInfo,Y,Q,Builtin.lenOf,hroom,aw,Addr.add_lit,az]
  refine⟨_,_,O,⟨by simp[D],g,cap,_,U,rfl,ae,Qi M x,by omega,hroom,ag,by simpa using ah,?_⟩,?_⟩
  ·rw[Array.toList_setIfInBounds,<-J]
   apply List.ext_getElem?;intro j;by_cases hj:j<n
   ·rw[List.getElem?_take,if_pos (by omega),List.getElem?_set_ne (by omega),List.getElem?_append_left (by rw[J,D];exact hj),List.getElem?_take,if_pos hj]
   ·by_cases hjn:j=n
    ·subst hjn
     rw[List.getElem?_take,if_pos (by omega),List.getElem?_set_self (by simp;omega),List.getElem?_append_right (by rw[J,D];exact Zf _),J,D];simp
    ·rw[List.getElem?_take,if_neg (by omega),List.getElem?_eq_none (by simp;omega)]
  ·exact⟨rfl,rfl,rfl,by simp[World.setCell],fun k _ N=>Below.heap_setCell _ _ _ _ (fun e=>N (by simp[Value.ownBlock,e]))⟩
 ·have holds: ∀j u,I[j]? =some u->w.cell? ((⟨g,0,none⟩:Addr).add j)=some u:=by
   obtain⟨g',aD,ac,_,_,_,_,ao⟩:=aq;simp only[Value.slice.injEq,Option.some.injEq,Addr.mk.injEq,and_true,true_and] at ac;obtain⟨rfl,rfl⟩:=ac;intro j u E;rw[ak];exact ao j u E
  have aG:n+1<=9223372036854775807:=by simp only[maxLen] at W;omega
  have O:=run_append_grow (P:=P) w t ty e i z ab Y aB ⟨g,0,none⟩ n cap I (by rw[Q];omega) holds a 1 c [x] (by rw[Q];rfl) Z (by omega) (by omega) (by rw[am];exact growslice_fits (by omega) an);have ay:=grownCap_ge w (n+1) cap e;have ar:grownCap w (n+1) cap e<=maxLen:=grownCap_le_maxLen w (n+1) cap e W;refine⟨_,_,O,⟨by simp[D],w.heap.size,_,_,(0,0),rfl,al,heap_alloc_new w.drew _,.inl (Zz _),ay,ar,?_,?_⟩,⟨rfl,rfl,rfl,by simp,fun k N _=>Below.heap_alloc w.drew _ k N⟩⟩
  ·simp only[Array.size_append,List.size_toArray,size_zeroCells,aC,D,List.length_cons,List.length_nil]
   omega
  ·have au:(I++[x]).length =n+1:=by simp[D]
   simp only[Array.toList_append,List.append_assoc];rw[<-List.append_assoc,<-au];exact List.take_left
theorem Qfl{w:World}{ops:Array Oper}{rest:List Oper}{o:Oper}{a:Act}{J:Exit->Act->World->Prop}(ab:o.guard=none)(s y:Operand)(t:TypeId)
  (ad:o.op= .call {callee:=.builtin .append,args:= #[s,y],argTypes:= #[t,t]})
  (base:Nat) (e:TypeId) (i:TypeInfo) (z:Value) (bytes:Nat) (ai:P.underlying t=some (.slice e)) (ac:P.info? e=some i) (al:i.zero=some z) (ah:i.size=1) (Z:i.bytes=bytes) (am:z.cells.size=1)
  (v:Value) (n:Nat) (I:List Value) (ag:a.eval s=v) (ae:ZC w base e v n I) (D:Addr) (c:Nat) (x:Value) (ak:a.eval y= .slice (some D) 1 c) (aj:w.cell? D=some x) (W:D.add 0=D) (M:x.oneCell'=true)
  (Q:n+1<=maxLen) (aa:(n+1)*bytes<=140737488355328) (Y:base<=w.heap.size)
  (h: ∀E w',ZC w' base e E (n+1) (I++[x])->w.grownBy w' v.ownBlock->wpList P ops J rest (a.put o.dst E) w'):wpList P ops J (o::rest) a w:=by
 refine wpList_plain ab fun K U=> ?_
 obtain⟨E,w',af,N,O⟩:=QpY (P:=P) w base t o.type e i z bytes ai ac al ah Z am v n I ae D c x aj W M Q aa Y;unfold Oper.wp execOp;simp only[ad,resolve,invoke,builtin,Sem.run_bind,Sem.run_pure,Result.andThen_ok,List.map_toArray,List.map_cons,List.map_nil,ag,ak,af];exact U _ _ (h E w' N O)
end
def KT(l:List Nat):List Value:=l.map fun b:Nat=>Value.int .u8 (b:Int)
theorem Qf4(w:World)(s:ByteArray)(cap:Nat)(D:s.size<=cap)(E:cap<=maxLen):
  ZC (w.alloc (.cells (bytesRow s cap) 5 ((bytesRow s cap).size,(bytesRow s cap).size +1))) w.heap.size 5 (.slice (some ⟨w.heap.size,0,none⟩) s.size cap) s.size (KT (nums s)):=by
 have I:(bytesRow s cap).size =cap:=by
  unfold bytesRow;simp only[Array.size_append,Array.size_map,Array.size_replicate];show s.size+(cap - s.size)=cap;omega
 refine⟨by simp[KT,nums_length],w.heap.size,cap,_,_,rfl,Zf _,Qf _,.inr (by simp only;omega),D,E,I,?_⟩;unfold bytesRow KT nums;rw[Array.toList_append,List.take_append_of_le_length (by simp),List.take_of_length_le (by simp)];simp
theorem Qol(u:Nat):bits .or .u8 ((u:Int)%256) 128=((u%128+128:Nat):Int):=by
 have h: ∀x:Nat,x<256->bits .or .u8 (x:Int) 128=((x%128+128:Nat):Int):=by decide+kernel
 have e:(u:Int)%256=((u%256:Nat):Int):=by omega
 rw[e,h (u%256) (by omega)]
 congr 2
 omega
theorem QiZ(l:List Nat):strOfNums (l.map fun b:Nat=>(b:Int))=str l:=rfl
def Qbe(b:ByteArray)(x:ByteArray)(w:World)(e:Ending)(w':World):Prop:=e= .returned (.string (b++x))/\Qa Ze w w'
theorem Qg1:(Tryz.prog.info? 5).map (fun i=>(i.zero,i.size,i.bytes))=some (some (.int .u8 0),1,1):=by kernel_rfl
theorem QiX(a b:List Nat):str (a++b)=str a++str b:=by
 apply ByteArray.ext;apply Array.ext';rw[ByteArray.data_append,Array.toList_append];simp only[str,strOfNums_data,List.map_append]
theorem QiY(s:ByteArray):str (nums s)=s:=Z5 (QaS (QaR s))
set_option maxRecDepth 100000 in
theorem Qb7(b:ByteArray)(v:Nat)(w:World)(ay:b.size<=1099511627776)(af:v<18446744073709551616):Calls Tryz.prog 137 #[.string b,.int .u64 v] w (Qbe b (str (num v)) w):=by
 obtain⟨aj,ab,ag,ah,ai⟩:=info_parts Qg1;have au:=run_bytes_of_string (P:=Tryz.prog) w 9 22 5 b Tryz.underlying9 Tryz.underlying22 Tryz.underlying5;have ac:=Qf4 w.drew b (grownCap w b.size 0 5) (grownCap_ge w b.size 0 5) (grownCap_le_maxLen w b.size 0 5 (by unfold maxLen;omega));have ae:Qa Ze w (w.drew.alloc (.cells (bytesRow b (grownCap w b.size 0 5)) 5 ((bytesRow b (grownCap w b.size 0 5)).size,(bytesRow b (grownCap w b.size 0 5)).size +1))):=((Zr _ w).drew).alloc _;have ad:ZC (w.alloc (.cells (bytesRow b (grownCap w b.size 0 5)) 5 ((bytesRow b (grownCap w b.size 0 5)).size,(bytesRow b (grownCap w b.size 0 5)).size +1))).drew w.heap.size 5 (.slice (some ⟨w.heap.size,0,none⟩) b.size (grownCap w b.size 0 5)) b.size (KT (nums b)):=ac;have I:Qa Ze w (w.alloc (.cells (bytesRow b (grownCap w b.size 0 5)) 5 ((bytesRow b (grownCap w b.size 0 5)).size,(bytesRow b (grownCap w b.size 0 5)).size +1))).drew :=ae;have al:=Zh ad;have am:=Zh I;clear ac ae ad I;go_enter Tryz.func137,Tryz.ntmps137;go_upto_block 0 with fail
 generalize (w.alloc (.cells (bytesRow b (grownCap w b.size 0 5)) 5 ((bytesRow b (grownCap w b.size 0 5)).size,(bytesRow b (grownCap w b.size 0 5)).size +1))).drew =w0 at*
 generalize grownCap w b.size 0 5=cap0 at*
 generalize hbase:w.heap.size=xb at*
 have U:=Zh hbase;clear hbase au;go_wp2_with fail;go_loopw [1,5] (fun x out wr=> ∃(u:Nat) (acc:List Nat),x= .int .u64 u/\u<18446744073709551616/\ZC wr xb 5 out acc.length (KT acc)/\Hid (acc++num u=nums b++num v)/\Qa Ze w wr) (fun x _ _=>(intOf x).toNat)
 case atStart=>exact⟨v,nums b,rfl,af,by rw[nums_length];exact al.out,rfl,am.out⟩
 case round=>
  obtain⟨u,acc,rfl,aA,E,O,N⟩:=hrel;have hlen:acc.length<=1099511627776+10:=by
   have an:=congrArg List.length O.out;rw[List.length_append,List.length_append,nums_length] at an;have:=QhV af;omega
  have aB:xb<=wr.heap.size:=by have:=U.out;have:=N.size;omega
  by_cases hbig:128<=u
  ·have ar:(128:Int)<=u:=by omega
   have ak:Hid ((acc++[u%128+128])++num (u/128)=nums b++num v):=by
    show _=_;rw[<-O.out,Qbx hbig,List.append_assoc];rfl
   have M:=(E.upd ((Zr Ze wr).alloc (.cells #[.int .u8 (bits .or .u8 ((u:Int)%256) 128)] 5)))
   have Q:=Zh E.lt;go_wp2_with (at_builtin;refine Qfl rfl _ _ 22 rfl xb 5 aj (.int .u8 0) 1 Tryz.underlying22 ab ag ah ai rfl _ _ _ rfl M _ 1 (.int .u8 (bits .or .u8 ((u:Int)%256) 128)) rfl ?c1 ?c2 rfl ?c3 ?c4 ?c5 ?_)
   case c1=>exact Qb (Qf (w:=wr) _) 0
   case c2=>rfl
   case c3=>unfold maxLen;omega
   case c4=>omega
   case c5=>simp;omega
   intro Z w2 D J;have I:=(N.alloc (.cells #[.int .u8 (bits .or .u8 ((u:Int)%256) 128)] 5)).X8 J (by intro j Y aw;have:=(Q.out j Y).1;have:=U.out;omega);rw[Qol] at D;have ax:ZC w2 xb 5 Z (acc++[u%128+128]).length (KT (acc++[u%128+128])):=by
    unfold KT at D ⊢;rw[List.length_append,List.map_append];exact D
   clear E N J D M;go_wp2_with fail;exact⟨⟨u/128,acc++[u%128+128],by go_num,by omega,ax,ak,I⟩,by simp[intOf];omega⟩
  ·have ar: ¬(128:Int)<=u:=by omega
   have az:(u:Int)%256=(u:Int):=by omega
   have M:=(E.upd ((Zr Ze wr).alloc (.cells #[.int .u8 (u:Int)] 5)))
   have Q:=Zh E.lt;go_wp2_with (at_builtin;refine Qfl rfl _ _ 22 rfl xb 5 aj (.int .u8 0) 1 Tryz.underlying22 ab ag ah ai rfl _ _ _ rfl M _ 1 (.int .u8 (u:Int)) rfl ?c1 ?c2 rfl ?c3 ?c4 ?c5 ?_)
   case c3=>unfold maxLen;omega
   case c4=>omega
   case c5=>omega
   intro Z w2 D J;have I:=(N.alloc (.cells #[.int .u8 (u:Int)] 5)).X8 J (by intro j Y aw;have:=(Q.out j Y).1;have:=U.out;omega);have aa:(acc++[u])=nums b++num v:=by
    rw[<-O.out,QaQ (by omega)]
   have W:QN .u8 w2 Z ((acc++[u]).map fun b:Nat=>(b:Int)):=by
    have ao:=D.row;have ap:((acc++[u]).map fun b:Nat=>(b:Int)).length =acc.length+1:=by simp
    have aq:((acc++[u]).map fun b:Nat=>(b:Int)).map (Value.int .u8)=KT acc++[Value.int .u8 (u:Int)]:=by
     unfold KT;rw[List.map_map,List.map_append];rfl
    unfold QN;rw[ap,aq];exact ao
   rw[aa] at W;have av:=QdY (P:=Tryz.prog) W 22 9 5 Tryz.underlying22 Tryz.underlying5 Tryz.underlying9;rw[QiZ,QiX,QiY] at av;clear E N J D M W aa;go_wp2_with fail;go_ret;exact⟨rfl,I⟩
end Go.Proofs.YtbleblbfadeciaaGreatDoor
namespace Go.Proofs.YtbleblbfadeciaaGreatDoor
open Go.RowKit Go.Acre
set_option maxRecDepth 100000 in
theorem Qif(b s:ByteArray)(w:World)(E:b.size<=1099511627776)(O:s.size<=1099511627776):Calls Tryz.prog 139 #[.string b,.string s] w (Qbe b (txt s) w):=by
 have M:=QhV (v:=s.size) (by omega);have J: ∀u:World,(Op.stringOp .add (b++str (num s.size)) s).run Tryz.prog u= .ok (.string (b++str (num s.size)++s)) u:=fun u=>run_string_add_sum u _ _ (by rw[ByteArray.size_append,Zq];omega)
 have N: ¬((b++str (num s.size)).size +s.size>9223372036854775807):=by rw[ByteArray.size_append,Zq];omega
 have D:Hid (b++str (num s.size)++s=b++txt s):=by show _=_;unfold txt;rw[QfN]
 go_enter Tryz.func139,Tryz.ntmps139;go_wp2_with fail;refine (Qb7 b s.size _ E (by omega)).mono ?_
 rintro e w' ⟨rfl,I⟩;generalize hx:b++str (num s.size)=x at*
 clear hx;go_wp2_with fail;go_ret;exact⟨by rw[D.out];rfl,I⟩
end Go.Proofs.YtbleblbfadeciaaGreatDoor
namespace Go.Proofs.YtbleblbfadeciaaGreatDoor
open Go.RowKit Go.Acre
def fN(r:Option (Nat×Nat)):Nat:=match r with|some p=>p.1|none=>0
def sN(r:Option (Nat×Nat)):Nat:=match r with|some p=>p.2|none=>0
def QjL(r:Option (Nat×Nat))(w:World)(e:Ending)(w':World):Prop:=
 e= .returned (.tuple #[.int .u64 (fN r:Nat),.int .i64 (sN r:Nat)])/\w=w'
def lift(k acc:Nat)(r:Option (Nat×Nat)):Option (Nat×Nat):=r.map fun p=>(acc+128^k*p.1,p.2+k)
theorem u64_or_nat(a b:Nat)(D:a<18446744073709551616)(E:b<18446744073709551616):bits .or .u64 (a:Int) (b:Int)=((a ||| b:Nat):Int):=by
 have key:(BitVec.ofInt 64 (a:Int) ||| BitVec.ofInt 64 (b:Int)).toNat =a ||| b:=by
  rw[BitVec.toNat_or,BitVec.toNat_ofInt,BitVec.toNat_ofInt]
  congr 1<;>omega
 have h:a ||| b<18446744073709551616:=Nat.or_lt_two_pow (n:=64) D E
 show IntKind.u64.wrap ((BitVec.ofInt 64 (a:Int) ||| BitVec.ofInt 64 (b:Int)).toNat :Nat)=_;rw[key,IntKind.wrap_u64];omega
theorem QeS(k:Nat):2^(7*k)=128^k:=by rw[Nat.pow_mul]
theorem QoC{k c:Nat}(I:k<=9)(E:c<128)(D:k=9->c<=1):128^k*c<18446744073709551616:=by
 rcases (by omega:k=0\/k=1\/k=2\/k=3\/k=4\/k=5\/k=6\/k=7\/k=8\/k=9) with rfl|rfl|rfl|rfl|rfl|rfl|rfl|rfl|rfl|rfl<;>simp<;>omega
theorem QeL{acc k c:Nat}{x:Int}(U:x=(c:Int))(D:k<=9)(Q:c<128)(N:k=9->c<=1)(O:acc<128^k):bits .or .u64 (acc:Int) (IntKind.u64.wrap (x*2^(7*k)))=((acc+128^k*c:Nat):Int):=by
 subst U;have E:=QoC D Q N;have W:128^k<=128^9:=Nat.pow_le_pow_right (by omega) D;have I:(c:Int)*2^(7*k)=((128^k*c:Nat):Int):=by
  rw[<-QeS,Nat.mul_comm]
  push_cast
  first|rfl|exact Int.mul_comm _ _
 have J:IntKind.u64.wrap ((128^k*c:Nat):Int)=((128^k*c:Nat):Int):=by rw[IntKind.wrap_u64];omega
 have M:acc<18446744073709551616:=by
  have:128^9=9223372036854775808:=by decide
  omega
 rw[I,J,u64_or_nat _ _ M E]
 congr 1
 rw[show acc ||| 128^k*c=128^k*c ||| acc from Nat.or_comm _ _,<-QeS,QaV (7*k) c acc (by rw[QeS];exact O),Nat.add_comm]
theorem Qle{k c:Nat}{r:List Nat}(h:k=9)(D:1<c):X1 k (c::r)=none:=by
 unfold X1;rw[if_pos ⟨h,D⟩]
theorem Qgg{k c:Nat}{r:List Nat}(h:c=0)(D:0<k):X1 k (c::r)=none:=by
 unfold X1;rw[if_neg (by omega),if_neg (by omega),if_pos ⟨h,D⟩]
theorem Qd2{k c:Nat}{r:List Nat}(h:k=9->c<=1)(E:c<128)(D: ¬(c=0/\0<k)):X1 k (c::r)=some (c,1):=by
 unfold X1;rw[if_neg (by omega),if_neg (by omega),if_neg D]
theorem Qey{k acc c:Nat}:lift k acc (some (c,1))=some (acc+128^k*c,k+1):=by
 unfold lift;simp[Nat.add_comm]
theorem Qnw{k acc c:Nat}{r:List Nat}(h:k≠9)(D:128<=c):lift k acc (X1 k (c::r))=lift (k+1) (acc+128^k*(c - 128)) (X1 (k+1) r):=by
 have e:X1 k (c::r)=(match X1 (k+1) r with|some (v,n)=>some (c - 128+128*v,n+1)|none=>none):=by
  rw[X1,if_neg (fun e=>h e.1),if_pos D];rfl
 rw[e];clear e;unfold lift;generalize X1 (k+1) r=q
 cases q with
 |none=>simp only[Option.map_none]
 |
  some p=>
  obtain⟨v,n⟩:=p;simp only[Option.map_some,Option.some.injEq,Prod.mk.injEq];refine⟨?_,by rw[Nat.add_assoc,Nat.add_comm 1 k]⟩;rw[Nat.mul_add,Nat.pow_succ,Nat.mul_assoc,Nat.add_assoc]
theorem Qj1{k acc c:Nat}(D:acc<128^k)(E:c<128):acc+128^k*c<128^(k+1):=by
 rw[Nat.pow_succ];have:128^k*c<=128^k*127:=Nat.mul_le_mul_left _ (by omega);omega
theorem Qnx(s:ByteArray):X7 s=lift 0 0 (X1 0 ((nums s).drop 0)):=by
 unfold X7 numAt lift;rw[List.drop_zero]
 cases X1 0 (nums s) with
 |none=>rfl
 |
  some p=>
  obtain⟨a,b⟩:=p;simp
set_option maxRecDepth 100000 in
theorem Qby(s:ByteArray)(w:World)(al:s.size<=9223372036854775807):Calls Tryz.prog 193 #[.string s] w (QjL (X7 s) w):=by
 go_enter Tryz.func193,Tryz.ntmps193;go_wp2_with fail;refine Qfp 0 rfl ?_
 go_wp2_with fail;refine wp_label ?_
 go_wp2_with fail;go_loopw [4,9] (fun v i wr=> ∃(k acc:Nat),i= .int .i64 k/\v= .int .u64 acc/\k<=s.size/\k<=9/\acc<128^k/\Hid (X7 s=lift k acc (X1 k ((nums s).drop k)))/\w=wr) (fun _ i _=>s.size - (intOf i).toNat)
 case atStart=>exact⟨0,0,rfl,rfl,by omega,by omega,by decide,Qnx s,rfl⟩
 case round=>
  obtain⟨k,acc,rfl,rfl,aj,M,J,E,rfl⟩:=hrel;by_cases hlt:k<s.size
  ·have ak:(k:Int)< (s.size:Int):=by omega
   have N:(nums s).drop k=s[k].toNat ::(nums s).drop (k+1):=by
    rw[List.drop_eq_getElem_cons (by rw[nums_length];exact hlt),QeF s k hlt]
   rw[N] at E;have ai:s[k].toNat <256:=s[k].toNat_lt;have ae:=Zh N;clear N;go_wp2_with fail
   ·have D:X7 s=none:=by rw[E.out,Qle (by omega) (by omega)];rfl
    rw[Exit.Qan];go_ret2;exact⟨by rw[D];rfl,rfl⟩
   ·have D:X7 s=none:=by rw[E.out,Qgg (by omega) (by omega)];rfl
    rw[Exit.Qan];go_ret2;exact⟨by rw[D];rfl,rfl⟩
   ·have D:X7 s=some (acc+128^k*s[k].toNat,k+1):=by rw[E.out,Qd2 (by omega) (by omega) (by omega),Qey]
    have W:k=9:=by omega
    have I:=QeL (c:=s[k].toNat) rfl M (by omega) (by omega) J;have Z: ∀c:Nat,c<=1->IntKind.u64.wrap ((c:Int)*2^(7*k))=(c:Int)*9223372036854775808:=by
     intro c ah;have U:(2:Int)^(7*9)=9223372036854775808:=by decide
     rw[W,U,IntKind.wrap_u64];omega
    rw[Z _ (by omega)] at I;have Y:(10:Int)=((k+1:Nat):Int):=by omega
    rw[Exit.Qan];go_ret2;exact⟨by rw[D,I,Y];rfl,rfl⟩
   ·have ad:k≠9:=by omega
    have ac:128<=s[k].toNat :=by omega
    have O:=E.out;rw[Qnw ad ac] at O;exact⟨⟨k+1,acc+128^k*(s[k].toNat - 128),by go_num,by rw[QeL (c:=s[k].toNat - 128) (by omega) M (by omega) (by omega) J],by omega,by omega,Qj1 J (by omega),O,trivial⟩,by simp[intOf];omega⟩
   ·have D:X7 s=none:=by rw[E.out,Qgg (by omega) (by omega)];rfl
    rw[Exit.Qan];go_ret2;exact⟨by rw[D];rfl,rfl⟩
   ·have D:X7 s=some (acc+128^k*s[k].toNat,k+1):=by rw[E.out,Qd2 (by omega) (by omega) (by omega),Qey]
    have ab:s[k].toNat =0:=by omega
    rw[ab,Nat.mul_zero,Nat.add_zero] at D;have aa:acc<18446744073709551616:=by
     have af:128^k<=128^9:=Nat.pow_le_pow_right (by omega) M;have ag:128^9=9223372036854775808:=by decide
     omega
    have I:bits .or .u64 (acc:Int) 0=(acc:Int):=(u64_or_nat acc 0 aa (by omega)).trans (by rw[Nat.or_zero]);rw[Exit.Qan];go_ret2;exact⟨by rw[D,I];rfl,rfl⟩
   ·have D:X7 s=some (acc+128^k*s[k].toNat,k+1):=by rw[E.out,Qd2 (by omega) (by omega) (by omega),Qey]
    rw[Exit.Qan];go_ret2;exact⟨by rw[D,QeL rfl M (by omega) (by omega) J];rfl,rfl⟩
  ·have D:X7 s=none:=by
    rw[E.out,List.drop_eq_nil_of_le (by rw[nums_length];omega)];rfl
   have Q:=Zh D;clear D;go_wp2_with fail;rw[Exit.Qan];go_ret2;exact⟨by rw[Q.out];rfl,rfl⟩
end Go.Proofs.YtbleblbfadeciaaGreatDoor
namespace Go.Proofs.YtbleblbfadeciaaGreatDoor
open Go.RowKit Go.Acre
def Xo(T:TypeId)(w:World)(rb:Nat)(s:ByteArray):Prop:=w.heap[rb]? =some (.cells #[.string s] T (0,0))
theorem Xo.cell{T:TypeId}{w:World}{rb:Nat}{s:ByteArray}(h:Xo T w rb s):w.cell? ⟨rb,0,none⟩=some (.string s)/\w.frozen? ⟨rb,0,none⟩=false:=⟨Qb h 0,Qg h 0 none⟩
theorem Xo.set{T:TypeId}{w:World}{rb:Nat}{s:ByteArray}(h:Xo T w rb s)(t:ByteArray):Xo T (w.setCell ⟨rb,0,none⟩ (.string t)) rb t:=by
 unfold Xo at h ⊢;have:=Qi (o:=0) h (.string t)
 simpa using this
theorem QrH{w:World}{b o:Nat}{v:Value}:Qa (fun i=>i=b) w (w.setCell ⟨b,o,none⟩ v):=Qa.setCell (Zr (fun i=>i=b) w) (p:=⟨b,o,none⟩) (fun _=>rfl) _
theorem Xo.upd{T:TypeId}{w w':World}{rb:Nat}{s:ByteArray}(h:Xo T w rb s){S:Nat->Prop}(E:Qa S w w')(D: ¬S rb):Xo T w' rb s:=E.keep h D
theorem Qds(s:ByteArray)(w:World):Calls Tryz.prog 64 #[.string s] w fun e w'=>e= .returned (.pointer (some ⟨w.heap.size,0,none⟩))/\w'=w.alloc (.cells #[.string s] 213):=by
 go_enter Tryz.func64,Tryz.ntmps64;go_wp2_with fail;go_ret;exact⟨rfl,rfl⟩
theorem Qa1{w:World}{rb:Nat}{s:ByteArray}(h:Xo 213 w rb s):Calls Tryz.prog 128 #[.pointer (some ⟨rb,0,none⟩)] w fun e w'=>e= .returned (.string s)/\w=w':=by
 obtain⟨D,_⟩:=h.cell;clear h;go_enter Tryz.func128,Tryz.ntmps128;go_wp2_with fail;go_ret;exact⟨rfl,rfl⟩
theorem Qew{w:World}{rb:Nat}{s:ByteArray}(h:Xo 213 w rb s):Calls Tryz.prog 66 #[.pointer (some ⟨rb,0,none⟩)] w fun e w'=>e= .returned (.int .i64 s.size)/\w=w':=by
 have H:=Zh h;clear h;go_enter Tryz.func66,Tryz.ntmps66;go_wp2_with fail;refine (Qa1 H.out).mono ?_
 rintro e w' ⟨rfl,rfl⟩;go_wp2_with fail;go_ret;exact⟨rfl,rfl⟩
def QfJ(T:TypeId)(rb:Nat)(s:ByteArray)(n:Nat)(w:World)(e:Ending)(w':World):Prop:=e= .returned (.tuple #[.string (s.extract 0 n),.bool true])/\Xo T w' rb (s.extract n s.size)/\Qa (fun i=>i=rb) w w'
theorem take_any{w:World}{rb:Nat}{s:ByteArray}(h:Xo 213 w rb s)(n:Nat)(I:n<=s.size)(O:s.size<=9223372036854775807):Calls Tryz.prog 194 #[.pointer (some ⟨rb,0,none⟩),.int .i64 n] w (QfJ 213 rb s n w):=by
 obtain⟨D,E⟩:=h.cell;have H:=Zh (h.set (s.extract n s.size));have N:(n:Int)<=s.size:=by omega
 have J:(0:Int)<=n:=by omega
 have M: ¬(n:Int)>(s.size:Int):=by omega
 clear h;go_enter Tryz.func194,Tryz.ntmps194;go_wp2_with fail;go_ret2;exact⟨rfl,H.out,QrH⟩
def W8(s:ByteArray):Nat×Bool×ByteArray:=match X7 s with|some (v,n)=>(v,true,s.extract n s.size)|none=>(0,false,s)
def textS(most:Nat)(s:ByteArray):ByteArray×Bool×ByteArray:=match Qa8 s most with|some (t,n)=>(t,true,s.extract n s.size)|none=>(⟨#[]⟩,false,s)
def QbQ(T:TypeId)(rb:Nat)(s:ByteArray)(w:World)(e:Ending)(w':World):Prop:=e= .returned (.tuple #[.int .u64 ((W8 s).1:Nat),.bool (W8 s).2.1])/\Xo T w' rb (W8 s).2.2/\Qa (fun i=>i=rb) w w'
def QdM(T:TypeId)(most:Nat)(rb:Nat)(s:ByteArray)(w:World)(e:Ending)(w':World):Prop:=e= .returned (.tuple #[.string (textS most s).1,.bool (textS most s).2.1])/\Xo T w' rb (textS most s).2.2/\Qa (fun i=>i=rb) w w'
theorem extract_all(s:ByteArray):s.extract 0 s.size=s:=by
 apply Z5;rw[ZL,<-nums_length,List.take_length];rfl
set_option maxRecDepth 100000 in
theorem Qda{w:World}{rb:Nat}{s:ByteArray}(h:Xo 213 w rb s)(I:s.size<=9223372036854775807):Calls Tryz.prog 127 #[.pointer (some ⟨rb,0,none⟩)] w (QbQ 213 rb s w):=by
 have H:=Zh h;clear h
 cases hn:X7 s with
 |
  none=>
  have D:Hid (W8 s=(0,false,s)):=by show _=_;unfold W8;rw[hn]
  have J:Hid (X7 s=none):=hn;clear hn;go_enter Tryz.func127,Tryz.ntmps127;go_wp2_with fail;refine (Qa1 H.out).mono ?_
  rintro e w' ⟨rfl,rfl⟩;go_wp2_with fail;refine (Qby s _ I).mono ?_
  rintro e w' ⟨rfl,rfl⟩;rw[J.out];unfold fN sN;go_wp2_with fail;refine (take_any H.out 0 (by omega) I).mono ?_
  rintro e w' ⟨rfl,E,M⟩;rw[extract_all] at E;go_wp2_with fail;go_ret2;exact⟨by rw[D.out];rfl,by rw[D.out];exact E,M⟩
 |
  some p=>
  obtain⟨v,n⟩:=p;have D:Hid (W8 s=(v,true,s.extract n s.size)):=by show _=_;unfold W8;rw[hn]
  have J:Hid (X7 s=some (v,n)):=hn;have N:=(Qb3 hn).2.2.2.1;have U:=(Qb3 hn).2.2.2.2;have W:((n:Int)==0)=false:=by simp;omega
  clear hn;go_enter Tryz.func127,Tryz.ntmps127;go_wp2_with fail;refine (Qa1 H.out).mono ?_
  rintro e w' ⟨rfl,rfl⟩;go_wp2_with fail;refine (Qby s _ I).mono ?_
  rintro e w' ⟨rfl,rfl⟩;rw[J.out];rw[show fN (some (v,n))=v from rfl,show sN (some (v,n))=n from rfl];have Q:=Zh N;have Y: ¬n=0:=by omega
  clear N U;go_wp2_with fail;refine (take_any H.out n Q.out I).mono ?_
  rintro e w' ⟨rfl,E,M⟩;have O:=Zh E;clear E;go_wp2_with fail;go_ret2;exact⟨by rw[D.out];rfl,by rw[D.out];exact O.out,M⟩
theorem QlN(s:ByteArray)(n m:Nat):(s.extract 0 m).extract n m=s.extract n m:=by
 apply Z5;rw[ZL,ZL,ZL,List.drop_zero,List.take_take,Nat.min_self]
set_option maxRecDepth 100000 in
theorem Qil{w:World}{rb:Nat}{s:ByteArray}(h:Xo 213 w rb s)(J:s.size<=9223372036854775807)(E:Nat)(ac:E<=1048576):Calls Tryz.prog 133 #[.pointer (some ⟨rb,0,none⟩),.int .i64 E] w (QdM 213 E rb s w):=by
 have H:=Zh h;clear h
 cases hn:X7 s with
 |
  none=>
  have D:Hid (textS E s=(⟨#[]⟩,false,s)):=by show _=_;unfold textS Qa8;rw[hn]
  have I:Hid (X7 s=none):=hn;clear hn;go_enter Tryz.func133,Tryz.ntmps133;go_wp2_with fail;refine (Qa1 H.out).mono ?_
  rintro e w' ⟨rfl,rfl⟩;go_wp2_with fail;refine (Qby s _ J).mono ?_
  rintro e w' ⟨rfl,rfl⟩;rw[I.out,show fN none=0 from rfl,show sN none=0 from rfl];go_wp2_with fail;go_ret2;exact⟨by rw[D.out];rfl,by rw[D.out];exact H.out,Zr _ _⟩
 |
  some p=>
  obtain⟨v,n⟩:=p;have I:Hid (X7 s=some (v,n)):=hn;have M:=(Qb3 hn).2.2.2.1;have ah:=(Qb3 hn).2.2.2.2;have ai:=(Qb3 hn).2.2.1;have ad:((n:Int)==0)=false:=by simp;omega
  have ae: ¬n=0:=by omega
  have af:(n:Int)<=s.size:=by omega
  by_cases hv:v<=E
  ·have Z: ¬(v:Int)>(E:Int):=by omega
   have aj:(v:Int)<=E:=by omega
   by_cases hf:v<=s.size - n
   ·have D:Hid (textS E s=(s.extract n (n+v),true,s.extract (n+v) s.size)):=by show _=_;unfold textS Qa8;rw[hn];simp only;rw[if_pos ⟨hv,hf⟩]
    have Q:=Zh (QlN s n (n+v));have U: ¬(v:Int)>(s.size:Int) - (n:Int):=by omega
    have ab:(v:Int)<=s.size - (n:Int):=by omega
    have W:n+v<=s.size:=by omega
    have hsz:(s.extract 0 (n+v)).size =n+v:=by rw[ByteArray.size_extract];omega
    have ag:(n:Int)<=((s.extract 0 (n+v)).size :Int):=by omega
    have aa:=Zh hsz;clear hn M hf hsz;go_enter Tryz.func133,Tryz.ntmps133;go_wp2_with fail;refine (Qa1 H.out).mono ?_
    rintro e w' ⟨rfl,rfl⟩;go_wp2_with fail;refine (Qby s _ J).mono ?_
    rintro e w' ⟨rfl,rfl⟩;rw[I.out,show fN (some (v,n))=v from rfl,show sN (some (v,n))=n from rfl];go_wp2_with fail;rw[show (n:Int)+(v:Int)=((n+v:Nat):Int) from rfl];refine (take_any H.out (n+v) W J).mono ?_
    rintro e w' ⟨rfl,N,Y⟩;have O:=Zh N;clear N;go_wp2_with fail;go_ret2;exact⟨by rw[D.out,<-Q.out];rfl,by rw[D.out];exact O.out,Y⟩
   ·have D:Hid (textS E s=(⟨#[]⟩,false,s)):=by show _=_;unfold textS Qa8;rw[hn];simp only;rw[if_neg (fun h=>hf h.2)]
    have U:(v:Int)>(s.size:Int) - (n:Int):=by omega
    clear hn M hf;go_enter Tryz.func133,Tryz.ntmps133;go_wp2_with fail;refine (Qa1 H.out).mono ?_
    rintro e w' ⟨rfl,rfl⟩;go_wp2_with fail;refine (Qby s _ J).mono ?_
    rintro e w' ⟨rfl,rfl⟩;rw[I.out,show fN (some (v,n))=v from rfl,show sN (some (v,n))=n from rfl];go_wp2_with fail;go_ret2;exact⟨by rw[D.out];rfl,by rw[D.out];exact H.out,Zr _ _⟩
  ·have D:Hid (textS E s=(⟨#[]⟩,false,s)):=by show _=_;unfold textS Qa8;rw[hn];simp only;rw[if_neg (fun h=>hv h.1)]
   have Z:(v:Int)>(E:Int):=by omega
   clear hn M hv;go_enter Tryz.func133,Tryz.ntmps133;go_wp2_with fail;refine (Qa1 H.out).mono ?_
   rintro e w' ⟨rfl,rfl⟩;go_wp2_with fail;refine (Qby s _ J).mono ?_
   rintro e w' ⟨rfl,rfl⟩;rw[I.out,show fN (some (v,n))=v from rfl,show sN (some (v,n))=n from rfl];go_wp2_with fail;go_ret2;exact⟨by rw[D.out];rfl,by rw[D.out];exact H.out,Zr _ _⟩
end Go.Proofs.YtbleblbfadeciaaGreatDoor
namespace Go.Proofs.YtbleblbfadeciaaGreatDoor
open Go.RowKit Go.Acre
def val:List Nat->Nat
 |[]=>0
 |c::r=>c%128+128*val r
end Go.Proofs.YtbleblbfadeciaaGreatDoor
namespace Go.Proofs.YtbleblbfadeciaaGreatDoor
open Go.RowKit Go.Acre
end Go.Proofs.YtbleblbfadeciaaGreatDoor
namespace Go.Proofs.YtbleblbfadeciaaGreatDoor
variable{b db m n na:Nat}{S T:Nat->Prop}{v:Value}{w w':World}
section
open Go.RowKit Go.Acre Go.Acre.Dk Go.Maps
def RB:Value->Option (DataW Nat×List MemPlace)
 | .pointer (some ⟨b,0,none⟩)=>some (.held b,[])
 | .pointer none=>some (.nil,[])
 |_=>none
theorem QjS{D:List MemPlace}(h:RB v=some (.held b,D)):v= .pointer (some ⟨b,0,none⟩):=by
 unfold RB at h;split at h
 ·simp only[Option.some.injEq,Prod.mk.injEq,DataW.held.injEq] at h
  rw[h.1]
 ·simp at h
 ·cases h
theorem QjT{D:List MemPlace}(h:RB v=some (.nil,D)):v= .pointer none:=by
 unfold RB at h;split at h
 ·simp at h
 ·rfl
 ·cases h
def fileAt(w:World)(x:EB):Prop:=w.heap[x.2]? =some (.cells #[.string x.1.bytes,.int .i64 (x.1.synced:Nat)] 137 (0,0))
def XB(w:World)(db room used mb:Nat):Prop:=w.heap[db]? =some (.cells #[.int .i64 room,.int .i64 used,.map (some mb)] 89 (0,0))
abbrev plain(E:List EB):QT:=E.map fun x=>x.1
structure Xn(w:World)(S:Nat->Prop)(db room n:Nat)(E:List EB):Prop where
 may:May room (plain E)
 big:room<=9223372036854775807
 nodup:(E.map fun x=>x.2).Nodup
 file: ∀x∈E,S x.2/\fileAt w x
 sdb:S db
 below: ∀k,S k->k<w.heap.size
 root: ∃mb,S mb/\XB w db room (total (plain E)) mb/\w.ownsMap Tryz.prog 9 RB mb n (.map (Qq E))
def Has(w:World)(S:Nat->Prop)(db room n:Nat)(D:QT):Prop:= ∃E,Xn w S db room n E/\plain E=D
def Op(S:Nat->Prop)(w:World)(db room n:Nat)(D':QT)(code:Nat)(e:Ending)(w':World):Prop:=
 e= .returned (.int .i64 code)/\ ∃S',Has w' S' db room n D'/\(∀k,S' k->S k\/w.heap.size<=k)/\Qa S w w'
theorem Qbw{D:DataW Nat}(h:w.ownsMap Tryz.prog 9 RB na n D)(O:Qa T w w')(J: ¬T na):w'.ownsMap Tryz.prog 9 RB na n D:=by
 obtain⟨E,clock,M,F,N,I⟩:=h;exact⟨E,clock,O.keep M J,F,N,I⟩
theorem Xn.upd{room:Nat}{J:List EB}(h:Xn w S db room n J)(D:Qa T w w')(E: ∀k,S k-> ¬T k):Xn w' S db room n J:=by
 obtain⟨Q,M,N,O⟩:=h.root;exact⟨h.may,h.big,h.nodup,fun x I=>⟨(h.file x I).1,D.keep (h.file x I).2 (E _ (h.file x I).1)⟩,h.sdb,fun k hk=>Zu (h.below k hk) D.size,
  Q,M,D.keep N (E _ h.sdb),Qbw O D (E _ M)⟩
theorem Xn.mono{room:Nat}{D:List EB}(h:Xn w S db room n D)(M:n<=m):Xn w S db room m D:=by
 obtain⟨N,E,I,J⟩:=h.root;exact⟨h.may,h.big,h.nodup,h.file,h.sdb,h.below,N,E,I,J.mono M⟩
theorem Has.upd{room:Nat}{D:QT}(h:Has w S db room n D)(N:Qa T w w')(M: ∀k,S k-> ¬T k):Has w' S db room n D:=by
 obtain⟨E,I,J⟩:=h;exact⟨E,I.upd N M,J⟩
theorem Has.mono{room:Nat}{D:QT}(h:Has w S db room n D)(M:n<=m):Has w S db room m D:=by
 obtain⟨E,I,J⟩:=h;exact⟨E,I.mono M,J⟩
theorem Has.may{room:Nat}{D:QT}(h:Has w S db room n D):May room D:=by
 obtain⟨I,E,rfl⟩:=h;exact E.may
theorem K9{room used:Nat}(h:XB w db room used na):
  w.cell? ⟨db,0,none⟩=some (.int .i64 room)/\w.cell? ⟨db,1,none⟩=some (.int .i64 used)/\w.cell? ⟨db,2,none⟩=some (.map (some na))/\w.frozen? ⟨db,1,none⟩=false:=
 ⟨Qb h 0,Qb h 1,Qb h 2,Qg h 1 none⟩
theorem QaH{x:EB}(h:fileAt w x):
  w.cell? ⟨x.2,0,none⟩=some (.string x.1.bytes)/\w.cell? ⟨x.2,1,none⟩=some (.int .i64 (x.1.synced:Nat))/\w.frozen? ⟨x.2,0,none⟩=false/\w.frozen? ⟨x.2,1,none⟩=false:=
 ⟨Qb h 0,Qb h 1,Qg h 0 none,Qg h 1 none⟩
theorem Qap(D:List EB)(k:ByteArray):get Dk.En (plain D) k=(get Bn D k).map fun x=>x.1:=QnD Bn Dk.En (fun x=>x.1) (fun _=>rfl) k D
theorem Qjj(w:World):(zeroValue 135).run Tryz.prog w= .ok (.pointer none) w:=by kernel_rfl
theorem QcQ:Keyed Tryz.prog 9:=string_keyed Tryz.underlying9
theorem QcP{s:ByteArray}(h:s.size<=maxLen):keyOf Tryz.prog 9 (.string s)=some (key s):=WideMaps.keyOf_string_mk Tryz.underlying9 h
theorem Qez{D:List EB}{k:ByteArray}{f:Xj}(h:w.ownsMap Tryz.prog 9 RB na n (.map (Qq D)))(J:k.size<=maxLen)(I:get Bn D k=some (f,b)):
  (Instr.lookup 87 (.map (some na)) (.string k) false).run Tryz.prog w= .ok (.pointer (some ⟨b,0,none⟩)) w:=by
 obtain⟨v,N,M,E⟩:=h.lookup QcQ Tryz.underlying87 (Qjj w) (zd:=.nil) (zp:=[]) rfl (QcP J);rw[Qgt,I] at E;rw[M,QjS E]
theorem QhH{D:List EB}{k:ByteArray}(h:w.ownsMap Tryz.prog 9 RB na n (.map (Qq D)))(J:k.size<=maxLen)(I:get Bn D k=none):
  (Instr.lookup 87 (.map (some na)) (.string k) false).run Tryz.prog w= .ok (.pointer none) w:=by
 obtain⟨v,N,M,E⟩:=h.lookup QcQ Tryz.underlying87 (Qjj w) (zd:=.nil) (zp:=[]) rfl (QcP J);rw[Qgt,I] at E;rw[M,QjT E]
theorem QnF(D:Nat)(w:World):(binOp .eql 87 (.map (some D)) (.map none)).run Tryz.prog w= .ok (.bool false) w:=by kernel_rfl
set_option maxRecDepth 100000 in
theorem QaO(db D:Nat)(w:World)(h:w.cell? ⟨db,2,none⟩=some (.map (some D))):Calls Tryz.prog 109 #[.pointer (some ⟨db,0,none⟩)] w fun e w'=>e= .returned (.bool false)/\w=w':=by
 have E:=QnF D w;go_enter Tryz.func109,Tryz.ntmps109;go_wp2_with fail;go_ret;exact⟨rfl,rfl⟩
def Qdy(b:Bool)(w:World)(e:Ending)(w':World):Prop:=e= .returned (.bool b)/\w=w'
theorem QmK{b:ByteArray}(h:b.size=0):b.toList.isEmpty=true:=by
 obtain rfl:b=⟨#[]⟩:=ByteArray.ext (Array.eq_empty_of_size_eq_zero h);rw[ByteArray.toList_eq];rfl
theorem Qek{b:ByteArray}(h:0<b.size):b.toList.isEmpty=false:=by
 rw[ByteArray.toList_eq]
 cases hb:b.data.toList with
 |nil=>
      have:b.size=0:=by show b.data.size=0;rw[<-Array.length_toList,hb];rfl
      omega
 |cons x l=>rfl
theorem name_any(s:ByteArray)(w:World):Calls Tryz.prog 192 #[.string s] w (Qdy (Zp s) w):=by
 by_cases h0:s.size=0
 ·have I:=QmK h0
  have D:Hid (Zp s=false):=by show _=_;unfold Zp;simp;omega
  go_enter Tryz.func192,Tryz.ntmps192;go_wp2_with fail;go_ret;exact⟨by rw[D.out];rfl,rfl⟩
 ·have I:=Qek (b:=s) (by omega)
  by_cases h1:s.size<=64
  ·have D:Hid (Zp s=true):=by show _=_;unfold Zp;simp;omega
   have E:decide ((s.size:Int)<=64)=true:=by simp;omega
   go_enter Tryz.func192,Tryz.ntmps192;go_wp2_with fail;go_ret;exact⟨by rw[D.out];simp,rfl⟩
  ·have D:Hid (Zp s=false):=by show _=_;unfold Zp;simp;omega
   have E:decide ((s.size:Int)<=64)=false:=by simp;omega
   go_enter Tryz.func192,Tryz.ntmps192;go_wp2_with fail;go_ret;exact⟨by rw[D.out];simp,rfl⟩
theorem QeG{room:Nat}{D:List EB}(h:Xn w S db room n D){k:ByteArray}(N:k.size<=maxLen){f:Xj}(M:get Bn D k=some (f,b)):
  Calls Tryz.prog 115 #[.pointer (some ⟨db,0,none⟩),.string k] w fun e w'=>e= .returned (.tuple #[.pointer (some ⟨b,0,none⟩),.int .i64 0])/\w=w':=by
 obtain⟨O,_,I,E⟩:=h.root;obtain⟨_,_,J,_⟩:=K9 I;have Q:=Qez E N M;clear h I E;go_enter Tryz.func115,Tryz.ntmps115;go_wp2_with fail;refine (QaO db O _ J).mono ?_
 rintro e w' ⟨rfl,rfl⟩;go_wp2_with fail;go_ret2;exact⟨rfl,rfl⟩
theorem of_none{room:Nat}{D:List EB}(h:Xn w S db room n D){k:ByteArray}(N:k.size<=maxLen)(M:get Bn D k=none):
  Calls Tryz.prog 115 #[.pointer (some ⟨db,0,none⟩),.string k] w fun e w'=>e= .returned (.tuple #[.pointer none,.int .i64 5])/\w=w':=by
 obtain⟨O,_,I,E⟩:=h.root;obtain⟨_,_,J,_⟩:=K9 I;have Q:=QhH E N M;clear h I E;go_enter Tryz.func115,Tryz.ntmps115;go_wp2_with fail;refine (QaO db O _ J).mono ?_
 rintro e w' ⟨rfl,rfl⟩;go_wp2_with fail;go_ret2;exact⟨rfl,rfl⟩
def Qjq(room:Nat)(w:World)(e:Ending)(w':World):Prop:=
 ∃db S,e= .returned (.pointer (some ⟨db,0,none⟩))/\Has w' S db room 0 []/\(∀k,S k->w.heap.size<=k)/\Qa Ze w w'
theorem QnW(w:World)(room:Nat)(D:room<=9223372036854775807):
  Has ((w.alloc (.map #[] 0)).alloc (.cells #[.int .i64 room,.int .i64 0,.map (some w.heap.size)] 89)) (fun k=>k=w.heap.size\/k=w.heap.size+1) (w.heap.size+1) room 0 []:=by
 have E:(w.alloc (.map #[] 0)).heap.size =w.heap.size+1:=by simp
 refine⟨[],⟨QnG room,D,by simp,by simp,.inr rfl,?_,w.heap.size,.inl rfl,?_,?_⟩,rfl⟩
 ·rintro k (rfl|rfl)
  ·simp;omega
  ·simp
 ·have:=Qf (w:=w.alloc (.map #[] 0)) (.cells #[.int .i64 room,.int .i64 0,.map (some w.heap.size)] 89)
  rw[E] at this;exact this
 ·exact (World.ownsMap_made w Tryz.prog 9 RB).alloc _
theorem Qll(r:Int)(w:World)(h: -9223372036854775808<=r/\r<=9223372036854775807):Calls Tryz.prog 7 #[.int .i64 r] w (Qjq r.toNat w):=by
 have N:= @run_makeMap Tryz.prog;have I:=QnW w r.toNat (by omega);have J:Qa Ze w ((w.alloc (.map #[] 0)).alloc (.cells #[.int .i64 r.toNat,.int .i64 0,.map (some w.heap.size)] 89)):=((Zr _ w).alloc _).alloc _;have D:=Zh I;have E:=Zh J;clear I J;by_cases hr:r<0
 ·have M:r.toNat=0:=by omega
  rw[M] at D E ⊢;go_enter Tryz.func7,Tryz.ntmps7;go_wp2_with fail;go_ret;exact⟨_,_,rfl,D.out,by rintro k (rfl|rfl)<;>omega,E.out⟩
 ·obtain⟨m,rfl⟩: ∃m:Nat,r=(m:Int):=⟨r.toNat,by omega⟩
  rw[Int.toNat_natCast] at D E ⊢;go_enter Tryz.func7,Tryz.ntmps7;go_wp2_with fail;go_ret;exact⟨_,_,rfl,D.out,by rintro k (rfl|rfl)<;>omega,E.out⟩
def QaZ(D:QT)(k:ByteArray):ByteArray×Nat:=match get Dk.En D k with|some f=>(f.bytes,0)|none=>(⟨#[]⟩,5)
def QjU(r:ByteArray×Nat)(w:World)(e:Ending)(w':World):Prop:=e= .returned (.tuple #[.string r.1,.int .i64 (r.2:Nat)])/\w=w'
theorem QpM{room:Nat}{O:QT}(h:Has w S db room n O)(k:ByteArray)(Q:k.size<=maxLen):
  Calls Tryz.prog 58 #[.pointer (some ⟨db,0,none⟩),.string k] w (QjU (QaZ O k) w):=by
 obtain⟨I,E,rfl⟩:=h;have D:=Qap I k
 cases hg:get Bn I k with
 |
  none=>
  rw[hg] at D;have N:Hid (QaZ (plain I) k=(⟨#[]⟩,5)):=by show _=_;unfold QaZ;rw[D];rfl
  clear D;have J:=Zh E;have M:=Zh hg;clear E hg;go_enter Tryz.func58,Tryz.ntmps58;go_wp2_with fail;refine (of_none J.out Q M.out).mono ?_
  rintro e w' ⟨rfl,rfl⟩;go_wp2_with fail;go_ret2;exact⟨by rw[N.out];rfl,rfl⟩
 |
  some x=>
  obtain⟨f,b⟩:=x;rw[hg] at D;have N:Hid (QaZ (plain I) k=(f.bytes,0)):=by show _=_;unfold QaZ;rw[D];rfl
  obtain⟨U,_⟩:=QaH (E.file _ (W0 Bn hg).1).2;clear D;have J:=Zh E;have M:=Zh hg;clear E hg;simp only at U;go_enter Tryz.func58,Tryz.ntmps58;go_wp2_with fail;refine (QeG J.out Q M.out).mono ?_
  rintro e w' ⟨rfl,rfl⟩;go_wp2_with fail;go_ret2;exact⟨by rw[N.out];rfl,rfl⟩
theorem Xn.set{room:Nat}{E:List EB}(h:Xn w S db room n E){f f':Xj}(af:get Bn E f.name=some (f,b))(Z:f'.name=f.name)
  (ag:May room (put Dk.En f' (plain E))) (Y:Qa (fun i=>i=b\/i=db) w w') (ae:fileAt w' (f',b)) (al: ∀I,XB w db room (total (plain E)) I->XB w' db room (total (put Dk.En f' (plain E))) I):
  Xn w' S db room n (put Bn (f',b) E)/\plain (put Bn (f',b) E)=put Dk.En f' (plain E):=by
 have U:plain (put Bn (f',b) E)=put Dk.En f' (plain E):=QhJ Bn Dk.En (fun x=>x.1) (fun _=>rfl) (f',b) E;refine⟨?_,U⟩;obtain⟨O,_⟩:=W0 Bn af;have am:QQ Bn E:=(QcW Bn Dk.En (fun x:EB=>x.1) (fun _=>rfl)).1 h.may.srt;obtain⟨l1,l2,rfl⟩:=List.append_of_mem O;have W:put Bn (f',b) (l1++(f,b)::l2)=l1++(f',b)::l2:=Qc8 Bn am Z;obtain⟨I,ac,J,M⟩:=h.root;have ah:I≠b:=by
  rintro rfl;obtain⟨ab,clock,N,_⟩:=M;have:=(h.file _ O).2;unfold fileAt at this;rw[N] at this
  cases this
 have ai:I≠db:=by
  rintro rfl;obtain⟨ab,clock,N,_⟩:=M;unfold XB at J;rw[N] at J
  cases J
 have ad:Qq (put Bn (f',b) (l1++(f,b)::l2))=Qq (l1++(f,b)::l2):=by
  rw[W];simp[Qq,Z]
 refine⟨by rw[U];exact ag,h.big,?_,fun x D=> ?_,h.sdb,fun k hk=>Zu (h.below k hk) Y.size,I,ac,?_,?_⟩
 ·rw[W]
  have:=h.nodup
  simpa using this
 ·rw[W] at D
  have an:x=(f',b)\/(x∈l1++(f,b)::l2/\x.2≠b):=by
   have Q:=h.nodup;simp only[List.map_append,List.map_cons] at Q;rw[List.nodup_append] at Q;obtain⟨_,aa,aj⟩:=Q;rw[List.nodup_cons] at aa;rcases List.mem_append.1 D with D|D
   ·exact .inr ⟨by simp[D],fun e=>aj x.2 (List.mem_map.2 ⟨x,D,rfl⟩) b (by simp) e⟩
   ·rcases List.mem_cons.1 D with rfl|D
    ·exact .inl rfl
    ·exact .inr ⟨by simp[D],fun e=>aa.1 (by rw[<-e];exact List.mem_map.2 ⟨x,D,rfl⟩)⟩
  rcases an with rfl|⟨D,ak⟩
  ·exact⟨(h.file _ O).1,ae⟩
  ·refine⟨(h.file x D).1,Y.keep (h.file x D).2 ?_⟩
   rintro (e|e)
   ·exact ak e
   ·have:=(h.file x D).2
    unfold fileAt at this;unfold XB at J;rw[e,J] at this;simp at this
 ·rw[U];exact al I J
 ·rw[ad]
  exact Qbw M Y (fun e=>e.elim ah ai)
theorem QgB{f:Xj}(h:fileAt w (f,b)):fileAt (w.setCell ⟨b,1,none⟩ (.int .i64 m)) (⟨f.name,f.bytes,m⟩,b):=by
 unfold fileAt at h ⊢;rw[Qi h];rfl
theorem QgA{f:Xj}{s:ByteArray}(h:fileAt w (f,b)):fileAt (w.setCell ⟨b,0,none⟩ (.string s)) (⟨f.name,s,f.synced⟩,b):=by
 unfold fileAt at h ⊢;rw[Qi h];rfl
theorem Qe0{room used:Nat}(h:XB w db room used na):XB (w.setCell ⟨db,1,none⟩ (.int .i64 m)) db room m na:=by
 unfold XB at h ⊢;rw[Qi h];rfl
theorem XB.upd{room used:Nat}(h:XB w db room used na)(E:Qa T w w')(D: ¬T db):XB w' db room used na:=E.keep h D
theorem fileAt.upd{x:EB}(h:fileAt w x)(E:Qa T w w')(D: ¬T x.2):fileAt w' x:=E.keep h D
theorem Qbn{x:EB}{room used:Nat}(h:fileAt w x)(D:XB w db room used na):x.2≠db:=by
 intro e;unfold fileAt at h;unfold XB at D;rw[e,D] at h;simp at h
theorem Qra{room:Nat}{Q:QT}(h:Has w S db room n Q)(k:ByteArray)(aa:k.size<=maxLen):
  Calls Tryz.prog 125 #[.pointer (some ⟨db,0,none⟩),.string k] w (Op S w db room n (Wb Q k).1 (Wb Q k).2):=by
 obtain⟨E,D,rfl⟩:=h;have I:=Qap E k
 cases hg:get Bn E k with
 |
  none=>
  rw[hg] at I;have J:Hid (Wb (plain E) k=(plain E,5)):=by show _=_;unfold Wb;rw[I];rfl
  clear I;have M:=Zh D;have U:=Zh hg;clear D hg;go_enter Tryz.func125,Tryz.ntmps125;go_wp2_with fail;refine (of_none M.out aa U.out).mono ?_
  rintro e w' ⟨rfl,rfl⟩;go_wp2_with fail;go_ret;exact⟨by rw[J.out];rfl,S,⟨E,M.out,by rw[J.out]⟩,fun _ h=>.inl h,Zr _ _⟩
 |
  some x=>
  obtain⟨f,b⟩:=x;rw[hg] at I;obtain⟨O,W⟩:=W0 Bn hg;have W:f.name=k:=W;subst W;have J:Hid (Wb (plain E) f.name=(put Dk.En ⟨f.name,f.bytes,f.bytes.size⟩ (plain E),0)):=by show _=_;unfold Wb;rw[I];rfl
  have N:=(D.file _ O).2;obtain⟨ag,ah,_,aj⟩:=QaH N;have Y:=QnH D.may f.name;rw[J.out] at Y;have hsz:f.bytes.size<=total (plain E):=Qa4 (List.mem_map.2 ⟨_,O,rfl⟩);have al:=D.may.fits;have ak:=D.big;have ae:=Qdq D.may.srt (x:=⟨f.name,f.bytes,f.bytes.size⟩) (f:=f) (by rw[I];rfl);obtain⟨ai,_,ac,_⟩:=D.root;have ab:=Qbn N ac;have ad:=D.set hg (f':=⟨f.name,f.bytes,f.bytes.size⟩) rfl Y ((Zr (fun i=>i=b\/i=db) w).setCell (p:=⟨b,1,none⟩) (fun _=>.inl rfl) (.int .i64 f.bytes.size)) (QgB N)
   (fun ai h=>by
    have:total (put Dk.En ⟨f.name,f.bytes,f.bytes.size⟩ (plain E))=total (plain E):=by simp only at ae;omega
    rw[this];exact h.upd ((Zr (fun i=>i=b) w).setCell (p:=⟨b,1,none⟩) (fun _=>rfl) _) (fun e=>ab e.symm))
  have Z:=Zh ad;have af:=Zh (D.file _ O).1;have M:=Zh D;have U:=Zh hg;clear D hg N O Y ae ac ab ad I;simp only at ag ah aj;go_enter Tryz.func125,Tryz.ntmps125;go_wp2_with fail;refine (QeG M.out aa U.out).mono ?_
  rintro e w' ⟨rfl,rfl⟩;go_wp2_with fail;go_ret;exact⟨by rw[J.out];rfl,S,⟨_,Z.out.1,by rw[J.out];exact Z.out.2⟩,fun _ h=>.inl h,(Zr S w).setCell (p:=⟨b,1,none⟩) (fun _=>af.out) _⟩
theorem Xn.cut{room:Nat}{D:List EB}(h:Xn w S db room n D){k:ByteArray}(U:XB w db room (total (plain D)) na)(Q:S na)
  (J:Qa (fun i=>i=na\/i=db) w w') (W:XB w' db room (total (drop En k (plain D))) na) (N:w.ownsMap Tryz.prog 9 RB na n (.map (Qq D))) (O:w'.ownsMap Tryz.prog 9 RB na n ((DataW.map (Qq D)).del (key k))):
  Xn w' S db room n (drop Bn k D)/\plain (drop Bn k D)=drop En k (plain D):=by
 have I:plain (drop Bn k D)=drop En k (plain D):=map_drop Bn Dk.En (fun x=>x.1) (fun _=>rfl) k D;refine⟨⟨by rw[I];exact h.may.drop k,h.big,?_,fun x Y=> ?_,h.sdb,fun j hj=>Zu (h.below j hj) J.size,na,Q,by rw[I];exact W,by rw[QlE];exact O⟩,I⟩
 ·exact List.Nodup.sublist (List.Sublist.map _ List.filter_sublist) h.nodup
 ·have E:=((Qb2 Bn).1 Y).1
  refine⟨(h.file x E).1,J.keep (h.file x E).2 ?_⟩;rintro (e|e)
  ·obtain⟨Z,clock,M,_⟩:=N
   have:=(h.file x E).2;unfold fileAt at this;rw[e,M] at this
   cases this
  ·exact Qbn (h.file x E).2 U e
set_option maxRecDepth 100000 in
theorem Qio{room:Nat}{U:QT}(h:Has w S db room n U)(k:ByteArray)(I:k.size<=maxLen):
  Calls Tryz.prog 55 #[.pointer (some ⟨db,0,none⟩),.string k] w (Op S w db room n (KR U k).1 (KR U k).2):=by
 obtain⟨D,E,rfl⟩:=h;have M:=Qap D k
 cases hg:get Bn D k with
 |
  none=>
  rw[hg] at M;have Q:Hid (KR (plain D) k=(plain D,5)):=by show _=_;unfold KR;rw[M];rfl
  clear M;have N:=Zh E;have W:=Zh hg;clear E hg;go_enter Tryz.func55,Tryz.ntmps55;go_wp2_with fail;refine (of_none N.out I W.out).mono ?_
  rintro e w' ⟨rfl,rfl⟩;go_wp2_with fail;go_ret;exact⟨by rw[Q.out];rfl,S,⟨D,N.out,by rw[Q.out]⟩,fun _ h=>.inl h,Zr _ _⟩
 |
  some x=>
  obtain⟨f,b⟩:=x;rw[hg] at M;obtain⟨aa,Y⟩:=W0 Bn hg;have Y:f.name=k:=Y;subst Y;have Q:Hid (KR (plain D) f.name=(drop Dk.En f.name (plain D),0)):=by show _=_;unfold KR;rw[M];rfl
  have Z:=(E.file _ aa).2;obtain⟨aq,_⟩:=QaH Z;have hsz:f.bytes.size<=total (plain D):=Qa4 (List.mem_map.2 ⟨_,aa,rfl⟩);have au:=E.may.fits;have aD:=E.big;have az:=QbL E.may.srt (f:=f) (by rw[M];rfl);obtain⟨O,ai,J,ab⟩:=E.root;obtain⟨_,aB,aF,aG⟩:=K9 J;have av:=Qbn Z J;have aj:O≠db:=by
   rintro rfl;obtain⟨aC,clock,ar,_⟩:=ab;unfold XB at J;rw[ar] at J
   cases J
  have af:Hid (total (drop Dk.En f.name (plain D))=total (plain D) - f.bytes.size):=by show _=_;omega
  have ap:=Zh J;have ae:=Zh J;have ad:=Zh ab;have N:=Zh E;have W:=Zh hg;have ah:=QcP I;have an:=Zh ah;clear E hg Z aa az J av ab M ah;simp only at aq;obtain⟨t,ak⟩: ∃t,t=total (plain D):=⟨_,rfl⟩
  rw[<-ak] at hsz au aB af ae;clear ak;have ay:Hid ((t:Int) - (f.bytes.size:Int)=((t - f.bytes.size:Nat):Int)):=by show _=_;omega
  have aE:IntKind.i64.wrap ((t:Int) - (f.bytes.size:Int))=(t:Int) - (f.bytes.size:Int):=by rw[IntKind.wrap_i64];omega
  go_enter Tryz.func55,Tryz.ntmps55;go_wp2_with fail;refine (QeG N.out I W.out).mono ?_
  rintro e w' ⟨rfl,rfl⟩;go_wp2_with fail;have ag:Hid (Qa (fun i=>i=db) w (w.setCell ⟨db,1,none⟩ (.int .i64 ((t:Int) - (f.bytes.size:Int)))).drew):=((Zr (fun i=>i=db) w).setCell (p:=⟨db,1,none⟩) (fun _=>rfl) _).drew;have ao:Hid (XB (w.setCell ⟨db,1,none⟩ (.int .i64 ((t:Int) - (f.bytes.size:Int)))).drew db room (total (drop Dk.En f.name (plain D))) O):=by
   show XB _ _ _ _ _;rw[af.out,ay.out];exact Qe0 ae.out
  go_still_tail 12,(by kernel_rfl)
  go_wp2_with (at_delete;refine wpList_delete_own _ rfl _ _ 87 9 rfl 135 QcQ Tryz.underlying87 RB O n (.map (Qq D)) rfl ?hown _ _ rfl an.out ?_)
  case hown=>exact Qbw ad.out ag.out aj
  intro ac aw al;have am:Qa (fun i=>i=O\/i=db) w ac:=(ag.out.mono (fun _ _ h=>Or.inr h)).X8 al.grown (fun k I _=>by simp at I;exact .inl I.symm);have ax:XB ac db room (total (drop Dk.En f.name (plain D))) O:=ao.out.upd ((Zr (fun i=>i=O) _).X8 al.grown (fun k I _=>by simp at I;exact I.symm)) (fun e=>aj e.symm);have hcut:=N.out.cut ap.out ai am ax ad.out aw;have aA:Qa S w ac:=am.mono (fun i _ h=>by rcases h with rfl|rfl;exact ai;exact N.out.sdb);go_wp2_with fail;go_ret;exact⟨by rw[Q.out];rfl,S,⟨_,hcut.1,by rw[Q.out];exact hcut.2⟩,fun _ h=>.inl h,aA⟩
theorem Xn.added{room:Nat}{D:List EB}(h:Xn w S db room n D){nn:ByteArray}(Q:get Bn D nn=none)(af:Zp nn=true)
  (I:XB w db room (total (plain D)) na) (ac:S na) (U:w.ownsMap Tryz.prog 9 RB na n (.map (Qq D))) (N:Qa (fun i=>i=na) w w') (O:fileAt w' (⟨nn,⟨#[]⟩,0⟩,b)) (ai:w.heap.size<=b)
  (ab:w'.ownsMap Tryz.prog 9 RB na (n+1) ((DataW.map (Qq D)).put (key nn) (.held b))):
  Xn w' (fun k=>S k\/k=b) db room (n+1) (put Bn (⟨nn,⟨#[]⟩,0⟩,b) D)/\plain (put Bn (⟨nn,⟨#[]⟩,0⟩,b) D)=put Dk.En ⟨nn,⟨#[]⟩,0⟩ (plain D):=by
 have M:plain (put Bn (⟨nn,⟨#[]⟩,0⟩,b) D)=put Dk.En ⟨nn,⟨#[]⟩,0⟩ (plain D):=QhJ Bn Dk.En (fun x=>x.1) (fun _=>rfl) (⟨nn,⟨#[]⟩,0⟩,b) D;have Z:get Dk.En (plain D) nn=none:=by rw[Qap,Q];rfl
 have W:total (put Dk.En ⟨nn,⟨#[]⟩,0⟩ (plain D))=total (plain D):=Qff (x:=⟨nn,⟨#[]⟩,0⟩) Z;have ad:na≠db:=by
  rintro rfl;obtain⟨Y,clock,J,_⟩:=U;unfold XB at I;rw[J] at I
  cases I
 have ag:put Bn (⟨nn,⟨#[]⟩,0⟩,b) D=ins Bn (⟨nn,⟨#[]⟩,0⟩,b) D:=by
  have:drop Bn nn D=D:=QcA Bn Q;show ins Bn _ (drop Bn nn D)=_;rw[this]
 refine⟨⟨by rw[M];exact h.may.put af (Zz _) (by rw[W];exact h.may.fits),h.big,?_,fun x E=> ?_,.inl h.sdb,?_,na,.inl ac,?_,?_⟩,M⟩
 ·rw[ag,((QmE Bn _ D).map _).nodup_iff,List.map_cons,List.nodup_cons]
  refine⟨fun ae=> ?_,h.nodup⟩;obtain⟨x,E,e⟩:=List.mem_map.1 ae;have ah:=h.below _ (h.file x E).1;have e:x.2=b:=e;omega
 ·rcases (QcX Bn).1 E with rfl|⟨E,_⟩
  ·exact⟨.inr rfl,O⟩
  ·refine⟨.inl (h.file x E).1,(h.file x E).2.upd N (fun e=> ?_)⟩
   obtain⟨Y,clock,J,_⟩:=U;have:=(h.file x E).2;unfold fileAt at this;rw[e,J] at this
   cases this
 ·rintro k (aa|rfl)
  ·exact Zu (h.below k aa) N.size
  ·exact Ql O
 ·rw[M,W]
  exact I.upd N (fun e=>ad e.symm)
 ·rw[QlG]
  exact ab
theorem Xn.grown{room:Nat}{D:List EB}(h:Xn w S db room n D){nn data:ByteArray}{f:Xj}(I:get Bn D nn=some (f,b))(W:data.size<=room - total (plain D))(Z:m=total (plain D)+data.size):
  Xn ((w.setCell ⟨b,0,none⟩ (.string (f.bytes++data))).setCell ⟨db,1,none⟩ (.int .i64 m)) S db room n (put Bn (⟨nn,f.bytes++data,f.synced⟩,b) D)/\
  plain (put Bn (⟨nn,f.bytes++data,f.synced⟩,b) D)=put Dk.En ⟨nn,f.bytes++data,f.synced⟩ (plain D):=by
 obtain⟨J,E⟩:=W0 Bn I;have E:f.name=nn:=E;subst E;have O:get Dk.En (plain D) f.name=some f:=by rw[Qap,I];rfl
 have U:=Qdq h.may.srt (x:=⟨f.name,f.bytes++data,f.synced⟩) (f:=f) O;simp only[ByteArray.size_append] at U;have Y:=h.may.fits;have M:=(h.file _ J).2;have aa:f.synced<=f.bytes.size:=h.may.syn f (List.mem_map.2 ⟨_,J,rfl⟩);obtain⟨ab,_,Q,_⟩:=h.root;have N:=Qbn M Q;refine h.set I (f':=⟨f.name,f.bytes++data,f.synced⟩) rfl (h.may.put (h.may.names f (List.mem_map.2 ⟨_,J,rfl⟩)) (by simp only[ByteArray.size_append];omega) (by omega))
  (((Zr (fun i=>i=b\/i=db) w).setCell (p:=⟨b,0,none⟩) (fun _=>.inl rfl) _).setCell (p:=⟨db,1,none⟩) (fun _=>.inr rfl) _) ?_ (fun mb hr=> ?_)
 ·exact (QgA M).upd ((Zr (fun i=>i=db) _).setCell (p:=⟨db,1,none⟩) (fun _=>rfl) _) N
 ·have e:m=total (put Dk.En ⟨f.name,f.bytes++data,f.synced⟩ (plain D)):=by omega
  rw[e];exact Qe0 (hr.upd ((Zr (fun i=>i=b) w).setCell (p:=⟨b,0,none⟩) (fun _=>rfl) _) (fun e=>N e.symm))
theorem Xn.heap{room:Nat}{D:List EB}(h:Xn w S db room n D)(e:w'.heap=w.heap):Xn w' S db room n D:=by
 obtain⟨W,M,E,N⟩:=h.root;refine⟨h.may,h.big,h.nodup,fun x I=>⟨(h.file x I).1,by have:=(h.file x I).2;unfold fileAt at this ⊢;rw[e];exact this⟩,h.sdb,fun k hk=>by rw[e];exact h.below k hk,W,M,by unfold XB at E ⊢;rw[e];exact E,?_⟩;obtain⟨J,clock,Q,F,U,O⟩:=N;exact⟨J,clock,by rw[e];exact Q,F,U,O⟩
theorem Qkb{room:Nat}{E:List EB}(h:Xn w S db room n E)(nn data:ByteArray)(J:Zp nn=false):
  Calls Tryz.prog 124 #[.pointer (some ⟨db,0,none⟩),.string nn,.string data] w fun e w'=>e= .returned (.int .i64 2)/\w=w':=by
 obtain⟨M,_,D,_⟩:=h.root;obtain⟨_,_,I,_⟩:=K9 D;clear h D;go_enter Tryz.func124,Tryz.ntmps124;go_wp2_with fail;refine (QaO db M _ I).mono ?_
 rintro e w' ⟨rfl,rfl⟩;go_wp2_with fail;refine (name_any nn _).mono ?_
 rintro e w' ⟨rfl,rfl⟩;rw[J];go_wp2_with fail;go_ret;exact⟨rfl,rfl⟩
set_option maxRecDepth 100000 in
theorem Qkd{room:Nat}{D:List EB}(h:Xn w S db room n D)(nn data:ByteArray)(J:Zp nn=true)(Y: ¬data.size<=room - total (plain D))(W:data.size<=9223372036854775807):
  Calls Tryz.prog 124 #[.pointer (some ⟨db,0,none⟩),.string nn,.string data] w fun e w'=>e= .returned (.int .i64 7)/\Qa Ze w w':=by
 obtain⟨M,_,E,_⟩:=h.root;obtain⟨_,O,I,_⟩:=K9 E;obtain⟨N,_⟩:=K9 E;have Z:=h.may.fits;have Q:=h.big;clear h E;generalize total (plain D)=t at*
 have aa:IntKind.i64.wrap ((room:Int) - (t:Int))=(room:Int) - (t:Int):=by rw[IntKind.wrap_i64];omega
 have U:decide ((room:Int) - (t:Int)< (data.size:Int))=true:=by simp;omega
 go_enter Tryz.func124,Tryz.ntmps124;go_wp2_with fail;refine (QaO db M _ I).mono ?_
 rintro e w' ⟨rfl,rfl⟩;go_wp2_with fail;refine (name_any nn _).mono ?_
 rintro e w' ⟨rfl,rfl⟩;rw[J];go_wp2_with fail;go_quiet (fail);go_wp2_with fail;go_ret;exact⟨rfl,(Zr _ w).drewN _⟩
set_option maxRecDepth 100000 in
theorem Qkf{room:Nat}{D:List EB}(h:Xn w S db room n D)(nn data:ByteArray)(ae:nn.size<=maxLen)(ag:Zp nn=true)(W:data.size<=room - total (plain D)){f:Xj}(E:get Bn D nn=some (f,b)):
  Calls Tryz.prog 124 #[.pointer (some ⟨db,0,none⟩),.string nn,.string data] w (Op S w db room n (put Dk.En ⟨nn,f.bytes++data,f.synced⟩ (plain D)) 0):=by
 obtain⟨Y,_,O,N⟩:=h.root;obtain⟨al,ab,ac,aq⟩:=K9 O;obtain⟨I,_⟩:=W0 Bn E;have J:=(h.file _ I).2;obtain⟨ad,_,ai,_⟩:=QaH J;have af:=h.may.fits;have am:=h.big;have hsz:f.bytes.size<=total (plain D):=Qa4 (List.mem_map.2 ⟨_,I,rfl⟩);have ah:=Qbn J O;obtain⟨t,Q⟩: ∃t,t=total (plain D):=⟨_,rfl⟩
 have M:=h.grown E W (m:=t+data.size) (by rw[Q]);rw[show ((t+data.size:Nat):Int)=(t:Int)+(data.size:Int) from by omega] at M;have U:=Zh M;have ao: ∀q,(Instr.lookup 87 (.map (some Y)) (.string nn) false).run Tryz.prog (w.drewN q)= .ok (.pointer (some ⟨b,0,none⟩)) (w.drewN q):=fun q=>Qez (Qbw N ((Zr Ze w).drewN q) (fun f=>f)) ae E
 clear M;have Z:=Zh (h.file _ I).1;have aa:=Zh h.sdb;rw[<-Q] at W af hsz ab;have ak:=Zh N;have aj:=Zh E;clear h O J N Q I E;simp only at ad ai ah;have ap:IntKind.i64.wrap ((room:Int) - (t:Int))=(room:Int) - (t:Int):=by rw[IntKind.wrap_i64];omega
 have an:decide ((room:Int) - (t:Int)< (data.size:Int))=false:=by simp;omega
 go_enter Tryz.func124,Tryz.ntmps124;go_wp2_with fail;refine (QaO db Y _ ac).mono ?_
 rintro e w' ⟨rfl,rfl⟩;go_wp2_with fail;refine (name_any nn _).mono ?_
 rintro e w' ⟨rfl,rfl⟩;rw[ag];go_wp2_with fail;go_quiet (fail);go_wp2_with fail;go_ret;exact⟨rfl,S,⟨_,U.out.1.heap rfl,U.out.2⟩,fun _ h=>.inl h,(((Zr S w).drewN _).setCell (p:=⟨b,0,none⟩) (fun _=>Z.out) _).setCell (p:=⟨db,1,none⟩) (fun _=>aa.out) _⟩
set_option maxRecDepth 100000 in
theorem Qke{room:Nat}{E:List EB}(h:Xn w S db room n E)(nn data:ByteArray)(M:nn.size<=maxLen)(an:Zp nn=true)(al:data.size<=room - total (plain E))(Z:get Bn E nn=none)(aF:n<maxLen):
  Calls Tryz.prog 124 #[.pointer (some ⟨db,0,none⟩),.string nn,.string data] w (Op S w db room (n+1) (put Dk.En ⟨nn,data,0⟩ (plain E)) 0):=by
 obtain⟨D,ab,I,N⟩:=h.root;obtain⟨aJ,ai,aj,aI⟩:=K9 I;have aD:=h.may.fits;have aN:=h.big;have aP:=h.below _ h.sdb;have aE:D≠db:=by
  rintro rfl;obtain⟨aM,clock,aB,_⟩:=N;unfold XB at I;rw[aB] at I
  cases I
 obtain⟨t,ac⟩: ∃t,t=total (plain E):=⟨_,rfl⟩
 have W:=Zh h;have ag:=Zh I;have ah:=Zh ac;have aw:=Zh h.sdb;have ar:=Zh al;rw[<-ac] at al aD ai;have aC: ∀q,(Instr.lookup 87 (.map (some D)) (.string nn) false).run Tryz.prog (w.drewN q)= .ok (.pointer none) (w.drewN q):=fun q=>QhH (Qbw N ((Zr Ze w).drewN q) (fun f=>f)) M Z
 have af:=Zh N;have U:=Zh Z;have au:=Zh (QcP M);clear h I N ac Z;have aS:IntKind.i64.wrap ((room:Int) - (t:Int))=(room:Int) - (t:Int):=by rw[IntKind.wrap_i64];omega
 have aO:decide ((room:Int) - (t:Int)< (data.size:Int))=false:=by simp;omega
 go_enter Tryz.func124,Tryz.ntmps124;go_wp2_with fail;refine (QaO db D _ aj).mono ?_
 rintro e w' ⟨rfl,rfl⟩;go_wp2_with fail;refine (name_any nn _).mono ?_
 rintro e w' ⟨rfl,rfl⟩;rw[an];go_wp2_with fail;go_quiet (fail);have av:Hid ((w.drewN nq).ownsMap Tryz.prog 9 RB D n (.map (Qq E))):=Qbw af.out ((Zr Ze w).drewN nq) (fun f=>f);have ay:Hid (Qa Ze w (w.drewN nq)):=(Zr _ w).drewN nq;have aG:(w.drewN nq).heap.size =w.heap.size:=rfl;have aQ:=aC nq;have aT:(w.drewN nq).cell? ⟨db,1,none⟩=some (.int .i64 t):=ai;have aU:(w.drewN nq).cell? ⟨db,2,none⟩=some (.map (some D)):=aj;have aV:(w.drewN nq).frozen? ⟨db,1,none⟩=false:=aI;generalize w.drewN nq=wq at*
 go_wp2_with (at_mapUpdate;refine wpList_mapUpdate_own _ rfl _ _ _ 87 rfl 9 135 QcQ Tryz.underlying87 RB D n (.map (Qq E)) rfl ?hown aF _ _ (key nn) rfl rfl au.out (.held w.heap.size) [] ?hval ?_)
 case hown=>exact av.out.alloc _
 case hval=>rfl
 intro Q ao am;have aR:D<w.heap.size:=W.out.below D ab;have ak:(wq.alloc (.cells #[.string ⟨#[]⟩,.int .i64 0] 137)).heap[w.heap.size]? =some (.cells #[.string ⟨#[]⟩,.int .i64 0] 137):=by
  rw[<-aG];exact Qf _
 have ad:Qa (fun i=>i=D) (wq.alloc (.cells #[.string ⟨#[]⟩,.int .i64 0] 137)) Q:=(Zr _ _).X8 am (fun k M _=>by simp at M;exact M.symm);have O:Qa (fun i=>i=D) w Q:=((ay.out.mono (T:=fun i=>i=D) (fun _ _ f=>f.elim)).alloc _).trans ad (fun _ _ h=>h);have Y:fileAt Q (⟨nn,⟨#[]⟩,0⟩,w.heap.size):=ad.keep ak (fun e=>by simp only at e;omega);have ap:XB Q db room (total (plain E)) D:=ag.out.upd O (fun e=>aE e.symm);have J:=W.out.added U.out an ag.out ab af.out O Y (Zf _) ao;obtain⟨aK,az,aL,aW⟩:=K9 ap;obtain⟨aA,_,aH,_⟩:=QaH Y;have aa:=J.1.grown (nn:=nn) (data:=data) (f:=⟨nn,⟨#[]⟩,0⟩) (b:=w.heap.size) (get_put Bn ((QcW Bn Dk.En (fun x:EB=>x.1) (fun _=>rfl)).1 W.out.may.srt)) (by rw[J.2,Qff (by rw[Qap,U.out];rfl)];exact ar.out) (m:=t+data.size)
  (by rw[J.2,Qff (by rw[Qap,U.out];rfl),ah.out];rfl)
 rw[show ((t+data.size:Nat):Int)=(t:Int)+(data.size:Int) from by omega] at aa;have ae:=Zh aa;have aq:=Zh J.2;rw[<-ah.out] at az;clear J aa Y ap ao am ad ak;have ax:=Zh O;clear O;simp only at aA aH;go_wp2_with fail;go_ret;refine⟨rfl,fun k=>S k\/k=w.heap.size,⟨_,ae.out.1,?_⟩,fun k h=>h.elim .inl (fun e=>.inr (by omega)),?_⟩
 ·rw[ae.out.2,aq.out]
  have e:=QpD Dk.En (x:=⟨nn,(⟨#[]⟩:ByteArray)++data,0⟩) (y:=⟨nn,⟨#[]⟩,0⟩) (l:=plain E) rfl;rw[Qas] at e;rw[Qas];exact e
 ·exact ((ax.out.mono (T:=S) (fun i _ e=>by rw[e];exact ab)).setCell (p:=⟨w.heap.size,0,none⟩) (fun h=>absurd h (by simp)) _).setCell (p:=⟨db,1,none⟩) (fun _=>aw.out) _
theorem Qgf{room:Nat}{I:QT}(h:Has w S db room n I)(nn data:ByteArray)(J:nn.size<=maxLen)(W:data.size<=9223372036854775807)(Y:n<maxLen):
  Calls Tryz.prog 124 #[.pointer (some ⟨db,0,none⟩),.string nn,.string data] w (Op S w db room (n+1) (WS room I nn data).1 (WS room I nn data).2):=by
 obtain⟨E,D,rfl⟩:=h;unfold WS
 cases hn:Zp nn with
 |
  false=>
  refine (Qkb D nn data hn).mono ?_
  rintro e w' ⟨rfl,rfl⟩;simp only[Bool.false_eq_true,if_false];exact⟨rfl,S,⟨E,D.mono (Nat.le_succ n),rfl⟩,fun _ h=>.inl h,Zr _ _⟩
 |
  true=>
  simp only[if_true];by_cases hfit:data.size<=room - total (plain E)
  ·rw[if_pos hfit]
   rw[Qap]
   cases hg:get Bn E nn with
   |none=>exact Qke D nn data J hn hfit hg Y
   |
    some x=>
    obtain⟨f,b⟩:=x;refine (Qkf D nn data J hn hfit hg).mono ?_
    rintro e w' ⟨rfl,N,O,Q,U⟩;exact⟨rfl,N,O.mono (Nat.le_succ n),Q,U⟩
  ·rw[if_neg hfit]
   refine (Qkd D nn data hn hfit W).mono ?_
   rintro e w' ⟨rfl,M⟩;exact⟨rfl,S,⟨E,(D.upd M (fun _ _ f=>f)).mono (Nat.le_succ n),rfl⟩,fun _ h=>.inl h,M.mono (fun _ _ f=>f.elim)⟩
end
end Go.Proofs.YtbleblbfadeciaaGreatDoor
