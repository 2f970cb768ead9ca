/- For TopKept. -/
import Derived.WalkKit
import Derived.Laws.AppendOwnNone
import Derived.WalkSpells
import Derived.WalkLawsBesides
import Derived.ScopeJumps
import Derived.WalkMore
import Derived.StillTailTactics
import Derived.Deep.QuietTactic
import Derived.BigQuiet
import Derived.Lib.Hide
import Derived.Deep.LoopGhost
import Derived.Deep.RegionHeld3
import Derived.Deep.RegionWith
import Derived.Deep.DeepCutAuto
import Derived.Laws.BytesArg
set_option linter.all false
set_option maxHeartbeats 16000000
set_option maxRecDepth 10000
namespace Go
theorem Qfp{P:Program}{a:Act}{w:World}{Q:Exit->Act->World->Prop}{c rest:Code}(l:Nat)(I:findLabel c l=some rest)
  (h:c.wp P (Exit.jump l (fun D w'=>rest.wp P (Exit.noGoto Q) D w') Q) a w):(Code.scope c).wp P Q a w:=by
 refine wp_scope_jumps l (fun D w'=>rest.wp P (Exit.noGoto Q) D w') (fun _ _=>0) I h ?_
 intro a w E;exact Code.wp_mono (fun e a w q=>by cases e<;>first|exact q|exact q.elim) E
section
variable {Q:Exit->Act->World->Prop} {a:Act} {w:World} {J:Act->World->Prop} {l:Nat}
theorem Exit.QmM:Exit.jump l J Q (.goto l) a w=J a w:=by simp[Exit.jump]
theorem Exit.Qan:Exit.jump l J Q .ret a w=Q .ret a w:=rfl
end
namespace Acre
open Go.RowKit
structure Qa(S:Nat->Prop)(w w':World):Prop where
 os:w'.os=w.os
 tape:w'.tape=w.tape
 output:w'.output=w.output
 size:w.heap.size<=w'.heap.size
 block: ∀k,k<w.heap.size-> ¬S k->w'.heap[k]? =w.heap[k]?
theorem Qa.refl(S:Nat->Prop)(w:World):Qa S w w:=⟨rfl,rfl,rfl,Nat.le_refl _,fun _ _ _=>rfl⟩
theorem Qa.mono{S T:Nat->Prop}{w w':World}(h:Qa S w w')(E: ∀i,i<w.heap.size->S i->T i):Qa T w w':=
 ⟨h.os,h.tape,h.output,h.size,fun k D I=>h.block k D (fun hs=>I (E k D hs))⟩
theorem Qa.trans{S T:Nat->Prop}{a b c:World}(h:Qa S a b)(k:Qa T b c)(I: ∀i,i<a.heap.size->T i->S i):Qa S a c:=
 ⟨k.os.trans h.os,k.tape.trans h.tape,k.output.trans h.output,Nat.le_trans h.size k.size,
  fun i D E=>(k.block i (Nat.lt_of_lt_of_le D h.size) (fun ht=>E (I i D ht))).trans (h.block i D E)⟩
theorem Qa.drew{S:Nat->Prop}{a w:World}(h:Qa S a w):Qa S a w.drew:=⟨h.os,h.tape,h.output,h.size,h.block⟩
theorem Qa.drewN{S:Nat->Prop}{a w:World}(h:Qa S a w)(n:Nat):Qa S a (w.drewN n):=⟨h.os,h.tape,h.output,h.size,h.block⟩
theorem Qa.alloc{S:Nat->Prop}{a w:World}(h:Qa S a w)(o:Obj):Qa S a (w.alloc o):=
 h.trans (T:=fun _=>False) ⟨rfl,rfl,rfl,by simp,fun k hk _=>Below.heap_alloc _ _ _ hk⟩ (fun _ _ f=>f.elim)
theorem Qa.setCell{S:Nat->Prop}{a w:World}(h:Qa S a w){p:Addr}(D:p.block<a.heap.size->S p.block)(u:Value):Qa S a (w.setCell p u):=
 h.trans (T:=fun i=>i=p.block) ⟨rfl,rfl,rfl,by simp[World.setCell],fun k _ hn=>Below.heap_setCell _ _ _ _ hn⟩ (fun i hi e=>e▸D (e▸hi))
theorem Qa.X8{S:Nat->Prop}{a w w':World}{row:Option Nat}(h:Qa S a w)(D:w.grownBy w' row)(E: ∀k,row=some k->k<a.heap.size->S k):Qa S a w':=
 h.trans (T:=fun i=>some i=row) ⟨D.os,D.tape,D.output,D.size,fun k hk hn=>D.block k hk hn⟩ (fun i hi e=>E i e.symm hi)
theorem Qa.below{S:Nat->Prop}{w w':World}(h:Qa S w w')(E: ∀i,i<w.heap.size-> ¬S i):Below w.heap.size w w':=
 ⟨h.os,h.tape,h.output,h.size,fun k D=>h.block k D (E k D)⟩
theorem Qa.of_below{w w':World}{S:Nat->Prop}(h:Below w.heap.size w w'):Qa S w w':=
 ⟨h.os,h.tape,h.output,h.size,fun k D _=>h.block k D⟩
theorem Qa.keep{S:Nat->Prop}{w w':World}(h:Qa S w w'){b:Nat}{o:Obj}(D:w.heap[b]? =some o)(E: ¬S b):w'.heap[b]? =some o:=
 (h.block b (Array.getElem?_eq_some_iff.1 D).1 E).trans D
theorem Ql{w:World}{b:Nat}{o:Obj}(D:w.heap[b]? =some o):b<w.heap.size:=(Array.getElem?_eq_some_iff.1 D).1
theorem Qb{w:World}{b:Nat}{c:Array Value}{t:TypeId}{fr:Nat×Nat}(h:w.heap[b]? =some (.cells c t fr))(o:Nat):w.cell? ⟨b,o,none⟩=c[o]? :=by
 simp[World.cell?,h]
theorem Qg{w:World}{b:Nat}{c:Array Value}{t:TypeId}(h:w.heap[b]? =some (.cells c t (0,0)))(o:Nat)(s:Option Nat):w.frozen? ⟨b,o,s⟩=false:=by
 simp[World.frozen?,h]
theorem Qi{w:World}{b o:Nat}{c:Array Value}{t:TypeId}{fr:Nat×Nat}(h:w.heap[b]? =some (.cells c t fr))(v:Value):
  (w.setCell ⟨b,o,none⟩ v).heap[b]? =some (.cells (c.setIfInBounds o v) t fr):=by
 simp[World.setCell,Array.getElem?_modify,h]
theorem Qf{w:World}(o:Obj):(w.alloc o).heap[w.heap.size]? =some o:=heap_alloc_new w o
theorem Qe{S:Nat->Prop}{w w':World}(h:Qa S w w'){b o:Nat}{s:Option Nat}{v:Value}(D:w.cell? ⟨b,o,s⟩=some v)(E: ¬S b):w'.cell? ⟨b,o,s⟩=some v:=
 (World.cell?_of_block (a:=⟨b,o,s⟩) (h.block b (World.block_lt_of_cell? w _ D) E)).trans D
def Qr(w:World)(size:Nat)(v:Value)(n:Nat)(xs:List Value):Prop:=
 xs.length=n*size/\ ∃a cap,v= .slice a n cap/\n<=cap/\cap<=maxLen/\(a=none->cap=0)/\
  (xs≠[]-> ∃g o,a=some ⟨g,o,none⟩/\ ∀i,i<xs.length->w.cell? ⟨g,o+i,none⟩=xs[i]?)
theorem Qr.nil(w:World)(size:Nat):Qr w size (.slice none 0 0) 0 []:=⟨by simp,none,0,rfl,Nat.le_refl _,Nat.zero_le _,fun _=>rfl,fun h=>(h rfl).elim⟩
theorem Qr.upd{w w':World}{size n:Nat}{v:Value}{D:List Value}(h:Qr w size v n D){S:Nat->Prop}(ad:Qa S w w')
  (W: ∀g o x,x∈D->w.cell? ⟨g,o,none⟩=some x-> ¬S g):Qr w' size v n D:=by
 obtain⟨ab,a,c,ae,M,N,O,Y⟩:=h;refine⟨ab,a,c,ae,M,N,O,fun ac=> ?_⟩;obtain⟨g,o,aa,Z⟩:=Y ac;refine⟨g,o,aa,fun i I=> ?_⟩;have E:=Z i I;have U:D[i]? =some D[i]:=List.getElem?_eq_getElem I
 rw[U] at E ⊢;exact Qe ad E (W _ _ _ (List.getElem_mem I) E)
theorem Qr.Qc{w w':World}{size n:Nat}{v:Value}{D:List Value}(h:Qr w size v n D)(E:Qa (fun _=>False) w w'):Qr w' size v n D:=
 h.upd E (fun _ _ _ _ _ f=>f)
theorem Qr.Q7{w:World}{base:Nat}{e:TypeId}{size:Nat}{v:Value}{n:Nat}{D:List Value}(h:w.ownsRow base e size v n D):Qr w size v n D:=by
 refine⟨h.1,?_⟩;rcases h.2 with ⟨rfl,rfl⟩|⟨g,cap,cur,rfl,U,N,E,I,O,M⟩
 ·exact⟨none,0,rfl,Nat.le_refl _,Nat.zero_le _,fun _=>rfl,fun hne=>(hne (List.eq_nil_of_length_eq_zero (by simpa using h.1))).elim⟩
 ·refine⟨some ⟨g,0,none⟩,cap,rfl,E,I,fun e=>(by cases e),fun _=>⟨g,0,rfl,fun i hi=> ?_⟩⟩
  rw[Qb N,Nat.zero_add];subst M;rw[List.getElem?_take,if_pos (by rw[<-h.1];exact hi)];simp
theorem Qr.cells{w:World}{size n g o len cap:Nat}{D:List Value}(h:Qr w size (.slice (some ⟨g,o,none⟩) len cap) n D):
  len=n/\n<=cap/\ ∀i,i<D.length->w.cell? ⟨g,o+i,none⟩=D[i]? :=by
 obtain⟨W,a,c,M,N,_,_,O⟩:=h;simp only[Value.slice.injEq] at M;obtain⟨rfl,rfl,rfl⟩:=M;refine⟨rfl,N,fun i I=> ?_⟩;obtain⟨g',o',E,U⟩:=O (by intro e;simp[e] at I);simp only[Option.some.injEq,Addr.mk.injEq,and_true] at E;obtain⟨rfl,rfl⟩:=E;exact U i I
def QN(k:IntKind)(w:World)(v:Value)(zs:List Int):Prop:=Qr w 1 v zs.length (zs.map (.int k))
theorem QN.nil(k:IntKind)(w:World):QN k w (.slice none 0 0) []:=Qr.nil w 1
theorem QN.Qc{k:IntKind}{w w':World}{v:Value}{zs:List Int}(h:QN k w v zs)(D:Qa (fun _=>False) w w'):QN k w' v zs:=Qr.Qc h D
theorem QN.upd{k:IntKind}{w w':World}{v:Value}{zs:List Int}(h:QN k w v zs){S:Nat->Prop}(I:Qa S w w')
  (D: ∀g o n,w.cell? ⟨g,o,none⟩=some (.int k n)-> ¬S g):QN k w' v zs:=
 Qr.upd h I (fun g o x M E=>by obtain⟨n,_,rfl⟩:=List.mem_map.1 M;exact D g o n E)
theorem QN.open{k:IntKind}{w:World}{v:Value}{zs:List Int}(h:QN k w v zs):
  (zs=[]/\ ∃a cap,v= .slice a 0 cap/\cap<=maxLen/\(a=none->cap=0))\/
  (zs≠[]/\ ∃g o cap,v= .slice (some ⟨g,o,none⟩) zs.length cap/\zs.length<=cap/\cap<=maxLen/\ ∀i,i<zs.length->w.cell? ⟨g,o+i,none⟩=some (.int k (zs.getD i 0))):=by
 obtain⟨_,a,cap,rfl,I,D,M,N⟩:=h;by_cases hne:zs=[]
 ·subst hne;exact .inl ⟨rfl,a,cap,rfl,D,M⟩
 ·obtain⟨g,o,rfl,O⟩:=N (by simpa using hne)
  refine .inr ⟨hne,g,o,cap,rfl,I,D,fun i E=> ?_⟩;rw[O i (by simpa using E)];simp[List.getD,List.getElem?_eq_getElem E]
theorem QN.mk{k:IntKind}{w:World}{g o n cap:Nat}{zs:List Int}(N:n=zs.length)(E:zs.length<=cap)(I:cap<=maxLen)
  (M: ∀i,i<zs.length->w.cell? ⟨g,o+i,none⟩=some (.int k (zs.getD i 0))):QN k w (.slice (some ⟨g,o,none⟩) n cap) zs:=by
 subst N;refine⟨by simp,_,_,rfl,E,I,fun e=>(by cases e),fun _=>⟨g,o,rfl,fun i hi=> ?_⟩⟩;have D:i<zs.length:=by simpa using hi
 rw[M i D];simp[List.getD,List.getElem?_eq_getElem D]
theorem Qr.slice{w:World}{size n:Nat}{v:Value}{D:List Value}(h:Qr w size v n D): ∃a cap,v= .slice a n cap:=by
 obtain⟨_,a,cap,rfl,_⟩:=h;exact⟨a,cap,rfl⟩
theorem QN.slice{k:IntKind}{w:World}{v:Value}{zs:List Int}(h:QN k w v zs): ∃a cap,v= .slice a zs.length cap:=Qr.slice h
theorem QN.Q7{k:IntKind}{w:World}{base:Nat}{e:TypeId}{v:Value}{zs:List Int}(h:w.ownsRow base e 1 v zs.length (zs.map (.int k))):QN k w v zs:=Qr.Q7 h
theorem Qjx{k:IntKind}{w:World}{a:Option Addr}{len cap:Nat}{zs:List Int}
  (h:(a=none/\len=0/\cap=0/\zs=[])\/ ∃x,a=some x/\len<=cap/\cap<=maxLen/\zs.length=cap/\(∀i,i<zs.length->w.cell? (x.add i)=some (.int k (zs.getD i 0)))/\ ∀n∈zs,(Lit.int k n).wf =true):
  QN k w (.slice a len cap) (zs.take len)/\ ∀n∈zs.take len,(Lit.int k n).wf =true:=by
 rcases h with ⟨rfl,rfl,rfl,rfl⟩|⟨x,rfl,ab,O,ac,I,Z⟩
 ·exact⟨QN.nil k w,by simp⟩
 ·refine⟨?_,fun n U=>Z n (List.mem_of_mem_take U)⟩
  have hlen:(zs.take len).length =len:=by simp;omega
  refine⟨by simp,some x,cap,by rw[hlen],by omega,O,fun e=>(by cases e),fun hne=> ?_⟩;have W:0<zs.length:=by
   rcases Nat.eq_zero_or_pos zs.length with D|D
   ·exact absurd (by simp[List.eq_nil_of_length_eq_zero D]) hne
   ·exact D
  obtain⟨b,off,aa⟩:=x;have Y:aa=none:=by simpa [Addr.add] using World.cell?_spot (I 0 W)
  subst Y;refine⟨b,off,rfl,fun i M=> ?_⟩;simp only[List.length_map,hlen] at M;have E:=I i (by omega);have N:(⟨b,off,none⟩:Addr).add i=⟨b,off+i,none⟩:=by unfold Addr.add;split<;>simp_all
  rw[N] at E;rw[E];simp[List.getD,List.getElem?_take,M,show i<zs.length by omega]
theorem byte_of_wf{n:Int}(h:(Lit.int .u8 n).wf =true):0<=n/\n<256:=by
 simp[Lit.wf,IntKind.min,IntKind.max,IntKind.signed,IntKind.bits] at h;omega
theorem QbM{P:Program}{w:World}{ops:Array Oper}{rest:List Oper}{o:Oper}{a:Act}{Q:Exit->Act->World->Prop}(O:o.guard=none)(s x:Operand)(t:TypeId)
  (Z:o.op= .call {callee:=.builtin .append,args:= #[s,x],argTypes:= #[t,t]})
  (base:Nat) (e:TypeId) (i:TypeInfo) (z:Value) (size bytes:Nat) (ab:P.underlying t=some (.slice e)) (U:P.info? e=some i) (av:i.zero=some z)
  (au:i.size=size) (al:i.bytes=bytes) (aw:z.cells.size=size) (hsz:0<size)
  (v:Value) (n:Nat) (E:List Value) (aa:a.eval s=v) (M:w.ownsRow base e size v n E)
  (ae:Value) (m:Nat) (news:List Value) (ad:a.eval x=ae) (ar:Qr w size ae m news) (af: ∀u∈news,u.oneCell'=true)
  (ai:n+m<=maxLen) (am:(n+m)*bytes<=140737488355328) (ak:base<=w.heap.size)
  (h: ∀D w',w'.ownsRow base e size D (n+m) (E++news)->w.grownBy w' v.ownBlock->wpList P ops Q rest (a.put o.dst D) w'):wpList P ops Q (o::rest) a w:=by
 obtain⟨Y,I,cap,rfl,ay,ax,aq,ao⟩:=ar
 cases I with
 |
  none=>
  obtain rfl:=aq rfl;obtain rfl:m=0:=by omega
  have ap:news=[]:=List.eq_nil_of_length_eq_zero (by simpa using Y);subst ap;refine wpList_append_own_none O s x t Z base e i size ab U v n E aa M ad ?_
  exact h v w (by simpa using M) (World.grownBy.refl _ _)
 |
  some I=>
  refine wpList_append_own w O s x t Z base e i z size bytes ab U av au al aw hsz v n E aa M I m cap news ad Y ?_ af ai am ak (fun D w' ag ah _=>h D w' ag ah)
  intro j u ac;have W:j<news.length:=(List.getElem?_eq_some_iff.1 ac).1;obtain⟨g,o',N,an⟩:=ao (by intro e;simp[e] at W);simp only[Option.some.injEq] at N;subst N;have aj:(⟨g,o',none⟩:Addr).add j=⟨g,o'+j,none⟩:=by unfold Addr.add;split<;>simp_all
  rw[aj,an j W,ac]
theorem Qr.X3{w w':World}{size n:Nat}{v:Value}{D:List Value}(h:Qr w size v n D){S:Nat->Prop}(ac:Qa S w w')
  (W: ∀g,v.ownBlock=some g-> ¬S g):Qr w' size v n D:=by
 obtain⟨aa,a,c,rfl,M,N,O,Y⟩:=h;refine⟨aa,a,c,rfl,M,N,O,fun ab=> ?_⟩;obtain⟨g,o,rfl,Z⟩:=Y ab;refine⟨g,o,rfl,fun i I=> ?_⟩;have E:=Z i I;have U:D[i]? =some D[i]:=List.getElem?_eq_getElem I
 rw[U] at E ⊢;exact Qe ac E (W g rfl)
theorem QmI{w:World}{k:IntKind}{t:TypeId}(zs:List Int)(h:zs.length<=1000000):QN k (w.alloc (.cells (zs.map (.int k)).toArray t)) (.slice (some ⟨w.heap.size,0,none⟩) zs.length zs.length) zs:=by
 refine QN.mk rfl (Nat.le_refl _) (by unfold maxLen;omega) (fun i D=> ?_);rw[Qb (Qf _)];simp[List.getD,D]
theorem QdY{P:Program}{w:World}{v:Value}{zs:List Int}(h:QN .u8 w v zs)(src D e:TypeId)(M:P.underlying src=some (.slice e))(I:P.underlying e=some (.int .u8))(E:P.underlying D=some .string):
  (convert src D v).run P w= .ok (.string (strOfNums zs)) w:=by
 rcases QN.open h with ⟨rfl,a,cap,rfl,_,_⟩|⟨_,g,o,cap,rfl,_,_,N⟩
 ·cases a with
  |none=>rw[run_convert_bytes_nil w src e M I 0 cap D E];rfl
  |
   some a=>
   rw[run_convert_bytes_string w src D e _ 0 cap M I E,run_bytesToString w a 0 cap [] (by simp[loadCells,loadCellsFrom])];rfl
 ·exact run_convert_bytes_arg w src e M I g o zs.length cap zs rfl N D E
def Xe(w:World)(v:Value)(ss:List ByteArray):Prop:=Qr w 1 v ss.length (ss.map .string)
theorem Xe.Qc{w w':World}{v:Value}{D:List ByteArray}(h:Xe w v D)(E:Qa (fun _=>False) w w'):Xe w' v D:=Qr.Qc h E
theorem Xe.slice{w:World}{v:Value}{D:List ByteArray}(h:Xe w v D): ∃a cap,v= .slice a D.length cap:=Qr.slice h
theorem Xe.bound{w:World}{v:Value}{D:List ByteArray}(h:Xe w v D):D.length<=maxLen:=by
 obtain⟨_,a,c,_,E,I,_⟩:=h;omega
theorem Xe.cell{w:World}{a:Option Addr}{n cap:Nat}{E:List ByteArray}(h:Xe w (.slice a n cap) E){i:Nat}(D:i<E.length):
  ∃g o,a=some ⟨g,o,none⟩/\w.cell? ⟨g,o+i,none⟩=some (.string E[i]):=by
 obtain⟨_,U,c',I,_,_,_,M⟩:=h;simp only[Value.slice.injEq] at I;obtain⟨rfl,rfl,rfl⟩:=I;obtain⟨g,o,O,N⟩:=M (by intro e;simp at e;simp[e] at D);refine⟨g,o,O,?_⟩;rw[N i (by simpa using D)];simp[List.getElem?_eq_getElem D]
theorem QN.cell{k:IntKind}{w:World}{a:Option Addr}{n cap:Nat}{zs:List Int}(h:QN k w (.slice a n cap) zs){i:Nat}(D:i<zs.length):
  ∃g o,a=some ⟨g,o,none⟩/\w.cell? ⟨g,o+i,none⟩=some (.int k zs[i]):=by
 obtain⟨_,O,c',E,_,_,_,I⟩:=h;simp only[Value.slice.injEq] at E;obtain⟨rfl,rfl,rfl⟩:=E;obtain⟨g,o,N,M⟩:=I (by intro e;simp at e;simp[e] at D);refine⟨g,o,N,?_⟩;rw[M i (by simpa using D)];simp[List.getElem?_eq_getElem D]
theorem Xe.Q7{w:World}{base:Nat}{e:TypeId}{v:Value}{D:List ByteArray}(h:w.ownsRow base e 1 v D.length (D.map .string)):Xe w v D:=Qr.Q7 h
theorem Qe6{w:World}{t:TypeId}(D:List ByteArray)(h:D.length<=1000000):Xe (w.alloc (.cells (D.map .string).toArray t)) (.slice (some ⟨w.heap.size,0,none⟩) D.length D.length) D:=by
 refine⟨by simp,some ⟨w.heap.size,0,none⟩,D.length,rfl,Nat.le_refl _,by unfold maxLen;omega,fun e=>(by cases e),fun _=>⟨_,_,rfl,fun i hi=> ?_⟩⟩;rw[Qb (Qf _),Nat.zero_add];simp
end Acre
end Go
namespace Go.Proofs.YtbleblbfadeciaaGreatDoor
section
open Go.RowKit Go.Acre
theorem Zh{p:Prop}(h:p):RowKit.Hid p:=h
theorem Zr(S:Nat->Prop)(w:World):Qa S w w:=Qa.refl S w
theorem Zf(n:Nat):n<=n:=Nat.le_refl n
theorem Zt{a b c:Nat}(h:a<=b)(k:b<=c):a<=c:=Nat.le_trans h k
theorem Zu{a b c:Nat}(h:a<b)(k:b<=c):a<c:=Nat.lt_of_lt_of_le h k
theorem Zz(n:Nat):0<=n:=Nat.zero_le n
abbrev Ze:Nat->Prop:=fun _=>False
end
end Go.Proofs.YtbleblbfadeciaaGreatDoor
