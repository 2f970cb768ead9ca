/- For TopKept. -/
import Derived.Test.YtbleblbfadeciaaGreatDoorS
import Derived.Deep.MidRow
import Derived.Laws.CopyRow
import Derived.Laws.CopyOwn
set_option linter.all false
set_option maxHeartbeats 16000000
set_option maxRecDepth 10000
namespace Go.Proofs.YtbleblbfadeciaaGreatDoor
variable{A:Array Value}{vs:List Value}{b g i n:Nat}{S:Nat->Prop}{P:Program}{v:Value}{w:World}
section
open Go.RowKit Go.Acre
theorem Qix(w:World)(J ae ty elem:TypeId)(g o E N:Nat)(a:Addr)(I ad size:Nat)(cur:Array Value)(t:TypeId)(D:List Value)
  (ac:P.underlying J=some (.slice elem)) (M:(P.info? elem).map (·.size)=some size)
  (U:w.heap[g]? =some (.cells cur t (0,0))) (Z:D.length=Nat.min I E*size)
  (aa: ∀j v,D[j]? =some v->w.cell? (a.add j)=some v) (Q:o+D.length<=cur.size) (O: ∀v∈D,v.oneCell'=true):
  (Builtin.copy_ #[J,ae] ty #[.slice (some ⟨g,o,none⟩) E N,.slice (some a) I ad]).run P w=
   .ok (goInt (Nat.min I E)) (w.setRow g (cur.toList.take o++D++cur.toList.drop (o+D.length)).toArray):=by
 have Y:=run_loadCells_list (P:=P) w a D aa;have ab:=run_storeCells_at P g o t D 0 cur w U (by simpa using Q) O
 cases hq:P.info? elem with
 |none=>simp[hq] at M
 |
  some i=>
  have W:i.size=size:=by simpa [hq] using M
  simp[Builtin.copy_,run_underlying ac,Builtin.lenOf,Builtin.firstCells,sizeOf,typeInfo,hq,W,<-Z,Y,ab]
theorem QgS{α:Type}(A E:Array α)(h:E.size=A.size):Array.foldl (fun D x=>D.setIfInBounds x.snd x.fst) E A.zipIdx 0 A.size=A:=by
 have O:A.zipIdx.size=A.size:=by simp
 have key:=Array.foldl_induction (as:=A.zipIdx) (motive:=fun i D=>D.size=A.size/\ ∀j,j<i->D[j]? =A[j]?) (init:=E) ⟨h,fun j I=>by omega⟩
  (f:=fun D x=>D.setIfInBounds x.snd x.fst) (by
   intro i D ⟨J,M⟩;refine⟨by simpa using J,fun j I=> ?_⟩;have N:i.1<A.size:=by have:=i.2;omega
   simp only[Fin.getElem_fin,Array.getElem_zipIdx,Nat.zero_add];rw[Array.getElem?_setIfInBounds];by_cases hji:i.1=j
   ·rw[if_pos hji,if_pos (by omega)]
    subst hji;rw[Array.getElem?_eq_getElem N]
   ·rw[if_neg hji]
    exact M j (by omega))
 rw[O] at key;apply Array.ext_getElem?;intro j;by_cases I:j<A.size
 ·exact key.2 j I
 ·rw[Array.getElem?_eq_none (by omega),Array.getElem?_eq_none (by omega)]
theorem set_self(h:A[i]? =some v):A.setIfInBounds i v=A:=by
 apply Array.ext_getElem?;intro j;rw[Array.getElem?_setIfInBounds];by_cases hj:i=j
 ·subst hj
  rw[if_pos rfl,h];split
  ·rfl
  ·rename_i hn
   obtain⟨D,_⟩:=Array.getElem?_eq_some_iff.1 h
   exact absurd D hn
 ·rw[if_neg hj]
theorem Xr(w:World)(g:Nat)(D:Array Value){old:Array Value}{t:TypeId}(h:w.heap[g]? =some (.cells old t (0,0))):(w.setRow g D).heap[g]? =some (.cells D t (0,0)):=by
 simp[World.setRow,Array.getElem?_modify,h]
theorem QL{a:World}(h:Qa S a w)(E:g<a.heap.size->S g)(D:Array Value):Qa S a (w.setRow g D):=
 h.trans (T:=fun i=>i=g) ⟨rfl,rfl,rfl,by simp,fun k _ hn=>by
  simp only[World.setRow,Array.getElem?_modify]
  rw[if_neg (fun e=>hn e.symm)]⟩ (fun i hi e=>e▸E (e▸hi))
theorem Qje{S:Nat->Prop}{a:World}{g:Nat}(D:g<a.heap.size->S g): ∀(E:List Value) (o:Nat) {w:World},Qa S a w->Qa S a (w.setCells g o E)
 |[],_,_,h=>h
 |v::r,o,w,h=>Qje D r (o+1) (h.setCell (p:=⟨g,o,none⟩) D v)
theorem QgZ{b:Nat}{X:Array Value}{t:TypeId}: ∀(E:List Value) (o:Nat) {w:World},w.heap[b]? =some (.cells X t (0,0))->(∀j v,E[j]? =some v->X[o+j]? =some v)->(w.setCells b o E).heap[b]? =some (.cells X t (0,0))
 |[],_,_,h,_=>h
 |
  v::r,o,w,h,hs=>by
  have D:=Qi (o:=o) h v
  rw[set_self (by simpa using hs 0 v rfl)] at D
  exact QgZ r (o+1) D (fun j u I=>by
   have:=hs (j+1) u (by simpa using I)
   rwa [show o+(j+1)=o+1+j by omega] at this)
theorem QpI{X:Array Value}{t:TypeId}(h:w.heap[b]? =some (.cells X t (0,0))){o:Nat}(D: ∀j v,vs[j]? =some v->X[o+j]? =some v):w.rangeAt b o vs:=fun j v E=>by
 rw[Qb h]
 exact D j v E
theorem Qrn{X:Array Value}{t:TypeId}(h:w.heap[b]? =some (.cells X t (0,0))){o:Nat}(E:o+n<=X.size):w.there b o n:=fun j D=>by
 rw[Qb h,Qg h]
 exact⟨by rw[Array.getElem?_eq_getElem (by omega)];rfl,rfl⟩
end
end Go.Proofs.YtbleblbfadeciaaGreatDoor
