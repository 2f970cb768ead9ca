/- For TopKept. -/
import Derived.Test.YtbleblbfadeciaaGreatDoorT2
set_option linter.all false
set_option maxHeartbeats 16000000
set_option maxRecDepth 10000
namespace Go.Proofs.YtbleblbfadeciaaGreatDoor
variable{la lb:List Nat}{g i j k t:Nat}{w:World}
section
open Go.RowKit Go.Acre
def Qcq(x:Nat):Value:=.int .u64 (x:Int)
def Kr(a b:Nat):Int:=if b<a then -1 else if a<b then 1 else 0
theorem QkQ(a b:Nat)(I:a<=1000000)(J:b<=1000000)(w:World):Calls Tryz.prog 213 #[.int .u64 (a:Int),.int .u64 (b:Int)] w (Is (.int .i64 (Kr a b)) w):=by
 rcases Nat.lt_trichotomy a b with h|h|h
 ·have e:Kr a b=1:=by unfold Kr;rw[if_neg (by omega),if_pos h]
  have D: ¬(b:Int)< (a:Int):=by omega
  have E:(a:Int)< (b:Int):=by omega
  rw[e];go_enter Tryz.func213,Tryz.ntmps213;go_wp2_with fail;go_ret;exact⟨rfl,rfl⟩
 ·have e:Kr a b=0:=by unfold Kr;rw[if_neg (by omega),if_neg (by omega)]
  have D: ¬(b:Int)< (a:Int):=by omega
  have E: ¬(a:Int)< (b:Int):=by omega
  rw[e];go_enter Tryz.func213,Tryz.ntmps213;go_wp2_with fail;go_ret;exact⟨rfl,rfl⟩
 ·have e:Kr a b= -1:=by unfold Kr;rw[if_pos h]
  have D:(b:Int)< (a:Int):=by omega
  rw[e];go_enter Tryz.func213,Tryz.ntmps213;go_wp2_with fail;go_ret;exact⟨rfl,rfl⟩
def ZQ(xs:List Nat):Array Value:=(xs.map Qcq).toArray
def gd(l:List Nat)(k:Nat):Nat:=l.getD k 0
theorem QcI(l:List Nat)(k:Nat)(h:k<l.length):gd l k=l[k]:=by
 unfold gd;rw[List.getD_eq_getElem?_getD,List.getElem?_eq_getElem h];rfl
theorem Qkj(D:List Nat)(k:Nat)(E:k<D.length):(ZQ D)[k]? =some (.int .u64 (D[k]:Int)):=by
 unfold ZQ;simp[Qcq,E]
theorem QfP(D:List Nat)(k v:Nat):(ZQ D).setIfInBounds k (.int .u64 (v:Int))=ZQ (D.set k v):=by
 unfold ZQ;simp[List.map_set,Qcq]
def Qck(xs:List Nat)(i j:Nat):Prop:= ∀p q,p<q->q<=i->q≠j->gd xs q<=gd xs p
theorem QlO(h:Qck la i (j+1))(M:j+1<=i)(J:i<la.length)(N:gd la j<gd la (j+1)):
  Qck ((la.set (j+1) (gd la j)).set j (gd la (j+1))) i j:=by
 intro p q E D I;have e: ∀k,gd ((la.set (j+1) (gd la j)).set j (gd la (j+1))) k=if k=j then gd la (j+1) else if k=j+1 then gd la j else gd la k:=by
  intro k;generalize gd la j=a;generalize gd la (j+1)=b;simp only[gd,List.getD_eq_getElem?_getD,List.getElem?_set,List.length_set];by_cases h1:j=k
  ·subst h1
   simp[show j<la.length by omega]
  ·by_cases h2:j+1=k
   ·subst h2
    simp[show j+1<la.length by omega]
   ·simp[h1,h2,show ¬k=j by omega,show ¬k=j+1 by omega]
 rw[e,e,if_neg I];by_cases h1:q=j+1
 ·rw[if_pos h1]
  by_cases h2:p=j
  ·rw[if_pos h2];omega
  ·rw[if_neg h2,if_neg (by omega)]
   exact h p j (by omega) (by omega) (by omega)
 ·rw[if_neg h1]
  by_cases h2:p=j
  ·rw[if_pos h2]
   exact h (j+1) q (by omega) D h1
  ·rw[if_neg h2]
   by_cases h3:p=j+1
   ·rw[if_pos h3]
    exact h j q (by omega) D h1
   ·rw[if_neg h3]
    exact h p q E D h1
theorem Qgy(h:Qck la i j)(J:j<=i)(D:j=0\/gd la j<=gd la (j - 1)): ∀p q,p<q->q<=i->gd la q<=gd la p:=by
 intro p q E I;by_cases h1:q=j
 ·subst h1
  rcases D with D|D
  ·omega
  ·by_cases h2:p=q - 1
   ·subst h2;exact D
   ·exact Zt D (h p (q - 1) (by omega) (by omega) (by omega))
 ·exact h p q E I h1
structure QQ(w:World)(g t:Nat)(xs:List Nat)(wr:World)(ys:List Nat):Prop where
 heap:wr.heap[g]? =some (.cells (ZQ ys) t (0,0))
 upd:Qa (fun b=>b=g) w wr
 perm:ys.Perm xs
theorem QQ.len{wr:World}(h:QQ w g t la wr lb):lb.length=la.length:=h.perm.length_eq
theorem QQ.drewN{wr:World}(h:QQ w g t la wr lb)(n:Nat):QQ w g t la (wr.drewN n) lb:=⟨h.heap,h.upd.drewN n,h.perm⟩
theorem QQ.drew{wr:World}(h:QQ w g t la wr lb):QQ w g t la wr.drew lb:=h.drewN 1
theorem QQ.all{wr:World}(h:QQ w g t la wr lb){B:Nat}(D: ∀x∈la,x<=B)(k:Nat):gd lb k<=B:=by
 by_cases hk:k<lb.length
 ·rw[QcI _ _ hk]
  exact D _ (h.perm.subset (List.getElem_mem hk))
 ·unfold gd
  rw[List.getD_eq_getElem?_getD,List.getElem?_eq_none (by omega)];exact Zz _
theorem QQ.cell{wr:World}(h:QQ w g t la wr lb)(D:k<lb.length):wr.cell? ⟨g,k,none⟩=some (.int .u64 ((gd lb k:Nat):Int)):=by
 rw[Qb h.heap,Qkj lb k D,QcI _ _ D]
theorem QQ.swap{wr:World}(h:QQ w g t la wr lb)(M:j+1<lb.length):
  QQ w g t la (wr.setCell ⟨g,j+1,none⟩ (.int .u64 ((gd lb j:Nat):Int)) |>.setCell ⟨g,j,none⟩ (.int .u64 ((gd lb (j+1):Nat):Int))) ((lb.set (j+1) (gd lb j)).set j (gd lb (j+1))):=by
 refine⟨?_,((h.upd.setCell (fun _=>rfl) _).setCell (fun _=>rfl) _),?_⟩
 ·have E:wr.heap[g]? =some (.cells (ZQ lb) t (0,0)):=h.heap
  have I:=Qi E (o:=j+1) (.int .u64 ((gd lb j:Nat):Int));have J:=Qi I (o:=j) (.int .u64 ((gd lb (j+1):Nat):Int));rw[J,QfP,QfP]
 ·refine List.Perm.trans ?_ h.perm
  have e1:gd lb j=lb[j]'(by omega):=QcI _ _ (by omega);have D:gd lb (j+1)=lb[j+1]:=QcI _ _ (by omega);rw[e1,D];exact List.set_set_perm (by omega) (by omega)
theorem QmF(ag:w.heap[g]? =some (.cells (ZQ la) t (0,0)))(aH:la.length<=5)(I:1<=la.length)(af: ∀x∈la,x<=1000000):
  Calls Tryz.prog 275 #[.slice (some ⟨g,0,none⟩) la.length la.length,.int .i64 0,.int .i64 la.length,.func (.func 213) #[] #[]] w
   (fun e w'=>e= .returned (.tuple #[])/\ ∃E,QQ w g t la w' E/\ ∀p q,p<q->q<la.length->gd E q<=gd E p):=by
 have ac:=Zh af;clear af;have ab:Hid (QQ w g t la w la):=Zh ⟨ag,Zr _ _,List.Perm.refl _⟩;clear ag;go_enter Tryz.func275,Tryz.ntmps275;go_wp2_with fail;go_loopw [8] (fun au wr=> ∃(i:Nat) (E:List Nat),au= .int .i64 i/\1<=i/\i<=la.length/\QQ w g t la wr E/\ ∀p q,p<q->q<i->gd E q<=gd E p) (fun s _=>la.length - (intOf s).toNat)
 case atStart=>exact⟨1,la,rfl,by omega,I,ab.out,fun p q aI aJ=>by omega⟩
 case round=>
  obtain⟨i,E,rfl,aE,aF,D,J⟩:=hrel;have O:=Zh J;have U:=Zh D;clear J D ab;by_cases hlt:i<la.length
  ·have ar:(i:Int)< (la.length:Int):=by omega
   go_wp2_with fail;go_loopw [9] (fun av wr=> ∃(j:Nat) (zs:List Nat),av= .int .i64 j/\j<=i/\QQ w g t la wr zs/\Qck zs i j) (fun s _=>(intOf s).toNat)
   case atStart=>exact⟨i,E,rfl,by omega,U.out,fun p q I aa ay=>O.out p q I (by omega)⟩
   case round=>
    obtain⟨j,zs,rfl,ah,D,J⟩:=hrel;have aj:=D.len;have hsz:Hid (zs.length=la.length):=Zh aj;rcases j with _|j
    ·have W:=Zh D
     have Q:=Zh J;clear D J U O;go_upto_region 4 with fail
     go_quiet (fail);go_wp2_with fail;exact⟨⟨i+1,zs,by go_num,by omega,by omega,W.out.drewN _,fun p q I aa=>Qgy Q.out (by omega) (.inl rfl) p q I (by omega)⟩,by simp[intOf];omega⟩
    ·have aG:(0:Int)< ((j+1:Nat):Int):=by omega
     have al:=D.cell (k:=j) (by omega);have am:=D.cell (k:=j+1) (by omega);have aw:=Qg D.heap j none;have ax:=Qg D.heap (j+1) none;have e1:gd zs j<=1000000:=D.all ac.out j;have Z:gd zs (j+1)<=1000000:=D.all ac.out (j+1);have M:=Zh (QkQ (gd zs (j+1)) (gd zs j) Z e1);have az:(j:Int)< (la.length:Int):=by omega
     have aA:((j+1:Nat):Int)< (la.length:Int):=by omega
     have aB:IntKind.i64.wrap (((j+1:Nat):Int) - 1)=(j:Int):=by rw[IntWalk.i64_in _ (by omega)];omega
     have aC:j<la.length:=by omega
     have aD:j+1<la.length:=by omega
     have W:=Zh D;have Q:=Zh J;clear D J U O aj;by_cases hcmp:gd zs j<gd zs (j+1)
     ·have N:Kr (gd zs (j+1)) (gd zs j)= -1:=by unfold Kr;rw[if_pos hcmp]
      rw[N] at M;have Y:=Zh hcmp;clear N hcmp;have ae:=Zh (W.out.swap (j:=j) (by have:=hsz.out;omega));have ad:=Zh (QlO Q.out ah (by have:=hsz.out;omega) Y.out);generalize (zs.set (j+1) (gd zs j)).set j (gd zs (j+1))=zs2 at ae ad;generalize gd zs j=x at*
      generalize gd zs (j+1)=y at*
      have ap:(0:Int)<=j:=by omega
      generalize hke:j+1=k at*
      have aq:(0:Int)<=k:=by omega
      clear Y e1 Z;have an:decide ((0:Int)< (k:Int))=true:=by simp;omega
      have ao:decide (0<k)=true:=by simp;omega
      clear an;go_upto_region 4 with fail
      go_region_held3 (fun w'=>w'.cell? ⟨g,j,none⟩=some (.int .u64 (x:Int))/\w'.cell? ⟨g,k,none⟩=some (.int .u64 (y:Int))) (go_keep) ((go_at_call 213;refine (M.out _).mono ?_;rintro e w' ⟨rfl,rfl⟩));go_wp2_with fail;go_upto_region 6 with fail
      go_region_with fail
      all_goals
       go_wp2_with fail;exact⟨⟨j,zs2,rfl,by omega,ae.out.drew.drew,ad.out⟩,by simp[intOf];omega⟩
     ·have N:Kr (gd zs (j+1)) (gd zs j)=if gd zs (j+1)<gd zs j then 1 else 0:=by unfold Kr;rw[if_neg (by omega)]
      have ai:0<=Kr (gd zs (j+1)) (gd zs j)/\Kr (gd zs (j+1)) (gd zs j)<=1:=by rw[N];split<;>omega
      have Y:Hid (gd zs (j+1)<=gd zs j):=Zh (by omega);clear N hcmp;generalize hce:Kr (gd zs (j+1)) (gd zs j)=c at*
      clear hce;generalize gd zs j=x at al M;generalize gd zs (j+1)=y at am M;generalize hke:j+1=k at*
      clear e1 Z;obtain⟨ai,aK⟩:=ai;have aL: ¬c<0:=by omega
      have ao:decide (0<k)=true:=by simp;omega
      have ap:(0:Int)<=j:=by omega
      have aq:(0:Int)<=k:=by omega
      have ak:Hid (∀p q,p<q->q<=i->gd zs q<=gd zs p):=Zh (Qgy Q.out ah (.inr (by rw[show k - 1=j by omega];exact Y.out)));go_upto_region 4 with fail
      go_region_held3 (fun w'=>w'.cell? ⟨g,j,none⟩=some (.int .u64 (x:Int))/\w'.cell? ⟨g,k,none⟩=some (.int .u64 (y:Int))) (go_keep) ((go_at_call 213;refine (M.out _).mono ?_;rintro e w' ⟨rfl,rfl⟩));go_wp2_with fail;exact⟨⟨i+1,zs,by go_num,by omega,by omega,W.out.drew,fun p q I aa=>ak.out p q I (by omega)⟩,by simp[intOf];omega⟩
  ·have ar: ¬(i:Int)< (la.length:Int):=by omega
   go_wp2_with fail;go_end0;exact⟨rfl,E,U.out,fun p q I aa=>O.out p q I (by omega)⟩
end
end Go.Proofs.YtbleblbfadeciaaGreatDoor
