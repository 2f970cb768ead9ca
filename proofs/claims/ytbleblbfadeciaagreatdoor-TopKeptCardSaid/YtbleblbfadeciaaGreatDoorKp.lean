/- For TopKept. -/
import Derived.Test.YtbleblbfadeciaaGreatDoorLc
import Derived.Test.YtbleblbfadeciaaGreatDoorVs
import Derived.Deep.AppendLies
import Derived.Test.YtbleblbfadeciaaGreatDoorKa
import Derived.Test.YtbleblbfadeciaaGreatDoorTm
import Derived.Test.YtbleblbfadeciaaGreatDoorZw
set_option linter.all false
set_option maxHeartbeats 16000000
set_option maxRecDepth 10000
namespace Go.Proofs.YtbleblbfadeciaaGreatDoor
variable{c c':Core}{b cap db g i kb n na nb nc nd ng nh p q s t wb x:Nat}{fa fb lab:Nat->Nat}{S Sa Sb Sc U:Nat->Prop}{o:Ou}{P:Program}{ty:TypeId}{Y Z lv mv v va:Value}{w w' w0 w2:World}
section
open Go.RowKit Go.Acre Go.Acre.Dk
attribute [local go_sem ↓] LcG ScG
attribute [local go_sem] Sc1 Sc2 Sc3 Lc2 Lc3
attribute [local simp] QH X6
theorem Wq.pre{J M w:World}{D:Nat->Prop}{kb wb db room n x:Nat}{pre:ByteArray}{E:List Fl}{k':Kp}{e:Ending}(I:Qa Ze J M)(h:Wq D kb wb db room n x pre E k' M e w):Wq D kb wb db room n x pre E k' J e w:=by
 obtain⟨N,Sw,Sd,f,Q,mv,ev,mg,h⟩:=h;have U:=I.size;exact⟨N,Sw,Sd,f,Q,mv,ev,mg,h.kw,h.ok,h.syn,h.cnt,h.tot,fun i O=>(h.sw i O).imp id (fun h=>by omega),by have:=h.mgs;omega,fun g hg=>by have:=h.evs g hg;omega,(I.mono (fun _ _ f=>f.elim)).trans h.upd (fun _ _ h=>h)⟩
section
variable {w:World} {Sw Sd:Nat->Prop} {kb wb db room n x:Nat} {pre:ByteArray} {fs:List Fl} {k:Kp} {mv ev:Value} {mg:Nat}
theorem QmR(h:KW w Sw Sd kb wb db room n x pre fs k mv ev mg){aI:List Rc}(aq:ZN x fs aI k)(aG:k.t<=30000)(aH:Xx k.v){n2 b bt D:Nat}{aa:Value}(ad:QD w aa n2 D)(ab:1<=b/\b<=20000)(al:1<=bt/\bt<=30000)(aJ:k.bi<b)(aw:Qu k.bi k.bt k.l b=some bt)(au:ZY (k.restored k.t k.v n2 b bt))(ar:(k.restored k.t k.v n2 b bt).last <=20000)
  (am:Qp x fs+1<=QV) (av:(allB (k.restored k.t k.v n2 b bt)).size +8+total (Qo pre fs)<=room) (aF:n<=1000000) (aD:k.l.length<=20000) (aC:D≠kb/\ ¬Sw D):
  Calls Tryz.prog 18 #[.pointer (some ⟨kb,0,none⟩),QC b bt aa] w (Wq Sw kb wb db room n x pre fs (k.restored k.t k.v n2 b bt) w):=by
 have az:Hid (∀w',Qa Ze w w'->Calls Tryz.prog 28 #[.pointer (some ⟨kb,0,none⟩)] w' (Is (.bool false) w')):=Zh (fun w' hu=>Qeo (h.keep.Qc hu));have af:Hid (∀w',Qa Ze w w'->Calls Tryz.prog 30 #[QC b bt aa] w' (Qk (.bool true) w')):=Zh (fun w' hu=>QeB b bt (ad.upd hu (fun f=>f)) ab.1 al.1);have W:Hid (∀w',Qa Ze w w'->Calls Tryz.prog 31 #[.pointer (some ⟨kb,0,none⟩),.int .u64 b] w' (Qk (XT (Qu k.bi k.bt k.l b)) w')):=Zh (fun w' hu=>Qg5 (h.keep.Qc hu) b ab.1 (by omega));have ag:Hid (∀w',Qa Ze w w'->Calls Tryz.prog 9 #[.pointer (some ⟨kb,0,none⟩),.agg #[.int .u64 k.t,.int .i64 (Qd k.v)],QC b bt aa] w' (Wq Sw kb wb db room n x pre fs (k.restored k.t k.v n2 b bt) w')):=Zh (fun w' hu=>Qeq (h.Qc hu) aq k.t k.v aG aH (ad.upd hu (fun f=>f)) ab al (by omega) au ar am av aF aD aC);obtain⟨I,aE,_⟩:=ad;subst aE;have ai:w.cell? ⟨kb,1,none⟩=some (.int .u64 k.t):=Qb h.keep.row 1;have aj:w.cell? ⟨kb,2,none⟩=some (.int .i64 (Qd k.v)):=Qb h.keep.row 2;have ak:w.cell? ⟨kb,3,none⟩=some (.int .u64 k.bi):=Qb h.keep.row 3;rw[aw] at W;unfold XT at W;simp only[Option.getD_some,Option.isSome_some] at W;have ay:Hid (∀e w1 w',Qa Ze w w1->Wq Sw kb wb db room n x pre fs (k.restored k.t k.v n2 b bt) w1 e w'->Wq Sw kb wb db room n x pre fs (k.restored k.t k.v n2 b bt) w e w'):=Zh (fun e w1 w' hu h=>h.pre hu);generalize k.restored k.t k.v n2 b bt=K at*
 clear h aq au ar am av aw;unfold QC at af ag ⊢;have Z:=Qf (w:=w) (.cells #[.int .u64 b,.int .u64 bt,.slice (some ⟨D,0,none⟩) n2 I] 44);have E:Hid (Qa Ze w (w.alloc (.cells #[.int .u64 b,.int .u64 bt,.slice (some ⟨D,0,none⟩) n2 I] 44))):=Zh ((Zr _ w).alloc _);generalize hvi:Qd k.v=vi at*
 clear hvi;have aA: ¬(b:Int)<=k.bi:=by omega
 have aK:decide ((b:Int)<=k.bi)=false:=decide_eq_false aA;have aL:decide (b<=k.bi)=false:=decide_eq_false (by omega);go_enter Tryz.func18,Tryz.ntmps18;go_upto_region 1 with fail
 change Code.wp _ _ _ _ (w.alloc (.cells #[.int .u64 b,.int .u64 bt,.slice (some ⟨D,0,none⟩) n2 I] 44));generalize w.alloc (.cells #[.int .u64 b,.int .u64 bt,.slice (some ⟨D,0,none⟩) n2 I] 44)=w1 at*
 generalize hhb:w.heap.size=hb1 at*
 clear hhb;have an:=Qe E.out ai (fun f=>f);have ao:=Qe E.out aj (fun f=>f);have ap:=Qe E.out ak (fun f=>f);clear ai aj ak;have Y:Hid (∀w',Qa Ze w1 w'->w'.cell? ⟨kb,1,none⟩=some (.int .u64 k.t)/\w'.cell? ⟨kb,2,none⟩=some (.int .i64 vi)/\w'.cell? ⟨kb,3,none⟩=some (.int .u64 k.bi)/\w'.cell? ⟨hb1,0,none⟩=some (.int .u64 b)/\w'.cell? ⟨hb1,1,none⟩=some (.int .u64 bt)/\w'.cell? ⟨hb1,2,none⟩=some (.slice (some ⟨D,0,none⟩) n2 I)):=Zh (fun w' hu=>⟨Qe hu an (fun f=>f),Qe hu ao (fun f=>f),Qe hu ap (fun f=>f),Qe hu (Qb Z 0) (fun f=>f),Qe hu (Qb Z 1) (fun f=>f),Qe hu (Qb Z 2) (fun f=>f)⟩);clear an ao ap Z;go_wp2_with fail;refine (az.out _ E.out).mono ?_
 rintro e w' ⟨rfl,rfl⟩;obtain⟨J,M,N,O,Q,U⟩:=Y.out _ (Zr _ w1);go_wp2_with fail;refine (W.out _ E.out).mono ?_
 rintro e w2 ⟨rfl,ax⟩;have hcur:=ax.drew;clear J M N O Q U;go_upto_region 4 with fail
 obtain⟨J,M,N,O,Q,U⟩:=Y.out _ hcur;go_region_held3 (fun w'=>w'.cell? ⟨kb,1,none⟩=some (.int .u64 k.t)/\w'.cell? ⟨kb,2,none⟩=some (.int .i64 vi)/\w'.cell? ⟨kb,3,none⟩=some (.int .u64 k.bi)/\w'.cell? ⟨hb1,0,none⟩=some (.int .u64 b)/\w'.cell? ⟨hb1,1,none⟩=some (.int .u64 bt)/\w'.cell? ⟨hb1,2,none⟩=some (.slice (some ⟨D,0,none⟩) n2 I)) (first|exact⟨J,M,N,O,Q,U⟩|exact Y.out _ (by assumption)) ((first
  |(go_at_call 30;refine (af.out _ (E.out.trans hcur (fun _ _ f=>f))).mono ?_;rintro e wm ⟨rfl,hum⟩;have ac:Qa Ze w1 wm:=Qa.trans hcur hum (fun _ _ f=>f))))
 all_goals
  have ah:=Zh (E.out.trans ac (fun _ _ f=>f));have aM:=ac.drew;clear J M N O Q U hcur hum ax;obtain⟨J,M,N,O,Q,U⟩:=Y.out _ ac;go_upto_region 6 with fail
  go_still_tail 6,(by kernel_rfl)
  go_wp2_with fail;refine (ag.out _ ah.out.drew).mono ?_
  intro e w9 ae;have aB:=ae.1;subst aB;have HP:=Zh (ay.out _ _ _ ah.out.drew ae);clear ae;go_wp2_with fail;go_ret;exact HP.out
end
end
section
open Go.RowKit Go.Acre Go.Acre.Dk
attribute [local simp] QH X6
def Qdx(bi bt n g:Nat)(w:World)(e:Ending)(w':World):Prop:= ∃v g2,e= .returned (QC bi bt v)/\Ko w' v n g2/\(n=0/\g2=g\/w.heap.size<=g2/\g2<w'.heap.size)/\Qa Ze w w'
theorem QmP(w:World)(bi bt g:Nat):Calls Tryz.prog 26 #[QC bi bt (.slice none 0 0)] w (Qdx bi bt 0 g w):=by
 unfold QC;go_enter Tryz.func26,Tryz.ntmps26;go_wp2_with fail;have E:Qa Ze w ((w.alloc (.cells #[.int .u64 bi,.int .u64 bt,.slice none 0 0] 44)).alloc (.cells #[.int .u64 0,.int .u64 0,.slice none 0 0] 44)):=((Zr _ w).alloc _).alloc _;have hx1:=heap_alloc2_old w (.cells #[.int .u64 bi,.int .u64 bt,.slice none 0 0] 44) (.cells #[.int .u64 0,.int .u64 0,.slice none 0 0] 44);have D:=heap_alloc2_new w (.cells #[.int .u64 bi,.int .u64 bt,.slice none 0 0] 44) (.cells #[.int .u64 0,.int .u64 0,.slice none 0 0] 44);refine (clone_nil _).mono ?_
 rintro e w2 ⟨rfl,O⟩;generalize ((w.alloc (.cells #[.int .u64 bi,.int .u64 bt,.slice none 0 0] 44)).alloc (.cells #[.int .u64 0,.int .u64 0,.slice none 0 0] 44))=w1 at*
 subst O;obtain⟨Y,Z,aa,ae,af,ag⟩:=cells3 hx1;obtain⟨ab,ac,ad,ai,aj,ak⟩:=cells3 D;have I:=Zh E;have J:=Zh D;have W:=Zh (rfl:w.heap.size=w.heap.size);clear E hx1 D;generalize hb:w.heap.size=b at*
 have M:b+1≠b:=by omega
 go_wp2_with fail;have U:(w1.setCell ⟨b,2,none⟩ (.slice none 0 0)).heap[b+1]? =_:=(heap_setCell_other _ _ _ _ M).trans J.out;have Q:=Qdg (v0:=.int .u64 bi) (v1:=.int .u64 bt) (v2:=.slice none 0 0) U;have N:Qa (fun i=>i=b\/i=b+1) w1 _:=XG (XG (XG (XG (Zr (fun i=>i=b\/i=b+1) w1) b 2 (.slice none 0 0) (fun _=>.inl rfl)) (b+1) 0 (.int .u64 bi) (fun _=>.inr rfl)) (b+1) 1 (.int .u64 bt) (fun _=>.inr rfl)) (b+1) 2 (.slice none 0 0) (fun _=>.inr rfl);refine bodyPost_ret (v:=QC bi bt (.slice none 0 0)) ?_ rfl ⟨.slice none 0 0,g,rfl,.inl ⟨rfl,rfl⟩,.inl ⟨rfl,rfl⟩,I.out.trans N (fun i ah e=>by omega)⟩
 exact results_cell_row rfl _ _ _ _ _ _ _ rfl Q Tryz.underlying44 rfl (QcM _ _ _)
theorem QmQ(bi bt:Nat)(h:Ko w v n g):Calls Tryz.prog 26 #[QC bi bt v] w (Qdx bi bt n g w):=by
 rcases h with ⟨rfl,rfl⟩|h
 ·exact QmP w bi bt g
 ·refine (QcO bi bt h).mono ?_
  rintro e w' ⟨v2,E,rfl,D,I,J⟩;exact⟨v2,E,rfl,.inr D,.inr ⟨I,Ko.lt (.inr D) D.choose_spec.2.1⟩,J⟩
theorem Qin: ∀(D:List FV) (x j:Nat),XY x (Qn D)->(E:j< (Zg (Qn D)).length)-> ∃(A:List FV) (z:FV) (B:List FV) (k:Nat),∃J:k<z.1.recs.length,D=A++z::B/\z.1.first+k=x+j/\z.1.recs[k]=(Zg (Qn D))[j]
 |[],x,j,_,E=>by simp[Qn,Zg] at E
 |
  z::D,x,j,hc,E=>by
  have O:z.1.first=x/\z.1.recs≠[]/\XY z.1.next (Qn D):=hc
  have I:Zg (Qn (z::D))=z.1.recs++Zg (Qn D):=rfl
  have U:z.1.next=z.1.first+z.1.recs.length:=rfl
  by_cases hlt:j<z.1.recs.length
  ·refine⟨[],z,D,j,hlt,rfl,by omega,?_⟩
   simp only[I]
   rw[List.getElem_append_left hlt]
  ·rw[I,List.length_append] at E
   obtain⟨A,y,B,k,J,M,Q,N⟩:=Qin D z.1.next (j - z.1.recs.length) O.2.2 (by omega)
   refine⟨z::A,y,B,k,J,by rw[M];rfl,by omega,?_⟩
   simp only[I]
   rw[List.getElem_append_right (by omega)]
   exact N
theorem QpT{fn:Func}{t0 p q u1 u2:Tmp}{tz:TypeId}(h:fn.results= #[.tmp t0,.cell p ty,.cell q tz,.tmp u1,.tmp u2])(D:Array Value)(w:World)(g g':Nat)(t t':TypeId)(E I:Array Value)(fr M:Nat×Nat)(d J:TypeDesc)
  (aa:D.getD p undef= .pointer (some ⟨g,0,none⟩)) (U:w.heap[g]? =some (.cells E t fr))
  (ac:P.underlying ty=some d) (O:(match d with| .struct _| .array _ _=>true|_=>false)=true) (Y:(P.info? ty).map (·.size)=some E.size)
  (ab:D.getD q undef= .pointer (some ⟨g',0,none⟩)) (W:w.heap[g']? =some (.cells I t' M))
  (ad:P.underlying tz=some J) (Q:(match J with| .struct _| .array _ _=>true|_=>false)=true) (Z:(P.info? tz).map (·.size)=some I.size):
  (results fn D).run P w= .ok (.tuple #[D.getD t0 undef,.agg E,.agg I,D.getD u1 undef,D.getD u2 undef]) w:=by
 have N:(results fn D).run P w=
   ((asAddr (D.getD p undef)).run P w).andThen fun a ae=>((loadVar ty a).run P ae).andThen fun v w₂=>((asAddr (D.getD q undef)).run P w₂).andThen fun a' w₃=>((loadVar tz a').run P w₃).andThen fun v' w₄=>.ok (.tuple #[D.getD t0 undef,v,v',D.getD u1 undef,D.getD u2 undef]) w₄:=by
  simp only[results,h];simp[Sem.run_bind,Result.andThen]
 rw[N,aa,ab];simp[asAddr,run_loadVar_row w g t ty E fr d U ac O Y,run_loadVar_row w g' t' tz I M J W ad Q Z,Result.andThen]
structure QjM(w0 w:World)(Sd0:Nat->Prop)(db room n x:Nat)(pre:ByteArray)(fs:List Fl)(k:Kp)(kb:Nat)(Sw Sd:Nat->Prop)(wb:Nat)(mv ev:Value)(mg:Nat)(bv:Value)(bg:Nat)(rv:Value):Prop where
 kw:KW w Sw Sd kb wb db room n x pre fs k mv ev mg
 sw: ∀i,Sw i->Sd0 i\/w0.heap.size<=i
 kbn:w0.heap.size<=kb
 mgs:mg=2\/w0.heap.size<=mg
 evs: ∀g,ev.ownBlock=some g->w0.heap.size<=g
 mem:Ko w bv k.n bg
 Qq:QA w rv k.bi k.l
 upd:Qa Sd0 w0 w
def QfC(Sd0:Nat->Prop)(db room n x:Nat)(pre:ByteArray)(fs:List Fl)(k:Kp)(w0:World)(e:Ending)(w:World):Prop:=
 ∃kb Sw Sd wb mv ev mg bv bg rv,e= .returned (.tuple #[.pointer (some ⟨kb,0,none⟩),.agg #[.int .u64 k.t,.int .i64 (Qd k.v)],QC k.bi k.bt bv,rv,.int .i64 0])/\QjM w0 w Sd0 db room n x pre fs k kb Sw Sd wb mv ev mg bv bg rv
end
section
open Go.RowKit Go.Acre Go.Acre.Dk
attribute [local go_sem ↓] LcG ScG ApG
attribute [local go_sem] Sc1 Sc2 Sc3 Lc2 Lc3
attribute [local simp] QH X6
def QeT:ByteArray:=⟨#[103,57,47]⟩
def Zx:ByteArray:=⟨#[103,57,47,114]⟩
theorem Qib:QeT++⟨#[114]⟩=Zx:=by rfl
theorem Qqi(D:List Rc)(j:Nat)(E:j<D.length):XV [] (D.take (j+1))=WE (XV [] (D.take j)) D[j]:=by
 have h: ∀(a:List Rc) (r:Rc) (acc:List Rc),XV acc (a++[r])=WE (XV acc a) r:=by
  intro a;induction a with
  |nil=>intro r acc;rw[List.nil_append,Qar];rfl
  |cons y a ih=>intro r acc;rw[List.cons_append,Qar,Qar,ih]
 rw[List.take_succ_eq_append_getElem E,h]
theorem QiK: ∀(D acc:List Rc) (r:Rc),r∈XV acc D->r∈acc\/r∈D
 |[],acc,r,h=>.inl h
 |
  y::D,acc,r,h=>by
  rw[Qar] at h
  rcases QiK D _ r h with h|h
  ·unfold WE at h
   split at h
   ·exact .inr (by rw[List.mem_singleton] at h;rw[h];exact List.mem_cons_self)
   ·rw[List.mem_append,List.mem_singleton] at h
    exact h.imp id (fun h=>by rw[h];exact List.mem_cons_self)
  ·exact .inr (List.mem_cons_of_mem _ h)
theorem QiJ: ∀(D acc:List Rc),(XV acc D).length <=acc.length+D.length
 |[],acc=>by simp[XV]
 |
  y::D,acc=>by
  rw[Qar]
  have h:=QiJ D (WE acc y)
  have E:(WE acc y).length <=acc.length+1:=by
   unfold WE;split<;>simp
  rw[List.length_cons];omega
theorem Qq4{R:List ByteArray}(T:ByteArray)(I:X4 w' w0.heap.size v R)(ad:R.length<=600000)(E:Qa Ze w0 w'):
  ∃g cap D,(ApC #[93,93] 93 #[v,.slice (some ⟨w'.heap.size,0,none⟩) 1 1]).run Tryz.prog (w'.alloc (.cells #[.string T] 9))= .ok (.slice (some ⟨g,0,none⟩) (R.length+1) cap) D/\
   X4 D w0.heap.size (.slice (some ⟨g,0,none⟩) (R.length+1) cap) (R++[T])/\Qa Ze w0 D:=by
 obtain⟨ac,U,Z,aa,ab⟩:=info_parts info9;have J:Qa Ze w0 (w'.alloc (.cells #[.string T] 9)):=E.alloc _;have Y:=Q3 (show w'.ownsRow w0.heap.size 9 1 v R.length (R.map .string) from I) ((Zr Ze w').alloc (.cells #[.string T] 9)) (fun _ _ f=>f);have W:=Qf (w:=w') (.cells #[.string T] 9);obtain⟨g,cap,D,M,N,O,_,_⟩:=run_append_lies (P:=Tryz.prog) _ 93 93 w0.heap.size 9 ac (.string ⟨#[]⟩) 1 16 Tryz.underlying93 U Z aa ab rfl (by decide) v R.length (R.map .string) Y ⟨w'.heap.size,0,none⟩ 1 1 [.string T] rfl (World.news_of_block W) (by intro u E;simp at E;subst E;rfl) (by omega) (by unfold maxLen;omega) (by omega) J.size _ rfl;refine⟨g,cap,D,M,?_,?_⟩
 ·have:(R++[T]).length =R.length+1:=by simp
  unfold X4;rw[this,List.map_append];exact N
 ·exact J.X8 O (fun g Q ae=>by have:=(I.lt g Q).1;omega)
theorem Qhk{room:Nat}{au:List Fl}{D:List Rc}{k:Kp}(bb:Has w U db room n (Qo Zx au))(be:ZN x au D k)(bk:Tab w)(a5: ¬U 2)(cN:n<=1000000)(cQ:room<=1099511627776):
  Calls Tryz.prog 8 #[.pointer (some ⟨db,0,none⟩),.string QeT] w (QfC U db room n x Zx au k w):=by
 have hx1:=heap_alloc2_old w (.cells #[.int .u64 0,.int .i64 0] 42) (.cells #[.int .u64 0,.int .u64 0,.slice none 0 0] 44);have b8:=heap_alloc2_new w (.cells #[.int .u64 0,.int .i64 0] 42) (.cells #[.int .u64 0,.int .u64 0,.slice none 0 0] 44);have aU:Qa (fun _=>False) w ((w.alloc (.cells #[.int .u64 0,.int .i64 0] 42)).alloc (.cells #[.int .u64 0,.int .u64 0,.slice none 0 0] 44)):=((Zr _ w).alloc _).alloc _;have cp:=Zh hx1;have a2:=Zh b8;have bI:=Zh aU;have bv:=Zh (show ∀k,U k->k<w.heap.size by obtain⟨df,cC,_⟩:=bb;exact cC.below);have aI:=Zh (Qr0 (bb.upd aU (fun _ _ f=>f)) be.fsok (by decide:1<=Zx.size/\Zx.size<=40) (bk.upd aU (fun f=>f)) a5 cN cQ);have ar:=Zh be;have cn:=Zh bk;have dg:=Zh a5;rw[<-Qib] at aI;clear hx1 b8 aU bb be bk a5;obtain⟨a3,aM⟩: ∃a3,a3=QeT:=⟨_,rfl⟩
 rw[<-aM] at aI ⊢;have ch:=Zh aM;have dr:a3.size=3:=by rw[aM];rfl
 clear aM;go_enter Tryz.func8,Tryz.ntmps8;go_upto_region 1 with fail
 change Code.wp _ _ _ _ ((w.alloc (.cells #[.int .u64 0,.int .i64 0] 42)).alloc (.cells #[.int .u64 0,.int .u64 0,.slice none 0 0] 44));generalize ((w.alloc (.cells #[.int .u64 0,.int .i64 0] 42)).alloc (.cells #[.int .u64 0,.int .u64 0,.slice none 0 0] 44))=w1 at*
 generalize hhb:w.heap.size=hb at*
 have cf:=Zh hhb;clear hhb;go_wp2_with fail;refine aI.out.mono ?_
 rintro e w2 ⟨wb,ae,Sd',aq,bN,rfl,ao,bc,am,b1,cU,b2⟩;rw[ch.out,Qib] at ao;have ad:=Zh ao;have ce:=Zh bc;have cm:=Zh am;have bG:=Zh b1;have co:=Zh cU;have aJ:=Zh b2;have aT:=ar.out.recs;rw[<-bc] at aT;have cl:=Zh aT;have hlen:(Zg (Qn aq)).length =D.length:=by rw[aT,List.length_map]
 have aQ:=Qgp _ _ ao.ok.chain;rw[hlen] at aQ;have ba:=ao.ok.cap;have dn:=ao.ok.first;rw[aQ] at ba;unfold QV at ba;have bz:=Zh hlen;have ca:=Zh aQ;have bw:Hid (∀w',Qa (fun _=>False) w2 w'->Calls Tryz.prog 22 #[.pointer (some ⟨wb,0,none⟩)] w' (Qk (.int .u64 x) w')):=Zh (fun w' hu=>first_any (ad.out.Qc hu));have bB:Hid (∀w',Qa (fun _=>False) w2 w'->Calls Tryz.prog 23 #[.pointer (some ⟨wb,0,none⟩)] w' (Qk (.int .u64 (x+D.length:Nat)) w')):=Zh (fun w' hu=>by
  have:=Qcf (ad.out.Qc hu);rw[ca.out] at this;exact this)
 have bx:Hid (∀w' j,Qa (fun _=>False) w2 w'->(aR:j<D.length)->Calls Tryz.prog 24 #[.pointer (some ⟨wb,0,none⟩),.int .u64 (x+j:Nat)] w' (Qk (.tuple #[.string (QR D[j]),.int .i64 0]) w')):=Zh (fun w' j hu aR=>by
  obtain⟨A,z,B,q,cP,av,E,a6⟩:=Qin aq x j ad.out.ok.chain (by rw[bz.out];exact aR);have:=QrU (ad.out.Qc hu) av ((cm.out z (by rw[av];simp)).Qc hu) cP;rw[E,a6] at this;have aL:(Zg (Qn aq))[j]'(by rw[bz.out];exact aR)=QR D[j]:=by simp[cl.out]
  rw[aL] at this;exact this)
 clear ao bc am b1 b2 aT hlen aQ aI;go_upto_region 5 with fail
 go_wp2_with fail;refine (bw.out _ (Zr _ _)).mono ?_
 rintro e ac ⟨rfl,b4⟩;have bK:=Zh b4;clear b4 bw;obtain⟨m,bj⟩: ∃m,m=D.length:=⟨_,rfl⟩
 have bA:=Zh bj;rw[<-bj] at bB ba;clear bj;go_upto_block 0 with fail
 go_wp2_with fail;go_loopw [10,11] (fun dc br wr=> ∃j:Nat,br= .int .u64 ((x+j:Nat):Int)/\j<=m/\X4 wr ac.heap.size dc ((XV [] (D.take j)).map QR)/\Qa (fun _=>False) ac wr) (fun _ br _=>(x+m) - (Go.RowKit.intOf br).toNat)
 case atStart=>exact⟨0,rfl,by omega,World.ownsRow_nil _ _ _ _,Zr _ _⟩
 case round=>
  obtain⟨j,rfl,aR,aa,bo⟩:=hrel;have bn:=bK.out.trans bo (fun _ _ f=>f);have aH:=Zh (bB.out _ bn);have aZ:=Zh aa;have bM:=Zh bo;have bJ:=Zh bn;clear aa bo bn;by_cases hlt:j<m
  ·have bh:j<D.length:=by rw[<-bA.out];exact hlt
   have bd:((x+j:Nat):Int)< ((x+m:Nat):Int):=by omega
   have cH:decide (((x+j:Nat):Int)< ((x+m:Nat):Int))=true:=decide_eq_true bd;have bZ:=ar.out.ok D[j] (List.getElem_mem bh);have cD:=(QaW bZ).2;obtain⟨a7,aN,_⟩:=Qik D[j];have am:=Qqi D j bh;have aC:=QiJ (D.take j) [];rw[List.length_take,List.length_nil] at aC;have aX:Hid (∀w',Qa (fun _=>False) wr w'->Calls Tryz.prog 24 #[.pointer (some ⟨wb,0,none⟩),.int .u64 ((x+j:Nat):Int)] w' (Qk (.tuple #[.string (QR D[j]),.int .i64 0]) w')):=Zh (fun w' hu=>bx.out w' j (bJ.out.trans hu (fun _ _ f=>f)) bh);obtain⟨r,O⟩: ∃r,r=D[j]:=⟨_,rfl⟩
   rw[<-O] at am;have bF:=Zh am;clear am;obtain⟨T,aw⟩: ∃T,T=QR D[j]:=⟨_,rfl⟩
   have a7:0<T.size:=by rw[aw];exact a7
   have aN:T[0].toNat =KG r:=by
    subst aw;rw[O];exact aN
   rw[<-aw] at aX cD;have bH:Hid (T=QR r):=Zh (by rw[O];exact aw);have bP:T.toList.isEmpty=false:=Qek a7;have dl: ¬T.toList=[]:=by
    intro e;rw[e] at bP
    cases bP
   have dD:(0:Int)< (T.size:Int):=by omega
   have aG:Hid (∀w' v (R:List ByteArray),Qa (fun _=>False) wr w'->X4 w' ac.heap.size v R->R.length<=600000-> ∃g cap aW,(ApC #[93,93] 93 #[v,.slice (some ⟨w'.heap.size,0,none⟩) 1 1]).run Tryz.prog (w'.alloc (.cells #[.string T] 9))= .ok (.slice (some ⟨g,0,none⟩) (R.length+1) cap) aW/\X4 aW ac.heap.size (.slice (some ⟨g,0,none⟩) (R.length+1) cap) (R++[T])/\Qa (fun _=>False) ac aW):=Zh (fun w' v R hu ho hR=>Qq4 T ho hR (bM.out.trans hu (fun _ _ f=>f)));clear bZ O aw bx;go_wp2_with fail;refine aH.out.mono ?_
   rintro e Z ⟨rfl,an⟩;have bL:=Zh an;clear an;go_wp2_with fail;refine (aX.out _ bL.out).mono ?_
   rintro e w5 ⟨rfl,ah⟩;have a1:=Zh (bL.out.trans ah (fun _ _ f=>f));clear ah aX aH;by_cases E:KG r=3
   ·have cE:T[0].toNat =3:=by rw[aN,E]
    obtain⟨a4,c9,bu,bS,aA,bm⟩:=aG.out w5 (.slice none 0 0) [] a1.out (World.ownsRow_nil _ _ _ _) (by simp);have aY:Hid (X4 bu ac.heap.size (.slice (some ⟨a4,0,none⟩) 1 c9) ((XV [] (D.take (j+1))).map QR)):=Zh (by
     rw[bF.out];have:WE (XV [] (D.take j)) r=[r]:=by
      cases r with
      |hard t v=>simp[KG] at E
      |ent i t s=>simp[KG] at E
      |whole k=>rfl
     rw[this,List.map_singleton,<-bH.out];exact aA)
    clear aA aG;simp only[List.length_nil,Nat.zero_add] at bS;go_wp2_with fail;exact⟨⟨j+1,by go_num,by omega,aY.out,bm⟩,by simp[Go.RowKit.intOf];omega⟩
   ·have cE: ¬T[0].toNat =3:=by rw[aN];exact E
    obtain⟨a4,c9,bu,bS,aA,bm⟩:=aG.out w5 u10 _ a1.out (Q3 aZ.out a1.out (fun _ _ f=>f)) (by rw[List.length_map];omega);have aY:Hid (X4 bu ac.heap.size (.slice (some ⟨a4,0,none⟩) (((XV [] (D.take j)).map QR).length +1) c9) ((XV [] (D.take (j+1))).map QR)):=Zh (by
     rw[bF.out];have:WE (XV [] (D.take j)) r=XV [] (D.take j)++[r]:=by
      cases r with
      |hard t v=>rfl
      |ent i t s=>rfl
      |whole k=>simp[KG] at E
     rw[this,List.map_append,List.map_singleton,<-bH.out];exact aA)
    clear aA aG;generalize ((XV [] (D.take j)).map QR).length +1=ln at*
    go_wp2_with fail;exact⟨⟨j+1,by go_num,by omega,aY.out,bm⟩,by simp[Go.RowKit.intOf];omega⟩
  ·have bd:j=m:=by omega
   subst bd;have cH:decide (((x+j:Nat):Int)< ((x+j:Nat):Int))=false:=decide_eq_false (by omega);have dp: ¬(((x+j:Nat):Int)< ((x+j:Nat):Int)):=by omega
   have aa:=aZ.out;rw[bA.out,List.take_length] at aa;obtain⟨dd,de,b0⟩:=(Xe.Q7 aa).slice;rw[List.length_map] at b0;subst b0;obtain⟨bs,aC⟩: ∃bs,bs=(XV [] D).length :=⟨_,rfl⟩
   rw[<-aC] at aa ⊢;have dh:=Zh aC;clear aC;have bC:=Zh aa;clear aa aZ;go_wp2_with fail;refine aH.out.mono ?_
   rintro e Z ⟨rfl,an⟩;have b3:=bJ.out.trans an (fun _ _ f=>f);have a0:=Zh b3;have bD:Hid (X4 Z ac.heap.size (.slice dd bs de) ((XV [] D).map QR)):=Zh (Q3 bC.out an (fun _ _ f=>f));have bp:=Qf (w:=Z) (.cells (keepA wb Kp.zero (.slice none 0 0) (.slice none 0 0)) 97);have ah:Qa (fun _=>False) Z (Z.alloc (.cells (keepA wb Kp.zero (.slice none 0 0) (.slice none 0 0)) 97)):=(Zr _ Z).alloc _;clear an b3 bC aH;go_upto_region 13 with fail
   change Code.wp _ _ _ _ (Z.alloc (.cells (keepA wb Kp.zero (.slice none 0 0) (.slice none 0 0)) 97));generalize (Z.alloc (.cells (keepA wb Kp.zero (.slice none 0 0) (.slice none 0 0)) 97))=w5 at*
   generalize hkb:Z.heap.size=kb at*
   have dk:2<w.heap.size:=cn.out.two;have ds:=bI.out.size;have dt:=aJ.out.size;have du:=a0.out.size;have dv:=bK.out.size;have dB:=bM.out.size;have dm:=cf.out;have bg:kb≠2:=by omega
   have b7:=ad.out.lt;have cT: ¬ae 2:=ad.out.tab.2;have bV: ¬ae kb:=fun e=>by have:=b7 kb e;omega
   have bO:Xz w5 (fun i=>i=kb\/ae i) kb wb Kp.zero (.slice none 0 0) (.slice none 0 0) 2:=⟨bp,.inl ⟨rfl,rfl⟩,QaG _ _ _ _ (fun _=>rfl) (Zz _),fun g I=>(by cases I),fun e=>e.elim (fun e=>bg e.symm) cT,.inl rfl,⟨Zz _,Zz _,Zz _⟩⟩
   have cK:=Ql bp;have dw:=ah.size;have bE:=Zh (Qm0 bO (by
    rintro i (rfl|Q)
    ·exact cK
    ·have:=b7 i Q;omega) (fun g I=>by cases I) (by omega) (Xe.Q7 (Q3 bD.out ah (fun _ _ f=>f))) (fun g I=>by have:=bD.out.lt g I;omega) (fun r O=>by
     rcases QiK _ _ _ O with O|O
     ·cases O
     ·exact⟨ar.out.ok r O,ar.out.small r O⟩) ar.out.says)
   clear bO bp;go_wp2_with fail;refine bE.out.mono ?_
   rintro e w6 ⟨rfl,mv,dj,aV,al⟩;have N:=Zh al;have a8:=al.upd;obtain⟨af,ag,cG,_,_⟩:=al.keep.Qq.slice;obtain⟨aE,aF,cM⟩:=al.keep.mem.slice;subst cG;subst cM;have cF:Qa (fun _=>False) w w5->True:=fun _=>trivial
   clear cF;have b6: ∀w',Qa (fun _=>False) w6 w'->w'.heap[hb]? =some (.cells #[.int .u64 0,.int .i64 0] 42 (0,0))/\w'.heap[hb+1]? =some (.cells #[.int .u64 0,.int .u64 0,.slice none 0 0] 44 (0,0))/\w'.heap[kb]? =some (.cells (keepA wb k (.slice aE k.n aF) (.slice af k.l.length ag)) 97 (0,0)):=fun w' hu=>by
    have cL:=Ql a2.out;have az:hb≠kb:=by omega
    have cO:hb+1≠kb:=by omega
    have aP:=bv.out;have ap:=a0.out.trans ah (fun _ _ f=>f);refine⟨hu.keep (a8.keep (ap.keep (aJ.out.keep cp.out (fun e=>by have:=aP _ e;omega)) (fun f=>f)) az) (fun f=>f),hu.keep (a8.keep (ap.keep (aJ.out.keep a2.out (fun e=>by have:=aP _ e;omega)) (fun f=>f)) cO) (fun f=>f),hu.keep al.keep.row (fun f=>f)⟩
   have aK:=Zh b6;have b9:Hid (∀w',Qa (fun _=>False) w6 w'->Calls Tryz.prog 26 #[.agg #[.int .u64 k.bi,.int .u64 k.bt,.slice aE k.n aF]] w' (Qdx k.bi k.bt k.n 2 w')):=Zh (fun w' hu=>by
    refine (QmQ k.bi k.bt (N.out.keep.mem.upd hu (fun f=>f))).mono ?_
    rintro e aW ⟨v,cB,av,E,a6,aL⟩;rcases E with E|E
    ·exact⟨v,2,av,.inl E,.inl ⟨E.1,rfl⟩,aL⟩
    ·refine⟨v,cB,av,.inr E,a6.imp (fun e=> ?_) id,aL⟩
     have:=E.choose_spec.2.1;omega)
   have cg:Hid (∀w',Qa (fun _=>False) w6 w'->Calls Tryz.prog 27 #[.slice af k.l.length ag] w' (QbR k.bi k.l w')):=Zh (fun w' hu=>Qb0 (N.out.keep.Qq.Qc hu) (by have:=N.out.keep.few.1;omega));have cb:Hid (∀w7 w8 J M W rv,Ko w7 (.slice J k.n M) k.n W->(k.n=0/\W=2\/w6.heap.size<=W/\W<w7.heap.size)->Qa (fun _=>False) w6 w7->w8.ownsRow w7.heap.size 116 24 rv k.l.length (Qs k.bi k.l)->Qa (fun _=>False) w7 w8->
     QfC U db room n x Zx au k w (.returned (.tuple #[.pointer (some ⟨kb,0,none⟩),.agg #[.int .u64 k.t,.int .i64 (Qd k.v)],QC k.bi k.bt (.slice J k.n M),rv,.int .i64 0])) (((((w8.setCell ⟨hb,0,none⟩ (.int .u64 k.t)).setCell ⟨hb,1,none⟩ (.int .i64 (Qd k.v))).setCell ⟨hb+1,0,none⟩ (.int .u64 k.bi)).setCell ⟨hb+1,1,none⟩ (.int .u64 k.bt)).setCell ⟨hb+1,2,none⟩ (.slice J k.n M))/\
     (((((w8.setCell ⟨hb,0,none⟩ (.int .u64 k.t)).setCell ⟨hb,1,none⟩ (.int .i64 (Qd k.v))).setCell ⟨hb+1,0,none⟩ (.int .u64 k.bi)).setCell ⟨hb+1,1,none⟩ (.int .u64 k.bt)).setCell ⟨hb+1,2,none⟩ (.slice J k.n M)).heap[hb]? =some (.cells #[.int .u64 k.t,.int .i64 (Qd k.v)] 42 (0,0))/\
     (((((w8.setCell ⟨hb,0,none⟩ (.int .u64 k.t)).setCell ⟨hb,1,none⟩ (.int .i64 (Qd k.v))).setCell ⟨hb+1,0,none⟩ (.int .u64 k.bi)).setCell ⟨hb+1,1,none⟩ (.int .u64 k.bt)).setCell ⟨hb+1,2,none⟩ (.slice J k.n M)).heap[hb+1]? =some (.cells #[.int .u64 k.bi,.int .u64 k.bt,.slice J k.n M] 44 (0,0))):=Zh (fun w7 w8 J M W rv ax a9 aD aB ai=>by
    have b5:=aD.trans ai (fun _ _ f=>f);obtain⟨ak,Y,ab⟩:=aK.out _ b5;have az:hb≠hb+1:=by omega
    have aP:=bv.out;have aO:Qa (fun i=>i=hb\/i=hb+1) w8 (((((w8.setCell ⟨hb,0,none⟩ (.int .u64 k.t)).setCell ⟨hb,1,none⟩ (.int .i64 (Qd k.v))).setCell ⟨hb+1,0,none⟩ (.int .u64 k.bi)).setCell ⟨hb+1,1,none⟩ (.int .u64 k.bt)).setCell ⟨hb+1,2,none⟩ (.slice J k.n M)):=
     (((((Zr (fun i=>i=hb\/i=hb+1) w8).setCell (p:=⟨hb,0,none⟩) (fun _=>.inl rfl) _).setCell (p:=⟨hb,1,none⟩) (fun _=>.inl rfl) _).setCell (p:=⟨hb+1,0,none⟩) (fun _=>.inr rfl) _).setCell (p:=⟨hb+1,1,none⟩) (fun _=>.inr rfl) _).setCell (p:=⟨hb+1,2,none⟩) (fun _=>.inr rfl) _
    have c6:=Qi (o:=1) (Qi (o:=0) ak (.int .u64 k.t)) (.int .i64 (Qd k.v));have c7:((w8.setCell ⟨hb,0,none⟩ (.int .u64 k.t)).setCell ⟨hb,1,none⟩ (.int .i64 (Qd k.v))).heap[hb+1]? =_:=(heap_setCell_other _ _ _ _ (by omega:hb+1≠hb)).trans ((heap_setCell_other _ _ _ _ (by omega:hb+1≠hb)).trans Y);have c8:=Qi (o:=2) (Qi (o:=1) (Qi (o:=0) c7 (.int .u64 k.bi)) (.int .u64 k.bt)) (.slice J k.n M);have da:(((((w8.setCell ⟨hb,0,none⟩ (.int .u64 k.t)).setCell ⟨hb,1,none⟩ (.int .i64 (Qd k.v))).setCell ⟨hb+1,0,none⟩ (.int .u64 k.bi)).setCell ⟨hb+1,1,none⟩ (.int .u64 k.bt)).setCell ⟨hb+1,2,none⟩ (.slice J k.n M)).heap[hb]? =_:=(heap_setCell_other _ _ _ _ az).trans ((heap_setCell_other _ _ _ _ az).trans ((heap_setCell_other _ _ _ _ az).trans c6));have dx:=N.out.upd.size;have dy:=aD.size;have dz:=ai.size;have dA:=aO.size;have cL:=Ql a2.out;have dC:=co.out;have bR:Qa (fun i=>i=hb\/i=hb+1) w6 _:=(b5.mono (fun _ _ f=>f.elim)).trans aO (fun _ _ h=>h);have bQ:Qa (fun _=>False) w2 w5:=a0.out.trans ah (fun _ _ f=>f);have dq:=N.out.mgs;have aS: ∀i,(i=hb\/i=hb+1)->i≠kb/\ ¬ae i/\i≠aV/\i≠2/\i≠W:=fun i Q=>⟨by omega,fun e=>(bG.out i e).elim (fun e=>by have:=aP _ e;omega) (fun e=>by omega),by omega,by omega,by omega⟩
    have bU: ∀g,(Value.slice af k.l.length ag).ownBlock =some g->w5.heap.size<=g:=fun g I=>(N.out.evs g I).elim (fun e=>by cases e) id
    have cR: ∀g,rv.ownBlock=some g->w7.heap.size<=g:=fun g I=>(aB.lt g I).1
    have cJ:=N.out.keep;have cV:QZ w6 ae Sd' wb db room n x Zx aq bN:=(ad.out.Qc bQ).upd N.out.upd (fun i Q e=>bV (by rw[<-e];exact Q)) (fun e=>bg e.symm);have cI:KW w6 ae Sd' kb wb db room n x Zx au k (.slice aE k.n aF) (.slice af k.l.length ag) aV:=⟨cJ,⟨aq,bN,cV,ce.out⟩,bV,N.out.elt,N.out.mlt,bg⟩
    refine⟨⟨kb,ae,Sd',wb,.slice aE k.n aF,.slice af k.l.length ag,aV,.slice J k.n M,W,rv,rfl,?_⟩,da.trans rfl,c8.trans rfl⟩;refine⟨cI.upd bR (fun e=>(aS kb e).1 rfl) (fun i Q e=>(aS i e).2.1 Q) (fun e=>(aS aV e).2.2.1 rfl) (fun g I e=>by have:=bU g I;omega) (by omega),fun i Q=>(bG.out i Q).imp id (fun h=>by omega),by omega,by omega,fun g I=>by have:=bU g I;omega,?_,?_,?_⟩
    ·exact (ax.upd ai (fun f=>f)).upd aO (fun e=>(aS W e).2.2.2.2 rfl)
    ·exact QA.Q7 (XU aB aO (fun g I e=>by have:=cR g I;omega))
    ·have ap:Qa U w w2:=(bI.out.mono (fun _ _ f=>f.elim)).trans aJ.out (fun _ _ h=>h)
     have bq:Qa U w w5:=ap.trans bQ (fun _ _ f=>f.elim);have c4:Qa U w w6:=bq.trans N.out.upd (fun i Q e=>by omega);exact c4.trans bR (fun i Q e=>by omega))
   clear al b6 bE a8;go_upto_region 15 with fail
   have hcur:Qa (fun _=>False) w6 w6.drew:=(Zr _ w6).drew;obtain⟨cW,cX,aj⟩:=aK.out _ hcur;have cq:w6.drew.cell? ⟨kb,1,none⟩=some (.int .u64 k.t):=Qb aj 1;have cr:w6.drew.cell? ⟨kb,2,none⟩=some (.int .i64 (Qd k.v)):=Qb aj 2;have cs:w6.drew.cell? ⟨kb,3,none⟩=some (.int .u64 k.bi):=Qb aj 3;have ct:w6.drew.cell? ⟨kb,4,none⟩=some (.int .u64 k.bt):=Qb aj 4;have c5:w6.drew.cell? ⟨kb,5,none⟩=some (.slice aE k.n aF):=Qb aj 5;have cu:w6.drew.cell? ⟨kb,6,none⟩=some (.slice af k.l.length ag):=Qb aj 6;clear cW cX aj;go_region_with (first
    |(go_at_call 26;refine (b9.out _ hcur).mono ?_;rintro e w7 ⟨di,W,rfl,ax,a9,aD⟩;obtain⟨J,M,hbv⟩:=ax.slice;subst hbv;unfold QC;have ay:Qa (fun _=>False) w6 w7:=Qa.trans hcur aD (fun _ _ f=>f);obtain⟨_,_,ab⟩:=aK.out _ ay;have cv:w7.cell? ⟨kb,1,none⟩=some (.int .u64 k.t):=Qb ab 1;have cw:w7.cell? ⟨kb,2,none⟩=some (.int .i64 (Qd k.v)):=Qb ab 2;have cx:w7.cell? ⟨kb,6,none⟩=some (.slice af k.l.length ag):=Qb ab 6)
    |(go_at_call 27;refine (cg.out _ ay).mono ?_;rintro e w8 ⟨rv,rfl,aB,ai⟩;have bT:Qa (fun _=>False) w6 w8:=Qa.trans ay ai (fun _ _ f=>f);obtain⟨ak,Y,ab⟩:=aK.out _ bT;have e1:w8.cell? ⟨kb,1,none⟩=some (.int .u64 k.t):=Qb ab 1;have cy:w8.cell? ⟨kb,2,none⟩=some (.int .i64 (Qd k.v)):=Qb ab 2;have c1:w8.cell? ⟨hb,0,none⟩=some (.int .u64 0):=Qb ak 0;have c2:w8.cell? ⟨hb,1,none⟩=some (.int .i64 0):=Qb ak 1;have c3:w8.cell? ⟨hb+1,0,none⟩=some (.int .u64 0):=Qb Y 0;have ap:w8.cell? ⟨hb+1,1,none⟩=some (.int .u64 0):=Qb Y 1;have bq:w8.cell? ⟨hb+1,2,none⟩=some (.slice none 0 0):=Qb Y 2;have cz:=Qg ak 0 none;have cA:=Qg ak 1 none;have cY:=Qg Y 0 none;have cZ:=Qg Y 1 none;have c0:=Qg Y 2 none))
   all_goals
    obtain⟨bW,bX,bY⟩:=cb.out _ _ _ _ _ _ ax a9 ay aB ai;have HP:=Zh bW;have ci:=Zh bX;have cj:=Zh bY;clear bW bX bY ax a9 ay aB ai bT aD ak Y ab cv cw cx e1 cy c1 c2 c3 ap bq cz cA cY cZ c0 cq cr cs ct c5 cu;go_wp2_with fail;refine bodyPost_ret (v:=.tuple #[.pointer (some ⟨kb,0,none⟩),.agg #[.int .u64 k.t,.int .i64 (Qd k.v)],QC k.bi k.bt (.slice J k.n M),rv,.int .i64 0]) ?_ rfl HP.out
    refine (QpT (fn:=Tryz.f8) (t0:=4) (p:=5) (q:=6) (u1:=7) (u2:=8) (ty:=42) (tz:=44) ?_ _ _ hb (hb+1) 42 44 #[.int .u64 k.t,.int .i64 (Qd k.v)] #[.int .u64 k.bi,.int .u64 k.bt,.slice J k.n M] (0,0) (0,0) _ _ ?_ ci.out Tryz.underlying42 rfl (by kernel_rfl) ?_ cj.out Tryz.underlying44 rfl (by kernel_rfl))<;>rfl
end
section
open Go.RowKit Go.Acre Go.Acre.Dk
open Raft (upd upd_same upd_ne)
structure QdE(A:Array Value)(lv uv:Value)(ld dn:Nat->Nat)(bad:Bool):Prop where
 size:A.size=332
 setup: ∀k (h:k<9),A[k]? =some (Q9[k]'h)
 lv:A[9]? =some lv
 uv:A[10]? =some uv
 ld: ∀t,t<64->A[11+t]? =some (.int .i64 (ld t:Nat))
 dn: ∀x,x<256->A[75+x]? =some (.int .u64 (dn x:Nat))
 bad:A[331]? =some (.bool bad)
def QX(w:World)(hb:Nat)(lv uv:Value)(ld dn:Nat->Nat)(bad:Bool):Prop:= ∃A,w.heap[hb]? =some (.cells A 33 (0,0))/\QdE A lv uv ld dn bad
theorem QX.upd{w w':World}{hb:Nat}{lv uv:Value}{ld dn:Nat->Nat}{bad:Bool}{T:Nat->Prop}(h:QX w hb lv uv ld dn bad)(J:Qa T w w')(I: ¬T hb):QX w' hb lv uv ld dn bad:=by
 obtain⟨A,D,E⟩:=h;exact⟨A,J.keep D I,E⟩
section
variable {w:World} {hb:Nat} {lv uv:Value} {ld dn:Nat->Nat} {bad:Bool}
theorem QX.lt(h:QX w hb lv uv ld dn bad):hb<w.heap.size:=by obtain⟨A,D,_⟩:=h;exact Ql D
theorem QX.c9(h:QX w hb lv uv ld dn bad):w.cell? ⟨hb,9,none⟩=some lv:=by obtain⟨A,D,E⟩:=h;rw[Qb D];exact E.lv
theorem QX.c10(h:QX w hb lv uv ld dn bad):w.cell? ⟨hb,10,none⟩=some uv:=by obtain⟨A,D,E⟩:=h;rw[Qb D];exact E.uv
theorem QX.Kq(h:QX w hb lv uv ld dn bad):w.cell? ⟨hb,331,none⟩=some (.bool bad):=by obtain⟨A,D,E⟩:=h;rw[Qb D];exact E.bad
theorem QX.cld(h:QX w hb lv uv ld dn bad){t:Nat}(I:t<64):w.cell? ⟨hb,11+t,none⟩=some (.int .i64 (ld t:Nat)):=by obtain⟨A,D,E⟩:=h;rw[Qb D];exact E.ld t I
theorem QX.cdn(h:QX w hb lv uv ld dn bad){x:Nat}(I:x<256):w.cell? ⟨hb,75+x,none⟩=some (.int .u64 (dn x:Nat)):=by obtain⟨A,D,E⟩:=h;rw[Qb D];exact E.dn x I
theorem QX.fr(h:QX w hb lv uv ld dn bad)(k:Nat):w.frozen? ⟨hb,k,none⟩=false:=by obtain⟨A,D,_⟩:=h;exact Qg D k none
theorem QX.Qlb(h:QX w hb lv uv ld dn bad):(LdC ⟨hb,0,none⟩ 9).run Tryz.prog w= .ok Q9 w:=by
 obtain⟨A,I,J⟩:=h;refine W3 (A:=Q9) (fun j v E=> ?_) rfl;rw[Nat.zero_add,Qb I];have D:j<9:=by
  have:=(List.getElem?_eq_some_iff.1 E).1;exact this
 rw[J.setup j D,<-E];simp[D,Q9]
theorem XL{A:Array Value}{k j:Nat}(v:Value)(h:k≠j):(A.setIfInBounds k v)[j]? =A[j]? :=by rw[Array.getElem?_setIfInBounds,if_neg h]
theorem Qca{A:Array Value}{k:Nat}(v:Value)(h:k<A.size):(A.setIfInBounds k v)[k]? =some v:=by rw[Array.getElem?_setIfInBounds,if_pos rfl,if_pos h]
theorem QX.Qqf(h:QX w hb lv uv ld dn bad)(E:Value):QX (w.setCell ⟨hb,10,none⟩ E) hb lv E ld dn bad:=by
 obtain⟨A,I,D⟩:=h;have M:=D.size;exact⟨_,Qi (o:=10) I E,by rw[Array.size_setIfInBounds];exact M,fun k J=>by rw[XL _ (by omega)];exact D.setup k J,by rw[XL _ (by omega)];exact D.lv,Qca _ (by omega),fun t ht=>by rw[XL _ (by omega)];exact D.ld t ht,fun x hx=>by rw[XL _ (by omega)];exact D.dn x hx,by rw[XL _ (by omega)];exact D.bad⟩
theorem QX.Qqc(h:QX w hb lv uv ld dn bad)(E:Value):QX (w.setCell ⟨hb,9,none⟩ E) hb E uv ld dn bad:=by
 obtain⟨A,I,D⟩:=h;have M:=D.size;exact⟨_,Qi (o:=9) I E,by rw[Array.size_setIfInBounds];exact M,fun k J=>by rw[XL _ (by omega)];exact D.setup k J,Qca _ (by omega),by rw[XL _ (by omega)];exact D.uv,fun t ht=>by rw[XL _ (by omega)];exact D.ld t ht,fun x hx=>by rw[XL _ (by omega)];exact D.dn x hx,by rw[XL _ (by omega)];exact D.bad⟩
theorem QX.setB(h:QX w hb lv uv ld dn bad)(b:Bool):QX (w.setCell ⟨hb,331,none⟩ (.bool b)) hb lv uv ld dn b:=by
 obtain⟨A,E,D⟩:=h;have J:=D.size;exact⟨_,Qi (o:=331) E (.bool b),by rw[Array.size_setIfInBounds];exact J,fun k I=>by rw[XL _ (by omega)];exact D.setup k I,by rw[XL _ (by omega)];exact D.lv,by rw[XL _ (by omega)];exact D.uv,fun t ht=>by rw[XL _ (by omega)];exact D.ld t ht,fun x hx=>by rw[XL _ (by omega)];exact D.dn x hx,Qca _ (by omega)⟩
theorem QX.Qqd(h:QX w hb lv uv ld dn bad){t:Nat}(M:t<64)(v:Nat):QX (w.setCell ⟨hb,11+t,none⟩ (.int .i64 v)) hb lv uv (Raft.upd ld t v) dn bad:=by
 obtain⟨A,E,D⟩:=h;have J:=D.size;refine⟨_,Qi (o:=11+t) E (.int .i64 v),by rw[Array.size_setIfInBounds];exact J,fun k I=>by rw[XL _ (by omega)];exact D.setup k I,by rw[XL _ (by omega)];exact D.lv,by rw[XL _ (by omega)];exact D.uv,fun s hs'=> ?_,fun x hx=>by rw[XL _ (by omega)];exact D.dn x hx,by rw[XL _ (by omega)];exact D.bad⟩;by_cases e:s=t
 ·subst e;rw[Qca _ (by omega),upd_same]
 ·rw[XL _ (by omega),upd_ne _ _ e];exact D.ld s hs'
theorem QX.Qqb(h:QX w hb lv uv ld dn bad){x:Nat}(M:x<256)(v:Nat):QX (w.setCell ⟨hb,75+x,none⟩ (.int .u64 v)) hb lv uv ld (Raft.upd dn x v) bad:=by
 obtain⟨A,E,D⟩:=h;have J:=D.size;refine⟨_,Qi (o:=75+x) E (.int .u64 v),by rw[Array.size_setIfInBounds];exact J,fun k I=>by rw[XL _ (by omega)];exact D.setup k I,by rw[XL _ (by omega)];exact D.lv,by rw[XL _ (by omega)];exact D.uv,fun t ht=>by rw[XL _ (by omega)];exact D.ld t ht,fun y hy=> ?_,by rw[XL _ (by omega)];exact D.bad⟩;by_cases e:y=x
 ·subst e;rw[Qca _ (by omega),upd_same]
 ·rw[XL _ (by omega),upd_ne _ _ e];exact D.dn y hy
end
def Xv(db kb pc:Nat->Value):Nat->List Value
 |0=>[]
 |n+1=>Xv db kb pc n++[db n,kb n,pc n]
theorem QcG(db kb pc:Nat->Value): ∀n,(Xv db kb pc n).length =n*3
 |0=>rfl
 |n+1=>by rw[Xv,List.length_append,QcG];simp;omega
theorem Wv(db kb pc:Nat->Value): ∀(n i:Nat),i<n->(Xv db kb pc n)[i*3]? =some (db i)/\(Xv db kb pc n)[i*3+1]? =some (kb i)/\(Xv db kb pc n)[i*3+2]? =some (pc i)
 |
  n+1,i,hi=>by
  have D:=QcG db kb pc n
  rw[Xv]
  by_cases e:i=n
  ·subst e
   refine⟨?_,?_,?_⟩
   ·rw[List.getElem?_append_right (by omega),D,Nat.sub_self];rfl
   ·rw[List.getElem?_append_right (by omega),D,show i*3+1 - i*3=1 by omega];rfl
   ·rw[List.getElem?_append_right (by omega),D,show i*3+2 - i*3=2 by omega];rfl
  ·obtain⟨E,I,J⟩:=Wv db kb pc n i (by omega)
   exact⟨by rw[List.getElem?_append_left (by omega)];exact E,by rw[List.getElem?_append_left (by omega)];exact I,by rw[List.getElem?_append_left (by omega)];exact J⟩
theorem Qbq{db kb pc db' kb' pc':Nat->Value}: ∀n,(∀i,i<n->db' i=db i/\kb' i=kb i/\pc' i=pc i)->Xv db' kb' pc' n=Xv db kb pc n
 |0,_=>rfl
 |
  n+1,h=>by
  obtain⟨D,E,I⟩:=h n (Nat.lt_succ_self n)
  rw[Xv,Xv,Qbq n (fun i J=>h i (by omega)),D,E,I]
theorem QgK(db kb pc:Nat->Value)(v:Value): ∀(n i:Nat),i<n->(Xv db kb pc n).set (i*3+1) v=Xv db (upd kb i v) pc n
 |
  n+1,i,hi=>by
  have D:=QcG db kb pc n
  rw[Xv,Xv]
  by_cases e:i=n
  ·subst e
   rw[List.set_append_right _ _ (by omega),D,show i*3+1 - i*3=1 by omega,upd_same,Qbq i (db:=db) (kb:=kb) (pc:=pc) (fun j E=>⟨rfl,upd_ne _ _ (by omega),rfl⟩)]
   rfl
  ·rw[List.set_append_left _ _ (by omega),QgK db kb pc v n i (by omega),upd_ne _ _ (by omega:n≠i)]
theorem QgL(db kb pc:Nat->Value)(v:Value): ∀(n i:Nat),i<n->(Xv db kb pc n).set (i*3+2) v=Xv db kb (upd pc i v) n
 |
  n+1,i,hi=>by
  have D:=QcG db kb pc n
  rw[Xv,Xv]
  by_cases e:i=n
  ·subst e
   rw[List.set_append_right _ _ (by omega),D,show i*3+2 - i*3=2 by omega,upd_same,Qbq i (db:=db) (kb:=kb) (pc:=pc) (fun j E=>⟨rfl,rfl,upd_ne _ _ (by omega)⟩)]
   rfl
  ·rw[List.set_append_left _ _ (by omega),QgL db kb pc v n i (by omega),upd_ne _ _ (by omega:n≠i)]
theorem Qh5{w:World}{b e sz n:Nat}{E:List Value}{g cap:Nat}(h:w.ownsRow b e sz (.slice (some ⟨g,0,none⟩) n cap) n E){j:Nat}(aa:j<n*sz)(v:Value):(w.setCell ⟨g,j,none⟩ v).ownsRow b e sz (.slice (some ⟨g,0,none⟩) n cap) n (E.set j v):=by
 obtain⟨I,D⟩:=h;rcases D with ⟨D,_⟩|⟨g',Z,cur,J,M,N,O,Q,U,W⟩
 ·cases D
 ·cases J
  have Y:=Qi (o:=j) N v;refine⟨by rw[List.length_set];exact I,.inr ⟨g,cap,_,rfl,M,Y,O,Q,by rw[Array.size_setIfInBounds];exact U,?_⟩⟩;rw[Array.toList_setIfInBounds,List.take_set,W]
theorem Qh6{w:World}{b e sz n:Nat}{J:List Value}{g cap:Nat}(h:w.ownsRow b e sz (.slice (some ⟨g,0,none⟩) n cap) n J)(j:Nat):w.frozen? ⟨g,j,none⟩=false:=by
 obtain⟨N,D⟩:=h;rcases D with ⟨D,_⟩|⟨g',M,cur,E,O,I,_⟩
 ·cases D
 ·cases E
  exact Qg I j none
theorem Ku{w:World}{b e sz n:Nat}{I:List Value}{g cap:Nat}(h:w.ownsRow b e sz (.slice (some ⟨g,0,none⟩) n cap) n I){j:Nat}{v:Value}(D:I[j]? =some v):w.cell? ⟨g,j,none⟩=some v:=by
 obtain⟨Q,E⟩:=h;rcases E with ⟨E,_⟩|⟨g',O,cur,J,U,M,W,Y,Z,N⟩
 ·cases E
 ·cases J
  rw[Qb M];rw[<-N,List.getElem?_take] at D;split at D
  ·simpa using D
  ·cases D
end
section
open Go.RowKit Go.Acre Go.Acre.Dk
open Raft (upd upd_same upd_ne)
attribute [local go_sem ↓] LcG ScG
attribute [local go_sem] Sc1 Sc2 Sc3 Lc2 Lc3
attribute [local simp] QH X6
def QF(g:Nat):Value:=.pointer (some ⟨g,0,none⟩)
structure Qcn(i:Nat)(k:Kp):Prop where
 id:i<k.n
 n:1<=k.n
 b:1<=k.bi
 t:1<=k.bt
 r:XP k.bt k.l
 few:k.bi+k.l.length<=20000
 lt:YtbleblbfadeciaaGreatDoor.lastT k.bt k.l<=k.t
 tm:k.t<=20000
 v: ∀v,k.v=some v->v<5
structure QbS(w0 w:World)(Sd0:Nat->Prop)(lb cap n i:Nat)(db kb pc:Nat->Value)(dbi room nn x:Nat)(fs:List Fl)(k:Kp)(kbn pn:Nat)(Sw Sd SC:Nat->Prop)(wb:Nat)(mv ev:Value)(mg s:Nat):Prop where
 kw:KW w Sw Sd kbn wb dbi room nn x Zx fs k mv ev mg
 core:Q2 w SC pn (KJ i k.n k.t k.v k.bi k.bt k.l) .nilFunc
 fsw: ∀g,Sw g->Sd0 g\/w0.heap.size<=g
 fkb:w0.heap.size<=kbn
 fmg:mg=2\/w0.heap.size<=mg
 fev: ∀g,ev.ownBlock=some g->w0.heap.size<=g
 fst:w0.heap.size<=s
 fsc: ∀g,SC g->s<=g
 flt:(∀g,(g=kbn\/Sw g)->g<s)/\mg<s/\ ∀g,ev.ownBlock=some g->g<s
 row:w.ownsRow 0 52 3 (.slice (some ⟨lb,0,none⟩) n cap) n (Xv db (Raft.upd kb i (QF kbn)) (Raft.upd pc i (QF pn)) n)
 upd:Qa (fun g=>Sd0 g\/g=lb) w0 w
def QdO(Sd0:Nat->Prop)(lb cap n i:Nat)(db kb pc:Nat->Value)(dbi room nn x:Nat)(fs:List Fl)(k:Kp)(w0:World)(e:Ending)(w:World):Prop:=
 e= .returned (.bool true)/\ ∃kbn pn Sw Sd SC wb mv ev mg s,QbS w0 w Sd0 lb cap n i db kb pc dbi room nn x fs k kbn pn Sw Sd SC wb mv ev mg s
theorem Qjd{bad:Bool}{db kb pc:Nat->Value}(an:QX w na (.slice (some ⟨nb,0,none⟩) n cap) Y fa fb bad)(ad:w.ownsRow 0 52 3 (.slice (some ⟨nb,0,none⟩) n cap) n (Xv db kb pc n))(Q:i<n)(bB:n<=5)
  {room nn:Nat} {aa:List Fl} {bo:List Rc} {k:Kp} (aF:db i=QF nc) (al:Has w U nc room nn (Qo Zx aa)) (aI:ZN x aa bo k) (aK:Qcn i k) (aq:Tab w) (aA: ¬U 2) (bg:nn<=1000000) (bh:room<=1099511627776) (aB: ¬U na) (aC: ¬U nb) (bc:na≠nb) (bz:nb≠2):
  Calls Tryz.prog 10 #[QF na,.int .i64 i] w (QdO U nb cap n i db kb pc nc room nn x aa k w):=by
 have aw:=Zh (Qhk al aI aq aA bg bh);obtain⟨au,ah,av⟩:=Wv db kb pc n i Q;rw[aF] at au;have bk:=Ku ad au;have c9:=an.c9;have bx:(i:Int)< (n:Int):=by omega
 have bw:(0:Int)<=i:=by omega
 have bA:nb<w.heap.size:=(ad.lt nb rfl).2;have bq:=Zh (show ∀k,U k->k<w.heap.size by obtain⟨bp,a8,_⟩:=al;exact a8.below);have aW:=Zh an;have aU:=Zh ad;have I:=Zh aK;have br:=Zh aq;have ak:=Zh (And.intro aB aC);clear an ad al aI aK aq aA au ah av aF aB aC;unfold QF;go_enter Tryz.func10,Tryz.ntmps10;go_wp2_with fail;refine aw.out.mono ?_
 rintro e w2 ⟨N,aZ,Sd',wb,mv,a6,bn,bu,a0,rv,rfl,ac⟩;obtain⟨J,M,a9⟩:=ac.mem.slice;subst a9;obtain⟨ra,aQ,bj,_,_⟩:=ac.Qq.slice;subst bj;have D:=Zh ac;clear ac aw bk c9;unfold QC;go_upto_region 4 with fail
 have hx1:=heap_alloc2_old w2 (.cells #[.int .u64 k.t,.int .i64 (Qd k.v)] 42) (.cells #[.int .u64 k.bi,.int .u64 k.bt,.slice J k.n M] 44);have ag:=heap_alloc2_new w2 (.cells #[.int .u64 k.t,.int .i64 (Qd k.v)] 42) (.cells #[.int .u64 k.bi,.int .u64 k.bt,.slice J k.n M] 44);have Z:Qa Ze w2 ((w2.alloc (.cells #[.int .u64 k.t,.int .i64 (Qd k.v)] 42)).alloc (.cells #[.int .u64 k.bi,.int .u64 k.bt,.slice J k.n M] 44)):=((Zr _ w2).alloc _).alloc _;change Code.wp _ _ _ _ ((w2.alloc (.cells #[.int .u64 k.t,.int .i64 (Qd k.v)] 42)).alloc (.cells #[.int .u64 k.bi,.int .u64 k.bt,.slice J k.n M] 44));generalize ((w2.alloc (.cells #[.int .u64 k.t,.int .i64 (Qd k.v)] 42)).alloc (.cells #[.int .u64 k.bi,.int .u64 k.bt,.slice J k.n M] 44))=w4 at*
 generalize w2.heap.size=b at*
 have ay:=Zh Z;have ab:Qa U w w4:=D.out.upd.trans Z (fun _ _ f=>f.elim);have bs:=Zh ab;have aJ:QD w4 (.slice J k.n M) k.n a0:=by
  rcases D.out.mem with ⟨h,_⟩|h
  ·have:=I.out.n;omega
  ·exact h.upd Z (fun f=>f)
 have aG:QA w4 (.slice ra k.l.length aQ) k.bi k.l:=D.out.Qq.Qc Z;have aT:Hid (∀w',Qa Ze w4 w'->Calls Tryz.prog 36 #[.int .i64 i,.agg Q9,.agg #[.int .u64 k.t,.int .i64 (Qd k.v)],.agg #[.int .u64 k.bi,.int .u64 k.bt,.slice J k.n M],.slice ra k.l.length aQ] w' (QdG (KJ i k.n k.t k.v k.bi k.bt k.l) w')):=Zh (fun w' hu=>QnY (aJ.upd hu (fun f=>f)) (aG.Qc hu) I.out.id I.out.b I.out.t I.out.r I.out.few I.out.lt I.out.tm I.out.v);have ao:=aW.out.upd ab ak.out.1;have aL:=XU aU.out ab (fun g E=>by cases E;exact ak.out.2);have hcur:Qa Ze w4 w4.drew:=(Zr _ w4).drew;have be:=(ao.upd hcur (fun f=>f)).Qlb;have a2:w4.drew.cell? ⟨b,0,none⟩=some (.int .u64 k.t):=Qb (hcur.keep hx1 (fun f=>f)) 0;have a3:w4.drew.cell? ⟨b,1,none⟩=some (.int .i64 (Qd k.v)):=Qb (hcur.keep hx1 (fun f=>f)) 1;have a4:w4.drew.cell? ⟨b+1,0,none⟩=some (.int .u64 k.bi):=Qb (hcur.keep ag (fun f=>f)) 0;have e1:w4.drew.cell? ⟨b+1,1,none⟩=some (.int .u64 k.bt):=Qb (hcur.keep ag (fun f=>f)) 1;have a5:w4.drew.cell? ⟨b+1,2,none⟩=some (.slice J k.n M):=Qb (hcur.keep ag (fun f=>f)) 2;have aX:=Zh ao;have aV:=Zh aL;clear hx1 ag Z ab aJ aG ao aL;go_region_with (go_at_call 36;refine (aT.out _ hcur).mono ?_;rintro e w5 ⟨ai,aY,rfl,aE,aN,aO⟩)
 all_goals
  have af:=hcur.trans aO (fun _ _ f=>f);have aR:=Zh aE;have ax:=Zh aN;have az:=Zh af;have ap:=aX.out.upd af (fun f=>f);have ae:=XU aV.out af (fun _ _ f=>f);have c9:=ap.c9;obtain⟨_,ah,av⟩:=Wv db kb pc n i Q;have bF:=Ku ae ah;have bv:=Qh6 ae (i*3+1);have W:=Qh5 ae (j:=i*3+1) (by omega) (QF N);rw[QgK db kb pc _ n i Q] at W;obtain⟨_,_,aP⟩:=Wv db (Raft.upd kb i (QF N)) pc n i Q;have bm:=Ku W aP;have a7:=Qh6 W (i*3+2);have ar:Qa (fun g=>g=nb) w5 (w5.setCell ⟨nb,i*3+1,none⟩ (QF N)):=(Zr (fun g=>g=nb) w5).setCell (p:=⟨nb,i*3+1,none⟩) (fun _=>rfl) _;have aM:=ap.upd ar bc;have a1:=aM.c9;have am:=Qh5 W (j:=i*3+2) (by omega) (QF ai);rw[QgL db _ pc _ n i Q] at am;have aj:=Zh am;have O:Hid (Qa (fun g=>g=nb) w5 ((w5.setCell ⟨nb,i*3+1,none⟩ (QF N)).setCell ⟨nb,i*3+2,none⟩ (QF ai))):=Zh (ar.setCell (p:=⟨nb,i*3+2,none⟩) (fun _=>rfl) _);clear aE aN af aO ap ae W ar aM am ah av aP be a2 a3 a4 e1 a5 hcur;unfold QF at aj O a1 bm a7;have aS:Hid (QdO U nb cap n i db kb pc nc room nn x aa k w (.returned (.bool true)) ((w5.setCell ⟨nb,i*3+1,none⟩ (.pointer (some ⟨N,0,none⟩))).setCell ⟨nb,i*3+2,none⟩ (.pointer (some ⟨ai,0,none⟩)))):=Zh (by
   have bC:=D.out.upd.size;have bD:=ay.out.size;have bE:=az.out.size;have bd:=D.out.kw.lt;have hdr:w4.drew.heap.size=w4.heap.size:=rfl;have ba:=D.out.kbn;have bb:=D.out.mgs;have aH:=D.out.evs;have aD:Qa Ze w2 w5:=ay.out.trans az.out (fun _ _ f=>f);refine⟨rfl,N,ai,aZ,Sd',aY,wb,mv,a6,bn,w4.heap.size,(D.out.kw.Qc aD).upd O.out (by omega) (fun g E e=> ?_) (by omega) (fun g E e=>by have:=aH g E;omega) (by omega),aR.out.upd O.out (fun g E e=>by have:=ax.out g E;omega),D.out.sw,ba,bb,aH,by omega,fun g E=>by have:=ax.out g E;omega,⟨fun g E=>by have:=bd g E;omega,by have:=D.out.kw.mlt;omega,fun g E=>by have:=D.out.kw.elt g E;omega⟩,aj.out,?_⟩
   ·subst e
    rcases D.out.sw _ E with h|h
    ·exact ak.out.2 h
    ·omega
   ·exact ((D.out.upd.mono (T:=fun g=>U g\/g=nb) (fun _ _ h=>.inl h)).trans (aD.mono (T:=fun g=>U g\/g=nb) (fun _ _ f=>f.elim)) (fun _ _ h=>h)).trans (O.out.mono (T:=fun g=>U g\/g=nb) (fun _ _ h=>.inr h)) (fun _ _ h=>h))
  clear aj O;go_wp2_with fail;go_ret;exact aS.out
end
section
open Go.RowKit Go.Acre Go.Acre.Dk
open Raft (upd_same upd_ne)
open Classical
structure Tn(w w':World)(lab lab':Nat->Nat)(Q:Nat->Prop):Prop where
 u:Qa (fun g=>Q (lab g)) w w'
 e: ∀g,g<w.heap.size->lab' g=lab g
theorem Tn.refl(w:World)(lab:Nat->Nat)(D:Nat->Prop):Tn w w lab lab D:=⟨Zr _ _,fun _ _=>rfl⟩
theorem Tn.fresh(h:Qa Ze w w')(lab:Nat->Nat)(D:Nat->Prop):Tn w w' lab lab D:=⟨h.mono (fun _ _ f=>f.elim),fun _ _=>rfl⟩
theorem Tn.mono{lab':Nat->Nat}(h:Tn w w' lab lab' U)(D: ∀q,U q->Sa q):Tn w w' lab lab' Sa:=⟨h.u.mono (fun _ _ h=>D _ h),h.e⟩
theorem Tn.trans{lab':Nat->Nat}(h:Tn w w' lab lab' U)(k:Tn w' w0 lab' fa U):Tn w w0 lab fa U:=
 ⟨h.u.trans k.u (fun i E D=>by rw[h.e i E] at D;exact D),fun g hg=>by rw[k.e g (Zu hg h.u.size),h.e g hg]⟩
noncomputable def Xg(w:World)(lab:Nat->Nat)(N:Nat->Prop)(q:Nat):Nat->Nat:=fun g=>if g<w.heap.size then lab g else if N g then q else 0
theorem Qb9(h:g<w.heap.size):Xg w lab U q g=lab g:=by unfold Xg;rw[if_pos h]
theorem QbE(h:g<w.heap.size->lab g=q)(D:U g):Xg w lab U q g=q:=by
 unfold Xg;split
 ·rename_i h1;exact h h1
 ·rfl
theorem WF(h:g<w.heap.size->lab g=0)(D:w.heap.size<=g-> ¬U g):Xg w lab U q g=0:=by
 unfold Xg;split
 ·rename_i h1;exact h h1
 ·rename_i h1;rw[if_neg (D (by omega))]
theorem Tn.of(J:Qa S w w')(I: ∀g,g<w.heap.size->S g->U (lab g))(E:Nat->Prop)(q:Nat):Tn w w' lab (Xg w lab E q) U:=⟨J.mono (fun g D h=>I g D h),fun g D=>Qb9 D⟩
def Wh(w:World)(lab:Nat->Nat)(i p:Nat)(c:Core):Prop:= ∃S,Q2 w S p c .nilFunc /\ ∀g,S g->lab g=10+2*i
theorem Q2.lt(h:Q2 w S p c Y): ∀g,S g->g<w.heap.size:=by
 obtain⟨_,_,_,_,_,_,D⟩:=h;exact D.lt
theorem Wh.keep{lab':Nat->Nat}(h:Wh w lab i p c)(t:Tn w w' lab lab' U)(J: ¬U (10+2*i)):Wh w' lab' i p c:=by
 obtain⟨S,E,I⟩:=h;exact⟨S,E.upd t.u (fun g D e=>J (by rw[<-I g D];exact e)),fun g D=>by rw[t.e g (E.lt g D)];exact I g D⟩
def Zy:Nat:=16777216
structure Qax(fs:List Fl)(nn x T:Nat):Prop where
 n:nn<=300*(T+1)
 e:Qp x fs<=300*(T+1)
 t:total (Qo Zx fs)<=30000*(T+1)
structure Qfy(w:World)(lab:Nat->Nat)(i kb db:Nat)(k:Kp)(T:Nat)(Sw Sd:Nat->Prop)(wb nn x:Nat)(fs:List Fl)(rs:List Rc)(mv ev:Value)(mg:Nat):Prop where
 kw:KW w Sw Sd kb wb db Zy nn x Zx fs k mv ev mg
 ok:ZN x fs rs k
 syn:WN fs
 ne:fs≠[]
 lbs: ∀g,(g=kb\/Sw g)->lab g=11+2*i
 lm:lab mg=0
 le: ∀g,ev.ownBlock=some g->lab g=0
 b:Qax fs nn x T
def Zs(w:World)(lab:Nat->Nat)(i kb db:Nat)(k:Kp)(T:Nat):Prop:= ∃Sw Sd wb nn x fs rs mv ev mg,Qfy w lab i kb db k T Sw Sd wb nn x fs rs mv ev mg
theorem Qax.mono{D:List Fl}{nn T:Nat}(h:Qax D nn x T)(E:T<=na):Qax D nn x na:=⟨Zt h.n (by omega),Zt h.e (by omega),Zt h.t (by omega)⟩
theorem Zs.mono{k:Kp}{T:Nat}(h:Zs w lab i kb db k T)(aa:T<=na):Zs w lab i kb db k na:=by
 obtain⟨E,D,wb,nn,x,J,ac,mv,I,ab,M,N,O,Q,U,W,Y,Z⟩:=h;exact⟨E,D,wb,nn,x,J,ac,mv,I,ab,M,N,O,Q,U,W,Y,Z.mono aa⟩
theorem Zs.keep{lab':Nat->Nat}{k:Kp}{T:Nat}(h:Zs w lab i kb db k T)(t:Tn w w' lab lab' U)(N: ¬U (11+2*i))(E: ¬U 0)(l2:lab 2=0):Zs w' lab' i kb db k T:=by
 obtain⟨W,Q,wb,nn,x,Z,af,mv,Y,O,D,aa,ab,ac,I,J,M,ad⟩:=h;have ae:=D.lt;refine⟨W,Q,wb,nn,x,Z,af,mv,Y,O,D.upd t.u (fun e=>N (by rw[<-I kb (.inl rfl)];exact e)) (fun g hg e=>N (by rw[<-I g (.inr hg)];exact e)) (fun e=>E (by rw[<-J];exact e)) (fun g hg e=>E (by rw[<-M g hg];exact e)) (fun e=>E (by rw[<-l2];exact e)),aa,ab,ac,fun g hg=> ?_,?_,fun g hg=> ?_,ad⟩
 ·rw[t.e g (ae g hg)];exact I g hg
 ·rw[t.e O D.mlt];exact J
 ·rw[t.e g (D.elt g hg)];exact M g hg
abbrev PV:=Zd×Array Value
def ZP(w:World)(lab:Nat->Nat)(n:Nat)(z:PV):Prop:= ∃ea ec mv g,XH w (fun k=>lab k≠0) n z.1.m z.2 ea ec mv g/\(∀k,(Value.slice ea z.1.m.es.length ec).ownBlock =some k->k<w.heap.size)/\(z.1.m.kind=5->g<w.heap.size)
theorem ZP.keep{lab':Nat->Nat}{z:PV}(h:ZP w lab n z)(t:Tn w w' lab lab' U)(W: ¬U 0):ZP w' lab' n z:=by
 obtain⟨O,Q,mv,g,I,J,M⟩:=h;have E:=I.upd t.u (fun k D e=>fun e0=>W (by rw[<-e0];exact e));refine⟨O,Q,mv,g,⟨E.arr,E.Qq,fun k D=>by rw[t.e k (J k D)];exact I.far k D,?_⟩,fun k D=>Zu (J k D) t.u.size,fun e=>Zu (M e) t.u.size⟩;rcases E.mem with ⟨N,Y,Z⟩|k
 ·refine .inl ⟨N,Y,?_⟩
  rw[t.e g (M N)];exact Z
 ·exact .inr k
def Qba(w:World)(lab:Nat->Nat)(c:Core)(o:Ou)(v:Value):Prop:=Zc w (fun g=>lab g≠0) 0 c o v
theorem Qiu: ∀(l:List En) (t:Nat),XP t l-> ∀e∈l,t<=e.1/\e.1<=YtbleblbfadeciaaGreatDoor.lastT t l
 |
  a::r,t,ht,e,D=>by
  have E:YtbleblbfadeciaaGreatDoor.lastT t (a::r)=YtbleblbfadeciaaGreatDoor.lastT a.1 r:=by
   unfold YtbleblbfadeciaaGreatDoor.lastT
   cases r with
   |nil=>rfl
   |
    cons b r=>
    rw[List.getLast?_cons_cons]
    cases hz:(b::r).getLast? with
    |none=>simp at hz
    |some z=>rfl
  rw[E];rcases List.mem_cons.1 D with rfl|D
  ·exact⟨ht.1,Qaa r _ ht.2⟩
  ·have:=Qiu r _ ht.2 e D
   exact⟨Zt ht.1 this.1,this.2⟩
theorem QcE{T:Nat}(D:Fit c)(I:Cn T c): ∀e∈c.l,1<=e.1/\e.1<=30000/\e.2<=30000:=fun e E=>by
 have J:=Qiu c.l c.bt D.rise e E
 have M:=D.bi
 have N:=D.term.1
 have O:=D.cap.1
 have Q:c.lastT=YtbleblbfadeciaaGreatDoor.lastT c.bt c.l:=rfl
 have U:=I.e e E
 omega
theorem Qhm{T:Nat}(D:Fit c)(E:Cn T c)(I:Xx c.vote)(W:c.last<=1000):ZY c.kp:=by
 have J:=D.bi;have M:=D.term.1;have N:=D.cap.1;have O:c.lastT=YtbleblbfadeciaaGreatDoor.lastT c.bt c.l:=rfl;have Q:=Qaa c.l c.bt D.rise;have U:c.last=c.bi+c.l.length:=rfl;have Y:=D.n;exact⟨by show c.term<=_;omega,I,by show 1<=c.n/\c.n<=5;omega,by show 1<=c.bi/\c.bi<=20000;omega,by show 1<=c.bt/\c.bt<=30000;omega,by show c.l.length<=_;omega,QcE D E⟩
theorem QnX(D:Fit c)(E:Xx c.vote)(J:c.id=i):Qcn i c.kp:=
 ⟨by have:=D.n;show i<c.n;omega,D.n.1,D.bi.1,D.bi.2.2.2,D.rise,by have I:c.last=c.bi+c.l.length:=rfl;have:=D.cap.2.1;show c.bi+c.l.length<=_;omega,D.term.1,D.cap.1,fun v h=>by have h:c.vote=some v:=h;rw[h] at E;exact E⟩
def QbP(w:World)(lab:Nat->Nat)(i kb db:Nat)(k:Kp)(T:Nat)(e:Ending)(w':World):Prop:=e= .returned (.int .i64 0)/\ ∃lab',Tn w w' lab lab' (fun q=>q=11+2*i)/\Zs w' lab' i kb db k T
theorem Zs.save{T:Nat}(h:Zs w lab i kb db c.kp T)(aE:T<=250)(aG:Fit c)(ab:Fit c')(al:Cn na c')(aq:Xx c.vote)(ar:Xx c'.vote)(aH:c.last<=251/\c'.last<=251)(ac:XO c c' o)(ad:o.rest=none){a:Option Addr}
  (M:QA w (.slice a n cap) (o.frm - 1) (if o.frm=0 then [] else Xs c'.bi c'.l o.frm 2147483648)) (am: ∀g,(Value.slice a n cap).ownBlock =some g->lab g=0):
  Calls Tryz.prog 37 #[.pointer (some ⟨kb,0,none⟩),.agg #[.int .u64 c'.term,.int .i64 (Qd c'.vote)],.int .u64 o.frm,.slice a n cap] w (QbP w lab i kb db c'.kp (T+1)):=by
 obtain⟨ay,ax,wb,nn,x,aC,aK,mv,aB,au,D⟩:=h;have aJ:c'.last=c'.bi+c'.l.length:=rfl;have aI:c.last=c.bi+c.l.length:=rfl;obtain⟨L,Q⟩: ∃L,L=(if o.frm=0 then [] else c'.l.drop (o.frm - c.bi - 1)):=⟨_,rfl⟩
 have af:=ac.saved ad;rw[<-Q] at af;have aF:=ab.cap;have Z:(o.frm=0/\L=[])\/(o.frm≠0/\L≠[]/\c.bi<o.frm/\o.frm<=c.last+1/\c'.bi=c.bi/\Xs c'.bi c'.l o.frm 2147483648=L/\o.frm+L.length<=252):=by
  obtain⟨_,_,_,_,⟨_,E,I,N⟩|⟨_,b,t,I,_⟩⟩:=ac
  ·rcases N with ⟨N,W⟩|⟨N,W,aj,Y⟩
   ·exact .inl ⟨N,by rw[Q,if_pos N]⟩
   ·have ah:o.frm≠0:=by omega
    rw[if_neg ah] at Q;have aa:L.length=c'.l.length - (o.frm - c.bi - 1):=by rw[Q,List.length_drop]
    refine .inr ⟨ah,fun e=>by rw[e] at aa;simp at aa;omega,N,W,E,?_,by omega⟩;unfold Xs;rw[if_neg (by omega),E,<-Q,List.take_of_length_le (by omega)]
  ·rw[ad] at I;cases I
 have aD:L.length<=251:=by
  rcases Z with ⟨_,I⟩|h
  ·rw[I];exact Zz _
  ·omega
 have ak: ∀e∈L,e∈c'.l:=by
  intro e M;rw[Q] at M;split at M
  ·cases M
  ·exact List.mem_of_mem_drop M
 have U:=D.b;have hlen2:n=L.length:=by
  obtain⟨az,aA,ag,_⟩:=M.slice;simp only[Value.slice.injEq] at ag;rw[ag.2.1];rcases Z with ⟨E,I⟩|⟨E,_,_,_,_,Y,_⟩
  ·rw[if_pos E,I]
  ·rw[if_neg E,Y]
 have ae:=Qp3 D.kw D.ok D.syn D.ne c'.term c'.vote (by omega) ar aq (x0:=o.frm) (lv:=.slice a n cap) (L:=L) (by
   rcases Z with ⟨E,I⟩|⟨E,I,N,W,aj,Y,_⟩
   ·subst I
    exact .inl ⟨E,rfl,a,cap,by rw[hlen2];rfl⟩
   ·rw[if_neg E,Y] at M
    exact .inr ⟨I,M,N,W⟩) (fun g O=>by
   have E:=am g O;refine⟨fun e=> ?_,fun e=> ?_⟩
   ·have:=D.lbs g (.inl e);omega
   ·have:=D.lbs g (.inr e);omega) (by
   rcases Z with ⟨E,I⟩|h
   ·rw[E,I];show 0+0<=20001;omega
   ·omega) (fun e M=>QcE ab al e (ak e M)) (by have:=U.e;unfold QV;omega) (by have:=U.t;unfold Zy;omega) (by have:=U.n;omega)
 rw[<-af] at ae;refine ae.mono ?_
 rintro e w' ⟨rfl,Sw',Sd',av,ai,aw,ev',J,ap⟩;have an:=D.kw.lt;refine⟨rfl,Xg w lab Sw' (11+2*i),Tn.of J.upd (fun g _ h=>D.lbs g h) _ _,Sw',Sd',wb,av,x,ai,aw,mv,ev',au,J.kw,J.ok,ap,J.ne,?_,?_,?_,?_,?_,?_⟩
 ·rintro g (rfl|O)
  ·rw[Qb9 (an _ (.inl rfl))];exact D.lbs _ (.inl rfl)
  ·refine QbE (fun ao=> ?_) O
   rcases J.sw g O with h|h
   ·exact D.lbs g (.inr h)
   ·omega
 ·rw[Qb9 D.kw.mlt];exact D.lm
 ·intro g O
  refine WF (fun ao=> ?_) (fun _ hs=>J.kw.keep.efar g O (.inr hs));rcases J.ev g O with h|h
  ·exact D.le g h
  ·omega
 ·have:=J.cnt.2;have:=U.n;omega
 ·have:=J.cnt.1;have:=U.e;omega
 ·have:=J.tot;have:=U.t;omega
theorem Zs.rest{T:Nat}(h:Zs w lab i kb db c.kp T)(aq:T<=250)(af:Fit c)(J:Fit c')(ae:Cn na c')(ab:Xx c'.vote)(az:c.last<=251/\c'.last<=251)(W:XO c c' o)(ai:o.rest=some (b,t))
  (ag:QD w Y c'.n nb) (ay:lab nb=0):
  Calls Tryz.prog 9 #[.pointer (some ⟨kb,0,none⟩),.agg #[.int .u64 c'.term,.int .i64 (Qd c'.vote)],QC b t Y] w (QbP w lab i kb db c'.kp (T+1)):=by
 obtain⟨an,am,wb,nn,x,ap,aF,mv,ao,aE,E⟩:=h;obtain⟨O,ax⟩:=W.restored ai;have aB:c'.last=c'.bi+c'.l.length:=rfl;have aA:c.last=c.bi+c.l.length:=rfl;have ah:c'.n=c.n:=W.2.1;have N:c.kp.restored c'.term c'.vote c'.n b t=c'.kp:=by rw[O,ah];rfl
 have au:c'.bi=b/\c'.bt=t:=by
  have ac:c'.kp.bi=b:=by rw[O]
  have ad:c'.kp.bt=t:=by rw[O]
  exact⟨ac,ad⟩
 have I:=E.b;have av:=J.bi;have ar:=af.bi;have aw:=J.cap;have aD:=Qaa c'.l c'.bt J.rise;have Q:=J.term.1;have aC:c'.lastT=YtbleblbfadeciaaGreatDoor.lastT c'.bt c'.l:=rfl;have Z:=Qhm J ae ab (by omega);have hsz:=Qct Z;have U:c'.kp.l.length=c'.l.length:=rfl;have aa:=Qeq E.kw E.ok c'.term c'.vote (by omega) ab (n2:=c'.n) (b:=b) (bt:=t) ag (by omega) (by omega) (by show c.bi<=b;omega) (by rw[N];exact Z) (by rw[N];show c'.last<=20000;omega) (by have:=I.e;unfold QV;omega) (by rw[N];have:=I.t;unfold Zy;omega) (by have:=I.n;omega) (by show c.l.length<=20000;omega) ⟨fun e=>by have:=E.lbs nb (.inl e);omega,fun e=>by have:=E.lbs nb (.inr e);omega⟩;rw[N] at aa;refine aa.mono ?_
 rintro e w' ⟨rfl,Sw',Sd',f,al,ak,ev',aj,D⟩;have U:=E.kw.lt;refine⟨rfl,Xg w lab Sw' (11+2*i),Tn.of D.upd (fun g _ h=>E.lbs g h) _ _,Sw',Sd',wb,nn+1,f.first,[f],al,ak,ev',aj,D.kw,D.ok,D.syn,by simp,?_,?_,?_,?_,?_,?_⟩
 ·rintro g (rfl|M)
  ·rw[Qb9 (U _ (.inl rfl))];exact E.lbs _ (.inl rfl)
  ·refine QbE (fun Q=> ?_) M
   rcases D.sw g M with h|h
   ·exact E.lbs g (.inr h)
   ·omega
 ·exact WF (fun Q=>by have:=D.mgs;omega) (fun _ hs=>D.kw.keep.mfar (.inr hs))
 ·intro g M
  exact WF (fun Q=>by have:=D.evs g M;omega) (fun _ hs=>D.kw.keep.efar g M (.inr hs))
 ·have:=I.n;omega
 ·rw[D.cnt];have:=I.e;omega
 ·have:=D.tot;have:=I.t;omega
def XK(z:PV):Array Value:= #[.int .i64 (z.1.frm:Nat),.int .i64 (z.1.dest:Nat)]++z.2
def Xk:List PV->List Value
 |[]=>[]
 |z::r=>(XK z).toList ++Xk r
theorem QgM(a b:List PV):Xk (a++b)=Xk a++Xk b:=by
 induction a with
 |nil=>rfl
 |cons x r ih=>rw[List.cons_append,Xk,Xk,ih,List.append_assoc]
structure QW(w:World)(lab:Nat->Nat)(hb n:Nat)(kb db pc:Nat->Nat)(cs:Nat->Core)(ks:Nat->Kp)(us:List PV)(ld dn:Nat->Nat)(bad:Bool)(T lb cap:Nat)(uv:Value):Prop where
 row:QX w hb (.slice (some ⟨lb,0,none⟩) n cap) uv ld dn bad
 places:w.ownsRow 0 52 3 (.slice (some ⟨lb,0,none⟩) n cap) n (Xv (fun i=>QF (db i)) (fun i=>QF (kb i)) (fun i=>QF (pc i)) n)
 under:w.ownsRow 0 78 60 uv us.length (Xk us)
 core: ∀i,i<n->Wh w lab i (pc i) (cs i)
 keep: ∀i,i<n->Zs w lab i (kb i) (db i) (ks i) T
 msgs: ∀z∈us,ZP w lab n z
 lhb:lab hb=1
 llb:lab lb=2
 luv: ∀g,uv.ownBlock=some g->lab g=3
 tab:Tab w
 ltab:lab 2=0
 few:us.length<=200
section
variable {w:World} {lab:Nat->Nat} {hb n:Nat} {kb db pc:Nat->Nat} {cs:Nat->Core} {ks:Nat->Kp} {us:List PV} {ld dn:Nat->Nat} {bad:Bool} {T lb cap:Nat} {uv:Value}
theorem QW.QcU(h:QW w lab hb n kb db pc cs ks us ld dn bad T lb cap uv):lb<w.heap.size:=(h.places.lt lb rfl).2
theorem QW.QiL(h:QW w lab hb n kb db pc cs ks us ld dn bad T lb cap uv): ∀z∈us,z.2.size=58:=fun z E=>by
 obtain⟨I,J,mv,g,D,_⟩:=h.msgs z E
 rw[D.arr]
 rfl
theorem QW.turn(h:QW w lab hb n kb db pc cs ks us ld dn bad T lb cap uv){w':World}{lab':Nat->Nat}{D:Nat->Prop}(t:Tn w w' lab lab' D)(I: ∀q,q<10-> ¬D q){M:Nat->Core}{N:Nat->Kp}{J:Nat}
  (O: ∀i,i<n->Wh w' lab' i (pc i) (M i)) (Q: ∀i,i<n->Zs w' lab' i (kb i) (db i) (N i) J):QW w' lab' hb n kb db pc M N us ld dn bad J lb cap uv:=by
 have W:=h.row.lt;have U:=h.QcU;refine⟨h.row.upd t.u (by show ¬D (lab hb);rw[h.lhb];exact I 1 (by omega)),XU h.places t.u (fun g E=> ?_),XU h.under t.u (fun g E=> ?_),O,Q,fun z hz=>(h.msgs z hz).keep t (I 0 (by omega)),?_,?_,fun g E=> ?_,h.tab.upd t.u (by show ¬D (lab 2);rw[h.ltab];exact I 0 (by omega)),?_,h.few⟩
 ·cases E
  show ¬D (lab lb);rw[h.llb];exact I 2 (by omega)
 ·show ¬D (lab g)
  rw[h.luv g E];exact I 3 (by omega)
 ·rw[t.e hb W];exact h.lhb
 ·rw[t.e lb U];exact h.llb
 ·rw[t.e g (h.under.lt g E).2];exact h.luv g E
 ·rw[t.e 2 h.tab.two];exact h.ltab
theorem QW.Qgc(h:QW w lab hb n kb db pc cs ks us ld dn bad T lb cap uv){w':World}{lab':Nat->Nat}{i:Nat}(t:Tn w w' lab lab' (fun q=>q=10+2*i)){c':Core}(D:Wh w' lab' i (pc i) c'):QW w' lab' hb n kb db pc (Raft.upd cs i c') ks us ld dn bad T lb cap uv:=by
 refine h.turn t (fun q E=>by omega) (fun j hj=> ?_) (fun j hj=>(h.keep j hj).keep t (by omega) (by omega) h.ltab);by_cases e:j=i
 ·subst e;rw[upd_same];exact D
 ·rw[upd_ne _ _ e];exact (h.core j hj).keep t (by omega)
theorem QW.Qel(h:QW w lab hb n kb db pc cs ks us ld dn bad T lb cap uv){w':World}{lab':Nat->Nat}{i:Nat}(t:Tn w w' lab lab' (fun q=>q=11+2*i)){k':Kp}{D:Nat}(E:T<=D)(I:Zs w' lab' i (kb i) (db i) k' D):QW w' lab' hb n kb db pc cs (Raft.upd ks i k') us ld dn bad D lb cap uv:=by
 refine h.turn t (fun q J=>by omega) (fun j hj=>(h.core j hj).keep t (by omega)) (fun j hj=> ?_);by_cases e:j=i
 ·subst e;rw[upd_same];exact I
 ·rw[upd_ne _ _ e];exact ((h.keep j hj).keep t (by omega) (by omega) h.ltab).mono E
theorem QW.same(h:QW w lab hb n kb db pc cs ks us ld dn bad T lb cap uv){w':World}{lab':Nat->Nat}(t:Tn w w' lab lab' (fun _=>False)):QW w' lab' hb n kb db pc cs ks us ld dn bad T lb cap uv:=
 h.turn t (fun _ _ f=>f) (fun j hj=>(h.core j hj).keep t (fun f=>f)) (fun j hj=>(h.keep j hj).keep t (fun f=>f) (fun f=>f) h.ltab)
theorem QW.house(h:QW w lab hb n kb db pc cs ks us ld dn bad T lb cap uv){w':World}{lab':Nat->Nat}(t:Tn w w' lab lab' (fun q=>q=1\/q=3)){us':List PV}{J I:Nat->Nat}{E:Bool}{D:Value}
  (Y:QX w' hb (.slice (some ⟨lb,0,none⟩) n cap) D J I E) (Z:w'.ownsRow 0 78 60 D us'.length (Xk us')) (W: ∀z∈us',ZP w' lab' n z) (O: ∀g,D.ownBlock=some g->lab' g=3) (M:us'.length<=200):QW w' lab' hb n kb db pc cs ks us' J I E T lb cap D:=by
 have U:=h.row.lt;have Q:=h.QcU;refine⟨Y,XU h.places t.u (fun g N=> ?_),Z,fun j hj=>(h.core j hj).keep t (by omega),fun j hj=>(h.keep j hj).keep t (by omega) (by omega) h.ltab,W,?_,?_,O,h.tab.upd t.u ?_,?_,M⟩
 ·cases N
  show ¬(lab lb=1\/lab lb=3);rw[h.llb];omega
 ·rw[t.e hb U];exact h.lhb
 ·rw[t.e lb Q];exact h.llb
 ·show ¬(lab 2=1\/lab 2=3)
  rw[h.ltab];omega
 ·rw[t.e 2 h.tab.two];exact h.ltab
theorem QW.cells(h:QW w lab hb n kb db pc cs ks us ld dn bad T lb cap uv){w':World}(E:Qa (fun g=>g=hb) w w'){M J:Nat->Nat}{I:Bool}(O:QX w' hb (.slice (some ⟨lb,0,none⟩) n cap) uv M J I):QW w' lab hb n kb db pc cs ks us M J I T lb cap uv/\Tn w w' lab lab (fun q=>q=1\/q=3):=by
 have t:Tn w w' lab lab (fun q=>q=1\/q=3):=⟨E.mono (fun g _ e=>by subst e;exact .inl h.lhb),fun _ _=>rfl⟩
 have U:=h.row.lt;have Q:=h.QcU;have W:Qa (fun g=>g=hb) w w':=E;have N: ∀g,lab g≠1->g≠hb:=fun g D e=>D (by rw[e];exact h.lhb)
 exact⟨h.house t O (XU h.under E (fun g D=>N g (by rw[h.luv g D];omega))) (fun z hz=>(h.msgs z hz).keep t (by omega)) h.luv h.few,t⟩
theorem QW.mono(h:QW w lab hb n kb db pc cs ks us ld dn bad T lb cap uv){D:Nat}(E:T<=D):QW w lab hb n kb db pc cs ks us ld dn bad D lb cap uv:=
 ⟨h.row,h.places,h.under,h.core,fun j I=>(h.keep j I).mono E,h.msgs,h.lhb,h.llb,h.luv,h.tab,h.ltab,h.few⟩
theorem QW.c9(h:QW w lab hb n kb db pc cs ks us ld dn bad T lb cap uv):w.cell? ⟨hb,9,none⟩=some (.slice (some ⟨lb,0,none⟩) n cap):=h.row.c9
theorem QW.cd(h:QW w lab hb n kb db pc cs ks us ld dn bad T lb cap uv){i:Nat}(D:i<n):w.cell? ⟨lb,i*3,none⟩=some (.pointer (some ⟨db i,0,none⟩)):=Ku h.places (Wv _ _ _ n i D).1
theorem QW.ck(h:QW w lab hb n kb db pc cs ks us ld dn bad T lb cap uv){i:Nat}(D:i<n):w.cell? ⟨lb,i*3+1,none⟩=some (.pointer (some ⟨kb i,0,none⟩)):=Ku h.places (Wv _ _ _ n i D).2.1
theorem QW.cc(h:QW w lab hb n kb db pc cs ks us ld dn bad T lb cap uv){i:Nat}(D:i<n):w.cell? ⟨lb,i*3+2,none⟩=some (.pointer (some ⟨pc i,0,none⟩)):=Ku h.places (Wv _ _ _ n i D).2.2
theorem Zc.labelled{w':World}{I:Nat->Prop}{c:Core}{o:Ou}{v:Value}(av:w.heap.size<=w'.heap.size)(h:Zc w' I w.heap.size c o v)(q:Nat):Qba w' (Xg w lab I q) c o v:=by
 obtain⟨ac,ab,aq,L,ad,ae,af,ag,ah,E,O,ai,N,ak,al,am,an⟩:=h;have J: ∀g,w.heap.size<=g-> ¬I g-> ¬(Xg w lab I q g≠0):=fun g D aj=>by
  rw[WF (fun au=>by omega) (fun _=>aj)];omega
 refine⟨ac,ab,aq,L,ad,ae,af,ag,fun x Q=> ?_,?_,fun g D=>⟨(O g D).1,J g (al g D) (O g D).2⟩,ai,fun g D=>⟨(N g D).1,J g (an g D) (N g D).2⟩,fun _ _ _ _=>Zz _,fun _ _=>Zz _,fun _ _=>Zz _,fun _ _=>Zz _⟩
 ·obtain⟨W,Y,Z,aa,M⟩:=ah x Q
  exact⟨W,Y,Z,aa,fun g D=>⟨(M g D).1,J g (ak x Q g D) (M g D).2⟩⟩
 ·rcases E with E|⟨E,g,U,ao,ap⟩
  ·exact .inl E
  ·refine .inr ⟨E,g,U,ao,J g ?_ ap⟩
   obtain⟨ar,hb,_⟩:=U;exact am g (by rw[hb];rfl)
theorem Qk7{w':World}{S D:Nat->Prop}{i p:Nat}{c':Core}{o':Ou}{v:Value}(I: ∀g,S g->lab g=10+2*i)(J:Q2 w' D p c' .nilFunc)(M: ∀g,D g->S g\/w.heap.size<=g)(E:Qa S w w')(N:Zc w' D w.heap.size c' o' v):
  Tn w w' lab (Xg w lab D (10+2*i)) (fun q=>q=10+2*i)/\Wh w' (Xg w lab D (10+2*i)) i p c'/\Qba w' (Xg w lab D (10+2*i)) c' o' v:=
 ⟨Tn.of E (fun g _ h=>I g h) _ _,⟨D,J,fun g hg=>QbE (fun hlt=>(M g hg).elim (I g) (fun h=>by omega)) hg⟩,N.labelled E.size _⟩
end
end
section
open Go.RowKit Go.Acre Go.Acre.Dk
open Raft (upd_same upd_ne G)
attribute [local go_sem ↓] LcG ScG ApG
attribute [local go_sem] Sc1 Sc2 Sc3 Lc2 Lc3
attribute [local simp] QH X6
theorem Qec: ∀(L:List XI) (j:Nat) (D:j<L.length) (k:Nat),k<59->(Zi L)[j*59+k]? =(WH L[j])[k]?
 |
  x::r,0,_,k,hk=>by
  rw[Zi,Nat.zero_mul,Nat.zero_add,List.getElem?_append_left (by rw[Array.length_toList,QiN];exact hk)]
  simp
 |
  x::r,j+1,D,k,hk=>by
  have E:=QiN x
  rw[Zi,List.getElem?_append_right (by rw[Array.length_toList,E];omega),Array.length_toList,E,show (j+1)*59+k - 59=j*59+k by omega]
  exact Qec r j (by simpa using D) k hk
theorem QgN: ∀(us:List PV),(∀z∈us,z.2.size=58)-> ∀(j:Nat) (E:j<us.length) (k:Nat),k<60->(Xk us)[j*60+k]? =(XK us[j])[k]?
 |
  x::r,h,0,_,k,hk=>by
  have D:(XK x).size =60:=by unfold XK;rw[Array.size_append,h x List.mem_cons_self];rfl
  rw[Xk,Nat.zero_mul,Nat.zero_add,List.getElem?_append_left (by rw[Array.length_toList,D];exact hk)]
  simp
 |
  x::r,h,j+1,E,k,hk=>by
  have D:(XK x).size =60:=by unfold XK;rw[Array.size_append,h x List.mem_cons_self];rfl
  rw[Xk,List.getElem?_append_right (by rw[Array.length_toList,D];omega),Array.length_toList,D,show (j+1)*60+k - 60=j*60+k by omega]
  exact QgN r (fun z I=>h z (List.mem_cons_of_mem _ I)) j (by simpa using E) k hk
theorem Qh4{w:World}{b e sz n:Nat}{D:List Value}{g cap:Nat}(h:w.ownsRow b e sz (.slice (some ⟨g,0,none⟩) n cap) n D){o:Nat}{A:Array Value}(E: ∀k v,A[k]? =some v->D[o+k]? =some v):w.rangeAt g o A.toList:=fun j v I=>by
 refine Ku h (E j v ?_)
 simpa using I
theorem QmB:(Tryz.prog.info? 78).map (fun i=>(i.zero,i.size,decide (i.bytes<=2000)))=some (some (.agg (#[.int .i64 0,.int .i64 0]++XC)),60,true):=by kernel_rfl
def ZV:Array Value:= #[.int .i64 0,.int .i64 0]++XC
theorem Qg3: ∃i,Tryz.prog.info? 78=some i/\i.zero=some (.agg ZV)/\i.size=60/\i.bytes<=2000:=by
 have h:=QmB
 cases hi:Tryz.prog.info? 78 with
 |none=>rw[hi] at h;cases h
 |
  some i=>
  rw[hi] at h;simp only[Option.map_some,Option.some.injEq,Prod.mk.injEq,decide_eq_true_eq] at h;exact⟨i,rfl,h.1,h.2.1,h.2.2⟩
theorem Qkz(a b:Int){A:Array Value}(h:A.size=58):Tryz.prog.built 78 [(0,.int .i64 a),(1,.int .i64 b),(2,.agg A)]=some (#[.int .i64 a,.int .i64 b]++A):=by
 have E: ∀parts,Tryz.prog.built 78 parts=Instr.fill (([(0,1),(1,1),(2,58)]:List (Nat×Nat)).toArray[·]?) ZV parts:=fun parts=>by kernel_rfl
 rw[E];have D:=QcH A ((ZV.setIfInBounds 0 (.int .i64 a)).setIfInBounds 1 (.int .i64 b)) 2 (by rw[h];rfl);rw[h] at D;have J:((ZV.setIfInBounds 0 (.int .i64 a)).setIfInBounds 1 (.int .i64 b)).extract 0 2= #[.int .i64 a,.int .i64 b]:=rfl;rw[J] at D;have M:((ZV.setIfInBounds 0 (.int .i64 a)).setIfInBounds 1 (.int .i64 b)).size =60:=rfl;have I:ZV.size=60:=rfl;simp[Instr.fill,Value.cells,h,I];generalize (ZV.setIfInBounds 0 (.int .i64 a)).setIfInBounds 1 (.int .i64 b)=Z at*
 rw[D]
structure Qco(w:World)(lab:Nat->Nat)(c:Core)(o:Ou)(ev bv sv:Value)(L:List XI):Prop where
 snd:o.sends=L.map fun (x:XI)=>(x.1,x.2.1)
 own:w.ownsRow 0 112 59 sv L.length (Zi L)
 few:L.length<=20000
 at_: ∀x∈L,XA w (fun g=>lab g≠0) x
 base:(o.rest=none/\bv= .slice none 0 0)\/(o.rest≠none/\ ∃g,QD w bv c.n g/\g<w.heap.size/\lab g=0)
 Qq:QA w ev (o.frm - 1) (if o.frm=0 then [] else Xs c.bi c.l o.frm 2147483648)
 lab:(∀g,sv.ownBlock=some g->lab g=0)/\(∀g,ev.ownBlock=some g->g<w.heap.size/\lab g=0)
theorem Qba.open{w:World}{lab:Nat->Nat}{c:Core}{o:Ou}{v:Value}(h:Qba w lab c o v): ∃I E M L,v= .agg #[.int .u64 c.term,.int .i64 (Qd c.vote),.int .u64 o.frm,I,.bool o.rest.isSome,.int .u64 ((QE o).1:Nat),.int .u64 ((QE o).2:Nat),E,M]/\Qco w lab c o I E M L:=by
 obtain⟨I,E,M,L,O,Q,U,W,Y,D,Z,⟨a,n,cap,_,aa⟩,N,_⟩:=h;refine⟨I,E,M,L,O,Q,U,W,Y,?_,aa,fun g J=>Decidable.not_not.1 (Z g J).2,fun g J=>⟨(N g J).1,Decidable.not_not.1 (N g J).2⟩⟩;rcases D with D|⟨D,g,a,b,c⟩
 ·exact .inl D
 ·exact .inr ⟨D,g,a,b,Decidable.not_not.1 c⟩
theorem Qco.keep{w w':World}{lab lab':Nat->Nat}{c:Core}{o:Ou}{O N Q:Value}{L:List XI}{M:Nat->Prop}(h:Qco w lab c o O N Q L)(t:Tn w w' lab lab' M)(U: ¬M 0):Qco w' lab' c o O N Q L:=by
 have J: ∀g,lab g=0-> ¬M (lab g):=fun g D=>by rw[D];exact U
 refine⟨h.snd,XU h.own t.u (fun g D=>J g (h.lab.1 g D)),h.few,fun x hx=> ?_,?_,?_,fun g D=> ?_,fun g D=> ?_⟩
 ·have E:=h.at_ x hx
  have I:=E.upd t.u (fun g D=>J g (Decidable.not_not.1 D));exact⟨I.1,I.2.1,I.2.2.1,I.2.2.2.1,fun g D=>⟨(I.2.2.2.2 g D).1,by show ¬(lab' g≠0);rw[t.e g (E.2.2.2.2 g D).1];exact (E.2.2.2.2 g D).2⟩⟩
 ·rcases h.base with E|⟨E,g,a,b,c⟩
  ·exact .inl E
  ·exact .inr ⟨E,g,a.upd t.u (J g c),Zu b t.u.size,by rw[t.e g b];exact c⟩
 ·exact Qr.X3 h.Qq t.u (fun g D=>J g (h.lab.2 g D).2)
 ·rw[t.e g (h.own.lt g D).2];exact h.lab.1 g D
 ·rw[t.e g (h.lab.2 g D).1];exact⟨Zu (h.lab.2 g D).1 t.u.size,(h.lab.2 g D).2⟩
theorem Qdt{P:Program}{ops:Array Oper}{rest:List Oper}{o:Oper}{a:Act}{w:World}{D:Exit->Act->World->Prop}(N:o.guard=none)(t:TypeId)(i j k:Nat)(x y z:Operand)(O:o.op= .build t #[(i,x),(j,y),(k,z)])
  (E I J:Value) (Q:a.eval x=E) (U:a.eval y=I) (W:a.eval z=J) (cells:Array Value) (M:P.built t [(i,E),(j,I),(k,J)]=some cells) (h:wpList P ops D rest (a.put o.dst (.agg cells)) w):wpList P ops D (o::rest) a w:=by
 refine wpList_buildTo N t _ O _ rfl cells ?_ h
 simpa [Q,U,W] using M
theorem Ql0{c:Core}{m:Mg}(h:m.kind=5):c.fix m={m with bi:=c.bi,bt:=c.bt}:=by unfold Core.fix;rw[if_pos h]
theorem Ql1{c:Core}{m:Mg}(h:m.kind≠5):c.fix m=m:=by unfold Core.fix;rw[if_neg h]
theorem QbC{z:PV}(h:z.2.size=58):(XK z).size =60:=by unfold XK;rw[Array.size_append,h];rfl
theorem QoB{w':World}{v:Value}{us:List PV}(z:PV)(aa:z.2.size=58)(ac:z.2.all (·.oneCell')=true)(Y:w'.ownsRow 0 78 60 v us.length (Xk us))(af:us.length<=1000):
  ∃g cap D,(ApC #[28,28] 28 #[v,.slice (some ⟨w'.heap.size,0,none⟩) 1 1]).run Tryz.prog (w'.alloc (.cells (XK z) 78))= .ok (.slice (some ⟨g,0,none⟩) (us.length+1) cap) D/\
   D.ownsRow 0 78 60 (.slice (some ⟨g,0,none⟩) (us.length+1) cap) (us.length+1) (Xk (us++[z]))/\Qa (fun q=>v.ownBlock=some q) w' D/\(v.ownBlock=some g\/w'.heap.size<=g):=by
 obtain⟨I,U,ab,ae,ad⟩:=Qg3;have E:Qa Ze w' (w'.alloc (.cells (XK z) 78)):=(Zr _ w').alloc _;have Z:=Q3 Y E (fun _ _ f=>f);have W:=Qf (w:=w') (.cells (XK z) 78);have hsz:=QbC aa;have Q:(us.length+1)*I.bytes<=140737488355328:=by
  have J:(us.length+1)*I.bytes<=1001*2000:=Nat.mul_le_mul (by omega) ad;omega
 obtain⟨g,cap,D,M,J,N,O,_⟩:=run_append_lies (P:=Tryz.prog) _ 28 28 0 78 I (.agg ZV) 60 I.bytes Tryz.underlying28 U ab ae rfl rfl (by decide) v us.length (Xk us) Z ⟨w'.heap.size,0,none⟩ 1 1 (XK z).toList (by rw[Array.length_toList,hsz]) (World.news_of_block W) (fun u hu=>by
  have:(XK z).all (·.oneCell')=true:=by unfold XK;rw[Array.all_append,ac];simp[Value.oneCell']
  exact Array.all_eq_true_iff_forall_mem.1 this u (by simpa using hu)) (by omega) (by unfold maxLen;omega) Q (Zz _) _ rfl
 refine⟨g,cap,D,M,?_,(E.mono (fun _ _ f=>f.elim)).X8 N (fun k hk _=>hk),?_⟩
 ·rw[QgM,Xk,Xk,List.append_nil]
  exact J
 ·rcases O with h|h
  ·exact .inl h
  ·have:=E.size
   exact .inr (by rw[h];exact E.size)
section
variable {w:World} {lab:Nat->Nat} {hb n:Nat} {kb db pc:Nat->Nat} {cs:Nat->Core} {ks:Nat->Kp} {us:List PV} {ld dn:Nat->Nat} {bad:Bool} {T lb cap:Nat} {uv:Value}
open Classical
theorem QW.newU(h:QW w lab hb n kb db pc cs ks us ld dn bad T lb cap uv){us':List PV}(Y: ∀z∈us',ZP w lab n z)(M:us'.length<=200){D:World}{g c m:Nat}(Q:m=us'.length)(U:D.ownsRow 0 78 60 (.slice (some ⟨g,0,none⟩) m c) m (Xk us'))(I:Qa (fun q=>uv.ownBlock=some q) w D)(E:uv.ownBlock=some g\/w.heap.size<=g):
  ∃lab',Tn w (D.setCell ⟨hb,10,none⟩ (.slice (some ⟨g,0,none⟩) m c)) lab lab' (fun q=>q=1\/q=3)/\QW (D.setCell ⟨hb,10,none⟩ (.slice (some ⟨g,0,none⟩) m c)) lab' hb n kb db pc cs ks us' ld dn bad T lb cap (.slice (some ⟨g,0,none⟩) m c):=by
 subst Q;have aa:=h.row.lt;have J: ¬uv.ownBlock=some hb:=fun e=>by have:=h.luv hb e;rw[h.lhb] at this;omega
 have N:g≠hb:=by
  rcases E with e|e
  ·rintro rfl;exact J e
  ·omega
 have W:Qa (fun q=>uv.ownBlock=some q\/q=hb) w (D.setCell ⟨hb,10,none⟩ (.slice (some ⟨g,0,none⟩) us'.length c)):=(I.mono (T:=fun q=>uv.ownBlock=some q\/q=hb) (fun _ _ h=>.inl h)).setCell (p:=⟨hb,10,none⟩) (fun _=>.inr rfl) _;have t:Tn w (D.setCell ⟨hb,10,none⟩ (.slice (some ⟨g,0,none⟩) us'.length c)) lab (Xg w lab (fun q=>q=g) 3) (fun q=>q=1\/q=3):=Tn.of W (fun q _ e=>by
  rcases e with e|rfl
  ·exact .inr (h.luv q e)
  ·exact .inl h.lhb) _ _
 have O:Xg w lab (fun q=>q=g) 3 g=3:=QbE (fun hlt=>by
  rcases E with e|e
  ·exact h.luv g e
  ·omega) rfl
 refine⟨_,t,h.house t ((h.row.upd I J).Qqf _) ?_ (fun z Z=>(Y z Z).keep t (by omega)) (fun q hq=>by cases hq;exact O) M⟩;exact XU U ((Zr (fun q=>q=hb) D).setCell (p:=⟨hb,10,none⟩) (fun _=>rfl) _) (fun q hq e=>by cases hq;exact N e)
end
end
section
open Go.RowKit Go.Acre Go.Acre.Dk
open Raft (upd_same upd_ne G)
theorem HP.post{g:G}{n:Nat}{cs:Nat->Core}{us:List Zd}{ld dn:Nat->Nat}{T:Nat}(h:HP g n cs us ld dn T){x:Zd}(E:QaA g T x):HP g n cs (us++[x]) ld dn T:=
 ⟨h.gn,h.n5,h.sim,h.cn,h.el,h.ldo,h.dno,fun y I=>by
  rcases List.mem_append.1 I with D|D
  ·exact h.uso y D
  ·rw[List.mem_singleton] at D
   subst D
   exact E⟩
theorem HP.sub{g:G}{n:Nat}{cs:Nat->Core}{us:List Zd}{ld dn:Nat->Nat}{T:Nat}(h:HP g n cs us ld dn T){us':List Zd}(D: ∀x∈us',x∈us):HP g n cs us' ld dn T:=
 ⟨h.gn,h.n5,h.sim,h.cn,h.el,h.ldo,h.dno,fun y E=>h.uso y (D y E)⟩
theorem HP.seen{g:G}{n:Nat}{cs:Nat->Core}{us:List Zd}{ld dn:Nat->Nat}{T:Nat}(h:HP g n cs us ld dn T){E D:Nat->Nat}(I:Wm g E)(J:Wi g D):HP g n cs us E D T:=
 ⟨h.gn,h.n5,h.sim,h.cn,h.el,I,J,h.uso⟩
theorem Wl.sub{g:G}{n:Nat}{cs:Nat->Core}{us:List Zd}{ld dn:Nat->Nat}{T i:Nat}{D:Core}{o:Ou}(h:Wl g n cs us ld dn T i D o){us':List Zd}(E: ∀x∈us',x∈us):Wl g n cs us' ld dn T i D o:=⟨h.hp.sub E,h.hi,h.out,h.snd⟩
theorem QpG{w:World}{lab:Nat->Nat}{n i:Nat}{c:Core}{x:XI}(h:XA w (fun g=>lab g≠0) x)(D:x.2.1.kind≠5):ZP w lab n (⟨i,x.1,c.fix x.2.1⟩,x.2.1.arr x.2.2):=by
 rw[Ql1 D];obtain⟨d,m,U⟩:=x;obtain⟨I,W,N,O,J⟩:=h;obtain⟨a,M,Q,_⟩:=I.slice
 dsimp only at*
 subst Q;refine⟨a,M,.slice none 0 0,0,⟨?_,I,fun k E=>(J k E).2,.inr ⟨D,rfl⟩⟩,fun k E=>(J k E).1,fun e=>absurd e D⟩;show m.arr _=_;unfold Mg.arr;rw[N,O];rfl
theorem QpH{w:World}{lab:Nat->Nat}{n i:Nat}{c:Core}{x:XI}(h:XA w (fun g=>lab g≠0) x)(I:x.2.1.kind=5){mv:Value}{g:Nat}(Q:QD w mv n g)(N:lab g=0)(O:g<w.heap.size):ZP w lab n (⟨i,x.1,c.fix x.2.1⟩,Xl x.2.1.kind x.2.1.term x.2.1.idx x.2.1.lt x.2.1.com x.2.1.ok x.2.2 c.bi c.bt mv):=by
 rw[Ql0 I];obtain⟨d,m,W⟩:=x;obtain⟨E,Y,Z,aa,J⟩:=h;obtain⟨a,M,U,_⟩:=E.slice
 dsimp only at*
 subst U;exact⟨a,M,mv,g,⟨rfl,E,fun k D=>(J k D).2,.inl ⟨I,Q,fun e=>e N⟩⟩,fun k D=>(J k D).1,fun _=>O⟩
theorem Qc9{w:World}{lab:Nat->Nat}{n:Nat}{z:PV}(h:ZP w lab n z):z.2.size=58/\z.2.all (·.oneCell')=true:=by
 obtain⟨_,_,_,_,D,_⟩:=h;refine⟨by rw[D.arr];rfl,?_⟩;rw[D.arr];obtain⟨_,_,_,e⟩:=D.QcZ;exact QaN _ _ _ _ _ _ _ _ _ _ rfl (by rw[e];rfl)
theorem QhG(a b:Int):(#[Value.int .i64 a,.int .i64 b]++XC:Array Value)= #[Value.int .i64 a,.int .i64 b,.int .i64 0,.int .i64 0,.int .u64 0,.int .u64 0,.int .u64 0,.int .u64 0,.bool false,.slice none 0 0,.int .u64 0,.int .u64 0,.slice none 0 0,.string ⟨#[]⟩,.int .i64 0,.int .u64 0,.int .i64 0,.int .u64 0,.int .i64 0,.string ⟨#[]⟩,.string ⟨#[]⟩,.string ⟨#[]⟩,.bool false,.string ⟨#[]⟩,.int .i64 0,.int .u64 0,.int .i64 0,.bool false,.string ⟨#[]⟩,.string ⟨#[]⟩,.int .u64 0,.int .i64 0,.int .i64 0,.int .i64 0,.int .i64 0,.int .u64 0,.int .u64 0,.int .i64 0,.string ⟨#[]⟩,.string ⟨#[]⟩,.string ⟨#[]⟩,.bool false,.string ⟨#[]⟩,.int .u64 0,.int .i64 0,.string ⟨#[]⟩,.string ⟨#[]⟩,.int .i64 0,.bool false,.int .i64 0,.string ⟨#[]⟩,.int .i64 0,.int .i64 0,.int .i64 0,.int .i64 0,.int .i64 0,.int .u64 0,.int .i64 0,.int .i64 0,.int .i64 0]:=by kernel_rfl
theorem Qmb(a b:Int){A:Array Value}(h:A.size=58):Array.foldl (fun cs x=>cs.setIfInBounds (2+x.snd) x.fst) #[Value.int .i64 a,.int .i64 b,.int .i64 0,.int .i64 0,.int .u64 0,.int .u64 0,.int .u64 0,.int .u64 0,.bool false,.slice none 0 0,.int .u64 0,.int .u64 0,.slice none 0 0,.string ⟨#[]⟩,.int .i64 0,.int .u64 0,.int .i64 0,.int .u64 0,.int .i64 0,.string ⟨#[]⟩,.string ⟨#[]⟩,.string ⟨#[]⟩,.bool false,.string ⟨#[]⟩,.int .i64 0,.int .u64 0,.int .i64 0,.bool false,.string ⟨#[]⟩,.string ⟨#[]⟩,.int .u64 0,.int .i64 0,.int .i64 0,.int .i64 0,.int .i64 0,.int .u64 0,.int .u64 0,.int .i64 0,.string ⟨#[]⟩,.string ⟨#[]⟩,.string ⟨#[]⟩,.bool false,.string ⟨#[]⟩,.int .u64 0,.int .i64 0,.string ⟨#[]⟩,.string ⟨#[]⟩,.int .i64 0,.bool false,.int .i64 0,.string ⟨#[]⟩,.int .i64 0,.int .i64 0,.int .i64 0,.int .i64 0,.int .i64 0,.int .u64 0,.int .i64 0,.int .i64 0,.int .i64 0] A.zipIdx 0 58= #[Value.int .i64 a,.int .i64 b]++A:=by
 have I:(#[Value.int .i64 a,.int .i64 b]++XC:Array Value).size =60:=by kernel_rfl
 have E:(#[Value.int .i64 a,.int .i64 b]++XC:Array Value).extract 0 2= #[Value.int .i64 a,.int .i64 b]:=by kernel_rfl
 have D:=QcH A (#[Value.int .i64 a,.int .i64 b]++XC) 2 (by rw[h,I]);rw[h,E,QhG] at D;exact D
theorem Qmc{B:Array Value}(h:B.size=60):Array.foldl (fun cs x=>cs.setIfInBounds x.snd x.fst) #[Value.int .i64 0,.int .i64 0,.int .i64 0,.int .i64 0,.int .u64 0,.int .u64 0,.int .u64 0,.int .u64 0,.bool false,.slice none 0 0,.int .u64 0,.int .u64 0,.slice none 0 0,.string ⟨#[]⟩,.int .i64 0,.int .u64 0,.int .i64 0,.int .u64 0,.int .i64 0,.string ⟨#[]⟩,.string ⟨#[]⟩,.string ⟨#[]⟩,.bool false,.string ⟨#[]⟩,.int .i64 0,.int .u64 0,.int .i64 0,.bool false,.string ⟨#[]⟩,.string ⟨#[]⟩,.int .u64 0,.int .i64 0,.int .i64 0,.int .i64 0,.int .i64 0,.int .u64 0,.int .u64 0,.int .i64 0,.string ⟨#[]⟩,.string ⟨#[]⟩,.string ⟨#[]⟩,.bool false,.string ⟨#[]⟩,.int .u64 0,.int .i64 0,.string ⟨#[]⟩,.string ⟨#[]⟩,.int .i64 0,.bool false,.int .i64 0,.string ⟨#[]⟩,.int .i64 0,.int .i64 0,.int .i64 0,.int .i64 0,.int .i64 0,.int .u64 0,.int .i64 0,.int .i64 0,.int .i64 0] B.zipIdx 0 60=B:=by
 have D:=QgS B ZV (by rw[h];kernel_rfl);have e:ZV= #[Value.int .i64 0,.int .i64 0,.int .i64 0,.int .i64 0,.int .u64 0,.int .u64 0,.int .u64 0,.int .u64 0,.bool false,.slice none 0 0,.int .u64 0,.int .u64 0,.slice none 0 0,.string ⟨#[]⟩,.int .i64 0,.int .u64 0,.int .i64 0,.int .u64 0,.int .i64 0,.string ⟨#[]⟩,.string ⟨#[]⟩,.string ⟨#[]⟩,.bool false,.string ⟨#[]⟩,.int .i64 0,.int .u64 0,.int .i64 0,.bool false,.string ⟨#[]⟩,.string ⟨#[]⟩,.int .u64 0,.int .i64 0,.int .i64 0,.int .i64 0,.int .i64 0,.int .u64 0,.int .u64 0,.int .i64 0,.string ⟨#[]⟩,.string ⟨#[]⟩,.string ⟨#[]⟩,.bool false,.string ⟨#[]⟩,.int .u64 0,.int .i64 0,.string ⟨#[]⟩,.string ⟨#[]⟩,.int .i64 0,.bool false,.int .i64 0,.string ⟨#[]⟩,.int .i64 0,.int .i64 0,.int .i64 0,.int .i64 0,.int .i64 0,.int .u64 0,.int .i64 0,.int .i64 0,.int .i64 0]:=QhG 0 0;rw[h,e] at D;exact D
structure QI(w0:World)(lab0:Nat->Nat)(g:G)(hb n:Nat)(kb db pc:Nat->Nat)(cs:Nat->Core)(ks:Nat->Kp)(T lb cap:Nat)(w:World)(lab:Nat->Nat)(us:List PV)(ld dn:Nat->Nat)(uv:Value):Prop where
 m:QW w lab hb n kb db pc cs ks us ld dn false T lb cap uv
 p:HP g n cs (us.map (·.1)) ld dn T
 t:Tn w0 w lab0 lab (fun q=>q≠0)
section
variable {w0 w:World} {lab0 lab:Nat->Nat} {g:G} {hb n:Nat} {kb db pc:Nat->Nat} {cs:Nat->Core} {ks:Nat->Kp} {T lb cap:Nat} {us:List PV} {ld dn:Nat->Nat} {uv:Value}
theorem QI.fresh(h:QI w0 lab0 g hb n kb db pc cs ks T lb cap w lab us ld dn uv){w':World}(D:Qa (fun _=>False) w w'):QI w0 lab0 g hb n kb db pc cs ks T lb cap w' lab us ld dn uv:=
 ⟨h.m.same (Tn.fresh D lab _),h.p,h.t.trans (Tn.fresh D lab _)⟩
theorem QI.fresh0(h:QI w0 lab0 g hb n kb db pc cs ks T lb cap w lab us ld dn uv){w':World}(D:Qa (fun _=>False) w w'): ∃lab',QI w0 lab0 g hb n kb db pc cs ks T lb cap w' lab' us ld dn uv/\Tn w w' lab lab' (fun _=>False)/\ ∀q,w.heap.size<=q->lab' q=0:=by
 have t:Tn w w' lab (Xg w lab (fun _=>False) 0) (fun _=>False):=Tn.of D (fun _ _ f=>f) _ _;exact⟨_,⟨h.m.same t,h.p,h.t.trans (t.mono (fun _ f=>f.elim))⟩,t,fun q hq=>WF (fun hlt=>by omega) (fun _ f=>f)⟩
theorem QI.cells(h:QI w0 lab0 g hb n kb db pc cs ks T lb cap w lab us ld dn uv){w':World}(Q:Qa (fun q=>q=hb) w w'){E D:Nat->Nat}(N:QX w' hb (.slice (some ⟨lb,0,none⟩) n cap) uv E D false)(I:Wm g E)(J:Wi g D):QI w0 lab0 g hb n kb db pc cs ks T lb cap w' lab us E D uv:=by
 obtain⟨M,O⟩:=h.m.cells Q N;exact⟨M,h.p.seen I J,h.t.trans (O.mono (fun q U=>by omega))⟩
theorem QI.QoA(h:QI w0 lab0 g hb n kb db pc cs ks T lb cap w lab us ld dn uv){z:PV}(W:ZP w lab n z)(Q:QaA g T z.1)(Y:us.length<200){I:World}{D c m:Nat}(N:m=us.length+1)(O:I.ownsRow 0 78 60 (.slice (some ⟨D,0,none⟩) m c) m (Xk (us++[z])))(U:Qa (fun q=>uv.ownBlock=some q) w I)(M:uv.ownBlock=some D\/w.heap.size<=D):
  ∃lab',QI w0 lab0 g hb n kb db pc cs ks T lb cap (I.setCell ⟨hb,10,none⟩ (.slice (some ⟨D,0,none⟩) m c)) lab' (us++[z]) ld dn (.slice (some ⟨D,0,none⟩) m c):=by
 have hlen:m=(us++[z]).length :=by rw[List.length_append];exact N
 obtain⟨lab',t,J⟩:=h.m.newU (us':=us++[z]) (fun y hy=>by
  rcases List.mem_append.1 hy with E|E
  ·exact h.m.msgs y E
  ·rw[List.mem_singleton] at E
   subst E;exact W) (by rw[<-hlen];omega) hlen O U M
 refine⟨lab',J,?_,h.t.trans (t.mono (fun q Z=>by omega))⟩;rw[List.map_append,List.map_singleton];exact h.p.post Q
theorem QI.base{w9:World}{D:Nat->Nat}(h:QI w0 lab0 g hb n kb db pc cs ks T lb cap w lab us ld dn uv)(t:Tn w9 w0 D lab0 (fun q=>q≠0)):QI w9 D g hb n kb db pc cs ks T lb cap w lab us ld dn uv:=⟨h.m,h.p,t.trans h.t⟩
end
theorem Qqk{bi:Nat}{l:List En}{m k:Nat}{e:En}(h:(Xs bi l (bi+1) m)[k]? =some e):l[k]? =some e:=by
 unfold Xs at h;split at h
 ·cases h
 ·rw[List.getElem?_take] at h
  split at h
  ·rw[List.getElem?_drop] at h
   rw[show bi+1 - bi - 1+k=k by omega] at h;exact h
  ·cases h
def QdN(g:G)(hb n:Nat)(kb db pc:Nat->Nat)(cs:Nat->Core)(ks:Nat->Kp)(T lb cap:Nat)(w0:World)(lab0:Nat->Nat)(e:Ending)(w:World):Prop:=
 e= .returned (.tuple #[])/\ ∃lab us ld dn uv,QI w0 lab0 g hb n kb db pc cs ks T lb cap w lab us ld dn uv
end
section
open Go.RowKit Go.Acre Go.Acre.Dk
open Raft (upd_same upd_ne G)
open Classical
noncomputable def Qa0(w:World)(lab f:Nat->Nat):Nat->Nat:=fun g=>if g<w.heap.size then lab g else f g
theorem QeV{w:World}{lab f:Nat->Nat}{g:Nat}(h:g<w.heap.size):Qa0 w lab f g=lab g:=if_pos h
theorem Qb8{w:World}{lab f:Nat->Nat}{g:Nat}(h:w.heap.size<=g):Qa0 w lab f g=f g:=if_neg (by omega)
theorem Tn.ofF{w w':World}{lab:Nat->Nat}{S:Nat->Prop}(J:Qa S w w'){E:Nat->Prop}(I: ∀g,g<w.heap.size->S g->E (lab g))(f:Nat->Nat):Tn w w' lab (Qa0 w lab f) E:=⟨J.mono (fun g D h=>I g D h),fun g D=>QeV D⟩
theorem Ql7(db kb pc:Nat->Nat)(i v u:Nat)(n:Nat):Xv (fun j=>QF (db j)) (Raft.upd (fun j=>QF (kb j)) i (QF v)) (Raft.upd (fun j=>QF (pc j)) i (QF u)) n=Xv (fun j=>QF (db j)) (fun j=>QF (Raft.upd kb i v j)) (fun j=>QF (Raft.upd pc i u j)) n:=
 Qbq n fun j _=>⟨rfl,by
  by_cases e:j=i
  ·subst e;rw[upd_same,upd_same]
  ·rw[upd_ne _ _ e,upd_ne _ _ e],by
  by_cases e:j=i
  ·subst e;rw[upd_same,upd_same]
  ·rw[upd_ne _ _ e,upd_ne _ _ e]⟩
noncomputable def Qav(i kbn:Nat)(Sw SC:Nat->Prop)(g:Nat):Nat:=if SC g then 10+2*i else if g=kbn\/Sw g then 11+2*i else 0
theorem QbS.node{W w:World}{J:Nat->Prop}{lb cap n i:Nat}{db kb pc:Nat->Value}{Z nn x:Nat}{E:List Fl}{k:Kp}{Q ac:Nat}{N Y I:Nat->Prop}{wb:Nat}{mv aa:Value}{U s:Nat}(h:QbS W w J lb cap n i db kb pc Z Zy nn x E k Q ac N Y I wb mv aa U s)
  {wz:World} {lab:Nat->Nat} (al:wz.heap.size<=W.heap.size) (ae: ∀g,J g->g<wz.heap.size->lab g=11+2*i) (l2:2<wz.heap.size/\lab 2=0) (aj: ∀g,J g->g<s) {ad:List Rc} {T:Nat} (ah:ZN x E ad k) (ai:WN E) (ag:E≠[]) (hb:Qax E nn x T) {F:Nat->Nat} (M: ∀g,wz.heap.size<=g->J g\/W.heap.size<=g->F g=Qav i Q N I g):
  Wh w (Qa0 wz lab F) i ac (KJ i k.n k.t k.v k.bi k.bt k.l)/\Zs w (Qa0 wz lab F) i Q Z k T:=by
 have ak:=h.fst;have O: ∀g,g<s-> ¬I g:=fun g D e=>by have:=h.fsc g e;omega
 refine⟨⟨I,h.core,fun g D=> ?_⟩,N,Y,wb,nn,x,E,ad,mv,aa,U,h.kw,ah,ai,ag,fun g D=> ?_,?_,fun g D=> ?_,hb⟩
 ·have:=h.fsc g D
  rw[Qb8 (by omega),M g (by omega) (.inr (by omega))];exact if_pos D
 ·have af:=h.flt.1 g D
  by_cases hlt:g<wz.heap.size
  ·rw[QeV hlt]
   rcases D with rfl|D
   ·have:=h.fkb;omega
   ·rcases h.fsw g D with ab|ab
    ·exact ae g ab hlt
    ·omega
  ·rw[Qb8 (by omega),M g (by omega) (D.elim (fun e=>.inr (by rw[e];exact h.fkb)) (fun e=>h.fsw g e))]
   unfold Qav;rw[if_neg (O g af),if_pos D]
 ·rcases h.fmg with e|e
  ·rw[e,QeV l2.1];exact l2.2
  ·rw[Qb8 (by omega),M U (by omega) (.inr e)]
   unfold Qav;rw[if_neg (O _ h.flt.2.1),if_neg h.kw.keep.mfar]
 ·have:=h.fev g D
  rw[Qb8 (by omega),M g (by omega) (.inr this)];unfold Qav;rw[if_neg (O _ (h.flt.2.2 g D)),if_neg (h.kw.keep.efar g D)]
section
variable {w:World} {lab:Nat->Nat} {hb n:Nat} {kb db pc:Nat->Nat} {cs:Nat->Core} {ks:Nat->Kp} {us:List PV} {ld dn:Nat->Nat} {bad:Bool} {T lb cap:Nat} {uv:Value}
theorem QW.QrI(h:QW w lab hb n kb db pc cs ks us ld dn bad T lb cap uv){i:Nat}(aw:i<n){ad E:Nat->Prop}{wb nn x:Nat}{U:List Fl}{ap:List Rc}{mv ae:Value}{am:Nat}(I:Qfy w lab i (kb i) (db i) (ks i) T ad E wb nn x U ap mv ae am){ab w2:World}(Y:Qa E w ab)
  {M aa:Nat} {O ac N:Nat->Prop} {aq:Nat} {ao af:Value} {an s:Nat} (J:QbS ab w2 E lb cap n i (fun j=>QF (db j)) (fun j=>QF (kb j)) (fun j=>QF (pc j)) (db i) Zy nn x U (ks i) M aa O ac N aq ao af an s):
  ∃lab',Tn w w2 lab lab' (fun q=>q=2\/q=11+2*i)/\QW w2 lab' hb n (Raft.upd kb i M) db (Raft.upd pc i aa) (Raft.upd cs i (KJ i (ks i).n (ks i).t (ks i).v (ks i).bi (ks i).bt (ks i).l)) ks us ld dn bad T lb cap uv:=by
 obtain⟨ar,au,Q,av⟩:=I.kw.wal;have Z:=Y.size;have ax:=J.fst;have ag: ∀g,E g->g<w.heap.size:=fun g D=>Q.lt g (Q.sub g D)
 have W: ∀g,E g->lab g=11+2*i:=fun g D=>I.lbs g (.inr (Q.sub g D))
 have ah:Qa (fun g=>E g\/g=lb) w w2:=(Y.mono (T:=fun g=>E g\/g=lb) (fun _ _ h=>.inl h)).trans J.upd (fun _ _ h=>h);have t:Tn w w2 lab (Qa0 w lab (Qav i M O N)) (fun q=>q=2\/q=11+2*i):=Tn.ofF ah (fun g _ e=>by
  rcases e with e|rfl
  ·exact .inr (W g e)
  ·exact .inl h.llb) _
 have al:=h.row.lt;have ak:=h.QcU;obtain⟨ai,aj⟩:=J.node (wz:=w) (lab:=lab) (by omega) (fun g D _=>W g D) ⟨h.tab.two,h.ltab⟩ (fun g D=>by have:=ag g D;omega) I.ok I.syn I.ne I.b (F:=Qav i M O N) (fun _ _ _=>rfl);refine⟨_,t,h.row.upd t.u (by show ¬(lab hb=2\/lab hb=11+2*i);rw[h.lhb];omega),?_,XU h.under t.u (fun g D=>by show ¬(lab g=2\/lab g=11+2*i);rw[h.luv g D];omega),fun j hj=> ?_,fun j hj=> ?_,fun z Z=>(h.msgs z Z).keep t (by omega),?_,?_,fun g D=> ?_,h.tab.upd t.u (by show ¬(lab 2=2\/lab 2=11+2*i);rw[h.ltab];omega),?_,h.few⟩
 ·have:=J.row
  rw[Ql7] at this;exact this
 ·by_cases e:j=i
  ·subst e;rw[upd_same,upd_same];exact ai
  ·rw[upd_ne _ _ e,upd_ne _ _ e];exact (h.core j hj).keep t (by omega)
 ·by_cases e:j=i
  ·subst e;rw[upd_same];exact aj
  ·rw[upd_ne _ _ e];exact (h.keep j hj).keep t (by omega) (by omega) h.ltab
 ·rw[t.e hb al];exact h.lhb
 ·rw[t.e lb ak];exact h.llb
 ·rw[t.e g (h.under.lt g D).2];exact h.luv g D
 ·rw[t.e 2 h.tab.two];exact h.ltab
theorem Zs.compact{i Q U:Nat}{c:Core}{T ai:Nat}(h:Zs w lab i Q U c.kp T)(aw:T<=250)(aa:Fit c)(I:Fit (c.compacted c.commit))(al:Cn ai c)(ad:Xx c.vote)(aB:c.last<=251)(O:c.bi<c.commit)(aE:c.commit<=c.last){Z:Value}{M:Nat}
  (ap:QD w Z c.n M) (aA:lab M=0):Calls Tryz.prog 18 #[.pointer (some ⟨Q,0,none⟩),QC (c.compacted c.commit).bi (c.compacted c.commit).bt Z] w (QbP w lab i Q U (c.compacted c.commit).kp (T+1)):=by
 obtain⟨ah,au,wb,nn,x,aj,aH,mv,av,aG,E⟩:=h;have am:=Qga al c.commit;have aC:c.last=c.bi+c.l.length:=rfl;obtain⟨t,Y⟩: ∃t,Qu c.bi c.bt c.l c.commit=some t:=by
  unfold Qu;rw[if_neg (by omega),if_pos (by omega)];rw[List.getElem?_eq_getElem (by omega)];exact⟨_,rfl⟩
 have W:(c.compacted c.commit).bt =t:=by
  show (Qu c.bi c.bt c.l c.commit).getD 0=t;rw[Y];rfl
 have ak:(c.compacted c.commit).bi =c.commit:=rfl;have N:c.kp.restored c.term c.vote c.n c.commit t=(c.compacted c.commit).kp :=by
  unfold Kp.restored Core.kp;rw[W];show Kp.mk _ _ _ _ _ (Q1 c.bi c.bt c.l c.commit t)=Kp.mk _ _ _ _ _ (c.l.drop (c.commit - c.bi));unfold Q1;rw[if_pos Y];rfl
 have hb:=E.b;have an:=I.bi;have az:=aa.bi;have ax:=I.cap;have ay:=aa.cap;have ar:=Qaa (c.compacted c.commit).l (c.compacted c.commit).bt I.rise;have aF:=I.term.1;have ao:(c.compacted c.commit).lastT =YtbleblbfadeciaaGreatDoor.lastT (c.compacted c.commit).bt (c.compacted c.commit).l :=rfl;have aD:(c.compacted c.commit).last <=251:=by
  show c.commit+(c.l.drop (c.commit - c.bi)).length <=251;rw[List.length_drop];omega
 have ac:=Qhm I am ad (by omega);have hsz:=Qct ac;have ab:(c.compacted c.commit).kp.l.length <=251:=by
  have:(c.compacted c.commit).last =c.commit+(c.compacted c.commit).kp.l.length :=rfl;omega
 have aq:=QmR E.kw E.ok (by show c.term<=30000;omega) ad (n2:=c.n) (b:=c.commit) (bt:=t) ap (by omega) (by
   rw[W] at ar an ao;have:(c.compacted c.commit).term =c.term:=rfl;omega) O Y (by show ZY (c.kp.restored c.term c.vote c.n c.commit t);rw[N];exact ac) (by show (c.kp.restored c.term c.vote c.n c.commit t).last <=20000;rw[N];show (c.compacted c.commit).last <=20000;omega) (by have:=hb.e;unfold QV;omega) (by show (allB (c.kp.restored c.term c.vote c.n c.commit t)).size +8+_<=_;rw[N];have:=hb.t;unfold Zy;omega) (by have:=hb.n;omega) (by show c.l.length<=20000;omega) ⟨fun e=>by have:=E.lbs M (.inl e);omega,fun e=>by have:=E.lbs M (.inr e);omega⟩
 rw[ak,W];refine aq.mono ?_
 rintro e w' ⟨rfl,Sw',Sd',f,ag,af,ev',ae,D⟩;have D:QfG w w' ah Q wb U Zy nn x Zx aj (c.kp.restored c.term c.vote c.n c.commit t) Sw' Sd' f ag af ev' ae:=D;rw[N] at D;have ab:=E.kw.lt;refine⟨rfl,Xg w lab Sw' (11+2*i),Tn.of D.upd (fun g _ h=>E.lbs g h) _ _,Sw',Sd',wb,nn+1,f.first,[f],ag,af,ev',ae,D.kw,D.ok,D.syn,by simp,?_,?_,?_,?_,?_,?_⟩
 ·rintro g (rfl|J)
  ·rw[Qb9 (ab _ (.inl rfl))];exact E.lbs _ (.inl rfl)
  ·refine QbE (fun O=> ?_) J
   rcases D.sw g J with h|h
   ·exact E.lbs g (.inr h)
   ·omega
 ·exact WF (fun O=>by have:=D.mgs;omega) (fun _ hs=>D.kw.keep.mfar (.inr hs))
 ·intro g J
  exact WF (fun O=>by have:=D.evs g J;omega) (fun _ hs=>D.kw.keep.efar g J (.inr hs))
 ·have:=hb.n;omega
 ·rw[D.cnt];have:=hb.e;omega
 ·have:=D.tot;have:=hb.t;omega
end
def Wx:Array Value:=Q9++ #[Value.slice none 0 0,.slice none 0 0]++Array.replicate 64 (Value.int .i64 0)++Array.replicate 256 (Value.int .u64 0)++ #[Value.bool false]
theorem Qku:Tryz.prog.built 26 [(2,.int .i64 4),(3,.int .i64 1)]=some Q9:=by kernel_rfl
theorem Qkv:Tryz.prog.built 33 [(0,.agg Q9)]=some Wx:=by kernel_rfl
theorem Qmp:Wx.size=332:=by kernel_rfl
theorem Qqh:Q9.size=9:=rfl
theorem Qmo:QdE Wx (.slice none 0 0) (.slice none 0 0) (fun _=>0) (fun _=>0) false:=by
 have I:=Qqh;have e11:(Q9++ #[Value.slice none 0 0,.slice none 0 0]).size =11:=rfl;have D:(Q9++ #[Value.slice none 0 0,.slice none 0 0]++Array.replicate 64 (Value.int .i64 0)).size =75:=by rw[Array.size_append,e11,Array.size_replicate]
 have E:(Q9++ #[Value.slice none 0 0,.slice none 0 0]++Array.replicate 64 (Value.int .i64 0)++Array.replicate 256 (Value.int .u64 0)).size =331:=by rw[Array.size_append,D,Array.size_replicate]
 refine⟨Qmp,fun k J=> ?_,?_,?_,fun t ht=> ?_,fun x hx=> ?_,?_⟩
 ·unfold Wx
  rw[Array.getElem?_append_left (by rw[E];omega),Array.getElem?_append_left (by rw[D];omega),Array.getElem?_append_left (by rw[e11];omega),Array.getElem?_append_left (by rw[I];omega),Array.getElem?_eq_getElem (by rw[I];omega)];rfl
 ·kernel_rfl
 ·kernel_rfl
 ·unfold Wx
  rw[Array.getElem?_append_left (by rw[E];omega),Array.getElem?_append_left (by rw[D];omega),Array.getElem?_append_right (by rw[e11];omega),e11,Array.getElem?_replicate,if_pos (by omega)];rfl
 ·unfold Wx
  rw[Array.getElem?_append_left (by rw[E];omega),Array.getElem?_append_right (by rw[D];omega),D,Array.getElem?_replicate,if_pos (by omega)];rfl
 ·kernel_rfl
theorem Ql6(db kb pc:Nat->Nat)(i:Nat)(x:Nat)(D E:Value):Xv (Raft.upd (fun j=>QF (db j)) i (QF x)) (Raft.upd (fun j=>QF (kb j)) i D) (Raft.upd (fun j=>QF (pc j)) i E) (i+1)=Xv (fun j=>QF (db j)) (fun j=>QF (kb j)) (fun j=>QF (pc j)) i++[QF x,D,E]:=by
 have e:Xv (Raft.upd (fun j=>QF (db j)) i (QF x)) (Raft.upd (fun j=>QF (kb j)) i D) (Raft.upd (fun j=>QF (pc j)) i E) i=Xv (fun j=>QF (db j)) (fun j=>QF (kb j)) (fun j=>QF (pc j)) i:=Qbq i (fun j hj=>⟨upd_ne _ _ (by omega),upd_ne _ _ (by omega),upd_ne _ _ (by omega)⟩);rw[Xv,e,upd_same,upd_same,upd_same]
structure KU(w:World)(lab:Nat->Nat)(hb n i:Nat)(lv:Value)(kb db pc:Nat->Nat):Prop where
 row:QX w hb lv (.slice none 0 0) (fun _=>0) (fun _=>0) false
 places:w.ownsRow 0 52 3 lv i (Xv (fun j=>QF (db j)) (fun j=>QF (kb j)) (fun j=>QF (pc j)) i)
 core: ∀j,j<i->Wh w lab j (pc j) (Core.first n j)
 keep: ∀j,j<i->Zs w lab j (kb j) (db j) (Core.first n j).kp 0
 lhb:lab hb=1
 llv: ∀g,lv.ownBlock=some g->lab g=2
 tab:Tab w
 ltab:lab 2=0
theorem KU.fresh{kb db pc:Nat->Nat}(h:KU w lab na n i lv kb db pc)(D:Qa Ze w w'):KU w' lab na n i lv kb db pc:=by
 have t:Tn w w' lab lab (fun _=>False):=Tn.fresh D lab _;exact⟨h.row.upd D (fun f=>f),XU h.places D (fun _ _ f=>f),fun j hj=>(h.core j hj).keep t (fun f=>f),fun j hj=>(h.keep j hj).keep t (fun f=>f) (fun f=>f) h.ltab,h.lhb,h.llv,h.tab.upd D (fun f=>f),h.ltab⟩
theorem KU.done{kb db pc:Nat->Nat}(h:KU w lab na n n lv kb db pc)(I:1<=n):
  ∃D cap,QW w lab na n kb db pc (Core.first n) (fun j=>(Core.first n j).kp) [] (fun _=>0) (fun _=>0) false 0 D cap (.slice none 0 0):=by
 obtain⟨D,cap,rfl,_,_⟩:=h.places.form (by omega);exact⟨D,cap,h.row,h.places,World.ownsRow_nil _ _ _ _,h.core,h.keep,fun z E=>(by cases E),h.lhb,h.llv D rfl,fun g hg=>(by cases hg),h.tab,h.ltab,Zz _⟩
theorem QlV(n i:Nat):Kp.zero.restored 1 none n 1 1=(Core.first n i).kp :=rfl
theorem QlX(D:i<n)(I:n<=5):Qcn i (Core.first n i).kp :=⟨D,by show 1<=n;omega,Zf 1,Zf 1,trivial,by show 1+0<=20000;omega,Zf 1,by show 1<=20000;omega,fun v E=>by cases E⟩
theorem QlW(E:i<n)(I:n<=5):ZY (Core.first n i).kp :=⟨by show 1<=30000;omega,trivial,by show 1<=n/\n<=5;omega,by show 1<=1/\1<=20000;omega,by show 1<=1/\1<=30000;omega,Zz _,fun e D=>by cases D⟩
theorem Qjm:ZN 1 [] [] Kp.zero:=⟨⟨trivial,Zf _,fun _=>rfl,fun f hf=>(by cases hf),fun f hf=>(by cases hf),by show 1<=QV;unfold QV;omega⟩,rfl,fun r hr=>(by cases hr),fun r hr=>(by cases hr),rfl⟩
theorem KU.next{kb db pc:Nat->Nat}(h:KU w lab na n i lv kb db pc)(O:Qa (fun q=>lv.ownBlock=some q\/q=na) w w0)(M:lv.ownBlock=some nb\/w.heap.size<=nb)(ai:nb<w0.heap.size)
  {nn:Nat} {E:List Fl} {ah:List Rc}
  (J:QbS w0 w2 U nb cap (i+1) i (Raft.upd (fun j=>QF (db j)) i (QF nc)) (Raft.upd (fun j=>QF (kb j)) i Z) (Raft.upd (fun j=>QF (pc j)) i va) nc Zy nn x E (Core.first n i).kp nd ng Sa Sb Sc wb mv Y nh s)
  (I: ∀g,U g->w.heap.size<=g/\g<w0.heap.size/\g≠nb) (ae:ZN x E ah (Core.first n i).kp) (ag:WN E) (ad:E≠[]) (ab:Qax E nn x 0) (af:QX w0 na (.slice (some ⟨nb,0,none⟩) (i+1) cap) (.slice none 0 0) (fun _=>0) (fun _=>0) false):
  ∃lab',KU w2 lab' na n (i+1) (.slice (some ⟨nb,0,none⟩) (i+1) cap) (Raft.upd kb i nd) (Raft.upd db i nc) (Raft.upd pc i ng)/\Tn w w2 lab lab' (fun q=>q=1\/q=2):=by
 have W:=h.row.lt;have ak:=O.size;have aj:=J.fst;have ac:nb≠na:=by
  rintro rfl;rcases M with e|e
  ·have:=h.llv nb e;rw[h.lhb] at this;omega
  ·omega
 have N:Qa (fun q=>lv.ownBlock=some q\/q=na) w w2:=by
  refine O.trans J.upd (fun g D e=> ?_);rcases e with e|e
  ·have:=(I g e).1;omega
  ·subst e
   rcases M with e|e
   ·exact .inl e
   ·omega
 have t:Tn w w2 lab (Qa0 w lab (fun g=>if g=nb then 2 else Qav i nd Sa Sc g)) (fun q=>q=1\/q=2):=Tn.ofF N (fun g _ e=>by
  rcases e with e|rfl
  ·exact .inr (h.llv g e)
  ·exact .inl h.lhb) _
 obtain⟨Q,aa⟩:=J.node (wz:=w) (lab:=lab) (by omega) (fun g D hlt=>by have:=(I g D).1;omega) ⟨h.tab.two,h.ltab⟩ (fun g D=>by have:=(I g D).2.1;omega) ae ag ad ab (F:=fun g=>if g=nb then 2 else Qav i nd Sa Sc g) (fun g D hg2=>if_neg (by
  rintro rfl;rcases hg2 with e|e
  ·exact (I g e).2.2 rfl
  ·omega))
 refine⟨_,⟨af.upd J.upd (fun e=> ?_),?_,fun j hj=> ?_,fun j hj=> ?_,?_,fun g D=> ?_,?_,?_⟩,t⟩
 ·rcases e with e|e
  ·have:=(I na e).1;omega
  ·exact ac e.symm
 ·have:=J.row
  rw[Qbq (db':=fun j=>QF (Raft.upd db i nc j)) (kb':=fun j=>QF (Raft.upd kb i nd j)) (pc':=fun j=>QF (Raft.upd pc i ng j)) (i+1) (fun j hj=> ?_)]
  ·exact this
  ·by_cases e:j=i
   ·subst e;exact⟨by rw[upd_same,upd_same],by rw[upd_same,upd_same],by rw[upd_same,upd_same]⟩
   ·exact⟨by rw[upd_ne _ _ e,upd_ne _ _ e],by rw[upd_ne _ _ e,upd_ne _ _ e,upd_ne _ _ e],by rw[upd_ne _ _ e,upd_ne _ _ e,upd_ne _ _ e]⟩
 ·by_cases e:j=i
  ·subst e;rw[upd_same];exact Q
  ·rw[upd_ne _ _ e];exact (h.core j (by omega)).keep t (by omega)
 ·by_cases e:j=i
  ·subst e;rw[upd_same,upd_same];exact aa
  ·rw[upd_ne _ _ e,upd_ne _ _ e];exact (h.keep j (by omega)).keep t (by omega) (by omega) h.ltab
 ·rw[t.e na W];exact h.lhb
 ·obtain rfl:nb=g:=by simpa [Value.ownBlock] using D
  by_cases hlt:nb<w.heap.size
  ·rw[t.e nb hlt]
   rcases M with e|e
   ·exact h.llv nb e
   ·omega
  ·rw[Qb8 (by omega)]
   exact if_pos rfl
 ·refine h.tab.upd N (fun e=> ?_)
  rcases e with e|e
  ·have:=h.llv 2 e;rw[h.ltab] at this;omega
  ·have:=h.lhb;rw[<-e,h.ltab] at this;omega
 ·rw[t.e 2 h.tab.two];exact h.ltab
end
section
open Go.RowKit Go.Acre Go.Acre.Dk
open Raft (upd_same upd_ne G)
attribute [local go_sem ↓] LcG ScG
attribute [local go_sem] Sc1 Sc2 Sc3 Lc2 Lc3
attribute [local simp] QH X6
theorem QmA:(Tryz.prog.info? 52).map (fun i=>(i.zero,i.size,i.bytes))=some (some (.agg #[.pointer none,.pointer none,.pointer none]),3,24):=by kernel_rfl
def Qfq(n:Nat)(w0:World)(e:Ending)(w:World):Prop:=
 ∃hb,e= .returned (.pointer (some ⟨hb,0,none⟩))/\ ∃lab kb db pc lb cap,QW w lab hb n kb db pc (Core.first n) (fun j=>(Core.first n j).kp) [] (fun _=>0) (fun _=>0) false 0 lb cap (.slice none 0 0)/\Qa Ze w0 w/\ ∀g,g<w0.heap.size->lab g=0
theorem Qf0(bB:Tab w)(am:1<=n/\n<=5):Calls Tryz.prog 4 #[.int .i64 n] w (Qfq n w):=by
 obtain⟨ct,ca,cq,cr,cs⟩:=info_parts info3;have bb:=Zh bB;have a0:=Qf (w:=w) (.cells Wx 33);have bC:Qa (fun _=>False) w (w.alloc (.cells Wx 33)):=(Zr _ w).alloc _;clear bB;go_enter Tryz.func4,Tryz.ntmps4;have bK:Hid (QdE Wx (.slice none 0 0) (.slice none 0 0) (fun _=>0) (fun _=>0) false):=Zh Qmo;have b7:=Qkv;have b6:=Qku;generalize Wx=A at*
 generalize Q9=A0 at*
 go_upto_region 2 with (first|(refine Qfm rfl 33 0 _ rfl _ rfl A b7 ?_)|(refine Qfn rfl 26 2 3 _ _ rfl _ _ rfl rfl A0 b6 ?_))
 change Code.wp _ _ _ _ (w.alloc (.cells A 33));generalize hw1:w.alloc (.cells A 33)=w1 at*
 have co:w1.heap.size=w.heap.size+1:=by rw[<-hw1];simp
 clear hw1;obtain⟨E,aN⟩: ∃E,E=w.heap.size:=⟨_,rfl⟩
 rw[<-aN] at a0 ⊢;have bh:=Zh a0;have bc:=Zh bC;have a3:=Zh aN;clear a0 bC aN;go_upto_block 0 with fail
 go_cut [4] (fun s bJ=>bJ.ownsRow w1.heap.size 3 1 s n (Za n)/\Qa (fun _=>False) w1 bJ)
 case first=>
  go_wp2_with fail;go_loopw [4,5] (fun cy x wr=> ∃k:Nat,x= .int .i64 k/\k<=n/\wr.ownsRow w1.heap.size 3 1 cy k (Za k)/\Qa (fun _=>False) w1 wr) (fun _ x _=>n - (Go.RowKit.intOf x).toNat)
  case atStart=>exact⟨0,rfl,by omega,by simpa [Za] using World.ownsRow_nil _ _ _ _,Zr _ _⟩
  case round=>
   obtain⟨k,rfl,bs,N,Q⟩:=hrel;by_cases hlt:k<n
   ·have aP:(k:Int)< (n:Int):=by omega
    have aB:=Zh N;have O:=Zh Q;clear N Q;go_upto_region 6 with fail
    have aW:Qa (fun _=>False) wr (wr.alloc (.cells #[.int .i64 (k:Int)] 3)):=(Zr _ wr).alloc _;have bE:=Qf (w:=wr) (.cells #[.int .i64 (k:Int)] 3);have a6:=Zh (Q3 aB.out aW (fun _ _ f=>f));have bT:Hid (Qr (wr.alloc (.cells #[.int .i64 (k:Int)] 3)) 1 (.slice (some ⟨wr.heap.size,0,none⟩) 1 1) 1 [.int .i64 (k:Int)]):=Zh ⟨rfl,_,1,rfl,Zf _,by unfold maxLen;omega,(fun e=>by cases e),fun _=>⟨_,0,rfl,fun j aq=>by
     rw[Nat.zero_add,Qb bE j];simp⟩⟩
    have ae:=Zh (O.out.trans aW (fun _ _ f=>f));have cU:=O.out.size;clear aW bE;go_wp2_with (at_builtin;refine QbM rfl _ _ 37 rfl w1.heap.size 3 ct (.int .i64 0) 1 8 Tryz.underlying37 ca cq cr cs rfl (by decide) _ _ _ rfl a6.out _ 1 [.int .i64 (k:Int)] rfl bT.out ?c2 ?c3 ?c4 ?c5 ?_)
    case c2=>first|rfl|(intro z bG;simp at bG;subst bG;rfl)
    case c3=>unfold maxLen;omega
    case c4=>omega
    case c5=>first|omega|(simp;omega)
    intro v2 ac an D;have bX:=Zh (ae.out.X8 D (fun j aq br=>by have:=(a6.out.lt j aq).1;omega));have bR:=Zh an;clear an D;go_wp2_with fail;exact⟨⟨k+1,by go_num,by omega,by rw[Qii,co];exact bR.out,bX.out⟩,by simp[Go.RowKit.intOf];omega⟩
   ·have ch:k=n:=by omega
    subst ch;have aP: ¬(k:Int)< (k:Int):=by omega
    have aB:=Zh N;have O:=Zh Q;clear N Q;go_wp2_with fail;go_meet
    case rel=>exact⟨aB.out,O.out⟩
 case rest=>
  obtain⟨N,Q⟩:=hcut;obtain⟨w2,rfl⟩: ∃x,x=wc:=⟨_,rfl⟩
  obtain⟨U,aS,bz,_⟩:=QD.Q7 N am.1 am.2;obtain⟨bH,rfl⟩: ∃c,u4= .slice (some ⟨U,0,none⟩) n c:=⟨_,aS.choose_spec.1⟩
  have aA:=Zh aS;have bQ:=Zh bz;have ae:=Zh Q;clear N aS bz Q;have bL:Hid (∃lab,KU w2 lab E n 0 (.slice none 0 0) (fun _=>0) (fun _=>0) (fun _=>0)/\ ∀g,g≠E->lab g=0):=Zh (by
   have cp:=bc.out.trans ae.out (fun _ _ f=>f);have Y:=bb.out.two;have b9:=a3.out;refine⟨fun g=>if g=E then 1 else 0,⟨⟨A,ae.out.keep bh.out (fun f=>f),bK.out⟩,World.ownsRow_nil _ _ _ _,fun j aq=>by omega,fun j aq=>by omega,if_pos rfl,fun g D=>(by cases D),bb.out.upd cp (fun f=>f),if_neg (by omega)⟩,fun g D=>if_neg D⟩)
  go_wp2_with fail;go_upto_block 2 with fail
  go_wp2_with fail;go_loopw [6] (fun x wr=> ∃i:Nat,x= .int .i64 i/\i<=n/\ ∃lab lv kb db pc,KU wr lab E n i lv kb db pc/\Qa (fun g=>g=E\/w2.heap.size<=g) w2 wr/\(∀g,g<w2.heap.size->g≠E->lab g=0)/\ ∀g,lv.ownBlock=some g->w2.heap.size<=g) (fun x _=>n - (Go.RowKit.intOf x).toNat)
  case atStart=>
   obtain⟨lab,M,Y⟩:=bL.out;exact⟨0,rfl,Zz _,lab,_,_,_,_,M,Zr _ _,fun g _ D=>Y g D,fun g D=>by cases D⟩
  case round=>
   obtain⟨i,rfl,cN,lab,lv,kb,db,pc,ai,aw,ar,aQ⟩:=hrel;by_cases hlt:i<n
   ·have aP:(i:Int)< (n:Int):=by omega
    have J:=Zh ai;have O:=Zh aw;have a4:=Zh ar;have bP:=Zh aQ;obtain⟨aa,ab,cm⟩:=Qr.slice (Qr.Q7 ai.places);subst cm;have a2:=Zh (Qll 16777216 wr (by omega));clear ai aw ar aQ;go_wp2_with fail;refine a2.out.mono ?_
    rintro e cz ⟨W,bY,rfl,aj,aJ,aX⟩;have aj:Has cz bY W Zy 0 (Qo Zx []):=aj;have a8:=Zh (Qhk aj Qjm (J.out.fresh aX).tab (fun e=>by have:=aJ 2 e;have:=J.out.tab.two;omega) (by omega) (by unfold Zy;omega));have cB:=Zh aj;have ba:=Zh aJ;have bd:=Zh aX;clear aj aJ aX a2;go_wp2_with fail;refine a8.out.mono ?_
    rintro e ac ⟨ay,aF,bZ,bI,cw,b2,cv,cH,cG,c7,rfl,N⟩;obtain⟨aG,aH,b8⟩:=N.mem.slice;subst b8;obtain⟨ra,c6,cn,_,_⟩:=N.Qq.slice;subst cn;have ap:=Zh N;clear N a8;unfold QC;go_upto_region 12 with fail
    have aY:Qa (fun _=>False) ac ((ac.alloc (.cells #[.int .u64 Kp.zero.t,.int .i64 (Qd Kp.zero.v)] 42)).alloc (.cells #[.int .u64 Kp.zero.bi,.int .u64 Kp.zero.bt,.slice aG Kp.zero.n aH] 44)):=((Zr _ ac).alloc _).alloc _;change Code.wp _ _ _ _ ((ac.alloc (.cells #[.int .u64 Kp.zero.t,.int .i64 (Qd Kp.zero.v)] 42)).alloc (.cells #[.int .u64 Kp.zero.bi,.int .u64 Kp.zero.bt,.slice aG Kp.zero.n aH] 44));generalize ((ac.alloc (.cells #[.int .u64 Kp.zero.t,.int .i64 (Qd Kp.zero.v)] 42)).alloc (.cells #[.int .u64 Kp.zero.bi,.int .u64 Kp.zero.bt,.slice aG Kp.zero.n aH] 44))=w5 at*
    generalize ac.heap.size=b4 at*
    have bp:=ap.out.upd;have aL:Qa (fun _=>False) wr w5:=((bd.out.mono (T:=fun g=>wr.heap.size<=g) (fun _ _ f=>f.elim)).trans ((bp.mono (T:=fun g=>wr.heap.size<=g) (fun g _ h=>ba.out g h)).trans (aY.mono (T:=fun g=>wr.heap.size<=g) (fun _ _ f=>f.elim)) (fun _ _ h=>h)) (fun _ _ h=>h)).mono (fun g D h=>by omega);have bx:QD w5 (.slice (some ⟨U,0,none⟩) n bH) n U:=(aA.out.upd O.out (fun e=>by
     have cj:U<w2.heap.size:=by
      obtain⟨b1,_,M,_,_,_,Y⟩:=aA.out;exact World.block_lt_of_cell? w2 _ (Y 0 (by omega))
     have hx1:=Ql bh.out;have:=bQ.out;omega)).upd aL (fun f=>f)
    have au: ∀g,(g=ay\/aF g)->wr.heap.size<=g:=fun g D=>by
     have cQ:=bd.out.size;rcases D with rfl|D
     ·have:=ap.out.kbn;omega
     ·rcases ap.out.sw g D with h|h
      ·exact ba.out g h
      ·omega
    have cO:U<wr.heap.size:=by
     have cj:U<w2.heap.size:=by
      obtain⟨b1,_,M,_,_,_,Y⟩:=aA.out;exact World.block_lt_of_cell? w2 _ (Y 0 (by omega))
     have:=O.out.size;omega
    have bu:KW w5 aF bZ ay bI W Zy 0 1 Zx [] Kp.zero cw b2 cv:=ap.out.kw.Qc aY;have ak:Kp.zero.restored 1 none n 1 1=(Core.first n i).kp :=QlV n i;have aO:=QlW hlt am.2;have b5:=Qct aO;have ci:(Core.first n i).kp.l.length =0:=rfl;have aU:=Qeq bu Qjm 1 none (by omega) trivial (n2:=n) (b:=1) (bt:=1) bx (by omega) (by omega) (by show 0<=1;omega) (by rw[ak];exact aO) (by rw[ak];show 1+0<=20000;omega) (by show 1+1<=QV;unfold QV;omega) (by rw[ak];show _+0<=Zy;unfold Zy;omega) (by omega) (by show 0<=20000;omega) ⟨fun e=>by have:=au U (.inl e);omega,fun e=>by have:=au U (.inr e);omega⟩;rw[ak] at aU;have a9:Hid (Calls Tryz.prog 9 #[.pointer (some ⟨ay,0,none⟩),.agg #[.int .u64 1,.int .i64 (-1)],.agg #[.int .u64 1,.int .u64 1,.slice (some ⟨U,0,none⟩) n bH]] w5 (Wq aF ay bI W Zy 0 1 Zx [] (Core.first n i).kp w5)):=Zh aU;have be:=Zh aL;have aD:=Zh au;have a1:Hid ((allB (Core.first n i).kp).size <=100):=Zh (by omega);clear aY bp aL bx au bu ak aO b5 ci aU;go_wp2_with fail;refine a9.out.mono ?_
    rintro e w6 ⟨rfl,cE,af,f,cx,cZ,cI,cX,Z⟩;obtain⟨cA,cK,ax,bk⟩:=Z.kw.wal;have bq:Has w6 af W Zy 1 (Qo Zx [f]):=by rw[<-bk];exact ax.disk
    have bn: ∀g,af g->wr.heap.size<=g/\g<w6.heap.size:=fun g D=>by
     have M:=ax.sub g D;refine⟨?_,ax.lt g M⟩;rcases Z.sw g M with h|h
     ·exact aD.out g (.inr h)
     ·have:=be.out.size;omega
    have aM:Qa (fun _=>False) wr w6:=be.out.trans Z.upd (fun g D h=>by have:=aD.out g h;omega);have aI:=J.out.fresh aM;have bN:Hid (Qax [f] 1 f.first 0):=Zh ⟨by omega,by rw[Z.cnt];show 1+1<=_;omega,by
     have M:=Z.tot;have Y:total (Qo Zx [])=0:=rfl;have cL:=a1.out;omega⟩
    have a7:Hid (ZN f.first [f] cx (Core.first n i).kp):=Zh Z.ok;have bV:=Zh Z.syn;have bM:=Zh bq;have ad:=Zh bn;have bg:=Zh aM;have ah:=Zh aI;have c9:=aI.row.c9;clear Z ax bk bq bn aM aI a9 a1 aD;obtain⟨cu,ce,cf,br,cg⟩:=info_parts QmA;have bF:=Qf (w:=w6) (.cells #[.pointer (some ⟨W,0,none⟩),.pointer none,.pointer none] 52);have aZ:Qa (fun _=>False) w6 (w6.alloc (.cells #[.pointer (some ⟨W,0,none⟩),.pointer none,.pointer none] 52)):=(Zr _ w6).alloc _;have bA:=XU ah.out.places aZ (fun _ _ f=>f);go_upto_region 15 with (at_builtin;refine wpList_append_lies _ rfl _ _ _ rfl 0 52 cu (.agg #[.pointer none,.pointer none,.pointer none]) 3 24 Tryz.underlying27 ce cf br cg (by rfl) (by omega) (.slice aa i ab) i (Xv (fun j=>QF (db j)) (fun j=>QF (kb j)) (fun j=>QF (pc j)) i) rfl bA ⟨w6.heap.size,0,none⟩ 1 1 [.pointer (some ⟨W,0,none⟩),.pointer none,.pointer none] rfl rfl (World.news_of_block bF) (by intro u Q;simp at Q;rcases Q with rfl|rfl<;>rfl) (by omega) (by unfold maxLen;omega) (by omega) (Zz _) (w6.heap.size+1) (by simp) ?_;intro I cap w7 an hgrow hat hlt7;have av:=(aZ.mono (T:=fun q=>(Value.slice aa i ab).ownBlock =some q) (fun _ _ f=>f.elim)).X8 hgrow (fun k bs _=>bs);have aC:=ah.out.row.upd av (fun e=>by have M:=ah.out.llv E e;rw[ah.out.lhb] at M;omega);have b0:=aC.c9;have b3:=aC.fr 9)
    have cR:w6.heap.size<=w7.heap.size:=av.size;have ao:Qa (fun q=>(Value.slice aa i ab).ownBlock =some q\/q=E) w6 (w7.setCell ⟨E,9,none⟩ (.slice (some ⟨I,0,none⟩) (i+1) cap)):=(av.mono (T:=fun q=>(Value.slice aa i ab).ownBlock =some q\/q=E) (fun _ _ h=>.inl h)).setCell (p:=⟨E,9,none⟩) (fun _=>.inr rfl) _;have al:((Value.slice aa i ab).ownBlock =some I/\lab I=2/\I<wr.heap.size)\/w6.heap.size<=I:=by
     rcases hat with e|e
     ·exact .inl ⟨e,J.out.llv I e,(J.out.places.lt I e).2⟩
     ·exact .inr (by omega)
    have cV:wr.heap.size<=w6.heap.size:=bg.out.size;have cM:=J.out.row.lt;have bw:E≠I:=by
     rintro rfl;rcases al with e|e
     ·have:=J.out.lhb;omega
     ·omega
    have cl:I≠2:=by
     rintro rfl;have Y:=J.out.tab.two;rcases al with e|e
     ·have:=J.out.ltab;omega
     ·omega
    have aK: ¬af I:=fun e=>by
     have:=ad.out I e;rcases al with e|e<;>omega
    have bo: ¬af E:=fun e=>by have:=ad.out E e;omega
    have bm: ¬af 2:=fun e=>by have:=ad.out 2 e;have:=J.out.tab.two;omega
    have aR: ∀q,(Value.slice aa i ab).ownBlock =some q->q<wr.heap.size/\q≠2:=fun q ag=>⟨(J.out.places.lt q ag).2,fun e=>by
     have M:=J.out.llv q ag;rw[e,J.out.ltab] at M;omega⟩
    have aV:=aC.Qqc (.slice (some ⟨I,0,none⟩) (i+1) cap);have aT:(w7.setCell ⟨E,9,none⟩ (.slice (some ⟨I,0,none⟩) (i+1) cap)).ownsRow 0 52 3 (.slice (some ⟨I,0,none⟩) (i+1) cap) (i+1) (Xv (Raft.upd (fun j=>QF (db j)) i (QF W)) (Raft.upd (fun j=>QF (kb j)) i (.pointer none)) (Raft.upd (fun j=>QF (pc j)) i (.pointer none)) (i+1)):=by
     rw[Ql6];exact XU an ((Zr (fun q=>q=E) w7).setCell (p:=⟨E,9,none⟩) (fun _=>rfl) _) (fun q ag e=>by cases ag;exact bw e.symm)
    have bv:I< (w7.setCell ⟨E,9,none⟩ (.slice (some ⟨I,0,none⟩) (i+1) cap)).heap.size :=(aT.lt I rfl).2;have aE:=Zh (Qjd aV aT (Nat.lt_succ_self i) (by omega) (Raft.upd_same _ _ _) (bM.out.upd ao (fun q ag e=>by
     have:=ad.out q ag;rcases e with e|e
     ·have:=(aR q e).1;omega
     ·omega)) a7.out (QlX hlt am.2) (ah.out.tab.upd ao (fun e=>by
     rcases e with e|e
     ·exact (aR 2 e).2 rfl
     ·have:=J.out.tab.two
      have M:=J.out.lhb;rw[<-e,J.out.ltab] at M;omega)) bm (by omega) (by unfold Zy;omega) bo aK bw cl)
    have bW:=Zh ((bg.out.mono (T:=fun q=>(Value.slice aa i ab).ownBlock =some q\/q=E) (fun _ _ f=>f.elim)).trans ao (fun _ _ h=>h));have bS:=Zh aV;have bU:Hid (∀g,af g->wr.heap.size<=g/\g< (w7.setCell ⟨E,9,none⟩ (.slice (some ⟨I,0,none⟩) (i+1) cap)).heap.size /\g≠I):=Zh (fun g D=>⟨(ad.out g D).1,Zu (ad.out g D).2 ao.size,fun e=>aK (e▸D)⟩);have a5:Hid (((Value.slice aa i ab).ownBlock =some I\/wr.heap.size<=I)/\w2.heap.size<=I):=Zh (by
     have M:=O.out.size;rcases al with e|e
     ·exact⟨.inl e.1,bP.out I e.1⟩
     ·exact⟨.inr (by omega),by omega⟩)
    have bO:=Zh bv;clear av ao aV aT bv an hgrow hat hlt7 al aK bo bm aR bF aZ bA b0 b3 c9;unfold QF at aE;generalize w7.setCell ⟨E,9,none⟩ (.slice (some ⟨I,0,none⟩) (i+1) cap)=w8 at*
    go_wp2_with fail;refine aE.out.mono ?_
    rintro e w9 ⟨rfl,cW,c1,cF,cD,cC,da,c0,cJ,cY,c8,bD⟩;obtain⟨lab',bj,t'⟩:=J.out.next bW.out a5.out.1 bO.out bD bU.out a7.out bV.out (by simp) bN.out bS.out;have az:Hid (∃lab lv kb db pc,KU w9 lab E n (i+1) lv kb db pc/\Qa (fun g=>g=E\/w2.heap.size<=g) w2 w9/\(∀g,g<w2.heap.size->g≠E->lab g=0)/\ ∀g,lv.ownBlock=some g->w2.heap.size<=g):=Zh (by
     have cT:=O.out.size;refine⟨lab',_,_,_,_,bj,O.out.trans t'.u (fun g D e=> ?_),fun g D hne=> ?_,fun g D=> ?_⟩
     ·by_cases e2:g=E
      ·exact .inl e2
      ·have:=a4.out g D e2
       have e:lab g=1\/lab g=2:=e;omega
     ·rw[t'.e g (by omega)]
      exact a4.out g D hne
     ·cases D
      exact a5.out.2)
    clear bj t' bD aE;go_wp2_with fail;exact⟨⟨i+1,by go_num,by omega,az.out⟩,by simp[Go.RowKit.intOf];omega⟩
   ·have cb:i=n:=by omega
    subst cb;have aP: ¬(i:Int)< (i:Int):=by omega
    have az:Hid (Qfq i w (.returned (.pointer (some ⟨E,0,none⟩))) wr):=Zh (by
     obtain⟨I,cap,M⟩:=ai.done am.1;have cP:=ae.out.size;have b9:=a3.out;refine⟨E,rfl,lab,kb,db,pc,I,cap,M,(bc.out.trans ae.out (fun _ _ f=>f)).trans aw (fun g D e=>by omega),fun g D=>ar g (by omega) (by omega)⟩)
    clear ai aw ar aQ;go_wp2_with fail;go_ret;exact az.out
end
end Go.Proofs.YtbleblbfadeciaaGreatDoor
